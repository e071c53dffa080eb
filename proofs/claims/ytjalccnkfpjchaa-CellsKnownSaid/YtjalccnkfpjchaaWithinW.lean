/-
  The walks of cells.Within, of the document's Within, of spoil; acreagelaw04.CellsWithin.
-/
import Derived.Test.YtjalccnkfpjchaaDeleteW
import Derived.Test.YtjalccnkfpjchaaOwnW
import Derived.Test.YtjalccnkfpjchaaWorks4W
namespace Go.Proofs.Ytjalccnkfpjchaa
open Go.RowKit Go.Sort

theorem deleteO_nil (pb : Nat) (lo hi : ByteArray) (w : World) (hp : PW pb lo hi w) :
    Calls Try.prog 50 #[.slice none 0 0, .func (.func 55) #[] #[.pointer (some ⟨pb, 0, none⟩)]] w
      fun e w' => e = .returned (.slice none 0 0) ∧ Below w.heap.size w w' := by
  have hix := Lib.hid (index_out pb lo hi none 0 0 [] w (Arr.nil _ _) (by simp) hp)
  clear hp
  have e : idxI (outC lo.toList hi.toList) [] = -1 := rfl
  rw [e] at hix
  clear e
  go_enter Try.func50, Try.ntmps50
  go_wp2_with (first | (go_at_call 66; refine (hix.out).mono ?_; rintro e w1 ⟨rfl, hb⟩; obtain ⟨hB, hS, hk⟩ := after (B := w.heap.size) (w := w) (by go_grown) (by go_size) hb; have Hw1 := Lib.hid hb; clear hb; clear hk))
  go_returns
  exact ⟨rfl, hB⟩

set_option maxHeartbeats 2000000 in
theorem within_any (ao : Option Addr) (n cap : Nat) (cs : List CellA) (lo hi : ByteArray) (w : World) (h : Cells w ao n cap cs) (hok : ∀ c ∈ cs, c.Ok) (hle : n * 64 ≤ 140737488355328) :
    Calls Try.prog 27 #[.slice ao n cap, .agg #[.string lo, .string hi]] w
      fun e w' => ∃ v, e = .returned v ∧ Own w' w.heap.size v (filtL (outC lo.toList hi.toList) cs) ∧ Below w.heap.size w w' := by
  have Hl := Lib.hid h.len
  have hcl := Lib.hid fun W hb => clone_any ao n cap cs W (Arr.below h hb) hle
  have Hok := Lib.hid hok
  clear h hok
  go_enter Try.func27, Try.ntmps27
  go_wp2_with fail
  refine (hcl.out _ ((Below.refl _ _).alloc (Nat.le_refl _) _)).mono ?_
  rintro e w1 ⟨v, rfl, hr, hb⟩
  have hz1 := hb.size
  have hp : Hid (PW w.heap.size lo hi w1) := Lib.hid (PW.below ⟨by go_simp, by go_simp, by go_size⟩ hb)
  have hbw : Below w.heap.size w w1 := ((Below.refl _ _).alloc (Nat.le_refl _) _).trans (hb.mono (by go_size))
  have hz2 := hbw.size
  have hr : Row w1 (w.heap.size + 1) 32 5 v n (cs.map cellE).flatten := hr.mono (by go_size)
  rcases hr.form with ⟨rfl, h0⟩ | ⟨g, cp, rfl, hg1, hg2, hg3, hg4⟩
  · have h0' : cs = [] := List.eq_nil_of_length_eq_zero (by rw [Hl.out]; exact h0)
    have hd := Lib.hid (deleteO_nil w.heap.size lo hi w1 hp.out)
    have hf : Hid (filtL (outC lo.toList hi.toList) cs = []) := Lib.hid (by rw [h0']; rfl)
    clear hr h0' hcl
    go_wp2_with (first | (go_at_call 50; refine (hd.out).mono ?_; rintro e w3 ⟨rfl, hb⟩; obtain ⟨hB, hS, hk⟩ := after (B := w.heap.size) (w := w) (by go_grown) (by go_size) hb; clear hb; clear hk))
    go_returns
    exact ⟨_, rfl, by rw [hf.out]; exact Row.nil _ _ _ _, hB⟩
  · have hd := Lib.hid (deleteO_any cs g cp n (w.heap.size + 1) w.heap.size lo hi w1 Hl.out hr Hok.out ⟨hp.out, by omega⟩)
    clear hr hcl
    go_wp2_with (first | (go_at_call 50; refine hd.out.mono ?_; rintro e w3 ⟨rfl, hr3, hgr3⟩; have Hr3 := Lib.hid hr3; have hB3 : Below w.heap.size w w3 := hbw.grown hgr3 hbw.size (fun k e => by cases e; omega); clear hr3 hgr3))
    go_returns
    exact ⟨_, rfl, Row.mono Hr3.out (by omega), hB3⟩

set_option maxHeartbeats 2000000 in
theorem spoil_any (v : Value) (cs : List CellA) (B : Nat) (w : World) (h : Own w B v cs) (hB : B ≤ w.heap.size) :
    Calls Try.prog 26 #[v] w fun e w' => e = .returned (.tuple #[]) ∧ Below B w w' := by
  rcases Row.form h with ⟨rfl, h0⟩ | ⟨g, cp, rfl, hg1, hg2, hg3, hg4⟩
  · go_enter Try.func26, Try.ntmps26
    go_wp2
    go_rounds 1
    go_returns
    exact ⟨rfl, Below.refl _ _⟩
  · obtain ⟨n, hn⟩ : ∃ n, n = cs.length := ⟨_, rfl⟩
    have hrow := Lib.hid h
    unfold Own at hrow
    rw [← hn] at hrow hg3 ⊢
    have hg5 := hg4
    unfold maxLen at hg5
    have Hn := Lib.hid hn
    clear h hn
    go_enter Try.func26, Try.ntmps26
    go_wp2
    go_loopw [2] (fun i wr => ∃ (k : Nat) (D : List CellA), k ≤ n ∧ i = .int .i64 k ∧ Hid (D.length = n) ∧ Hid (Row wr B 32 5 (.slice (some ⟨g, 0, none⟩) n cp) n (D.map cellE).flatten) ∧ Hid (w.grownBy wr (some g))) (fun i _ => n - (intOf i).toNat)
    case atStart => exact ⟨0, cs, by omega, rfl, Lib.hid Hn.out.symm, hrow, Lib.hid gb_row⟩
    case round =>
      obtain ⟨k, D, hk, rfl, hDl, hR, hG⟩ := hrel
      by_cases hlt : k < n
      · obtain ⟨y, hy⟩ : ∃ y, D[k]? = some y := ⟨_, List.getElem?_eq_getElem (by rw [hDl.out]; omega)⟩
        obtain ⟨y0, y1, y2, y3, y4⟩ := hR.out.cellAt hDl.out hy
        obtain ⟨fy0, fy1, fy2, fy3, fy4⟩ := hR.out.cellFree hDl.out (i := k) (by omega)
        clear hy
        go_wp2
        have hR6 := hR.out.storeC hDl.out (i := k) (by omega) ⟨⟨#[120]⟩, ⟨#[]⟩, 77, false, ⟨#[]⟩⟩
        have hG6 := gb_setC hG.out (o := k * 5) ⟨⟨#[120]⟩, ⟨#[]⟩, 77, false, ⟨#[]⟩⟩
        simp only [setC] at hR6 hG6
        exact ⟨⟨k + 1, _, by omega, by go_num, Lib.hid (by rw [List.length_set]; exact hDl.out), Lib.hid hR6, Lib.hid hG6⟩, by simp [intOf]; omega⟩
      · go_wp2
        go_returns
        exact ⟨rfl, (Below.refl _ _).grown hG.out hB (fun k e => by cases e; exact hg1)⟩

theorem own_snoc {w : World} {B : Nat} {v : Value} {l l' : List CellA} {x : CellA} (e : l' = l ++ [x]) (h : Row w B 32 5 v (l.length + 1) ((l.map cellE).flatten ++ ([x].map cellE).flatten)) : Own w B v l' := by
  subst e
  unfold Own
  rw [List.length_append, List.map_append, List.flatten_append]
  exact h
/-- does a cell lie in a range? -/
def inC (lo hi : List UInt8) (c : CellA) : Bool := !outC lo hi c
set_option maxRecDepth 100000 in
set_option maxHeartbeats 4000000 in
theorem rwithin_any (ao : Option Addr) (n cap : Nat) (cs : List CellA) (lo hi : ByteArray) (w : World) (h : Cells w ao n cap cs) (hle : n * 64 ≤ 140737488355328) :
    Calls Try.prog 28 #[.slice ao n cap, .agg #[.string lo, .string hi]] w
      fun e w' => ∃ v, e = .returned v ∧ Own w' w.heap.size v (filtL (outC lo.toList hi.toList) cs) ∧ Below w.heap.size w w' := by
  obtain ⟨i0, hi, hz0, hz1, hz2⟩ := info_parts Try.info_cell
  have Hi := Lib.hid hi
  have hl := h.len
  have hc1 := Arr.fits h
  have hc2 := Arr.max h
  unfold maxLen at hc2
  have Hl := Lib.hid hl
  have H := Lib.hid h
  have Hle := Lib.hid hle
  clear h hl hle hi
  go_enter Try.func28, Try.ntmps28
  go_wp2
  go_loopw [5, 6] (fun v i wr => ∃ k : Nat, k ≤ n ∧ i = .int .i64 k ∧ Hid (Own wr (w.heap.size + 1) v (filtL (outC lo.toList hi.toList) (cs.take k))) ∧ Below w.heap.size w wr ∧ w.heap.size < wr.heap.size ∧ wr.cell? ⟨w.heap.size, 0, none⟩ = some (.string lo) ∧ wr.cell? ⟨w.heap.size, 1, none⟩ = some (.string hi)) (fun _ i _ => n - (intOf i).toNat)
  case atStart => exact ⟨0, by omega, rfl, Lib.hid (Row.nil _ _ _ _), by go_grown, by go_size, by go_simp, by go_simp⟩
  case round =>
    obtain ⟨k, hk, rfl, hO, hB0, hzl, p0, p1⟩ := hrel
    by_cases hlt : k < n
    · obtain ⟨x, hx⟩ : ∃ x, cs[k]? = some x := ⟨_, List.getElem?_eq_getElem (by rw [Hl.out]; omega)⟩
      obtain ⟨b, off, rfl, hb, ⟨x0, x1, x2, x3, x4⟩⟩ := Cells.at_ H.out hx
      obtain ⟨k0, k0f⟩ := keep_below hB0 b hb
      have hzr := hB0.size
      have Hst := Lib.hid (filtL_succ (p := outC lo.toList hi.toList) hx)
      have hln : Hid ((filtL (outC lo.toList hi.toList) (cs.take k)).length + 1 ≤ n) := Lib.hid (by
        have := filtL_len (outC lo.toList hi.toList) (cs.take k)
        rw [List.length_take] at this; omega)
      clear hx
      have hpb : w.heap.size < wr.heap.size := hzl
      by_cases g1 : x.row.toList < lo.toList
      · have k1 : Op.bytesLess x.row.toList lo.toList = true := by rw [less_eq]; simpa using g1
        have Hv := Lib.hid (show outC lo.toList hi.toList x = true by simp [outC, g1])
        clear g1
        go_wp2
        refine wp_region_below (by kernel_rfl) (by kernel_rfl) (fun hkept => ?_)
        obtain ⟨r0, rf0⟩ := hkept (b) (by go_size); obtain ⟨r1, rf1⟩ := hkept (w.heap.size) (by go_size); clear hkept
        repeat (any_goals (first | go_big_quiet_step (fail) | quiet_step (fail) | (refine wpQuiet_step (fun K hK => ?_); go_simp; split <;> (refine hK _ ?_; clear hK K))))
        all_goals (refine wpQuiet_nil ?_; intro w5 hb; obtain ⟨hB, hS, hk⟩ := after (B := wr.heap.size) (w := wr) (by go_grown) (by go_size) hb; obtain ⟨c0, f0, z0⟩ := hk (b) (by go_size); obtain ⟨c1, f1, z1⟩ := hk (w.heap.size) (by go_size); clear hk hb r0 rf0 r1 rf1)
        go_wp2
        exact ⟨⟨k + 1, by omega, by go_num, Lib.hid (by rw [Hst.out, if_pos Hv.out]; exact hO.out.below hB), hB0.trans (hB.mono hzr), by omega, by go_simp, by go_simp⟩, by simp [intOf]; omega⟩
      · have k1 : Op.bytesLess x.row.toList lo.toList = false := by rw [less_eq]; simpa using g1
        by_cases g2 : hi.toList = []
        · have k2 : hi.toList.isEmpty = true := by simp [g2]
          have Hv := Lib.hid (show outC lo.toList hi.toList x = false by simp [outC, g1, g2])
          clear g1 g2
          go_wp2
          refine wp_region_below (by kernel_rfl) (by kernel_rfl) (fun hkept => ?_)
          obtain ⟨r0, rf0⟩ := hkept (b) (by go_size); obtain ⟨r1, rf1⟩ := hkept (w.heap.size) (by go_size); clear hkept
          repeat (any_goals (first | go_big_quiet_step (fail) | quiet_step (fail) | (refine wpQuiet_step (fun K hK => ?_); go_simp; split <;> (refine hK _ ?_; clear hK K))))
          all_goals (refine wpQuiet_nil ?_; intro w5 hb; obtain ⟨hB, hS, hk⟩ := after (B := wr.heap.size) (w := wr) (by go_grown) (by go_size) hb; obtain ⟨c0, f0, z0⟩ := hk (b) (by go_size); obtain ⟨c1, f1, z1⟩ := hk (w.heap.size) (by go_size); clear hk hb r0 rf0 r1 rf1)
          have hO5 := Lib.hid (hO.out.below hB)
          have hB5 := hB0.trans (hB.mono hzr)
          go_wp2_with (at_builtin; refine wpList_append_arr _ rfl _ _ 22 rfl (w.heap.size + 1) 32 i0 _ 5 64 Try.underlying22 Hi.out hz0 hz1 hz2 rfl (by decide) u5 _ _ rfl (Row.alloc hO5.out _) rfl (cells_new w5 _ [x] _ 1 _ rfl rfl (by decide) rfl) (by have := hln.out; have := Hle.out; omega) (by have := hln.out; have := Hle.out; unfold maxLen; omega) (by rw [World.size_alloc]; omega) ?_; intro v1 w6 hr6 hb6 hg6; have HR6 := Lib.hid hr6; have hB6 := hB5.trans (((Below.refl _ _).alloc hB5.size _).trans (hb6.mono (Nat.le_succ _))); have hz6 : w.heap.size < w6.heap.size := (by have := hb6.size; simp only [World.size_alloc] at this; omega); obtain ⟨r0, rf0⟩ := keep_below hb6 w.heap.size (Nat.lt_succ_self _); clear hr6 hb6 hg6)
          exact ⟨⟨k + 1, by omega, by go_num, Lib.hid (own_snoc (by rw [Hst.out, if_neg (by rw [Hv.out]; decide)]) HR6.out), hB6, hz6, by rw [r0]; go_simp, by rw [r0]; go_simp⟩, by simp [intOf]; omega⟩
        · have k2 : hi.toList.isEmpty = false := by simp [g2]
          by_cases g3 : x.row.toList < hi.toList
          · have k3 : Op.bytesLess x.row.toList hi.toList = true := by rw [less_eq]; simpa using g3
            have Hv := Lib.hid (show outC lo.toList hi.toList x = false by simp [outC, g1, g3])
            clear g1 g2 g3
            go_wp2
            refine wp_region_below (by kernel_rfl) (by kernel_rfl) (fun hkept => ?_)
            obtain ⟨r0, rf0⟩ := hkept (b) (by go_size); obtain ⟨r1, rf1⟩ := hkept (w.heap.size) (by go_size); clear hkept
            repeat (any_goals (first | go_big_quiet_step (fail) | quiet_step (fail) | (refine wpQuiet_step (fun K hK => ?_); go_simp; split <;> (refine hK _ ?_; clear hK K))))
            all_goals (refine wpQuiet_nil ?_; intro w5 hb; obtain ⟨hB, hS, hk⟩ := after (B := wr.heap.size) (w := wr) (by go_grown) (by go_size) hb; obtain ⟨c0, f0, z0⟩ := hk (b) (by go_size); obtain ⟨c1, f1, z1⟩ := hk (w.heap.size) (by go_size); clear hk hb r0 rf0 r1 rf1)
            have hO5 := Lib.hid (hO.out.below hB)
            have hB5 := hB0.trans (hB.mono hzr)
            go_wp2_with (at_builtin; refine wpList_append_arr _ rfl _ _ 22 rfl (w.heap.size + 1) 32 i0 _ 5 64 Try.underlying22 Hi.out hz0 hz1 hz2 rfl (by decide) u5 _ _ rfl (Row.alloc hO5.out _) rfl (cells_new w5 _ [x] _ 1 _ rfl rfl (by decide) rfl) (by have := hln.out; have := Hle.out; omega) (by have := hln.out; have := Hle.out; unfold maxLen; omega) (by rw [World.size_alloc]; omega) ?_; intro v1 w6 hr6 hb6 hg6; have HR6 := Lib.hid hr6; have hB6 := hB5.trans (((Below.refl _ _).alloc hB5.size _).trans (hb6.mono (Nat.le_succ _))); have hz6 : w.heap.size < w6.heap.size := (by have := hb6.size; simp only [World.size_alloc] at this; omega); obtain ⟨r0, rf0⟩ := keep_below hb6 w.heap.size (Nat.lt_succ_self _); clear hr6 hb6 hg6)
            exact ⟨⟨k + 1, by omega, by go_num, Lib.hid (own_snoc (by rw [Hst.out, if_neg (by rw [Hv.out]; decide)]) HR6.out), hB6, hz6, by rw [r0]; go_simp, by rw [r0]; go_simp⟩, by simp [intOf]; omega⟩
          · have k3 : Op.bytesLess x.row.toList hi.toList = false := by rw [less_eq]; simpa using g3
            have Hv := Lib.hid (show outC lo.toList hi.toList x = true by simp [outC, g2, g3])
            clear g1 g2 g3
            go_wp2
            refine wp_region_below (by kernel_rfl) (by kernel_rfl) (fun hkept => ?_)
            obtain ⟨r0, rf0⟩ := hkept (b) (by go_size); obtain ⟨r1, rf1⟩ := hkept (w.heap.size) (by go_size); clear hkept
            repeat (any_goals (first | go_big_quiet_step (fail) | quiet_step (fail) | (refine wpQuiet_step (fun K hK => ?_); go_simp; split <;> (refine hK _ ?_; clear hK K))))
            all_goals (refine wpQuiet_nil ?_; intro w5 hb; obtain ⟨hB, hS, hk⟩ := after (B := wr.heap.size) (w := wr) (by go_grown) (by go_size) hb; obtain ⟨c0, f0, z0⟩ := hk (b) (by go_size); obtain ⟨c1, f1, z1⟩ := hk (w.heap.size) (by go_size); clear hk hb r0 rf0 r1 rf1)
            go_wp2
            exact ⟨⟨k + 1, by omega, by go_num, Lib.hid (by rw [Hst.out, if_pos Hv.out]; exact hO.out.below hB), hB0.trans (hB.mono hzr), by omega, by go_simp, by go_simp⟩, by simp [intOf]; omega⟩
    · obtain rfl : k = n := by omega
      have hall : cs.take k = cs := List.take_of_length_le (by rw [Hl.out]; omega)
      have hO' := hO.out
      rw [hall] at hO'
      have HO := Lib.hid hO'
      clear hO' hall
      go_wp2
      go_returns
      exact ⟨_, rfl, Row.mono HO.out (Nat.le_succ _), hB0⟩
end Go.Proofs.Ytjalccnkfpjchaa
