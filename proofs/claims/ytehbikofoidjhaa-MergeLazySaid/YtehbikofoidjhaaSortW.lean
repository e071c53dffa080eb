/-
  The walks of slices.SortStableFunc on at most twenty cells, slices.CompactFunc, slices.Clone; of cells.Sort.
-/
import Derived.Test.YtehbikofoidjhaaSortPlain
import Derived.RegionTactic
import Derived.BigRegion
namespace Go.Proofs.Ytehbikofoidjhaa
open Go.RowKit Go.Sort

/-- The comparison value of cells.Sort: chain(keys.Cmp). -/
structure OrderAt (w : World) (gb gs : Nat) : Prop where
  c0 : w.cell? ⟨gb, 0, none⟩ = some (.slice (some ⟨gs, 0, none⟩) 1 1)
  c1 : w.cell? ⟨gs, 0, none⟩ = some (.func (.func 32) #[] #[])
  l0 : gb < w.heap.size
  l1 : gs < w.heap.size

set_option maxHeartbeats 1000000 in
theorem order_any (a b : CellA) (gb gs : Nat) (w : World) (h : OrderAt w gb gs) :
    Calls Try.prog 62 #[a.v, b.v, .pointer (some ⟨gb, 0, none⟩)] w fun e w' => e = .returned (.int .i64 (cmpC a b)) ∧ Below w.heap.size w w' := by
  obtain ⟨c0, c1, l0, l1⟩ := h
  have hcm := Lib.hid fun W => cmp_any a b W
  obtain ⟨z, hz⟩ : ∃ z, cmpC a b = z := ⟨_, rfl⟩
  rw [hz] at hcm ⊢
  clear hz
  obtain ⟨ar, ac, av, ag, al⟩ := a
  obtain ⟨br, bc, bv, bg, bl⟩ := b
  simp only [CellA.v] at hcm ⊢
  by_cases hz : z = 0
  · subst hz
    go_enter Try.func62, Try.ntmps62
    go_wp2
    refine wp_loop_rounds 2 ?_
    rw [rounds_succ]
    go_wp2_with (first | (go_at_call 32; refine (hcm.out _).mono ?_; rintro e w1 ⟨rfl, hb⟩; obtain ⟨hB, hS, hk⟩ := after (B := w.heap.size) (w := w) (by go_grown) (by go_size) hb; clear hb; obtain ⟨c0, f0, z0⟩ := hk (w.heap.size) (by go_size); obtain ⟨c1, f1, z1⟩ := hk (w.heap.size + 1) (by go_size); obtain ⟨c2, f2, z2⟩ := hk (gb) (by go_size); obtain ⟨c3, f3, z3⟩ := hk (gs) (by go_size); clear hk))
    rw [rounds_succ]
    go_wp2
    go_returns
    exact ⟨rfl, by go_grown⟩
  · have hz1 : (z != 0) = true := by simpa using hz
    clear hz
    go_enter Try.func62, Try.ntmps62
    go_wp2
    refine wp_loop_rounds 2 ?_
    rw [rounds_succ]
    go_wp2_with (first | (go_at_call 32; refine (hcm.out _).mono ?_; rintro e w1 ⟨rfl, hb⟩; obtain ⟨hB, hS, hk⟩ := after (B := w.heap.size) (w := w) (by go_grown) (by go_size) hb; clear hb; obtain ⟨c0, f0, z0⟩ := hk (w.heap.size) (by go_size); obtain ⟨c1, f1, z1⟩ := hk (w.heap.size + 1) (by go_size); obtain ⟨c2, f2, z2⟩ := hk (gb) (by go_size); obtain ⟨c3, f3, z3⟩ := hk (gs) (by go_size); clear hk))
    go_returns
    exact ⟨rfl, by go_grown⟩

theorem OrderAt.grown {w w' : World} {gb gs g : Nat} (h : OrderAt w gb gs) (hg : w.grownBy w' (some g)) (h1 : gb ≠ g) (h2 : gs ≠ g) : OrderAt w' gb gs :=
  ⟨hg.cell h.c0 (fun e => h1 (Option.some.inj e)), hg.cell h.c1 (fun e => h2 (Option.some.inj e)), by have := hg.size; have := h.l0; omega, by have := hg.size; have := h.l1; omega⟩
theorem OrderAt.below {w w' : World} {gb gs : Nat} (h : OrderAt w gb gs) (hb : Below w.heap.size w w') : OrderAt w' gb gs :=
  ⟨(hb.cell (p := ⟨gb, 0, none⟩) h.l0).trans h.c0, (hb.cell (p := ⟨gs, 0, none⟩) h.l1).trans h.c1, by have := hb.size; have := h.l0; omega, by have := hb.size; have := h.l1; omega⟩
theorem gb_trans {a b c : World} {g : Nat} (h : a.grownBy b (some g)) (k : b.grownBy c (some g)) : a.grownBy c (some g) :=
  ⟨k.os.trans h.os, k.tape.trans h.tape, k.output.trans h.output, Nat.le_trans h.size k.size, fun i hi hne => (k.block i (by have := h.size; omega) hne).trans (h.block i hi hne)⟩
theorem gb_below {a b c : World} {g : Nat} (h : a.grownBy b (some g)) (k : Below b.heap.size b c) : a.grownBy c (some g) :=
  gb_trans h ⟨k.os, k.tape, k.output, k.size, fun i hi _ => k.block i hi⟩
theorem gb_set {a b : World} {g j : Nat} (h : a.grownBy b (some g)) (v : Value) : a.grownBy (b.setCell ⟨g, j, none⟩ v) (some g) :=
  gb_trans h ⟨rfl, rfl, rfl, by simp, fun i _ hne => Below.heap_setCell _ _ _ _ (fun e => hne (by simp [e]))⟩
theorem gb_drew {a b : World} {g : Nat} (h : a.grownBy b (some g)) : a.grownBy b.drew (some g) := gb_below h ((Below.refl _ _).drew)

/-- one cell of a row of cells -/
theorem Row.cellAt {w : World} {B : Nat} {T : TypeId} {g n cap : Nat} {cs : List CellA} (h : Row w B T 5 (.slice (some ⟨g, 0, none⟩) n cap) n (cs.map cellE).flatten) (hl : cs.length = n) {i : Nat} {c : CellA} (hc : cs[i]? = some c) : CellAt w g (i * 5) c := by
  have hi := (List.getElem?_eq_some_iff.1 hc).1
  have key : ∀ j u, (cellE c)[j]? = some u → j < 5 → w.cell? ⟨g, i * 5 + j, none⟩ = some u := fun j u hu hj => by
    rw [h.cell _ (by omega)]
    exact flatten_get (size := 5) (cellE_elems cs).len i (cellE c) (by simp [hc]) j u hu
  exact ⟨key 0 _ rfl (by omega), key 1 _ rfl (by omega), key 2 _ rfl (by omega), key 3 _ rfl (by omega), key 4 _ rfl (by omega)⟩
theorem Row.cellFree {w : World} {B : Nat} {T : TypeId} {g n cap : Nat} {cs : List CellA} (h : Row w B T 5 (.slice (some ⟨g, 0, none⟩) n cap) n (cs.map cellE).flatten) (hl : cs.length = n) {i : Nat} (hi : i < n) :
    w.frozen? ⟨g, i * 5, none⟩ = false ∧ w.frozen? ⟨g, i * 5 + 1, none⟩ = false ∧ w.frozen? ⟨g, i * 5 + 2, none⟩ = false ∧ w.frozen? ⟨g, i * 5 + 3, none⟩ = false ∧ w.frozen? ⟨g, i * 5 + 4, none⟩ = false :=
  ⟨h.free (by omega), h.free (by omega), h.free (by omega), h.free (by omega), h.free (by omega)⟩
/-- a cell stored into a row -/
def setC (w : World) (g o : Nat) (c : CellA) : World :=
  ((((w.setCell ⟨g, o, none⟩ (.string c.row)).setCell ⟨g, o + 1, none⟩ (.string c.col)).setCell ⟨g, o + 2, none⟩ (.int .u64 c.ver)).setCell ⟨g, o + 3, none⟩ (.bool c.gone)).setCell ⟨g, o + 4, none⟩ (.string c.val)
theorem Row.storeC {w : World} {B : Nat} {T : TypeId} {g n cap : Nat} {cs : List CellA} (h : Row w B T 5 (.slice (some ⟨g, 0, none⟩) n cap) n (cs.map cellE).flatten) (hl : cs.length = n) {i : Nat} (hi : i < n) (c : CellA) :
    Row (setC w g (i * 5) c) B T 5 (.slice (some ⟨g, 0, none⟩) n cap) n ((cs.set i c).map cellE).flatten := by
  have := ((((h.store (k := 0) (j := i * 5) (by omega) (.string c.row)).store (k := 0) (j := i * 5 + 1) (by omega) (.string c.col)).store (k := 0) (j := i * 5 + 2) (by omega) (.int .u64 c.ver)).store (k := 0) (j := i * 5 + 3) (by omega) (.bool c.gone)).store (k := 0) (j := i * 5 + 4) (by omega) (.string c.val)
  rw [flatten_set5 _ (cellE_elems cs).len i _ _ _ _ _ (by simpa [hl] using hi)] at this
  rw [List.map_set]
  exact this
theorem gb_setC {a b : World} {g o : Nat} (h : a.grownBy b (some g)) (c : CellA) : a.grownBy (setC b g o c) (some g) := gb_set (gb_set (gb_set (gb_set (gb_set h _) _) _) _) _
theorem gb_row {a : World} {g : Nat} : a.grownBy a (some g) := World.grownBy.refl a _

set_option maxRecDepth 100000 in
set_option maxHeartbeats 4000000 in
theorem insertion_any (pre seg suf : List CellA) (g cap n a b gb gs B : Nat) (w : World) (ha : pre.length = a) (hb : a + seg.length = b) (hn : (pre ++ seg ++ suf).length = n)
    (hrow : Row w B 37 5 (.slice (some ⟨g, 0, none⟩) n cap) n ((pre ++ seg ++ suf).map cellE).flatten) (ho : OrderAt w gb gs) (h1 : gb ≠ g) (h2 : gs ≠ g) (hle : n ≤ 1000000) :
    Calls Try.prog 68 #[.slice (some ⟨g, 0, none⟩) n cap, .int .i64 a, .int .i64 b, .func (.func 62) #[] #[.pointer (some ⟨gb, 0, none⟩)]] w
      fun e w' => e = .returned (.tuple #[]) ∧ Row w' B 37 5 (.slice (some ⟨g, 0, none⟩) n cap) n ((pre ++ isort seg ++ suf).map cellE).flatten ∧ w.grownBy w' (some g) := by
  have hbn : b ≤ n := by rw [← hn, ← hb, ← ha]; simp
  have hncap : n ≤ cap ∧ cap ≤ maxLen := by
    rcases hrow.form with ⟨h, _⟩ | ⟨g', c', h, _, _, q1, q2⟩
    · cases h
    · cases h; exact ⟨q1, q2⟩
  obtain ⟨hc1, hc2⟩ := hncap
  unfold maxLen at hc2
  have Hrow := Lib.hid hrow
  have Ho := Lib.hid ho
  have Ha := Lib.hid ha
  have Hb := Lib.hid hb
  have Hn := Lib.hid hn
  have hab : a ≤ b := by omega
  clear hrow ho ha hb hn
  go_enter Try.func68, Try.ntmps68
  go_wp2
  go_loopw [8, 9] (fun i _ wr => ∃ k p : Nat, Hid (p = a + k) ∧ 1 ≤ k ∧ p ≤ b + 1 ∧ i = .int .i64 p ∧ Hid (Row wr B 37 5 (.slice (some ⟨g, 0, none⟩) n cap) n ((pre ++ ((isR (seg.take k)).reverse ++ seg.drop k) ++ suf).map cellE).flatten) ∧ Hid (OrderAt wr gb gs) ∧ Hid (w.grownBy wr (some g))) (fun i _ _ => b + 1 - (intOf i).toNat)
  case atStart =>
    refine ⟨1, a + 1, Lib.hid rfl, Nat.le_refl _, by omega, by go_num, Lib.hid ?_, Ho, Lib.hid gb_row⟩
    cases seg with
    | nil => exact Hrow.out
    | cons x r => exact Hrow.out
  case round =>
    obtain ⟨k, p, hp, hk, hpb, rfl, hR, hO, hG⟩ := hrel
    by_cases hlt : p < b
    · obtain ⟨x, hx⟩ : ∃ x, seg[k]? = some x := ⟨_, List.getElem?_eq_getElem (by have := Hb.out; have := hp.out; omega)⟩
      have hkm : k < seg.length := (List.getElem?_eq_some_iff.1 hx).1
      obtain ⟨r, hr⟩ : ∃ r, r = isR (seg.take k) := ⟨_, rfl⟩
      obtain ⟨t, ht⟩ : ∃ t, t = seg.drop (k + 1) ++ suf := ⟨_, rfl⟩
      have Hrl : Hid (r.length = k) := Lib.hid (by rw [hr, isR_len, List.length_take]; omega)
      have HD0 : Hid (pre ++ ((isR (seg.take k)).reverse ++ seg.drop k) ++ suf = pre ++ mid x r t 0) := Lib.hid (by
        obtain ⟨_, hx2⟩ := List.getElem?_eq_some_iff.1 hx
        rw [mid_start, hr, ht, List.drop_eq_getElem_cons hkm, hx2]; simp)
      have HDn : Hid (∀ q, q ≤ k → (pre ++ mid x r t q).length = n) := Lib.hid (fun q hq => by
        have h1 := Hn.out
        have h2 := Hrl.out
        rw [List.length_append, mid_len, ht]
        simp only [List.length_append, List.length_drop] at h1 ⊢
        omega)
      have HDe : Hid (pre ++ ((isR (seg.take (k + 1))).reverse ++ seg.drop (k + 1)) ++ suf = pre ++ ((insR x r).reverse ++ t)) := Lib.hid (by
        rw [show seg.take (k + 1) = seg.take k ++ [x] by rw [List.take_add_one, hx]; rfl, isR_snoc, hr, ht]; simp)
      have HR0 : Hid (Row wr B 37 5 (.slice (some ⟨g, 0, none⟩) n cap) n ((pre ++ mid x r t 0).map cellE).flatten) := Lib.hid (by rw [← HD0.out]; exact hR.out)
      clear hR hx hr ht HD0
      go_wp2
      obtain ⟨wo, rfl⟩ : ∃ wo : World, wo = wr := ⟨_, rfl⟩
      go_loopw [9] (fun j wr => ∃ q J : Nat, q ≤ k ∧ Hid (J + q = p) ∧ J ≤ p ∧ j = .int .i64 J ∧ Hid (Ahead x r q) ∧ Hid (Row wr B 37 5 (.slice (some ⟨g, 0, none⟩) n cap) n ((pre ++ mid x r t q).map cellE).flatten) ∧ Hid (OrderAt wr gb gs) ∧ Hid (w.grownBy wr (some g))) (fun j _ => (intOf j).toNat)
      case atStart => exact ⟨0, p, by omega, Lib.hid (by omega), Nat.le_refl _, rfl, Lib.hid (Ahead.zero x r), HR0, hO, hG⟩
      case round =>
        obtain ⟨q, J, hq, hJ, hJp, rfl, hA, hR, hO2, hG2⟩ := hrel
        by_cases hja : a < J
        · have hqk : q < k := by have := hJ.out; have := hp.out; omega
          obtain ⟨y, hy⟩ : ∃ y, r[q]? = some y := ⟨_, List.getElem?_eq_getElem (by have := Hrl.out; omega)⟩
          obtain ⟨J', rfl⟩ : ∃ J', J = J' + 1 := ⟨J - 1, by omega⟩
          have hJ'n : J' + 1 < n := by omega
          have hix : (pre ++ mid x r t q)[J' + 1]? = some x := by
            have := mid_x x r t q (by have := Hrl.out; omega)
            rw [List.getElem?_append_right (by have := Ha.out; omega), ← this]
            congr 1; have := Ha.out; have := Hrl.out; have := hJ.out; have := hp.out; omega
          have hiy : (pre ++ mid x r t q)[J']? = some y := by
            have := mid_y (x := x) (t := t) hy
            rw [List.getElem?_append_right (by have := Ha.out; omega), ← this]
            congr 1; have := Ha.out; have := Hrl.out; have := hJ.out; have := hp.out; omega
          have hln := HDn.out q (by omega)
          obtain ⟨x0, x1, x2, x3, x4⟩ := hR.out.cellAt hln hix
          obtain ⟨y0, y1, y2, y3, y4⟩ := hR.out.cellAt hln hiy
          obtain ⟨fx0, fx1, fx2, fx3, fx4⟩ := hR.out.cellFree hln hJ'n
          obtain ⟨fy0, fy1, fy2, fy3, fy4⟩ := hR.out.cellFree hln (i := J') (by omega)
          have hcm := Lib.hid fun W h => order_any x y gb gs W h
          obtain ⟨z, hz⟩ : ∃ z, cmpC x y = z := ⟨_, rfl⟩
          rw [hz] at hcm
          have Hz := Lib.hid hz
          have Hy := Lib.hid hy
          have hln := Lib.hid hln
          clear hz hy hix hiy
          by_cases hneg : z < 0
          · have hneg1 : decide (z < 0) = true := by simpa using hneg
            have hjd : decide ((a : Int) < (J' : Int) + 1) = true := by simp; omega
            have hgl : g < wr.heap.size := World.block_lt_of_cell? _ _ x0
            go_wp2
            refine wp_region_below (by kernel_rfl) (by kernel_rfl) (fun hkept => ?_)
            obtain ⟨r0, rf0⟩ := hkept (g) (by go_size); clear hkept
            repeat (any_goals (first | go_big_quiet_step (first | (go_at_call 62; exact Calls.regrown_of (hcm.out _ (hO2.out.below (below_regrown _ _ _))))) | quiet_step (first | (go_at_call 62; exact Calls.regrown_of (hcm.out _ (hO2.out.below (below_regrown _ _ _))))) | (refine wpQuiet_step (fun K hK => ?_); go_simp; split <;> (refine hK _ ?_; clear hK K))))
            all_goals (refine wpQuiet_nil ?_; intro w5 hb; obtain ⟨hB, hS, hk⟩ := after (B := wr.heap.size) (w := wr) (by go_grown) (by go_size) hb; obtain ⟨c0, f0, z0⟩ := hk (g) (by go_size); clear hk hb r0 rf0)
            go_wp2
            go_region
            go_wp2
            have hR5 := (hR.out.below hB).storeC hln.out (i := J' + 1) hJ'n y
            have hR6 := (hR5.storeC (by rw [List.length_set]; exact hln.out) (i := J') (by omega) x).drew
            have hsw : ((pre ++ mid x r t q).set (J' + 1) y).set J' x = pre ++ mid x r t (q + 1) := by
              have e1 : J' + 1 = pre.length + (r.length - q) := by have := Ha.out; have := Hrl.out; have := hJ.out; have := hp.out; omega
              have e2 : J' = pre.length + (r.length - q - 1) := by have := Ha.out; have := Hrl.out; have := hJ.out; have := hp.out; omega
              rw [e1, List.set_append_right _ _ (by omega), Nat.add_sub_cancel_left, e2, List.set_append_right _ _ (by omega), Nat.add_sub_cancel_left, mid_swap Hy.out]
            rw [hsw] at hR6
            have hG6 := gb_drew (gb_setC (gb_setC (gb_below hG2.out hB) (o := (J' + 1) * 5) y) (o := J' * 5) x)
            simp only [setC] at hR6 hG6
            exact ⟨⟨q + 1, J', by omega, Lib.hid (by have := hJ.out; omega), by omega, by go_num, Lib.hid (hA.out.succ Hy.out (by rw [Hz.out]; exact hneg)), Lib.hid hR6, Lib.hid (Ho.out.grown hG6 h1 h2), Lib.hid hG6⟩, by simp [intOf]⟩
          · have hneg1 : decide (z < 0) = false := by simpa using hneg
            have hjd : decide ((a : Int) < (J' : Int) + 1) = true := by simp; omega
            have hgl : g < wr.heap.size := World.block_lt_of_cell? _ _ x0
            have Hend := Lib.hid (mid_end (t := t) hA.out (fun y' hy' => by rw [Hy.out] at hy'; obtain rfl := Option.some.inj hy'; rw [Hz.out]; exact hneg))
            go_wp2
            refine wp_region_below (by kernel_rfl) (by kernel_rfl) (fun hkept => ?_)
            obtain ⟨r0, rf0⟩ := hkept (g) (by go_size); clear hkept
            repeat (any_goals (first | go_big_quiet_step (first | (go_at_call 62; exact Calls.regrown_of (hcm.out _ (hO2.out.below (below_regrown _ _ _))))) | quiet_step (first | (go_at_call 62; exact Calls.regrown_of (hcm.out _ (hO2.out.below (below_regrown _ _ _))))) | (refine wpQuiet_step (fun K hK => ?_); go_simp; split <;> (refine hK _ ?_; clear hK K))))
            all_goals (refine wpQuiet_nil ?_; intro w5 hb; obtain ⟨hB, hS, hk⟩ := after (B := wr.heap.size) (w := wr) (by go_grown) (by go_size) hb; obtain ⟨c0, f0, z0⟩ := hk (g) (by go_size); clear hk hb r0 rf0)
            go_wp2
            have hp2 := hp.out
            exact ⟨⟨k + 1, p + 1, Lib.hid (by omega), by omega, by omega, by go_num, Lib.hid (by rw [HDe.out, ← Hend.out]; exact hR.out.below hB), Lib.hid (hO2.out.below hB), Lib.hid (gb_below hG2.out hB)⟩, by simp [intOf]; omega⟩
        · obtain rfl : q = k := by have := hJ.out; have := hp.out; omega
          have hjd : decide ((a : Int) < (J : Int)) = false := by simp; omega
          have Hend := Lib.hid (mid_end (t := t) hA.out (fun y' hy' => by have := (List.getElem?_eq_some_iff.1 hy').1; have := Hrl.out; omega))
          go_wp2
          refine wp_region_below (by kernel_rfl) (by kernel_rfl) (fun hkept => ?_)
          clear hkept
          repeat (any_goals (first | go_big_quiet_step (fail) | quiet_step (fail) | (refine wpQuiet_step (fun K hK => ?_); go_simp; split <;> (refine hK _ ?_; clear hK K))))
          all_goals (refine wpQuiet_nil ?_; intro w5 hb; obtain ⟨hB, hS, hk⟩ := after (B := wr.heap.size) (w := wr) (by go_grown) (by go_size) hb; clear hk hb)
          go_wp2
          have hp2 := hp.out
          exact ⟨⟨q + 1, p + 1, Lib.hid (by omega), by omega, by omega, by go_num, Lib.hid (by rw [HDe.out, ← Hend.out]; exact hR.out.below hB), Lib.hid (hO2.out.below hB), Lib.hid (gb_below hG2.out hB)⟩, by simp [intOf]; omega⟩
    · have hend : (pre ++ ((isR (seg.take k)).reverse ++ seg.drop k) ++ suf) = pre ++ isort seg ++ suf := by
        have h1 := hp.out
        have h2 := Hb.out
        by_cases hk2 : seg.length ≤ k
        · rw [List.take_of_length_le hk2, List.drop_eq_nil_of_le hk2, List.append_nil]; rfl
        · have h0 : seg.length = 0 := by omega
          omega
      have Hend := Lib.hid hend
      clear hend
      go_wp2
      go_returns
      exact ⟨rfl, by rw [← Hend.out]; exact hR.out, hG.out⟩

set_option maxHeartbeats 1000000 in
theorem stable_small (cs : List CellA) (g cap n gb gs B : Nat) (w : World) (hn : cs.length = n) (hle : n < 20)
    (hrow : Row w B 37 5 (.slice (some ⟨g, 0, none⟩) n cap) n (cs.map cellE).flatten) (ho : OrderAt w gb gs) (h1 : gb ≠ g) (h2 : gs ≠ g) :
    Calls Try.prog 63 #[.slice (some ⟨g, 0, none⟩) n cap, .int .i64 n, .func (.func 62) #[] #[.pointer (some ⟨gb, 0, none⟩)]] w
      fun e w' => e = .returned (.tuple #[]) ∧ Row w' B 37 5 (.slice (some ⟨g, 0, none⟩) n cap) n ((isort cs).map cellE).flatten ∧ w.grownBy w' (some g) := by
  have hins := insertion_any [] cs [] g cap n 0 n gb gs B w rfl (by omega) (by simpa using hn) (by simpa using hrow) ho h1 h2 (by omega)
  simp only [List.nil_append, List.append_nil] at hins
  have Hins := Lib.hid hins
  clear hrow ho hn hins
  go_enter Try.func63, Try.ntmps63
  go_wp2
  refine wp_loop_rounds 1 ?_
  rw [rounds_succ]
  go_wp2_with (go_at_call 68; refine Hins.out.mono ?_; rintro e w1 ⟨rfl, hr, hg⟩; have Hr := Lib.hid hr; have Hg := Lib.hid hg; clear hr hg)
  refine wp_loop_rounds 1 ?_
  rw [rounds_succ]
  go_wp2
  go_returns
  exact ⟨rfl, Hr.out, Hg.out⟩

set_option maxHeartbeats 1000000 in
theorem sortStable_small (cs : List CellA) (g cap n gb gs B : Nat) (w : World) (hn : cs.length = n) (hle : n < 20)
    (hrow : Row w B 37 5 (.slice (some ⟨g, 0, none⟩) n cap) n (cs.map cellE).flatten) (ho : OrderAt w gb gs) (h1 : gb ≠ g) (h2 : gs ≠ g) :
    Calls Try.prog 47 #[.slice (some ⟨g, 0, none⟩) n cap, .func (.func 62) #[] #[.pointer (some ⟨gb, 0, none⟩)]] w
      fun e w' => e = .returned (.tuple #[]) ∧ Row w' B 37 5 (.slice (some ⟨g, 0, none⟩) n cap) n ((isort cs).map cellE).flatten ∧ w.grownBy w' (some g) := by
  have Hins := Lib.hid (stable_small cs g cap n gb gs B w hn hle hrow ho h1 h2)
  clear hrow ho hn
  go_enter Try.func47, Try.ntmps47
  go_wp2_with (go_at_call 63; refine Hins.out.mono ?_; rintro e w1 ⟨rfl, hr, hg⟩; have Hr := Lib.hid hr; have Hg := Lib.hid hg; clear hr hg)
  go_returns
  exact ⟨rfl, Hr.out, Hg.out⟩

/-! ### slices.Clone -/
theorem heap_new (w : World) (o : Obj) : (w.alloc o).heap[w.heap.size]? = some o := by
  show (w.heap.push o)[w.heap.size]? = _
  simp
theorem Try.info_cell : (Try.prog.info? 37).map (fun i => (i.zero, i.size, i.bytes)) = some (some (.agg #[.string ⟨#[]⟩, .string ⟨#[]⟩, .int .u64 0, .bool false, .string ⟨#[]⟩]), 5, 64) := by kernel_rfl

set_option maxHeartbeats 1000000 in
theorem clone_any (ao : Option Addr) (n cap : Nat) (cs : List CellA) (w : World) (h : Cells w ao n cap cs) (hle : n * 64 ≤ 140737488355328) :
    Calls Try.prog 40 #[.slice ao n cap] w fun e w' => ∃ v, e = .returned v ∧ Row w' w.heap.size 37 5 v n (cs.map cellE).flatten ∧ Below w.heap.size w w' := by
  have hl := h.len
  have hcap := Arr.fits h
  have hmax := Arr.max h
  unfold maxLen at hmax
  obtain ⟨i0, hi, hz0, hz1, hz2⟩ := info_parts Try.info_cell
  have H := Lib.hid h
  clear h
  cases ao with
  | none =>
    have h0 : n = 0 := by
      rcases Nat.eq_zero_or_pos n with h | h
      · exact h
      · obtain ⟨_, _, e, _⟩ := Arr.base H.out h; cases e
    subst h0
    obtain rfl := List.eq_nil_of_length_eq_zero hl
    have hnil := fun w => Lib.run_eql_slice_nil (P := Try.prog) w 29 37 none 0 cap 0 0 Try.underlying29
    go_enter Try.func40, Try.ntmps40
    go_wp2
    go_returns
    exact ⟨_, rfl, Row.nil _ _ _ _, Below.refl _ _⟩
  | some a =>
    have hnil := fun w => Lib.run_eql_slice_nil (P := Try.prog) w 29 37 (some a) n cap 0 0 Try.underlying29
    have hr0 : Row (w.alloc (.cells #[] 37)) w.heap.size 37 5 (.slice (some ⟨w.heap.size, 0, none⟩) 0 0) 0 [] :=
      ⟨rfl, .inr ⟨w.heap.size, 0, #[], (0, 0), rfl, Nat.le_refl _, heap_new _ _, .inl rfl, Nat.le_refl _, by unfold maxLen; omega, rfl, rfl⟩⟩
    have Hr0 := Lib.hid hr0
    clear hr0
    go_enter Try.func40, Try.ntmps40
    go_wp2_with (at_builtin; refine wpList_append_arr _ rfl _ _ 29 rfl w.heap.size 37 i0 _ 5 64 Try.underlying29 hi hz0 hz1 hz2 rfl (by decide) _ 0 [] rfl Hr0.out rfl (Arr.below H.out ((Below.refl _ _).alloc (Nat.le_refl _) _)) (by omega) (by unfold maxLen; omega) (by go_size) ?_; intro v1 w1 hr1 hb1 hg1)
    go_returns
    refine ⟨_, rfl, by simpa using hr1, ?_⟩
    exact ((Below.refl _ _).alloc (Nat.le_refl _) _).trans hb1

end Go.Proofs.Ytehbikofoidjhaa
