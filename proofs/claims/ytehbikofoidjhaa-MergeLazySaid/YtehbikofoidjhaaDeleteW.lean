/-
  The walk of slices.DeleteFunc with the tests of package cells.
-/
import Derived.Test.YtehbikofoidjhaaIndexW
namespace Go.Proofs.Ytehbikofoidjhaa
open Go.RowKit Go.Sort

theorem idxL_some {p : CellA → Bool} : ∀ {l : List CellA} {k : Nat}, idxL p l = some k → (l.take k).any p = false ∧ ∃ x, l[k]? = some x ∧ p x = true
  | [], k, h => by simp [idxL] at h
  | x :: r, k, h => by
    rw [idxL] at h
    by_cases hp : p x = true
    · rw [if_pos hp] at h; cases h
      exact ⟨rfl, x, rfl, hp⟩
    · rw [if_neg hp] at h
      cases hr : idxL p r with
      | none => rw [hr] at h; simp at h
      | some j =>
        rw [hr] at h; simp at h; subst h
        obtain ⟨h1, y, h2, h3⟩ := idxL_some hr
        exact ⟨by rw [List.take_succ_cons, List.any_cons, h1]; simpa using hp, y, by simpa using h2, h3⟩
def filtL (p : CellA → Bool) (l : List CellA) : List CellA := l.filter fun c => !p c
theorem filtL_all {p : CellA → Bool} {l : List CellA} (h : l.any p = false) : filtL p l = l := by
  rw [filtL, List.filter_eq_self]
  intro c hc
  rw [List.any_eq_false] at h
  simpa using h c hc
theorem filtL_succ {p : CellA → Bool} {l : List CellA} {k : Nat} {x : CellA} (h : l[k]? = some x) : filtL p (l.take (k + 1)) = if p x then filtL p (l.take k) else filtL p (l.take k) ++ [x] := by
  rw [filtL, List.take_add_one, h, filtL, List.filter_append]
  cases hp : p x <;> simp [hp]
theorem filtL_len (p : CellA → Bool) (l : List CellA) : (filtL p l).length ≤ l.length := List.length_filter_le _ _

def PG (_ : Nat) (_ : World) : Prop := True
theorem PG.below {g : Nat} {w w' : World} (h : PG g w) (_ : Below w.heap.size w w') : PG g w' := h
theorem PG.grown {g : Nat} {w w' : World} (h : PG g w) (_ : w.grownBy w' (some g)) : PG g w' := h

set_option maxRecDepth 100000 in
set_option maxHeartbeats 4000000 in
theorem deleteG_any (cs : List CellA) (g cap n B : Nat)  (w : World) (hn : cs.length = n) (hrow : Row w B 37 5 (.slice (some ⟨g, 0, none⟩) n cap) n (cs.map cellE).flatten) (hok : ∀ c ∈ cs, c.Ok) (hpd : PG g w) :
    Calls Try.prog 53 #[.slice (some ⟨g, 0, none⟩) n cap, .func (.func 54) #[] #[]] w
      fun e w' => e = .returned (.slice (some ⟨g, 0, none⟩) (filtL goneC cs).length cap) ∧ Row w' B 37 5 (.slice (some ⟨g, 0, none⟩) (filtL goneC cs).length cap) (filtL goneC cs).length ((filtL goneC cs).map cellE).flatten ∧ w.grownBy w' (some g) := by
  have hncap : n ≤ cap ∧ cap ≤ maxLen := by
    rcases hrow.form with ⟨h, _⟩ | ⟨g', c', h, _, _, q1, q2⟩
    · cases h
    · cases h; exact ⟨q1, q2⟩
  obtain ⟨hc1, hc2⟩ := hncap
  unfold maxLen at hc2
  have hcells : Cells w (some ⟨g, 0, none⟩) n cap cs := by
    obtain ⟨ao, c', e, h⟩ := Row.arr (es := cs.map cellE) (by decide) (by rw [List.length_map, hn]; exact hrow) (cellE_elems cs)
    rw [List.length_map, hn] at e h
    cases e
    exact h
  have hix := Lib.hid ((fun ao cap (W : World) h hok (_ : PG g W) => index_gone ao _ cap _ W h hok trivial) (some ⟨g, 0, none⟩) cap w hcells hok hpd)
  have Hrow := Lib.hid hrow
  have Hi := Lib.hid hpd
  have Hn := Lib.hid hn
  have Hok := Lib.hid hok
  clear hrow hpd hn hok hcells
  cases hk : idxL goneC cs with
  | none =>
    have hf := filtL_all (idxL_none.1 hk)
    have hv : idxI goneC cs = -1 := by rw [idxI, hk]
    rw [hv] at hix
    rw [hf, Hn.out]
    clear hf hv hk
    go_enter Try.func53, Try.ntmps53
    go_wp2_with (first | (go_at_call 64; refine (hix.out).mono ?_; rintro e w1 ⟨rfl, hb⟩; obtain ⟨hB, hS, hk⟩ := after (B := w.heap.size) (w := w) (by go_grown) (by go_size) hb; have Hw1 := Lib.hid hb; clear hb; clear hk))
    go_returns
    exact ⟨rfl, Hrow.out.below Hw1.out, gb_below gb_row Hw1.out⟩
  | some k0 =>
    have hv : idxI goneC cs = k0 := by rw [idxI, hk]
    rw [hv] at hix
    obtain ⟨ha, x0, hx0, hp0⟩ := idxL_some hk
    have hklt : k0 < n := by have := idxL_lt hk; rw [Hn.out] at this; exact this
    have hst : Hid (filtL goneC (cs.take (k0 + 1)) = cs.take k0) := Lib.hid (by rw [filtL_succ hx0, if_pos hp0, filtL_all ha])
    clear hv hk ha hx0 hp0
    have hkd1 : ((k0 : Int) == -1) = false := by simp
    have hkd2 : decide ((k0 : Int) = -1) = false := by simp
    go_enter Try.func53, Try.ntmps53
    go_wp2_with (first | (go_at_call 64; refine (hix.out).mono ?_; rintro e w1 ⟨rfl, hb⟩; obtain ⟨hB, hS, hk⟩ := after (B := w.heap.size) (w := w) (by go_grown) (by go_size) hb; have Hw1 := Lib.hid hb; clear hb; clear hk))
    go_loopw [5, 6] (fun i j wr => ∃ (m q : Nat) (D : List CellA), q ≤ n ∧ j = .int .i64 q ∧ i = .int .i64 m ∧ m < q ∧ Hid (D.length = n) ∧ Hid (Row wr B 37 5 (.slice (some ⟨g, 0, none⟩) n cap) n (D.map cellE).flatten) ∧
        Hid (D.drop q = cs.drop q) ∧ Hid (D.take m = filtL goneC (cs.take q)) ∧ Hid (PG g wr) ∧ Hid (w.grownBy wr (some g))) (fun _ j _ => n - (intOf j).toNat)
    case atStart => exact ⟨k0, k0 + 1, cs, by omega, by go_num, rfl, by omega, Hn, Lib.hid (Hrow.out.below Hw1.out), Lib.hid rfl, Lib.hid hst.out.symm, Lib.hid (Hi.out.below Hw1.out), Lib.hid (gb_below gb_row Hw1.out)⟩
    case round =>
      obtain ⟨m, q, D, hq, rfl, rfl, hm, hDl, hR, hDd, hDt, hI, hG⟩ := hrel
      by_cases hlt : q < n
      · obtain ⟨x, hx⟩ : ∃ x, cs[q]? = some x := ⟨_, List.getElem?_eq_getElem (by rw [Hn.out]; omega)⟩
        have hDx : D[q]? = some x := by
          have := congrArg (fun l => l[0]?) hDd.out
          simpa [List.getElem?_drop, hx] using this
        obtain ⟨x0, x1, x2, x3, x4⟩ := hR.out.cellAt hDl.out hDx
        obtain ⟨fy0, fy1, fy2, fy3, fy4⟩ := hR.out.cellFree hDl.out (i := m) (by omega)
        obtain ⟨y, hy⟩ : ∃ y, D[m]? = some y := ⟨_, List.getElem?_eq_getElem (by rw [hDl.out]; omega)⟩
        obtain ⟨y0, y1, y2, y3, y4⟩ := hR.out.cellAt hDl.out hy
        have Hst := Lib.hid (filtL_succ (p := goneC) hx)
        have hgl : g < wr.heap.size := World.block_lt_of_cell? _ _ x0
        have hcl := Lib.hid fun (W : World) (h : PG g W) => (fun x (W : World) hx (_ : PG g W) => gone_any x W hx trivial) x W (Hok.out x (List.mem_of_getElem? hx)) h
        clear hx hDx hy
        have hI1 := Lib.hid (show PG g (wr.alloc (.cells #[.string x.row, .string x.col, .int .u64 x.ver, .bool x.gone, .string x.val] 37)) from hI.out.below ((Below.refl _ _).alloc (Nat.le_refl _) _))
        cases hb : goneC x
        · rw [hb] at hcl
          have Hb := Lib.hid hb
          clear hb
          go_wp2_with (first | (go_at_call 54; refine (hcl.out _ hI1.out).mono ?_; rintro e w5 ⟨rfl, hb⟩; obtain ⟨hB, hS, hk⟩ := after (B := wr.heap.size) (w := wr) (by go_grown) (by go_size) hb; clear hb; obtain ⟨c0, f0, z0⟩ := hk (wr.heap.size) (by go_size); obtain ⟨c1, f1, z1⟩ := hk (g) (by go_size); clear hk))
          have hR6 := (hR.out.below hB).storeC hDl.out (i := m) (by omega) x
          have hG6 := gb_setC (gb_below hG.out hB) (o := m * 5) x
          have hI6 := (hI.out.below hB).grown (gb_setC gb_row (o := m * 5) x)
          have e1 : (D.set m x).drop (q + 1) = cs.drop (q + 1) := by
            rw [List.drop_set_of_lt (by omega)]
            have := congrArg (List.drop 1) hDd.out
            simpa [List.drop_drop, Nat.add_comm] using this
          have e2 : (D.set m x).take (m + 1) = filtL goneC (cs.take (q + 1)) := by
            have hml : m < D.length := by rw [hDl.out]; omega
            rw [Hst.out, Hb.out, ← hDt.out, List.take_add_one, List.getElem?_set_self hml, List.take_set_of_le (Nat.le_refl _)]; rfl
          simp only [setC] at hR6 hG6 hI6
          exact ⟨⟨m + 1, q + 1, D.set m x, by omega, by go_num, by go_num, by omega, Lib.hid (by rw [List.length_set]; exact hDl.out), Lib.hid hR6, Lib.hid e1, Lib.hid e2, Lib.hid hI6, Lib.hid hG6⟩, by simp [intOf]; omega⟩
        · rw [hb] at hcl
          have Hb := Lib.hid hb
          clear hb
          go_wp2_with (first | (go_at_call 54; refine (hcl.out _ hI1.out).mono ?_; rintro e w5 ⟨rfl, hb⟩; obtain ⟨hB, hS, hk⟩ := after (B := wr.heap.size) (w := wr) (by go_grown) (by go_size) hb; clear hb; obtain ⟨c0, f0, z0⟩ := hk (wr.heap.size) (by go_size); obtain ⟨c1, f1, z1⟩ := hk (g) (by go_size); clear hk))
          have e1 : D.drop (q + 1) = cs.drop (q + 1) := by
            have := congrArg (List.drop 1) hDd.out
            simpa [List.drop_drop, Nat.add_comm] using this
          have e2 : D.take m = filtL goneC (cs.take (q + 1)) := by
            rw [Hst.out, Hb.out, ← hDt.out]; rfl
          exact ⟨⟨m, q + 1, D, by omega, by go_num, rfl, by omega, hDl, Lib.hid (hR.out.below hB), Lib.hid e1, Lib.hid e2, Lib.hid (hI.out.below hB), Lib.hid (gb_below hG.out hB)⟩, by simp [intOf]; omega⟩
      · have hall : cs.take q = cs := List.take_of_length_le (by rw [Hn.out]; omega)
        have hml : m ≤ D.length := by rw [hDl.out]; omega
        have hlen : (filtL goneC cs).length = m := by rw [← hall, ← hDt.out, List.length_take]; omega
        obtain ⟨w7, hclr, hR7, hG7⟩ := run_clear_row (P := Try.prog) wr 29 37 (.agg #[.string ⟨#[]⟩, .string ⟨#[]⟩, .int .u64 0, .bool false, .string ⟨#[]⟩]) Try.underlying29 (fun w => by kernel_rfl) (size := 5) rfl (by intro u hu; simp [Value.cells] at hu; rcases hu with rfl | rfl | rfl | rfl | rfl <;> rfl) (by decide) hR.out (k := m) (by omega) (cap - m)
        have Hlen := Lib.hid hlen
        have HR7 : Hid (Row w7 B 37 5 (.slice (some ⟨g, 0, none⟩) m cap) m ((filtL goneC cs).map cellE).flatten) := Lib.hid (by
          have e : (D.map cellE).flatten.take (m * 5) = ((filtL goneC cs).map cellE).flatten := by
            rw [← hall, ← hDt.out, List.map_take]
            have h1 := flatten_len (size := 5) (es := (D.map cellE).take m) (fun e he => (cellE_elems D).len e (List.mem_of_mem_take he))
            rw [List.length_take, List.length_map, Nat.min_eq_left hml] at h1
            have h2 : (D.map cellE).flatten = ((D.map cellE).take m).flatten ++ ((D.map cellE).drop m).flatten := by rw [← List.flatten_append, List.take_append_drop]
            rw [h2, List.take_left' h1]
          rw [← e]; exact hR7)
        have HG7 := Lib.hid (gb_trans hG.out hG7)
        clear hall hlen hR7 hG7 hml
        go_wp2
        go_returns
        exact ⟨by rw [Hlen.out]; rfl, by rw [Hlen.out]; exact HR7.out, HG7.out⟩


end Go.Proofs.Ytehbikofoidjhaa
