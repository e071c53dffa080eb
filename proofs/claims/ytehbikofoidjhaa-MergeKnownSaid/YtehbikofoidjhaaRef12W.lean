/-
  The walks of the document's Newest, Alive for rows (acreageref12).
-/
import Derived.Test.YtehbikofoidjhaaLits
import Derived.Test.YtehbikofoidjhaaRowLW
import Derived.Test.YtehbikofoidjhaaRSortW
namespace Go.Proofs.Ytehbikofoidjhaa
open Go.RowKit Go.Sort

theorem compactL_first {p : CellA → CellA → Bool} {cs : List CellA} {x : CellA} (hx : cs[0]? = some x) : compactL p (cs.take 1) = [x] := by
  cases cs with
  | nil => simp at hx
  | cons y r => simp at hx; subst hx; rfl

set_option maxRecDepth 100000 in
set_option maxHeartbeats 4000000 in
theorem rnew12_any (ao : Option Addr) (n cap : Nat) (cs : List CellA) (w : World) (h : Cells w ao n cap cs) (hle : n ≤ 1000000) :
    Calls Try.prog 20 #[.slice ao n cap] w fun e w' => ∃ v, e = .returned v ∧ Own w' w.heap.size v (compactL samePl cs) ∧ Below w.heap.size w w' := by
  obtain ⟨i0, hi, hz0, hz1, hz2⟩ := info_parts Try.info_cell
  have Hi := Lib.hid hi
  have hln := hle
  have hf2 := Arr.fits h
  have hm2 := Arr.max h
  unfold maxLen at hm2
  have Hm := Lib.hid h.len
  have Hc := Lib.hid h
  clear h hi
  go_enter Try.func20, Try.ntmps20
  go_wp2
  go_loopw [3, 4] (fun v i wr => ∃ k : Nat, k ≤ n ∧ i = .int .i64 k ∧ Hid (Own wr w.heap.size v (compactL samePl (cs.take k))) ∧ Below w.heap.size w wr) (fun _ i _ => n - (intOf i).toNat)
  case atStart => exact ⟨0, by omega, rfl, Lib.hid (Row.nil _ _ _ _), Below.refl _ _⟩
  case round =>
    obtain ⟨k, hk, rfl, hO, hB0⟩ := hrel
    have hzr := hB0.size
    by_cases hlt : k < n
    · obtain ⟨x, hx⟩ : ∃ x, cs[k]? = some x := ⟨_, List.getElem?_eq_getElem (by rw [Hm.out]; omega)⟩
      obtain ⟨b, off, rfl, hb, ⟨x0, x1, x2, x3, x4⟩⟩ := Cells.at_ Hc.out hx
      obtain ⟨k0, k0f⟩ := keep_below hB0 b hb
      have hln1 : Hid ((compactL samePl (cs.take k)).length + 1 ≤ n) := Lib.hid (by
        have := compactL_len samePl (cs.take k)
        rw [List.length_take] at this; omega)
      cases k with
      | zero =>
        have Hst : Hid (compactL samePl (cs.take (0 + 1)) = [] ++ [x]) := Lib.hid (compactL_first hx)
        clear hx
        simp only [Nat.zero_mul, Nat.add_zero] at x0 x1 x2 x3 x4
        go_wp2
        refine wp_region_below (by kernel_rfl) (by kernel_rfl) (fun hkept => ?_)
        obtain ⟨r0, rf0⟩ := hkept (b) (by go_size); clear hkept
        repeat (any_goals (first | go_big_quiet_step (fail) | quiet_step (fail) | (refine wpQuiet_step (fun K hK => ?_); go_simp; split <;> (refine hK _ ?_; clear hK K))))
        all_goals (refine wpQuiet_nil ?_; intro w5 hb; obtain ⟨hB, hS, hk⟩ := after (B := wr.heap.size) (w := wr) (by go_grown) (by go_size) hb; obtain ⟨c0, f0, z0⟩ := hk (b) (by go_size); clear hk hb r0 rf0)
        have hO5 : Hid (Own w5 w.heap.size u3 []) := Lib.hid (hO.out.below hB)
        have hB5 := hB0.trans (hB.mono hzr)
        go_wp2_with (at_builtin; refine wpList_append_arr _ rfl _ _ 29 rfl w.heap.size 37 i0 _ 5 64 Try.underlying29 Hi.out hz0 hz1 hz2 rfl (by decide) u3 _ _ rfl (Row.alloc hO5.out _) rfl (cells_new w5 _ [x] _ 1 _ rfl rfl (by decide) rfl) (by have := hln1.out; simp only [List.length_nil]; omega) (by have := hln1.out; unfold maxLen; simp only [List.length_nil]; omega) (by rw [World.size_alloc]; omega) ?_; intro v1 w6 hr6 hb6 hg6; have HR6 := Lib.hid hr6; have hB6 := hB5.trans (((Below.refl _ _).alloc hB5.size _).trans hb6); clear hr6 hb6 hg6)
        exact ⟨⟨1, by omega, by go_num, Lib.hid (own_push Hst.out HR6.out), hB6⟩, by simp [intOf]; omega⟩
      | succ j =>
        obtain ⟨z, hz⟩ : ∃ z, cs[j]? = some z := ⟨_, List.getElem?_eq_getElem (by rw [Hm.out]; omega)⟩
        obtain ⟨b', off', e', hb', ⟨z0, z1, z2, z3, z4⟩⟩ := Cells.at_ Hc.out hz
        cases e'
        have Hst := Lib.hid (compactL_step (p := samePl) hz hx)
        have heq := Lib.hid fun W => rplace_any z x W
        obtain ⟨q, hq⟩ : ∃ q, samePl x z = q := ⟨_, rfl⟩
        rw [hq] at heq
        have Hq := Lib.hid hq
        clear hx hz hq hb'
        have hj1 : ((j : Int) + 1 == 0) = false := by rw [beq_eq_false_iff_ne]; omega
        cases q
        · go_wp2
          refine wp_region_below (by kernel_rfl) (by kernel_rfl) (fun hkept => ?_)
          obtain ⟨r0, rf0⟩ := hkept (b) (by go_size); clear hkept
          repeat (any_goals (first | go_big_quiet_step (first | (go_at_call 44; exact Calls.regrown_of (heq.out _))) | quiet_step (first | (go_at_call 44; exact Calls.regrown_of (heq.out _))) | (refine wpQuiet_step (fun K hK => ?_); go_simp; split <;> (refine hK _ ?_; clear hK K))))
          all_goals (refine wpQuiet_nil ?_; intro w5 hb; obtain ⟨hB, hS, hk⟩ := after (B := wr.heap.size) (w := wr) (by go_grown) (by go_size) hb; obtain ⟨c0, f0, z0⟩ := hk (b) (by go_size); clear hk hb r0 rf0)
          have hO5 := Lib.hid (hO.out.below hB)
          have hB5 := hB0.trans (hB.mono hzr)
          go_wp2_with (at_builtin; refine wpList_append_arr _ rfl _ _ 29 rfl w.heap.size 37 i0 _ 5 64 Try.underlying29 Hi.out hz0 hz1 hz2 rfl (by decide) u3 _ _ rfl (Row.alloc hO5.out _) rfl (cells_new w5 _ [x] _ 1 _ rfl rfl (by decide) rfl) (by have := hln1.out; omega) (by have := hln1.out; unfold maxLen; omega) (by rw [World.size_alloc]; omega) ?_; intro v1 w6 hr6 hb6 hg6; have HR6 := Lib.hid hr6; have hB6 := hB5.trans (((Below.refl _ _).alloc hB5.size _).trans hb6); clear hr6 hb6 hg6)
          exact ⟨⟨j + 1 + 1, by omega, by go_num, Lib.hid (own_push (by rw [Hst.out, Hq.out]; rfl) HR6.out), hB6⟩, by simp [intOf]; omega⟩
        · go_wp2
          refine wp_region_below (by kernel_rfl) (by kernel_rfl) (fun hkept => ?_)
          obtain ⟨r0, rf0⟩ := hkept (b) (by go_size); clear hkept
          repeat (any_goals (first | go_big_quiet_step (first | (go_at_call 44; exact Calls.regrown_of (heq.out _))) | quiet_step (first | (go_at_call 44; exact Calls.regrown_of (heq.out _))) | (refine wpQuiet_step (fun K hK => ?_); go_simp; split <;> (refine hK _ ?_; clear hK K))))
          all_goals (refine wpQuiet_nil ?_; intro w5 hb; obtain ⟨hB, hS, hk⟩ := after (B := wr.heap.size) (w := wr) (by go_grown) (by go_size) hb; obtain ⟨c0, f0, z0⟩ := hk (b) (by go_size); clear hk hb r0 rf0)
          go_wp2
          exact ⟨⟨j + 1 + 1, by omega, by go_num, Lib.hid (by rw [Hst.out, Hq.out]; exact hO.out.below hB), hB0.trans (hB.mono hzr)⟩, by simp [intOf]; omega⟩
    · obtain rfl : k = n := by omega
      have hall : cs.take k = cs := List.take_of_length_le (by rw [Hm.out]; omega)
      rw [hall] at hO
      clear hall
      go_wp2
      go_returns
      exact ⟨_, rfl, hO.out, hB0⟩

set_option maxRecDepth 100000 in
set_option maxHeartbeats 4000000 in
theorem ralive12_any (ao : Option Addr) (n cap : Nat) (cs : List CellA) (w : World) (h : Cells w ao n cap cs) (hle : n ≤ 1000000) :
    Calls Try.prog 22 #[.slice ao n cap] w fun e w' => ∃ v, e = .returned v ∧ Own w' w.heap.size v (filtL goneC (compactL samePl cs)) ∧ Below w.heap.size w w' := by
  obtain ⟨i0, hi, hz0, hz1, hz2⟩ := info_parts Try.info_cell
  have Hi := Lib.hid hi
  have hs := rnew12_any ao n cap cs w h hle
  have Hs := Lib.hid hs
  have hsl := compactL_len samePl cs
  have hl := h.len
  obtain ⟨l, hl0⟩ : ∃ l, l = compactL samePl cs := ⟨_, rfl⟩
  rw [← hl0] at Hs hsl ⊢
  have hln : l.length ≤ 1000000 := by omega
  obtain ⟨m, hm⟩ : ∃ m, m = l.length := ⟨_, rfl⟩
  have Hm := Lib.hid hm.symm
  rw [← hm] at hln
  clear h hi hs hl0 hsl hl hm
  go_enter Try.func22, Try.ntmps22
  go_wp2_with (go_at_call 20; refine Hs.out.mono ?_; rintro e w1 ⟨v, rfl, hr, hb⟩; have hz1' := hb.size; obtain ⟨ao2, cap2, rfl, hc⟩ := hr.cells_n Hm.out; have Hc := Lib.hid hc; have HB1 := Lib.hid hb; have hf2 := Arr.fits hc; have hm2 := Arr.max hc; unfold maxLen at hm2; clear hr hb hc)
  go_loopw [3, 5] (fun v i wr => ∃ k : Nat, k ≤ m ∧ i = .int .i64 k ∧ Hid (Own wr w1.heap.size v (filtL goneC (l.take k))) ∧ Below w1.heap.size w1 wr) (fun _ i _ => m - (intOf i).toNat)
  case atStart => exact ⟨0, by omega, rfl, Lib.hid (Row.nil _ _ _ _), Below.refl _ _⟩
  case round =>
    obtain ⟨k, hk, rfl, hO, hB0⟩ := hrel
    have hzr := hB0.size
    by_cases hlt : k < m
    · obtain ⟨x, hx⟩ : ∃ x, l[k]? = some x := ⟨_, List.getElem?_eq_getElem (by rw [Hm.out]; omega)⟩
      obtain ⟨b, off, rfl, hb, ⟨x0, x1, x2, x3, x4⟩⟩ := Cells.at_ Hc.out hx
      obtain ⟨k0, k0f⟩ := keep_below hB0 b hb
      have hln1 : Hid ((filtL goneC (l.take k)).length + 1 ≤ m) := Lib.hid (by
        have := filtL_len goneC (l.take k)
        rw [List.length_take] at this; omega)
      have Hst := Lib.hid (filtL_succ (p := goneC) hx)
      clear hx
      obtain ⟨xr, xc, xv, xg, xl⟩ := x
      simp only at x0 x1 x2 x3 x4
      cases xg
      · go_wp2_with (at_builtin; refine wpList_append_arr _ rfl _ _ 29 rfl w1.heap.size 37 i0 _ 5 64 Try.underlying29 Hi.out hz0 hz1 hz2 rfl (by decide) u3 _ _ rfl (Row.alloc hO.out _) rfl (cells_new wr _ [⟨xr, xc, xv, false, xl⟩] _ 1 _ rfl rfl (by decide) rfl) (by have := hln1.out; omega) (by have := hln1.out; unfold maxLen; omega) (by rw [World.size_alloc]; omega) ?_; intro v1 w6 hr6 hb6 hg6; have HR6 := Lib.hid hr6; have hB6 := hB0.trans (((Below.refl _ _).alloc hB0.size _).trans hb6); clear hr6 hb6 hg6)
        exact ⟨⟨k + 1, by omega, by go_num, Lib.hid (own_push (by rw [Hst.out]; rfl) HR6.out), hB6⟩, by simp [intOf]; omega⟩
      · go_wp2
        exact ⟨⟨k + 1, by omega, by go_num, Lib.hid (by rw [Hst.out]; exact hO.out), hB0⟩, by simp [intOf]; omega⟩
    · obtain rfl : k = m := by omega
      have hall : l.take k = l := List.take_of_length_le (by rw [Hm.out]; omega)
      rw [hall] at hO
      clear hall
      go_wp2
      go_returns
      exact ⟨_, rfl, Row.mono hO.out hz1', HB1.out.trans (hB0.mono hz1')⟩

end Go.Proofs.Ytehbikofoidjhaa
