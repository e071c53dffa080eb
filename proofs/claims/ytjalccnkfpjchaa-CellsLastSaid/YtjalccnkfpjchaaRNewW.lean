/-
  The walks of the document's Place, Newest, Alive (acreageref04).
-/
import Derived.Test.YtjalccnkfpjchaaRSortW
import Derived.Test.YtjalccnkfpjchaaWithinW
namespace Go.Proofs.Ytjalccnkfpjchaa
open Go.RowKit Go.Sort

set_option maxHeartbeats 1000000 in
theorem rplace_raw (ar ac : ByteArray) (av : Int) (ag : Bool) (al br bc : ByteArray) (bv : Int) (bg : Bool) (bl : ByteArray) (w : World) :
    Calls Try.prog 54 #[.agg #[.string ar, .string ac, .int .u64 av, .bool ag, .string al], .agg #[.string br, .string bc, .int .u64 bv, .bool bg, .string bl]] w
      fun e w' => e = .returned (.bool (decide (br.toList = ar.toList) && decide (bc.toList = ac.toList))) ∧ Below w.heap.size w w' := by
  by_cases e1 : ar = br
  · subst e1
    by_cases e2 : ac = bc
    · subst e2
      go_enter Try.func54, Try.ntmps54
      go_wp2
      go_returns
      exact ⟨ret_bool (by simp), by go_grown⟩
    · have n2 : ¬ ac.toList = bc.toList := fun h => e2 (toList_inj.1 h)
      have n4 : ¬ bc.toList = ac.toList := fun h => e2 (toList_inj.1 h.symm)
      have n3 : (ac.toList == bc.toList) = false := by simpa using n2
      go_enter Try.func54, Try.ntmps54
      go_wp2
      go_returns
      exact ⟨ret_bool (by simp [n4]), by go_grown⟩
  · have n2 : ¬ ar.toList = br.toList := fun h => e1 (toList_inj.1 h)
    have n4 : ¬ br.toList = ar.toList := fun h => e1 (toList_inj.1 h.symm)
    have n3 : (ar.toList == br.toList) = false := by simpa using n2
    go_enter Try.func54, Try.ntmps54
    go_wp2
    go_returns
    exact ⟨ret_bool (by simp [n4]), by go_grown⟩
theorem rplace_any (a b : CellA) (w : World) :
    Calls Try.prog 54 #[a.v, b.v] w fun e w' => e = .returned (.bool (samePl b a)) ∧ Below w.heap.size w w' := rplace_raw _ _ _ _ _ _ _ _ _ _ w

theorem compactL_first {p : CellA → CellA → Bool} {cs : List CellA} {x : CellA} (hx : cs[0]? = some x) : compactL p (cs.take 1) = [x] := by
  cases cs with
  | nil => simp at hx
  | cons y r => simp at hx; subst hx; rfl

set_option maxRecDepth 100000 in
set_option maxHeartbeats 4000000 in
theorem rnewest_any (ao : Option Addr) (n cap : Nat) (cs : List CellA) (w : World) (h : Cells w ao n cap cs) (hle : n ≤ 1000000) :
    Calls Try.prog 24 #[.slice ao n cap] w fun e w' => ∃ v, e = .returned v ∧ Own w' w.heap.size v (newestL cs) ∧ Below w.heap.size w w' := by
  obtain ⟨i0, hi, hz0, hz1, hz2⟩ := info_parts Try.info_cell
  have Hi := Lib.hid hi
  have hs := rsort_any ao n cap cs w h hle
  rw [rsort_eq] at hs
  have Hs := Lib.hid hs
  have hsl := sortL_len cs
  have hl := h.len
  unfold newestL
  obtain ⟨l, hl0⟩ : ∃ l, l = sortL cs := ⟨_, rfl⟩
  rw [← hl0] at Hs hsl ⊢
  have hln : l.length ≤ 1000000 := by omega
  obtain ⟨m, hm⟩ : ∃ m, m = l.length := ⟨_, rfl⟩
  have Hm := Lib.hid hm.symm
  rw [← hm] at hln
  clear h hi hs hl0 hsl hl hm
  go_enter Try.func24, Try.ntmps24
  go_wp2_with (go_at_call 23; refine Hs.out.mono ?_; rintro e w1 ⟨v, rfl, hr, hb⟩; have hz1' := hb.size; obtain ⟨ao2, cap2, rfl, hc⟩ := hr.cells_n Hm.out; have Hc := Lib.hid hc; have HB1 := Lib.hid hb; have hf2 := Arr.fits hc; have hm2 := Arr.max hc; unfold maxLen at hm2; clear hr hb hc)
  go_loopw [3, 5] (fun v i wr => ∃ k : Nat, k ≤ m ∧ i = .int .i64 k ∧ Hid (Own wr w1.heap.size v (compactL samePl (l.take k))) ∧ Below w1.heap.size w1 wr) (fun _ i _ => m - (intOf i).toNat)
  case atStart => exact ⟨0, by omega, rfl, Lib.hid (Row.nil _ _ _ _), Below.refl _ _⟩
  case round =>
    obtain ⟨k, hk, rfl, hO, hB0⟩ := hrel
    have hzr := hB0.size
    by_cases hlt : k < m
    · obtain ⟨x, hx⟩ : ∃ x, l[k]? = some x := ⟨_, List.getElem?_eq_getElem (by rw [Hm.out]; omega)⟩
      obtain ⟨b, off, rfl, hb, ⟨x0, x1, x2, x3, x4⟩⟩ := Cells.at_ Hc.out hx
      obtain ⟨k0, k0f⟩ := keep_below hB0 b hb
      have hln1 : Hid ((compactL samePl (l.take k)).length + 1 ≤ m) := Lib.hid (by
        have := compactL_len samePl (l.take k)
        rw [List.length_take] at this; omega)
      cases k with
      | zero =>
        have Hst : Hid (compactL samePl (l.take (0 + 1)) = [] ++ [x]) := Lib.hid (compactL_first hx)
        clear hx
        simp only [Nat.zero_mul, Nat.add_zero] at x0 x1 x2 x3 x4
        go_wp2
        refine wp_region_below (by kernel_rfl) (by kernel_rfl) (fun hkept => ?_)
        obtain ⟨r0, rf0⟩ := hkept (b) (by go_size); clear hkept
        repeat (any_goals (first | go_big_quiet_step (fail) | quiet_step (fail) | (refine wpQuiet_step (fun K hK => ?_); go_simp; split <;> (refine hK _ ?_; clear hK K))))
        all_goals (refine wpQuiet_nil ?_; intro w5 hb; obtain ⟨hB, hS, hk⟩ := after (B := wr.heap.size) (w := wr) (by go_grown) (by go_size) hb; obtain ⟨c0, f0, z0⟩ := hk (b) (by go_size); clear hk hb r0 rf0)
        have hO5 : Hid (Own w5 w1.heap.size u3 []) := Lib.hid (hO.out.below hB)
        have hB5 := hB0.trans (hB.mono hzr)
        go_wp2_with (at_builtin; refine wpList_append_arr _ rfl _ _ 22 rfl w1.heap.size 32 i0 _ 5 64 Try.underlying22 Hi.out hz0 hz1 hz2 rfl (by decide) u3 _ _ rfl (Row.alloc hO5.out _) rfl (cells_new w5 _ [x] _ 1 _ rfl rfl (by decide) rfl) (by have := hln1.out; simp only [List.length_nil]; omega) (by have := hln1.out; unfold maxLen; simp only [List.length_nil]; omega) (by rw [World.size_alloc]; omega) ?_; intro v1 w6 hr6 hb6 hg6; have HR6 := Lib.hid hr6; have hB6 := hB5.trans (((Below.refl _ _).alloc hB5.size _).trans hb6); clear hr6 hb6 hg6)
        exact ⟨⟨1, by omega, by go_num, Lib.hid (own_snoc Hst.out HR6.out), hB6⟩, by simp [intOf]; omega⟩
      | succ j =>
        obtain ⟨z, hz⟩ : ∃ z, l[j]? = some z := ⟨_, List.getElem?_eq_getElem (by rw [Hm.out]; omega)⟩
        obtain ⟨b', off', e', hb', ⟨z0, z1, z2, z3, z4⟩⟩ := Cells.at_ Hc.out hz
        cases e'
        have Hst := Lib.hid (compactL_step (p := samePl) hz hx)
        have heq := Lib.hid fun W => rplace_any z x W
        obtain ⟨q, hq⟩ : ∃ q, samePl x z = q := ⟨_, rfl⟩
        rw [hq] at heq
        have Hq := Lib.hid hq
        clear hx hz hq hb'
        have hj1 : ((j : Int) + 1 == 0) = false := by rw [beq_eq_false_iff_ne]; omega
        cases q
        · go_wp2
          refine wp_region_below (by kernel_rfl) (by kernel_rfl) (fun hkept => ?_)
          obtain ⟨r0, rf0⟩ := hkept (b) (by go_size); clear hkept
          repeat (any_goals (first | go_big_quiet_step (first | (go_at_call 54; exact Calls.regrown_of (heq.out _))) | quiet_step (first | (go_at_call 54; exact Calls.regrown_of (heq.out _))) | (refine wpQuiet_step (fun K hK => ?_); go_simp; split <;> (refine hK _ ?_; clear hK K))))
          all_goals (refine wpQuiet_nil ?_; intro w5 hb; obtain ⟨hB, hS, hk⟩ := after (B := wr.heap.size) (w := wr) (by go_grown) (by go_size) hb; obtain ⟨c0, f0, z0⟩ := hk (b) (by go_size); clear hk hb r0 rf0)
          have hO5 := Lib.hid (hO.out.below hB)
          have hB5 := hB0.trans (hB.mono hzr)
          go_wp2_with (at_builtin; refine wpList_append_arr _ rfl _ _ 22 rfl w1.heap.size 32 i0 _ 5 64 Try.underlying22 Hi.out hz0 hz1 hz2 rfl (by decide) u3 _ _ rfl (Row.alloc hO5.out _) rfl (cells_new w5 _ [x] _ 1 _ rfl rfl (by decide) rfl) (by have := hln1.out; omega) (by have := hln1.out; unfold maxLen; omega) (by rw [World.size_alloc]; omega) ?_; intro v1 w6 hr6 hb6 hg6; have HR6 := Lib.hid hr6; have hB6 := hB5.trans (((Below.refl _ _).alloc hB5.size _).trans hb6); clear hr6 hb6 hg6)
          exact ⟨⟨j + 1 + 1, by omega, by go_num, Lib.hid (own_snoc (by rw [Hst.out, Hq.out]; rfl) HR6.out), hB6⟩, by simp [intOf]; omega⟩
        · go_wp2
          refine wp_region_below (by kernel_rfl) (by kernel_rfl) (fun hkept => ?_)
          obtain ⟨r0, rf0⟩ := hkept (b) (by go_size); clear hkept
          repeat (any_goals (first | go_big_quiet_step (first | (go_at_call 54; exact Calls.regrown_of (heq.out _))) | quiet_step (first | (go_at_call 54; exact Calls.regrown_of (heq.out _))) | (refine wpQuiet_step (fun K hK => ?_); go_simp; split <;> (refine hK _ ?_; clear hK K))))
          all_goals (refine wpQuiet_nil ?_; intro w5 hb; obtain ⟨hB, hS, hk⟩ := after (B := wr.heap.size) (w := wr) (by go_grown) (by go_size) hb; obtain ⟨c0, f0, z0⟩ := hk (b) (by go_size); clear hk hb r0 rf0)
          go_wp2
          exact ⟨⟨j + 1 + 1, by omega, by go_num, Lib.hid (by rw [Hst.out, Hq.out]; exact hO.out.below hB), hB0.trans (hB.mono hzr)⟩, by simp [intOf]; omega⟩
    · obtain rfl : k = m := by omega
      have hall : l.take k = l := List.take_of_length_le (by rw [Hm.out]; omega)
      rw [hall] at hO
      clear hall
      go_wp2
      go_returns
      exact ⟨_, rfl, Row.mono hO.out hz1', HB1.out.trans (hB0.mono hz1')⟩

set_option maxRecDepth 100000 in
set_option maxHeartbeats 4000000 in
theorem ralive_any (ao : Option Addr) (n cap : Nat) (cs : List CellA) (w : World) (h : Cells w ao n cap cs) (hle : n ≤ 1000000) :
    Calls Try.prog 25 #[.slice ao n cap] w fun e w' => ∃ v, e = .returned v ∧ Own w' w.heap.size v (aliveL cs) ∧ Below w.heap.size w w' := by
  obtain ⟨i0, hi, hz0, hz1, hz2⟩ := info_parts Try.info_cell
  have Hi := Lib.hid hi
  have hs := rnewest_any ao n cap cs w h hle
  have Hs := Lib.hid hs
  have hsl := newestL_len cs
  have hl := h.len
  unfold aliveL
  obtain ⟨l, hl0⟩ : ∃ l, l = newestL cs := ⟨_, rfl⟩
  rw [← hl0] at Hs hsl ⊢
  have hln : l.length ≤ 1000000 := by omega
  obtain ⟨m, hm⟩ : ∃ m, m = l.length := ⟨_, rfl⟩
  have Hm := Lib.hid hm.symm
  rw [← hm] at hln
  clear h hi hs hl0 hsl hl hm
  go_enter Try.func25, Try.ntmps25
  go_wp2_with (go_at_call 24; refine Hs.out.mono ?_; rintro e w1 ⟨v, rfl, hr, hb⟩; have hz1' := hb.size; obtain ⟨ao2, cap2, rfl, hc⟩ := hr.cells_n Hm.out; have Hc := Lib.hid hc; have HB1 := Lib.hid hb; have hf2 := Arr.fits hc; have hm2 := Arr.max hc; unfold maxLen at hm2; clear hr hb hc)
  go_loopw [3, 5] (fun v i wr => ∃ k : Nat, k ≤ m ∧ i = .int .i64 k ∧ Hid (Own wr w1.heap.size v (filtL goneC (l.take k))) ∧ Below w1.heap.size w1 wr) (fun _ i _ => m - (intOf i).toNat)
  case atStart => exact ⟨0, by omega, rfl, Lib.hid (Row.nil _ _ _ _), Below.refl _ _⟩
  case round =>
    obtain ⟨k, hk, rfl, hO, hB0⟩ := hrel
    have hzr := hB0.size
    by_cases hlt : k < m
    · obtain ⟨x, hx⟩ : ∃ x, l[k]? = some x := ⟨_, List.getElem?_eq_getElem (by rw [Hm.out]; omega)⟩
      obtain ⟨b, off, rfl, hb, ⟨x0, x1, x2, x3, x4⟩⟩ := Cells.at_ Hc.out hx
      obtain ⟨k0, k0f⟩ := keep_below hB0 b hb
      have hln1 : Hid ((filtL goneC (l.take k)).length + 1 ≤ m) := Lib.hid (by
        have := filtL_len goneC (l.take k)
        rw [List.length_take] at this; omega)
      have Hst := Lib.hid (filtL_succ (p := goneC) hx)
      clear hx
      obtain ⟨xr, xc, xv, xg, xl⟩ := x
      simp only at x0 x1 x2 x3 x4
      cases xg
      · go_wp2_with (at_builtin; refine wpList_append_arr _ rfl _ _ 22 rfl w1.heap.size 32 i0 _ 5 64 Try.underlying22 Hi.out hz0 hz1 hz2 rfl (by decide) u3 _ _ rfl (Row.alloc hO.out _) rfl (cells_new wr _ [⟨xr, xc, xv, false, xl⟩] _ 1 _ rfl rfl (by decide) rfl) (by have := hln1.out; omega) (by have := hln1.out; unfold maxLen; omega) (by rw [World.size_alloc]; omega) ?_; intro v1 w6 hr6 hb6 hg6; have HR6 := Lib.hid hr6; have hB6 := hB0.trans (((Below.refl _ _).alloc hB0.size _).trans hb6); clear hr6 hb6 hg6)
        exact ⟨⟨k + 1, by omega, by go_num, Lib.hid (own_snoc (by rw [Hst.out]; rfl) HR6.out), hB6⟩, by simp [intOf]; omega⟩
      · go_wp2
        exact ⟨⟨k + 1, by omega, by go_num, Lib.hid (by rw [Hst.out]; exact hO.out), hB0⟩, by simp [intOf]; omega⟩
    · obtain rfl : k = m := by omega
      have hall : l.take k = l := List.take_of_length_le (by rw [Hm.out]; omega)
      rw [hall] at hO
      clear hall
      go_wp2
      go_returns
      exact ⟨_, rfl, Row.mono hO.out hz1', HB1.out.trans (hB0.mono hz1')⟩

end Go.Proofs.Ytjalccnkfpjchaa
