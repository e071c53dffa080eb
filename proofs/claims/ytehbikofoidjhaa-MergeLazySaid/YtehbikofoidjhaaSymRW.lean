/-
  The walk of slices.symMergeCmpFunc where the right one is one cell.
-/
import Derived.Test.YtehbikofoidjhaaSymW
namespace Go.Proofs.Ytehbikofoidjhaa
open Go.RowKit Go.Sort

set_option maxRecDepth 100000 in
set_option maxHeartbeats 4000000 in
theorem symmerge_right (pre X : List CellA) (y : CellA) (suf : List CellA) (g cap n a m b gb gs B : Nat) (w : World) (ha : pre.length = a) (hm : a + X.length = m) (hb : m + 1 = b) (hx1 : X.length ≠ 1) (hx : Srt X) (hrow : SortW w B g n cap gb gs (pre ++ X ++ [y] ++ suf)) (h1 : gb ≠ g) (h2 : gs ≠ g) (hle : n ≤ 1000000) :
    Calls Try.prog 69 #[.slice (some ⟨g, 0, none⟩) n cap, .int .i64 a, .int .i64 m, .int .i64 b, .func (.func 62) #[] #[.pointer (some ⟨gb, 0, none⟩)]] w
      fun e w' => e = .returned (.tuple #[]) ∧ (∃ Z, IsSort Z (X ++ [y]) ∧ SortW w' B g n cap gb gs (pre ++ Z ++ suf)) ∧ w.grownBy w' (some g) := by
  obtain ⟨hc1, hc2⟩ := hrow.cap
  have hbn : b ≤ n := by rw [← hrow.len, ← hb, ← hm, ← ha]; simp only [List.length_append, List.length_singleton]; omega
  have hab : a ≤ m := by omega
  have hmb : m < b := by omega
  have hd0 : ((m : Int) - (a : Int) == 1) = false := by rw [beq_eq_false_iff_ne]; omega
  have hd1 : ((b : Int) - (m : Int) == 1) = true := by rw [beq_iff_eq]; omega
  have Hrow := Lib.hid hrow
  have Ha := Lib.hid ha
  have Hm := Lib.hid hm
  have Hb := Lib.hid hb
  have Hx := Lib.hid hx
  clear hrow ha hb hx hm hx1
  go_enter Try.func69, Try.ntmps69
  go_wp2
  go_loopw [14, 15] (fun i j wr => ∃ I J : Nat, i = .int .i64 I ∧ j = .int .i64 J ∧ a ≤ I ∧ I ≤ J ∧ J ≤ m ∧ Hid (Cut (fun z => leC z y) X (I - a) (J - a)) ∧ Hid (SortW wr B g n cap gb gs (pre ++ X ++ [y] ++ suf)) ∧ Hid (w.grownBy wr (some g))) (fun i j _ => (intOf j).toNat - (intOf i).toNat)
  case atStart => exact ⟨a, m, rfl, rfl, by omega, by omega, by omega, Lib.hid (by rw [Nat.sub_self]; exact Cut.start _ _ (by have := Hm.out; omega)), Hrow, Lib.hid gb_row⟩
  case round =>
    obtain ⟨I, J, rfl, rfl, hI, hIJ, hJ, hC, hW, hG⟩ := hrel
    by_cases hlt : I < J
    · obtain ⟨h, hh⟩ : ∃ h : Nat, h = (I + J) / 2 := ⟨_, rfl⟩
      have hh1 : ((I : Int) + (J : Int)) / 2 = (h : Int) := by omega
      have hh2 : I ≤ h := by omega
      have hh3 : h < J := by omega
      have hhn : h < n := by omega
      obtain ⟨x, hx⟩ : ∃ x, X[h - a]? = some x := ⟨_, List.getElem?_eq_getElem (by have := Hm.out; omega)⟩
      have hiy : (pre ++ X ++ [y] ++ suf)[m]? = some y := by
        have e : (pre ++ X).length = m := by rw [List.length_append, Ha.out, Hm.out]
        rw [List.append_assoc, List.getElem?_append_right (by omega), e, Nat.sub_self]; rfl
      have hix : (pre ++ X ++ [y] ++ suf)[h]? = some x := by
        rw [List.append_assoc, List.append_assoc, List.getElem?_append_right (by have := Ha.out; omega), Ha.out, List.getElem?_append_left (by have := Hm.out; omega)]
        exact hx
      have hln := hW.out.len
      obtain ⟨x0, x1, x2, x3, x4⟩ := Row.cellAt hW.out.row hln hix
      obtain ⟨y0, y1, y2, y3, y4⟩ := Row.cellAt hW.out.row hln hiy
      have hcm := Lib.hid fun W h => order_any y x gb gs W h
      have Hx2 := Lib.hid hx
      obtain ⟨z, hz⟩ : ∃ z, cmpC y x = z := ⟨_, rfl⟩
      rw [hz] at hcm
      have Hz := Lib.hid hz
      have hgl : g < wr.heap.size := World.block_lt_of_cell? _ _ x0
      clear hz hx hix hiy hln hh
      have hst : h < 4611686018427387904 := by omega
      by_cases hneg : z < 0
      · have hneg1 : decide (z < 0) = true := by simpa using hneg
        go_wp2
        refine wp_region_below (by kernel_rfl) (by kernel_rfl) (fun hkept => ?_)
        obtain ⟨r0, rf0⟩ := hkept (g) (by go_size); clear hkept
        repeat (any_goals (first | go_big_quiet_step (first | (go_at_call 62; exact Calls.regrown_of (hcm.out _ (hW.out.ord.below (below_regrown _ _ _))))) | quiet_step (first | (go_at_call 62; exact Calls.regrown_of (hcm.out _ (hW.out.ord.below (below_regrown _ _ _))))) | (refine wpQuiet_step (fun K hK => ?_); go_simp; split <;> (refine hK _ ?_; clear hK K))))
        all_goals (refine wpQuiet_nil ?_; intro w5 hb; obtain ⟨hB, hS, hk⟩ := after (B := wr.heap.size) (w := wr) (by go_grown) (by go_size) hb; obtain ⟨c0, f0, z0⟩ := hk (g) (by go_size); clear hk hb r0 rf0)
        go_wp2
        exact ⟨⟨I, h, rfl, rfl, by omega, by omega, by omega, Lib.hid (hC.out.down Hx.out (fun _ _ h1 h2 => leC_trans h1 h2) Hx2.out (by unfold leC; rw [Hz.out]; omega)), Lib.hid (hW.out.below hB), Lib.hid (gb_below hG.out hB)⟩, by simp [intOf]; omega⟩
      · have hneg1 : decide (z < 0) = false := by simpa using hneg
        go_wp2
        refine wp_region_below (by kernel_rfl) (by kernel_rfl) (fun hkept => ?_)
        obtain ⟨r0, rf0⟩ := hkept (g) (by go_size); clear hkept
        repeat (any_goals (first | go_big_quiet_step (first | (go_at_call 62; exact Calls.regrown_of (hcm.out _ (hW.out.ord.below (below_regrown _ _ _))))) | quiet_step (first | (go_at_call 62; exact Calls.regrown_of (hcm.out _ (hW.out.ord.below (below_regrown _ _ _))))) | (refine wpQuiet_step (fun K hK => ?_); go_simp; split <;> (refine hK _ ?_; clear hK K))))
        all_goals (refine wpQuiet_nil ?_; intro w5 hb; obtain ⟨hB, hS, hk⟩ := after (B := wr.heap.size) (w := wr) (by go_grown) (by go_size) hb; obtain ⟨c0, f0, z0⟩ := hk (g) (by go_size); clear hk hb r0 rf0)
        go_wp2
        exact ⟨⟨h + 1, J, by go_num, rfl, by omega, by omega, hJ, Lib.hid (by
          have := hC.out.up Hx.out (fun _ _ h1 h2 => leC_trans h1 h2) Hx2.out (by unfold leC; rw [Hz.out]; omega)
          rwa [show h - a + 1 = h + 1 - a by omega] at this), Lib.hid (hW.out.below hB), Lib.hid (gb_below hG.out hB)⟩, by simp [intOf]; omega⟩
    · obtain rfl : I = J := by omega
      clear hlt hIJ
      obtain ⟨wo, rfl⟩ : ∃ wo : World, wo = wr := ⟨_, rfl⟩
      go_wp2
      go_loopw [17] (fun k wr => ∃ K : Nat, k = .int .i64 K ∧ I ≤ K ∧ K ≤ m ∧ Hid (SortW wr B g n cap gb gs (pre ++ (X.take (K - a) ++ [y] ++ X.drop (K - a)) ++ suf)) ∧ Hid (w.grownBy wr (some g))) (fun k _ => (intOf k).toNat)
      case atStart => exact ⟨m, rfl, by omega, by omega, Lib.hid (by have := hW.out; rw [List.take_of_length_le (by have := Hm.out; omega), List.drop_eq_nil_of_le (by have := Hm.out; omega)]; simpa only [List.append_nil, List.append_assoc] using this), hG⟩
      case round =>
        obtain ⟨K, rfl, hK, hKm, hS2, hG2⟩ := hrel
        by_cases hlt : I < K
        · obtain ⟨K', rfl⟩ : ∃ K', K = K' + 1 := ⟨K - 1, by omega⟩
          have hd2 : decide ((I : Int) < (K' : Int) + 1) = true := by simp; omega
          obtain ⟨x, hx⟩ : ∃ x, X[K' - a]? = some x := ⟨_, List.getElem?_eq_getElem (by have := Hm.out; omega)⟩
          have hln := hS2.out.len
          have hs : K' + 1 - a = K' - a + 1 := by omega
          have e0 : pre ++ (X.take (K' + 1 - a) ++ [y] ++ X.drop (K' + 1 - a)) ++ suf = (pre ++ X.take (K' - a)) ++ x :: ([] ++ y :: (X.drop (K' - a + 1) ++ suf)) := by rw [hs, take_at hx]; simp
          have e3 : pre ++ (X.take (K' - a) ++ [y] ++ X.drop (K' - a)) ++ suf = (pre ++ X.take (K' - a)) ++ y :: ([] ++ x :: (X.drop (K' - a + 1) ++ suf)) := by
            rw [drop_at hx]; simp
          have e1 : K' = (pre ++ X.take (K' - a)).length := by have := Hm.out; rw [List.length_append, List.length_take, Ha.out]; omega
          have e2 : K' + 1 = (pre ++ X.take (K' - a)).length + 1 + ([] : List CellA).length := by rw [← e1]; rfl
          have hix : (pre ++ (X.take (K' + 1 - a) ++ [y] ++ X.drop (K' + 1 - a)) ++ suf)[K']? = some x := by rw [e0, List.getElem?_append_right (by omega), ← e1, Nat.sub_self]; rfl
          have hiy : (pre ++ (X.take (K' + 1 - a) ++ [y] ++ X.drop (K' + 1 - a)) ++ suf)[K' + 1]? = some y := by rw [e0, List.getElem?_append_right (by omega), ← e1, show K' + 1 - K' = 1 by omega]; rfl
          have hsw : Hid (((pre ++ (X.take (K' + 1 - a) ++ [y] ++ X.drop (K' + 1 - a)) ++ suf).set (K' + 1) x).set K' y = pre ++ (X.take (K' - a) ++ [y] ++ X.drop (K' - a)) ++ suf) := Lib.hid (by
            rw [e0, e3]; exact set_two' _ _ _ _ _ _ _ e1 e2)
          obtain ⟨x0, x1, x2, x3, x4⟩ := Row.cellAt hS2.out.row hln hix
          obtain ⟨y0, y1, y2, y3, y4⟩ := Row.cellAt hS2.out.row hln hiy
          obtain ⟨fx0, fx1, fx2, fx3, fx4⟩ := Row.cellFree hS2.out.row hln (i := K') (by omega)
          obtain ⟨fy0, fy1, fy2, fy3, fy4⟩ := Row.cellFree hS2.out.row hln (i := K' + 1) (by omega)
          have hR5 := Lib.hid ((Row.storeC hS2.out.row hln (i := K' + 1) (by omega) x).storeC (by rw [List.length_set]; exact hln) (i := K') (by omega) y).drew
          have hG6 := Lib.hid (gb_drew (gb_setC (gb_setC hG2.out (o := (K' + 1) * 5) x) (o := K' * 5) y))
          have hln2 := Lib.hid (show (((pre ++ (X.take (K' + 1 - a) ++ [y] ++ X.drop (K' + 1 - a)) ++ suf).set (K' + 1) x).set K' y).length = n by rw [List.length_set, List.length_set]; exact hln)
          have hgl : g < wr.heap.size := World.block_lt_of_cell? _ _ x0
          clear hx hix hiy e1 e2 e0 e3 hln hs
          go_wp2
          go_region
          go_wp2
          have hR6 := hR5.out
          have hG7 := hG6.out
          have hln3 := hln2.out
          rw [hsw.out] at hR6 hln3
          simp only [setC] at hR6 hG7
          exact ⟨⟨K', by go_num, by omega, by omega, Lib.hid ⟨hR6, hln3, Hrow.out.ord.grown hG7 h1 h2⟩, Lib.hid hG7⟩, by simp [intOf]⟩
        · obtain rfl : I = K := by omega
          have hres : Hid (IsSort (X.take (I - a) ++ [y] ++ X.drop (I - a)) (X ++ [y])) := Lib.hid (by
            have c := hC.out
            have := merge_one_right (y := y) (x1 := X.take (I - a)) (x2 := X.drop (I - a)) (by rw [List.take_append_drop]; exact Hx.out) (fun x hx => by have := c.hi x hx; unfold leC at this; omega) c.lo
            rw [List.take_append_drop] at this
            simpa using this)
          go_wp2
          go_returns
          exact ⟨rfl, ⟨_, hres.out, hS2.out⟩, hG2.out⟩

end Go.Proofs.Ytehbikofoidjhaa
