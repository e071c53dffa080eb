/-
  The walk of acreagelaw10.works: the chapter's third row.
-/
import Derived.Test.YtfkghpomcaonfaaFindW
namespace Go.Proofs.Ytfkghpomcaonfaa
open Go.RowKit

def threeB : List CellA := [⟨⟨#[97, 98]⟩, ⟨#[120]⟩, 2, false, ⟨#[118]⟩⟩, ⟨⟨#[97, 98]⟩, ⟨#[120]⟩, 1, true, ⟨#[]⟩⟩, ⟨⟨#[97, 98, 99]⟩, ⟨#[121]⟩, 3, false, ⟨#[]⟩⟩]
def threeS : ByteArray := ⟨#[0, 2, 97, 98, 1, 120, 2, 0, 1, 118, 2, 0, 1, 120, 1, 1, 0, 2, 1, 99, 1, 121, 3, 0, 0, 0, 0, 0, 1]⟩
theorem three_eq : blockL threeB = [0, 2, 97, 98, 1, 120, 2, 0, 1, 118, 2, 0, 1, 120, 1, 1, 0, 2, 1, 99, 1, 121, 3, 0, 0, 0, 0, 0, 1] := by
  have z1 : (⟨#[97, 98]⟩ : ByteArray).toList = [97, 98] := Lib.toList_data _
  have z2 : (⟨#[120]⟩ : ByteArray).toList = [120] := Lib.toList_data _
  have z3 : (⟨#[118]⟩ : ByteArray).toList = [118] := Lib.toList_data _
  have z4 : (⟨#[97, 98, 99]⟩ : ByteArray).toList = [97, 98, 99] := Lib.toList_data _
  have z5 : (⟨#[121]⟩ : ByteArray).toList = [121] := Lib.toList_data _
  have z6 : (⟨#[]⟩ : ByteArray).toList = [] := Lib.toList_data _
  simp [blockL, threeB, bodyTo, placesTo, aheadB, layL, twoL, txtL, numW, numL_small, z1, z2, z3, z4, z5, z6, alikeL]
theorem three_good : wrongB threeB = false := by
  have z1 : (⟨#[97, 98]⟩ : ByteArray).toList = [97, 98] := Lib.toList_data _
  have z2 : (⟨#[120]⟩ : ByteArray).toList = [120] := Lib.toList_data _
  have z3 : (⟨#[118]⟩ : ByteArray).toList = [118] := Lib.toList_data _
  have z4 : (⟨#[97, 98, 99]⟩ : ByteArray).toList = [97, 98, 99] := Lib.toList_data _
  have z5 : (⟨#[121]⟩ : ByteArray).toList = [121] := Lib.toList_data _
  have z6 : (⟨#[]⟩ : ByteArray).toList = [] := Lib.toList_data _
  have l1 : ([97, 98] : List UInt8) < [97, 98, 99] := by decide
  simp [wrongB, wrongAt, threeB, cellL, storedL, cmpC, cmpL, cmpN, orI, z1, z2, z3, z4, z5, z6, List.range, List.range.loop, l1]
theorem three_block : BlockOf threeS.toList threeB := by
  have e : threeS.toList = blockL threeB := by rw [three_eq]; exact Lib.toList_data _
  refine ⟨three_good, ?_, by rw [e, three_eq]; decide, e⟩
  have : (bodyTo threeB threeB.length).length ≤ (blockL threeB).length := by unfold blockL; simp
  rw [three_eq] at this
  exact Nat.le_trans this (by decide)
theorem three_find : findL (⟨#[97, 98]⟩ : ByteArray).toList (⟨#[120]⟩ : ByteArray).toList threeB = some ⟨⟨#[97, 98]⟩, ⟨#[120]⟩, 2, false, ⟨#[118]⟩⟩ := by
  simp [findL, threeB, isC]
theorem three_ok : ∀ c ∈ threeB, c.Ok := by
  intro c hc
  simp only [threeB, List.mem_cons, List.not_mem_nil, or_false] at hc
  rcases hc with rfl | rfl | rfl
  all_goals exact ⟨by decide, by decide, by decide, by decide, by decide⟩
set_option maxRecDepth 100000 in
set_option maxHeartbeats 1000000 in
theorem three_any (w : World) : Calls Try.prog 33 #[] w fun e w' => e = .returned (.tuple #[.slice (some ⟨w.heap.size, 0, none⟩) 3 3, .string threeS]) ∧ Cells w' (some ⟨w.heap.size, 0, none⟩) 3 3 threeB ∧ Below w.heap.size w w' := by
  go_enter Try.func33, Try.ntmps33
  go_wp2
  go_returns
  exact ⟨rfl, cells_new _ _ threeB _ 3 _ rfl rfl (by decide) rfl, by go_grown⟩
theorem three_build (ao : Option Addr) (cap : Nat) (w : World) (h : Cells w ao 3 cap threeB) :
    Calls Try.prog 11 #[.slice ao 3 cap] w fun e w' => e = .returned (.tuple #[.string threeS, .int .i64 0]) ∧ Below w.heap.size w w' := by
  have := build_any ao 3 cap threeB w h three_ok
  rw [blockOf_iff.1 three_block, ofL_self] at this
  exact this
theorem three_read (w : World) : Calls Try.prog 15 #[.string threeS] w fun e w' => ∃ ao cap, e = .returned (.tuple #[.slice ao 3 cap, .int .i64 0]) ∧ Cells w' ao 3 cap threeB ∧ Below w.heap.size w w' :=
  (readb_yes threeS threeB three_block w).mono fun e w' ⟨ao, cap, he, ho, hb⟩ => by
    obtain ⟨ao', cap', e', hC⟩ := ho.cells
    cases e'
    exact ⟨ao, cap, he, hC, hb⟩
theorem three_found (w : World) : Calls Try.prog 17 #[.string threeS, .string ⟨#[97, 98]⟩, .string ⟨#[120]⟩] w fun e w' => e = .returned (.tuple #[.agg #[.string ⟨#[97, 98]⟩, .string ⟨#[120]⟩, .int .u64 2, .bool false, .string ⟨#[118]⟩], .bool true, .int .i64 0]) ∧ Below w.heap.size w w' :=
  find_yes threeS _ _ threeB three_block w _ (fun c w' h hb => by rw [three_find] at h; cases h; exact ⟨rfl, hb⟩) (fun w' h hb => by rw [three_find] at h; cases h)
theorem three_same (ao ao2 : Option Addr) (n cap n2 cap2 : Nat) (w : World) (h : Cells w ao n cap threeB) (h2 : Cells w ao2 n2 cap2 threeB) :
    Calls Try.prog 20 #[.slice ao n cap, .slice ao2 n2 cap2] w fun e w' => e = .returned (.bool true) ∧ Below w.heap.size w w' := by
  have := same10_any ao ao2 n cap n2 cap2 threeB threeB w h h2
  rwa [sameC_self] at this
set_option maxRecDepth 100000 in
set_option maxHeartbeats 4000000 in
theorem works10_any (w : World) : Calls Try.prog 14 #[] w fun e w' => e = .returned (.bool true) ∧ Below w.heap.size w w' := by
  go_enter Try.func14, Try.ntmps14
  go_wp2_with fail
  refine (three_any w).mono ?_
  rintro e w1 ⟨rfl, hC, hb1⟩
  have HC1 := Lib.hid hC
  have HB1 := Lib.hid hb1
  have hs1 := hb1.size
  obtain ⟨g, hg⟩ : ∃ g, g = w.heap.size := ⟨_, rfl⟩
  rw [← hg] at HC1 ⊢
  have Hg := Lib.hid hg
  clear hC hb1 hg
  go_wp2_with fail
  refine (three_build _ _ w1 HC1.out).mono ?_
  rintro e w2 ⟨rfl, hb⟩
  have HC2 := Lib.hid (Arr.below HC1.out hb)
  have HB2 := Lib.hid (HB1.out.trans (hb.mono hs1))
  have hs2 := HB2.out.size
  clear HC1 HB1 hb hs1
  go_wp2_with fail
  refine (three_read w2).mono ?_
  rintro e w3 ⟨ao3, cap3, rfl, hR, hb⟩
  have HC3 := Lib.hid (Arr.below HC2.out hb)
  have HR3 := Lib.hid hR
  have HB3 := Lib.hid (HB2.out.trans (hb.mono hs2))
  have hs3 := HB3.out.size
  clear HC2 HB2 hb hs2 hR
  go_wp2_with fail
  refine (three_found w3).mono ?_
  rintro e w4 ⟨rfl, hb⟩
  have HC4 := Lib.hid (Arr.below HC3.out hb)
  have HR4 := Lib.hid (Arr.below HR3.out hb)
  have HB4 := Lib.hid (HB3.out.trans (hb.mono hs3))
  have hs4 := HB4.out.size
  clear HC3 HR3 HB3 hb hs3
  have hx : threeB[0]? = some ⟨⟨#[97, 98]⟩, ⟨#[120]⟩, 2, false, ⟨#[118]⟩⟩ := rfl
  obtain ⟨b, off, e0, hbl, ⟨x0, x1, x2, x3, x4⟩⟩ := Cells.at_ HC4.out hx
  cases e0
  simp only [Nat.zero_mul, Nat.add_zero, Nat.zero_add] at x0 x1 x2 x3 x4
  clear hx
  go_wp2_with fail
  have hbn : ¬ g = w4.heap.size := by omega
  obtain ⟨WA, hWA⟩ : ∃ W : World, W = w4.alloc (.cells #[.string ⟨#[97, 98]⟩, .string ⟨#[120]⟩, .int .u64 2, .bool false, .string ⟨#[118]⟩] 35) := ⟨_, rfl⟩
  obtain ⟨q, hq⟩ : ∃ q, q = w4.heap.size := ⟨_, rfl⟩
  have d0 : WA.cell? ⟨q, 0, none⟩ = some (.string ⟨#[97, 98]⟩) := by rw [hWA, hq]; go_simp
  have d1 : WA.cell? ⟨q, 1, none⟩ = some (.string ⟨#[120]⟩) := by rw [hWA, hq]; go_simp
  have d2 : WA.cell? ⟨q, 2, none⟩ = some (.int .u64 2) := by rw [hWA, hq]; go_simp
  have d3 : WA.cell? ⟨q, 3, none⟩ = some (.bool false) := by rw [hWA, hq]; go_simp
  have d4 : WA.cell? ⟨q, 4, none⟩ = some (.string ⟨#[118]⟩) := by rw [hWA, hq]; go_simp
  have z0 : WA.cell? ⟨g, 0, none⟩ = some (.string ⟨#[97, 98]⟩) := by rw [hWA]; go_simp
  have z1 : WA.cell? ⟨g, 1, none⟩ = some (.string ⟨#[120]⟩) := by rw [hWA]; go_simp
  have z2 : WA.cell? ⟨g, 2, none⟩ = some (.int .u64 2) := by rw [hWA]; go_simp
  have z3 : WA.cell? ⟨g, 3, none⟩ = some (.bool false) := by rw [hWA]; go_simp
  have z4 : WA.cell? ⟨g, 4, none⟩ = some (.string ⟨#[118]⟩) := by rw [hWA]; go_simp
  have HbA : Hid (Below w4.heap.size w4 WA) := Lib.hid (by rw [hWA]; exact (Below.refl _ _).alloc (Nat.le_refl _) _)
  have zq : q < WA.heap.size := by rw [hWA, hq, World.size_alloc]; omega
  have zg : g < WA.heap.size := by rw [hWA, World.size_alloc]; omega
  have HCA := Lib.hid (Arr.below HC4.out HbA.out)
  have HRA := Lib.hid (Arr.below HR4.out HbA.out)
  have HBA := Lib.hid (HB4.out.trans (HbA.out.mono hs4))
  rw [← hWA, ← hq]
  clear hWA hq x0 x1 x2 x3 x4 HC4 HR4 HB4 HbA hbl hbn
  have hdec : threeS.toList = [0, 2, 97, 98, 1, 120, 2, 0, 1, 118, 2, 0, 1, 120, 1, 1, 0, 2, 1, 99, 1, 121, 3, 0, 0, 0, 0, 0, 1] := Lib.toList_data _
  have hself : (threeS.toList == threeS.toList) = true := by simp
  obtain ⟨S, hS⟩ : ∃ S, S = threeS := ⟨_, rfl⟩
  rw [← hS] at hself ⊢
  clear hdec hS
  refine wp_region_below (by kernel_rfl) (by kernel_rfl) (fun hkept => ?_)
  obtain ⟨r0, rf0⟩ := hkept (g) (by go_size); obtain ⟨r1, rf1⟩ := hkept (q) (by go_size); clear hkept
  repeat (any_goals (first | go_big_quiet_step (first | (go_at_call 20; exact Calls.regrown_of (three_same _ _ _ _ _ _ _ (Arr.below HRA.out (below_regrown _ _ _)) (Arr.below HCA.out (below_regrown _ _ _))))) | quiet_step (first | (go_at_call 20; exact Calls.regrown_of (three_same _ _ _ _ _ _ _ (Arr.below HRA.out (below_regrown _ _ _)) (Arr.below HCA.out (below_regrown _ _ _))))) | (refine wpQuiet_step (fun K hK => ?_); go_simp; split <;> (refine hK _ ?_; clear hK K))))
  all_goals (refine wpQuiet_nil ?_; intro w5 hb; obtain ⟨hB, hS, hk⟩ := after (B := WA.heap.size) (w := WA) (by go_grown) (by go_size) hb; obtain ⟨c0, f0, z0⟩ := hk (g) (by go_size); obtain ⟨c1, f1, z1⟩ := hk (q) (by go_size); clear hk hb r0 rf0 r1 rf1)
  go_wp2
  go_returns
  exact ⟨rfl, HBA.out.trans (hB.mono HBA.out.size)⟩
end Go.Proofs.Ytfkghpomcaonfaa
