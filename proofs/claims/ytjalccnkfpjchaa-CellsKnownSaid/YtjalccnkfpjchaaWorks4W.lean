/-
  The walk of acreagelaw04.works: the chapter's first rows.
-/
import Derived.Test.YtjalccnkfpjchaaLits
import Derived.Test.YtjalccnkfpjchaaEncW
namespace Go.Proofs.Ytjalccnkfpjchaa
open Go.RowKit

set_option maxHeartbeats 1000000 in
theorem at_any (r : ByteArray) (v : Int) (g : Bool) (w : World) :
    Calls Try.prog 31 #[.string r, .int .u64 v, .bool g] w fun e w' => e = .returned (.agg #[.string r, .string ⟨#[120]⟩, .int .u64 v, .bool g, .string ⟨#[]⟩]) ∧ Below w.heap.size w w' := by
  go_enter Try.func31, Try.ntmps31
  go_wp2
  go_returns
  exact ⟨rfl, by go_grown⟩

/-- cells of the column x -/
def atX (r : UInt8) (v : Int) (g : Bool) : CellA := ⟨⟨#[r]⟩, ⟨#[120]⟩, v, g, ⟨#[]⟩⟩
def wIn : List CellA := [atX 98 1 false, atX 97 1 false, atX 97 2 false, atX 97 2 true]
def wSort : List CellA := [atX 97 2 false, atX 97 1 false, atX 98 1 false]
def wNew : List CellA := [atX 97 2 false, atX 98 1 false]
def wOne : List CellA := [⟨⟨#[97]⟩, ⟨#[120]⟩, 1, false, ⟨#[118]⟩⟩]

theorem lt_one (a b : UInt8) : (([a] : List UInt8) < [b]) ↔ a < b := by
  constructor
  · intro h; cases h with
    | rel h => exact h
    | cons h => cases h
  · intro h; exact List.Lex.rel h
theorem cmp_at (r q : UInt8) (v u : Int) (g h : Bool) : cmpC (atX r v g) (atX q u h) = orI (if r < q then -1 else if q < r then 1 else 0) 0 (cmpN u v) := by
  simp only [cmpC, atX, Lib.toList_data, cmpL_eq]
  congr 1
  simp only [cmpL, lt_one]
theorem w_sort : sortL wIn = wSort := by
  simp [sortL, isort, isR, insR, wIn, wSort, cmp_at, cmpN, orI, compactL, keepF, sameK]
theorem w_new : newestL wIn = wNew := by
  rw [newestL, w_sort]
  simp [wSort, wNew, compactL, keepF, samePl, atX]
theorem w_one : encL wOne = [1, 1, 97, 1, 120, 1, 0, 1, 118] := by
  have z1 : (⟨#[97]⟩ : ByteArray).size = 1 := rfl
  have z2 : (⟨#[120]⟩ : ByteArray).size = 1 := rfl
  have z3 : (⟨#[118]⟩ : ByteArray).size = 1 := rfl
  simp [encL, encC, wOne, numW, numL_small, Lib.toList_data, z1, z2, z3]
theorem w_ok : ∀ c ∈ wOne, c.Ok := by
  intro c hc
  simp only [wOne, List.mem_singleton] at hc
  subst hc
  exact ⟨by decide, by decide, by decide, by decide, by decide⟩
theorem w_bad : wOne.any badC = false := by
  simp [wOne, badC, cellL, storedL, Lib.toList_data]

theorem encode_one (ao : Option Addr) (cap : Nat) (w : World) (h : Cells w ao 1 cap wOne) :
    Calls Try.prog 14 #[.slice ao 1 cap] w fun e w' => e = .returned (.tuple #[.string ⟨#[1, 1, 97, 1, 120, 1, 0, 1, 118]⟩, .int .i64 0]) ∧ Below w.heap.size w w' := by
  have := encode_good ao 1 cap wOne w h w_ok w_bad
  rw [w_one, if_neg (by decide)] at this
  exact this
theorem sort_w (ao : Option Addr) (cap : Nat) (w : World) (h : Cells w ao 4 cap wIn) :
    Calls Try.prog 18 #[.slice ao 4 cap] w fun e w' => ∃ v, e = .returned v ∧ Own w' w.heap.size v wSort ∧ Below w.heap.size w w' := by
  have := sort_small ao 4 cap wIn w h (by decide)
  rwa [w_sort] at this
theorem newest_w (ao : Option Addr) (cap : Nat) (w : World) (h : Cells w ao 4 cap wIn) :
    Calls Try.prog 21 #[.slice ao 4 cap] w fun e w' => ∃ v, e = .returned v ∧ Own w' w.heap.size v wNew ∧ Below w.heap.size w w' := by
  have := newest_small ao 4 cap wIn w h (by decide)
  rwa [w_new] at this
theorem same_w (ao ao2 : Option Addr) (n cap n2 cap2 : Nat) (cs : List CellA) (w : World) (h : Cells w ao n cap cs) (h2 : Cells w ao2 n2 cap2 cs) :
    Calls Try.prog 20 #[.slice ao n cap, .slice ao2 n2 cap2] w fun e w' => e = .returned (.bool true) ∧ Below w.heap.size w w' := by
  have := same_any ao ao2 n cap n2 cap2 cs cs w h h2
  rwa [sameC_self] at this

set_option maxRecDepth 100000 in
set_option maxHeartbeats 4000000 in
theorem works_any (w : World) : Calls Try.prog 17 #[] w fun e w' => e = .returned (.bool true) ∧ Below w.heap.size w w' := by
  go_enter Try.func17, Try.ntmps17
  go_wp2_with (first
    | (revert mk10; intro mk10; (go_at_call 31; with_reducible refine (at_any _ _ _ _).mono ?_; rintro e w11 ⟨rfl, hb⟩; obtain ⟨hB, hS, hk⟩ := after (B := w10.heap.size) (w := w10) (by go_grown) (by go_size) hb; clear hb; clear hk))
    | (revert mk6; intro mk6; (go_at_call 31; with_reducible refine (at_any _ _ _ _).mono ?_; rintro e w7 ⟨rfl, hb⟩; obtain ⟨hB, hS, hk⟩ := after (B := w6.heap.size) (w := w6) (by go_grown) (by go_size) hb; clear hb; clear hk))
    | (go_at_call 31; with_reducible refine (at_any _ _ _ _).mono ?_; rintro e w4 ⟨rfl, hb⟩; obtain ⟨hB, hS, hk⟩ := after (B := w.heap.size) (w := w) (by go_grown) (by go_size) hb; clear hb; clear hk)
    | (go_at_call 14; refine (encode_one _ _ _ ?_).mono ?_; exact cells_new _ _ wOne _ 1 _ rfl rfl (by decide) (World.size_alloc _ _).symm; rintro e w5 ⟨rfl, hb⟩; obtain ⟨hB, hS, hk⟩ := after (B := w.heap.size) (w := w) (by go_grown) (by go_size) hb; have HC5 : Hid (Cells w5 (some ⟨w4.heap.size, 0, none⟩) 4 4 wIn) := Lib.hid (Arr.below (by exact Arr.below (cells_new w4 _ wIn _ 4 _ rfl rfl (by decide) rfl) ((Below.refl _ _).alloc (Nat.le_refl _) _)) hb); clear hb hk)
    | (go_at_call 18; refine (sort_w _ _ _ ?_).mono ?_; exact HC5.out; rintro e w6 ⟨v6, rfl, hO, hb⟩; have HC6 := Lib.hid (Arr.below HC5.out hb); have hz6 : w.heap.size ≤ w6.heap.size := (by have := hb.size; omega); have HB6 := Lib.hid (hB.trans (hb.mono hS)); obtain ⟨ao6, cap6, rfl, hc⟩ := hO.cells_n (n := 3) rfl; have HO6 := Lib.hid hc; have mk6 := Lib.hid (rfl : (0 : Nat) = 0); clear hO hb hB hc)
    | (revert mk10; intro mk10; go_at_call 20; refine (same_w _ _ _ _ _ _ wNew _ ?_ ?_).mono ?_; exact Arr.below HO10.out (by go_grown); exact cells_new _ _ wNew _ 2 _ rfl rfl (by decide) rfl; rintro e w12 ⟨rfl, hb⟩; obtain ⟨hB, hS, hk⟩ := after (B := w10.heap.size) (w := w10) (by go_grown) (by go_size) hb; have HB12 := Lib.hid (HB10.out.trans (hB.mono hz10)); clear hb hk)
    | (revert mk6; intro mk6; go_at_call 20; refine (same_w _ _ _ _ _ _ wSort _ ?_ ?_).mono ?_; exact Arr.below HO6.out (by go_grown); exact cells_new _ _ wSort _ 3 _ rfl rfl (by decide) rfl; rintro e w8 ⟨rfl, hb⟩; obtain ⟨hB, hS, hk⟩ := after (B := w6.heap.size) (w := w6) (by go_grown) (by go_size) hb; have HB8 := Lib.hid (HB6.out.trans (hB.mono hz6)); have HC8 := Lib.hid (Arr.below HC6.out hB); have hz8 : w.heap.size ≤ w8.heap.size := Nat.le_trans hz6 hS; clear hb hk)
    | (go_at_call 21; refine (newest_w _ _ _ ?_).mono ?_; exact HC8.out; rintro e w10 ⟨v10, rfl, hO, hb⟩; have hz10 : w.heap.size ≤ w10.heap.size := (by have := hb.size; omega); have HB10 := Lib.hid (HB8.out.trans (hb.mono hz8)); obtain ⟨ao10, cap10, rfl, hc⟩ := hO.cells_n (n := 2) rfl; have HO10 := Lib.hid hc; have mk10 := Lib.hid (rfl : (0 : Nat) = 0); clear hO hb hB hc))
  go_returns
  exact ⟨rfl, HB12.out⟩
end Go.Proofs.Ytjalccnkfpjchaa
