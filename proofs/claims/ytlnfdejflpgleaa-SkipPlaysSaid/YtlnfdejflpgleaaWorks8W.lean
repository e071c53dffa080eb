/-
  The walks of acreagelaw08.at, works.
-/
import Derived.Test.YtlnfdejflpgleaaSL
import Derived.Test.YtlnfdejflpgleaaLits
import Derived.Deep.RegionHeld3
import Derived.Deep.DeepCutAuto
namespace Go.Proofs.Ytlnfdejflpgleaa
open Go.RowKit

set_option maxHeartbeats 1000000 in
theorem at8_any (r : ByteArray) (v : Int) (w : World) :
    Calls Try.prog 22 #[.string r, .int .u64 v] w fun e w' => e = .returned (.agg #[.string r, .string ⟨#[120]⟩, .int .u64 v, .bool false, .string ⟨#[]⟩]) ∧ Below w.heap.size w w' := by
  go_enter Try.func22, Try.ntmps22
  go_wp2
  go_returns
  exact ⟨rfl, by go_grown⟩
def at8 (r : UInt8) (v : Int) : CellA := ⟨⟨#[r]⟩, ⟨#[120]⟩, v, false, ⟨#[]⟩⟩
theorem one_list (r : UInt8) : (⟨#[r]⟩ : ByteArray).toList = [r] := by rw [Lib.toList_data]
theorem nil_list : (⟨#[]⟩ : ByteArray).toList = [] := by rw [Lib.toList_data]
theorem at8_ok (r : UInt8) (v : Int) (h0 : 1 ≤ v) (h1 : v ≤ 1000) : (at8 r v).Ok ∧ cellL (at8 r v) = true := by
  refine ⟨⟨by show 1 ≤ maxLen; unfold maxLen; omega, by show 1 ≤ maxLen; unfold maxLen; omega, by show 0 ≤ maxLen; unfold maxLen; omega, by show 0 ≤ v; omega, by show v ≤ _; omega⟩, ?_⟩
  have h2 : v ≤ 1099511627776 := by omega
  simp [cellL, at8, storedL, one_list, nil_list, h0, h2]
theorem lt_one8 (a b : UInt8) : (([a] : List UInt8) < [b]) ↔ a < b := by
  constructor
  · intro h; cases h with
    | rel h => exact h
    | cons h => cases h
  · intro h; exact List.Lex.rel h
theorem cmp_at8 (r q : UInt8) (v u : Int) : cmpC (at8 r v) (at8 q u) = orI (if r < q then -1 else if q < r then 1 else 0) 0 (cmpN u v) := by
  simp only [cmpC, at8, Lib.toList_data, cmpL_eq]
  congr 1
  simp only [cmpL, lt_one8]
def wl1 : List CH := [(at8 98 1, 3)]
def wl2 : List CH := [(at8 97 1, 1), (at8 98 1, 3)]
def wl3 : List CH := [(at8 97 2, 12), (at8 97 1, 1), (at8 98 1, 3)]
theorem wl1_put : putV (at8 98 1) 3 [] = wl1 := rfl
theorem wl2_put : putV (at8 97 1) 1 wl1 = wl2 := by simp [wl1, wl2, putV, cmp_at8, orI]
theorem wl3_put : putV (at8 97 2) 12 wl2 = wl3 := by simp [wl2, wl3, putV, cmp_at8, orI, cmpN]
theorem wl3_get : getW ⟨#[97]⟩ ⟨#[120]⟩ wl3 = .tuple #[.agg #[.string ⟨#[97]⟩, .string ⟨#[120]⟩, .int .u64 2, .bool false, .string ⟨#[]⟩], .bool true] := by
  simp [getW, wl3, aheadP, at8, one_list]

set_option maxRecDepth 100000 in
set_option maxHeartbeats 4000000 in
theorem works8_any (w : World) : Calls Try.prog 8 #[] w fun e w' => e = .returned (.bool true) ∧ Below w.heap.size w w' := by
  have K1 := Lib.hid (at8_ok 98 1 (by decide) (by decide))
  have K2 := Lib.hid (at8_ok 97 1 (by decide) (by decide))
  have K3 := Lib.hid (at8_ok 97 2 (by decide) (by decide))
  go_enter Try.func8, Try.ntmps8
  go_wp2_with fail
  refine (new_sl _).mono ?_
  rintro e w1 ⟨rfl, F0, hS0, hF0, hb⟩
  have HS0 := Lib.hid hS0
  have HF0 := Lib.hid hF0
  have B1 := Lib.hid hb
  have z1 := hb.size
  clear hS0 hF0 hb
  go_wp2_with fail
  refine (at8_any _ _ _).mono ?_
  rintro e w2 ⟨rfl, hb⟩
  have z2 := hb.size
  have HS0 := Lib.hid (HS0.out.below hb)
  have B2 := Lib.hid (B1.out.trans (hb.mono z1))
  clear hb B1
  go_wp2_with fail
  refine (put_sl (at8 98 1) K1.out.1 K1.out.2 3 (by decide) (by decide) _ _ _ _ HS0.out (by decide)).mono ?_
  rintro e w3 ⟨rfl, F1, hS1, hk, hf⟩
  have z3 := hk.size
  have HF1 : Hid (∀ k, F1 k → w.heap.size ≤ k) := Lib.hid fun k h => (hf k h).elim (HF0.out k) (fun h => by omega)
  have B3 := Lib.hid (B2.out.trans (hk.below HF0.out (by omega)))
  rw [wl1_put] at hS1
  have HS1 := Lib.hid hS1
  clear hS1 hk hf HS0 HF0 B2
  go_wp2_with fail
  refine (at8_any _ _ _).mono ?_
  rintro e w4 ⟨rfl, hb⟩
  have z4 := hb.size
  have HS1 := Lib.hid (HS1.out.below hb)
  have B4 := Lib.hid (B3.out.trans (hb.mono (by omega)))
  clear hb B3
  go_wp2_with fail
  refine (put_sl (at8 97 1) K2.out.1 K2.out.2 1 (by decide) (by decide) _ _ _ _ HS1.out (by decide)).mono ?_
  rintro e w5 ⟨rfl, F2, hS2, hk, hf⟩
  have z5 := hk.size
  have HF2 : Hid (∀ k, F2 k → w.heap.size ≤ k) := Lib.hid fun k h => (hf k h).elim (HF1.out k) (fun h => by omega)
  have B5 := Lib.hid (B4.out.trans (hk.below HF1.out (by omega)))
  rw [wl2_put] at hS2
  have HS2 := Lib.hid hS2
  clear hS2 hk hf HS1 HF1 B4
  go_wp2_with fail
  refine (at8_any _ _ _).mono ?_
  rintro e w6 ⟨rfl, hb⟩
  have z6 := hb.size
  have HS2 := Lib.hid (HS2.out.below hb)
  have B6 := Lib.hid (B5.out.trans (hb.mono (by omega)))
  clear hb B5
  go_wp2_with fail
  refine (put_sl (at8 97 2) K3.out.1 K3.out.2 12 (by decide) (by decide) _ _ _ _ HS2.out (by decide)).mono ?_
  rintro e w7 ⟨rfl, F3, hS3, hk, hf⟩
  have z7 := hk.size
  have B7 := Lib.hid (B6.out.trans (hk.below HF2.out (by omega)))
  rw [wl3_put] at hS3
  have HS3 := Lib.hid hS3
  clear hS3 hk hf HS2 HF2 B6
  go_wp2_with fail
  refine (get_sl _ _ _ _ _ _ HS3.out).mono ?_
  rw [wl3_get]
  rintro e w8 ⟨rfl, hb⟩
  have z8 := hb.size
  have HS3 := Lib.hid (HS3.out.below hb)
  have B8 := Lib.hid (B7.out.trans (hb.mono (by omega)))
  clear hb B7
  go_wp2_with fail
  have x0 : (w8.alloc (.cells #[.string ⟨#[97]⟩, .string ⟨#[120]⟩, .int .u64 2, .bool false, .string ⟨#[]⟩] 26)).heap.size = w8.heap.size + 1 := by simp
  obtain ⟨WA, hWA⟩ : ∃ X : World, X = w8.alloc (.cells #[.string ⟨#[97]⟩, .string ⟨#[120]⟩, .int .u64 2, .bool false, .string ⟨#[]⟩] 26) := ⟨_, rfl⟩
  rw [← hWA] at x0 ⊢
  obtain ⟨g, hg⟩ : ∃ g, g = w8.heap.size := ⟨_, rfl⟩
  have hgA : g < WA.heap.size := by omega
  have hBx : Below w8.heap.size w8 WA := by rw [hWA]; exact (Below.refl _ _).alloc (Nat.le_refl _) _
  have HSA := Lib.hid (HS3.out.below hBx)
  have BA := Lib.hid (B8.out.trans (hBx.mono (by omega)))
  have d0 : WA.cell? ⟨g, 0, none⟩ = some (.string ⟨#[97]⟩) ∧ WA.cell? ⟨g, 1, none⟩ = some (.string ⟨#[120]⟩) ∧ WA.cell? ⟨g, 2, none⟩ = some (.int .u64 2) ∧ WA.cell? ⟨g, 3, none⟩ = some (.bool false) ∧ WA.cell? ⟨g, 4, none⟩ = some (.string ⟨#[]⟩) := by
    rw [hWA, hg]; exact ⟨by go_simp, by go_simp, by go_simp, by go_simp, by go_simp⟩
  rw [← hg]
  have HS : Hid (∀ W, Below WA.heap.size WA W → W.cell? ⟨g, 0, none⟩ = some (.string ⟨#[97]⟩) ∧ W.cell? ⟨g, 1, none⟩ = some (.string ⟨#[120]⟩) ∧ W.cell? ⟨g, 2, none⟩ = some (.int .u64 2) ∧ W.cell? ⟨g, 3, none⟩ = some (.bool false) ∧ W.cell? ⟨g, 4, none⟩ = some (.string ⟨#[]⟩)) :=
    Lib.hid fun W h => ⟨(h.cell (p := ⟨g, _, none⟩) hgA).trans d0.1, (h.cell (p := ⟨g, _, none⟩) hgA).trans d0.2.1, (h.cell (p := ⟨g, _, none⟩) hgA).trans d0.2.2.1, (h.cell (p := ⟨g, _, none⟩) hgA).trans d0.2.2.2.1, (h.cell (p := ⟨g, _, none⟩) hgA).trans d0.2.2.2.2⟩
  clear d0 hWA hg HS3 B8 hBx x0 z1 z2 z3 z4 z5 z6 z7 z8
  have hBA := Below.refl WA.heap.size WA
  have zA := Nat.le_refl WA.heap.size
  have mk0 := Lib.hid trivial
  go_region_held3 (fun W => W.cell? ⟨g, 0, none⟩ = some (.string ⟨#[97]⟩) ∧ W.cell? ⟨g, 1, none⟩ = some (.string ⟨#[120]⟩) ∧ W.cell? ⟨g, 2, none⟩ = some (.int .u64 2) ∧ W.cell? ⟨g, 3, none⟩ = some (.bool false) ∧ W.cell? ⟨g, 4, none⟩ = some (.string ⟨#[]⟩)) (exact HS.out _ (by go_grown)) (first
    | (revert mk0; intro mk0; clear mk0; go_at_call 10; refine (list_sl _ _ _ _ (HSA.out.below (by go_grown)) (by decide)).mono ?_; rintro e w9 ⟨v, rfl, ho, hb⟩; have hBAn : Below WA.heap.size WA w9 := Below.trans (by go_grown) (hb.mono (by go_size)); clear hBA zA; have hBA := hBAn; have zA := hBA.size; clear hBAn; obtain ⟨ao9, cap9, rfl, hl⟩ := Own.cells_n (n := 3) ho rfl; have OL := Lib.hid (show Cells w9 ao9 3 cap9 (wl3.map Prod.fst) from hl); have hOL := Below.refl w9.heap.size w9; have zL := Nat.le_refl w9.heap.size; clear ho hl; clear hb; have mk1 := Lib.hid trivial)
    | (revert mk1; intro mk1; clear mk1; go_at_call 22; refine (at8_any _ _ _).mono ?_; rintro e w10 ⟨rfl, hb⟩; have hBAn : Below WA.heap.size WA w10 := Below.trans (by go_grown) (hb.mono (by go_size)); clear hBA zA; have hBA := hBAn; have zA := hBA.size; clear hBAn; have hOLn : Below w9.heap.size w9 w10 := Below.trans (by go_grown) (hb.mono (by go_size)); clear hOL zL; have hOL := hOLn; have zL := hOL.size; clear hOLn; clear hb; have mk2 := Lib.hid trivial)
    | (revert mk2; intro mk2; clear mk2; go_at_call 22; refine (at8_any _ _ _).mono ?_; rintro e w11 ⟨rfl, hb⟩; have hBAn : Below WA.heap.size WA w11 := Below.trans (by go_grown) (hb.mono (by go_size)); clear hBA zA; have hBA := hBAn; have zA := hBA.size; clear hBAn; have hOLn : Below w9.heap.size w9 w11 := Below.trans (by go_grown) (hb.mono (by go_size)); clear hOL zL; have hOL := hOLn; have zL := hOL.size; clear hOLn; clear hb; have mk3 := Lib.hid trivial)
    | (revert mk3; intro mk3; clear mk3; go_at_call 22; refine (at8_any _ _ _).mono ?_; rintro e w12 ⟨rfl, hb⟩; have hBAn : Below WA.heap.size WA w12 := Below.trans (by go_grown) (hb.mono (by go_size)); clear hBA zA; have hBA := hBAn; have zA := hBA.size; clear hBAn; have hOLn : Below w9.heap.size w9 w12 := Below.trans (by go_grown) (hb.mono (by go_size)); clear hOL zL; have hOL := hOLn; have zL := hOL.size; clear hOLn; clear hb; have mk4 := Lib.hid trivial)
    | (revert mk4; intro mk4; clear mk4; go_at_call 24; refine (same8_any _ _ 3 _ 3 _ (wl3.map Prod.fst) (wl3.map Prod.fst) _ (Arr.below OL.out (by go_grown)) (cells_new _ _ (wl3.map Prod.fst) _ 3 _ (by rfl) (by decide) (by decide) rfl)).mono ?_; rintro e w13 ⟨rfl, hb⟩; rw [sameC_self]; have hBAn : Below WA.heap.size WA w13 := Below.trans (by go_grown) (hb.mono (by go_size)); clear hBA zA; have hBA := hBAn; have zA := hBA.size; clear hBAn; clear OL hOL zL; clear hb; have mk5 := Lib.hid trivial)
    | (revert mk5; intro mk5; clear mk5; go_at_call 22; refine (at8_any _ _ _).mono ?_; rintro e w14 ⟨rfl, hb⟩; have hBAn : Below WA.heap.size WA w14 := Below.trans (by go_grown) (hb.mono (by go_size)); clear hBA zA; have hBA := hBAn; have zA := hBA.size; clear hBAn; clear hb; have mk6 := Lib.hid trivial)
    | (revert mk6; intro mk6; clear mk6; go_at_call 17; refine (len_sl _ _ _ _ (HSA.out.below (by go_grown))).mono ?_; rintro e w15 ⟨rfl, rfl⟩; have hb := Below.refl w14.heap.size w14; clear hb; have mk7 := Lib.hid trivial))
  all_goals (go_wp2_with fail; go_returns; exact ⟨rfl, BA.out.trans (hBA.mono BA.out.size)⟩)
end Go.Proofs.Ytlnfdejflpgleaa
