/-
  The walk of acreagelaw12.MergeKnown (printed by mkknown12.py).
-/
import Derived.Test.YtehbikofoidjhaaKnown12P
import Derived.Deep.DeepCutAuto
import Derived.Deep.RegionWith
import Derived.Deep.RegionHeld3
namespace Go.Proofs.Ytehbikofoidjhaa
open Go.RowKit

set_option maxRecDepth 100000 in
set_option maxHeartbeats 4000000 in
theorem mergeknown_any (w : World) : Calls Try.prog 6 #[] w fun e w' => e = .returned (.bool true) ∧ Below w.heap.size w w' := by
  go_enter Try.func6, Try.ntmps6
  have B := Lib.hid (Below.refl w.heap.size w)
  have z := Nat.le_refl w.heap.size
  have BS := Lib.hid (Below.refl w.heap.size w)
  have zS := Nat.le_refl w.heap.size
  go_wp2_with fail
  refine (at12_any _ _ _ _).mono ?_
  rintro e w1 ⟨rfl, hb⟩
  have BS := Lib.hid (BS.out.trans (hb.mono zS))
  have zS := BS.out.size
  clear hb
  go_wp2_with fail
  refine (at12_any _ _ _ _).mono ?_
  rintro e w2 ⟨rfl, hb⟩
  have BS := Lib.hid (BS.out.trans (hb.mono zS))
  have zS := BS.out.size
  clear hb
  go_wp2_with fail
  refine (at12_any _ _ _ _).mono ?_
  rintro e w3 ⟨rfl, hb⟩
  have BS := Lib.hid (BS.out.trans (hb.mono zS))
  have zS := BS.out.size
  clear hb
  have B := Lib.hid (B.out.trans (BS.out.mono z))
  have z := B.out.size
  clear BS zS
  go_upto_region 2 with fail
  have LL := Lib.hid (cells_new w3 37 kl _ 3 _ (by rfl) (by decide) (by decide) rfl)
  have B := Lib.hid (B.out.alloc z (.cells #[.string ⟨#[97]⟩, .string ⟨#[120]⟩, .int .u64 1, .bool false, .string ⟨#[]⟩, .string ⟨#[98]⟩, .string ⟨#[120]⟩, .int .u64 1, .bool false, .string ⟨#[]⟩, .string ⟨#[99]⟩, .string ⟨#[120]⟩, .int .u64 1, .bool false, .string ⟨#[]⟩] 37))
  have z := B.out.size
  obtain ⟨g, hg⟩ : ∃ g, g = w3.heap.size := ⟨_, rfl⟩
  rw [← hg] at LL ⊢
  obtain ⟨WA, hWA⟩ : ∃ X : World, X = w3.alloc (.cells #[.string ⟨#[97]⟩, .string ⟨#[120]⟩, .int .u64 1, .bool false, .string ⟨#[]⟩, .string ⟨#[98]⟩, .string ⟨#[120]⟩, .int .u64 1, .bool false, .string ⟨#[]⟩, .string ⟨#[99]⟩, .string ⟨#[120]⟩, .int .u64 1, .bool false, .string ⟨#[]⟩] 37) := ⟨_, rfl⟩
  rw [← hWA] at B z ⊢
  have LL : Hid (Cells WA (some ⟨g, 0, none⟩) 3 3 kl) := Lib.hid (by rw [hWA]; exact LL.out)
  clear hWA hg
  have hgA : g < WA.heap.size := by obtain ⟨b, off, e, hb, _⟩ := Cells.at_ LL.out (i := 0) rfl; cases e; exact hb
  have BA := Lib.hid B.out
  have BS := Lib.hid (Below.refl WA.heap.size WA)
  have zS := Nat.le_refl WA.heap.size
  go_wp2_with fail
  refine (all_gives _ 2 2 (List.replicate 2 none) [] _ (rows_new WA _ (List.replicate 2 none) _ 2 _ (by rfl) rfl (by decide) rfl) (rowsAt_nil _ _) (by decide) (tells_none 2)).mono ?_
  rintro e w4 ⟨q8, rfl, hc, hh, hf, hb⟩
  have Hq8 := Lib.hid (show q8.Here w4 from hh)
  have Cq8 := Lib.hid hc
  have Fq8 : Hid (∀ k, q8.F k → WA.heap.size ≤ k) := Lib.hid (fun k hk => (hf k hk).elim (fun h => (rowsF_nil _ _ h).elim) (fun h => Nat.le_trans ((BS.out.alloc zS _).size) h))
  have BS := Lib.hid ((BS.out.alloc zS _).trans (hb.mono (BS.out.alloc zS _).size))
  have zS := BS.out.size
  clear hc hh hf hb
  have hBA : Below WA.heap.size WA w4 := BS.out
  have hB8 := Below.refl w4.heap.size w4
  have z8 := Nat.le_refl w4.heap.size
  have zA : WA.heap.size ≤ w4.heap.size := zS
  have zA8 : WA.heap.size ≤ w4.heap.size := zS
  clear BS zS B z
  go_upto_region 3 with fail
  have hnq := func_neq (.func q8.f) #[] q8.caps
  have x0 := Cells.at_ LL.out (i := 0) rfl
  obtain ⟨_, _, e0, _, ⟨x00, x01, x02, x03, x04⟩⟩ := x0
  cases e0
  have x1 := Cells.at_ LL.out (i := 1) rfl
  obtain ⟨_, _, e1, _, ⟨x10, x11, x12, x13, x14⟩⟩ := x1
  cases e1
  simp only [kl, atX, Nat.zero_mul, Nat.one_mul, Nat.add_zero, Nat.zero_add, Nat.reduceAdd, Nat.reduceMul] at x00 x01 x02 x03 x04 x10 x11 x12 x13 x14
  have HS : Hid (∀ W, Below WA.heap.size WA W → W.cell? ⟨g, 0, none⟩ = some (.string ⟨#[97]⟩) ∧ W.cell? ⟨g, 1, none⟩ = some (.string ⟨#[120]⟩) ∧ W.cell? ⟨g, 2, none⟩ = some (.int .u64 1) ∧ W.cell? ⟨g, 3, none⟩ = some (.bool false) ∧ W.cell? ⟨g, 4, none⟩ = some (.string ⟨#[]⟩) ∧ W.cell? ⟨g, 5, none⟩ = some (.string ⟨#[98]⟩) ∧ W.cell? ⟨g, 6, none⟩ = some (.string ⟨#[120]⟩) ∧ W.cell? ⟨g, 7, none⟩ = some (.int .u64 1) ∧ W.cell? ⟨g, 8, none⟩ = some (.bool false) ∧ W.cell? ⟨g, 9, none⟩ = some (.string ⟨#[]⟩)) := Lib.hid fun W h => ⟨(h.cell (p := ⟨g, _, none⟩) hgA).trans x00, (h.cell (p := ⟨g, _, none⟩) hgA).trans x01, (h.cell (p := ⟨g, _, none⟩) hgA).trans x02, (h.cell (p := ⟨g, _, none⟩) hgA).trans x03, (h.cell (p := ⟨g, _, none⟩) hgA).trans x04, (h.cell (p := ⟨g, _, none⟩) hgA).trans x10, (h.cell (p := ⟨g, _, none⟩) hgA).trans x11, (h.cell (p := ⟨g, _, none⟩) hgA).trans x12, (h.cell (p := ⟨g, _, none⟩) hgA).trans x13, (h.cell (p := ⟨g, _, none⟩) hgA).trans x14⟩
  have HLL : Hid (∀ W, Below WA.heap.size WA W → Cells W (some ⟨g, 0, none⟩) 3 3 kl) := Lib.hid fun W h => Arr.below LL.out h
  clear x00 x01 x02 x03 x04 x10 x11 x12 x13 x14 LL
  have mk0 := Lib.hid trivial
  have HB := Lib.hid BA.out
  simp only [List.append_eq, List.cons_append, List.nil_append]
  go_region_held3 (fun W => W.cell? ⟨g, 0, none⟩ = some (.string ⟨#[97]⟩) ∧ W.cell? ⟨g, 1, none⟩ = some (.string ⟨#[120]⟩) ∧ W.cell? ⟨g, 2, none⟩ = some (.int .u64 1) ∧ W.cell? ⟨g, 3, none⟩ = some (.bool false) ∧ W.cell? ⟨g, 4, none⟩ = some (.string ⟨#[]⟩) ∧ W.cell? ⟨g, 5, none⟩ = some (.string ⟨#[98]⟩) ∧ W.cell? ⟨g, 6, none⟩ = some (.string ⟨#[120]⟩) ∧ W.cell? ⟨g, 7, none⟩ = some (.int .u64 1) ∧ W.cell? ⟨g, 8, none⟩ = some (.bool false) ∧ W.cell? ⟨g, 9, none⟩ = some (.string ⟨#[]⟩)) (exact HS.out _ (by go_grown)) (first
    | (revert mk0; intro mk0; clear mk0; go_at_call 14; refine (works12_any _).mono ?_; rintro e w5 ⟨rfl, hb⟩; have hB8n : Below w4.heap.size w4 w5 := Below.trans (by go_grown) (hb.mono (by go_size)); have hBAn : Below WA.heap.size WA w5 := Below.trans (by go_grown) (hb.mono (by go_size)); clear hB8 z8; have hB8 := hB8n; have z8 := hB8.size; clear hB8n; clear hBA zA; have hBA := hBAn; have zA := hBA.size; clear hBAn; clear hb; have mk1 := Lib.hid trivial)
    | (revert mk1; intro mk1; clear mk1; go_at_call 23; refine (at12_any _ _ _ _).mono ?_; rintro e w6 ⟨rfl, hb⟩; have hB8n : Below w4.heap.size w4 w6 := Below.trans (by go_grown) (hb.mono (by go_size)); have hBAn : Below WA.heap.size WA w6 := Below.trans (by go_grown) (hb.mono (by go_size)); clear hB8 z8; have hB8 := hB8n; have z8 := hB8.size; clear hB8n; clear hBA zA; have hBA := hBAn; have zA := hBA.size; clear hBAn; clear hb; have mk2 := Lib.hid trivial)
    | (revert mk2; intro mk2; clear mk2; go_at_call 23; refine (at12_any _ _ _ _).mono ?_; rintro e w7 ⟨rfl, hb⟩; have hB8n : Below w4.heap.size w4 w7 := Below.trans (by go_grown) (hb.mono (by go_size)); have hBAn : Below WA.heap.size WA w7 := Below.trans (by go_grown) (hb.mono (by go_size)); clear hB8 z8; have hB8 := hB8n; have z8 := hB8.size; clear hB8n; clear hBA zA; have hBA := hBAn; have zA := hBA.size; clear hBAn; clear hb; have mk3 := Lib.hid trivial)
    | (revert mk3; intro mk3; clear mk3; go_at_call 23; refine (at12_any _ _ _ _).mono ?_; rintro e w8 ⟨rfl, hb⟩; have hB8n : Below w4.heap.size w4 w8 := Below.trans (by go_grown) (hb.mono (by go_size)); have hBAn : Below WA.heap.size WA w8 := Below.trans (by go_grown) (hb.mono (by go_size)); clear hB8 z8; have hB8 := hB8n; have z8 := hB8.size; clear hB8n; clear hBA zA; have hBA := hBAn; have zA := hBA.size; clear hBAn; clear hb; have mk4 := Lib.hid trivial)
    | (revert mk4; intro mk4; clear mk4; go_at_call 16; refine (of_gives _ 3 3 ka _ (cells_new _ _ ka _ 3 _ (by rfl) (by decide) (by decide) rfl) (by decide)).mono ?_; rintro e w9 ⟨q1, rfl, hc, hh, hf, hb⟩; have Hq1 := Lib.hid (show q1.Here w9 from hh); have Cq1 := Lib.hid hc; have Fq1 : Hid (∀ k, q1.F k → w4.heap.size ≤ k) := Lib.hid (fun k hk => (hf k hk).elim (fun h => h.elim) (fun h => Nat.le_trans (by go_size) h)); have hB8n : Below w4.heap.size w4 w9 := Below.trans (by go_grown) (hb.mono (by go_size)); have hBAn : Below WA.heap.size WA w9 := Below.trans (by go_grown) (hb.mono (by go_size)); clear hB8 z8; have hB8 := hB8n; have z8 := hB8.size; clear hB8n; clear hBA zA; have hBA := hBAn; have zA := hBA.size; clear hBAn; clear hc hh hf hb; have mk5 := Lib.hid trivial)
    | (revert mk5; intro mk5; clear mk5; go_at_call 21; refine (alive_gives q1 _ (Hq1.out.below (by go_grown))).mono ?_; rintro e w10 ⟨q2, rfl, hc, hh, hf, hb⟩; have Hq2 := Lib.hid (show q2.Here w10 from hh); rw [Cq1.out, ka_alive] at hc; have Cq2 := Lib.hid hc; have Fq2 : Hid (∀ k, q2.F k → w4.heap.size ≤ k) := Lib.hid (fun k hk => (hf k hk).elim (Fq1.out k) (fun h => Nat.le_trans (by go_size) h)); have hB8n : Below w4.heap.size w4 w10 := Below.trans (by go_grown) (hb.mono (by go_size)); have hBAn : Below WA.heap.size WA w10 := Below.trans (by go_grown) (hb.mono (by go_size)); clear hB8 z8; have hB8 := hB8n; have z8 := hB8.size; clear hB8n; clear hBA zA; have hBA := hBAn; have zA := hBA.size; clear hBAn; clear hc hh hf hb; have mk6 := Lib.hid trivial)
    | (revert mk6; intro mk6; clear mk6; go_at_call 17; refine (list_gives q2 _ (Hq2.out.below (by go_grown)) 9 9 (.inl rfl) (by rw [Cq2.out]; decide)).mono ?_; rintro e w11 ⟨v, rfl, ho, _, hk⟩; have hb := hk.below Fq2.out (by go_size); have hB8n : Below w4.heap.size w4 w11 := Below.trans (by go_grown) hb; have hBAn : Below WA.heap.size WA w11 := Below.trans (by go_grown) (hb.mono zA8); clear hB8 z8; have hB8 := hB8n; have z8 := hB8.size; clear hB8n; clear hBA zA; have hBA := hBAn; have zA := hBA.size; clear hBAn; rw [Cq2.out] at ho; obtain ⟨ao11, cap11, rfl, hl⟩ := Own.cells_n (n := 1) ho rfl; have OL := Lib.hid (show Cells w11 ao11 1 cap11 (kb) from hl); have hOL := Below.refl w11.heap.size w11; clear ho hl hk hb; have mk7 := Lib.hid trivial)
    | (revert mk7; intro mk7; clear mk7; go_at_call 24; refine (same12_any _ _ 1 _ 1 _ (kb) (kb) _ (Arr.below OL.out (by go_grown)) (k_slice (HLL.out _ (by go_grown)))).mono ?_; rintro e w12 ⟨rfl, hb⟩; rw [sameC_self]; have hB8n : Below w4.heap.size w4 w12 := Below.trans (by go_grown) (hb.mono (by go_size)); have hBAn : Below WA.heap.size WA w12 := Below.trans (by go_grown) (hb.mono (by go_size)); clear hB8 z8; have hB8 := hB8n; have z8 := hB8.size; clear hB8n; clear hBA zA; have hBA := hBAn; have zA := hBA.size; clear hBAn; clear hb OL hOL; have mk8 := Lib.hid trivial)
    | (revert mk8; intro mk8; clear mk8; go_at_call 11; refine (all_gives none 0 0 [] [] _ (Arr.nil _ _) (rowsAt_nil _ 0) (by decide) (tells_none 0)).mono ?_; rintro e w13 ⟨q3, rfl, hc, hh, hf, hb⟩; have Hq3 := Lib.hid (show q3.Here w13 from hh); have Cq3 := Lib.hid hc; have Fq3 : Hid (∀ k, q3.F k → w4.heap.size ≤ k) := Lib.hid (fun k hk => (hf k hk).elim (fun h => (rowsF_nil 0 _ h).elim) (fun h => Nat.le_trans (by go_size) h)); have hB8n : Below w4.heap.size w4 w13 := Below.trans (by go_grown) (hb.mono (by go_size)); have hBAn : Below WA.heap.size WA w13 := Below.trans (by go_grown) (hb.mono (by go_size)); clear hB8 z8; have hB8 := hB8n; have z8 := hB8.size; clear hB8n; clear hBA zA; have hBA := hBAn; have zA := hBA.size; clear hBAn; clear hc hh hf hb; have mk9 := Lib.hid trivial)
    | (revert mk9; intro mk9; clear mk9; go_at_call 17; refine (list_gives q3 _ (Hq3.out.below (by go_grown)) 9 9 (.inl rfl) (by rw [Cq3.out]; decide)).mono ?_; rintro e w14 ⟨v, rfl, ho, _, hk⟩; have hb := hk.below Fq3.out (by go_size); have hB8n : Below w4.heap.size w4 w14 := Below.trans (by go_grown) hb; have hBAn : Below WA.heap.size WA w14 := Below.trans (by go_grown) (hb.mono zA8); clear hB8 z8; have hB8 := hB8n; have z8 := hB8.size; clear hB8n; clear hBA zA; have hBA := hBAn; have zA := hBA.size; clear hBAn; rw [Cq3.out] at ho; obtain ⟨ao14, cap14, rfl, hl⟩ := Own.cells_n (n := 0) ho rfl; have OL := Lib.hid (show Cells w14 ao14 0 cap14 ([]) from hl); have hOL := Below.refl w14.heap.size w14; clear ho hl hk hb; have mk10 := Lib.hid trivial)
    | (revert mk10; intro mk10; clear mk10; go_at_call 10; refine (tells_true q8 none 0 0 _ (Hq8.out.below (by go_grown)) (by rw [Cq8.out]; exact cells_none (by decide)) (fun h0 => by omega)).mono ?_; rintro e w15 ⟨rfl, hk⟩; have hb := hk.below Fq8.out (by go_size); have hBAn : Below WA.heap.size WA w15 := Below.trans (by go_grown) hb; clear hB8 z8; clear hBA zA; have hBA := hBAn; have zA := hBA.size; clear hBAn; clear hk hb; have mk11 := Lib.hid trivial)
    | (revert mk11; intro mk11; clear mk11; go_at_call 16; refine (of_gives _ 2 2 kba _ (cells_new _ _ kba _ 2 _ (by rfl) (by decide) (by decide) rfl) (by decide)).mono ?_; rintro e w16 ⟨q4, rfl, hc, hh, hf, hb⟩; have Hq4 := Lib.hid (show q4.Here w16 from hh); have Cq4 := Lib.hid hc; have Fq4 : Hid (∀ k, q4.F k → WA.heap.size ≤ k) := Lib.hid (fun k hk => (hf k hk).elim (fun h => h.elim) (fun h => Nat.le_trans (by go_size) h)); have hBAn : Below WA.heap.size WA w16 := Below.trans (by go_grown) (hb.mono (by go_size)); clear hBA zA; have hBA := hBAn; have zA := hBA.size; clear hBAn; clear hc hh hf hb; have mk12 := Lib.hid trivial)
    | (revert mk12; intro mk12; clear mk12; go_at_call 11; refine (all_gives _ 1 1 [some q4] kb _ (rows_new _ _ [some q4] _ 1 _ (by rfl) rfl (by decide) rfl) (rowsAt_one (Hq4.out.below (by go_grown))) (by decide) (kba_tells Cq4.out)).mono ?_; rintro e w17 ⟨q5, rfl, hc, hh, hf, hb⟩; have Hq5 := Lib.hid (show q5.Here w17 from hh); have Cq5 := Lib.hid hc; have Fq5 : Hid (∀ k, q5.F k → WA.heap.size ≤ k) := Lib.hid (fun k hk => (hf k hk).elim (fun h => Fq4.out k (rowsF_one h)) (fun h => Nat.le_trans (by go_size) h)); have hBAn : Below WA.heap.size WA w17 := Below.trans (by go_grown) (hb.mono (by go_size)); clear hBA zA; have hBA := hBAn; have zA := hBA.size; clear hBAn; clear hc hh hf hb; have mk13 := Lib.hid trivial)
    | (revert mk13; intro mk13; clear mk13; go_at_call 17; refine (list_gives q5 _ (Hq5.out.below (by go_grown)) 9 9 (.inl rfl) (by rw [Cq5.out]; decide)).mono ?_; rintro e w18 ⟨v, rfl, ho, _, hk⟩; have hb := hk.below Fq5.out (by go_size); have hBAn : Below WA.heap.size WA w18 := Below.trans (by go_grown) hb; clear hBA zA; have hBA := hBAn; have zA := hBA.size; clear hBAn; rw [Cq5.out] at ho; obtain ⟨ao18, cap18, rfl, hl⟩ := Own.cells_n (n := 1) ho rfl; have OL := Lib.hid (show Cells w18 ao18 1 cap18 (kb) from hl); have hOL := Below.refl w18.heap.size w18; clear ho hl hk hb; have mk14 := Lib.hid trivial)
    | (revert mk14; intro mk14; clear mk14; go_at_call 24; refine (same12_any _ _ 1 _ 1 _ (kb) (kb) _ (Arr.below OL.out (by go_grown)) (k_slice (HLL.out _ (by go_grown)))).mono ?_; rintro e w19 ⟨rfl, hb⟩; rw [sameC_self]; have hBAn : Below WA.heap.size WA w19 := Below.trans (by go_grown) (hb.mono (by go_size)); clear hBA zA; have hBA := hBAn; have zA := hBA.size; clear hBAn; clear hb OL hOL; have mk15 := Lib.hid trivial)
    | (revert mk15; intro mk15; clear mk15; go_at_call 16; refine (of_gives _ 3 3 kl _ (HLL.out _ (by go_grown)) (by decide)).mono ?_; rintro e w20 ⟨q6, rfl, hc, hh, hf, hb⟩; have Hq6 := Lib.hid (show q6.Here w20 from hh); have Cq6 := Lib.hid hc; have Fq6 : Hid (∀ k, q6.F k → WA.heap.size ≤ k) := Lib.hid (fun k hk => (hf k hk).elim (fun h => h.elim) (fun h => Nat.le_trans (by go_size) h)); have hBAn : Below WA.heap.size WA w20 := Below.trans (by go_grown) (hb.mono (by go_size)); clear hBA zA; have hBA := hBAn; have zA := hBA.size; clear hBAn; clear hc hh hf hb; have mk16 := Lib.hid trivial)
    | (revert mk16; intro mk16; clear mk16; go_at_call 17; refine (list_gives q6 _ (Hq6.out.below (by go_grown)) 2 2 (.inl rfl) (by rw [Cq6.out]; decide)).mono ?_; rintro e w21 ⟨v, rfl, ho, _, hk⟩; have hb := hk.below Fq6.out (by go_size); have hBAn : Below WA.heap.size WA w21 := Below.trans (by go_grown) hb; clear hBA zA; have hBA := hBAn; have zA := hBA.size; clear hBAn; rw [Cq6.out] at ho; obtain ⟨ao21, cap21, rfl, hl⟩ := Own.cells_n (n := 2) ho rfl; have OL := Lib.hid (show Cells w21 ao21 2 cap21 (kl.take 2) from hl); have hOL := Below.refl w21.heap.size w21; clear ho hl hk hb; have mk17 := Lib.hid trivial)
    | (revert mk17; intro mk17; clear mk17; go_at_call 24; refine (same12_any _ _ 2 _ 2 _ (kl.take 2) (kl.take 2) _ (Arr.below OL.out (by go_grown)) (k_short (HLL.out _ (by go_grown)))).mono ?_; rintro e w22 ⟨rfl, hb⟩; rw [sameC_self]; have hBAn : Below WA.heap.size WA w22 := Below.trans (by go_grown) (hb.mono (by go_size)); clear hBA zA; have hBA := hBAn; have zA := hBA.size; clear hBAn; clear hb OL hOL; have mk18 := Lib.hid trivial)
    | (revert mk18; intro mk18; clear mk18; go_at_call 16; refine (of_gives _ 3 3 kl _ (HLL.out _ (by go_grown)) (by decide)).mono ?_; rintro e w23 ⟨q7, rfl, hc, hh, hf, hb⟩; have Hq7 := Lib.hid (show q7.Here w23 from hh); have Cq7 := Lib.hid hc; have Fq7 : Hid (∀ k, q7.F k → WA.heap.size ≤ k) := Lib.hid (fun k hk => (hf k hk).elim (fun h => h.elim) (fun h => Nat.le_trans (by go_size) h)); have hBAn : Below WA.heap.size WA w23 := Below.trans (by go_grown) (hb.mono (by go_size)); clear hBA zA; have hBA := hBAn; have zA := hBA.size; clear hBAn; clear hc hh hf hb; have mk19 := Lib.hid trivial)
    | (revert mk19; intro mk19; clear mk19; go_at_call 17; refine (list_gives q7 _ (Hq7.out.below (by go_grown)) 0 0 (.inl rfl) (by rw [Cq7.out]; decide)).mono ?_; rintro e w24 ⟨v, rfl, ho, _, hk⟩; have hb := hk.below Fq7.out (by go_size); have hBAn : Below WA.heap.size WA w24 := Below.trans (by go_grown) hb; clear hBA zA; have hBA := hBAn; have zA := hBA.size; clear hBAn; rw [Cq7.out] at ho; obtain ⟨ao24, cap24, rfl, hl⟩ := Own.cells_n (n := 0) ho rfl; have OL := Lib.hid (show Cells w24 ao24 0 cap24 ([]) from hl); have hOL := Below.refl w24.heap.size w24; clear ho hl hk hb; have mk20 := Lib.hid trivial)
    | (revert mk20; intro mk20; clear mk20; go_at_call 17; refine (list_nil _ 5).mono ?_; rintro e w25 ⟨rfl, hb⟩; have hBAn : Below WA.heap.size WA w25 := Below.trans (by go_grown) (hb.mono (by go_size)); clear hBA zA; have hBA := hBAn; have zA := hBA.size; clear hBAn; clear hb; have mk21 := Lib.hid trivial)
    | (revert mk21; intro mk21; clear mk21; go_at_call 19; refine (newest_nil _).mono ?_; rintro e w26 ⟨q9, rfl, hc, hh, hf, hb⟩; have Hq9 := Lib.hid (show q9.Here w26 from hh); have Cq9 := Lib.hid hc; have Fq9 : Hid (∀ k, q9.F k → WA.heap.size ≤ k) := Lib.hid (fun k hk => (hf k hk).elim (fun h => h.elim) (fun h => Nat.le_trans (by go_size) h)); have hBAn : Below WA.heap.size WA w26 := Below.trans (by go_grown) (hb.mono (by go_size)); clear hBA zA; have hBA := hBAn; have zA := hBA.size; clear hBAn; clear hc hh hf hb; have mk22 := Lib.hid trivial)
    | (revert mk22; intro mk22; clear mk22; go_at_call 10; refine (tells_true q9 none 0 0 _ (Hq9.out.below (by go_grown)) (by rw [Cq9.out]; exact cells_none (by decide)) (fun h0 => by omega)).mono ?_; rintro e w27 ⟨rfl, hk⟩; have hb := hk.below Fq9.out (by go_size); have hBAn : Below WA.heap.size WA w27 := Below.trans (by go_grown) hb; clear hBA zA; have hBA := hBAn; have zA := hBA.size; clear hBAn; clear hk hb; have mk23 := Lib.hid trivial)
    | (revert mk23; intro mk23; clear mk23; go_at_call 21; refine (alive_nil _).mono ?_; rintro e w28 ⟨q10, rfl, hc, hh, hf, hb⟩; have Hq10 := Lib.hid (show q10.Here w28 from hh); have Cq10 := Lib.hid hc; have Fq10 : Hid (∀ k, q10.F k → WA.heap.size ≤ k) := Lib.hid (fun k hk => (hf k hk).elim (fun h => h.elim) (fun h => Nat.le_trans (by go_size) h)); have hBAn : Below WA.heap.size WA w28 := Below.trans (by go_grown) (hb.mono (by go_size)); clear hBA zA; have hBA := hBAn; have zA := hBA.size; clear hBAn; clear hc hh hf hb; have mk24 := Lib.hid trivial)
    | (revert mk24; intro mk24; clear mk24; go_at_call 10; refine (tells_true q10 none 0 0 _ (Hq10.out.below (by go_grown)) (by rw [Cq10.out]; exact cells_none (by decide)) (fun h0 => by omega)).mono ?_; rintro e w29 ⟨rfl, hk⟩; have hb := hk.below Fq10.out (by go_size); have hBAn : Below WA.heap.size WA w29 := Below.trans (by go_grown) hb; clear hBA zA; have hBA := hBAn; have zA := hBA.size; clear hBAn; clear hk hb; have mk25 := Lib.hid trivial)
    | (revert mk25; intro mk25; clear mk25; go_at_call 16; refine (of_gives none 0 0 [] _ (cells_none (by decide)) (by decide)).mono ?_; rintro e w30 ⟨q11, rfl, hc, hh, hf, hb⟩; have Hq11 := Lib.hid (show q11.Here w30 from hh); have Cq11 := Lib.hid hc; have Fq11 : Hid (∀ k, q11.F k → WA.heap.size ≤ k) := Lib.hid (fun k hk => (hf k hk).elim (fun h => h.elim) (fun h => Nat.le_trans (by go_size) h)); have hBAn : Below WA.heap.size WA w30 := Below.trans (by go_grown) (hb.mono (by go_size)); clear hBA zA; have hBA := hBAn; have zA := hBA.size; clear hBAn; clear hc hh hf hb; have mk26 := Lib.hid trivial)
    | (revert mk26; intro mk26; clear mk26; go_at_call 10; refine (tells_true q11 none 0 0 _ (Hq11.out.below (by go_grown)) (by rw [Cq11.out]; exact cells_none (by decide)) (fun h0 => by omega)).mono ?_; rintro e w31 ⟨rfl, hk⟩; have hb := hk.below Fq11.out (by go_size); have hBAn : Below WA.heap.size WA w31 := Below.trans (by go_grown) hb; clear hBA zA; have hBA := hBAn; have zA := hBA.size; clear hBAn; clear hk hb; have mk27 := Lib.hid trivial))
  all_goals (go_wp2_with fail; go_returns; exact ⟨rfl, HB.out.trans (hBA.mono HB.out.size)⟩)
end Go.Proofs.Ytehbikofoidjhaa
