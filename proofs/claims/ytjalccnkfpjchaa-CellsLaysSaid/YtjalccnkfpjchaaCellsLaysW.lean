/-
  The walk of acreagelaw04.CellsLays.
-/
import Derived.Test.YtjalccnkfpjchaaOwnW
import Derived.Test.YtjalccnkfpjchaaREncLW
import Derived.Test.YtjalccnkfpjchaaWorks4W
namespace Go.Proofs.Ytjalccnkfpjchaa
open Go.RowKit

set_option maxRecDepth 100000 in
set_option maxHeartbeats 2000000 in
theorem cellslays_any (ao : Option Addr) (n cap : Nat) (cs : List CellA) (w : World) (h : Cells w ao n cap cs) (hok : ∀ c ∈ cs, c.Ok) (hn : n * 64 ≤ 140737488355328) :
    Calls Try.prog 3 #[.slice ao n cap] w fun e w' => e = .returned (.bool true) ∧ Below w.heap.size w w' := by
  have Hl := Lib.hid h.len
  have H := Lib.hid h
  have Hn := Lib.hid hn
  have K1 := Lib.hid fun W ao n cap (h : Cells W ao n cap cs) => encode_v ao n cap cs W h hok
  have K2 := Lib.hid fun W ao n cap (h : Cells W ao n cap cs) => rencode_v ao n cap cs W h hok
  have K3 := Lib.hid fun W ao ao2 n cap n2 cap2 (h : Cells W ao n cap cs) (h2 : Cells W ao2 n2 cap2 cs) => rsame_any ao ao2 n cap n2 cap2 cs cs W h h2
  rw [sameC_self] at K3
  obtain ⟨rs, hrs⟩ : ∃ s, s = (encV cs).1 := ⟨_, rfl⟩
  obtain ⟨re, hre⟩ : ∃ s, s = (encV cs).2 := ⟨_, rfl⟩
  rw [← hrs, ← hre] at K1 K2
  clear h hok hn hrs hre
  go_enter Try.func3, Try.ntmps3
  go_wp2_with (first
    | (go_at_call 13; refine (own_any _ _ _ cs _ H.out Hn.out).mono ?_; rintro e w1 ⟨v, rfl, hO, hB⟩; obtain ⟨ao1, cap1, rfl, hc⟩ := hO.cells_n Hl.out; have HO1 := Lib.hid hc; have HL1 := Lib.hid (Arr.below H.out hB); have hz1 := hB.size; clear hO hc)
    | (go_at_call 14; refine (K1.out _ _ _ _ HO1.out).mono ?_; rintro e w2 ⟨rfl, hb⟩; obtain ⟨hB, hS, hk⟩ := after (B := w.heap.size) (w := w) (by go_grown) (by go_size) hb; have Hw2 := Lib.hid hb; clear hb; clear hk)
    | (go_at_call 15; refine (K2.out _ _ _ _ (Arr.below HL1.out Hw2.out)).mono ?_; rintro e w3 ⟨rfl, hb⟩; obtain ⟨hB, hS, hk⟩ := after (B := w.heap.size) (w := w) (by go_grown) (by go_size) hb; have Hw3 := Lib.hid hb; clear hb; clear hk)
    | (go_at_call 16; refine (K3.out _ _ _ _ _ _ _ (Arr.below (Arr.below HO1.out Hw2.out) Hw3.out) (Arr.below (Arr.below HL1.out Hw2.out) Hw3.out)).mono ?_; rintro e w4 ⟨rfl, hb⟩; obtain ⟨hB, hS, hk⟩ := after (B := w.heap.size) (w := w) (by go_grown) (by go_size) hb; have Hw4 := Lib.hid hb; clear hb; clear hk)
    | (go_at_call 17; refine (works_any _).mono ?_; rintro e w5 ⟨rfl, hb⟩; obtain ⟨hB, hS, hk⟩ := after (B := w.heap.size) (w := w) (by go_grown) (by go_size) hb; clear hb; clear hk))
  go_returns
  exact ⟨rfl, hB⟩
end Go.Proofs.Ytjalccnkfpjchaa
