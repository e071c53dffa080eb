/-
  The walk of acreagelaw04.CellsWithin.
-/
import Derived.Test.YtjalccnkfpjchaaWithinW
namespace Go.Proofs.Ytjalccnkfpjchaa
open Go.RowKit

set_option maxRecDepth 100000 in
set_option maxHeartbeats 2000000 in
theorem cellswithin_any (ao : Option Addr) (n cap : Nat) (cs : List CellA) (lo hi : ByteArray) (w : World) (h : Cells w ao n cap cs) (hok : ∀ c ∈ cs, c.Ok) (hn : n * 64 ≤ 140737488355328) :
    Calls Try.prog 7 #[.slice ao n cap, .agg #[.string lo, .string hi]] w fun e w' => e = .returned (.bool true) ∧ Below w.heap.size w w' := by
  have Hl := Lib.hid h.len
  have H := Lib.hid h
  have Hn := Lib.hid hn
  obtain ⟨fs, hfs⟩ : ∃ l, l = filtL (outC lo.toList hi.toList) cs := ⟨_, rfl⟩
  have K1 := Lib.hid fun W ao cap (h : Cells W ao n cap cs) => within_any ao n cap cs lo hi W h hok hn
  have K2 := Lib.hid fun W ao cap (h : Cells W ao n cap cs) => rwithin_any ao n cap cs lo hi W h hn
  rw [← hfs] at K1 K2
  have K3 := Lib.hid fun W ao ao2 n cap n2 cap2 cs (h : Cells W ao n cap cs) (h2 : Cells W ao2 n2 cap2 cs) => rsame_any ao ao2 n cap n2 cap2 cs cs W h h2
  simp only [sameC_self] at K3
  obtain ⟨m, hm⟩ : ∃ m, m = fs.length := ⟨_, rfl⟩
  have Hm := Lib.hid hm.symm
  clear h hok hn hfs hm
  go_enter Try.func7, Try.ntmps7
  go_wp2_with (first
    | (go_at_call 13; refine (own_any _ _ _ cs _ (Arr.below H.out (by go_grown)) Hn.out).mono ?_; rintro e w1 ⟨v, rfl, hO, hb⟩; obtain ⟨hB, hS, hk⟩ := after (B := w.heap.size) (w := w) (by go_grown) (by go_size) hb; obtain ⟨c0, f0, z0⟩ := hk w.heap.size (by go_size); obtain ⟨ao1, cap1, rfl, hc⟩ := hO.cells_n Hl.out; have HO1 := Lib.hid hc; have HL1 := Lib.hid (Arr.below H.out hB); have hz1 : w.heap.size ≤ w1.heap.size := hS; clear hO hc hb hk)
    | (go_at_call 27; refine (K1.out _ _ _ HO1.out).mono ?_; rintro e w2 ⟨v, rfl, hO, hb⟩; obtain ⟨hB, hS, hk⟩ := after (B := w.heap.size) (w := w) (by go_grown) (by go_size) hb; obtain ⟨c0, f0, z0⟩ := hk w.heap.size (by go_size); obtain ⟨ao2, cap2, rfl, hc⟩ := hO.cells_n Hm.out; have HOw2 := Lib.hid hO; have HO2 := Lib.hid hc; have HL2 := Lib.hid (Arr.below HL1.out hb); have Hw2 := Lib.hid hb; have hz2 := hb.size; clear hO hc hb hk)
    | (go_at_call 28; refine (K2.out _ _ _ HL2.out).mono ?_; rintro e w3 ⟨v, rfl, hO, hb⟩; obtain ⟨hB, hS, hk⟩ := after (B := w.heap.size) (w := w) (by go_grown) (by go_size) hb; obtain ⟨ao3, cap3, rfl, hc⟩ := hO.cells_n Hm.out; have HO3 := Lib.hid hc; have hw3 := Lib.hid hb; have hz3 := hb.size; clear hO hc hb hk)
    | (revert mk5; intro mk5; (go_at_call 16; refine (K3.out _ _ _ _ _ _ _ cs (Arr.below HO1.out HB15.out) (Arr.below HL1.out HB15.out)).mono ?_; rintro e w6 ⟨rfl, hb⟩; obtain ⟨hB, hS, hk⟩ := after (B := w.heap.size) (w := w) (by go_grown) (by go_size) hb; have Hw6 := Lib.hid hb; clear hb; clear hk))
    | (go_at_call 16; refine (K3.out _ _ _ _ _ _ _ fs (Arr.below HO2.out hw3.out) HO3.out).mono ?_; rintro e w4 ⟨rfl, hb⟩; obtain ⟨hB, hS, hk⟩ := after (B := w.heap.size) (w := w) (by go_grown) (by go_size) hb; have Hw4 := Lib.hid hb; clear hb; clear hk)
    | (go_at_call 26; refine (spoil_any _ fs w1.heap.size _ (Own.below (Own.below HOw2.out hw3.out) Hw4.out) (Nat.le_trans hz2 (Nat.le_trans hz3 Hw4.out.size))).mono ?_; rintro e w5 ⟨rfl, hb⟩; have HB15 := Lib.hid (Hw2.out.trans ((hw3.out.mono hz2).trans ((Hw4.out.mono (Nat.le_trans hz2 hz3)).trans hb))); have hB5 := hB.trans (hb.mono hz1); have hS5 := hB5.size; have mk5 := Lib.hid (rfl : (0 : Nat) = 0); clear hb)
    | (go_at_call 17; refine (works_any _).mono ?_; rintro e w7 ⟨rfl, hb⟩; obtain ⟨hB, hS, hk⟩ := after (B := w.heap.size) (w := w) (by go_grown) (by go_size) hb; clear hb; clear hk))
  go_returns
  exact ⟨rfl, hB⟩
end Go.Proofs.Ytjalccnkfpjchaa
