/-
  The walk of acreagelaw04.CellsReads.
-/
import Derived.Test.YtjalccnkfpjchaaRDecW
import Derived.Test.YtjalccnkfpjchaaCellsBackW
namespace Go.Proofs.Ytjalccnkfpjchaa
open Go.RowKit Go.Sort

theorem rdecode_yes (s : ByteArray) (cs : List CellA) (w : World) (hs : s.size ≤ maxLen) (h : decV s.toList = some cs) :
    Calls Try.prog 30 #[.string s] w fun e w' => ∃ v, e = .returned (.tuple #[v, .int .i64 0]) ∧ Own w' w.heap.size v cs ∧ Below w.heap.size w w' := by
  refine (rdecode_any s w hs).mono ?_
  rintro e w' ⟨⟨cs', v, h1, rfl, h2⟩ | ⟨h1, _⟩, hb⟩
  · rw [h] at h1
    obtain rfl := Option.some.inj h1
    exact ⟨v, rfl, h2, hb⟩
  · rw [h] at h1; cases h1
theorem rdecode_no (s : ByteArray) (w : World) (hs : s.size ≤ maxLen) (h : decV s.toList = none) :
    Calls Try.prog 30 #[.string s] w fun e w' => e = .returned (.tuple #[.slice none 0 0, .int .i64 4]) ∧ Below w.heap.size w w' := by
  refine (rdecode_any s w hs).mono ?_
  rintro e w' ⟨⟨cs', v, h1, rfl, h2⟩ | ⟨_, rfl⟩, hb⟩
  · rw [h] at h1; cases h1
  · exact ⟨rfl, hb⟩

set_option maxRecDepth 100000 in
set_option maxHeartbeats 2000000 in
theorem cellsreads_any (s : ByteArray) (w : World) (hs : s.size ≤ maxLen) :
    Calls Try.prog 9 #[.string s] w fun e w' => e = .returned (.bool true) ∧ Below w.heap.size w w' := by
  have S := Lib.hid fun W (ds : List CellA) ao ao2 n cap n2 cap2 (h : Cells W ao n cap ds) (h2 : Cells W ao2 n2 cap2 ds) => rsame_any ao ao2 n cap n2 cap2 ds ds W h h2
  simp only [sameC_self] at S
  cases hd : decV s.toList with
  | none =>
    have K := Lib.hid fun W => decode_no s W hs hd
    have R := Lib.hid fun W => rdecode_no s W hs hd
    clear hd hs
    go_enter Try.func9, Try.ntmps9
    go_wp2_with (first
      | (go_at_call 29; refine (K.out _).mono ?_; rintro e w1 ⟨rfl, hb⟩; obtain ⟨hB, hS, hk⟩ := after (B := w.heap.size) (w := w) (by go_grown) (by go_size) hb; clear hb; clear hk)
      | (go_at_call 30; refine (R.out _).mono ?_; rintro e w2 ⟨rfl, hb⟩; obtain ⟨hB, hS, hk⟩ := after (B := w.heap.size) (w := w) (by go_grown) (by go_size) hb; clear hb; clear hk)
      | (go_at_call 16; refine (S.out _ [] _ _ _ _ _ _ (Arr.nil _ _) (Arr.nil _ _)).mono ?_; rintro e w3 ⟨rfl, hb⟩; obtain ⟨hB, hS, hk⟩ := after (B := w.heap.size) (w := w) (by go_grown) (by go_size) hb; clear hb; clear hk)
      | (go_at_call 17; refine (works_any _).mono ?_; rintro e w4 ⟨rfl, hb⟩; obtain ⟨hB, hS, hk⟩ := after (B := w.heap.size) (w := w) (by go_grown) (by go_size) hb; clear hb; clear hk))
    go_returns
    exact ⟨rfl, hB⟩
  | some cs =>
    have K := Lib.hid fun W => decode_yes s cs W hs hd
    have R := Lib.hid fun W => rdecode_yes s cs W hs hd
    obtain ⟨m, hm⟩ : ∃ m, m = cs.length := ⟨_, rfl⟩
    have Hm := Lib.hid hm.symm
    clear hd hs hm
    go_enter Try.func9, Try.ntmps9
    go_wp2_with (first
      | (go_at_call 29; refine (K.out _).mono ?_; rintro e w1 ⟨v, rfl, hO, hb⟩; obtain ⟨hB, hS, hk⟩ := after (B := w.heap.size) (w := w) (by go_grown) (by go_size) hb; obtain ⟨ao1, cap1, rfl, hc⟩ := hO.cells_n Hm.out; have HO1 := Lib.hid hc; clear hO hc hb hk)
      | (go_at_call 30; refine (R.out _).mono ?_; rintro e w2 ⟨v, rfl, hO, hb⟩; obtain ⟨hB, hS, hk⟩ := after (B := w.heap.size) (w := w) (by go_grown) (by go_size) hb; obtain ⟨ao2, cap2, rfl, hc⟩ := hO.cells_n Hm.out; have HO2 := Lib.hid hc; have HP2 : Hid (Cells w2 ao1 m cap1 cs) := Lib.hid (Arr.below HO1.out hb); clear hO hc hb hk)
      | (go_at_call 16; refine (S.out _ cs _ _ _ _ _ _ HP2.out HO2.out).mono ?_; rintro e w3 ⟨rfl, hb⟩; obtain ⟨hB, hS, hk⟩ := after (B := w.heap.size) (w := w) (by go_grown) (by go_size) hb; clear hb; clear hk)
      | (go_at_call 17; refine (works_any _).mono ?_; rintro e w4 ⟨rfl, hb⟩; obtain ⟨hB, hS, hk⟩ := after (B := w.heap.size) (w := w) (by go_grown) (by go_size) hb; clear hb; clear hk))
    go_returns
    exact ⟨rfl, hB⟩
end Go.Proofs.Ytjalccnkfpjchaa
