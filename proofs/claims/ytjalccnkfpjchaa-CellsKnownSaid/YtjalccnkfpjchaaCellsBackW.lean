/-
  The walks of acreagelaw04.CellsBack, CellsAgain.
-/
import Derived.Test.YtjalccnkfpjchaaDecPlain
import Derived.Test.YtjalccnkfpjchaaCellsSortW
namespace Go.Proofs.Ytjalccnkfpjchaa
open Go.RowKit Go.Sort

theorem decode_yes (s : ByteArray) (cs : List CellA) (w : World) (hs : s.size ≤ maxLen) (h : decV s.toList = some cs) :
    Calls Try.prog 29 #[.string s] w fun e w' => ∃ v, e = .returned (.tuple #[v, .int .i64 0]) ∧ Own w' w.heap.size v cs ∧ Below w.heap.size w w' := by
  refine (decode_any s w hs).mono ?_
  rintro e w' ⟨⟨cs', v, h1, rfl, h2⟩ | ⟨h1, _⟩, hb⟩
  · rw [h] at h1
    obtain rfl := Option.some.inj h1
    exact ⟨v, rfl, h2, hb⟩
  · rw [h] at h1; cases h1
theorem decode_no (s : ByteArray) (w : World) (hs : s.size ≤ maxLen) (h : decV s.toList = none) :
    Calls Try.prog 29 #[.string s] w fun e w' => e = .returned (.tuple #[.slice none 0 0, .int .i64 4]) ∧ Below w.heap.size w w' := by
  refine (decode_any s w hs).mono ?_
  rintro e w' ⟨⟨cs', v, h1, rfl, h2⟩ | ⟨_, rfl⟩, hb⟩
  · rw [h] at h1; cases h1
  · exact ⟨rfl, hb⟩

set_option maxRecDepth 100000 in
set_option maxHeartbeats 2000000 in
theorem cellsagain_any (s : ByteArray) (w : World) (hs : s.size ≤ maxLen) :
    Calls Try.prog 11 #[.string s] w fun e w' => e = .returned (.bool true) ∧ Below w.heap.size w w' := by
  cases hd : decV s.toList with
  | none =>
    have K := Lib.hid fun W => decode_no s W hs hd
    clear hd hs
    go_enter Try.func11, Try.ntmps11
    go_wp2_with (first
      | (go_at_call 17; refine (works_any _).mono ?_; rintro e w1 ⟨rfl, hb⟩; obtain ⟨hB, hS, hk⟩ := after (B := w.heap.size) (w := w) (by go_grown) (by go_size) hb; clear hb; clear hk)
      | (go_at_call 29; refine (K.out _).mono ?_; rintro e w2 ⟨rfl, hb⟩; obtain ⟨hB, hS, hk⟩ := after (B := w.heap.size) (w := w) (by go_grown) (by go_size) hb; clear hb; clear hk))
    go_returns
    exact ⟨rfl, hB⟩
  | some cs =>
    have K := Lib.hid fun W => decode_yes s cs W hs hd
    have hS := decV_sound hd
    have hv : encV cs = (s, 0) := by
      unfold encV
      rw [hS.good, if_neg (by decide), if_neg (by rw [hS.bytes]; have := hS.len; omega), hS.bytes, ofL_self]
    have E := Lib.hid fun W ao n cap (h : Cells W ao n cap cs) => encode_v ao n cap cs W h hS.ok
    rw [hv] at E
    obtain ⟨m, hm⟩ : ∃ m, m = cs.length := ⟨_, rfl⟩
    have Hm := Lib.hid hm.symm
    clear hd hs hS hv hm
    go_enter Try.func11, Try.ntmps11
    go_wp2_with (first
      | (go_at_call 17; refine (works_any _).mono ?_; rintro e w1 ⟨rfl, hb⟩; obtain ⟨hB, hS, hk⟩ := after (B := w.heap.size) (w := w) (by go_grown) (by go_size) hb; clear hb; clear hk)
      | (go_at_call 29; refine (K.out _).mono ?_; rintro e w2 ⟨v, rfl, hO, hb⟩; obtain ⟨hB, hS, hk⟩ := after (B := w.heap.size) (w := w) (by go_grown) (by go_size) hb; obtain ⟨ao2, cap2, rfl, hc⟩ := hO.cells_n Hm.out; have HO2 := Lib.hid hc; clear hO hc hb hk)
      | (go_at_call 14; refine (E.out _ _ _ _ HO2.out).mono ?_; rintro e w3 ⟨rfl, hb⟩; obtain ⟨hB, hS, hk⟩ := after (B := w.heap.size) (w := w) (by go_grown) (by go_size) hb; clear hb; clear hk))
    go_returns
    exact ⟨rfl, hB⟩

set_option maxRecDepth 100000 in
set_option maxHeartbeats 4000000 in
theorem cellsback_any (ao : Option Addr) (n cap : Nat) (cs : List CellA) (w : World) (h : Cells w ao n cap cs) (hok : ∀ c ∈ cs, c.Ok) :
    Calls Try.prog 10 #[.slice ao n cap] w fun e w' => e = .returned (.bool true) ∧ Below w.heap.size w w' := by
  have E := Lib.hid fun W ao n cap (h : Cells W ao n cap cs) => encode_v ao n cap cs W h hok
  have H := Lib.hid h
  have Hl := Lib.hid h.len
  by_cases hbad : cs.any badC = true
  · have hv : encV cs = (⟨#[]⟩, 2) := by unfold encV; rw [if_pos hbad]
    rw [hv] at E
    clear h hok hv hbad
    go_enter Try.func10, Try.ntmps10
    go_wp2_with (first
      | (go_at_call 17; refine (works_any _).mono ?_; rintro e w1 ⟨rfl, hb⟩; obtain ⟨hB, hS, hk⟩ := after (B := w.heap.size) (w := w) (by go_grown) (by go_size) hb; clear hb; clear hk)
      | (go_at_call 14; refine (E.out _ _ _ _ (Arr.below H.out hB)).mono ?_; rintro e w3 ⟨rfl, hb⟩; obtain ⟨hB, hS, hk⟩ := after (B := w.heap.size) (w := w) (by go_grown) (by go_size) hb; clear hb; clear hk))
    go_returns
    exact ⟨rfl, hB⟩
  · have hbad : cs.any badC = false := by simpa using hbad
    by_cases hlong : 1048576 < (encL cs).length
    · have hv : encV cs = (⟨#[]⟩, 3) := by unfold encV; rw [if_neg (by simp [hbad]), if_pos hlong]
      rw [hv] at E
      clear h hok hv hbad hlong
      go_enter Try.func10, Try.ntmps10
      go_wp2_with (first
        | (go_at_call 17; refine (works_any _).mono ?_; rintro e w1 ⟨rfl, hb⟩; obtain ⟨hB, hS, hk⟩ := after (B := w.heap.size) (w := w) (by go_grown) (by go_size) hb; clear hb; clear hk)
        | (go_at_call 14; refine (E.out _ _ _ _ (Arr.below H.out hB)).mono ?_; rintro e w3 ⟨rfl, hb⟩; obtain ⟨hB, hS, hk⟩ := after (B := w.heap.size) (w := w) (by go_grown) (by go_size) hb; clear hb; clear hk))
      go_returns
      exact ⟨rfl, hB⟩
    · have hle : (encL cs).length ≤ 1048576 := by omega
      have hv : encV cs = (ofL (encL cs), 0) := by unfold encV; rw [if_neg (by simp [hbad]), if_neg hlong]
      rw [hv] at E
      obtain ⟨l, d, hld⟩ : ∃ l d, encL cs = l ++ [d] := by
        have hp : encL cs ≠ [] := by
          intro e
          have h1 := congrArg List.length e
          rw [encL, List.length_append, List.length_nil] at h1
          have h2 := numL_pos cs.length
          omega
        exact ⟨_, _, (List.dropLast_concat_getLast hp).symm⟩
      have hsz : (ofL (encL cs)).size ≤ 1048576 := by rw [ofL_size]; exact hle
      have hsz1 : 1 ≤ (ofL (encL cs)).size := by rw [ofL_size, hld]; simp
      have D1 := Lib.hid fun W => decode_yes (ofL (encL cs)) cs W (by unfold maxLen; omega) (by rw [ofL_toList]; exact decV_complete hbad hle)
      have D2 := Lib.hid fun W => decode_no (ofL (encL cs) ++ ⟨#[0]⟩) W (by rw [ByteArray.size_append]; unfold maxLen; have : (⟨#[0]⟩ : ByteArray).size = 1 := rfl; omega) (by rw [append_ofL, ofL_toList, ofL_toList, Lib.toList_data]; exact decV_more hbad hle 0)
      have hx : (ofL (encL cs)).extract 0 ((ofL (encL cs)).size - 1) = ofL l := by
        rw [ofL_extract, ofL_size, hld, List.drop_zero]; simp
      have D3 := Lib.hid fun W => decode_no (ofL l) W (by have : l.length + 1 = (encL cs).length := by rw [hld]; simp
                                                          rw [ofL_size]; unfold maxLen; omega) (by rw [ofL_toList]; exact decV_less hbad hle hld)
      have S := Lib.hid fun W (ds : List CellA) ao ao2 n cap n2 cap2 (h : Cells W ao n cap ds) (h2 : Cells W ao2 n2 cap2 ds) => same_w ao ao2 n cap n2 cap2 ds W h h2
      obtain ⟨s, hs⟩ : ∃ s, s = ofL (encL cs) := ⟨_, rfl⟩
      obtain ⟨s3, hs3⟩ : ∃ s, s = ofL l := ⟨_, rfl⟩
      rw [← hs] at E D1 D2 hx hsz hsz1
      rw [← hs3] at D3 hx
      obtain ⟨z, hz⟩ : ∃ z, s.size = z + 1 := ⟨s.size - 1, by omega⟩
      have hx2 : s.extract 0 z = s3 := by rw [← hx, hz]; rfl
      clear h hok hv hbad hlong hle hld hs hs3 hx
      go_enter Try.func10, Try.ntmps10
      go_wp2_with (first
        | (go_at_call 17; refine (works_any _).mono ?_; rintro e w1 ⟨rfl, hb⟩; obtain ⟨hB, hS, hk⟩ := after (B := w.heap.size) (w := w) (by go_grown) (by go_size) hb; clear hb; clear hk)
        | (go_at_call 14; refine (E.out _ _ _ _ (Arr.below H.out hB)).mono ?_; rintro e w3 ⟨rfl, hb⟩; obtain ⟨hB, hS, hk⟩ := after (B := w.heap.size) (w := w) (by go_grown) (by go_size) hb; clear hb; clear hk)
        | (go_at_call 29; (with_reducible refine (D1.out _).mono ?_); rintro e w4 ⟨v, rfl, hO, hb⟩; obtain ⟨hB, hS, hk⟩ := after (B := w.heap.size) (w := w) (by go_grown) (by go_size) hb; obtain ⟨ao4, cap4, rfl, hc⟩ := hO.cells_n Hl.out; have HO4 := Lib.hid hc; clear hO hc hb hk)
        | (go_at_call 29; with_reducible refine (D2.out _).mono ?_; rintro e w5 ⟨rfl, hb⟩; obtain ⟨hB, hS, hk⟩ := after (B := w.heap.size) (w := w) (by go_grown) (by go_size) hb; have Hw5 := Lib.hid hb; clear hb; clear hk)
        | (go_at_call 29; with_reducible refine (D3.out _).mono ?_; rintro e w6 ⟨rfl, hb⟩; obtain ⟨hB, hS, hk⟩ := after (B := w.heap.size) (w := w) (by go_grown) (by go_size) hb; have Hw6 := Lib.hid hb; clear hb; clear hk)
        | (go_at_call 20; refine (S.out _ cs _ _ _ _ _ _ (Arr.below (Arr.below HO4.out Hw5.out) Hw6.out) (Arr.below H.out hB)).mono ?_; rintro e w7 ⟨rfl, hb⟩; obtain ⟨hB, hS, hk⟩ := after (B := w.heap.size) (w := w) (by go_grown) (by go_size) hb; clear hb hk))
      go_returns
      exact ⟨rfl, hB⟩
end Go.Proofs.Ytjalccnkfpjchaa
