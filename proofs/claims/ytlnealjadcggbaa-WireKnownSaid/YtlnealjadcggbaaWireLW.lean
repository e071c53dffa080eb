/-
  Package wire at lists of bytes: what stands at a reader's front is read, the rest is left.
-/
import Derived.Test.YtlnealjadcggbaaWireTextW
import Derived.Test.YtlnealjadcggbaaWirePutW
namespace Go.Proofs.Ytlnealjadcggbaa
open Go.RowKit

def textB (l : List UInt8) : List UInt8 := numL l.length ++ l

theorem ofL_eq (a : ByteArray) : a = ofL a.toList := by
  apply ByteArray.ext
  rw [Lib.toList_data]
  simp [ofL]
theorem eq_ofL {a : ByteArray} {l : List UInt8} (h : a.toList = l) : a = ofL l := by rw [ofL_eq a, h]

/-- The reader at block b has the bytes 'rest' left. -/
def ReadTo (b : Nat) (rest : List UInt8) (w w' : World) : Prop := ∃ s : ByteArray, s.toList = rest ∧ w.setCell ⟨b, 0, none⟩ (.string s) = w'

theorem puttext_of (b s : ByteArray) (w : World) (hb : b.size ≤ 1099511627776) (hs : s.size ≤ 1099511627776) :
    Calls Try.prog 7 #[.string b, .string s] w fun e w' => e = .returned (.string (ofL (b.toList ++ textB s.toList))) ∧ Below w.heap.size w w' :=
  (puttext_any b s w hb hs).mono fun e w' ⟨h1, h2⟩ => ⟨by
    rw [h1]
    congr 2
    rw [append_ofL, ofL_toList, textB, size_list]
    simp, h2⟩

theorem rnumber_L (s : ByteArray) (b v : Nat) (rest : List UInt8) (w : World) (hs : s.size ≤ maxLen) (hl : s.toList = numL v ++ rest) (hv : U64 v) (hc : w.cell? ⟨b, 0, none⟩ = some (.string s)) (hf : w.frozen? ⟨b, 0, none⟩ = false) :
    Calls Try.prog 11 #[.pointer (some ⟨b, 0, none⟩)] w fun e w' => e = .returned (.tuple #[.int .u64 v, .bool true]) ∧ ReadTo b rest w w' := by
  have ht : takeL s.toList = some (v, (numL v).length) := by rw [hl]; exact takeL_numL v rest hv.lt
  refine (rnumber_yes s b w v _ hs ht hc hf).mono fun e w' ⟨h1, h2⟩ => ⟨h1, _, ?_, h2⟩
  rw [toList_extract, ← size_list, List.take_length, hl]
  simp

theorem rtext_L (s : ByteArray) (b : Nat) (l rest : List UInt8) (most : Int) (w : World) (hs : s.size ≤ maxLen) (hl : s.toList = textB l ++ rest) (hn : (l.length : Int) ≤ most) (hm : most ≤ 9223372036854775807) (hc : w.cell? ⟨b, 0, none⟩ = some (.string s)) (hf : w.frozen? ⟨b, 0, none⟩ = false) :
    Calls Try.prog 10 #[.pointer (some ⟨b, 0, none⟩), .int .i64 most] w fun e w' => e = .returned (.tuple #[.string (ofL l), .bool true]) ∧ ReadTo b rest w w' := by
  have hv : l.length < 2 ^ 64 := by
    have h1 : (textB l ++ rest).length = s.size := by rw [← hl, size_list]
    simp only [textB, List.length_append] at h1
    unfold maxLen at hs
    omega
  have ht : takeL s.toList = some (l.length, (numL l.length).length) := by
    rw [hl, textB, List.append_assoc]; exact takeL_numL _ _ hv
  have hsz : (numL l.length).length + l.length + rest.length = s.size := by
    rw [← size_list, hl, textB]; simp only [List.length_append]
  refine (rtext_yes s b w l.length _ most hs hm ht (by omega) hn (by omega) hc hf).mono fun e w' ⟨h1, h2⟩ => ⟨?_, _, ?_, h2⟩
  · rw [h1]
    congr 2
    refine congrArg (fun x => #[Value.string x, Value.bool true]) (eq_ofL ?_)
    rw [toList_extract, toList_extract, List.drop_zero, List.take_take, Nat.min_self, hl, textB, List.append_assoc, List.drop_take]
    simp
  · rw [toList_extract, ← size_list, List.take_length, hl, textB]
    rw [List.drop_append_of_le_length (by simp)]
    simp

theorem rtake_L (s : ByteArray) (b : Nat) (l rest : List UInt8) (w : World) (hs : s.size ≤ maxLen) (hl : s.toList = l ++ rest) (hc : w.cell? ⟨b, 0, none⟩ = some (.string s)) (hf : w.frozen? ⟨b, 0, none⟩ = false) :
    Calls Try.prog 12 #[.pointer (some ⟨b, 0, none⟩), .int .i64 l.length] w fun e w' => e = .returned (.tuple #[.string (ofL l), .bool true]) ∧ ReadTo b rest w w' := by
  have hsz : l.length + rest.length = s.size := by rw [← size_list, hl]; simp
  refine (take_yes s b l.length w hs (by omega) (by omega) hc hf).mono fun e w' ⟨h1, h2⟩ => ⟨?_, _, ?_, h2⟩
  · rw [h1]
    congr 2
    refine congrArg (fun x => #[Value.string x, Value.bool true]) (eq_ofL ?_)
    rw [toList_extract, Int.toNat_natCast, hl]
    simp
  · rw [toList_extract, ← size_list, List.take_length, Int.toNat_natCast, hl]
    simp

theorem rtake_n (s : ByteArray) (b : Nat) (l rest : List UInt8) (n : Int) (w : World) (hn : n = l.length) (hs : s.size ≤ maxLen) (hl : s.toList = l ++ rest) (hc : w.cell? ⟨b, 0, none⟩ = some (.string s)) (hf : w.frozen? ⟨b, 0, none⟩ = false) :
    Calls Try.prog 12 #[.pointer (some ⟨b, 0, none⟩), .int .i64 n] w fun e w' => e = .returned (.tuple #[.string (ofL l), .bool true]) ∧ ReadTo b rest w w' := by
  subst hn; exact rtake_L s b l rest w hs hl hc hf

theorem size_le {s : ByteArray} {l : List UInt8} (h : s.toList = l) (hl : l.length ≤ maxLen) : s.size ≤ maxLen := by rw [← size_list, h]; exact hl
theorem size_eq {s : ByteArray} {l : List UInt8} (h : s.toList = l) : s.size = l.length := by rw [← size_list, h]

/-! ### works -/
set_option maxRecDepth 100000 in
set_option maxHeartbeats 1000000 in
theorem works_any (w : World) : Calls Try.prog 14 #[] w fun e w' => e = .returned (.bool true) ∧ Below w.heap.size w w' := by
  have hu : U64 300 := ⟨by omega, by omega⟩
  have hl := numW_len 300 hu
  have e1 : (ofL (numW 300)).toList = numW 300 := ofL_toList _
  have z1 : (ofL (numW 300)).size ≤ 1099511627776 := by rw [ofL_size]; omega
  have e2 : (ofL ((ofL (numW 300)).toList ++ textB [97, 98])).toList = numL 300 ++ (textB [97, 98] ++ []) := by
    rw [ofL_toList, e1, List.append_nil]; rfl
  have z2 : (ofL ((ofL (numW 300)).toList ++ textB [97, 98])).size ≤ maxLen := by
    rw [← size_list, e2]
    have h2 : (numL 300).length ≤ 10 := hl
    have h3 : (numL 2).length ≤ 10 := numL_ten (by omega)
    simp only [textB, List.length_append, List.length_cons, List.length_nil]
    simp only [Nat.zero_add, Nat.reduceAdd]
    unfold maxLen
    omega
  generalize hs1 : ofL (numW 300) = s1 at *
  generalize hs2 : ofL (s1.toList ++ textB [97, 98]) = s2 at *
  have z3 : (textB [97, 98] ++ []).length ≤ maxLen := by
    have h3 : (numL 2).length ≤ 10 := numL_ten (by omega)
    simp only [textB, List.length_append, List.length_cons, List.length_nil, Nat.zero_add, Nat.reduceAdd]
    unfold maxLen
    omega
  have Z3 := Lib.hid z3
  have E2 := Lib.hid e2
  have Z2 := Lib.hid z2
  have h97 : (ofL [97, 98]).toList = [97, 98] := ofL_toList _
  clear e1 e2 hl z2 z3
  go_enter Try.func14, Try.ntmps14
  go_wp2_with (first | (go_at_call 8; refine (putnumber_of _ _ _ (Nat.zero_le _) hu).mono ?_; rintro e w1 ⟨rfl, hb⟩; obtain ⟨hB, hS, hk⟩ := after (B := w.heap.size) (w := w) (by go_grown) (by go_size) hb; clear hb; clear hk) | (go_at_call 7; refine (puttext_of _ _ _ z1 (by show 2 ≤ 1099511627776; omega)).mono ?_; rintro e w2 ⟨rfl, hb⟩; obtain ⟨hB, hS, hk⟩ := after (B := w.heap.size) (w := w) (by go_grown) (by go_size) hb; clear hb; clear hk) | (go_at_call 9; refine (new_any _ _).mono ?_; rintro e w3 ⟨rfl, rfl⟩) | (go_at_call 11; refine (rnumber_L s2 _ 300 _ _ Z2.out E2.out hu (by go_simp) (by go_simp)).mono ?_; rintro e w4 ⟨rfl, s3, hs3, rfl⟩; have Hs3 := Lib.hid hs3; clear hs3) | (go_at_call 10; refine (rtext_L s3 _ [97, 98] [] 2 _ (size_le Hs3.out Z3.out) Hs3.out (by decide) (by omega) (by go_simp) (by go_simp)).mono ?_; rintro e w4 ⟨rfl, s4, hs4, rfl⟩; have hs40 : ((s4.size : Int) == 0) = true := (by rw [size_eq hs4]; rfl); clear hs4) | (go_at_call 13; refine (left_any s4 _ _ (by go_simp)).mono ?_; rintro e w' ⟨rfl, rfl⟩))
  go_returns
  exact ⟨rfl, by go_grown⟩

end Go.Proofs.Ytlnealjadcggbaa
