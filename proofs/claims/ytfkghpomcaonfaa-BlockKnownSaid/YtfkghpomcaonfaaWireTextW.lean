/-
  The walks of package wire: texts read.
-/
import Derived.Test.YtfkghpomcaonfaaWireRW
namespace Go.Proofs.Ytfkghpomcaonfaa
open Go.RowKit

/-- A text at the beginning of bytes, of at most so many: the text, how many bytes in all. -/
def textL (l : List UInt8) (most : Int) : Option (List UInt8 × Nat) :=
  match takeL l with
  | none => none
  | some r => if most < 0 ∨ most < (r.1 : Int) ∨ l.length - r.2 < r.1 then none else some ((l.drop r.2).take r.1, r.2 + r.1)

set_option maxRecDepth 100000 in
set_option maxHeartbeats 1000000 in
theorem rtext_yes (s : ByteArray) (b : Nat) (w : World) (v n : Nat) (most : Int) (hs : s.size ≤ maxLen) (hm : most ≤ 9223372036854775807) (ht : takeL s.toList = some (v, n)) (h0 : 0 ≤ most) (h1 : (v : Int) ≤ most) (h2 : n + v ≤ s.size) (hc : w.cell? ⟨b, 0, none⟩ = some (.string s)) (hf : w.frozen? ⟨b, 0, none⟩ = false) :
    Calls Try.prog 67 #[.pointer (some ⟨b, 0, none⟩), .int .i64 most] w fun e w' => e = .returned (.tuple #[.string ((s.extract 0 (n + v)).extract n (n + v)), .bool true]) ∧ w.setCell ⟨b, 0, none⟩ (.string (s.extract (n + v) s.size)) = w' := by
  have hv := numV_some ht
  obtain ⟨k1, k2, _, _⟩ := takeL_bounds ht
  rw [size_list] at k2
  have hn0 : ((n : Int) == 0) = false := by simp; omega
  have hsm := hs
  unfold maxLen at hsm
  clear ht
  go_enter Try.func67, Try.ntmps67
  go_wp2_with (first | (go_at_call 81; refine (rest_any s b _ hc).mono ?_; rintro e w' ⟨rfl, rfl⟩) | (go_at_call 80; refine (number_any s _ hs).mono ?_; rintro e w' ⟨rfl, rfl⟩) | (go_at_call 82; refine (take_yes s b ((n : Int) + v) _ hs (by omega) (by omega) hc hf).mono ?_; rintro e w' ⟨rfl, rfl⟩; simp only [show ((n : Int) + (v : Int)).toNat = n + v from by omega]))
  go_ret2
  exact ⟨rfl, rfl⟩

/-- The text is refused: there is no number; or it is of more bytes than may be, or than there are. -/
theorem rtext_no0 (s : ByteArray) (b : Nat) (w : World) (most : Int) (hs : s.size ≤ maxLen) (ht : takeL s.toList = none) (hc : w.cell? ⟨b, 0, none⟩ = some (.string s)) :
    Calls Try.prog 67 #[.pointer (some ⟨b, 0, none⟩), .int .i64 most] w fun e w' => e = .returned (.tuple #[.string ⟨#[]⟩, .bool false]) ∧ w = w' := by
  have hv := numV_none ht
  clear ht
  go_enter Try.func67, Try.ntmps67
  go_wp2_with (first | (go_at_call 81; refine (rest_any s b _ hc).mono ?_; rintro e w' ⟨rfl, rfl⟩) | (go_at_call 80; refine (number_any s _ hs).mono ?_; rintro e w' ⟨rfl, rfl⟩))
  go_ret2
  exact ⟨rfl, rfl⟩

set_option maxRecDepth 100000 in
set_option maxHeartbeats 1000000 in
theorem rtext_no (s : ByteArray) (b : Nat) (w : World) (v n : Nat) (most : Int) (hs : s.size ≤ maxLen) (hm : most ≤ 9223372036854775807) (ht : takeL s.toList = some (v, n)) (h : most < 0 ∨ most < (v : Int) ∨ (s.size : Int) < n + v) (hc : w.cell? ⟨b, 0, none⟩ = some (.string s)) :
    Calls Try.prog 67 #[.pointer (some ⟨b, 0, none⟩), .int .i64 most] w fun e w' => e = .returned (.tuple #[.string ⟨#[]⟩, .bool false]) ∧ w = w' := by
  have hv := numV_some ht
  obtain ⟨k1, k2, _, _⟩ := takeL_bounds ht
  rw [size_list] at k2
  have hn0 : ((n : Int) == 0) = false := by simp; omega
  have hsm := hs
  unfold maxLen at hsm
  clear ht
  by_cases h0 : most < 0
  · clear h
    go_enter Try.func67, Try.ntmps67
    go_wp2_with (first | (go_at_call 81; refine (rest_any s b _ hc).mono ?_; rintro e w' ⟨rfl, rfl⟩) | (go_at_call 80; refine (number_any s _ hs).mono ?_; rintro e w' ⟨rfl, rfl⟩))
    go_ret2
    exact ⟨rfl, rfl⟩
  · by_cases h1 : most < (v : Int)
    · clear h
      go_enter Try.func67, Try.ntmps67
      go_wp2_with (first | (go_at_call 81; refine (rest_any s b _ hc).mono ?_; rintro e w' ⟨rfl, rfl⟩) | (go_at_call 80; refine (number_any s _ hs).mono ?_; rintro e w' ⟨rfl, rfl⟩))
      go_ret2
      exact ⟨rfl, rfl⟩
    · have h2 : (s.size : Int) < n + v := by omega
      clear h
      go_enter Try.func67, Try.ntmps67
      go_wp2_with (first | (go_at_call 81; refine (rest_any s b _ hc).mono ?_; rintro e w' ⟨rfl, rfl⟩) | (go_at_call 80; refine (number_any s _ hs).mono ?_; rintro e w' ⟨rfl, rfl⟩))
      go_ret2
      exact ⟨rfl, rfl⟩

end Go.Proofs.Ytfkghpomcaonfaa
