/-
  The walks of the document's answers for wire that put: numbers, texts (acreageref01). (The lines up to refnumber_any as in XWireRefW.)
-/
import Derived.Test.YtfkghpomcaonfaaWirePutW
namespace Go.Proofs.Ytfkghpomcaonfaa
open Go.RowKit

theorem conv_one (c : Int) (h0 : 0 ≤ c) (h1 : c < 256) (w : World) :
    (convert 39 9 (.slice (some ⟨w.heap.size, 0, none⟩) 1 1)).run Try.prog (w.alloc (.cells #[.int .u8 c] 5)) = .ok (.string (ofL [UInt8.ofNat c.toNat])) (w.alloc (.cells #[.int .u8 c] 5)) := by
  refine run_convert_bytes_back _ _ _ 5 ⟨w.heap.size, 0, none⟩ 1 [UInt8.ofNat c.toNat] Try.underlying39 Try.underlying5 Try.underlying9 fun j hj => ?_
  have hj0 : j = 0 := by simpa using hj
  subst hj0
  have := bval_of c h0 h1
  unfold bval at this
  go_simp
  omega

theorem conv_ex (c : Int) (h0 : 0 ≤ c) (h1 : c < 256) (w : World) :
    ∃ o : ByteArray, o.size ≤ 1 ∧ Hid (o = ofL [UInt8.ofNat c.toNat]) ∧ (convert 39 9 (.slice (some ⟨w.heap.size, 0, none⟩) 1 1)).run Try.prog (w.alloc (.cells #[.int .u8 c] 5)) = .ok (.string o) (w.alloc (.cells #[.int .u8 c] 5)) :=
  ⟨_, by rw [ofL_size]; simp, rfl, conv_one c h0 h1 w⟩

set_option maxRecDepth 100000 in
theorem wrap_div (x : Nat) (h : x < 2 ^ 64) : IntKind.u64.wrap ((x : Int) / 128) = (x : Int) / 128 := by rw [IntKind.wrap_u64]; omega

/-- The loop of Number: what has been laid, what is still to lay. -/
structure RNumRel (v0 : Nat) (w : World) (s : ByteArray) (x : Nat) (wr : World) : Prop where
  sum : s.toList ++ numL x = numL v0
  le : x ≤ v0
  bel : Below w.heap.size w wr

set_option maxRecDepth 100000 in
set_option maxHeartbeats 2000000 in
theorem refnumber_any (v : Int) (w : World) (hu : U64 v) :
    Calls Try.prog 78 #[.int .u64 v] w fun e w' => e = .returned (.string (ofL (numW v))) ∧ Below w.heap.size w w' := by
  obtain ⟨v0, rfl⟩ := Int.eq_ofNat_of_zero_le hu.1
  go_enter Try.func78, Try.ntmps78
  go_wp2
  go_loopw [3, 0] (fun s v wr => ∃ (x : Nat) (b : ByteArray), v = .int .u64 x ∧ s = .string b ∧ Hid (RNumRel v0 w b x wr)) (fun _ v _ => (intOf v).toNat)
  case atStart => exact ⟨v0, ⟨#[]⟩, rfl, rfl, ⟨by simp [Lib.toList_data], Nat.le_refl _, by go_grown⟩⟩
  case round =>
    obtain ⟨x, b, rfl, rfl, hr⟩ := hrel
    have hlen := numL_ten hu.lt
    have hsum := congrArg List.length hr.out.sum
    simp only [List.length_append, size_list] at hsum
    have hb0 := hr.out.bel
    have hz0 := hb0.size
    by_cases hlt : x < 128
    · obtain ⟨o, ho, hoo, hcv⟩ := conv_ex x (by omega) (by omega) wr
      have hfin : ofL (numW v0) = b ++ o := by
        rw [hoo.out, append_ofL, ofL_toList, numW, Int.toNat_natCast, ← hr.out.sum, numL_small hlt, Int.toNat_natCast]
      have hb1 : b.size ≤ 10 := by omega
      have Hfin := Lib.hid hfin
      have Hb0 := Lib.hid hb0
      clear hsum hfin hb0 hr
      go_wp2
      go_ret
      exact ⟨ret_str Hfin.out.symm, Hb0.out.trans (((Below.refl _ _).alloc (Nat.le_refl _) _).mono hz0)⟩
    · have hge : 128 ≤ x := by omega
      have hwr := wrap_div x (Nat.lt_of_le_of_lt hr.out.le hu.lt)
      obtain ⟨o, ho, hoo, hcv⟩ := conv_ex ((x : Int) % 128 + 128) (by omega) (by omega) wr
      have hb1 : b.size ≤ 10 := by omega
      have hnx : RNumRel v0 w (b ++ o) (x / 128) (wr.alloc (.cells #[.int .u8 ((x : Int) % 128 + 128)] 5)) := by
        refine ⟨?_, by have := hr.out.le; omega, hb0.trans (((Below.refl _ _).alloc (Nat.le_refl _) _).mono hz0)⟩
        rw [hoo.out, append_ofL, ofL_toList, ofL_toList, ← hr.out.sum, numL_big hge, show ((x : Int) % 128 + 128).toNat = x % 128 + 128 by omega]
        simp
      have Hnx := Lib.hid hnx
      clear hsum hb0 hr hnx
      go_wp2
      go_roundw
      case rel => exact ⟨x / 128, _, by go_num, rfl, Hnx.out⟩
      case measure => simp [intOf]; omega

def txtL (l : List UInt8) : List UInt8 := numL l.length ++ l
theorem textW (s : ByteArray) : (ofL (numW (s.size : Int)) ++ s) = ofL (txtL s.toList) := by
  rw [append_ofL, ofL_toList, txtL, size_list, numW, Int.toNat_natCast]

set_option maxHeartbeats 1000000 in
theorem reftext_any (s : ByteArray) (w : World) (hs : s.size ≤ 1099511627776) :
    Calls Try.prog 79 #[.string s] w fun e w' => e = .returned (.string (ofL (txtL s.toList))) ∧ Below w.heap.size w w' := by
  have hu : U64 s.size := ⟨by omega, by omega⟩
  obtain ⟨o, ho⟩ : ∃ o, o = ofL (numW (s.size : Int)) := ⟨_, rfl⟩
  have hosz : o.size ≤ 10 := by rw [ho, ofL_size]; exact numW_len _ hu
  have hfin := Lib.hid (textW s)
  rw [← ho] at hfin
  have K : Hid (∀ w, Calls Try.prog 78 #[.int .u64 (s.size : Int)] w fun e w' => e = .returned (.string o) ∧ Below w.heap.size w w') := Lib.hid fun w => by rw [ho]; exact refnumber_any _ w hu
  clear ho
  go_enter Try.func79, Try.ntmps79
  go_wp2_with (go_at_call 78; refine (K.out _).mono ?_; rintro e w1 ⟨rfl, hb⟩; obtain ⟨hB, hS, hk⟩ := after (B := w.heap.size) (w := w) (by go_grown) (by go_size) hb; clear hb; clear hk)
  go_ret
  exact ⟨ret_str hfin.out, hB⟩

set_option maxHeartbeats 1000000 in
theorem refputnumber_any (b : ByteArray) (v : Int) (w : World) (hb : b.size ≤ 1099511627776) (hu : U64 v) :
    Calls Try.prog 62 #[.string b, .int .u64 v] w fun e w' => e = .returned (.string (ofL (b.toList ++ numW v))) ∧ Below w.heap.size w w' := by
  obtain ⟨o, ho⟩ : ∃ o, o = ofL (numW v) := ⟨_, rfl⟩
  have hosz : o.size ≤ 10 := by rw [ho, ofL_size]; exact numW_len _ hu
  have hfin : Hid (b ++ o = ofL (b.toList ++ numW v)) := Lib.hid (by rw [append_ofL, ho, ofL_toList])
  have K : Hid (∀ w, Calls Try.prog 78 #[.int .u64 v] w fun e w' => e = .returned (.string o) ∧ Below w.heap.size w w') := Lib.hid fun w => by rw [ho]; exact refnumber_any _ w hu
  clear ho hu
  go_enter Try.func62, Try.ntmps62
  go_wp2_with (go_at_call 78; refine (K.out _).mono ?_; rintro e w1 ⟨rfl, hb⟩; obtain ⟨hB, hS, hk⟩ := after (B := w.heap.size) (w := w) (by go_grown) (by go_size) hb; clear hb; clear hk)
  go_ret
  exact ⟨ret_str hfin.out, hB⟩

set_option maxHeartbeats 1000000 in
theorem refputtext_any (b s : ByteArray) (w : World) (hb : b.size ≤ 1099511627776) (hs : s.size ≤ 1099511627776) :
    Calls Try.prog 63 #[.string b, .string s] w fun e w' => e = .returned (.string (ofL (b.toList ++ txtL s.toList))) ∧ Below w.heap.size w w' := by
  have hn := numL_ten (v := s.size) (by omega)
  obtain ⟨o, ho⟩ : ∃ o, o = ofL (txtL s.toList) := ⟨_, rfl⟩
  have hosz : o.size ≤ s.size + 10 := by rw [ho, ofL_size, txtL, List.length_append, size_list]; omega
  have hfin : Hid (b ++ o = ofL (b.toList ++ txtL s.toList)) := Lib.hid (by rw [append_ofL, ho, ofL_toList])
  have K : Hid (∀ w, Calls Try.prog 79 #[.string s] w fun e w' => e = .returned (.string o) ∧ Below w.heap.size w w') := Lib.hid fun w => by rw [ho]; exact reftext_any _ w hs
  clear ho hn
  go_enter Try.func63, Try.ntmps63
  go_wp2_with (go_at_call 79; refine (K.out _).mono ?_; rintro e w1 ⟨rfl, hb⟩; obtain ⟨hB, hS, hk⟩ := after (B := w.heap.size) (w := w) (by go_grown) (by go_size) hb; clear hb; clear hk)
  go_ret
  exact ⟨ret_str hfin.out, hB⟩

end Go.Proofs.Ytfkghpomcaonfaa
