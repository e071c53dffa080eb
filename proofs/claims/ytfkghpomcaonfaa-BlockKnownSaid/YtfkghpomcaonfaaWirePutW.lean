/-
  The walks of package wire: texts and bytes put.
-/
import Derived.Test.YtfkghpomcaonfaaWireW
namespace Go.Proofs.Ytfkghpomcaonfaa
open Go.RowKit

/-! ### texts, bytes put -/
def ofL (l : List UInt8) : ByteArray := ⟨l.toArray⟩
theorem ofL_toList (l : List UInt8) : (ofL l).toList = l := by rw [Lib.toList_data]; rfl
theorem ofL_size (l : List UInt8) : (ofL l).size = l.length := by rw [← size_list, ofL_toList]
theorem append_ofL (a b : ByteArray) : (a ++ b) = ofL (a.toList ++ b.toList) := by
  apply ByteArray.ext
  rw [Lib.toList_data, Lib.toList_data]
  simp [ofL]

theorem putnumber_of (b : ByteArray) (v : Int) (w : World) (hb : b.size ≤ 1099511627776) (hu : U64 v) :
    Calls Try.prog 57 #[.string b, .int .u64 v] w fun e w' => e = .returned (.string (ofL (b.toList ++ numW v))) ∧ Below w.heap.size w w' := putnumber_any b v w hb hu
theorem numW_len (v : Int) (hu : U64 v) : (numW v).length ≤ 10 := by
  obtain ⟨n, rfl⟩ := Int.eq_ofNat_of_zero_le hu.1
  exact numL_ten hu.lt

set_option maxRecDepth 100000 in
set_option maxHeartbeats 1000000 in
theorem puttext_any (b s : ByteArray) (w : World) (hb : b.size ≤ 1099511627776) (hs : s.size ≤ 1099511627776) :
    Calls Try.prog 56 #[.string b, .string s] w fun e w' => e = .returned (.string (ofL (b.toList ++ numL s.size) ++ s)) ∧ Below w.heap.size w w' := by
  have hu : U64 (s.size : Int) := ⟨by omega, by omega⟩
  have hsz : (ofL (b.toList ++ numW s.size)).size ≤ 1099511627786 := by
    have := numW_len _ hu
    rw [ofL_size, List.length_append, size_list]; omega
  go_enter Try.func56, Try.ntmps56
  go_wp2_with (go_at_call 57; refine (putnumber_of b s.size _ hb hu).mono ?_; rintro e w1 ⟨rfl, hb⟩; obtain ⟨hB, hS, hk⟩ := after (B := w.heap.size) (w := w) (by go_grown) (by go_size) hb; clear hb; clear hk)
  go_ret
  exact ⟨rfl, hB⟩

set_option maxRecDepth 100000 in
set_option maxHeartbeats 1000000 in
theorem putbyte_any (b : ByteArray) (c : Int) (w : World) (hb : b.size ≤ 1099511627776) (h0 : 0 ≤ c) (h1 : c < 256) :
    Calls Try.prog 58 #[.string b, .int .u8 c] w fun e w' => e = .returned (.string (ofL (b.toList ++ [UInt8.ofNat c.toNat]))) ∧ Below w.heap.size w w' := by
  obtain ⟨i0, hi, hz0, hz1, hz2⟩ := info_parts Try.info_u8
  obtain ⟨vb, wb, hcv, hrow, hbel⟩ := convert_row (P := Try.prog) w 9 39 5 b Try.underlying9 Try.underlying39 Try.underlying5 (by unfold maxLen; omega)
  have Hrow := Lib.hid hrow
  have Hbel := Lib.hid hbel
  have Hi := Lib.hid hi
  have Hb := Lib.hid hb
  clear hrow hbel hi hb
  go_enter Try.func58, Try.ntmps58
  go_wp2_with (at_builtin; refine wpList_append_byte wb rfl _ _ 39 rfl w.heap.size 5 _ i0 Try.underlying39 Hi.out hz0 hz1 hz2 vb b.toList rfl Hrow.out c h0 h1 rfl (by rw [size_list]; have := Hb.out; omega) Hbel.out.size ?_; intro v1 w1 hrow1 hbel1 hgrow1; have hcb := convert_back (P := Try.prog) w1 39 9 5 w.heap.size v1 _ Try.underlying39 Try.underlying5 Try.underlying9 hrow1; have hB := Lib.hid (Hbel.out.trans hbel1); clear hrow1 hbel1 hgrow1)
  go_ret
  exact ⟨rfl, hB.out⟩

end Go.Proofs.Ytfkghpomcaonfaa
