/-
  The walks of package wire: texts and bytes put.
-/
import Derived.Test.YtelangbockagnaaWireW
namespace Go.Proofs.Ytelangbockagnaa
open Go.RowKit

/-! ### texts, bytes put -/
def ofL (l : List UInt8) : ByteArray := ⟨l.toArray⟩
theorem ofL_toList (l : List UInt8) : (ofL l).toList = l := by rw [Lib.toList_data]; rfl
theorem ofL_size (l : List UInt8) : (ofL l).size = l.length := by rw [← size_list, ofL_toList]
theorem append_ofL (a b : ByteArray) : (a ++ b) = ofL (a.toList ++ b.toList) := by
  apply ByteArray.ext
  rw [Lib.toList_data, Lib.toList_data]
  simp [ofL]

theorem putnumber_of (b : ByteArray) (v : Int) (w : World) (hb : b.size ≤ 1099511627776) (hu : U64 v) :
    Calls Try.prog 14 #[.string b, .int .u64 v] w fun e w' => e = .returned (.string (ofL (b.toList ++ numW v))) ∧ Below w.heap.size w w' := putnumber_any b v w hb hu
theorem numW_len (v : Int) (hu : U64 v) : (numW v).length ≤ 10 := by
  obtain ⟨n, rfl⟩ := Int.eq_ofNat_of_zero_le hu.1
  exact numL_ten hu.lt

set_option maxRecDepth 100000 in
set_option maxHeartbeats 1000000 in
theorem puttext_any (b s : ByteArray) (w : World) (hb : b.size ≤ 1099511627776) (hs : s.size ≤ 1099511627776) :
    Calls Try.prog 15 #[.string b, .string s] w fun e w' => e = .returned (.string (ofL (b.toList ++ numL s.size) ++ s)) ∧ Below w.heap.size w w' := by
  have hu : U64 (s.size : Int) := ⟨by omega, by omega⟩
  have hsz : (ofL (b.toList ++ numW s.size)).size ≤ 1099511627786 := by
    have := numW_len _ hu
    rw [ofL_size, List.length_append, size_list]; omega
  go_enter Try.func15, Try.ntmps15
  go_wp2_with (go_at_call 14; refine (putnumber_of b s.size _ hb hu).mono ?_; rintro e w1 ⟨rfl, hb⟩; obtain ⟨hB, hS, hk⟩ := after (B := w.heap.size) (w := w) (by go_grown) (by go_size) hb; clear hb; clear hk)
  go_ret
  exact ⟨rfl, hB⟩

end Go.Proofs.Ytelangbockagnaa
