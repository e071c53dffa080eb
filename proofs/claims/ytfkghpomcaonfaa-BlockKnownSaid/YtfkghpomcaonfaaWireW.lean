/-
  The walks of package wire: numbers and texts put.
-/
import Derived.Test.YtfkghpomcaonfaaQuiet
import Derived.Test.YtfkghpomcaonfaaRow
import Derived.Test.YtfkghpomcaonfaaWirePlain
import Derived.WalkSpells
import Derived.WalkLawsBesides
import Derived.Lib.Hide
import Derived.Lib.ConvBytes
namespace Go.Proofs.Ytfkghpomcaonfaa
open Go.RowKit

theorem Try.info_u8 : (Try.prog.info? 5).map (fun i => (i.zero, i.size, i.bytes)) = some (some (.int .u8 0), 1, 1) := by kernel_rfl

/-- A uint64's bounds, behind a name (the walk stumbles over such numerals). -/
def U64 (v : Int) : Prop := 0 ≤ v ∧ v ≤ 18446744073709551615
theorem U64.lt {v : Nat} (h : U64 v) : v < 2 ^ 64 := by
  have h2 : (v : Int) ≤ 18446744073709551615 := h.2
  have h3 : v ≤ 18446744073709551615 := Int.ofNat_le.1 h2
  exact Nat.lt_succ_of_le h3
def numW (v : Int) : List UInt8 := numL v.toNat

/-- The loop of PutNumber: what has been laid, what is still to lay. -/
structure PutRel (b : ByteArray) (v0 : Nat) (w : World) (v o : Value) (wr : World) (x : Nat) (pre : List UInt8) : Prop where
  val : v = .int .u64 x
  lt : x < 2 ^ 64
  le : x ≤ v0
  sum : numL v0 = pre ++ numL x
  row : Row wr w.heap.size 5 1 o (b.toList ++ pre).length ((b.toList ++ pre).map bval)
  bel : Below w.heap.size w wr

theorem size_list (b : ByteArray) : b.toList.length = b.size := by rw [Lib.toList_data]; rfl
set_option maxRecDepth 100000 in
theorem PutRel.small {b : ByteArray} {v0 : Nat} {w : World} {v o : Value} {wr : World} {x : Nat} {pre : List UInt8} (h : PutRel b v0 w v o wr x pre) (hb : b.size ≤ 1099511627776) (hu : U64 v0) : (b.toList ++ pre).length + 1 ≤ 140737488355328 := by
  have h1 := numL_ten hu.lt
  rw [h.sum] at h1
  simp only [List.length_append] at h1 ⊢
  rw [size_list]
  omega
theorem PutRel.fin {b : ByteArray} {v0 : Nat} {w : World} {v o : Value} {wr : World} {x : Nat} {pre : List UInt8} (h : PutRel b v0 w v o wr x pre) (hx : x < 128) : (b.toList ++ pre) ++ [UInt8.ofNat (x : Int).toNat] = b.toList ++ numW v0 := by
  have := h.sum
  rw [numL_small hx] at this
  simp [numW, this]
theorem or_128 (x : Nat) : bits .or .u8 ((x : Int) % 256) 128 = (x : Int) % 128 + 128 := by
  have h : ∀ y : Fin 256, (y.val ||| 128 : Nat) = y.val % 128 + 128 := by decide +kernel
  have h1 := h ⟨x % 256, Nat.mod_lt _ (by omega)⟩
  have h2 := (bits_nat .u8 8 (by decide) wraps_u8 (x % 256) 128 (by omega) (by omega)).2
  rw [show ((x : Int) % 256) = ((x % 256 : Nat) : Int) by omega, show (128 : Int) = ((128 : Nat) : Int) from rfl, h2, h1]
  simp only
  omega
theorem PutRel.next {b : ByteArray} {v0 : Nat} {w : World} {v o : Value} {wr : World} {x : Nat} {pre : List UInt8} (h : PutRel b v0 w v o wr x pre) (hx : 128 ≤ x) {v1 : Value} {w1 : World}
    (hr : Row w1 w.heap.size 5 1 v1 ((b.toList ++ pre) ++ [UInt8.ofNat ((x : Int) % 128 + 128).toNat]).length (((b.toList ++ pre) ++ [UInt8.ofNat ((x : Int) % 128 + 128).toNat]).map bval))
    (hb : Below w.heap.size wr w1) : PutRel b v0 w (.int .u64 ((x : Int) / 128)) v1 w1 (x / 128) (pre ++ [UInt8.ofNat (x % 128 + 128)]) := by
  have hl := h.lt
  have hle := h.le
  have hs := h.sum
  rw [numL_big hx] at hs
  refine ⟨rfl, by omega, by omega, by rw [hs]; simp, ?_, h.bel.trans hb⟩
  rw [show ((x : Int) % 128 + 128).toNat = x % 128 + 128 by omega, List.append_assoc] at hr
  exact hr

set_option maxRecDepth 100000 in
set_option maxHeartbeats 2000000 in
theorem putnumber_any (b : ByteArray) (v : Int) (w : World) (hb : b.size ≤ 1099511627776) (hu : U64 v) :
    Calls Try.prog 57 #[.string b, .int .u64 v] w fun e w' => e = .returned (.string ⟨(b.toList ++ numW v).toArray⟩) ∧ Below w.heap.size w w' := by
  obtain ⟨i0, hi, hz0, hz1, hz2⟩ := info_parts Try.info_u8
  obtain ⟨v0, rfl⟩ := Int.eq_ofNat_of_zero_le hu.1
  obtain ⟨vb, wb, hcv, hrow, hbel⟩ := convert_row (P := Try.prog) w 9 39 5 b Try.underlying9 Try.underlying39 Try.underlying5 (by unfold maxLen; omega)
  have Hrow := Lib.hid hrow
  have Hbel := Lib.hid hbel
  have Hi := Lib.hid hi
  have Hb := Lib.hid hb
  clear hrow hbel hi hb
  go_enter Try.func57, Try.ntmps57
  go_wp2
  go_loopw [1, 5] (fun v o wr => ∃ x pre, PutRel b v0 w v o wr x pre) (fun v _ _ => (intOf v).toNat)
  case atStart => exact ⟨v0, [], rfl, hu.lt, Nat.le_refl _, by simp, by simpa using Hrow.out, Hbel.out⟩
  case round =>
    obtain ⟨x, pre, hr⟩ := hrel
    have hval := hr.val
    subst hval
    have Hr := Lib.hid hr
    clear hr
    by_cases hlt : x < 128
    · go_wp2_with (at_builtin; refine wpList_append_byte wr rfl _ _ 39 rfl w.heap.size 5 _ i0 Try.underlying39 Hi.out hz0 hz1 hz2 u5 (b.toList ++ pre) rfl Hr.out.row x (by omega) (by omega) rfl (Hr.out.small Hb.out hu) Hr.out.bel.size ?_; intro v1 w1 hrow1 hbel1 hgrow1; rw [Hr.out.fin hlt] at hrow1; have hcb := convert_back (P := Try.prog) w1 39 9 5 w.heap.size v1 _ Try.underlying39 Try.underlying5 Try.underlying9 hrow1; have hB := Lib.hid (Hr.out.bel.trans hbel1); clear hrow1 hbel1 hgrow1)
      go_ret
      exact ⟨rfl, hB.out⟩
    · have hge : 128 ≤ x := by omega
      have hor := or_128 x
      clear hlt
      go_wp2_with (at_builtin; refine wpList_append_byte wr rfl _ _ 39 rfl w.heap.size 5 _ i0 Try.underlying39 Hi.out hz0 hz1 hz2 u5 (b.toList ++ pre) rfl Hr.out.row ((x : Int) % 128 + 128) (by omega) (by omega) rfl (Hr.out.small Hb.out hu) Hr.out.bel.size ?_; intro v1 w1 hrow1 hbel1 hgrow1; have Hn := Lib.hid (Hr.out.next hge hrow1 hbel1); clear hrow1 hbel1 hgrow1)
      go_roundw
      case rel => exact ⟨_, _, Hn.out⟩
      case measure => simp [intOf]; omega

end Go.Proofs.Ytfkghpomcaonfaa
