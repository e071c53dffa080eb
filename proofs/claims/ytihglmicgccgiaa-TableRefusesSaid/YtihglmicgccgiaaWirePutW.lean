/-
  Plain facts on numbers and texts as bytes; no program in sight.
-/
import Derived.Test.YtihglmicgccgiaaQuiet
import Derived.Test.YtihglmicgccgiaaRow
import Derived.WalkSpells
import Derived.WalkLawsBesides
import Derived.Lib.Hide
import Derived.Lib.ConvBytes
namespace Go.Proofs.Ytihglmicgccgiaa

/-- A number's bytes. -/
def numL (v : Nat) : List UInt8 := if h : v < 128 then [UInt8.ofNat v] else UInt8.ofNat (v % 128 + 128) :: numL (v / 128)
termination_by v
decreasing_by omega

theorem numL_small {v : Nat} (h : v < 128) : numL v = [UInt8.ofNat v] := by rw [numL]; simp [h]
theorem numL_big {v : Nat} (h : 128 ≤ v) : numL v = UInt8.ofNat (v % 128 + 128) :: numL (v / 128) := by
  rw [numL]; have : ¬ v < 128 := by omega
  simp [this]

theorem numL_length (k : Nat) : ∀ v, v < 128 ^ (k + 1) → (numL v).length ≤ k + 1 := by
  induction k with
  | zero => intro v h; rw [numL_small (by simpa using h)]; simp
  | succ k ih =>
    intro v h
    by_cases hv : v < 128
    · rw [numL_small hv]; simp
    · rw [numL_big (by omega)]
      have := ih (v / 128) (by rw [Nat.pow_succ] at h; omega)
      simp only [List.length_cons]; omega
theorem numL_pos (v : Nat) : 1 ≤ (numL v).length := by
  by_cases hv : v < 128
  · rw [numL_small hv]; simp
  · rw [numL_big (by omega)]; simp
theorem numL_ten {v : Nat} (h : v < 2 ^ 64) : (numL v).length ≤ 10 := numL_length 9 v (by omega)

/-- What a number's reading comes to: the rest's, at place i: the value (relative to the place), how many bytes. -/
def getL : Nat → List UInt8 → Option (Nat × Nat)
  | _, [] => none
  | i, c :: s =>
    if i = 9 ∧ 1 < c.toNat then none
    else if 128 ≤ c.toNat then (getL (i + 1) s).map fun r => (c.toNat - 128 + 128 * r.1, r.2 + 1)
    else if c.toNat = 0 ∧ 0 < i then none
    else some (c.toNat, 1)

theorem getL_cons (i : Nat) (c : UInt8) (s : List UInt8) : getL i (c :: s) = if i = 9 ∧ 1 < c.toNat then none else if 128 ≤ c.toNat then (getL (i + 1) s).map fun r => (c.toNat - 128 + 128 * r.1, r.2 + 1) else if c.toNat = 0 ∧ 0 < i then none else some (c.toNat, 1) := by rw [getL]

def takeL (s : List UInt8) : Option (Nat × Nat) := getL 0 s

theorem getL_bounds : ∀ (s : List UInt8) (i v n : Nat), getL i s = some (v, n) → 1 ≤ n ∧ n ≤ s.length ∧ (i ≤ 9 → n + i ≤ 10 ∧ v < 2 ^ (64 - 7 * i))
  | [], i, v, n, h => by simp [getL] at h
  | c :: s, i, v, n, h => by
    have hc := c.toNat_lt
    unfold getL at h
    split at h
    · simp at h
    · rename_i h9
      split at h
      · rename_i h128
        cases hr : getL (i + 1) s with
        | none => rw [hr] at h; simp at h
        | some r =>
          rw [hr] at h
          simp only [Option.map_some, Option.some.injEq, Prod.mk.injEq] at h
          obtain ⟨rfl, rfl⟩ := h
          obtain ⟨b1, b2, b4⟩ := getL_bounds s (i + 1) r.1 r.2 hr
          simp only [List.length_cons]
          refine ⟨by omega, by omega, fun hi => ?_⟩
          have hi9 : i ≠ 9 := by rintro rfl; exact h9 ⟨rfl, by omega⟩
          obtain ⟨b3, b5⟩ := b4 (by omega)
          have e : 2 ^ (64 - 7 * i) = 128 * 2 ^ (64 - 7 * (i + 1)) := by
            rw [show 64 - 7 * i = 7 + (64 - 7 * (i + 1)) by omega, Nat.pow_add]
          refine ⟨by omega, ?_⟩
          rw [e]
          omega
      · split at h
        · simp at h
        · simp only [Option.some.injEq, Prod.mk.injEq] at h
          obtain ⟨rfl, rfl⟩ := h
          simp only [List.length_cons]
          refine ⟨by omega, by omega, fun hi => ⟨by omega, ?_⟩⟩
          by_cases h9' : i = 9
          · subst h9'; omega
          · have : 2 ^ 7 ≤ 2 ^ (64 - 7 * i) := Nat.pow_le_pow_right (by omega) (by omega)
            omega

/-- Put and read back. -/
theorem getL_numL : ∀ (k i v : Nat) (s : List UInt8), i + k = 9 → v < 2 ^ (64 - 7 * i) → (0 < i → 0 < v) → getL i (numL v ++ s) = some (v, (numL v).length)
  | k, i, v, s, hk, hv, h0 => by
    by_cases hs : v < 128
    · rw [numL_small hs]
      have e : (UInt8.ofNat v).toNat = v := by simp [UInt8.toNat_ofNat']; omega
      simp only [List.cons_append, List.nil_append, getL, e, List.length_cons, List.length_nil]
      rw [if_neg, if_neg (by omega), if_neg (by omega)]
      rintro ⟨rfl, h⟩
      omega
    · have hk9 : i ≠ 9 := by rintro rfl; omega
      rw [numL_big (by omega)]
      have e : (UInt8.ofNat (v % 128 + 128)).toNat = v % 128 + 128 := by simp [UInt8.toNat_ofNat']; omega
      have ep : 2 ^ (64 - 7 * i) = 128 * 2 ^ (64 - 7 * (i + 1)) := by
        rw [show 64 - 7 * i = 7 + (64 - 7 * (i + 1)) by omega, Nat.pow_add]
      have r := getL_numL (k - 1) (i + 1) (v / 128) s (by omega) (by rw [ep] at hv; omega) (fun _ => by omega)
      simp only [List.cons_append, getL, e, r, Option.map_some, List.length_cons]
      rw [if_neg (by omega), if_pos (by omega)]
      simp only [Option.some.injEq, Prod.mk.injEq, and_true]
      omega
termination_by k => k

theorem takeL_numL (v : Nat) (s : List UInt8) (h : v < 2 ^ 64) : takeL (numL v ++ s) = some (v, (numL v).length) := getL_numL 9 0 v s rfl (by simpa using h) (fun h => absurd h (by omega))

/-- What is read is put as just those bytes. -/
theorem numL_getL : ∀ (s : List UInt8) (i v n : Nat), getL i s = some (v, n) → numL v = s.take n ∧ (0 < i → 0 < v)
  | [], i, v, n, h => by simp [getL] at h
  | c :: s, i, v, n, h => by
    have hc := c.toNat_lt
    unfold getL at h
    split at h
    · simp at h
    · split at h
      · rename_i h9 h128
        cases hr : getL (i + 1) s with
        | none => rw [hr] at h; simp at h
        | some r =>
          rw [hr] at h
          simp only [Option.map_some, Option.some.injEq, Prod.mk.injEq] at h
          obtain ⟨rfl, rfl⟩ := h
          obtain ⟨e1, e2⟩ := numL_getL s (i + 1) r.1 r.2 hr
          have hp := e2 (by omega)
          refine ⟨?_, fun _ => by omega⟩
          rw [numL_big (by omega), List.take_succ_cons]
          have a1 : (c.toNat - 128 + 128 * r.1) / 128 = r.1 := by omega
          have a2 : (c.toNat - 128 + 128 * r.1) % 128 + 128 = c.toNat := by omega
          rw [a1, a2, e1]
          simp
      · split at h
        · simp at h
        · rename_i h9 h128 hz
          simp only [Option.some.injEq, Prod.mk.injEq] at h
          obtain ⟨rfl, rfl⟩ := h
          refine ⟨?_, fun hi => by omega⟩
          rw [numL_small (by omega)]
          simp

end Go.Proofs.Ytihglmicgccgiaa

/-
  The walks of package wire: numbers and texts put.
-/
namespace Go.Proofs.Ytihglmicgccgiaa
open Go.RowKit

theorem Try.info_u8 : (Try.prog.info? 5).map (fun i => (i.zero, i.size, i.bytes)) = some (some (.int .u8 0), 1, 1) := by kernel_rfl

/-- A uint64's bounds, behind a name (the walk stumbles over such numerals). -/
def U64 (v : Int) : Prop := 0 ≤ v ∧ v ≤ 18446744073709551615
theorem U64.lt {v : Nat} (h : U64 v) : v < 2 ^ 64 := by
  have h2 : (v : Int) ≤ 18446744073709551615 := h.2
  have h3 : v ≤ 18446744073709551615 := Int.ofNat_le.1 h2
  exact Nat.lt_succ_of_le h3
def numW (v : Int) : List UInt8 := numL v.toNat

/-- The loop of PutNumber: what has been laid, what is still to lay. -/
structure PutRel (b : ByteArray) (v0 : Nat) (w : World) (v o : Value) (wr : World) (x : Nat) (pre : List UInt8) : Prop where
  val : v = .int .u64 x
  lt : x < 2 ^ 64
  le : x ≤ v0
  sum : numL v0 = pre ++ numL x
  row : Row wr w.heap.size 5 1 o (b.toList ++ pre).length ((b.toList ++ pre).map bval)
  bel : Below w.heap.size w wr

theorem size_list (b : ByteArray) : b.toList.length = b.size := by rw [Lib.toList_data]; rfl
set_option maxRecDepth 100000 in
theorem PutRel.small {b : ByteArray} {v0 : Nat} {w : World} {v o : Value} {wr : World} {x : Nat} {pre : List UInt8} (h : PutRel b v0 w v o wr x pre) (hb : b.size ≤ 1099511627776) (hu : U64 v0) : (b.toList ++ pre).length + 1 ≤ 140737488355328 := by
  have h1 := numL_ten hu.lt
  rw [h.sum] at h1
  simp only [List.length_append] at h1 ⊢
  rw [size_list]
  omega
theorem PutRel.fin {b : ByteArray} {v0 : Nat} {w : World} {v o : Value} {wr : World} {x : Nat} {pre : List UInt8} (h : PutRel b v0 w v o wr x pre) (hx : x < 128) : (b.toList ++ pre) ++ [UInt8.ofNat (x : Int).toNat] = b.toList ++ numW v0 := by
  have := h.sum
  rw [numL_small hx] at this
  simp [numW, this]
theorem or_128 (x : Nat) : bits .or .u8 ((x : Int) % 256) 128 = (x : Int) % 128 + 128 := by
  have h : ∀ y : Fin 256, (y.val ||| 128 : Nat) = y.val % 128 + 128 := by decide +kernel
  have h1 := h ⟨x % 256, Nat.mod_lt _ (by omega)⟩
  have h2 := (bits_nat .u8 8 (by decide) wraps_u8 (x % 256) 128 (by omega) (by omega)).2
  rw [show ((x : Int) % 256) = ((x % 256 : Nat) : Int) by omega, show (128 : Int) = ((128 : Nat) : Int) from rfl, h2, h1]
  simp only
  omega
theorem PutRel.next {b : ByteArray} {v0 : Nat} {w : World} {v o : Value} {wr : World} {x : Nat} {pre : List UInt8} (h : PutRel b v0 w v o wr x pre) (hx : 128 ≤ x) {v1 : Value} {w1 : World}
    (hr : Row w1 w.heap.size 5 1 v1 ((b.toList ++ pre) ++ [UInt8.ofNat ((x : Int) % 128 + 128).toNat]).length (((b.toList ++ pre) ++ [UInt8.ofNat ((x : Int) % 128 + 128).toNat]).map bval))
    (hb : Below w.heap.size wr w1) : PutRel b v0 w (.int .u64 ((x : Int) / 128)) v1 w1 (x / 128) (pre ++ [UInt8.ofNat (x % 128 + 128)]) := by
  have hl := h.lt
  have hle := h.le
  have hs := h.sum
  rw [numL_big hx] at hs
  refine ⟨rfl, by omega, by omega, by rw [hs]; simp, ?_, h.bel.trans hb⟩
  rw [show ((x : Int) % 128 + 128).toNat = x % 128 + 128 by omega, List.append_assoc] at hr
  exact hr

set_option maxRecDepth 100000 in
set_option maxHeartbeats 2000000 in
theorem putnumber_any (b : ByteArray) (v : Int) (w : World) (hb : b.size ≤ 1099511627776) (hu : U64 v) :
    Calls Try.prog 44 #[.string b, .int .u64 v] w fun e w' => e = .returned (.string ⟨(b.toList ++ numW v).toArray⟩) ∧ Below w.heap.size w w' := by
  obtain ⟨i0, hi, hz0, hz1, hz2⟩ := info_parts Try.info_u8
  obtain ⟨v0, rfl⟩ := Int.eq_ofNat_of_zero_le hu.1
  obtain ⟨vb, wb, hcv, hrow, hbel⟩ := convert_row (P := Try.prog) w 9 33 5 b Try.underlying9 Try.underlying33 Try.underlying5 (by unfold maxLen; omega)
  have Hrow := Lib.hid hrow
  have Hbel := Lib.hid hbel
  have Hi := Lib.hid hi
  have Hb := Lib.hid hb
  clear hrow hbel hi hb
  go_enter Try.func44, Try.ntmps44
  go_wp2
  go_loopw [1, 5] (fun v o wr => ∃ x pre, PutRel b v0 w v o wr x pre) (fun v _ _ => (intOf v).toNat)
  case atStart => exact ⟨v0, [], rfl, hu.lt, Nat.le_refl _, by simp, by simpa using Hrow.out, Hbel.out⟩
  case round =>
    obtain ⟨x, pre, hr⟩ := hrel
    have hval := hr.val
    subst hval
    have Hr := Lib.hid hr
    clear hr
    by_cases hlt : x < 128
    · go_wp2_with (at_builtin; refine wpList_append_byte wr rfl _ _ 33 rfl w.heap.size 5 _ i0 Try.underlying33 Hi.out hz0 hz1 hz2 u5 (b.toList ++ pre) rfl Hr.out.row x (by omega) (by omega) rfl (Hr.out.small Hb.out hu) Hr.out.bel.size ?_; intro v1 w1 hrow1 hbel1 hgrow1; rw [Hr.out.fin hlt] at hrow1; have hcb := convert_back (P := Try.prog) w1 33 9 5 w.heap.size v1 _ Try.underlying33 Try.underlying5 Try.underlying9 hrow1; have hB := Lib.hid (Hr.out.bel.trans hbel1); clear hrow1 hbel1 hgrow1)
      go_ret
      exact ⟨rfl, hB.out⟩
    · have hge : 128 ≤ x := by omega
      have hor := or_128 x
      clear hlt
      go_wp2_with (at_builtin; refine wpList_append_byte wr rfl _ _ 33 rfl w.heap.size 5 _ i0 Try.underlying33 Hi.out hz0 hz1 hz2 u5 (b.toList ++ pre) rfl Hr.out.row ((x : Int) % 128 + 128) (by omega) (by omega) rfl (Hr.out.small Hb.out hu) Hr.out.bel.size ?_; intro v1 w1 hrow1 hbel1 hgrow1; have Hn := Lib.hid (Hr.out.next hge hrow1 hbel1); clear hrow1 hbel1 hgrow1)
      go_roundw
      case rel => exact ⟨_, _, Hn.out⟩
      case measure => simp [intOf]; omega

end Go.Proofs.Ytihglmicgccgiaa

/-
  The walks of package wire: texts and bytes put.
-/
namespace Go.Proofs.Ytihglmicgccgiaa
open Go.RowKit

/-! ### texts, bytes put -/
def ofL (l : List UInt8) : ByteArray := ⟨l.toArray⟩
theorem ofL_toList (l : List UInt8) : (ofL l).toList = l := by rw [Lib.toList_data]; rfl
theorem ofL_size (l : List UInt8) : (ofL l).size = l.length := by rw [← size_list, ofL_toList]
theorem append_ofL (a b : ByteArray) : (a ++ b) = ofL (a.toList ++ b.toList) := by
  apply ByteArray.ext
  rw [Lib.toList_data, Lib.toList_data]
  simp [ofL]

theorem putnumber_of (b : ByteArray) (v : Int) (w : World) (hb : b.size ≤ 1099511627776) (hu : U64 v) :
    Calls Try.prog 44 #[.string b, .int .u64 v] w fun e w' => e = .returned (.string (ofL (b.toList ++ numW v))) ∧ Below w.heap.size w w' := putnumber_any b v w hb hu
theorem numW_len (v : Int) (hu : U64 v) : (numW v).length ≤ 10 := by
  obtain ⟨n, rfl⟩ := Int.eq_ofNat_of_zero_le hu.1
  exact numL_ten hu.lt

set_option maxRecDepth 100000 in
set_option maxHeartbeats 1000000 in
theorem puttext_any (b s : ByteArray) (w : World) (hb : b.size ≤ 1099511627776) (hs : s.size ≤ 1099511627776) :
    Calls Try.prog 46 #[.string b, .string s] w fun e w' => e = .returned (.string (ofL (b.toList ++ numL s.size) ++ s)) ∧ Below w.heap.size w w' := by
  have hu : U64 (s.size : Int) := ⟨by omega, by omega⟩
  have hsz : (ofL (b.toList ++ numW s.size)).size ≤ 1099511627786 := by
    have := numW_len _ hu
    rw [ofL_size, List.length_append, size_list]; omega
  go_enter Try.func46, Try.ntmps46
  go_wp2_with (go_at_call 44; refine (putnumber_of b s.size _ hb hu).mono ?_; rintro e w1 ⟨rfl, hb⟩; obtain ⟨hB, hS, hk⟩ := after (B := w.heap.size) (w := w) (by go_grown) (by go_size) hb; clear hb; clear hk)
  go_ret
  exact ⟨rfl, hB⟩

set_option maxRecDepth 100000 in
set_option maxHeartbeats 1000000 in
theorem putbyte_any (b : ByteArray) (c : Int) (w : World) (hb : b.size ≤ 1099511627776) (h0 : 0 ≤ c) (h1 : c < 256) :
    Calls Try.prog 75 #[.string b, .int .u8 c] w fun e w' => e = .returned (.string (ofL (b.toList ++ [UInt8.ofNat c.toNat]))) ∧ Below w.heap.size w w' := by
  obtain ⟨i0, hi, hz0, hz1, hz2⟩ := info_parts Try.info_u8
  obtain ⟨vb, wb, hcv, hrow, hbel⟩ := convert_row (P := Try.prog) w 9 33 5 b Try.underlying9 Try.underlying33 Try.underlying5 (by unfold maxLen; omega)
  have Hrow := Lib.hid hrow
  have Hbel := Lib.hid hbel
  have Hi := Lib.hid hi
  have Hb := Lib.hid hb
  clear hrow hbel hi hb
  go_enter Try.func75, Try.ntmps75
  go_wp2_with (at_builtin; refine wpList_append_byte wb rfl _ _ 33 rfl w.heap.size 5 _ i0 Try.underlying33 Hi.out hz0 hz1 hz2 vb b.toList rfl Hrow.out c h0 h1 rfl (by rw [size_list]; have := Hb.out; omega) Hbel.out.size ?_; intro v1 w1 hrow1 hbel1 hgrow1; have hcb := convert_back (P := Try.prog) w1 33 9 5 w.heap.size v1 _ Try.underlying33 Try.underlying5 Try.underlying9 hrow1; have hB := Lib.hid (Hbel.out.trans hbel1); clear hrow1 hbel1 hgrow1)
  go_ret
  exact ⟨rfl, hB.out⟩

end Go.Proofs.Ytihglmicgccgiaa
