/-
  Blocks: what their bytes are; the plain part.
-/
import Derived.Test.YtihglmicgccgiaaReadPlain
import Derived.Test.YtihglmicgccgiaaRReadW
import Derived.Test.YtihglmicgccgiaaCellsSortW
namespace Go.Proofs.Ytihglmicgccgiaa
open Go.RowKit

/-- how many first bytes two texts have in common -/
def alikeL : List UInt8 → List UInt8 → Nat
  | a :: x, b :: y => if a = b then alikeL x y + 1 else 0
  | _, _ => 0
theorem alikeL_nil_left (b : List UInt8) : alikeL [] b = 0 := by cases b <;> rfl
theorem alikeL_le : ∀ a b : List UInt8, alikeL a b ≤ a.length ∧ alikeL a b ≤ b.length
  | [], b => by rw [alikeL_nil_left]; simp
  | a :: x, [] => by simp [alikeL]
  | a :: x, b :: y => by
    have := alikeL_le x y
    unfold alikeL
    split <;> simp <;> omega
theorem alikeL_take : ∀ a b : List UInt8, a.take (alikeL a b) = b.take (alikeL a b)
  | [], b => by rw [alikeL_nil_left]; simp
  | a :: x, [] => by simp [alikeL]
  | a :: x, b :: y => by
    unfold alikeL
    split
    · rename_i h; subst h; rw [List.take_succ_cons, List.take_succ_cons, alikeL_take x y]
    · simp
theorem alikeL_split (a b : List UInt8) : a.take (alikeL a b) ++ b.drop (alikeL a b) = b := by rw [alikeL_take, List.take_append_drop]
/-- alike, step by step -/
theorem alikeL_iff {a b : List UInt8} {k : Nat} (h : a.take k = b.take k) (ha : k ≤ a.length) (hb : k ≤ b.length) : k ≤ alikeL a b := by
  induction k generalizing a b with
  | zero => omega
  | succ k ih =>
    cases a with
    | nil => simp at ha
    | cons x a =>
      cases b with
      | nil => simp at hb
      | cons y b =>
        simp only [List.take_succ_cons, List.cons.injEq] at h
        unfold alikeL
        rw [if_pos h.1]
        have := ih h.2 (by simpa using ha) (by simpa using hb)
        omega
theorem alikeL_next {a b : List UInt8} {k : Nat} (h : a.take k = b.take k) {x y : UInt8} (ha : a[k]? = some x) (hb : b[k]? = some y) : (x = y → a.take (k + 1) = b.take (k + 1)) ∧ (x ≠ y → alikeL a b = k) := by
  have hal := (List.getElem?_eq_some_iff.1 ha).1
  have hbl := (List.getElem?_eq_some_iff.1 hb).1
  refine ⟨fun e => ?_, fun hne => ?_⟩
  · rw [List.take_add_one, List.take_add_one, h, ha, hb, e]
  · have h1 := alikeL_iff h (by omega) (by omega)
    rcases Nat.lt_or_ge k (alikeL a b) with h2 | h2
    · have h3 := alikeL_take a b
      have h4 : (a.take (alikeL a b))[k]? = (b.take (alikeL a b))[k]? := by rw [h3]
      rw [List.getElem?_take_of_lt h2, List.getElem?_take_of_lt h2, ha, hb] at h4
      exact absurd (Option.some.inj h4) hne
    · omega
theorem alikeL_end {a b : List UInt8} {k : Nat} (h : a.take k = b.take k) (ha : k ≤ a.length) (hb : k ≤ b.length) (he : a.length ≤ k ∨ b.length ≤ k) : alikeL a b = k := by
  have h1 := alikeL_iff h ha hb
  have h2 := alikeL_le a b
  omega

/-- a cell's bytes behind another row -/
def layL (ahead : List UInt8) (c : CellA) : List UInt8 :=
  numL (alikeL ahead c.row.toList) ++ txtL (c.row.toList.drop (alikeL ahead c.row.toList)) ++ txtL c.col.toList ++ numW c.ver ++ [if c.gone then 1 else 0] ++ txtL c.val.toList
/-- a number in two bytes -/
def twoL (n : Nat) : List UInt8 := [UInt8.ofNat (n / 256), UInt8.ofNat n]
def aheadB (cs : List CellA) (k : Nat) : ByteArray := if k % 8 = 0 then ⟨#[]⟩ else match cs[k - 1]? with
  | some c => c.row
  | none => ⟨#[]⟩
/-- the bytes of the first k cells -/
def bodyTo (cs : List CellA) : Nat → List UInt8
  | 0 => []
  | k + 1 => bodyTo cs k ++ match cs[k]? with
    | some c => layL (aheadB cs k).toList c
    | none => []
/-- the places of the whole ones among the first k -/
def placesTo (cs : List CellA) : Nat → List UInt8
  | 0 => []
  | k + 1 => if k % 8 = 0 then placesTo cs k ++ twoL (bodyTo cs k).length else placesTo cs k
theorem bodyTo_succ {cs : List CellA} {k : Nat} {c : CellA} (h : cs[k]? = some c) : bodyTo cs (k + 1) = bodyTo cs k ++ layL (aheadB cs k).toList c := by rw [bodyTo, h]
theorem bodyTo_mono (cs : List CellA) (k : Nat) : (bodyTo cs k).length ≤ (bodyTo cs (k + 1)).length := by rw [bodyTo, List.length_append]; omega
theorem bodyTo_le (cs : List CellA) {k m : Nat} (h : k ≤ m) : (bodyTo cs k).length ≤ (bodyTo cs m).length := by
  induction m with
  | zero => rw [show k = 0 by omega]; exact Nat.le_refl _
  | succ m ih =>
    rcases Nat.lt_or_ge m k with h1 | h1
    · rw [show k = m + 1 by omega]; exact Nat.le_refl _
    · exact Nat.le_trans (ih h1) (bodyTo_mono cs m)
theorem layL_pos (a : List UInt8) (c : CellA) : 6 ≤ (layL a c).length := by
  have h1 := numL_pos (alikeL a c.row.toList)
  have h2 := numL_pos (c.row.toList.drop (alikeL a c.row.toList)).length
  have h3 := numL_pos c.col.toList.length
  have h4 : 1 ≤ (numW c.ver).length := numL_pos _
  have h5 := numL_pos c.val.toList.length
  simp only [layL, txtL, List.length_append, List.length_cons, List.length_nil]
  omega
theorem bodyTo_long (cs : List CellA) : ∀ k, k ≤ cs.length → 6 * k ≤ (bodyTo cs k).length
  | 0, _ => by simp
  | k + 1, h => by
    have := bodyTo_long cs k (by omega)
    rw [bodyTo_succ (List.getElem?_eq_getElem (show k < cs.length by omega)), List.length_append]
    have := layL_pos (aheadB cs k).toList cs[k]
    omega
theorem placesTo_len (cs : List CellA) : ∀ k, (placesTo cs k).length = 2 * ((k + 7) / 8)
  | 0 => by simp [placesTo]
  | k + 1 => by
    have := placesTo_len cs k
    unfold placesTo
    split
    · rw [List.length_append, this]; simp [twoL]; omega
    · rw [this]; omega
/-- may the k-th cell not stand there? -/
def wrongAt (cs : List CellA) (k : Nat) : Bool := match cs[k]? with
  | none => false
  | some c => !cellL c || (decide (0 < k) && match cs[k - 1]? with
    | some p => decide (0 ≤ cmpC p c)
    | none => false)
def wrongB (cs : List CellA) : Bool := (List.range cs.length).any (wrongAt cs)
/-- what Build answers -/
def blockL (cs : List CellA) : List UInt8 := bodyTo cs cs.length ++ placesTo cs cs.length ++ twoL ((cs.length + 7) / 8)
def buildR (cs : List CellA) : List UInt8 × Int := if wrongB cs then ([], 2) else if 32768 < (bodyTo cs cs.length).length then ([], 3) else if 32768 < (blockL cs).length then ([], 3) else (blockL cs, 0)
theorem wrongB_false {cs : List CellA} (h : wrongB cs = false) : ∀ k c, cs[k]? = some c → cellL c = true ∧ ∀ p, 0 < k → cs[k - 1]? = some p → cmpC p c < 0 := by
  intro k c hk
  have h1 := List.any_eq_false.1 h k (List.mem_range.2 (List.getElem?_eq_some_iff.1 hk).1)
  unfold wrongAt at h1
  rw [hk] at h1
  simp only [Bool.or_eq_true, Bool.not_eq_true', Bool.and_eq_true, decide_eq_true_eq, not_or, not_and] at h1
  refine ⟨by simpa using h1.1, fun p h0 hp => ?_⟩
  have := h1.2 h0
  rw [hp] at this
  simp only [decide_eq_true_eq] at this
  omega
theorem wrongB_true {cs : List CellA} {k : Nat} (hk : k < cs.length) (h : wrongAt cs k = true) : wrongB cs = true := List.any_eq_true.2 ⟨k, List.mem_range.2 hk, h⟩
theorem wrongB_of {cs : List CellA} (h : ∀ k, k < cs.length → wrongAt cs k = false) : wrongB cs = false := List.any_eq_false.2 fun k hk => by rw [h k (List.mem_range.1 hk)]; exact Bool.false_ne_true
end Go.Proofs.Ytihglmicgccgiaa
