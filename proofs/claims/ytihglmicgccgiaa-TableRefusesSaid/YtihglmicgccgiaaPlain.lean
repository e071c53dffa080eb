/-
  Plain facts, no program in sight: the order of byte strings; the keys' predicates as Lean functions.
-/
import GoSem.Op.String
import Derived.Lib.Strings
namespace Go.Proofs.Ytihglmicgccgiaa

theorem less_eq : ∀ (x y : List UInt8), Op.bytesLess x y = decide (x < y)
  | [], [] => by simp [Op.bytesLess]
  | _ :: _, [] => by simp [Op.bytesLess]
  | [], _ :: _ => by simp [Op.bytesLess]
  | a :: x, b :: y => by
    rw [Op.bytesLess, less_eq x y]
    simp only [List.cons_lt_cons_iff]
    by_cases h1 : a < b <;> by_cases h2 : a = b <;> by_cases h3 : x < y <;> simp [h1, h2, h3]

theorem not_lt_nil (a : List UInt8) : ¬ a < [] := by simp
theorem nil_lt (a : List UInt8) (h : a ≠ []) : [] < a := by cases a <;> simp_all
theorem size_toList (a : ByteArray) : a.size = a.toList.length := by rw [Lib.toList_data]; rfl
theorem isEmpty_iff (a : List UInt8) : a.isEmpty = true ↔ a = [] := by simp

/-- a range: its two texts -/
def hasL (lo hi key : List UInt8) : Bool := decide (¬ key < lo) && (hi.isEmpty || decide (key < hi))
def mayL (lo hi : List UInt8) : Bool := decide (lo.length ≤ 24) && decide (hi.length ≤ 24) && (hi.isEmpty || decide (lo < hi))
def splitL (lo hi key : List UInt8) : Bool := mayL lo hi && decide (key.length ≤ 24) && decide (lo < key) && hasL lo hi key
def maxL (a b : List UInt8) : List UInt8 := if a < b then b else a
def meetL (al ah bl bh : List UInt8) : Bool := hasL al ah (maxL al bl) && hasL bl bh (maxL al bl)
theorem le_true (a b : List UInt8) (h : ¬ b < a) : (Op.bytesLess a b || a == b) = true := by
  rw [less_eq]; by_cases h2 : a < b <;> by_cases h3 : a = b <;> simp [h2, h3]; grind
theorem le_false (a b : List UInt8) (h : b < a) : Op.bytesLess a b = false ∧ (a == b) = false := by
  rw [less_eq]; by_cases h2 : a < b <;> by_cases h3 : a = b <;> simp [h2, h3] <;> grind

/-- what a split range's parts are, in one -/
structure PartsOk (lo hi key text : List UInt8) : Prop where
  cx : mayL lo key = true
  cy : mayL key hi = true
  apart : (hasL lo key text && hasL key hi text) = false
  all : hasL lo hi text = (hasL lo key text || hasL key hi text)
  nomeet : meetL lo key key hi = false
  meetx : meetL lo hi lo key = true
  meety : meetL lo hi key hi = true
  hasx : hasL lo key lo = true
  hasy : hasL key hi key = true

theorem parts_ok (lo hi key text : List UInt8) (h : splitL lo hi key = true) : PartsOk lo hi key text := by
  simp only [splitL, mayL, hasL, Bool.and_eq_true, Bool.or_eq_true, decide_eq_true_eq, List.isEmpty_iff] at h
  obtain ⟨⟨⟨⟨⟨hl, hh⟩, hm⟩, hk⟩, hlt⟩, hn, hkh⟩ := h
  have hne : key ≠ [] := by rintro rfl; exact not_lt_nil _ hlt
  have hnlo := nil_lt key hne
  have e1 : hi ≠ [] → key < hi := by grind
  constructor
  · simp only [mayL, Bool.and_eq_true, Bool.or_eq_true, decide_eq_true_eq, List.isEmpty_iff]; grind
  · simp only [mayL, Bool.and_eq_true, Bool.or_eq_true, decide_eq_true_eq, List.isEmpty_iff]; grind
  · simp only [hasL, Bool.and_eq_false_iff, Bool.or_eq_false_iff, decide_eq_false_iff_not]; grind
  · by_cases ht : text < key <;> by_cases ht2 : text < lo <;> by_cases ht3 : text < hi <;> by_cases hz : hi = [] <;> simp [hasL, ht, ht2, ht3, hz, hne] <;> grind
  · simp only [meetL, hasL, maxL, Bool.and_eq_false_iff, Bool.or_eq_false_iff, decide_eq_false_iff_not]; grind
  · simp only [meetL, hasL, maxL, Bool.and_eq_true, Bool.or_eq_true, decide_eq_true_eq, List.isEmpty_iff]; grind
  · simp only [meetL, hasL, maxL, Bool.and_eq_true, Bool.or_eq_true, decide_eq_true_eq, List.isEmpty_iff]; grind
  · simp only [hasL, Bool.and_eq_true, Bool.or_eq_true, decide_eq_true_eq, List.isEmpty_iff]; grind
  · simp only [hasL, Bool.and_eq_true, Bool.or_eq_true, decide_eq_true_eq, List.isEmpty_iff]; grind

end Go.Proofs.Ytihglmicgccgiaa
