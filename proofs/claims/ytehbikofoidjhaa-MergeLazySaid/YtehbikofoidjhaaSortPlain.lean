/-
  Plain facts on insertion from the right, and on lists; no program in sight.
-/
import Derived.Test.YtehbikofoidjhaaCellW
namespace Go.Proofs.Ytehbikofoidjhaa

/-- x put into a list that stands turned about: behind those that it is ahead of. -/
def insR (x : CellA) : List CellA → List CellA
  | [] => [x]
  | y :: r => if cmpC x y < 0 then y :: insR x r else x :: y :: r
def isR (l : List CellA) : List CellA := l.foldl (fun r x => insR x r) []
def isort (l : List CellA) : List CellA := (isR l).reverse
theorem insR_len (x : CellA) : ∀ r, (insR x r).length = r.length + 1
  | [] => rfl
  | y :: r => by rw [insR]; split <;> simp [insR_len x r]
theorem isR_snoc (l : List CellA) (x : CellA) : isR (l ++ [x]) = insR x (isR l) := by simp [isR]
theorem isR_len (l : List CellA) : (isR l).length = l.length := by
  have : ∀ (l r : List CellA), (l.foldl (fun r x => insR x r) r).length = r.length + l.length := by
    intro l
    induction l with
    | nil => simp
    | cons x l ih => intro r; rw [List.foldl_cons, ih, insR_len, List.length_cons]; omega
  have := this l []
  simpa [isR] using this
theorem isort_len (l : List CellA) : (isort l).length = l.length := by simp [isort, isR_len]
/-- m steps done -/
def Ahead (x : CellA) (r : List CellA) (m : Nat) : Prop := ∀ y ∈ r.take m, cmpC x y < 0
theorem Ahead.zero (x : CellA) (r : List CellA) : Ahead x r 0 := fun y h => by simp at h
theorem Ahead.succ {x : CellA} {r : List CellA} {m : Nat} (h : Ahead x r m) {y : CellA} (hy : r[m]? = some y) (hc : cmpC x y < 0) : Ahead x r (m + 1) := by
  intro z hz
  rw [List.take_add_one, hy] at hz
  rcases List.mem_append.1 hz with hz | hz
  · exact h z hz
  · simp at hz; subst hz; exact hc
theorem insR_at : ∀ (x : CellA) (r : List CellA) (m : Nat), Ahead x r m → (∀ y, r[m]? = some y → ¬ cmpC x y < 0) → insR x r = r.take m ++ x :: r.drop m
  | x, [], m, _, _ => by simp [insR]
  | x, y :: r, 0, _, h => by
    have := h y (by simp)
    rw [insR, if_neg this]; rfl
  | x, y :: r, m + 1, ha, h => by
    have hy : cmpC x y < 0 := ha y (by simp)
    rw [insR, if_pos hy, insR_at x r m (fun z hz => ha z (by simp [hz])) (fun z hz => h z (by simpa using hz))]
    rfl

/-- where the run stands: x has gone m steps to the left -/
def mid (x : CellA) (r t : List CellA) (m : Nat) : List CellA := (r.drop m).reverse ++ x :: ((r.take m).reverse ++ t)
theorem mid_len (x : CellA) (r t : List CellA) (m : Nat) : (mid x r t m).length = r.length + 1 + t.length := by
  simp only [mid, List.length_append, List.length_reverse, List.length_drop, List.length_cons, List.length_take]; omega
theorem mid_x (x : CellA) (r t : List CellA) (m : Nat) (h : m ≤ r.length) : (mid x r t m)[r.length - m]? = some x := by
  rw [mid, List.getElem?_append_right (by simp)]
  simp
theorem drop_rev {r : List CellA} {m : Nat} {y : CellA} (h : r[m]? = some y) : (r.drop m).reverse = (r.drop (m + 1)).reverse ++ [y] := by
  obtain ⟨hm, rfl⟩ := List.getElem?_eq_some_iff.1 h
  rw [List.drop_eq_getElem_cons hm, List.reverse_cons]
theorem take_rev {r : List CellA} {m : Nat} {y : CellA} (h : r[m]? = some y) : (r.take (m + 1)).reverse = y :: (r.take m).reverse := by
  rw [List.take_add_one, h]; simp
theorem mid_y {x : CellA} {r t : List CellA} {m : Nat} {y : CellA} (h : r[m]? = some y) : (mid x r t m)[r.length - m - 1]? = some y := by
  have hm := (List.getElem?_eq_some_iff.1 h).1
  rw [mid, drop_rev h, List.append_assoc, List.getElem?_append_right (by simp; omega)]
  simp
  have : r.length - m - 1 - (r.length - (m + 1)) = 0 := by omega
  rw [this]; rfl
theorem mid_swap {x : CellA} {r t : List CellA} {m : Nat} {y : CellA} (h : r[m]? = some y) : ((mid x r t m).set (r.length - m) y).set (r.length - m - 1) x = mid x r t (m + 1) := by
  have hm := (List.getElem?_eq_some_iff.1 h).1
  unfold mid
  rw [drop_rev h, take_rev h]
  have e1 : ((r.drop (m + 1)).reverse ++ [y]).length = r.length - m := by simp; omega
  rw [List.set_append_right _ _ (by rw [e1]; exact Nat.le_refl _), e1, Nat.sub_self, List.set_cons_zero, List.append_assoc]
  have e2 : ((r.drop (m + 1)).reverse).length = r.length - m - 1 := by simp; omega
  rw [List.set_append_right _ _ (by rw [e2]; exact Nat.le_refl _), e2, Nat.sub_self]
  simp
theorem mid_end {x : CellA} {r t : List CellA} {m : Nat} (ha : Ahead x r m) (h : ∀ y, r[m]? = some y → ¬ cmpC x y < 0) : mid x r t m = (insR x r).reverse ++ t := by
  rw [insR_at x r m ha h, mid]
  simp
theorem mid_start (x : CellA) (r t : List CellA) : mid x r t 0 = r.reverse ++ x :: t := by simp [mid]

/-- of each run of equal neighbours the first -/
def keepF (p : CellA → CellA → Bool) : CellA → List CellA → List CellA
  | _, [] => []
  | z, x :: r => if p x z then keepF p x r else x :: keepF p x r
def compactL (p : CellA → CellA → Bool) : List CellA → List CellA
  | [] => []
  | x :: r => x :: keepF p x r
theorem keepF_len (p : CellA → CellA → Bool) : ∀ r z, (keepF p z r).length ≤ r.length
  | [], _ => Nat.le_refl _
  | x :: r, z => by
    have := keepF_len p r x
    rw [keepF]; split <;> simp <;> omega
theorem compactL_len (p : CellA → CellA → Bool) : ∀ l, (compactL p l).length ≤ l.length
  | [] => Nat.le_refl _
  | x :: r => by simp [compactL, keepF_len]
theorem compactL_snoc (p : CellA → CellA → Bool) (l : List CellA) (z x : CellA) : compactL p (l ++ [z] ++ [x]) = if p x z then compactL p (l ++ [z]) else compactL p (l ++ [z]) ++ [x] := by
  have key : ∀ (l : List CellA) (y : CellA), keepF p y (l ++ [z] ++ [x]) = if p x z then keepF p y (l ++ [z]) else keepF p y (l ++ [z]) ++ [x] := by
    intro l
    induction l with
    | nil => intro y; simp only [List.nil_append, List.cons_append, keepF]; split <;> split <;> simp
    | cons a l ih => intro y; simp only [List.cons_append, keepF]; rw [List.append_assoc] at ih; simp only [List.append_assoc, ih]; split <;> split <;> simp
  cases l with
  | nil => simp only [List.nil_append, List.cons_append, compactL, keepF]; split <;> simp
  | cons a l => simp only [List.cons_append, compactL]; rw [key]; split <;> simp

end Go.Proofs.Ytehbikofoidjhaa
