/-
  Skip lists: nodes, towers of shortcuts: the plain part.
-/
import Derived.Test.YtlnfdejflpgleaaSymPlain
import Derived.Test.YtlnfdejflpgleaaCellW
namespace Go.Proofs.Ytlnfdejflpgleaa
open Go.RowKit

/-- a node: its block, its cell, its height -/
structure Nd where
  b : Nat
  c : CellA
  h : Nat
/-- the first node that is higher than L -/
def nxt (L : Nat) (l : List Nd) : Option Nd := l.find? fun n => decide (L < n.h)
def adrN : Option Nd → Option Addr
  | none => none
  | some n => some ⟨n.b, 0, none⟩
abbrev ptrN (o : Option Nd) : Value := .pointer (adrN o)
/-- what a node points at, at level L, with these nodes behind it -/
def towN (n : Nd) (L : Nat) (post : List Nd) : Option Nd := if L < n.h then nxt L post else none
theorem nxt_append (L : Nat) (a b : List Nd) : nxt L (a ++ b) = (nxt L a).or (nxt L b) := List.find?_append
theorem nxt_low {L : Nat} {l : List Nd} (h : ∀ n ∈ l, n.h ≤ L) : nxt L l = none := by
  unfold nxt
  rw [List.find?_eq_none]
  intro n hn
  have := h n hn
  simp; omega
theorem nxt_skip {L : Nat} {a b : List Nd} (h : ∀ n ∈ a, n.h ≤ L) : nxt L (a ++ b) = nxt L b := by rw [nxt_append, nxt_low h]; rfl
theorem nxt_in {L : Nat} {a b b' : List Nd} (h : ∃ n ∈ a, L < n.h) : nxt L (a ++ b) = nxt L (a ++ b') := by
  rw [nxt_append, nxt_append]
  cases hn : nxt L a with
  | some n => rfl
  | none =>
    obtain ⟨n, hm, hl⟩ := h
    unfold nxt at hn
    rw [List.find?_eq_none] at hn
    have := hn n hm
    simp at this; omega
theorem nxt_cons (L : Nat) (f : Nd) (b : List Nd) : nxt L (f :: b) = if L < f.h then some f else nxt L b := by
  unfold nxt
  rw [List.find?_cons]
  by_cases h : L < f.h <;> simp [h]
/-- the next node, by its place -/
theorem nxt_at {L : Nat} : ∀ {l : List Nd} {m : Nd}, nxt L l = some m → ∃ j : Nat, l[j]? = some m ∧ L < m.h ∧ ∀ k x, k < j → l[k]? = some x → x.h ≤ L
  | [], m, h => by simp [nxt] at h
  | n :: l, m, h => by
    rw [nxt_cons] at h
    by_cases hn : L < n.h
    · rw [if_pos hn] at h
      cases h
      exact ⟨0, rfl, hn, fun k x hk => by omega⟩
    · rw [if_neg hn] at h
      obtain ⟨j, h1, h2, h3⟩ := nxt_at h
      refine ⟨j + 1, by simpa using h1, h2, fun k x hk hx => ?_⟩
      cases k with
      | zero => simp at hx; subst hx; omega
      | succ k => exact h3 k x (by omega) (by simpa using hx)
theorem nxt_none {L : Nat} {l : List Nd} (h : nxt L l = none) : ∀ n ∈ l, n.h ≤ L := fun n hn => by
  unfold nxt at h
  rw [List.find?_eq_none] at h
  have := h n hn
  simp at this; omega

/-- the place i is the last one of the first k places of l that is higher than L -/
structure LastAtL (l : List Nd) (k L i : Nat) : Prop where
  lt : i < k
  high : ∀ n, l[i]? = some n → L < n.h
  low : ∀ j n, i < j → j < k → l[j]? = some n → n.h ≤ L
/-- one of the first k places, higher than L -/
structure HighAt (l : List Nd) (k L i : Nat) : Prop where
  lt : i < k
  high : ∀ n, l[i]? = some n → L < n.h
theorem HighAt.down {l : List Nd} {k L i : Nat} (h : HighAt l k (L + 1) i) : HighAt l k L i := ⟨h.lt, fun n hn => by have := h.high n hn; omega⟩
theorem LastAtL.highAt {l : List Nd} {k L i : Nat} (h : LastAtL l k L i) : HighAt l k L i := ⟨h.lt, h.high⟩

/-- Towers behind a cell that is put in: of a node ahead that is not the last one of its height, nothing turns. -/
theorem tow_other {A B B' : List Nd} {f : Nd} {k L i j : Nat} (hk : A.length = k) (h : LastAtL A k L i) (hj : j < k) (hne : j ≠ i) {n : Nd} (hn : A[j]? = some n) :
    towN n L ((A ++ f :: B').drop (j + 1)) = towN n L ((A ++ B).drop (j + 1)) := by
  unfold towN
  split
  · rename_i hl
    rcases Nat.lt_or_gt_of_ne hne with h1 | h1
    · rw [List.drop_append_of_le_length (by omega), List.drop_append_of_le_length (by omega)]
      have hi : i < A.length := by have := h.lt; omega
      exact nxt_in ⟨A[i], List.mem_iff_getElem?.2 ⟨i - (j + 1), by rw [List.getElem?_drop, show j + 1 + (i - (j + 1)) = i by omega]; exact List.getElem?_eq_getElem hi⟩, h.high _ (List.getElem?_eq_getElem hi)⟩
    · have := h.low j n h1 hj hn
      omega
  · rfl
theorem drop_low {A : List Nd} {k L i : Nat} (hk : A.length = k) (h : LastAtL A k L i) : ∀ n ∈ A.drop (i + 1), n.h ≤ L := fun n hn => by
  obtain ⟨q, hq⟩ := List.mem_iff_getElem?.1 hn
  rw [List.getElem?_drop] at hq
  exact h.low _ n (by omega) (by rw [← hk]; exact (List.getElem?_eq_some_iff.1 hq).1) hq
/-- the last one of its height points behind A -/
theorem tow_last {A B : List Nd} {k L i : Nat} (hk : A.length = k) (h : LastAtL A k L i) {n : Nd} (hn : A[i]? = some n) : towN n L ((A ++ B).drop (i + 1)) = nxt L B := by
  unfold towN
  rw [if_pos (h.high n hn), List.drop_append_of_le_length (by have := h.lt; omega)]
  exact nxt_skip (drop_low hk h)
theorem tow_fresh {A B : List Nd} {f : Nd} {k L i : Nat} (hk : A.length = k) (h : LastAtL A k L i) (hf : L < f.h) {n : Nd} (hn : A[i]? = some n) : towN n L ((A ++ f :: B).drop (i + 1)) = some f := by
  rw [tow_last hk h hn, nxt_cons, if_pos hf]
/-- above the fresh node's height nothing turns -/
theorem tow_high {A B B' : List Nd} {f : Nd} {L j : Nat} (hf : f.h ≤ L) (hB : nxt L B = nxt L B') {n : Nd} (hn : A[j]? = some n) :
    towN n L ((A ++ f :: B').drop (j + 1)) = towN n L ((A ++ B).drop (j + 1)) := by
  unfold towN
  split
  · have hl := (List.getElem?_eq_some_iff.1 hn).1
    rw [List.drop_append_of_le_length (by omega), List.drop_append_of_le_length (by omega), nxt_append, nxt_append, nxt_cons, if_neg (by omega), hB]
  · rfl
end Go.Proofs.Ytlnfdejflpgleaa
