/-
  The walks of the document's answers for cells: Before, Sort, Place, Newest, Alive (acreageref04); that they are what cells.Sort and its kin make.
-/
import Derived.Test.YtihglmicgccgiaaSortAnyW
import Derived.Test.YtihglmicgccgiaaReadBW
namespace Go.Proofs.Ytihglmicgccgiaa
open Go.RowKit Go.Sort

/-! ### plain -/
def rins (x : CellA) : List CellA → List CellA
  | [] => [x]
  | y :: r => if cmpC y x < 0 then y :: rins x r else if cmpC y x = 0 then y :: r else x :: y :: r
def rsortL (l : List CellA) : List CellA := l.foldl (fun o x => rins x o) []
theorem rsortL_snoc (l : List CellA) (x : CellA) : rsortL (l ++ [x]) = rins x (rsortL l) := by simp [rsortL]
theorem rins_put {x : CellA} : ∀ {o : List CellA} {p : Nat}, (∀ y ∈ o.take p, cmpC y x < 0) → (∀ y, o[p]? = some y → ¬ cmpC y x < 0 ∧ cmpC y x ≠ 0) → rins x o = o.take p ++ x :: o.drop p
  | [], p, _, _ => by simp [rins]
  | y :: r, 0, _, h => by
    obtain ⟨h1, h2⟩ := h y rfl
    rw [rins, if_neg h1, if_neg h2]; rfl
  | y :: r, p + 1, ha, h => by
    rw [rins, if_pos (ha y (by simp)), rins_put (p := p) (fun z hz => ha z (by simp [hz])) (fun z hz => h z (by simpa using hz))]; rfl
theorem rins_keep {x : CellA} : ∀ {o : List CellA} {p : Nat} {y : CellA}, (∀ y ∈ o.take p, cmpC y x < 0) → o[p]? = some y → cmpC y x = 0 → rins x o = o
  | [], p, y, _, h, _ => by simp at h
  | y :: r, 0, z, _, h, hz => by
    simp only [List.getElem?_cons_zero, Option.some.injEq] at h
    subst h
    rw [rins, if_neg (by omega), if_pos hz]
  | y :: r, p + 1, z, ha, h, hz => by
    rw [rins, if_pos (ha y (by simp)), rins_keep (p := p) (y := z) (fun z hz => ha z (by simp [hz])) (by simpa using h) hz]
theorem rins_len (x : CellA) : ∀ o : List CellA, (rins x o).length ≤ o.length + 1
  | [] => by simp [rins]
  | y :: r => by
    have := rins_len x r
    rw [rins]; split
    · simp; omega
    · split <;> simp
theorem rsortL_len (l : List CellA) : (rsortL l).length ≤ l.length := by
  have key : ∀ (l o : List CellA), (l.foldl (fun o x => rins x o) o).length ≤ o.length + l.length := by
    intro l
    induction l with
    | nil => intro o; simp
    | cons x l ih => intro o; have := ih (rins x o); have := rins_len x o; rw [List.foldl_cons, List.length_cons]; omega
  have := key l []
  rw [List.length_nil, Nat.zero_add] at this
  exact this

/-- strictly in order -/
def Strict (l : List CellA) : Prop := l.Pairwise fun a b => cmpC a b < 0
theorem Strict.srt {l : List CellA} (h : Strict l) : Srt l := List.Pairwise.imp (fun h => lt_leC h) h
/-- of each class the first -/
structure FirstOf (z l : List CellA) : Prop where
  strict : Strict z
  flt : ∀ x, z.filter (eqvC x) = (l.filter (eqvC x)).take 1
theorem first_unique {y z l : List CellA} (h : FirstOf y l) (k : FirstOf z l) : y = z := sort_unique h.strict.srt k.strict.srt fun x => (h.flt x).trans (k.flt x).symm

theorem rins_mem {x : CellA} : ∀ {o : List CellA} {z : CellA}, z ∈ rins x o → z = x ∨ z ∈ o
  | [], z, h => by simp [rins] at h; exact .inl h
  | y :: r, z, h => by
    rw [rins] at h
    split at h
    · rcases List.mem_cons.1 h with h | h
      · exact .inr (by simp [h])
      · rcases rins_mem h with h | h
        · exact .inl h
        · exact .inr (by simp [h])
    · split at h
      · exact .inr h
      · rcases List.mem_cons.1 h with h | h
        · exact .inl h
        · exact .inr h
theorem eqvC_eq {x a b : CellA} (h : cmpC a b = 0) : eqvC x a = eqvC x b := by
  unfold eqvC
  congr 1
  apply propext
  exact ⟨fun k => cmp_eq_trans k h, fun k => cmp_eq_trans k (cmp_zero_flip.1 h)⟩
theorem eqvC_lt {x a b : CellA} (h : cmpC a b < 0) (ha : eqvC x a = true) : eqvC x b = false := by
  simp only [eqvC, decide_eq_true_eq, decide_eq_false_iff_not] at *
  intro hb
  have := cmp_eq_trans (cmp_zero_flip.1 ha) hb
  omega
theorem flt_none {x : CellA} {l : List CellA} {a : CellA} (h : ∀ b ∈ l, cmpC a b < 0) (ha : eqvC x a = true) : l.filter (eqvC x) = [] := by
  rw [List.filter_eq_nil_iff]
  intro b hb
  rw [eqvC_lt (h b hb) ha]; decide
theorem rins_first {x : CellA} : ∀ {o : List CellA}, Strict o → Strict (rins x o) ∧ ∀ z, (rins x o).filter (eqvC z) = if (o.filter (eqvC z)) = [] then [x].filter (eqvC z) else o.filter (eqvC z)
  | [], _ => ⟨by simp [rins, Strict], fun z => by simp [rins]⟩
  | y :: r, h => by
    obtain ⟨h1, h2⟩ := List.pairwise_cons.1 h
    rw [rins]
    by_cases c1 : cmpC y x < 0
    · rw [if_pos c1]
      obtain ⟨i1, i2⟩ := rins_first (x := x) (show Strict r from h2)
      refine ⟨List.pairwise_cons.2 ⟨fun z hz => ?_, i1⟩, fun z => ?_⟩
      · rcases rins_mem hz with rfl | hz
        · exact c1
        · exact h1 z hz
      · rw [List.filter_cons, List.filter_cons, i2 z]
        by_cases hy : eqvC z y = true
        · rw [if_pos hy, if_pos hy, flt_none h1 hy, if_pos rfl, if_neg (by simp)]
          rw [flt_none (l := [x]) (a := y) (by simpa using c1) hy]
        · rw [if_neg hy, if_neg hy]
    · rw [if_neg c1]
      by_cases c2 : cmpC y x = 0
      · rw [if_pos c2]
        refine ⟨h, fun z => ?_⟩
        split
        · rename_i he
          rw [he, List.filter_cons, List.filter_nil]
          rw [List.filter_cons] at he
          by_cases hy : eqvC z y = true
          · rw [if_pos hy] at he; cases he
          · rw [← eqvC_eq c2, if_neg hy]
        · rfl
      · rw [if_neg c2]
        have c3 : cmpC x y < 0 := by have := cmpC_neg x y; omega
        have hlt : ∀ b ∈ y :: r, cmpC x b < 0 := fun b hb => by
          rcases List.mem_cons.1 hb with rfl | hb
          · exact c3
          · exact cmp_lt_trans c3 (h1 b hb)
        refine ⟨List.pairwise_cons.2 ⟨hlt, h⟩, fun z => ?_⟩
        rw [List.filter_cons]
        by_cases hx : eqvC z x = true
        · rw [if_pos hx, flt_none hlt hx, if_pos rfl, List.filter_cons, if_pos hx, List.filter_nil]
        · rw [if_neg hx]
          split
          · rename_i he
            rw [he, List.filter_cons, if_neg hx, List.filter_nil]
          · rfl
theorem take_one_append {a b : List CellA} : (a ++ b).take 1 = if a = [] then b.take 1 else a.take 1 := by
  cases a <;> simp
theorem rsort_first (l : List CellA) : FirstOf (rsortL l) l := by
  have key : ∀ (n : Nat) (l : List CellA), l.length = n → FirstOf (rsortL l) l := by
    intro n
    induction n with
    | zero => intro l h; rw [len_zero h]; exact ⟨by simp [rsortL, Strict], fun x => by simp [rsortL]⟩
    | succ n ih =>
      intro l h
      obtain ⟨r, x, rfl⟩ : ∃ r x, l = r ++ [x] := ⟨l.dropLast, l.getLast (by intro e; subst e; simp at h), (List.dropLast_concat_getLast _).symm⟩
      have hr := ih r (by simpa using h)
      obtain ⟨h1, h2⟩ := rins_first (x := x) hr.strict
      refine ⟨by rw [rsortL_snoc]; exact h1, fun z => ?_⟩
      rw [rsortL_snoc, h2 z, hr.flt z, List.filter_append, take_one_append]
      by_cases he : r.filter (eqvC z) = []
      · rw [if_pos (by rw [he]; rfl), if_pos he, List.filter_cons, List.filter_nil]
        split <;> rfl
      · rw [if_neg he, if_neg]
        intro hc
        cases hr' : r.filter (eqvC z) with
        | nil => exact he hr'
        | cons a b => rw [hr'] at hc; simp at hc
  exact key _ l rfl
theorem keepF_first : ∀ (r : List CellA) (x : CellA), Srt (x :: r) → Strict (x :: keepF sameK x r) ∧ ∀ z, (keepF sameK x r).filter (eqvC z) = if eqvC z x = true then [] else (r.filter (eqvC z)).take 1
  | [], x, _ => ⟨by simp [keepF, Strict], fun z => by simp [keepF]⟩
  | y :: r, x, h => by
    obtain ⟨h1, h2⟩ := List.pairwise_cons.1 h
    obtain ⟨i1, i2⟩ := keepF_first r y h2
    obtain ⟨j1, j2⟩ := List.pairwise_cons.1 i1
    rw [keepF]
    by_cases c : cmpC y x = 0
    · rw [if_pos (by simpa [sameK] using c)]
      refine ⟨List.pairwise_cons.2 ⟨fun b hb => cmp_eq_lt (cmp_zero_flip.1 c) (j1 b hb), j2⟩, fun z => ?_⟩
      rw [i2 z, ← eqvC_eq c]
      by_cases hy : eqvC z y = true
      · rw [if_pos hy, if_pos hy]
      · rw [if_neg hy, if_neg hy, List.filter_cons, if_neg hy]
    · rw [if_neg (by simpa [sameK] using c)]
      have c3 : cmpC x y < 0 := by
        have := h1 y (by simp)
        unfold leC at this
        have := cmpC_neg x y; omega
      refine ⟨List.pairwise_cons.2 ⟨fun b hb => ?_, i1⟩, fun z => ?_⟩
      · rcases List.mem_cons.1 hb with rfl | hb
        · exact c3
        · exact cmp_lt_trans c3 (j1 b hb)
      · rw [List.filter_cons, i2 z]
        by_cases hx : eqvC z x = true
        · have hy : eqvC z y = false := eqvC_lt c3 hx
          have hr : r.filter (eqvC z) = [] := flt_none (fun b hb => lt_le_trans c3 ((List.pairwise_cons.1 h2).1 b hb)) hx
          rw [if_pos hx, hy, hr]; rfl
        · rw [if_neg hx, List.filter_cons]
          by_cases hy : eqvC z y = true
          · rw [if_pos hy, if_pos hy, if_pos hy]; rfl
          · rw [if_neg hy, if_neg hy, if_neg hy]
theorem sort_first (l : List CellA) : FirstOf (sortL l) l := by
  have hs := isort_spec l
  unfold sortL
  cases he : isort l with
  | nil =>
    have h0 : l = [] := len_zero (by rw [← hs.len, he]; rfl)
    exact ⟨by simp [compactL, Strict], fun x => by simp [compactL, h0]⟩
  | cons x r =>
    have h1 := hs.srt
    rw [he] at h1
    obtain ⟨h2, h3⟩ := keepF_first r x h1
    refine ⟨h2, fun z => ?_⟩
    rw [← hs.flt z, he, compactL, List.filter_cons, List.filter_cons, h3 z]
    by_cases hx : eqvC z x = true
    · rw [if_pos hx, if_pos hx, if_pos hx]; rfl
    · rw [if_neg hx, if_neg hx, if_neg hx]
theorem rsort_eq (l : List CellA) : rsortL l = sortL l := first_unique (rsort_first l) (sort_first l)

theorem Arr.drop {w : World} {size n cap : Nat} {b off : Nat} {es : List (List Value)} (h : Arr w size (some ⟨b, off, none⟩) n cap es) (k : Nat) (hk : k ≤ n) {o : Nat} (ho : o = off + k * size) : Arr w size (some ⟨b, o, none⟩) (n - k) (cap - k) (es.drop k) := by
  subst ho
  refine ⟨h.elems.drop k, by rw [List.length_drop, h.len], by have := h.fits; omega, by have := h.max; omega, fun h0 => ?_⟩
  obtain ⟨b', off', e, hl, hc⟩ := h.lies (by omega)
  cases e
  refine ⟨b, off + k * size, rfl, hl, fun i e he j u hu => ?_⟩
  rw [List.getElem?_drop] at he
  have := hc (k + i) e he j u hu
  rwa [show off + k * size + i * size + j = off + (k + i) * size + j by rw [Nat.add_mul]; omega]

end Go.Proofs.Ytihglmicgccgiaa
