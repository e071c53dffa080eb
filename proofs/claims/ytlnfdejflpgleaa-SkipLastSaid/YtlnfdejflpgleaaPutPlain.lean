/-
  Skip lists: what is put one behind the other is the sorted list of what was put, the last ones first.
-/
import Derived.Test.YtlnfdejflpgleaaPut8W
import Derived.Test.YtlnfdejflpgleaaRSortW
namespace Go.Proofs.Ytlnfdejflpgleaa
open Go.RowKit

theorem putV_flt {c : CellA} {h : Nat} (z : CellA) : ∀ {l : List CH}, Up (l.map Prod.fst) → ((putV c h l).map Prod.fst).filter (eqvC z) = if eqvC z c = true then [c] else (l.map Prod.fst).filter (eqvC z)
  | [], _ => by
    cases hz : eqvC z c <;> simp [putV, hz]
  | (x, hx) :: r, hu => by
    have h1 := List.pairwise_cons.1 (show (x :: r.map Prod.fst).Pairwise _ from hu)
    have ih := putV_flt (c := c) (h := h) z h1.2
    rw [putV]
    split
    · rename_i hlt
      rw [List.map_cons, List.filter_cons, ih]
      cases hz : eqvC z c with
      | true =>
        have : eqvC z x = false := by
          cases hzx : eqvC z x with
          | false => rfl
          | true => rw [eqvC_lt hlt hzx] at hz; cases hz
        simp [this]
      | false => simp [List.filter_cons]
    · rename_i hn
      split
      · rename_i h0
        rw [List.map_cons, List.map_cons, List.filter_cons, List.filter_cons, ← eqvC_eq (x := z) h0]
        cases hz : eqvC z x with
        | true =>
          have hr : (r.map Prod.fst).filter (eqvC z) = [] := flt_none (fun b hb => h1.1 b hb) hz
          simp [hr]
        | false => simp
      · rename_i h0
        have hcx : cmpC c x < 0 := by have := cmpC_neg x c; omega
        rw [List.map_cons, List.filter_cons]
        cases hz : eqvC z c with
        | true =>
          have hr : (((x, hx) :: r).map Prod.fst).filter (eqvC z) = [] := flt_none (a := c) (fun b hb => by
            rcases List.mem_cons.1 hb with h2 | h2
            · rw [h2]; exact hcx
            · exact cmp_lt_trans hcx (h1.1 b h2)) hz
          rw [if_pos rfl, if_pos rfl, hr]
        | false => simp
theorem up_map (l : List CellA) : ((l.map fun x => (x, 1)).map Prod.fst : List CellA) = l := by
  induction l with
  | nil => rfl
  | cons x r ih => rw [List.map_cons, List.map_cons, ih]
theorem putAll_first (l : List CellA) : FirstOf (putAll l) l.reverse := by
  have key : ∀ (k : Nat) (l : List CellA), l.length = k → FirstOf (putAll l) l.reverse := by
    intro k
    induction k with
    | zero =>
      intro l hl
      rw [List.eq_nil_of_length_eq_zero hl]
      exact ⟨List.Pairwise.nil, fun x => by simp [putAll]⟩
    | succ k ih =>
      intro l hl
      rcases List.eq_nil_or_concat l with h | ⟨l', c, h⟩
      · subst h; simp at hl
      · rw [List.concat_eq_append] at h
        subst h
        have hi := ih l' (by simpa using hl)
        have hu : Up ((((putAll l').map fun x => (x, 1)) : List CH).map Prod.fst) := by rw [up_map]; exact hi.strict
        rw [putAll_snoc]
        refine ⟨putV_up hu, fun x => ?_⟩
        unfold putC
        rw [putV_flt x hu, up_map, hi.flt x, List.reverse_append, List.reverse_singleton, List.singleton_append, List.filter_cons]
        cases hx : eqvC x c <;> simp
  exact key _ l rfl
theorem putAll_sort (l : List CellA) : putAll l = sortL l.reverse := first_unique (putAll_first l) (sort_first l.reverse)
theorem strict_flt {s : List CellA} (h : Strict s) (x : CellA) : (s.filter (eqvC x)).length ≤ 1 := by
  induction s with
  | nil => simp
  | cons a r ih =>
    have h1 := List.pairwise_cons.1 h
    rw [List.filter_cons]
    cases hx : eqvC x a with
    | true => rw [flt_none (fun b hb => h1.1 b hb) hx]; simp
    | false => exact ih h1.2
theorem sort_strict (l : List CellA) : Strict (sortL l) := (sort_first l).strict
theorem sort_self {s : List CellA} (h : Strict s) : sortL s = s := first_unique (sort_first s) ⟨h, fun x => by rw [List.take_of_length_le (strict_flt h x)]⟩
theorem sort_rev {s : List CellA} (h : Strict s) : sortL s.reverse = s := first_unique (sort_first s.reverse) ⟨h, fun x => by
  have h1 := strict_flt h x
  rw [List.filter_reverse, List.take_of_length_le (by rw [List.length_reverse]; exact h1)]
  match hs : s.filter (eqvC x), h1 with
  | [], _ => rfl
  | [a], _ => rfl⟩
theorem alike_front {s : List CellA} (h : Strict s) : putAll (turned false s) = s := by rw [turned, if_neg (by decide), putAll_sort, sort_rev h]
theorem alike_back {s : List CellA} (h : Strict s) : putAll (turned true s) = s := by rw [turned, if_pos rfl, putAll_sort, List.reverse_reverse, sort_self h]

/-- the cells that may be, of the first hundred and fifty -/
def mayK (cs : List CellA) (k : Nat) : List CellA := (cs.take k).filter cellL
theorem mayK_yes {cs : List CellA} {k : Nat} {c : CellA} (h : cs[k]? = some c) (hc : cellL c = true) : mayK cs (k + 1) = mayK cs k ++ [c] := by
  unfold mayK
  rw [List.take_add_one, h]
  simp [hc]
theorem mayK_no {cs : List CellA} {k : Nat} {c : CellA} (h : cs[k]? = some c) (hc : cellL c = false) : mayK cs (k + 1) = mayK cs k := by
  unfold mayK
  rw [List.take_add_one, h]
  simp [hc]
theorem mayK_len (cs : List CellA) (k : Nat) : (mayK cs k).length ≤ k := by
  unfold mayK
  exact Nat.le_trans (List.length_filter_le _ _) (List.length_take_le _ _)
theorem mayK_ok {cs : List CellA} {k : Nat} (hok : ∀ c ∈ cs, c.Ok) : ∀ c ∈ mayK cs k, c.Ok ∧ cellL c = true := fun c hc => by
  unfold mayK at hc
  rw [List.mem_filter] at hc
  exact ⟨hok c (List.mem_of_mem_take hc.1), hc.2⟩
end Go.Proofs.Ytlnfdejflpgleaa
