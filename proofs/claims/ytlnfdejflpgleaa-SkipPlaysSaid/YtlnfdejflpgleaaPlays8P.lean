/-
  Plain facts for acreagelaw08.SkipPlays: the document's Get and From over a rising list.
-/
import Derived.Test.YtlnfdejflpgleaaRCounts8W
namespace Go.Proofs.Ytlnfdejflpgleaa
open Go.RowKit

theorem cut_from {pr : CellA → Bool} : ∀ {ns : List Nd} {hd : Nd} {k : Nat}, CutAt pr (hd :: ns) k → cellsFrom (hd :: ns) k = (ns.map Nd.c).dropWhile pr
  | [], hd, k, h => by
    have h1 := h.pos
    unfold cellsFrom
    rw [List.drop_eq_nil_iff.2 (by simp; omega)]
    rfl
  | x :: r, hd, k, h => by
    have h1 := h.pos
    obtain ⟨m, rfl⟩ : ∃ m, k = m + 1 := ⟨k - 1, by omega⟩
    rw [List.map_cons]
    cases m with
    | zero =>
      have := h.no 1 x (Nat.le_refl _) rfl
      rw [List.dropWhile_cons_of_neg (by rw [this]; exact Bool.false_ne_true)]
      rfl
    | succ m =>
      have hx := h.yes 1 x (Nat.le_refl _) (by omega) rfl
      rw [List.dropWhile_cons_of_pos hx]
      have hle := h.le
      exact cut_from (hd := x) (ns := r) (k := m + 1) ⟨by omega, by simp at hle ⊢; omega, fun i n h2 h3 hn => h.yes (i + 1) n (by omega) (by omega) (by rw [List.getElem?_cons_succ]; exact hn), fun i n h2 hn => h.no (i + 1) n (by omega) (by rw [List.getElem?_cons_succ]; exact hn)⟩
theorem up_cut (row col : ByteArray) (hd : Nd) (ns : List Nd) (hu : Up ((ns.map Nd.v).map Prod.fst)) : ∃ k, CutAt (aheadP row col) (hd :: ns) k ∧ cellsFrom (hd :: ns) k = fromD8 row col (ns.map Nd.v) := by
  rw [nd_fst] at hu
  obtain ⟨k, hC⟩ := cut_of (pr := aheadP row col) hd ns (fun i j a b hij ha hb hp => by
    have := List.pairwise_iff_getElem.1 hu i j (by rw [List.length_map]; exact (List.getElem?_eq_some_iff.1 ha).1) (by rw [List.length_map]; exact (List.getElem?_eq_some_iff.1 hb).1) hij
    simp only [List.getElem_map] at this
    rw [(List.getElem?_eq_some_iff.1 ha).2, (List.getElem?_eq_some_iff.1 hb).2] at this
    exact ahead_mono this hp)
  exact ⟨k, hC, by rw [cut_from hC, fromD8, nd_fst]⟩
theorem ahead_isP {row col : ByteArray} {a b : CellA} (h : cmpC a b < 0) (ha : aheadP row col a = false) (hi : isP row col a = false) : isP row col b = false := by
  rw [cmp_neg] at h
  simp only [aheadP, isP, Bool.or_eq_false_iff, Bool.and_eq_false_iff, decide_eq_false_iff_not] at ha hi ⊢
  grind
theorem ahead_notP {row col : ByteArray} {a : CellA} (ha : aheadP row col a = true) : isP row col a = false := by
  simp only [aheadP, isP, Bool.or_eq_true, Bool.and_eq_true, decide_eq_true_eq, Bool.and_eq_false_iff, decide_eq_false_iff_not] at ha ⊢
  grind
/-- the document's Get finds what Get finds -/
theorem get_same (row col : ByteArray) : ∀ {l : List CH}, Up (l.map Prod.fst) → getW row col l = getV8 (getD8 row col l)
  | [], _ => rfl
  | x :: r, hu => by
    have hu2 := List.pairwise_cons.1 hu
    cases ha : aheadP row col x.1 with
    | true =>
      have e1 : getW row col (x :: r) = getW row col r := by
        unfold getW; rw [List.find?_cons, ha]; rfl
      have e2 : getD8 row col (x :: r) = getD8 row col r := by
        unfold getD8; rw [List.map_cons, List.find?_cons, ahead_notP ha]
      rw [e1, e2]
      exact get_same row col hu2.2
    | false =>
      unfold getW
      rw [List.find?_cons, ha]
      cases hi : isP row col x.1 with
      | true =>
        have e2 : getD8 row col (x :: r) = some x.1 := by unfold getD8; rw [List.map_cons, List.find?_cons, hi]
        rw [e2]
        simp only [isP, Bool.and_eq_true, decide_eq_true_eq] at hi
        show (if _ then _ else _) = _
        rw [if_pos hi]
        rfl
      | false =>
        have e2 : getD8 row col (x :: r) = none := by
          unfold getD8
          rw [List.find?_eq_none]
          intro y hy
          rw [List.map_cons] at hy
          rcases List.mem_cons.1 hy with rfl | hy
          · rw [hi]; exact Bool.false_ne_true
          · rw [ahead_isP (hu2.1 y hy) ha hi]; exact Bool.false_ne_true
        rw [e2]
        simp only [isP, Bool.and_eq_false_iff, decide_eq_false_iff_not] at hi
        show (if _ then _ else _) = _
        rw [if_neg (by rintro ⟨h1, h2⟩; rcases hi with h | h <;> contradiction)]
        rfl
/-- heights stay 1..12 -/
theorem putX_h {c : CellA} {h : Int} {l : List CH} (hl : ∀ p ∈ l, p.2 ≤ 12) : ∀ p ∈ putX c h l, p.2 ≤ 12 := by
  unfold putX
  split
  · rename_i hc
    have : ∀ {l : List CH}, (∀ p ∈ l, p.2 ≤ 12) → ∀ p ∈ putV c h.toNat l, p.2 ≤ 12 := by
      intro l
      induction l with
      | nil => intro _ p hp; simp [putV] at hp; subst hp; simp only; omega
      | cons x r ih =>
        intro hl p hp
        obtain ⟨x1, x2⟩ := x
        have hx := hl (x1, x2) (List.mem_cons_self ..)
        have hr : ∀ p ∈ r, p.2 ≤ 12 := fun p hp => hl p (List.mem_cons_of_mem _ hp)
        have ih2 := ih hr
        simp only [putV] at hp
        grind
    exact this hl
  · exact hl
end Go.Proofs.Ytlnfdejflpgleaa
