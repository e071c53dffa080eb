/-
  The newest of each place among cells that are sorted, and what is found there: the plain part.
-/
import Derived.Test.YtfkghpomcaonfaaBlkShortW
namespace Go.Proofs.Ytfkghpomcaonfaa
open Go.RowKit

theorem cmp_less {a b : CellA} (h : cmpC a b < 0) : ¬ cmpC b a < 0 ∧ cmpC b a ≠ 0 := by
  rcases cmpC_neg a b with ⟨_, h2⟩ | ⟨h1, _⟩ | ⟨h1, _⟩ <;> omega
theorem rise_tail {x : CellA} {l : List CellA} (h : Rise (x :: l)) : Rise l := fun k p c hp hc => h (k + 1) p c (by simpa using hp) (by simpa using hc)
theorem rise_front {l : List CellA} {x : CellA} (h : Rise (l ++ [x])) : Rise l := fun k p c hp hc => by
  have h1 := (List.getElem?_eq_some_iff.1 hp).1
  have h2 := (List.getElem?_eq_some_iff.1 hc).1
  exact h k p c (by rw [List.getElem?_append_left h1]; exact hp) (by rw [List.getElem?_append_left h2]; exact hc)
theorem isR_rise : ∀ (n : Nat) (l : List CellA), l.length = n → Rise l → isR l = l.reverse
  | 0, l, hn, _ => by rw [List.eq_nil_of_length_eq_zero hn]; rfl
  | n + 1, l, hn, h => by
    obtain ⟨l', x, rfl⟩ : ∃ l' x, l = l' ++ [x] := ⟨l.dropLast, l.getLast (by intro e; rw [e] at hn; simp at hn), (List.dropLast_concat_getLast _).symm⟩
    have hl : l'.length = n := by simpa using hn
    rw [isR_snoc, isR_rise n l' hl (rise_front h), List.reverse_append]
    cases hr : l'.reverse with
    | nil => rfl
    | cons y r =>
      have e : l' = r.reverse ++ [y] := by have := congrArg List.reverse hr; simpa using this
      have h1 : cmpC y x < 0 := h r.length y x (by rw [e]; simp) (by rw [e]; simp)
      rw [insR, if_neg (cmp_less h1).1]
      rfl
theorem keepK_rise : ∀ (r : List CellA) (z : CellA), Rise (z :: r) → keepF sameK z r = r
  | [], _, _ => rfl
  | x :: r, z, h => by
    have h1 : cmpC z x < 0 := h 0 z x rfl rfl
    have h2 : sameK x z = false := by unfold sameK; simp [(cmp_less h1).2]
    rw [keepF, h2, if_neg Bool.false_ne_true, keepK_rise r x (rise_tail h)]
theorem sort_rise {l : List CellA} (h : Rise l) : sortL l = l := by
  unfold sortL isort
  rw [isR_rise _ l rfl h, List.reverse_reverse]
  cases l with
  | nil => rfl
  | cons x r => rw [compactL, keepK_rise r x h]
theorem newest_rise {l : List CellA} (h : Rise l) : newestL l = compactL samePl l := by rw [newestL, sort_rise h]
theorem isC_self (c : CellA) : isC c.row.toList c.col.toList c = true := by simp [isC]
theorem ahead_self (c : CellA) : aheadC c.row.toList c.col.toList c = false := by
  unfold aheadC; grind
theorem samePl_isC {x z : CellA} {row col : List UInt8} (h : samePl x z = true) : isC row col x = isC row col z := by
  unfold samePl at h
  simp only [Bool.and_eq_true, decide_eq_true_eq] at h
  unfold isC
  rw [h.1, h.2]
theorem samePl_of {x z : CellA} : samePl x z = isC z.row.toList z.col.toList x := rfl
theorem find_cons (row col : List UInt8) (z : CellA) (l : List CellA) : findL row col (z :: l) = if isC row col z then some z else findL row col l := by
  unfold findL
  cases h : isC row col z with
  | true => rw [List.find?_cons_of_pos (by rw [h])]; rfl
  | false => rw [List.find?_cons_of_neg (by rw [h]; exact Bool.false_ne_true)]; rfl
theorem keep_same {x z : CellA} (h : samePl x z = true) : ∀ r, keepF samePl x r = keepF samePl z r
  | [] => rfl
  | u :: r => by
    have e : samePl u x = samePl u z := by
      unfold samePl at h
      simp only [Bool.and_eq_true, decide_eq_true_eq] at h
      unfold samePl
      rw [h.1, h.2]
    rw [keepF, keepF, e]
/-- what the newest are -/
theorem newest_found : ∀ (r : List CellA) (z : CellA), Rise (z :: r) → (∀ y ∈ z :: keepF samePl z r, findL y.row.toList y.col.toList (z :: r) = some y) ∧
    (∀ row col, (∀ y ∈ z :: keepF samePl z r, isC row col y = false) → findL row col (z :: r) = none)
  | [], z, _ => ⟨fun y hy => by
      simp only [keepF, List.mem_singleton] at hy
      subst hy
      rw [find_cons, isC_self]; rfl, fun row col h => by rw [find_cons, h z (by simp)]; rfl⟩
  | x :: r, z, h => by
    have hzx : cmpC z x < 0 := h 0 z x rfl rfl
    cases hs : samePl x z with
    | true =>
      have hr : Rise (z :: r) := fun k p c hp hc => by
        cases k with
        | zero =>
          simp only [List.getElem?_cons_zero, Option.some.injEq] at hp
          subst hp
          have hc' : r[0]? = some c := by simpa using hc
          have hxc : cmpC x c < 0 := h 1 x c rfl (by simpa using hc')
          unfold samePl at hs
          unfold cmpC orI cmpL at *
          grind [cmpN]
        | succ k => exact h (k + 2) p c (by simpa using hp) (by simpa using hc)
      obtain ⟨i1, i2⟩ := newest_found r z hr
      have key : ∀ row col, findL row col (z :: x :: r) = findL row col (z :: r) := fun row col => by
        rw [find_cons, find_cons, find_cons, samePl_isC hs]
        split
        · rfl
        · rfl
      rw [show keepF samePl z (x :: r) = keepF samePl z r by rw [keepF, hs, if_pos rfl, keep_same hs]]
      exact ⟨fun y hy => by rw [key]; exact i1 y hy, fun row col hh => by rw [key]; exact i2 row col hh⟩
    | false =>
      obtain ⟨i1, i2⟩ := newest_found r x (rise_tail h)
      rw [show keepF samePl z (x :: r) = x :: keepF samePl x r by rw [keepF, hs, if_neg Bool.false_ne_true]]
      have hbx : beyC z.row.toList z.col.toList x = true := by
        unfold beyC
        rw [bey_next hzx (ahead_self z), ← samePl_of, hs]
        rfl
      refine ⟨fun y hy => ?_, fun row col hh => ?_⟩
      · rcases List.mem_cons.1 hy with rfl | hy
        · rw [find_cons, isC_self]; rfl
        · have h1 := i1 y hy
          have hyz : isC y.row.toList y.col.toList z = false := by
            have hm : y ∈ x :: r := by
              unfold findL at h1; exact List.mem_of_find?_eq_some h1
            obtain ⟨j, hj⟩ := List.getElem?_of_mem hm
            have hb := rise_bey (rise_tail h) (i := 0) rfl hbx j y (by rw [Nat.zero_add]; exact hj)
            unfold beyC at hb
            simp only [Bool.and_eq_true, Bool.not_eq_true'] at hb
            have h3 := hb.2
            unfold isC at h3 ⊢
            grind
          rw [find_cons, hyz, if_neg Bool.false_ne_true]
          exact h1
      · rw [find_cons, hh z (by simp), if_neg Bool.false_ne_true]
        exact i2 row col fun y hy => hh y (List.mem_cons_of_mem _ hy)
/-- the newest of cells that are sorted are found at their places, and at no other place is one found -/
theorem newest_at {l : List CellA} (h : Rise l) : (∀ y ∈ newestL l, findL y.row.toList y.col.toList l = some y) ∧ (∀ row col, findL row col l = none ↔ ∀ y ∈ newestL l, isC row col y = false) := by
  rw [newest_rise h]
  cases l with
  | nil => exact ⟨fun y hy => by simp [compactL] at hy, fun row col => ⟨fun _ y hy => by simp [compactL] at hy, fun _ => rfl⟩⟩
  | cons z r =>
    obtain ⟨h1, h2⟩ := newest_found r z h
    refine ⟨h1, fun row col => ⟨fun hn y hy => ?_, h2 row col⟩⟩
    have hm : y ∈ z :: r := compactL_sub samePl (z :: r) y hy
    unfold findL at hn
    rw [List.find?_eq_none] at hn
    simpa using hn y hm
/-- has one of the first k a place? -/
def thereB (row col : List UInt8) (l : List CellA) (k : Nat) : Bool := (l.take k).any (isC row col)
theorem thereB_succ {row col : List UInt8} {l : List CellA} {k : Nat} {c : CellA} (h : l[k]? = some c) : thereB row col l (k + 1) = (thereB row col l k || isC row col c) := by
  unfold thereB
  rw [List.take_add_one, h]
  simp
theorem thereB_all {row col : List UInt8} {l : List CellA} (h : Rise l) : (findL row col l).isSome = thereB row col (newestL l) (newestL l).length := by
  unfold thereB
  rw [List.take_length]
  cases hf : findL row col l with
  | none =>
    have := (newest_at h).2 row col |>.1 hf
    simp only [Option.isSome_none]
    exact (List.any_eq_false.2 fun y hy => by rw [this y hy]; exact Bool.false_ne_true).symm
  | some c =>
    simp only [Option.isSome_some]
    rcases hb : (newestL l).any (isC row col) with _ | _
    · have hn := ((newest_at h).2 row col).2 fun y hy => by have := List.any_eq_false.1 hb y hy; simpa using this
      rw [hn] at hf; cases hf
    · rfl
end Go.Proofs.Ytfkghpomcaonfaa
