/-
  Plain facts on numbers and texts read: what is read is laid as the same bytes; what is laid is read.
-/
import Derived.Test.YtihglmicgccgiaaReadW
namespace Go.Proofs.Ytihglmicgccgiaa

theorem num_sound {l : List UInt8} (h : (numR l).2.1 = true) : l = numL (numR l).1 ++ (numR l).2.2 := by
  unfold numR at *
  cases ht : takeL l with
  | none => rw [ht] at h; cases h
  | some r =>
    obtain ⟨e, _⟩ := numL_getL l 0 r.1 r.2 ht
    simp only [e, List.take_append_drop]
theorem text_sound {m : Int} {l : List UInt8} (h : (textR m l).2.1 = true) : l = numL (textR m l).1.length ++ (textR m l).1 ++ (textR m l).2.2 ∧ ((textR m l).1.length : Int) ≤ m := by
  unfold textR textL at *
  cases ht : takeL l with
  | none => rw [ht] at h; cases h
  | some r =>
    obtain ⟨v, n⟩ := r
    rw [ht] at h
    simp only at h ⊢
    obtain ⟨e, _⟩ := numL_getL l 0 v n ht
    by_cases hc : m < 0 ∨ m < (v : Int) ∨ l.length - n < v
    · rw [if_pos hc] at h; cases h
    · rw [if_neg hc]
      simp only
      have hl : ((l.drop n).take v).length = v := by rw [List.length_take, List.length_drop]; omega
      rw [hl, e, List.append_assoc, ← List.drop_drop, List.take_append_drop, List.take_append_drop]
      exact ⟨rfl, by omega⟩
theorem num_complete (v : Nat) (s : List UInt8) (h : v < 2 ^ 64) : numR (numL v ++ s) = (v, true, s) := by
  unfold numR
  rw [takeL_numL v s h]
  simp
theorem text_complete (m : Int) (t s : List UInt8) (h : t.length < 2 ^ 64) (hm : (t.length : Int) ≤ m) : textR m (numL t.length ++ t ++ s) = (t, true, s) := by
  unfold textR textL
  rw [List.append_assoc, takeL_numL _ _ h]
  simp only
  rw [if_neg (by simp only [List.length_append]; omega)]
  simp only [List.drop_left', List.take_left']
  rw [← List.drop_drop, List.drop_left' rfl, List.drop_left' rfl]

end Go.Proofs.Ytihglmicgccgiaa
