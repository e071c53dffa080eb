/-
  Plain facts, no program in sight: the lowest range that none of a list of ranges covers.
-/
import Derived.Test.YteibnignjghedaaPlain
namespace Go.Proofs.Yteibnignjghedaa

/-- a text is in one of the ranges that may be -/
def Cov (l : List (List UInt8 × List UInt8)) (t : List UInt8) : Prop := ∃ r ∈ l, mayL r.1 r.2 = true ∧ hasL r.1 r.2 t = true
/-- the gap's upper end -/
def High (l : List (List UInt8 × List UInt8)) (a h : List UInt8) : Prop :=
  (h = [] ∧ ∀ r ∈ l, mayL r.1 r.2 = true → ¬ a < r.1) ∨ ((∃ r ∈ l, mayL r.1 r.2 = true ∧ r.1 = h) ∧ a < h ∧ ∀ r ∈ l, mayL r.1 r.2 = true → a < r.1 → ¬ r.1 < h)
def GapOk (l : List (List UInt8 × List UInt8)) : Option (List UInt8 × List UInt8) → Prop
  | none => ∀ t, Cov l t
  | some (a, h) => (∀ t, t < a → Cov l t) ∧ ¬ Cov l a ∧ High l a h

theorem High.unique {l : List (List UInt8 × List UInt8)} {a h h' : List UInt8} (x : High l a h) (y : High l a h') : h = h' := by
  rcases x with ⟨rfl, hx⟩ | ⟨⟨r, hr, hm, rfl⟩, hlt, hx⟩ <;> rcases y with ⟨rfl, hy⟩ | ⟨⟨s, hs, hn, rfl⟩, hlt', hy⟩
  · rfl
  · exact absurd hlt' (hx s hs hn)
  · exact absurd hlt (hy r hr hm)
  · have h1 := hx s hs hn hlt'
    have h2 := hy r hr hm hlt
    grind

theorem GapOk.unique {l : List (List UInt8 × List UInt8)} {x y : Option (List UInt8 × List UInt8)} (hx : GapOk l x) (hy : GapOk l y) : x = y := by
  rcases x with _ | ⟨a, h⟩ <;> rcases y with _ | ⟨b, k⟩
  · rfl
  · exact absurd (hx b) hy.2.1
  · exact absurd (hy a) hx.2.1
  · have h1 : ¬ a < b := fun hl => hx.2.1 (hy.1 a hl)
    have h2 : ¬ b < a := fun hl => hy.2.1 (hx.1 b hl)
    obtain rfl : a = b := by grind
    rw [hx.2.2.unique hy.2.2]

/-- one step on: from a covered text to its range's end -/
theorem cov_step {l : List (List UInt8 × List UInt8)} {a : List UInt8} (h : ∀ t, t < a → Cov l t) {r : List UInt8 × List UInt8} (hr : r ∈ l) (hm : mayL r.1 r.2 = true) (hh : hasL r.1 r.2 a = true) : ∀ t, t < r.2 → Cov l t := by
  intro t ht
  by_cases h1 : t < a
  · exact h t h1
  · refine ⟨r, hr, hm, ?_⟩
    simp only [hasL, Bool.and_eq_true, Bool.or_eq_true, decide_eq_true_eq] at hh ⊢
    exact ⟨by grind, .inr ht⟩
theorem cov_all {l : List (List UInt8 × List UInt8)} {a : List UInt8} (h : ∀ t, t < a → Cov l t) {r : List UInt8 × List UInt8} (hr : r ∈ l) (hm : mayL r.1 r.2 = true) (hh : hasL r.1 r.2 a = true) (he : r.2 = []) : ∀ t, Cov l t := by
  intro t
  by_cases h1 : t < a
  · exact h t h1
  · refine ⟨r, hr, hm, ?_⟩
    simp only [hasL, Bool.and_eq_true, Bool.or_eq_true, decide_eq_true_eq] at hh ⊢
    exact ⟨by grind, .inl (by simp [he])⟩
theorem has_lt {r : List UInt8 × List UInt8} {a : List UInt8} (hh : hasL r.1 r.2 a = true) (he : r.2 ≠ []) : a < r.2 := by
  simp only [hasL, Bool.and_eq_true, Bool.or_eq_true, decide_eq_true_eq, List.isEmpty_iff] at hh
  exact hh.2.resolve_left he

/-- how many ends lie behind -/
def cnt (l : List (List UInt8 × List UInt8)) (a : List UInt8) : Nat := (l.filter fun r => decide (a < r.2)).length
theorem cnt_le (l : List (List UInt8 × List UInt8)) (a : List UInt8) : cnt l a ≤ l.length := List.length_filter_le _ _
theorem filter_lt {α : Type} (p q : α → Bool) (hpq : ∀ x, q x = true → p x = true) : ∀ (l : List α) (x : α), x ∈ l → p x = true → q x = false → (l.filter q).length < (l.filter p).length
  | [], x, hx, _, _ => by simp at hx
  | y :: l, x, hx, hp, hq => by
    have mono : (l.filter q).length ≤ (l.filter p).length := by
      clear hx
      induction l with
      | nil => simp
      | cons z l ih =>
        rw [List.filter_cons, List.filter_cons]
        by_cases hz : q z = true
        · rw [if_pos hz, if_pos (hpq z hz)]; simp; exact ih
        · rw [if_neg hz]; split <;> (try simp only [List.length_cons]) <;> omega
    rw [List.filter_cons, List.filter_cons]
    rcases List.mem_cons.1 hx with rfl | hx
    · rw [hp, hq]; simp; omega
    · have := filter_lt p q hpq l x hx hp hq
      by_cases hz : q y = true
      · rw [if_pos hz, if_pos (hpq y hz)]; simp; omega
      · rw [if_neg hz]; split <;> (try simp only [List.length_cons]) <;> omega
theorem cnt_lt {l : List (List UInt8 × List UInt8)} {a : List UInt8} {r : List UInt8 × List UInt8} (hr : r ∈ l) (h : a < r.2) : cnt l r.2 < cnt l a := by
  refine filter_lt _ _ (fun x hx => ?_) l r hr (by simpa using h) (by simp)
  simp only [decide_eq_true_eq] at hx ⊢
  grind

/-- a search from the first one on has found none among the first k -/
def NoneUpto (l : List (List UInt8 × List UInt8)) (a : List UInt8) (k : Nat) : Prop := ∀ r ∈ l.take k, mayL r.1 r.2 = true → hasL r.1 r.2 a = false
theorem NoneUpto.zero (l : List (List UInt8 × List UInt8)) (a : List UInt8) : NoneUpto l a 0 := by intro r hr; simp at hr
theorem NoneUpto.succ {l : List (List UInt8 × List UInt8)} {a : List UInt8} {k : Nat} (h : NoneUpto l a k) {r : List UInt8 × List UInt8} (hr : l[k]? = some r) (hn : mayL r.1 r.2 = true → hasL r.1 r.2 a = false) : NoneUpto l a (k + 1) := by
  intro s hs hm
  rw [List.take_add_one, hr] at hs
  rcases List.mem_append.1 hs with hs | hs
  · exact h s hs hm
  · simp at hs; subst hs; exact hn hm
theorem NoneUpto.all {l : List (List UInt8 × List UInt8)} {a : List UInt8} {k : Nat} (h : NoneUpto l a k) (hk : l.length ≤ k) : ¬ Cov l a := by
  rintro ⟨r, hr, hm, hh⟩
  rw [h r (by rw [List.take_of_length_le hk]; exact hr) hm] at hh
  cases hh

/-- the upper end, k ranges seen -/
def stepH (a : List UInt8) (h : List UInt8) (r : List UInt8 × List UInt8) : List UInt8 := if mayL r.1 r.2 && decide (a < r.1) && (h.isEmpty || decide (r.1 < h)) then r.1 else h
def HighU (m : List (List UInt8 × List UInt8)) (a h : List UInt8) : Prop := High m a h
theorem high_nil (a : List UInt8) : High [] a [] := .inl ⟨rfl, by simp⟩
theorem high_step {m : List (List UInt8 × List UInt8)} {a h : List UInt8} (x : High m a h) (r : List UInt8 × List UInt8) : High (m ++ [r]) a (stepH a h r) := by
  unfold stepH
  by_cases hm : mayL r.1 r.2 = true
  · by_cases hlt : a < r.1
    · rcases x with ⟨rfl, hx⟩ | ⟨⟨s, hs, hn, rfl⟩, hl, hx⟩
      · simp [hm, hlt]
        right
        refine ⟨⟨r, by simp, hm, rfl⟩, hlt, fun s hs hn h1 => ?_⟩
        rcases List.mem_append.1 hs with hs | hs
        · exact absurd h1 (hx s hs hn)
        · simp at hs; subst hs; simp
      · have hne : s.1 ≠ [] := by rintro h0; rw [h0] at hl; exact not_lt_nil _ hl
        by_cases hrs : r.1 < s.1
        · simp [hm, hlt, hrs]
          right
          refine ⟨⟨r, by simp, hm, rfl⟩, hlt, fun u hu hn' h1 => ?_⟩
          rcases List.mem_append.1 hu with hu | hu
          · have := hx u hu hn' h1; grind
          · simp at hu; subst hu; simp
        · simp [hm, hlt, hrs, hne]
          right
          refine ⟨⟨s, by simp [hs], hn, rfl⟩, hl, fun u hu hn' h1 => ?_⟩
          rcases List.mem_append.1 hu with hu | hu
          · exact hx u hu hn' h1
          · simp at hu; subst hu; exact hrs
    · simp [hm, hlt]
      rcases x with ⟨rfl, hx⟩ | ⟨⟨s, hs, hn, rfl⟩, hl, hx⟩
      · left
        refine ⟨rfl, fun u hu hn' => ?_⟩
        rcases List.mem_append.1 hu with hu | hu
        · exact hx u hu hn'
        · simp at hu; subst hu; exact hlt
      · right
        refine ⟨⟨s, by simp [hs], hn, rfl⟩, hl, fun u hu hn' h1 => ?_⟩
        rcases List.mem_append.1 hu with hu | hu
        · exact hx u hu hn' h1
        · simp at hu; subst hu; exact absurd h1 hlt
  · have hm' : mayL r.1 r.2 = false := by simpa using hm
    simp [hm']
    rcases x with ⟨rfl, hx⟩ | ⟨⟨s, hs, hn, rfl⟩, hl, hx⟩
    · left
      refine ⟨rfl, fun u hu hn' => ?_⟩
      rcases List.mem_append.1 hu with hu | hu
      · exact hx u hu hn'
      · simp at hu; subst hu; rw [hm'] at hn'; cases hn'
    · right
      refine ⟨⟨s, by simp [hs], hn, rfl⟩, hl, fun u hu hn' h1 => ?_⟩
      rcases List.mem_append.1 hu with hu | hu
      · exact hx u hu hn' h1
      · simp at hu; subst hu; rw [hm'] at hn'; cases hn'
/-- the list's order does not matter -/
theorem High.perm {m l : List (List UInt8 × List UInt8)} (h : ∀ r, r ∈ m ↔ r ∈ l) {a k : List UInt8} (x : High m a k) : High l a k := by
  rcases x with ⟨rfl, hx⟩ | ⟨⟨s, hs, hn, rfl⟩, hl, hx⟩
  · exact .inl ⟨rfl, fun r hr => hx r ((h r).2 hr)⟩
  · exact .inr ⟨⟨s, (h s).1 hs, hn, rfl⟩, hl, fun r hr => hx r ((h r).2 hr)⟩

/-- the answer, as a function -/
noncomputable def gapL (l : List (List UInt8 × List UInt8)) : Option (List UInt8 × List UInt8) := Classical.epsilon (GapOk l)
theorem GapOk.eq {l : List (List UInt8 × List UInt8)} {x : Option (List UInt8 × List UInt8)} (h : GapOk l x) : gapL l = x := (Classical.epsilon_spec ⟨x, h⟩ : GapOk l (gapL l)).unique h

/-- the reference's turns: what holds with n ranges before turn t -/
def Turn (l : List (List UInt8 × List UInt8)) (a : List UInt8) (t : Nat) : Prop := (∀ u, u < a → Cov l u) ∧ (¬ Cov l a ∨ cnt l a + t ≤ l.length)
def Inner (l : List (List UInt8 × List UInt8)) (a : List UInt8) (t k : Nat) : Prop := (∀ u, u < a → Cov l u) ∧ (¬ Cov l a ∨ cnt l a + t + 1 ≤ l.length ∨ cnt l a + t ≤ l.length ∧ NoneUpto l a k)
theorem Turn.first (l : List (List UInt8 × List UInt8)) : Turn l [] 0 := ⟨fun u hu => absurd hu (not_lt_nil u), .inr (by have := cnt_le l []; omega)⟩
theorem Turn.inner {l : List (List UInt8 × List UInt8)} {a : List UInt8} {t : Nat} (h : Turn l a t) : Inner l a t 0 := ⟨h.1, h.2.imp id fun h => .inr ⟨h, .zero l a⟩⟩
theorem Inner.turn {l : List (List UInt8 × List UInt8)} {a : List UInt8} {t k : Nat} (h : Inner l a t k) (hk : l.length ≤ k) : Turn l a (t + 1) := by
  refine ⟨h.1, ?_⟩
  rcases h.2 with h | h | ⟨_, h⟩
  · exact .inl h
  · exact .inr (by omega)
  · exact .inl (h.all hk)
theorem Turn.last {l : List (List UInt8 × List UInt8)} {a : List UInt8} {t : Nat} (h : Turn l a t) (ht : l.length < t) : ¬ Cov l a := h.2.resolve_right (by omega)
theorem Inner.keep {l : List (List UInt8 × List UInt8)} {a : List UInt8} {t k : Nat} (h : Inner l a t k) {r : List UInt8 × List UInt8} (hr : l[k]? = some r) (hn : mayL r.1 r.2 = true → hasL r.1 r.2 a = false) : Inner l a t (k + 1) :=
  ⟨h.1, h.2.imp id fun h => h.imp id fun h => ⟨h.1, h.2.succ hr hn⟩⟩
theorem Inner.move {l : List (List UInt8 × List UInt8)} {a : List UInt8} {t k : Nat} (h : Inner l a t k) {r : List UInt8 × List UInt8} (hr : l[k]? = some r) (hm : mayL r.1 r.2 = true) (hh : hasL r.1 r.2 a = true) (he : r.2 ≠ []) : Inner l r.2 t (k + 1) := by
  have hmem := List.mem_of_getElem? hr
  refine ⟨cov_step h.1 hmem hm hh, ?_⟩
  have := cnt_lt hmem (has_lt hh he)
  rcases h.2 with h | h | ⟨h, _⟩
  · exact absurd ⟨r, hmem, hm, hh⟩ h
  · exact .inr (.inl (by omega))
  · exact .inr (.inl (by omega))
/-- ranges that part all texts have no gap -/
theorem gap_none {l : List (List UInt8 × List UInt8)} (h : ∀ t, Cov l t) : gapL l = none := GapOk.eq (x := none) h

theorem high_exists (l : List (List UInt8 × List UInt8)) (a : List UInt8) : ∃ h, High l a h := by
  have : ∀ m k : List (List UInt8 × List UInt8), (∃ h, High k a h) → ∃ h, High (k ++ m) a h := by
    intro m
    induction m with
    | nil => intro k hk; simpa using hk
    | cons r m ih =>
      rintro k ⟨h, hk⟩
      have := ih (k ++ [r]) ⟨_, high_step hk r⟩
      simpa using this
  simpa using this l [] ⟨_, high_nil a⟩
theorem gap_exists (l : List (List UInt8 × List UInt8)) : ∀ n a, cnt l a ≤ n → (∀ t, t < a → Cov l t) → ∃ o, GapOk l o := by
  intro n
  induction n with
  | zero =>
    intro a hn h
    by_cases hc : Cov l a
    · obtain ⟨r, hr, hm, hh⟩ := hc
      by_cases he : r.2 = []
      · exact ⟨none, cov_all h hr hm hh he⟩
      · have := cnt_lt hr (has_lt hh he); omega
    · obtain ⟨k, hk⟩ := high_exists l a
      exact ⟨some (a, k), h, hc, hk⟩
  | succ n ih =>
    intro a hn h
    by_cases hc : Cov l a
    · obtain ⟨r, hr, hm, hh⟩ := hc
      by_cases he : r.2 = []
      · exact ⟨none, cov_all h hr hm hh he⟩
      · have := cnt_lt hr (has_lt hh he)
        exact ih r.2 (by omega) (cov_step h hr hm hh)
    · obtain ⟨k, hk⟩ := high_exists l a
      exact ⟨some (a, k), h, hc, hk⟩
theorem gap_ok (l : List (List UInt8 × List UInt8)) : GapOk l (gapL l) :=
  Classical.epsilon_spec (gap_exists l _ [] (Nat.le_refl _) (fun t ht => absurd ht (not_lt_nil t)))

/-- a gap's texts are in none -/
theorem gap_has {l : List (List UInt8 × List UInt8)} {a h t : List UInt8} (hg : GapOk l (some (a, h))) (hc : Cov l t) : hasL a h t = false := by
  obtain ⟨_, hn, hh⟩ := hg
  obtain ⟨r, hr, hm, hr2⟩ := hc
  cases hk : hasL a h t with
  | false => rfl
  | true =>
    exfalso
    simp only [hasL, Bool.and_eq_true, Bool.or_eq_true, decide_eq_true_eq, List.isEmpty_iff] at hk hr2
    by_cases h1 : a < r.1
    · rcases hh with ⟨rfl, hx⟩ | ⟨⟨s, hs, hms, rfl⟩, hl, hx⟩
      · exact hx r hr hm h1
      · have h2 := hx r hr hm h1
        rcases hk.2 with h3 | h3
        · rw [h3] at hl; exact not_lt_nil _ hl
        · grind
    · refine hn ⟨r, hr, hm, ?_⟩
      simp only [hasL, Bool.and_eq_true, Bool.or_eq_true, decide_eq_true_eq, List.isEmpty_iff]
      exact ⟨h1, hr2.2.imp id fun h2 => by grind⟩
/-- .. as a test -/
def covB (l : List (List UInt8 × List UInt8)) (t : List UInt8) : Bool := l.any fun r => mayL r.1 r.2 && hasL r.1 r.2 t
theorem covB_iff {l : List (List UInt8 × List UInt8)} {t : List UInt8} : covB l t = true ↔ Cov l t := by
  simp [covB, Cov]
theorem covB_snoc (l : List (List UInt8 × List UInt8)) (r : List UInt8 × List UInt8) (t : List UInt8) : covB (l ++ [r]) t = (covB l t || mayL r.1 r.2 && hasL r.1 r.2 t) := by simp [covB]
/-- a range that is split -/
theorem cov_split {l : List (List UInt8 × List UInt8)} {j : Nat} {lo hi key : List UInt8} (h : ∀ t, Cov l t) (hj : l[j]? = some (lo, hi)) (hs : splitL lo hi key = true) : ∀ t, Cov (l.set j (lo, key) ++ [(key, hi)]) t := by
  intro t
  have hp := parts_ok lo hi key t hs
  obtain ⟨hjl, _⟩ := List.getElem?_eq_some_iff.1 hj
  obtain ⟨r, hr, hm, hh⟩ := h t
  obtain ⟨i, hi'⟩ := List.mem_iff_getElem?.1 hr
  by_cases e : i = j
  · subst e
    rw [hj] at hi'
    obtain rfl := Option.some.inj hi'
    have := hp.all
    simp only at hh
    rw [hh] at this
    have h2 : hasL lo key t = true ∨ hasL key hi t = true := by simpa using this.symm
    rcases h2 with h2 | h2
    · exact ⟨(lo, key), List.mem_append.2 (.inl (List.mem_iff_getElem?.2 ⟨i, by rw [List.getElem?_set_self hjl]⟩)), hp.cx, h2⟩
    · exact ⟨(key, hi), by simp, hp.cy, h2⟩
  · exact ⟨r, List.mem_append.2 (.inl (List.mem_iff_getElem?.2 ⟨i, by rw [List.getElem?_set_ne (by omega)]; exact hi'⟩)), hm, hh⟩
theorem cov_first : ∀ t, Cov [([], [])] t := fun t => ⟨([], []), by simp, by simp [mayL], by simp [hasL]⟩

end Go.Proofs.Yteibnignjghedaa
