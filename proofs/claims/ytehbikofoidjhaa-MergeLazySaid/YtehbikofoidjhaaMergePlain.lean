/-
  Plain facts: rows gone through as one tell their rising cells, put together and sorted (the first of those alike wins); no program in sight.
-/
import Derived.Test.YtehbikofoidjhaaAllP
import Derived.Test.YtehbikofoidjhaaKeepP
import Derived.Test.YtehbikofoidjhaaRSortW
namespace Go.Proofs.Ytehbikofoidjhaa

/-- the cells that stand behind all that stand ahead of them -/
def riseL : Option CellA → List CellA → List CellA
  | _, [] => []
  | none, y :: r => y :: riseL (some y) r
  | some c, y :: r => if cmpC c y < 0 then y :: riseL (some y) r else riseL (some c) r
theorem rise_gt (r : List CellA) : ∀ c, (∀ y ∈ riseL (some c) r, cmpC c y < 0) ∧ Strict (riseL (some c) r) := by
  induction r with
  | nil => intro c; exact ⟨fun y h => (by cases h), List.Pairwise.nil⟩
  | cons a r ih =>
    intro c
    rw [riseL]
    by_cases h : cmpC c a < 0
    · rw [if_pos h]
      obtain ⟨h1, h2⟩ := ih a
      refine ⟨fun y hy => ?_, List.pairwise_cons.2 ⟨h1, h2⟩⟩
      rcases List.mem_cons.1 hy with rfl | hy
      · exact h
      · exact cmp_lt_trans h (h1 y hy)
    · rw [if_neg h]; exact ih c
theorem rise_drop (x : CellA) : ∀ r, riseL (some x) r = match dropUp x r with | [] => [] | y :: t => y :: riseL (some y) t
  | [] => rfl
  | a :: r => by
    rw [riseL, dropUp]
    by_cases h : cmpC x a < 0
    · rw [if_pos h, if_pos h]
    · rw [if_neg h, if_neg h]; exact rise_drop x r
/-- what a head has yet to tell -/
def exP (p : PH) : List CellA := p.1 :: riseL (some p.1) p.2
def exL (l : List PH) : List CellA := (l.map exP).flatten
theorem exP_strict (p : PH) : Strict (exP p) := List.pairwise_cons.2 ⟨(rise_gt p.2 p.1).1, (rise_gt p.2 p.1).2⟩
theorem adv_ex (c : CellA) (p : PH) : (match advP c p with | none => [] | some q => exP q) = if cmpC p.1 c = 0 then riseL (some p.1) p.2 else exP p := by
  unfold advP
  by_cases h : cmpC p.1 c = 0
  · rw [if_pos h, if_pos h, rise_drop]
    cases dropUp p.1 p.2 <;> rfl
  · rw [if_neg h, if_neg h]
theorem step_ex (c : CellA) : ∀ l : List PH, exL (stepP (some c) l) = (l.map fun p => if cmpC p.1 c = 0 then riseL (some p.1) p.2 else exP p).flatten
  | [] => rfl
  | p :: l => by
    have ih := step_ex c l
    have h := adv_ex c p
    simp only [stepP, List.filterMap_cons, List.map_cons, List.flatten_cons] at ih ⊢
    cases ha : advP c p with
    | none => rw [ha] at h; simp only at h ⊢; rw [← h, ih]; rfl
    | some q => rw [ha] at h; simp only at h ⊢; rw [← h, ← ih]; rfl
theorem least_le (l : List PH) : ∀ x, leC (leastP x l) x ∧ ∀ h ∈ l, leC (leastP x l) h.1 := by
  induction l with
  | nil => intro x; exact ⟨leC_refl x, fun h hh => by cases hh⟩
  | cons a r ih =>
    intro x
    have e : leastP x (a :: r) = leastP (if cmpC a.1 x < 0 then a.1 else x) r := rfl
    rw [e]
    by_cases hc : cmpC a.1 x < 0
    · rw [if_pos hc]
      obtain ⟨h1, h2⟩ := ih a.1
      refine ⟨leC_trans h1 (lt_leC hc), fun h hh => ?_⟩
      rcases List.mem_cons.1 hh with rfl | hh
      · exact h1
      · exact h2 h hh
    · rw [if_neg hc]
      obtain ⟨h1, h2⟩ := ih x
      refine ⟨h1, fun h hh => ?_⟩
      rcases List.mem_cons.1 hh with rfl | hh
      · exact leC_trans h1 hc
      · exact h2 h hh
theorem leC_eqv {m y : CellA} (h : leC m y) (hn : eqvC m y = false) : cmpC m y < 0 := by
  rcases (leC_iff m y).1 h with h | h
  · exact h
  · simp [eqvC, h] at hn
theorem ex_ge {m : CellA} {p : PH} (h : leC m p.1) : ∀ y ∈ exP p, leC m y := fun y hy => by
  rcases List.mem_cons.1 hy with rfl | hy
  · exact h
  · exact leC_trans h (lt_leC ((rise_gt p.2 p.1).1 y hy))
/-- the least head is the first of those alike among all that is yet to be told -/
theorem least_first : ∀ (l : List PH) (h : PH), (exL (h :: l)).filter (eqvC (leastP h.1 l)) ≠ [] ∧ ((exL (h :: l)).filter (eqvC (leastP h.1 l))).take 1 = [leastP h.1 l] := by
  intro l
  -- with a front part that has none alike
  have key : ∀ (l : List PH) (x : CellA) (pre : List CellA), (∀ m, leC m x → (cmpC m x < 0 → pre.filter (eqvC m) = []) ∧ (cmpC m x = 0 → (pre.filter (eqvC m)).take 1 = [x])) →
      (∀ m, m = leastP x l → ((pre ++ exL l).filter (eqvC m)).take 1 = [m]) := by
    intro l
    induction l with
    | nil =>
      intro x pre hp m hm
      have hm' : m = x := hm
      subst hm'
      have := (hp m (leC_refl m)).2 (cmp_self m)
      simpa [exL] using this
    | cons a r ih =>
      intro x pre hp m hm
      have e : leastP x (a :: r) = leastP (if cmpC a.1 x < 0 then a.1 else x) r := rfl
      have hex : exL (a :: r) = exP a ++ exL r := rfl
      rw [e] at hm
      rw [hex, ← List.append_assoc]
      refine ih _ (pre ++ exP a) (fun m hle => ?_) m hm
      by_cases hc : cmpC a.1 x < 0
      · rw [if_pos hc] at hle ⊢
        refine ⟨fun hlt => ?_, fun heq => ?_⟩
        · rw [List.filter_append, (hp m (lt_leC (cmp_lt_trans hlt hc))).1 (cmp_lt_trans hlt hc), List.nil_append, List.filter_eq_nil_iff]
          intro y hy
          have : cmpC m y < 0 := lt_le_trans hlt (by
            rcases List.mem_cons.1 hy with rfl | hy
            · exact leC_refl _
            · exact lt_leC ((rise_gt a.2 a.1).1 y hy))
          simp [eqvC]; omega
        · have hlt : cmpC m x < 0 := cmp_eq_lt heq hc
          rw [List.filter_append, (hp m (lt_leC hlt)).1 hlt, List.nil_append]
          unfold exP
          rw [List.filter_cons, if_pos (by simp [eqvC, heq])]
          rfl
      · rw [if_neg hc] at hle ⊢
        have hax : leC x a.1 := hc
        refine ⟨fun hlt => ?_, fun heq => ?_⟩
        · rw [List.filter_append, (hp m hle).1 hlt, List.nil_append, List.filter_eq_nil_iff]
          intro y hy
          have : cmpC m y < 0 := lt_le_trans hlt (ex_ge hax y hy)
          simp [eqvC]; omega
        · have := (hp m hle).2 heq
          rw [List.filter_append]
          cases hf : pre.filter (eqvC m) with
          | nil => rw [hf] at this; cases this
          | cons z r => rw [hf] at this; simpa using this
  intro h
  have hk := key l h.1 (exP h) (fun m hle => ⟨fun hlt => ?_, fun heq => ?_⟩) _ rfl
  · have e : exL (h :: l) = exP h ++ exL l := rfl
    rw [e]
    refine ⟨fun hn => ?_, hk⟩
    rw [hn] at hk; cases hk
  · rw [List.filter_eq_nil_iff]
    intro y hy
    have : cmpC m y < 0 := lt_le_trans hlt (by
      rcases List.mem_cons.1 hy with rfl | hy
      · exact leC_refl _
      · exact lt_leC ((rise_gt h.2 h.1).1 y hy))
    simp [eqvC]; omega
  · unfold exP
    rw [List.filter_cons, if_pos (by simp [eqvC, heq])]
    have : leastP h.1 [] = h.1 := rfl
    have hx : h.1 = h.1 := rfl
    rfl

/-- a step takes away those alike -/
theorem step_filter {c : CellA} : ∀ {l : List PH}, (∀ p ∈ l, leC c p.1) → exL (stepP (some c) l) = (exL l).filter (fun y => !eqvC c y) := by
  intro l h
  rw [step_ex]
  induction l with
  | nil => rfl
  | cons p l ih =>
    have e : exL (p :: l) = exP p ++ exL l := rfl
    rw [e, List.filter_append, List.map_cons, List.flatten_cons, ih (fun q hq => h q (List.mem_cons_of_mem _ hq))]
    congr 1
    have hp := h p (List.mem_cons_self ..)
    by_cases hc : cmpC p.1 c = 0
    · rw [if_pos hc]
      unfold exP
      have hc' : eqvC c p.1 = true := by simp [eqvC, cmp_zero_flip.1 hc]
      rw [List.filter_cons, hc', Bool.not_true, if_neg (by decide)]
      symm
      rw [List.filter_eq_self]
      intro y hy
      rw [eqvC_lt ((rise_gt p.2 p.1).1 y hy) hc']; rfl
    · rw [if_neg hc]
      have hlt : cmpC c p.1 < 0 := by
        rcases (leC_iff c p.1).1 hp with h | h
        · exact h
        · exact absurd (cmp_zero_flip.1 h) hc
      symm
      rw [List.filter_eq_self]
      intro y hy
      have : cmpC c y < 0 := lt_le_trans hlt (ex_ge (leC_refl p.1) y hy)
      simp [eqvC]; omega
theorem ex_all_ge {h : PH} {l : List PH} : ∀ y ∈ exL (h :: l), leC (leastP h.1 l) y := by
  intro y hy
  obtain ⟨h1, h2⟩ := least_le l h.1
  obtain ⟨z, hz, hyz⟩ := List.mem_flatten.1 hy
  obtain ⟨p, hp, rfl⟩ := List.mem_map.1 hz
  refine ex_ge ?_ y hyz
  rcases List.mem_cons.1 hp with rfl | hp
  · exact h1
  · exact h2 p hp
theorem tells_first : ∀ (n : Nat) (last : Option CellA) (l : List PH), (exL (stepP last l)).length ≤ n → ∃ cs, Tells last l cs ∧ FirstOf cs (exL (stepP last l)) := by
  intro n
  induction n with
  | zero =>
    intro last l hn
    cases hs : stepP last l with
    | nil => exact ⟨[], .done hs, by exact ⟨List.Pairwise.nil, fun x => rfl⟩⟩
    | cons h tl => rw [hs] at hn; simp [exL, exP] at hn
  | succ n ih =>
    intro last l hn
    cases hs : stepP last l with
    | nil => exact ⟨[], .done hs, by exact ⟨List.Pairwise.nil, fun x => rfl⟩⟩
    | cons h tl =>
      rw [hs] at hn
      obtain ⟨m, hm⟩ : ∃ m, m = leastP h.1 tl := ⟨_, rfl⟩
      have hge := ex_all_ge (h := h) (l := tl)
      obtain ⟨hne, hfst⟩ := least_first tl h
      have hstep := step_filter (c := leastP h.1 tl) (l := h :: tl) (fun p hp => hge p.1 (List.mem_flatten.2 ⟨exP p, List.mem_map.2 ⟨p, hp, rfl⟩, List.mem_cons_self ..⟩))
      rw [← hm] at hge hne hfst hstep
      have hlen : (exL (stepP (some m) (h :: tl))).length ≤ n := by
        rw [hstep]
        have h1 : ((exL (h :: tl)).filter (eqvC m)).length + ((exL (h :: tl)).filter (fun y => !eqvC m y)).length = (exL (h :: tl)).length := by
          rw [← List.countP_eq_length_filter, ← List.countP_eq_length_filter]
          exact (List.length_eq_countP_add_countP (eqvC m)).symm ▸ by simp
        have h2 : 0 < ((exL (h :: tl)).filter (eqvC m)).length := List.length_pos_iff.2 hne
        omega
      obtain ⟨cs, ht, hf⟩ := ih (some m) (h :: tl) hlen
      refine ⟨m :: cs, hm ▸ .tell hs (hm ▸ ht), ?_, fun x => ?_⟩
      · refine List.pairwise_cons.2 ⟨fun y hy => ?_, hf.strict⟩
        have h1 : y ∈ cs.filter (eqvC y) := List.mem_filter.2 ⟨hy, eqvC_self y⟩
        rw [hf.flt y] at h1
        have h2 := List.mem_of_mem_take h1
        have h3 := (List.mem_filter.1 h2).1
        rw [hstep] at h3
        obtain ⟨h4, h5⟩ := List.mem_filter.1 h3
        exact leC_eqv (hge y h4) (by simpa using h5)
      · by_cases hx : eqvC x m = true
        · have hxe : ∀ y, eqvC x y = eqvC m y := fun y => by
            have h0 : cmpC x m = 0 := by simpa [eqvC] using hx
            unfold eqvC
            congr 1
            apply propext
            exact ⟨fun k => cmp_eq_trans (cmp_zero_flip.1 h0) k, fun k => cmp_eq_trans h0 k⟩
          have hfx : eqvC x = eqvC m := funext hxe
          rw [hfx, hfst, List.filter_cons, if_pos (eqvC_self m)]
          have : cs.filter (eqvC m) = [] := by
            rw [hf.flt m, hstep, List.filter_filter]
            rw [List.filter_eq_nil_iff.2 (fun y _ => by cases eqvC m y <;> decide)]
            rfl
          rw [this]
        · rw [List.filter_cons, if_neg hx, hf.flt x, hstep, List.filter_filter]
          congr 1
          apply List.filter_congr
          intro y _
          by_cases hy : eqvC x y = true
          · have : eqvC m y = false := by
              cases he : eqvC m y with
              | false => rfl
              | true =>
                have h1 : cmpC x y = 0 := by simpa [eqvC] using hy
                have h2 : cmpC m y = 0 := by simpa [eqvC] using he
                exact absurd (show eqvC x m = true by simpa [eqvC] using cmp_eq_trans h1 (cmp_zero_flip.1 h2)) hx
            rw [hy, this]; rfl
          · have : eqvC x y = false := by simpa using hy
            rw [this]; simp
/-- what All tells -/
theorem tells_all (l : List PH) : Tells none l (sortL (exL l)) := by
  obtain ⟨cs, h1, h2⟩ := tells_first _ none l (Nat.le_refl _)
  have : cs = sortL (exL l) := first_unique h2 (sort_first (exL l))
  rwa [this] at h1
end Go.Proofs.Ytehbikofoidjhaa
