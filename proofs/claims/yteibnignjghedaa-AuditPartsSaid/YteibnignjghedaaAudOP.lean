/-
  Whether there is a fault hangs on no order of the list. Plain.
-/
import Derived.Test.YteibnignjghedaaAudWP
namespace Go.Proofs.Yteibnignjghedaa
open Go.RowKit Go.Sort

/-! ### two replicas, either way about -/
def SortedI (l : List (EntA × EntA)) : Prop := l.Pairwise fun p q => p.1.idx < q.1.idx
theorem formsF_iff : ∀ (l : List (EntA × EntA)) (u : Bool), SortedI l → (formsF u l = true ↔ ∃ q ∈ l, (u = true ∨ ∃ p ∈ l, p.1.idx ≤ q.1.idx ∧ sameE p.1 p.2 = false) ∧ q.1.term = q.2.term)
  | [], u, _ => by simp [formsF]
  | x :: r, u, h => by
    obtain ⟨h1, h2⟩ := List.pairwise_cons.1 h
    rw [formsF, Bool.or_eq_true, formsF_iff r _ h2]
    simp only [Bool.and_eq_true, Bool.or_eq_true, Bool.not_eq_true', decide_eq_true_eq]
    constructor
    · rintro (⟨ha, hb⟩ | ⟨q, hq, ha, hb⟩)
      · refine ⟨x, List.mem_cons_self, ?_, hb⟩
        rcases ha with ha | ha
        · exact .inl ha
        · exact .inr ⟨x, List.mem_cons_self, by omega, ha⟩
      · refine ⟨q, List.mem_cons_of_mem _ hq, ?_, hb⟩
        rcases ha with (ha | ha) | ⟨p, hp, hi, hs⟩
        · exact .inl ha
        · exact .inr ⟨x, List.mem_cons_self, by have := h1 q hq; omega, ha⟩
        · exact .inr ⟨p, List.mem_cons_of_mem _ hp, hi, hs⟩
    · rintro ⟨q, hq, ha, hb⟩
      rcases List.mem_cons.1 hq with rfl | hq
      · refine .inl ⟨?_, hb⟩
        rcases ha with ha | ⟨p, hp, hi, hs⟩
        · exact .inl ha
        · rcases List.mem_cons.1 hp with rfl | hp
          · exact .inr hs
          · have := h1 p hp; omega
      · refine .inr ⟨q, hq, ?_, hb⟩
        rcases ha with ha | ⟨p, hp, hi, hs⟩
        · exact .inl (.inl ha)
        · rcases List.mem_cons.1 hp with rfl | hp
          · exact .inl (.inr hs)
          · exact .inr ⟨p, hp, hi, hs⟩
theorem chain_sorted : ∀ (es : List EntA) (i t : Int), chainL i t es = true → es.Pairwise fun a b => a.idx < b.idx
  | [], _, _, _ => List.Pairwise.nil
  | e :: r, i, t, h => by
    rw [chainL, Bool.and_eq_true] at h
    exact List.pairwise_cons.2 ⟨fun x hx => (chain_mem r e.idx e.term h.2 x hx).1, chain_sorted r e.idx e.term h.2⟩
theorem filterMap_sorted (b : SeenA) : ∀ (es : List EntA), es.Pairwise (fun a b => a.idx < b.idx) → SortedI (es.filterMap (pairL b))
  | [], _ => List.Pairwise.nil
  | e :: r, h => by
    obtain ⟨h1, h2⟩ := List.pairwise_cons.1 h
    have ih := filterMap_sorted b r h2
    rw [List.filterMap_cons]
    cases hp : pairL b e with
    | none => exact ih
    | some p =>
      simp only
      refine List.pairwise_cons.2 ⟨fun q hq => ?_, ih⟩
      obtain ⟨x, hx, hq2⟩ := List.mem_filterMap.1 hq
      rw [pair_at] at hp hq2
      cases ha : atX b e.idx with
      | none => rw [ha] at hp; cases hp
      | some y =>
        rw [ha] at hp
        cases hb : atX b x.idx with
        | none => rw [hb] at hq2; cases hq2
        | some z =>
          rw [hb] at hq2
          cases hp; cases hq2
          exact h1 x hx
theorem common_sorted {a b : SeenA} (h : mayS a = true) : SortedI (commonL a b) := filterMap_sorted b a.es (chain_sorted _ _ _ (may_chain h))
theorem common_swap {a b : SeenA} (ha : mayS a = true) (hb : mayS b = true) {x y : EntA} (h : (x, y) ∈ commonL a b) : (y, x) ∈ commonL b a := by
  obtain ⟨h1, h2⟩ := mem_commonL.1 h
  obtain ⟨h3, h4⟩ := at_mem hb h2
  refine mem_commonL.2 ⟨h3, ?_⟩
  simp only at h4 ⊢
  rw [h4]
  exact mem_at ha h1
theorem common_idx {a b : SeenA} (hb : mayS b = true) {p : EntA × EntA} (h : p ∈ commonL a b) : p.2.idx = p.1.idx := (at_mem hb (mem_commonL.1 h).2).2
theorem same_comm (x y : EntA) : sameE x y = sameE y x := by
  rw [Bool.eq_iff_iff]
  simp only [sameE, decide_eq_true_eq]
  exact ⟨Eq.symm, Eq.symm⟩
theorem forms_le {a b : SeenA} (ha : mayS a = true) (hb : mayS b = true) (h : formsL a b = true) : formsL b a = true := by
  obtain ⟨q, hq, h1, h2⟩ := (formsF_iff _ false (common_sorted ha)).1 h
  refine (formsF_iff _ false (common_sorted hb)).2 ⟨(q.2, q.1), common_swap ha hb hq, ?_, h2.symm⟩
  rcases h1 with h1 | ⟨p, hp, hi, hs⟩
  · cases h1
  · refine .inr ⟨(p.2, p.1), common_swap ha hb hp, ?_, by rw [same_comm]; exact hs⟩
    have := common_idx hb hq
    have := common_idx hb hp
    simp only
    omega
theorem forms_comm {a b : SeenA} (ha : mayS a = true) (hb : mayS b = true) : formsL a b = formsL b a := by
  rw [Bool.eq_iff_iff]
  exact ⟨forms_le ha hb, forms_le hb ha⟩
theorem busy_le {a b : SeenA} (ha : mayS a = true) (hb : mayS b = true) (h : busyL a b = true) : busyL b a = true := by
  have hm : min b.com a.com = min a.com b.com := by omega
  rw [busyL] at h ⊢
  rw [hm]
  simp only [Bool.or_eq_true] at h ⊢
  rcases h with (h | h) | h
  · obtain ⟨p, hp, hi, hs⟩ := (busyF_iff _ _).1 h
    refine .inl (.inl ((busyF_iff _ _).2 ⟨(p.2, p.1), common_swap ha hb hp, ?_, by rw [same_comm]; exact hs⟩))
    have := common_idx hb hp
    simp only
    omega
  · exact .inr h
  · exact .inl (.inr h)
theorem busy_comm {a b : SeenA} (ha : mayS a = true) (hb : mayS b = true) : busyL a b = busyL b a := by
  rw [Bool.eq_iff_iff]
  exact ⟨busy_le ha hb, busy_le hb ha⟩
theorem lead_comm (a b : SeenA) : leadS a b = leadS b a := by
  rw [Bool.eq_iff_iff]
  simp only [leadS, Bool.and_eq_true, decide_eq_true_eq]
  exact ⟨fun h => ⟨⟨h.1.2, h.1.1⟩, h.2.symm⟩, fun h => ⟨⟨h.1.2, h.1.1⟩, h.2.symm⟩⟩
theorem tab_comm (a b : SeenA) : tabS a b = tabS b a := by
  rw [Bool.eq_iff_iff]
  simp only [tabS, Bool.and_eq_true, decide_eq_true_eq]
  exact ⟨fun h => ⟨⟨⟨h.1.1.1.symm, h.1.1.2.symm⟩, h.1.2.symm⟩, h.2.symm⟩, fun h => ⟨⟨⟨h.1.1.1.symm, h.1.1.2.symm⟩, h.1.2.symm⟩, h.2.symm⟩⟩
theorem boss_comm (a b : SeenA) : bossS a b = bossS b a := by
  have h1 : ∀ l m : List ProcA, sameP l m = sameP m l := fun l m => by
    rw [Bool.eq_iff_iff]
    simp only [sameP, decide_eq_true_eq]
    exact ⟨Eq.symm, Eq.symm⟩
  have h2 : ∀ l m : List LocI, sameLs l m = sameLs m l := fun l m => by
    rw [Bool.eq_iff_iff]
    simp only [sameLs, decide_eq_true_eq]
    exact ⟨Eq.symm, Eq.symm⟩
  have h3 : decide (a.next = b.next) = decide (b.next = a.next) := by
    rw [Bool.eq_iff_iff]
    simp only [decide_eq_true_eq]
    exact ⟨Eq.symm, Eq.symm⟩
  rw [bossS, bossS, h1, h2, h3]
theorem mach_comm {a b : SeenA} (hg : a.group = b.group) : machL a b = machL b a := by
  rw [machL, machL, boss_comm, tab_comm, hg]
  by_cases h : a.app = b.app
  · rw [h]
  · have h' : ¬ b.app = a.app := fun e => h e.symm
    simp [h, h']
/-- nothing is wrong with two -/
def Clean (a b : SeenA) : Prop := a.group = b.group → leadS a b = false ∧ formsL a b = false ∧ busyL a b = false ∧ machL a b = false
def CleanM (a b : SeenA) : Prop := mayS a = true → mayS b = true → Clean a b
theorem CleanM.symm {a b : SeenA} (h : CleanM a b) : CleanM b a := fun hb ha hg => by
  obtain ⟨h1, h2, h3, h4⟩ := h ha hb hg.symm
  exact ⟨by rw [lead_comm]; exact h1, by rw [forms_comm hb ha]; exact h2, by rw [busy_comm hb ha]; exact h3, by rw [mach_comm hg]; exact h4⟩

/-! ### none is told -/
theorem addF_nil {is : Bool} {fs : List (Int × Int)} {f : Int × Int} : addF is fs f = [] ↔ is = false ∧ fs = [] := by cases is <;> simp [addF]
theorem pairF_nil {a b : SeenA} {k : Int} {fs : List (Int × Int)} : pairF a b k fs = [] ↔ Clean a b ∧ fs = [] := by
  rw [pairF]
  by_cases hg : a.group = b.group
  · rw [if_pos hg]
    simp only [addF_nil]
    constructor
    · rintro ⟨h4, h3, h2, h1, h0⟩
      exact ⟨fun _ => ⟨h1, h2, h3, h4⟩, h0⟩
    · rintro ⟨h, h0⟩
      obtain ⟨h1, h2, h3, h4⟩ := h hg
      exact ⟨h4, h3, h2, h1, h0⟩
  · rw [if_neg hg]
    exact ⟨fun h => ⟨fun e => absurd e hg, h⟩, fun h => h.2⟩
theorem rowN_nil {l : List SeenA} {b : SeenA} {k : Int} {fs : List (Int × Int)} : ∀ {i : Nat}, rowN l b k fs i = [] ↔ (∀ j, j < i → ∀ a, l[j]? = some a → Clean a b) ∧ fs = []
  | 0 => by simp [rowN]
  | i + 1 => by
    rw [rowN]
    cases hl : l[i]? with
    | none =>
      simp only
      rw [rowN_nil]
      refine and_congr_left fun _ => ⟨fun h j hj a ha => ?_, fun h j hj => h j (by omega)⟩
      rcases Nat.lt_or_ge j i with h1 | h1
      · exact h j h1 a ha
      · have : j = i := by omega
        rw [this, hl] at ha; cases ha
    | some x =>
      simp only
      rw [pairF_nil, rowN_nil]
      constructor
      · rintro ⟨h1, h2, h3⟩
        refine ⟨fun j hj a ha => ?_, h3⟩
        rcases Nat.lt_or_ge j i with h4 | h4
        · exact h2 j h4 a ha
        · have : j = i := by omega
          rw [this, hl] at ha; cases ha; exact h1
      · rintro ⟨h1, h2⟩
        exact ⟨h1 i (by omega) x hl, fun j hj => h1 j (by omega), h2⟩
theorem pairsN_nil {l : List SeenA} : ∀ {k : Nat}, pairsN l k = [] ↔ ∀ j, j < k → ∀ b, l[j]? = some b → ∀ i, i < j → ∀ a, l[i]? = some a → Clean a b
  | 0 => by simp [pairsN]
  | k + 1 => by
    rw [pairsN]
    cases hl : l[k]? with
    | none =>
      simp only
      rw [pairsN_nil]
      refine ⟨fun h j hj b hb => ?_, fun h j hj => h j (by omega)⟩
      rcases Nat.lt_or_ge j k with h1 | h1
      · exact h j h1 b hb
      · have : j = k := by omega
        rw [this, hl] at hb; cases hb
    | some x =>
      simp only
      rw [rowN_nil, pairsN_nil]
      constructor
      · rintro ⟨h1, h2⟩ j hj b hb
        rcases Nat.lt_or_ge j k with h4 | h4
        · exact h2 j h4 b hb
        · have : j = k := by omega
          subst this
          rw [hl] at hb; cases hb; exact h1
      · intro h
        exact ⟨h k (by omega) x hl, fun j hj => h j (by omega)⟩
theorem pairs_pw {l : List SeenA} : pairsN l l.length = [] ↔ l.Pairwise Clean := by
  rw [pairsN_nil, List.pairwise_iff_getElem]
  constructor
  · intro h i j hi hj hij
    exact h j hj _ (List.getElem?_eq_getElem hj) i hij _ (List.getElem?_eq_getElem hi)
  · intro h j hj b hb i hij a ha
    obtain ⟨hj2, rfl⟩ := List.getElem?_eq_some_iff.1 hb
    obtain ⟨hi2, rfl⟩ := List.getElem?_eq_some_iff.1 ha
    exact h i j hi2 hj2 hij
theorem args_nil_iff {l : List SeenA} : argsN l l.length = [] ↔ ∀ s ∈ l, mayS s = true := by
  constructor
  · intro h s hs
    obtain ⟨i, hi⟩ := List.mem_iff_getElem?.1 hs
    exact args_nil h i (List.getElem?_eq_some_iff.1 hi).1 s hi
  · intro h
    have : ∀ k, argsN l k = [] := by
      intro k
      induction k with
      | zero => rfl
      | succ k ih =>
        rw [argsN]
        cases hl : l[k]? with
        | none => exact ih
        | some x =>
          simp only
          rw [ih, h x (List.mem_of_getElem? hl)]
          rfl
    exact this _
theorem meetN_nil {t : List Says} {x : Says} {k : Int} {fs : List (Int × Int)} : ∀ {i : Nat}, meetN t x k fs i = [] ↔ (∀ j, j < i → ∀ r, t[j]? = some r → meetS r x = false) ∧ fs = []
  | 0 => by simp [meetN]
  | i + 1 => by
    rw [meetN]
    cases hl : t[i]? with
    | none =>
      simp only
      rw [meetN_nil]
      refine and_congr_left fun _ => ⟨fun h j hj a ha => ?_, fun h j hj => h j (by omega)⟩
      rcases Nat.lt_or_ge j i with h1 | h1
      · exact h j h1 a ha
      · have : j = i := by omega
        rw [this, hl] at ha; cases ha
    | some y =>
      simp only
      rw [addF_nil, meetN_nil]
      constructor
      · rintro ⟨h1, h2, h3⟩
        refine ⟨fun j hj a ha => ?_, h3⟩
        rcases Nat.lt_or_ge j i with h4 | h4
        · exact h2 j h4 a ha
        · have : j = i := by omega
          rw [this, hl] at ha; cases ha; exact h1
      · rintro ⟨h1, h2⟩
        exact ⟨h1 i (by omega) y hl, fun j hj => h1 j (by omega), h2⟩
theorem meetsN_nil {t : List Says} {fs : List (Int × Int)} : ∀ {k : Nat}, meetsN t fs k = [] ↔ (∀ j, j < k → ∀ x, t[j]? = some x → ∀ i, i < j → ∀ r, t[i]? = some r → meetS r x = false) ∧ fs = []
  | 0 => by simp [meetsN]
  | k + 1 => by
    rw [meetsN]
    cases hl : t[k]? with
    | none =>
      simp only
      rw [meetsN_nil]
      refine and_congr_left fun _ => ⟨fun h j hj b hb => ?_, fun h j hj => h j (by omega)⟩
      rcases Nat.lt_or_ge j k with h1 | h1
      · exact h j h1 b hb
      · have : j = k := by omega
        rw [this, hl] at hb; cases hb
    | some y =>
      simp only
      rw [meetN_nil, meetsN_nil]
      constructor
      · rintro ⟨h1, h2, h3⟩
        refine ⟨fun j hj b hb => ?_, h3⟩
        rcases Nat.lt_or_ge j k with h4 | h4
        · exact h2 j h4 b hb
        · have : j = k := by omega
          subst this
          rw [hl] at hb; cases hb; exact h1
      · rintro ⟨h, h2⟩
        exact ⟨h k (by omega) y hl, fun j hj => h j (by omega), h2⟩
/-- the ranges meet nowhere, and leave no gap -/
def Whole (rs : List (ByteArray × ByteArray)) : Prop := (∀ (j : Nat) (x : ByteArray × ByteArray), rs[j]? = some x → ∀ i, i < j → ∀ r : ByteArray × ByteArray, rs[i]? = some r → meetL r.1.toList r.2.toList x.1.toList x.2.toList = false) ∧ (rs = [] ∨ (gapL (rgL rs)).isSome = false)
theorem check_nil_iff {l : List SeenA} : checkL l = [] ↔ (∀ s ∈ l, mayS s = true) ∧ l.Pairwise Clean ∧ Whole ((tabsL l).map rgS) := by
  rw [checkL]
  by_cases hA : argsN l l.length = []
  · rw [if_pos hA]
    have hA' := args_nil_iff.1 hA
    have key : ∀ fs, (endF (tabsL l) (meetsN (tabsL l) fs (tabsL l).length) = [] ↔ fs = [] ∧ Whole ((tabsL l).map rgS)) := by
      intro fs
      have hm : meetsN (tabsL l) fs (tabsL l).length = [] ↔ (∀ (j : Nat) (x : ByteArray × ByteArray), ((tabsL l).map rgS)[j]? = some x → ∀ i, i < j → ∀ r : ByteArray × ByteArray, ((tabsL l).map rgS)[i]? = some r → meetL r.1.toList r.2.toList x.1.toList x.2.toList = false) ∧ fs = [] := by
        rw [meetsN_nil]
        refine and_congr_left fun _ => ⟨fun h j x hx i hij r hr => ?_, fun h j _ x hx i hij r hr => ?_⟩
        · rw [List.getElem?_map] at hx hr
          cases h1 : (tabsL l)[j]? with
          | none => rw [h1] at hx; cases hx
          | some y =>
            cases h2 : (tabsL l)[i]? with
            | none => rw [h2] at hr; cases hr
            | some z =>
              rw [h1] at hx; rw [h2] at hr
              cases hx; cases hr
              exact h j (List.getElem?_eq_some_iff.1 h1).1 y h1 i hij z h2
        · exact h j (rgS x) (by rw [List.getElem?_map, hx]; rfl) i hij (rgS r) (by rw [List.getElem?_map, hr]; rfl)
      rw [endF, Whole]
      by_cases h0 : (tabsL l).length = 0
      · rw [if_pos h0, hm]
        have : (tabsL l).map rgS = [] := by rw [List.eq_nil_of_length_eq_zero h0]; rfl
        rw [this]
        simp
      · rw [if_neg h0, addF_nil, hm, gapS]
        have : ¬ (tabsL l).map rgS = [] := fun e => h0 (by have := congrArg List.length e; rwa [List.length_map] at this)
        simp only [this, false_or]
        exact ⟨fun h => ⟨h.2.2, h.2.1, h.1⟩, fun h => ⟨h.2.2, h.2.1, h.1⟩⟩
    rw [key, pairs_pw]
    exact ⟨fun h => ⟨hA', h.1, h.2⟩, fun h => ⟨h.2.1, h.2.2⟩⟩
  · rw [if_neg hA]
    exact ⟨fun h => absurd h hA, fun h => absurd (args_nil_iff.2 h.1) hA⟩

/-! ### the newest of a group -/
theorem bestF_spec (g : Int) : ∀ (l : List SeenA) (acc : Option (Nat × SeenA)) (i : Nat),
    (∀ q, bestF g acc i l = some q → ((∃ q0, acc = some q0 ∧ q.2 = q0.2) ∨ (q.2 ∈ l ∧ q.2.group = g ∧ 0 < q.2.app)) ∧ (∀ q0, acc = some q0 → q0.2.app ≤ q.2.app) ∧ ∀ s ∈ l, s.group = g → 0 < s.app → s.app ≤ q.2.app) ∧
    (bestF g acc i l = none → acc = none ∧ ∀ s ∈ l, s.group = g → ¬ 0 < s.app)
  | [], acc, i => by
    refine ⟨fun q h => ⟨.inl ⟨q, h, rfl⟩, fun q0 h0 => ?_, fun s hs => by cases hs⟩, fun h => ⟨h, fun s hs => by cases hs⟩⟩
    have h' : acc = some q := h
    rw [h'] at h0; cases h0; exact Int.le_refl _
  | s :: r, acc, i => by
    rw [bestF]
    obtain ⟨ih1, ih2⟩ := bestF_spec g r (stepB g acc i s) (i + 1)
    have hst : (stepB g acc i s = some (i, s) ∧ s.group = g ∧ 0 < s.app ∧ ∀ q0, acc = some q0 → q0.2.app < s.app) ∨ (stepB g acc i s = acc ∧ (s.group = g → 0 < s.app → ∃ q0, acc = some q0 ∧ s.app ≤ q0.2.app)) := by
      rw [stepB]
      by_cases hc : (decide (s.group = g) && decide (0 < s.app) && newer acc s) = true
      · rw [if_pos hc]
        simp only [Bool.and_eq_true, decide_eq_true_eq] at hc
        refine .inl ⟨rfl, hc.1.1, hc.1.2, fun q0 h0 => ?_⟩
        have := hc.2
        rw [h0, newer] at this
        simpa using this
      · rw [if_neg hc]
        refine .inr ⟨rfl, fun h1 h2 => ?_⟩
        cases acc with
        | none => exact absurd (by simp [h1, h2, newer]) hc
        | some q0 =>
          refine ⟨q0, rfl, ?_⟩
          simp only [h1, h2, newer, decide_true, Bool.true_and, decide_eq_true_eq, Int.not_lt] at hc
          exact hc
    refine ⟨fun q h => ?_, fun h => ?_⟩
    · obtain ⟨h1, h2, h3⟩ := ih1 q h
      rcases hst with ⟨e, hg, ha, hlt⟩ | ⟨e, hle⟩
      · rw [e] at h1 h2
        have hs := h2 _ rfl
        refine ⟨.inr ?_, fun q0 h0 => ?_, fun s' hs' h4 h5 => ?_⟩
        · rcases h1 with ⟨q0, h0, h6⟩ | ⟨h6, h7, h8⟩
          · cases h0
            rw [h6]
            exact ⟨List.mem_cons_self, hg, ha⟩
          · exact ⟨List.mem_cons_of_mem _ h6, h7, h8⟩
        · have := hlt q0 h0
          simp only at hs
          omega
        · rcases List.mem_cons.1 hs' with rfl | hs'
          · exact hs
          · exact h3 s' hs' h4 h5
      · rw [e] at h1 h2
        refine ⟨?_, h2, fun s' hs' h4 h5 => ?_⟩
        · rcases h1 with h1 | ⟨h6, h7, h8⟩
          · exact .inl h1
          · exact .inr ⟨List.mem_cons_of_mem _ h6, h7, h8⟩
        · rcases List.mem_cons.1 hs' with rfl | hs'
          · obtain ⟨q0, h0, h6⟩ := hle h4 h5
            have := h2 q0 h0
            omega
          · exact h3 s' hs' h4 h5
    · obtain ⟨h1, h2⟩ := ih2 h
      rcases hst with ⟨e, _⟩ | ⟨e, hle⟩
      · rw [e] at h1; cases h1
      · rw [e] at h1
        refine ⟨h1, fun s' hs' h4 h5 => ?_⟩
        rcases List.mem_cons.1 hs' with rfl | hs'
        · obtain ⟨q0, h0, _⟩ := hle h4 h5
          rw [h1] at h0; cases h0
        · exact h2 s' hs' h4 h5
theorem best_some {g : Int} {l : List SeenA} {q : Nat × SeenA} (h : bestL g l = some q) : q.2 ∈ l ∧ q.2.group = g ∧ 0 < q.2.app ∧ ∀ s ∈ l, s.group = g → 0 < s.app → s.app ≤ q.2.app := by
  obtain ⟨h1, _, h3⟩ := (bestF_spec g l none 0).1 q h
  rcases h1 with ⟨q0, h0, _⟩ | ⟨h4, h5, h6⟩
  · cases h0
  · exact ⟨h4, h5, h6, h3⟩
theorem best_none {g : Int} {l : List SeenA} (h : bestL g l = none) : ∀ s ∈ l, s.group = g → ¬ 0 < s.app := ((bestF_spec g l none 0).2 h).2
/-- two of a group that are as new have one range -/
def Alike (a b : SeenA) : Prop := a.group = b.group → a.group ≠ 0 → a.app = b.app → 0 < a.app → a.lo = b.lo ∧ a.hi = b.hi
theorem clean_alike {a b : SeenA} (h : Clean a b) : Alike a b := fun hg h0 ha hp => by
  obtain ⟨_, _, _, h4⟩ := h hg
  rw [machL, if_neg h0] at h4
  have h1 : ¬ a.app = 0 := by omega
  simp only [ha, decide_true, Bool.and_true] at h4
  rw [← ha] at h4
  simp only [h1, decide_false, Bool.not_false, Bool.true_and, Bool.not_eq_false', tabS, Bool.and_eq_true, decide_eq_true_eq] at h4
  exact ⟨h4.1.1.1, h4.1.1.2⟩
theorem Alike.symm {a b : SeenA} (h : Alike a b) : Alike b a := fun hg h0 ha hp => by
  obtain ⟨h1, h2⟩ := h hg.symm (by rw [← hg]; exact h0) ha.symm (by omega)
  exact ⟨h1.symm, h2.symm⟩
theorem alike_all {l : List SeenA} (h : l.Pairwise Clean) {a b : SeenA} (ha : a ∈ l) (hb : b ∈ l) : Alike a b := by
  obtain ⟨i, hi⟩ := List.mem_iff_getElem?.1 ha
  obtain ⟨j, hj⟩ := List.mem_iff_getElem?.1 hb
  obtain ⟨hi2, rfl⟩ := List.getElem?_eq_some_iff.1 hi
  obtain ⟨hj2, rfl⟩ := List.getElem?_eq_some_iff.1 hj
  rw [List.pairwise_iff_getElem] at h
  rcases Nat.lt_trichotomy i j with h1 | h1 | h1
  · exact clean_alike (h i j hi2 hj2 h1)
  · subst h1
    exact fun _ _ _ _ => ⟨rfl, rfl⟩
  · exact (clean_alike (h j i hj2 hi2 h1)).symm
def bestR (g : Int) (l : List SeenA) : Option (ByteArray × ByteArray) := (bestL g l).map fun q => (q.2.lo, q.2.hi)
theorem best_perm {l m : List SeenA} (hp : List.Perm l m) (h : l.Pairwise Clean) {g : Int} (hg : g ≠ 0) : bestR g l = bestR g m := by
  rw [bestR, bestR]
  cases h1 : bestL g l with
  | none =>
    cases h2 : bestL g m with
    | none => rfl
    | some q =>
      obtain ⟨h3, h4, h5, _⟩ := best_some h2
      exact absurd h5 (best_none h1 q.2 (hp.mem_iff.2 h3) h4)
  | some p =>
    obtain ⟨k3, k4, k5, k6⟩ := best_some h1
    cases h2 : bestL g m with
    | none => exact absurd k5 (best_none h2 p.2 (hp.mem_iff.1 k3) k4)
    | some q =>
      obtain ⟨h3, h4, h5, h6⟩ := best_some h2
      have e1 := k6 q.2 (hp.mem_iff.2 h3) h4 h5
      have e2 := h6 p.2 (hp.mem_iff.1 k3) k4 k5
      obtain ⟨e3, e4⟩ := alike_all h k3 (hp.mem_iff.2 h3) (by rw [k4, h4]) (by rw [k4]; exact hg) (by omega) k5
      simp only [Option.map_some, e3, e4]
/-! ### places, their ranges alone -/
theorem putS_rg (x x' : Says) (l l' : List Says) (hx : rgS x = rgS x') (hl : l.map rgS = l'.map rgS) : (putS x l).map rgS = (putS x' l').map rgS := by
  have h0' := congrArg Prod.fst hx
  have h0 : x.2.1 = x'.2.1 := h0'
  have key : ∀ (l l' : List Says), l.map rgS = l'.map rgS → (l.takeWhile (fun y => !decide (x.2.1.toList < y.2.1.toList))).map rgS = (l'.takeWhile (fun y => !decide (x'.2.1.toList < y.2.1.toList))).map rgS ∧ (l.dropWhile (fun y => !decide (x.2.1.toList < y.2.1.toList))).map rgS = (l'.dropWhile (fun y => !decide (x'.2.1.toList < y.2.1.toList))).map rgS := by
    intro l
    induction l with
    | nil => intro l' h; cases l' with
      | nil => exact ⟨rfl, rfl⟩
      | cons => cases h
    | cons a r ih => intro l' h; cases l' with
      | nil => cases h
      | cons b q =>
        simp only [List.map_cons, List.cons.injEq] at h
        obtain ⟨h1, h2⟩ := ih q h.2
        have h3' := congrArg Prod.fst h.1
        have h3 : a.2.1 = b.2.1 := h3'
        simp only [List.takeWhile_cons, List.dropWhile_cons]
        rw [h0, h3]
        by_cases hc : (!decide (x'.2.1.toList < b.2.1.toList)) = true
        · simp only [if_pos hc, List.map_cons]
          rw [h0] at h1 h2
          exact ⟨by rw [h.1, h1], h2⟩
        · simp only [if_neg hc, List.map_cons]
          exact ⟨trivial, by rw [h.1, h.2]⟩
  obtain ⟨h1, h2⟩ := key l l' hl
  rw [putS, putS, List.map_append, List.map_append, List.map_cons, List.map_cons, h1, h2, hx]
theorem rtabs_rg {l m : List SeenA} (h : ∀ g : Int, g ≠ 0 → bestR g l = bestR g m) : ∀ k, (rtabsL l k).map rgS = (rtabsL m k).map rgS
  | 0 => rfl
  | k + 1 => by
    have ih := rtabs_rg h k
    have hb := h (3 + k) (by omega)
    rw [bestR, bestR] at hb
    rw [rtabsL, rtabsL]
    cases h1 : bestL (3 + k) l with
    | none =>
      cases h2 : bestL (3 + k) m with
      | none => exact ih
      | some q => rw [h1, h2] at hb; cases hb
    | some p =>
      cases h2 : bestL (3 + k) m with
      | none => rw [h1, h2] at hb; cases hb
      | some q =>
        rw [h1, h2] at hb
        simp only [Option.map_some, Option.some.injEq] at hb
        exact putS_rg _ _ _ _ hb ih
theorem tabs_perm {l m : List SeenA} (hp : List.Perm l m) (h : l.Pairwise Clean) : (tabsL l).map rgS = (tabsL m).map rgS := by
  have := rtabs_rg (fun g hg => best_perm hp h hg) 9
  rw [rtabs_eq, rtabs_eq] at this
  exact this
theorem check_perm_le {l m : List SeenA} (hp : List.Perm l m) (h : checkL l = []) : checkL m = [] := by
  obtain ⟨h1, h2, h3⟩ := check_nil_iff.1 h
  have hm1 : ∀ s ∈ m, mayS s = true := fun s hs => h1 s (hp.mem_iff.2 hs)
  refine check_nil_iff.2 ⟨hm1, ?_, by rw [← tabs_perm hp h2]; exact h3⟩
  have h4 : l.Pairwise CleanM := h2.imp fun h _ _ => h
  have h5 := (hp.pairwise_iff (R := CleanM) CleanM.symm).1 h4
  rw [List.pairwise_iff_getElem] at h5 ⊢
  intro i j hi hj hij
  exact h5 i j hi hj hij (hm1 _ (List.getElem_mem hi)) (hm1 _ (List.getElem_mem hj))
theorem check_perm {l m : List SeenA} (hp : List.Perm l m) : checkL l = [] ↔ checkL m = [] := ⟨check_perm_le hp, check_perm_le hp.symm⟩

/-! ### a list begun elsewhere -/
def rotN (l : List SeenA) (f : Nat) : Nat → List SeenA
  | 0 => []
  | k + 1 => rotN l f k ++ (match l[(k + f) % l.length]? with | none => [] | some s => [s])
theorem rotN_eq (l : List SeenA) (f : Nat) : ∀ k, k ≤ l.length → rotN l f k = (l.drop (f % l.length) ++ l.take (f % l.length)).take k
  | 0, _ => by simp [rotN]
  | k + 1, hk => by
    have hr : f % l.length < l.length := Nat.mod_lt _ (by omega)
    have e : (k + f) % l.length = (k + f % l.length) % l.length := by rw [Nat.add_mod, Nat.add_mod k (f % l.length), Nat.mod_mod]
    rw [rotN, rotN_eq l f k (by omega), List.take_add_one, e]
    generalize f % l.length = r at hr
    congr 1
    have key : (l.drop r ++ l.take r)[k]? = l[(k + r) % l.length]? := by
      by_cases h : k < l.length - r
      · have e2 : (k + r) % l.length = r + k := by rw [Nat.mod_eq_of_lt (show k + r < l.length by omega), Nat.add_comm]
        rw [List.getElem?_append_left (by rw [List.length_drop]; exact h), List.getElem?_drop, e2]
      · have e2 : (k + r) % l.length = k - (l.length - r) := by
          have h2 : k + r = (k + r - l.length) + l.length := by omega
          rw [h2, Nat.add_mod_right, Nat.mod_eq_of_lt (show k + r - l.length < l.length by omega)]
          omega
        rw [List.getElem?_append_right (by rw [List.length_drop]; omega), List.length_drop, List.getElem?_take_of_lt (by omega), e2]
    rw [key]
    cases l[(k + r) % l.length]? <;> rfl
theorem rot_perm (l : List SeenA) (f : Nat) : List.Perm l (rotN l f l.length) := by
  rw [rotN_eq l f l.length (Nat.le_refl _)]
  have hl : (l.drop (f % l.length) ++ l.take (f % l.length)).length = l.length := by
    rw [List.length_append, List.length_drop, List.length_take]
    omega
  rw [List.take_of_length_le (by omega)]
  have := List.perm_append_comm (l₁ := l.take (f % l.length)) (l₂ := l.drop (f % l.length))
  rwa [List.take_append_drop] at this
/-- turned about, or not -/
def turnL (l : List SeenA) (back : Bool) : List SeenA := if back then l.reverse else l
theorem turn_len (l : List SeenA) (back : Bool) : (turnL l back).length = l.length := by cases back <;> simp [turnL]
theorem turn_perm (l : List SeenA) (back : Bool) : List.Perm l (turnL l back) := by
  cases back
  · exact List.Perm.refl _
  · exact (List.reverse_perm l).symm
theorem order_check (l : List SeenA) (f : Nat) (back : Bool) : checkL l = [] ↔ checkL (rotN (turnL l back) f l.length) = [] := by
  have h := (turn_perm l back).trans (rot_perm (turnL l back) f)
  rw [turn_len] at h
  exact check_perm h
end Go.Proofs.Yteibnignjghedaa
