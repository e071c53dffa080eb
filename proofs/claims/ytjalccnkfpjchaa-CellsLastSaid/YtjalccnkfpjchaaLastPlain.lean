/-
  Plain facts on the newest of each place.
-/
import Derived.Test.YtjalccnkfpjchaaCellsOrderW
namespace Go.Proofs.Ytjalccnkfpjchaa

theorem samePl_iff (a b : CellA) : samePl a b = true ↔ a.row.toList = b.row.toList ∧ a.col.toList = b.col.toList := by simp [samePl]
theorem samePl_self (a : CellA) : samePl a a = true := (samePl_iff a a).2 ⟨rfl, rfl⟩
theorem samePl_symm {a b : CellA} (h : samePl a b = true) : samePl b a = true := by
  rw [samePl_iff] at *; exact ⟨h.1.symm, h.2.symm⟩
theorem samePl_trans {a b c : CellA} (h : samePl a b = true) (k : samePl b c = true) : samePl a c = true := by
  rw [samePl_iff] at *; exact ⟨h.1.trans k.1, h.2.trans k.2⟩
theorem cmp_same {a b : CellA} (h : samePl a b = true) : (cmpC a b < 0 ↔ b.ver < a.ver) := by
  rw [samePl_iff] at h
  rw [cmp_neg]
  constructor
  · rintro (k | ⟨_, k | ⟨_, k⟩⟩)
    · rw [h.1] at k; exact absurd k (List.lt_irrefl _)
    · rw [h.2] at k; exact absurd k (List.lt_irrefl _)
    · exact k
  · intro k; exact .inr ⟨h.1, .inr ⟨h.2, k⟩⟩
theorem same_of_zero {a b : CellA} (h : cmpC a b = 0) : samePl a b = true ∧ a.ver = b.ver := by
  rw [cmp_zero] at h
  exact ⟨(samePl_iff a b).2 ⟨h.1, h.2.1⟩, h.2.2⟩
theorem zero_of_same {a b : CellA} (h : samePl a b = true) (hv : a.ver = b.ver) : cmpC a b = 0 := by
  rw [samePl_iff] at h
  exact (cmp_zero a b).2 ⟨h.1, h.2, hv⟩
/-- what stands between two of one place is of that place -/
theorem between {a b c : CellA} (h1 : cmpC a b < 0) (h2 : cmpC b c < 0) (h : samePl a c = true) : samePl a b = true := by
  rw [samePl_iff] at *
  rw [cmp_neg] at h1 h2
  rcases h1 with k | ⟨k1, k | ⟨k2, _⟩⟩
  · exfalso
    rcases h2 with q | ⟨q1, _⟩
    · exact List.lt_irrefl _ (h.1 ▸ List.lt_trans k q)
    · rw [q1, ← h.1] at k; exact List.lt_irrefl _ k
  · exfalso
    rcases h2 with q | ⟨q1, q | ⟨q2, _⟩⟩
    · rw [← k1, h.1] at q; exact List.lt_irrefl _ q
    · exact List.lt_irrefl _ (h.2 ▸ List.lt_trans k q)
    · rw [q2, ← h.2] at k; exact List.lt_irrefl _ k
  · exact ⟨k1, k2⟩

/-- the greatest version of its place -/
def Great (l : List CellA) (x : CellA) : Prop := ∀ y ∈ l, samePl y x = true → y.ver ≤ x.ver

theorem keepP_spec : ∀ (r : List CellA) (x : CellA), Strict (x :: r) →
    Strict (x :: keepF samePl x r) ∧ (∀ z, z ∈ x :: keepF samePl x r → z ∈ x :: r ∧ Great (x :: r) z) ∧ (∀ y, y ∈ x :: r → ∃ z ∈ x :: keepF samePl x r, samePl z y = true ∧ y.ver ≤ z.ver)
  | [], x, _ => by
    refine ⟨by simp [keepF, Strict], fun z hz => ?_, fun y hy => ⟨x, by simp, ?_⟩⟩
    · simp only [keepF, List.mem_singleton] at hz
      subst hz
      exact ⟨by simp, fun y hy _ => by rw [List.mem_singleton.1 hy]; omega⟩
    · rw [List.mem_singleton.1 hy]; exact ⟨samePl_self x, by omega⟩
  | y :: r, x, h => by
    obtain ⟨h1, h2⟩ := List.pairwise_cons.1 h
    obtain ⟨i1, i2, i3⟩ := keepP_spec r y h2
    obtain ⟨j1, j2⟩ := List.pairwise_cons.1 i1
    have hxy := h1 y (by simp)
    rw [keepF]
    by_cases c : samePl y x = true
    · rw [if_pos c]
      have hv : y.ver < x.ver := (cmp_same (samePl_symm c)).1 hxy
      refine ⟨List.pairwise_cons.2 ⟨fun b hb => cmp_lt_trans hxy (j1 b hb), j2⟩, fun z hz => ?_, fun u hu => ?_⟩
      · rcases List.mem_cons.1 hz with rfl | hz
        · refine ⟨by simp, fun u hu hp => ?_⟩
          rcases List.mem_cons.1 hu with rfl | hu
          · omega
          · have := (cmp_same (samePl_symm hp)).1 (h1 u hu); omega
        · have hzy := j1 z hz
          obtain ⟨g1, g2⟩ := i2 z (List.mem_cons_of_mem _ hz)
          refine ⟨List.mem_cons_of_mem _ g1, fun u hu hp => ?_⟩
          rcases List.mem_cons.1 hu with rfl | hu
          · exfalso
            have hp2 := samePl_trans c hp
            have h5 := g2 y (by simp) hp2
            have h6 := (cmp_same hp2).1 hzy
            omega
          · exact g2 u hu hp
      · rcases List.mem_cons.1 hu with rfl | hu
        · exact ⟨u, by simp, samePl_self u, by omega⟩
        · obtain ⟨z, hz, hz1, hz2⟩ := i3 u hu
          rcases List.mem_cons.1 hz with rfl | hz
          · exact ⟨x, by simp, samePl_trans (samePl_symm c) hz1, by omega⟩
          · exact ⟨z, List.mem_cons_of_mem _ hz, hz1, hz2⟩
    · rw [if_neg c]
      refine ⟨List.pairwise_cons.2 ⟨fun b hb => ?_, i1⟩, fun z hz => ?_, fun u hu => ?_⟩
      · rcases List.mem_cons.1 hb with rfl | hb
        · exact hxy
        · exact cmp_lt_trans hxy (j1 b hb)
      · rcases List.mem_cons.1 hz with rfl | hz
        · refine ⟨by simp, fun u hu hp => ?_⟩
          rcases List.mem_cons.1 hu with rfl | hu
          · omega
          · have := (cmp_same (samePl_symm hp)).1 (h1 u hu); omega
        · obtain ⟨g1, g2⟩ := i2 z hz
          refine ⟨List.mem_cons_of_mem _ g1, fun u hu hp => ?_⟩
          rcases List.mem_cons.1 hu with rfl | hu
          · exfalso
            rcases List.mem_cons.1 g1 with rfl | g1
            · exact c (samePl_symm hp)
            · exact c (samePl_symm (between hxy ((List.pairwise_cons.1 h2).1 z g1) hp))
          · exact g2 u hu hp
      · rcases List.mem_cons.1 hu with rfl | hu
        · exact ⟨u, by simp, samePl_self u, by omega⟩
        · obtain ⟨z, hz, hz1, hz2⟩ := i3 u hu
          exact ⟨z, List.mem_cons_of_mem _ hz, hz1, hz2⟩

theorem newest_spec (l : List CellA) : Strict (newestL l) ∧ (∀ z ∈ newestL l, z ∈ sortL l ∧ Great (sortL l) z) ∧ (∀ y ∈ sortL l, ∃ z ∈ newestL l, samePl z y = true ∧ y.ver ≤ z.ver) := by
  have hs := (sort_first l).strict
  unfold newestL
  cases he : sortL l with
  | nil => simp [compactL, Strict]
  | cons x r =>
    rw [he] at hs
    exact keepP_spec r x hs
theorem sort_mem_iff (l : List CellA) (x : CellA) : x ∈ sortL l ↔ (l.filter (eqvC x)).head? = some x := by
  have h := sort_first l
  have hf := h.flt x
  constructor
  · intro hx
    have hm : x ∈ (sortL l).filter (eqvC x) := List.mem_filter.2 ⟨hx, eqvC_self x⟩
    rw [hf] at hm
    cases hl : l.filter (eqvC x) with
    | nil => rw [hl] at hm; cases hm
    | cons y r =>
      rw [hl] at hm
      simp at hm
      rw [hm]; rfl
  · intro hx
    cases hl : l.filter (eqvC x) with
    | nil => rw [hl] at hx; cases hx
    | cons y r =>
      rw [hl] at hx hf
      simp at hx
      subst hx
      have : y ∈ (sortL l).filter (eqvC y) := by rw [hf]; simp
      exact (List.mem_filter.1 this).1
theorem great_iff (l : List CellA) (x : CellA) : Great (sortL l) x ↔ Great l x := by
  constructor
  · intro h y hy hp
    obtain ⟨z, hz, hc⟩ := sortL_has l hy
    obtain ⟨h1, h2⟩ := same_of_zero hc
    have := h z hz (samePl_trans (samePl_symm h1) hp)
    omega
  · intro h y hy hp
    exact h y (sortL_sub l y hy) hp
/-- the top of its place: the first of the greatest version -/
def Top (l : List CellA) (x : CellA) : Prop := (l.filter (eqvC x)).head? = some x ∧ Great l x
theorem newest_mem (l : List CellA) (x : CellA) : x ∈ newestL l ↔ Top l x := by
  obtain ⟨h1, h2, h3⟩ := newest_spec l
  constructor
  · intro hx
    obtain ⟨g1, g2⟩ := h2 x hx
    exact ⟨(sort_mem_iff l x).1 g1, (great_iff l x).1 g2⟩
  · intro ⟨g1, g2⟩
    have g3 := (sort_mem_iff l x).2 g1
    obtain ⟨z, hz, hz1, hz2⟩ := h3 x g3
    obtain ⟨k1, k2⟩ := h2 z hz
    have := (great_iff l x).2 g2 z k1 hz1
    have hc := zero_of_same hz1 (by omega)
    have hz3 := (sort_mem_iff l z).1 k1
    have he : l.filter (eqvC z) = l.filter (eqvC x) := by
      congr 1
      funext y
      unfold eqvC
      congr 1
      apply propext
      exact ⟨fun k => cmp_eq_trans (cmp_zero_flip.1 hc) k, fun k => cmp_eq_trans hc k⟩
    rw [he, g1] at hz3
    rw [Option.some.inj hz3]
    exact hz
theorem newest_has (l : List CellA) {y : CellA} (hy : y ∈ l) : ∃ z ∈ newestL l, samePl z y = true ∧ y.ver ≤ z.ver := by
  obtain ⟨h1, h2, h3⟩ := newest_spec l
  obtain ⟨u, hu, hc⟩ := sortL_has l hy
  obtain ⟨k1, k2⟩ := same_of_zero hc
  obtain ⟨z, hz, hz1, hz2⟩ := h3 u hu
  exact ⟨z, hz, samePl_trans hz1 (samePl_symm k1), by omega⟩
theorem strict_ext : ∀ {z y : List CellA}, Strict z → Strict y → (∀ x, x ∈ z ↔ x ∈ y) → z = y
  | [], [], _, _, _ => rfl
  | [], b :: y, _, _, h => by have := (h b).2 (by simp); cases this
  | a :: z, [], _, _, h => by have := (h a).1 (by simp); cases this
  | a :: z, b :: y, hz, hy, h => by
    obtain ⟨z1, z2⟩ := List.pairwise_cons.1 hz
    obtain ⟨y1, y2⟩ := List.pairwise_cons.1 hy
    have hab : a = b := by
      rcases List.mem_cons.1 ((h a).1 (by simp)) with e | e
      · exact e
      · rcases List.mem_cons.1 ((h b).2 (by simp)) with f | f
        · exact f.symm
        · have k1 := y1 a e
          have k2 := z1 b f
          have := cmpC_neg a b; omega
    subst hab
    refine congrArg _ (strict_ext z2 y2 fun x => ?_)
    constructor
    · intro hx
      rcases List.mem_cons.1 ((h x).1 (List.mem_cons_of_mem _ hx)) with e | e
      · subst e; have := z1 x hx; rw [cmp_self] at this; omega
      · exact e
    · intro hx
      rcases List.mem_cons.1 ((h x).2 (List.mem_cons_of_mem _ hx)) with e | e
      · subst e; have := y1 x hx; rw [cmp_self] at this; omega
      · exact e
theorem strict_one {l : List CellA} (h : Strict l) {x : CellA} (hx : x ∈ l) : l.filter (eqvC x) = [x] := by
  induction l with
  | nil => cases hx
  | cons y r ih =>
    obtain ⟨h1, h2⟩ := List.pairwise_cons.1 h
    rcases List.mem_cons.1 hx with rfl | hx
    · rw [List.filter_cons, if_pos (eqvC_self x), flt_none h1 (eqvC_self x)]
    · have : eqvC x y = false := by
        have := h1 x hx
        have := cmpC_neg x y
        simp [eqvC]; omega
      rw [List.filter_cons, this, if_neg (by decide)]
      exact ih h2 hx
theorem head_append {a b : List CellA} {x : CellA} : (a ++ b).head? = some x ↔ a.head? = some x ∨ (a = [] ∧ b.head? = some x) := by
  cases a <;> simp
theorem top_join (a b : List CellA) (x : CellA) : Top (a ++ b) x ↔ Top (newestL a ++ newestL b) x := by
  unfold Top
  rw [List.filter_append, List.filter_append, head_append, head_append]
  constructor
  · rintro ⟨h, hg⟩
    have ga : Great a x := fun y hy hp => hg y (List.mem_append_left _ hy) hp
    have gb : Great b x := fun y hy hp => hg y (List.mem_append_right _ hy) hp
    refine ⟨?_, fun y hy hp => ?_⟩
    · rcases h with h | ⟨h0, h⟩
      · have hx := (newest_mem a x).2 ⟨h, ga⟩
        left; rw [strict_one (newest_spec a).1 hx]; rfl
      · have hx := (newest_mem b x).2 ⟨h, gb⟩
        right
        refine ⟨?_, by rw [strict_one (newest_spec b).1 hx]; rfl⟩
        rw [List.filter_eq_nil_iff] at h0 ⊢
        exact fun y hy => h0 y (newestL_sub a y hy)
    · rcases List.mem_append.1 hy with hy | hy
      · exact ga y (newestL_sub a y hy) hp
      · exact gb y (newestL_sub b y hy) hp
  · rintro ⟨h, hg⟩
    have ga : Great a x := fun y hy hp => by
      obtain ⟨z, hz, hz1, hz2⟩ := newest_has a hy
      have := hg z (List.mem_append_left _ hz) (samePl_trans hz1 hp); omega
    have gb : Great b x := fun y hy hp => by
      obtain ⟨z, hz, hz1, hz2⟩ := newest_has b hy
      have := hg z (List.mem_append_right _ hz) (samePl_trans hz1 hp); omega
    refine ⟨?_, fun y hy hp => (List.mem_append.1 hy).elim (fun h => ga y h hp) (fun h => gb y h hp)⟩
    rcases h with h | ⟨h0, h⟩
    · left
      have hx : x ∈ newestL a := (List.mem_filter.1 (List.mem_of_mem_head? (by rw [h]; rfl))).1
      exact ((newest_mem a x).1 hx).1
    · right
      have hx : x ∈ newestL b := (List.mem_filter.1 (List.mem_of_mem_head? (by rw [h]; rfl))).1
      refine ⟨?_, ((newest_mem b x).1 hx).1⟩
      rw [List.filter_eq_nil_iff] at h0 ⊢
      intro u hu he
      obtain ⟨k1, k2⟩ := same_of_zero (show cmpC x u = 0 by simpa [eqvC] using he)
      obtain ⟨z, hz, hz1, hz2⟩ := newest_has a hu
      have h5 := hg z (List.mem_append_left _ hz) (samePl_trans hz1 (samePl_symm k1))
      exact h0 z hz (by simp only [eqvC, decide_eq_true_eq]; exact cmp_zero_flip.1 (zero_of_same (samePl_trans hz1 (samePl_symm k1)) (by omega)))
theorem newest_join (a b : List CellA) : newestL (newestL a ++ newestL b) = newestL (a ++ b) :=
  strict_ext (newest_spec _).1 (newest_spec _).1 fun x => by rw [newest_mem, newest_mem, ← top_join]

/-- how many of one place -/
def placeN (c : CellA) (l : List CellA) : Nat := (l.filter fun z => samePl z c).length
theorem place_one (l : List CellA) {c : CellA} (hc : c ∈ l) : placeN c (newestL l) = 1 := by
  obtain ⟨z, hz, hz1, hz2⟩ := newest_has l hc
  have key : ∀ (s : List CellA), Strict s → (∀ u ∈ s, u ∈ newestL l) → z ∈ s → (s.filter fun u => samePl u c) = [z] := by
    intro s
    induction s with
    | nil => intro _ _ h; cases h
    | cons y r ih =>
      intro h hs hm
      obtain ⟨h1, h2⟩ := List.pairwise_cons.1 h
      have clash : ∀ u ∈ newestL l, samePl u c = true → cmpC u z = 0 := fun u hu hp => by
        have g1 := ((newest_mem l u).1 hu).2 z (newestL_sub l z hz) (samePl_trans hz1 (samePl_symm hp))
        have g2 := ((newest_mem l z).1 hz).2 u (newestL_sub l u hu) (samePl_trans hp (samePl_symm hz1))
        exact zero_of_same (samePl_trans hp (samePl_symm hz1)) (by omega)
      rcases List.mem_cons.1 hm with rfl | hm
      · rw [List.filter_cons, if_pos hz1]
        congr 1
        rw [List.filter_eq_nil_iff]
        intro u hu hp
        have := clash u (hs u (by simp [hu])) hp
        have h3 := h1 u hu
        have := cmpC_neg u z; omega
      · have hy : samePl y c = false := by
          cases hq : samePl y c with
          | false => rfl
          | true =>
            have := clash y (hs y (by simp)) hq
            have h3 := h1 z hm
            omega
        rw [List.filter_cons, hy, if_neg (by decide)]
        exact ih h2 (fun u hu => hs u (by simp [hu])) hm
  rw [placeN, key _ (newest_spec l).1 (fun _ h => h) hz]
  rfl
theorem place_great (l : List CellA) {c z : CellA} (hc : c ∈ l) (hz : z ∈ newestL l) (h : samePl z c = true) : c.ver ≤ z.ver :=
  ((newest_mem l z).1 hz).2 c hc (samePl_symm h)

end Go.Proofs.Ytjalccnkfpjchaa
