/-
  Plain facts on stable order: sorted lists that keep each class of equals, merged and turned about; no program in sight.
-/
import Derived.Test.YtihglmicgccgiaaCompactW
namespace Go.Proofs.Ytihglmicgccgiaa

theorem cmp_neg_iff (a b : CellA) : cmpC a b < 0 ↔ cmpC a b = -1 := by have := cmpC_neg a b; omega
theorem cmp_flip (a b : CellA) : cmpC a b < 0 ↔ 0 < cmpC b a := by have := cmpC_neg a b; omega
theorem cmp_zero_flip {a b : CellA} : cmpC a b = 0 ↔ cmpC b a = 0 := by have := cmpC_neg a b; omega
theorem cmp_self (a : CellA) : cmpC a a = 0 := by have := cmpC_neg a a; omega
theorem cmpL_neg (a b : List UInt8) : cmpL a b < 0 ↔ a < b := by grind [cmpL]
theorem cmpL_zero (a b : List UInt8) : cmpL a b = 0 ↔ a = b := by grind [cmpL]
theorem cmp_neg (a b : CellA) : cmpC a b < 0 ↔ a.row.toList < b.row.toList ∨ (a.row.toList = b.row.toList ∧ (a.col.toList < b.col.toList ∨ (a.col.toList = b.col.toList ∧ b.ver < a.ver))) := by
  unfold cmpC orI
  have h1 := cmpL_neg a.row.toList b.row.toList
  have h2 := cmpL_zero a.row.toList b.row.toList
  have h3 := cmpL_neg a.col.toList b.col.toList
  have h4 := cmpL_zero a.col.toList b.col.toList
  have h5 : cmpN b.ver a.ver < 0 ↔ b.ver < a.ver := by unfold cmpN; split <;> (try split) <;> omega
  have h6 : a.row.toList = b.row.toList → ¬ a.row.toList < b.row.toList := fun h => by rw [h]; exact List.lt_irrefl _
  have h7 : a.col.toList = b.col.toList → ¬ a.col.toList < b.col.toList := fun h => by rw [h]; exact List.lt_irrefl _
  by_cases g1 : cmpL a.row.toList b.row.toList = 0
  · rw [if_neg (by simpa using g1)]
    have k1 := h2.1 g1
    by_cases g2 : cmpL a.col.toList b.col.toList = 0
    · rw [if_neg (by simpa using g2), h5]
      have k2 := h4.1 g2
      constructor
      · intro h; exact .inr ⟨k1, .inr ⟨k2, h⟩⟩
      · rintro (h | ⟨_, h | ⟨_, h⟩⟩)
        · exact absurd h (h6 k1)
        · exact absurd h (h7 k2)
        · exact h
    · rw [if_pos g2, h3]
      constructor
      · intro h; exact .inr ⟨k1, .inl h⟩
      · rintro (h | ⟨_, h | ⟨h, _⟩⟩)
        · exact absurd h (h6 k1)
        · exact h
        · exact absurd (h4.2 h) g2
  · rw [if_pos g1, h1]
    constructor
    · exact .inl
    · rintro (h | ⟨h, _⟩)
      · exact h
      · exact absurd (h2.2 h) g1
theorem cmp_zero (a b : CellA) : cmpC a b = 0 ↔ a.row.toList = b.row.toList ∧ a.col.toList = b.col.toList ∧ a.ver = b.ver := by
  unfold cmpC orI
  have h2 := cmpL_zero a.row.toList b.row.toList
  have h4 := cmpL_zero a.col.toList b.col.toList
  have h5 : cmpN b.ver a.ver = 0 ↔ a.ver = b.ver := by unfold cmpN; split <;> (try split) <;> omega
  by_cases g1 : cmpL a.row.toList b.row.toList = 0
  · rw [if_neg (by simpa using g1)]
    by_cases g2 : cmpL a.col.toList b.col.toList = 0
    · rw [if_neg (by simpa using g2), h5]
      exact ⟨fun h => ⟨h2.1 g1, h4.1 g2, h⟩, fun h => h.2.2⟩
    · rw [if_pos g2]
      exact ⟨fun h => absurd h g2, fun h => h4.2 h.2.1⟩
  · rw [if_pos g1]
    exact ⟨fun h => absurd h g1, fun h => h2.2 h.1⟩
theorem cmp_lt_trans {a b c : CellA} (h : cmpC a b < 0) (k : cmpC b c < 0) : cmpC a c < 0 := by
  rw [cmp_neg] at *
  rcases h with h | ⟨h1, h | ⟨h2, h3⟩⟩ <;> rcases k with k | ⟨k1, k | ⟨k2, k3⟩⟩
  · exact .inl (List.lt_trans h k)
  · exact .inl (k1 ▸ h)
  · exact .inl (k1 ▸ h)
  · exact .inl (h1 ▸ k)
  · exact .inr ⟨h1.trans k1, .inl (List.lt_trans h k)⟩
  · exact .inr ⟨h1.trans k1, .inl (k2 ▸ h)⟩
  · exact .inl (h1 ▸ k)
  · exact .inr ⟨h1.trans k1, .inl (h2 ▸ k)⟩
  · exact .inr ⟨h1.trans k1, .inr ⟨h2.trans k2, by omega⟩⟩
theorem cmp_lt_eq {a b c : CellA} (h : cmpC a b < 0) (k : cmpC b c = 0) : cmpC a c < 0 := by
  rw [cmp_zero] at k
  rw [cmp_neg] at *
  rwa [← k.1, ← k.2.1, ← k.2.2]
theorem cmp_eq_lt {a b c : CellA} (h : cmpC a b = 0) (k : cmpC b c < 0) : cmpC a c < 0 := by
  rw [cmp_zero] at h
  rw [cmp_neg] at *
  rwa [h.1, h.2.1, h.2.2]
theorem cmp_eq_trans {a b c : CellA} (h : cmpC a b = 0) (k : cmpC b c = 0) : cmpC a c = 0 := by
  rw [cmp_zero] at *
  exact ⟨h.1.trans k.1, h.2.1.trans k.2.1, h.2.2.trans k.2.2⟩

/-- a may stand ahead of b -/
def leC (a b : CellA) : Prop := ¬ cmpC b a < 0
theorem leC_refl (a : CellA) : leC a a := by unfold leC; rw [cmp_self]; decide
theorem leC_iff (a b : CellA) : leC a b ↔ cmpC a b < 0 ∨ cmpC a b = 0 := by have := cmpC_neg a b; unfold leC; omega
theorem leC_trans {a b c : CellA} (h : leC a b) (k : leC b c) : leC a c := by
  rw [leC_iff] at *
  rcases h with h | h <;> rcases k with k | k
  · exact .inl (cmp_lt_trans h k)
  · exact .inl (cmp_lt_eq h k)
  · exact .inl (cmp_eq_lt h k)
  · exact .inr (cmp_eq_trans h k)
theorem lt_le_trans {a b c : CellA} (h : cmpC a b < 0) (k : leC b c) : cmpC a c < 0 := by
  rw [leC_iff] at k
  rcases k with k | k
  · exact cmp_lt_trans h k
  · exact cmp_lt_eq h k
theorem le_lt_trans {a b c : CellA} (h : leC a b) (k : cmpC b c < 0) : cmpC a c < 0 := by
  rw [leC_iff] at h
  rcases h with h | h
  · exact cmp_lt_trans h k
  · exact cmp_eq_lt h k
theorem lt_leC {a b : CellA} (h : cmpC a b < 0) : leC a b := (leC_iff a b).2 (.inl h)

def Srt (l : List CellA) : Prop := l.Pairwise leC
def eqvC (x y : CellA) : Bool := decide (cmpC x y = 0)
theorem eqvC_self (x : CellA) : eqvC x x = true := by simp [eqvC, cmp_self]

structure IsSort (z l : List CellA) : Prop where
  srt : Srt z
  flt : ∀ x, z.filter (eqvC x) = l.filter (eqvC x)
  len : z.length = l.length
theorem flt_mem {z l : List CellA} (h : ∀ x, z.filter (eqvC x) = l.filter (eqvC x)) {x : CellA} (hx : x ∈ z) : x ∈ l := by
  have : x ∈ z.filter (eqvC x) := List.mem_filter.2 ⟨hx, eqvC_self x⟩
  rw [h x] at this
  exact (List.mem_filter.1 this).1
theorem IsSort.mem {z l : List CellA} (h : IsSort z l) {x : CellA} (hx : x ∈ z) : x ∈ l := flt_mem h.flt hx
theorem IsSort.of_srt {l : List CellA} (h : Srt l) : IsSort l l := ⟨h, fun _ => rfl, rfl⟩
theorem IsSort.trans {z l k : List CellA} (h : IsSort z l) (hf : ∀ x, l.filter (eqvC x) = k.filter (eqvC x)) (hl : l.length = k.length) : IsSort z k := ⟨h.srt, fun x => (h.flt x).trans (hf x), h.len.trans hl⟩

/-- one list alone is sorted and keeps its classes -/
theorem sort_unique : ∀ {z y : List CellA}, Srt z → Srt y → (∀ x, z.filter (eqvC x) = y.filter (eqvC x)) → z = y
  | [], [], _, _, _ => rfl
  | [], b :: y, _, _, h => by
    have := h b
    simp [List.filter_cons, eqvC_self] at this
  | a :: z, [], _, _, h => by
    have := h a
    simp [List.filter_cons, eqvC_self] at this
  | a :: z, b :: y, hz, hy, h => by
    have hab : eqvC a b = true := by
      rcases cmpC_neg a b with ⟨k, _⟩ | ⟨k, _⟩ | ⟨_, k⟩
      · have ha : a ∈ b :: y := flt_mem h (List.mem_cons_self ..)
        rcases List.mem_cons.1 ha with e | e
        · rw [e]; exact eqvC_self b
        · have := (List.pairwise_cons.1 hy).1 a e
          unfold leC at this; omega
      · simpa [eqvC] using k
      · have hb : b ∈ a :: z := flt_mem (fun x => (h x).symm) (List.mem_cons_self ..)
        rcases List.mem_cons.1 hb with e | e
        · rw [e]; exact eqvC_self a
        · have := (List.pairwise_cons.1 hz).1 b e
          unfold leC at this; omega
    have h1 := h a
    rw [List.filter_cons, List.filter_cons, if_pos (eqvC_self a), if_pos hab] at h1
    obtain ⟨e1, _⟩ := List.cons.inj h1
    subst e1
    refine congrArg _ (sort_unique (List.pairwise_cons.1 hz).2 (List.pairwise_cons.1 hy).2 fun x => ?_)
    have h2 := h x
    rw [List.filter_cons, List.filter_cons] at h2
    by_cases hx : eqvC x a = true
    · rw [if_pos hx, if_pos hx] at h2; exact (List.cons.inj h2).2
    · rw [if_neg hx, if_neg hx] at h2; exact h2

/-- two classes that do not meet may be turned about -/
theorem flt_swap {a b : List CellA} (h : ∀ y ∈ b, ∀ x ∈ a, cmpC y x < 0) (x : CellA) : (a ++ b).filter (eqvC x) = (b ++ a).filter (eqvC x) := by
  rw [List.filter_append, List.filter_append]
  by_cases ha : a.filter (eqvC x) = []
  · rw [ha]; simp
  · obtain ⟨p, hp⟩ := List.exists_mem_of_ne_nil _ ha
    obtain ⟨hp1, hp2⟩ := List.mem_filter.1 hp
    have hb : b.filter (eqvC x) = [] := by
      rw [List.filter_eq_nil_iff]
      intro y hy he
      have h1 := h y hy p hp1
      simp only [eqvC, decide_eq_true_eq] at hp2 he
      have := cmp_eq_trans (cmp_zero_flip.1 he) hp2
      omega
    rw [hb]; simp

theorem srt_append {a b : List CellA} : Srt (a ++ b) ↔ Srt a ∧ Srt b ∧ ∀ x ∈ a, ∀ y ∈ b, leC x y := List.pairwise_append

theorem merge_split {x1 x2 y1 y2 z1 z2 : List CellA} (hx : Srt (x1 ++ x2)) (hy : Srt (y1 ++ y2)) (h1 : ∀ y ∈ y1, ∀ x ∈ x2, cmpC y x < 0) (h2 : ∀ x ∈ x1, ∀ y ∈ y2, leC x y)
    (hz1 : IsSort z1 (x1 ++ y1)) (hz2 : IsSort z2 (x2 ++ y2)) : IsSort (z1 ++ z2) ((x1 ++ x2) ++ (y1 ++ y2)) := by
  obtain ⟨_, _, hx3⟩ := srt_append.1 hx
  obtain ⟨_, _, hy3⟩ := srt_append.1 hy
  refine ⟨srt_append.2 ⟨hz1.srt, hz2.srt, fun a ha b hb => ?_⟩, fun x => ?_, ?_⟩
  · rcases List.mem_append.1 (hz1.mem ha) with ha | ha <;> rcases List.mem_append.1 (hz2.mem hb) with hb | hb
    · exact hx3 a ha b hb
    · exact h2 a ha b hb
    · exact lt_leC (h1 a ha b hb)
    · exact hy3 a ha b hb
  · have hs := flt_swap h1 x
    rw [List.filter_append, List.filter_append] at hs
    rw [List.filter_append, hz1.flt, hz2.flt]
    simp only [List.filter_append, List.append_assoc]
    rw [← List.append_assoc (List.filter (eqvC x) y1), ← hs, List.append_assoc]
  · simp only [List.length_append, hz1.len, hz2.len]; omega

theorem merge_one_left {x : CellA} {y1 y2 : List CellA} (hy : Srt (y1 ++ y2)) (h1 : ∀ y ∈ y1, cmpC y x < 0) (h2 : ∀ y ∈ y2, leC x y) : IsSort (y1 ++ x :: y2) ([x] ++ (y1 ++ y2)) := by
  obtain ⟨hy1, hy2, _⟩ := srt_append.1 hy
  have := merge_split (x1 := []) (x2 := [x]) (z1 := y1) (z2 := x :: y2) (by simp [Srt]) hy (fun y hy' z hz => by rw [List.mem_singleton.1 hz]; exact h1 y hy') (by simp)
    (by simpa using IsSort.of_srt hy1) (by simpa using IsSort.of_srt (show Srt (x :: y2) from List.pairwise_cons.2 ⟨h2, hy2⟩))
  simpa using this
theorem merge_one_right {y : CellA} {x1 x2 : List CellA} (hx : Srt (x1 ++ x2)) (h1 : ∀ x ∈ x2, cmpC y x < 0) (h2 : ∀ x ∈ x1, leC x y) : IsSort (x1 ++ y :: x2) ((x1 ++ x2) ++ [y]) := by
  obtain ⟨hx1, hx2, _⟩ := srt_append.1 hx
  have := merge_split (y1 := [y]) (y2 := []) (z1 := x1 ++ [y]) (z2 := x2) hx (by simp [Srt]) (fun z hz x hx' => by rw [List.mem_singleton.1 hz]; exact h1 x hx') (by simp)
    (IsSort.of_srt (srt_append.2 ⟨hx1, by simp [Srt], fun a ha b hb => by rw [List.mem_singleton.1 hb]; exact h2 a ha⟩)) (by simpa using IsSort.of_srt hx2)
  simpa using this

/-! ### insertion -/
theorem insR_spec (x : CellA) : ∀ (r : List CellA), Srt r.reverse → Srt (insR x r).reverse ∧ ∀ y, (insR x r).reverse.filter (eqvC y) = (r.reverse ++ [x]).filter (eqvC y)
  | [], _ => by simp [insR, Srt]
  | y :: r, h => by
    rw [List.reverse_cons, srt_append] at h
    obtain ⟨h1, _, h3⟩ := h
    rw [insR]
    by_cases hc : cmpC x y < 0
    · rw [if_pos hc]
      obtain ⟨i1, i2⟩ := insR_spec x r h1
      rw [List.reverse_cons, List.reverse_cons]
      refine ⟨srt_append.2 ⟨i1, by simp [Srt], fun a ha b hb => ?_⟩, fun z => ?_⟩
      · rw [List.mem_singleton.1 hb]
        have := flt_mem i2 ha
        rcases List.mem_append.1 this with ha | ha
        · exact h3 a ha y (by simp)
        · rw [List.mem_singleton.1 ha]; exact lt_leC hc
      · have hs := flt_swap (a := [y]) (b := [x]) (by simpa using hc) z
        rw [List.filter_append, i2 z, List.filter_append, List.append_assoc, ← List.filter_append, ← hs, List.append_assoc, List.filter_append, List.filter_append, List.filter_append]
    · rw [if_neg hc]
      rw [List.reverse_cons, List.reverse_cons]
      refine ⟨srt_append.2 ⟨srt_append.2 ⟨h1, by simp [Srt], h3⟩, by simp [Srt], fun a ha b hb => ?_⟩, fun z => rfl⟩
      rw [List.mem_singleton.1 hb]
      rcases List.mem_append.1 ha with ha | ha
      · exact leC_trans (h3 a ha y (by simp)) hc
      · rw [List.mem_singleton.1 ha]; exact hc
theorem isort_spec (l : List CellA) : IsSort (isort l) l := by
  have key : ∀ (l r : List CellA), Srt r.reverse → Srt (l.foldl (fun r x => insR x r) r).reverse ∧ ∀ y, (l.foldl (fun r x => insR x r) r).reverse.filter (eqvC y) = (r.reverse ++ l).filter (eqvC y) := by
    intro l
    induction l with
    | nil => intro r h; simp [h]
    | cons x l ih =>
      intro r h
      obtain ⟨h1, h2⟩ := insR_spec x r h
      obtain ⟨i1, i2⟩ := ih (insR x r) h1
      rw [List.foldl_cons]
      refine ⟨i1, fun y => ?_⟩
      rw [i2 y, List.filter_append, h2 y, List.filter_append, List.filter_append, List.append_assoc, ← List.filter_append, List.singleton_append]
  obtain ⟨h1, h2⟩ := key l [] (by simp [Srt])
  exact ⟨h1, fun y => by have := h2 y; rw [List.reverse_nil, List.nil_append] at this; exact this, isort_len l⟩
theorem isort_of {z l : List CellA} (h : Srt z) (hf : ∀ x, z.filter (eqvC x) = l.filter (eqvC x)) : z = isort l :=
  sort_unique h (isort_spec l).srt fun x => (hf x).trans ((isort_spec l).flt x).symm

/-! ### by places -/
theorem srt_at {l : List CellA} (h : Srt l) {i j : Nat} (hij : i ≤ j) {x y : CellA} (hx : l[i]? = some x) (hy : l[j]? = some y) : leC x y := by
  rcases Nat.lt_or_ge i j with h1 | h1
  · obtain ⟨a, rfl⟩ := List.getElem?_eq_some_iff.1 hx
    obtain ⟨b, rfl⟩ := List.getElem?_eq_some_iff.1 hy
    exact List.pairwise_iff_getElem.1 h i j a b h1
  · obtain rfl : i = j := by omega
    rw [hx] at hy
    rw [Option.some.inj hy]
    exact leC_refl y
/-- sorted from i to j -/
def SrtOn (l : List CellA) (i j : Nat) : Prop := Srt ((l.drop i).take (j - i))
theorem srtOn_all {l : List CellA} {n : Nat} (h : SrtOn l 0 n) (hn : l.length ≤ n) : Srt l := by
  unfold SrtOn at h
  rwa [List.drop_zero, List.take_of_length_le (by omega)] at h
theorem srtOn_mid {pre z suf : List CellA} (h : Srt z) {a b : Nat} (ha : pre.length = a) (hb : a + z.length = b) : SrtOn (pre ++ z ++ suf) a b := by
  unfold SrtOn
  rw [List.append_assoc, List.drop_left' ha, List.take_left' (by omega)]
  exact h
theorem srtOn_pre {pre z z' suf : List CellA} {i j : Nat} (hj : j ≤ pre.length) (h : SrtOn (pre ++ z ++ suf) i j) : SrtOn (pre ++ z' ++ suf) i j := by
  unfold SrtOn at *
  rw [← List.drop_take] at *
  rw [List.append_assoc, List.take_append_of_le_length hj] at *
  exact h
theorem srtOn_suf {pre z z' suf : List CellA} {i j : Nat} (hl : z'.length = z.length) (hi : pre.length + z.length ≤ i) (h : SrtOn (pre ++ z ++ suf) i j) : SrtOn (pre ++ z' ++ suf) i j := by
  unfold SrtOn at *
  rw [List.drop_append, List.drop_eq_nil_of_le (by simp; omega)] at *
  simp only [List.length_append, hl, List.nil_append] at *
  exact h
theorem srtOn_seg {l : List CellA} {i j : Nat} (h : SrtOn l i j) : Srt ((l.drop i).take (j - i)) := h
theorem srtOn_empty {l : List CellA} {i j : Nat} (h : j ≤ i) : SrtOn l i j := by
  unfold SrtOn
  rw [Nat.sub_eq_zero_of_le h, List.take_zero]
  exact List.Pairwise.nil
/-- a list in three -/
theorem three {l : List CellA} {a b : Nat} (h : a ≤ b) : l = l.take a ++ (l.drop a).take (b - a) ++ l.drop b := by
  rw [List.append_assoc]
  have : (l.drop a).take (b - a) ++ l.drop b = l.drop a := by
    have h2 : l.drop b = (l.drop a).drop (b - a) := by rw [List.drop_drop]; congr 1; omega
    rw [h2, List.take_append_drop]
  rw [this, List.take_append_drop]

end Go.Proofs.Ytihglmicgccgiaa

/-
  The walks of slices.SortStableFunc at cells, of any length.
-/
namespace Go.Proofs.Ytihglmicgccgiaa
open Go.RowKit Go.Sort

theorem set_two (A C E : List CellA) (x y x' y' : CellA) {i j : Nat} (hi : i = A.length) (hj : j = A.length + 1 + C.length) : ((A ++ x :: (C ++ y :: E)).set i y').set j x' = A ++ y' :: (C ++ x' :: E) := by
  subst hi hj
  rw [List.set_append_right _ _ (Nat.le_refl _), Nat.sub_self, List.set_cons_zero, List.set_append_right _ _ (by omega), show A.length + 1 + C.length - A.length = C.length + 1 by omega, List.set_cons_succ,
    List.set_append_right _ _ (Nat.le_refl _), Nat.sub_self, List.set_cons_zero]
theorem set_two' (A C E : List CellA) (x y x' y' : CellA) {i j : Nat} (hi : i = A.length) (hj : j = A.length + 1 + C.length) : ((A ++ x :: (C ++ y :: E)).set j x').set i y' = A ++ y' :: (C ++ x' :: E) := by
  rw [List.set_comm _ _ (by omega)]
  exact set_two A C E x y x' y' hi hj
theorem drop_at {l : List CellA} {i : Nat} {x : CellA} (h : l[i]? = some x) : l.drop i = x :: l.drop (i + 1) := by
  obtain ⟨h1, rfl⟩ := List.getElem?_eq_some_iff.1 h
  exact List.drop_eq_getElem_cons h1
theorem take_at {l : List CellA} {i : Nat} {x : CellA} (h : l[i]? = some x) : l.take (i + 1) = l.take i ++ [x] := by
  rw [List.take_add_one, h]; rfl

/-- two stretches exchanged, i cells done -/
def swL (P X M Y S : List CellA) (i : Nat) : List CellA := (P ++ Y.take i) ++ (X.drop i ++ M ++ X.take i ++ (Y.drop i ++ S))
theorem swL_at {P X M Y S : List CellA} {i : Nat} {x y : CellA} (hx : X[i]? = some x) (hy : Y[i]? = some y) :
    swL P X M Y S i = (P ++ Y.take i) ++ x :: ((X.drop (i + 1) ++ M ++ X.take i) ++ y :: (Y.drop (i + 1) ++ S)) := by
  rw [swL, drop_at hx, drop_at hy]; simp
theorem swL_next {P X M Y S : List CellA} {i : Nat} {x y : CellA} (hx : X[i]? = some x) (hy : Y[i]? = some y) :
    swL P X M Y S (i + 1) = (P ++ Y.take i) ++ y :: ((X.drop (i + 1) ++ M ++ X.take i) ++ x :: (Y.drop (i + 1) ++ S)) := by
  rw [swL, take_at hx, take_at hy]; simp
theorem swL_zero (P X M Y S : List CellA) : swL P X M Y S 0 = P ++ X ++ M ++ Y ++ S := by simp [swL]
theorem swL_end {P X M Y S : List CellA} {n : Nat} (hx : X.length = n) (hy : Y.length = n) : swL P X M Y S n = P ++ Y ++ M ++ X ++ S := by
  rw [swL, List.take_of_length_le (by omega), List.take_of_length_le (by omega), List.drop_eq_nil_of_le (by omega), List.drop_eq_nil_of_le (by omega)]; simp
theorem swL_len (P X M Y S : List CellA) (i : Nat) : (swL P X M Y S i).length = P.length + X.length + M.length + Y.length + S.length := by
  simp only [swL, List.length_append, List.length_take, List.length_drop]; omega

def CellsRow (w : World) (B g n cap : Nat) (cs : List CellA) : Prop := Row w B 31 5 (.slice (some ⟨g, 0, none⟩) n cap) n (cs.map cellE).flatten

set_option maxRecDepth 100000 in
set_option maxHeartbeats 4000000 in
theorem swaprange_any (P X M Y S : List CellA) (g cap n a b m B : Nat) (fv : Value) (w : World) (ha : P.length = a) (hb : a + m + M.length = b) (hx : X.length = m) (hy : Y.length = m) (hn : (P ++ X ++ M ++ Y ++ S).length = n)
    (hrow : CellsRow w B g n cap (P ++ X ++ M ++ Y ++ S)) (hle : n ≤ 1000000) :
    Calls Try.prog 89 #[.slice (some ⟨g, 0, none⟩) n cap, .int .i64 a, .int .i64 b, .int .i64 m, fv] w
      fun e w' => e = .returned (.tuple #[]) ∧ CellsRow w' B g n cap (P ++ Y ++ M ++ X ++ S) ∧ w.grownBy w' (some g) := by
  have hbn : b + m ≤ n := by rw [← hn, ← hb, ← ha]; simp only [List.length_append]; omega
  have ham : a + m ≤ b := by omega
  have hncap : n ≤ cap ∧ cap ≤ maxLen := by
    rcases hrow.form with ⟨h, _⟩ | ⟨g', c', h, _, _, q1, q2⟩
    · cases h
    · cases h; exact ⟨q1, q2⟩
  obtain ⟨hc1, hc2⟩ := hncap
  unfold maxLen at hc2
  unfold CellsRow at *
  have Hrow := Lib.hid hrow
  have Ha := Lib.hid ha
  have Hb := Lib.hid hb
  have Hx := Lib.hid hx
  have Hy := Lib.hid hy
  have Hn := Lib.hid hn
  clear hrow ha hb hx hy hn
  go_enter Try.func89, Try.ntmps89
  go_wp2

  go_loopw [10] (fun i wr => ∃ k : Nat, k ≤ m ∧ i = .int .i64 k ∧ Hid (Row wr B 31 5 (.slice (some ⟨g, 0, none⟩) n cap) n ((swL P X M Y S k).map cellE).flatten) ∧ Hid (w.grownBy wr (some g))) (fun i _ => m - (intOf i).toNat)
  case atStart => exact ⟨0, by omega, rfl, Lib.hid (by rw [swL_zero]; exact Hrow.out), Lib.hid gb_row⟩
  case round =>
    obtain ⟨k, hk, rfl, hR, hG⟩ := hrel
    by_cases hlt : k < m
    · obtain ⟨x, hx⟩ : ∃ x, X[k]? = some x := ⟨_, List.getElem?_eq_getElem (by rw [Hx.out]; omega)⟩
      obtain ⟨y, hy⟩ : ∃ y, Y[k]? = some y := ⟨_, List.getElem?_eq_getElem (by rw [Hy.out]; omega)⟩
      have hln : (swL P X M Y S k).length = n := by rw [swL_len, ← Hn.out]; simp only [List.length_append]
      have e1 : a + k = (P ++ Y.take k).length := by rw [List.length_append, List.length_take, Ha.out, Hy.out]; omega
      have e2 : b + k = (P ++ Y.take k).length + 1 + (X.drop (k + 1) ++ M ++ X.take k).length := by
        simp only [List.length_append, List.length_take, List.length_drop, Ha.out, Hy.out, Hx.out]; have := Hb.out; omega
      have hix : (swL P X M Y S k)[a + k]? = some x := by rw [swL_at hx hy, e1]; simp
      have hiy : (swL P X M Y S k)[b + k]? = some y := by
        rw [swL_at hx hy, e2, List.getElem?_append_right (by omega), show ((P ++ Y.take k).length + 1 + (X.drop (k + 1) ++ M ++ X.take k).length - (P ++ Y.take k).length) = (X.drop (k + 1) ++ M ++ X.take k).length + 1 by omega, List.getElem?_cons_succ, List.getElem?_append_right (Nat.le_refl _), Nat.sub_self]
        rfl
      have hsw : Hid (((swL P X M Y S k).set (a + k) y).set (b + k) x = swL P X M Y S (k + 1)) := Lib.hid (by
        rw [swL_at hx hy, swL_next hx hy]; exact set_two _ _ _ _ _ _ _ e1 e2)
      obtain ⟨x0, x1, x2, x3, x4⟩ := hR.out.cellAt hln hix
      obtain ⟨y0, y1, y2, y3, y4⟩ := hR.out.cellAt hln hiy
      obtain ⟨fx0, fx1, fx2, fx3, fx4⟩ := hR.out.cellFree hln (i := a + k) (by omega)
      obtain ⟨fy0, fy1, fy2, fy3, fy4⟩ := hR.out.cellFree hln (i := b + k) (by omega)
      have hR5 := Lib.hid ((hR.out.storeC hln (i := a + k) (by omega) y).storeC (by rw [List.length_set]; exact hln) (i := b + k) (by omega) x).drew
      have hG6 := Lib.hid (gb_drew (gb_setC (gb_setC hG.out (o := (a + k) * 5) y) (o := (b + k) * 5) x))
      have hgl : g < wr.heap.size := World.block_lt_of_cell? _ _ x0
      clear hx hy hix hiy e1 e2 hln
      go_wp2
      go_region
      go_wp2
      have hR6 := hR5.out
      have hG7 := hG6.out
      rw [hsw.out] at hR6
      simp only [setC] at hR6 hG7
      exact ⟨⟨k + 1, by omega, by go_num, Lib.hid hR6, Lib.hid hG7⟩, by simp [intOf]; omega⟩
    · obtain rfl : k = m := by omega
      have hend := Lib.hid (swL_end (P := P) (M := M) (S := S) Hx.out Hy.out)
      go_wp2
      go_returns
      exact ⟨rfl, by rw [← hend.out]; exact hR.out, hG.out⟩

/-- where the turning stands -/
structure RotRel (B g n cap m : Nat) (E : List CellA) (P X Y S : List CellA) (wr : World) : Prop where
  row : CellsRow wr B g n cap (P ++ X ++ Y ++ S)
  at_ : P.length + X.length = m
  fin : P ++ Y ++ X ++ S = E
  x0 : 0 < X.length
  y0 : 0 < Y.length
theorem swaprange_z (P X M Y S : List CellA) (g cap n B : Nat) (za zb zm : Int) (fv : Value) (w : World) (ha : za = P.length) (hb : zb = (P.length + X.length + M.length : Nat)) (hx : zm = X.length) (hy : Y.length = X.length) (hn : (P ++ X ++ M ++ Y ++ S).length = n)
    (hrow : CellsRow w B g n cap (P ++ X ++ M ++ Y ++ S)) (hle : n ≤ 1000000) :
    Calls Try.prog 89 #[.slice (some ⟨g, 0, none⟩) n cap, .int .i64 za, .int .i64 zb, .int .i64 zm, fv] w
      fun e w' => e = .returned (.tuple #[]) ∧ CellsRow w' B g n cap (P ++ Y ++ M ++ X ++ S) ∧ w.grownBy w' (some g) := by
  subst ha hb hx
  exact swaprange_any P X M Y S g cap n _ _ _ B fv w rfl rfl rfl hy hn hrow hle
theorem RotRel.len {B g n cap m : Nat} {E P X Y S : List CellA} {wr : World} (h : RotRel B g n cap m E P X Y S wr) (hE : E.length = n) : (P ++ X ++ Y ++ S).length = n := by
  rw [← hE, ← h.fin]; simp only [List.length_append]; omega

set_option maxRecDepth 100000 in
set_option maxHeartbeats 4000000 in
theorem rotate_any (P X Y S : List CellA) (g cap n a m b B : Nat) (fv : Value) (w : World) (ha : P.length = a) (hm : a + X.length = m) (hb : m + Y.length = b) (hx : 0 < X.length) (hy : 0 < Y.length) (hn : (P ++ X ++ Y ++ S).length = n)
    (hrow : CellsRow w B g n cap (P ++ X ++ Y ++ S)) (hle : n ≤ 1000000) :
    Calls Try.prog 88 #[.slice (some ⟨g, 0, none⟩) n cap, .int .i64 a, .int .i64 m, .int .i64 b, fv] w
      fun e w' => e = .returned (.tuple #[]) ∧ CellsRow w' B g n cap (P ++ Y ++ X ++ S) ∧ w.grownBy w' (some g) := by
  have hbn : b ≤ n := by rw [← hn, ← hb, ← hm, ← ha]; simp only [List.length_append]; omega
  obtain ⟨E, hE⟩ : ∃ E, E = P ++ Y ++ X ++ S := ⟨_, rfl⟩
  rw [← hE]
  have Hrel : Hid (RotRel B g n cap m E P X Y S w) := Lib.hid ⟨hrow, by omega, hE.symm, hx, hy⟩
  have HnE : Hid (E.length = n) := Lib.hid (by rw [hE, ← hn]; simp only [List.length_append]; omega)
  obtain ⟨i0, hi0⟩ : ∃ i, i = X.length := ⟨_, rfl⟩
  obtain ⟨j0, hj0⟩ : ∃ j, j = Y.length := ⟨_, rfl⟩
  have Hi0 := Lib.hid hi0.symm
  have Hj0 := Lib.hid hj0.symm
  rw [← hi0] at hm hx
  rw [← hj0] at hb hy
  have Hm := Lib.hid hm
  have Hb := Lib.hid hb
  have ham : a + 1 ≤ m := by omega
  have hmb : m + 1 ≤ b := by omega
  have hi0m : i0 ≤ m := by omega
  clear hrow hn ha hE hi0 hj0 hm hb
  go_enter Try.func88, Try.ntmps88
  go_wp2
  go_loopw [10, 11] (fun i j wr => ∃ (P' X' Y' S' : List CellA) (q r : Nat), i = .int .i64 q ∧ j = .int .i64 r ∧ q ≤ i0 ∧ r ≤ j0 ∧ 0 < q ∧ 0 < r ∧ Hid (X'.length = q) ∧ Hid (Y'.length = r) ∧ Hid (RotRel B g n cap m E P' X' Y' S' wr) ∧ Hid (w.grownBy wr (some g))) (fun i j _ => (intOf i).toNat + (intOf j).toNat)
  case atStart => exact ⟨P, X, Y, S, i0, j0, by congr 1; have := Hm.out; omega, by congr 1; have := Hb.out; omega, Nat.le_refl _, Nat.le_refl _, hx, hy, Hi0, Hj0, Hrel, Lib.hid gb_row⟩
  case round =>
    obtain ⟨P', X', Y', S', q, r, rfl, rfl, hq, hr, hq0, hr0, HX, HY, HR, HG⟩ := hrel
    have hat := HR.out.at_
    obtain ⟨p, hp⟩ : ∃ p, p = P'.length := ⟨_, rfl⟩
    have Hp := Lib.hid hp
    have hpq : Hid (p + q = m) := Lib.hid (by have := HX.out; omega)
    have hpl : p ≤ m := by have := hpq.out; omega
    have hln := Lib.hid (HR.out.len HnE.out)
    have hqm : q ≤ m := by omega
    have hrn : r ≤ 1000000 := by have := Hb.out; omega
    clear hat hp
    rcases Nat.lt_trichotomy q r with hlt | heq | hgt
    · have hd1 : decide ((r : Int) < q) = false := by simp; omega
      have hne : ((q : Int) != r) = true := by rw [bne_iff_ne]; omega
      have hY : Hid (Y' = Y'.take (r - q) ++ Y'.drop (r - q)) := Lib.hid (List.take_append_drop _ _).symm
      obtain ⟨Y1, hY1⟩ : ∃ l, l = Y'.take (r - q) := ⟨_, rfl⟩
      obtain ⟨Y2, hY2⟩ : ∃ l, l = Y'.drop (r - q) := ⟨_, rfl⟩
      rw [← hY1, ← hY2] at hY
      have L1 : Hid (Y1.length = r - q) := Lib.hid (by rw [hY1, List.length_take, HY.out]; omega)
      have L2 : Hid (Y2.length = q) := Lib.hid (by rw [hY2, List.length_drop, HY.out]; omega)
      have Hrow : Hid (CellsRow wr B g n cap (P' ++ X' ++ Y1 ++ Y2 ++ S')) := Lib.hid (by have := HR.out.row; rw [hY.out] at this; simpa only [List.append_assoc] using this)
      have Hn2 : Hid ((P' ++ X' ++ Y1 ++ Y2 ++ S').length = n) := Lib.hid (by have := hln.out; rw [hY.out] at this; simpa only [List.append_assoc] using this)
      have HF : Hid (P' ++ Y1 ++ Y2 ++ (X' ++ S') = E) := Lib.hid (by have := HR.out.fin; rw [hY.out] at this; simpa only [List.append_assoc] using this)
      clear hY1 hY2
      go_wp2_with (go_at_call 89; refine (swaprange_z P' X' Y1 Y2 S' g cap n B _ _ _ _ _ (by have := Hp.out; have := hpq.out; omega) (by have := Hp.out; have := hpq.out; have := L1.out; have := HX.out; omega) (by have := HX.out; omega) (by have := HX.out; have := L2.out; omega) Hn2.out Hrow.out hle).mono ?_; rintro e w1 ⟨rfl, hr1, hg1⟩; have Hr1 := Lib.hid hr1; have Hg1 := Lib.hid (gb_trans HG.out hg1); clear hr1 hg1)
      exact ⟨⟨P', Y2, Y1, X' ++ S', q, r - q, rfl, by go_num, hq, by omega, hq0, by omega, L2, L1, Lib.hid ⟨by have := Hr1.out; simpa only [List.append_assoc] using this, by have := Hp.out; have := hpq.out; have := L2.out; omega, HF.out, by have := L2.out; omega, by have := L1.out; omega⟩, Hg1⟩, by simp [intOf]; omega⟩
    · subst heq
      have hxy := Lib.hid (HX.out.trans HY.out.symm)
      have Hrow : Hid (CellsRow wr B g n cap (P' ++ X' ++ [] ++ Y' ++ S')) := Lib.hid (by have := HR.out.row; simpa only [List.append_nil] using this)
      have Hn2 : Hid ((P' ++ X' ++ [] ++ Y' ++ S').length = n) := Lib.hid (by have := hln.out; simpa only [List.append_nil] using this)
      go_wp2_with (go_at_call 89; refine (swaprange_z P' X' [] Y' S' g cap n B _ _ _ _ _ (by have := Hp.out; have := hpq.out; omega) (by have := Hp.out; have := hpq.out; have := HX.out; simp only [List.length_nil]; omega) (by have := HX.out; omega) hxy.out.symm Hn2.out Hrow.out hle).mono ?_; rintro e w1 ⟨rfl, hr1, hg1⟩; have Hr1 := Lib.hid hr1; have Hg1 := Lib.hid (gb_trans HG.out hg1); clear hr1 hg1)
      go_returns
      exact ⟨rfl, by rw [← HR.out.fin]; have := Hr1.out; simpa only [List.append_nil] using this, Hg1.out⟩
    · have hd1 : decide ((r : Int) < q) = true := by simp; omega
      have hne : ((q : Int) != r) = true := by rw [bne_iff_ne]; omega
      have hX : Hid (X' = X'.take r ++ X'.drop r) := Lib.hid (List.take_append_drop _ _).symm
      obtain ⟨X1, hX1⟩ : ∃ l, l = X'.take r := ⟨_, rfl⟩
      obtain ⟨X2, hX2⟩ : ∃ l, l = X'.drop r := ⟨_, rfl⟩
      rw [← hX1, ← hX2] at hX
      have L1 : Hid (X1.length = r) := Lib.hid (by rw [hX1, List.length_take, HX.out]; omega)
      have L2 : Hid (X2.length = q - r) := Lib.hid (by rw [hX2, List.length_drop, HX.out])
      have Hrow : Hid (CellsRow wr B g n cap (P' ++ X1 ++ X2 ++ Y' ++ S')) := Lib.hid (by have := HR.out.row; rw [hX.out] at this; simpa only [List.append_assoc] using this)
      have Hn2 : Hid ((P' ++ X1 ++ X2 ++ Y' ++ S').length = n) := Lib.hid (by have := hln.out; rw [hX.out] at this; simpa only [List.append_assoc] using this)
      have HF : Hid (P' ++ Y' ++ X1 ++ X2 ++ S' = E) := Lib.hid (by have := HR.out.fin; rw [hX.out] at this; simpa only [List.append_assoc] using this)
      clear hX1 hX2
      go_wp2_with (go_at_call 89; refine (swaprange_z P' X1 X2 Y' S' g cap n B _ _ _ _ _ (by have := Hp.out; have := hpq.out; omega) (by have := Hp.out; have := hpq.out; have := L1.out; have := L2.out; omega) (by have := L1.out; omega) (by have := L1.out; have := HY.out; omega) Hn2.out Hrow.out hle).mono ?_; rintro e w1 ⟨rfl, hr1, hg1⟩; have Hr1 := Lib.hid hr1; have Hg1 := Lib.hid (gb_trans HG.out hg1); clear hr1 hg1)
      exact ⟨⟨P' ++ Y', X2, X1, S', q - r, r, by go_num, rfl, by omega, hr, by omega, hr0, L2, L1, Lib.hid ⟨by have := Hr1.out; simpa only [List.append_assoc] using this, by rw [List.length_append]; have := Hp.out; have := hpq.out; have := L2.out; have := HY.out; omega, HF.out, by have := L2.out; omega, by have := L1.out; omega⟩, Hg1⟩, by simp [intOf]; omega⟩

/-- a search in a sorted list: what holds up to p, and fails from q on -/
structure Cut (P : CellA → Prop) (Y : List CellA) (p q : Nat) : Prop where
  lo : ∀ y ∈ Y.take p, P y
  hi : ∀ y ∈ Y.drop q, ¬ P y
theorem Cut.start (P : CellA → Prop) (Y : List CellA) {q : Nat} (h : Y.length ≤ q) : Cut P Y 0 q := ⟨by simp, by rw [List.drop_eq_nil_of_le h]; simp⟩
theorem Cut.up {P : CellA → Prop} {Y : List CellA} {p q h : Nat} (c : Cut P Y p q) (hs : Srt Y) (hm : ∀ y z, leC z y → P y → P z) {y : CellA} (hy : Y[h]? = some y) (hp : P y) : Cut P Y (h + 1) q := by
  refine ⟨fun z hz => ?_, c.hi⟩
  obtain ⟨i, hi⟩ := List.mem_iff_getElem?.1 hz
  rw [List.getElem?_take] at hi
  split at hi
  · exact hm y z (srt_at hs (by omega) hi hy) hp
  · cases hi
theorem Cut.down {P : CellA → Prop} {Y : List CellA} {p q h : Nat} (c : Cut P Y p q) (hs : Srt Y) (hm : ∀ y z, leC z y → P y → P z) {y : CellA} (hy : Y[h]? = some y) (hp : ¬ P y) : Cut P Y p h := by
  refine ⟨c.lo, fun z hz hp' => ?_⟩
  obtain ⟨i, hi⟩ := List.mem_iff_getElem?.1 hz
  rw [List.getElem?_drop] at hi
  exact hp (hm z y (srt_at hs (by omega) hy hi) hp')

/-- the sort's world: the row, and the comparison beside it -/
structure SortW (w : World) (B g n cap gb gs : Nat) (cs : List CellA) : Prop where
  row : CellsRow w B g n cap cs
  len : cs.length = n
  ord : OrderAt w gb gs
theorem SortW.cap {w : World} {B g n cap gb gs : Nat} {cs : List CellA} (h : SortW w B g n cap gb gs cs) : n ≤ cap ∧ cap ≤ 9223372036854775807 := by
  rcases h.row.form with ⟨h, _⟩ | ⟨g', c', h, _, _, q1, q2⟩
  · cases h
  · cases h; unfold maxLen at q2; exact ⟨q1, by omega⟩
theorem SortW.below {w w' : World} {B g n cap gb gs : Nat} {cs : List CellA} (h : SortW w B g n cap gb gs cs) (hb : Below w.heap.size w w') : SortW w' B g n cap gb gs cs :=
  ⟨Row.below h.row hb, h.len, h.ord.below hb⟩

set_option maxRecDepth 100000 in
set_option maxHeartbeats 4000000 in
theorem symmerge_left (pre : List CellA) (x : CellA) (Y suf : List CellA) (g cap n a m b gb gs B : Nat) (w : World) (ha : pre.length = a) (hm : a + 1 = m) (hb : m + Y.length = b) (hy : Srt Y) (hrow : SortW w B g n cap gb gs (pre ++ [x] ++ Y ++ suf)) (h1 : gb ≠ g) (h2 : gs ≠ g) (hle : n ≤ 1000000) :
    Calls Try.prog 87 #[.slice (some ⟨g, 0, none⟩) n cap, .int .i64 a, .int .i64 m, .int .i64 b, .func (.func 78) #[] #[.pointer (some ⟨gb, 0, none⟩)]] w
      fun e w' => e = .returned (.tuple #[]) ∧ (∃ Z, IsSort Z ([x] ++ Y) ∧ SortW w' B g n cap gb gs (pre ++ Z ++ suf)) ∧ w.grownBy w' (some g) := by
  obtain ⟨hc1, hc2⟩ := hrow.cap
  have hbn : b ≤ n := by rw [← hrow.len, ← hb, ← hm, ← ha]; simp only [List.length_append, List.length_singleton]; omega
  have hab : a < m := by omega
  have hmb : m ≤ b := by omega
  have hd0 : ((m : Int) - (a : Int) == 1) = true := by rw [beq_iff_eq]; omega
  have Hrow := Lib.hid hrow
  have Ha := Lib.hid ha
  have Hm := Lib.hid hm
  have Hb := Lib.hid hb
  have Hy := Lib.hid hy
  clear hrow ha hb hy hm
  go_enter Try.func87, Try.ntmps87
  go_wp2
  go_loopw [10, 11] (fun i j wr => ∃ I J : Nat, i = .int .i64 I ∧ j = .int .i64 J ∧ m ≤ I ∧ I ≤ J ∧ J ≤ b ∧ Hid (Cut (fun y => cmpC y x < 0) Y (I - m) (J - m)) ∧ Hid (SortW wr B g n cap gb gs (pre ++ [x] ++ Y ++ suf)) ∧ Hid (w.grownBy wr (some g))) (fun i j _ => (intOf j).toNat - (intOf i).toNat)
  case atStart => exact ⟨m, b, rfl, rfl, by omega, by omega, by omega, Lib.hid (by rw [Nat.sub_self]; exact Cut.start _ _ (by have := Hb.out; omega)), Hrow, Lib.hid gb_row⟩
  case round =>
    obtain ⟨I, J, rfl, rfl, hI, hIJ, hJ, hC, hW, hG⟩ := hrel
    by_cases hlt : I < J
    · obtain ⟨h, hh⟩ : ∃ h : Nat, h = (I + J) / 2 := ⟨_, rfl⟩
      have hh1 : ((I : Int) + (J : Int)) / 2 = (h : Int) := by omega
      have hh2 : I ≤ h := by omega
      have hh3 : h < J := by omega
      have hhn : h < n := by omega
      obtain ⟨y, hy⟩ : ∃ y, Y[h - m]? = some y := ⟨_, List.getElem?_eq_getElem (by have := Hb.out; omega)⟩
      have hix : (pre ++ [x] ++ Y ++ suf)[a]? = some x := by
        rw [List.append_assoc, List.append_assoc, List.getElem?_append_right (by have := Ha.out; omega), Ha.out, Nat.sub_self]; rfl
      have hiy : (pre ++ [x] ++ Y ++ suf)[h]? = some y := by
        rw [List.append_assoc, List.getElem?_append_right (by have := Ha.out; have := Hm.out; simp only [List.length_append, List.length_singleton]; omega), List.length_append, Ha.out, List.length_singleton, Hm.out,
          List.getElem?_append_left (by have := Hb.out; omega)]
        exact hy
      have hln := hW.out.len
      obtain ⟨x0, x1, x2, x3, x4⟩ := Row.cellAt hW.out.row hln hix
      obtain ⟨y0, y1, y2, y3, y4⟩ := Row.cellAt hW.out.row hln hiy
      have hcm := Lib.hid fun W h => order_any y x gb gs W h
      have Hy2 := Lib.hid hy
      obtain ⟨z, hz⟩ : ∃ z, cmpC y x = z := ⟨_, rfl⟩
      rw [hz] at hcm
      have Hz := Lib.hid hz
      have hgl : g < wr.heap.size := World.block_lt_of_cell? _ _ x0
      clear hz hy hix hiy hln hh
      have hst : h < 4611686018427387904 := by omega
      by_cases hneg : z < 0
      · have hneg1 : decide (z < 0) = true := by simpa using hneg
        go_wp2
        refine wp_region_below (by kernel_rfl) (by kernel_rfl) (fun hkept => ?_)
        obtain ⟨r0, rf0⟩ := hkept (g) (by go_size); clear hkept
        repeat (any_goals (first | go_big_quiet_step (first | (go_at_call 78; exact Calls.regrown_of (hcm.out _ (hW.out.ord.below (below_regrown _ _ _))))) | quiet_step (first | (go_at_call 78; exact Calls.regrown_of (hcm.out _ (hW.out.ord.below (below_regrown _ _ _))))) | (refine wpQuiet_step (fun K hK => ?_); go_simp; split <;> (refine hK _ ?_; clear hK K))))
        all_goals (refine wpQuiet_nil ?_; intro w5 hb; obtain ⟨hB, hS, hk⟩ := after (B := wr.heap.size) (w := wr) (by go_grown) (by go_size) hb; obtain ⟨c0, f0, z0⟩ := hk (g) (by go_size); clear hk hb r0 rf0)
        go_wp2
        exact ⟨⟨h + 1, J, by go_num, rfl, by omega, by omega, hJ, Lib.hid (by
          have := hC.out.up Hy.out (fun _ _ h1 h2 => le_lt_trans h1 h2) Hy2.out (by rw [Hz.out]; exact hneg)
          rwa [show h - m + 1 = h + 1 - m by omega] at this), Lib.hid (hW.out.below hB), Lib.hid (gb_below hG.out hB)⟩, by simp [intOf]; omega⟩
      · have hneg1 : decide (z < 0) = false := by simpa using hneg
        go_wp2
        refine wp_region_below (by kernel_rfl) (by kernel_rfl) (fun hkept => ?_)
        obtain ⟨r0, rf0⟩ := hkept (g) (by go_size); clear hkept
        repeat (any_goals (first | go_big_quiet_step (first | (go_at_call 78; exact Calls.regrown_of (hcm.out _ (hW.out.ord.below (below_regrown _ _ _))))) | quiet_step (first | (go_at_call 78; exact Calls.regrown_of (hcm.out _ (hW.out.ord.below (below_regrown _ _ _))))) | (refine wpQuiet_step (fun K hK => ?_); go_simp; split <;> (refine hK _ ?_; clear hK K))))
        all_goals (refine wpQuiet_nil ?_; intro w5 hb; obtain ⟨hB, hS, hk⟩ := after (B := wr.heap.size) (w := wr) (by go_grown) (by go_size) hb; obtain ⟨c0, f0, z0⟩ := hk (g) (by go_size); clear hk hb r0 rf0)
        go_wp2
        exact ⟨⟨I, h, rfl, rfl, by omega, by omega, by omega, Lib.hid (hC.out.down Hy.out (fun _ _ h1 h2 => le_lt_trans h1 h2) Hy2.out (by rw [Hz.out]; omega)), Lib.hid (hW.out.below hB), Lib.hid (gb_below hG.out hB)⟩, by simp [intOf]; omega⟩
    · obtain rfl : I = J := by omega
      clear hlt hIJ
      obtain ⟨wo, rfl⟩ : ∃ wo : World, wo = wr := ⟨_, rfl⟩
      have hIa : 1 ≤ I := by omega
      go_wp2
      go_loopw [13] (fun k wr => ∃ K : Nat, k = .int .i64 K ∧ a ≤ K ∧ K + 1 ≤ I ∧ Hid (SortW wr B g n cap gb gs (pre ++ (Y.take (K - a) ++ [x] ++ Y.drop (K - a)) ++ suf)) ∧ Hid (w.grownBy wr (some g))) (fun k _ => n - (intOf k).toNat)
      case atStart => exact ⟨a, rfl, by omega, by omega, Lib.hid (by have := hW.out; rw [Nat.sub_self]; simpa only [List.take_zero, List.drop_zero, List.nil_append, List.append_assoc] using this), hG⟩
      case round =>
        obtain ⟨K, rfl, hK, hKI, hS2, hG2⟩ := hrel
        by_cases hlt : K + 1 < I
        · have hd1 : decide ((K : Int) < (I : Int) - 1) = true := by simp; omega
          obtain ⟨y, hy⟩ : ∃ y, Y[K - a]? = some y := ⟨_, List.getElem?_eq_getElem (by have := Hb.out; have := Hm.out; omega)⟩
          have hln := hS2.out.len
          have e0 : pre ++ (Y.take (K - a) ++ [x] ++ Y.drop (K - a)) ++ suf = (pre ++ Y.take (K - a)) ++ x :: ([] ++ y :: (Y.drop (K - a + 1) ++ suf)) := by rw [drop_at hy]; simp
          have e3 : pre ++ (Y.take (K + 1 - a) ++ [x] ++ Y.drop (K + 1 - a)) ++ suf = (pre ++ Y.take (K - a)) ++ y :: ([] ++ x :: (Y.drop (K - a + 1) ++ suf)) := by
            rw [show K + 1 - a = K - a + 1 by omega, take_at hy]; simp
          have e1 : K = (pre ++ Y.take (K - a)).length := by have := Hb.out; have := Hm.out; rw [List.length_append, List.length_take, Ha.out]; omega
          have e2 : K + 1 = (pre ++ Y.take (K - a)).length + 1 + ([] : List CellA).length := by rw [← e1]; rfl
          have hix : (pre ++ (Y.take (K - a) ++ [x] ++ Y.drop (K - a)) ++ suf)[K]? = some x := by rw [e0, List.getElem?_append_right (by omega), ← e1, Nat.sub_self]; rfl
          have hiy : (pre ++ (Y.take (K - a) ++ [x] ++ Y.drop (K - a)) ++ suf)[K + 1]? = some y := by rw [e0, List.getElem?_append_right (by omega), ← e1, show K + 1 - K = 1 by omega]; rfl
          have hsw : Hid (((pre ++ (Y.take (K - a) ++ [x] ++ Y.drop (K - a)) ++ suf).set K y).set (K + 1) x = pre ++ (Y.take (K + 1 - a) ++ [x] ++ Y.drop (K + 1 - a)) ++ suf) := Lib.hid (by
            rw [e0, e3]; exact set_two _ _ _ _ _ _ _ e1 e2)
          obtain ⟨x0, x1, x2, x3, x4⟩ := Row.cellAt hS2.out.row hln hix
          obtain ⟨y0, y1, y2, y3, y4⟩ := Row.cellAt hS2.out.row hln hiy
          obtain ⟨fx0, fx1, fx2, fx3, fx4⟩ := Row.cellFree hS2.out.row hln (i := K) (by omega)
          obtain ⟨fy0, fy1, fy2, fy3, fy4⟩ := Row.cellFree hS2.out.row hln (i := K + 1) (by omega)
          have hR5 := Lib.hid ((Row.storeC hS2.out.row hln (i := K) (by omega) y).storeC (by rw [List.length_set]; exact hln) (i := K + 1) (by omega) x).drew
          have hG6 := Lib.hid (gb_drew (gb_setC (gb_setC hG2.out (o := K * 5) y) (o := (K + 1) * 5) x))
          have hln2 := Lib.hid (show (((pre ++ (Y.take (K - a) ++ [x] ++ Y.drop (K - a)) ++ suf).set K y).set (K + 1) x).length = n by rw [List.length_set, List.length_set]; exact hln)
          have hgl : g < wr.heap.size := World.block_lt_of_cell? _ _ x0
          clear hy hix hiy e1 e2 e0 e3 hln
          go_wp2
          go_region
          go_wp2
          have hR6 := hR5.out
          have hG7 := hG6.out
          have hln3 := hln2.out
          rw [hsw.out] at hR6 hln3
          simp only [setC] at hR6 hG7
          exact ⟨⟨K + 1, by go_num, by omega, by omega, Lib.hid ⟨hR6, hln3, Hrow.out.ord.grown hG7 h1 h2⟩, Lib.hid hG7⟩, by simp [intOf]; omega⟩
        · obtain rfl : I = K + 1 := by omega
          have hd1 : decide ((K : Int) < ((K + 1 : Nat) : Int) - 1) = false := by simp
          have hres : Hid (IsSort (Y.take (K - a) ++ [x] ++ Y.drop (K - a)) ([x] ++ Y)) := Lib.hid (by
            have c := hC.out
            rw [show K + 1 - m = K - a by have := Hm.out; omega] at c
            have := merge_one_left (x := x) (y1 := Y.take (K - a)) (y2 := Y.drop (K - a)) (by rw [List.take_append_drop]; exact Hy.out) c.lo c.hi
            rw [List.take_append_drop] at this
            simpa using this)
          go_wp2
          go_returns
          exact ⟨rfl, ⟨_, hres.out, hS2.out⟩, hG2.out⟩

end Go.Proofs.Ytihglmicgccgiaa

/-
  The walk of slices.symMergeCmpFunc where the right one is one cell.
-/
namespace Go.Proofs.Ytihglmicgccgiaa
open Go.RowKit Go.Sort

set_option maxRecDepth 100000 in
set_option maxHeartbeats 4000000 in
theorem symmerge_right (pre X : List CellA) (y : CellA) (suf : List CellA) (g cap n a m b gb gs B : Nat) (w : World) (ha : pre.length = a) (hm : a + X.length = m) (hb : m + 1 = b) (hx1 : X.length ≠ 1) (hx : Srt X) (hrow : SortW w B g n cap gb gs (pre ++ X ++ [y] ++ suf)) (h1 : gb ≠ g) (h2 : gs ≠ g) (hle : n ≤ 1000000) :
    Calls Try.prog 87 #[.slice (some ⟨g, 0, none⟩) n cap, .int .i64 a, .int .i64 m, .int .i64 b, .func (.func 78) #[] #[.pointer (some ⟨gb, 0, none⟩)]] w
      fun e w' => e = .returned (.tuple #[]) ∧ (∃ Z, IsSort Z (X ++ [y]) ∧ SortW w' B g n cap gb gs (pre ++ Z ++ suf)) ∧ w.grownBy w' (some g) := by
  obtain ⟨hc1, hc2⟩ := hrow.cap
  have hbn : b ≤ n := by rw [← hrow.len, ← hb, ← hm, ← ha]; simp only [List.length_append, List.length_singleton]; omega
  have hab : a ≤ m := by omega
  have hmb : m < b := by omega
  have hd0 : ((m : Int) - (a : Int) == 1) = false := by rw [beq_eq_false_iff_ne]; omega
  have hd1 : ((b : Int) - (m : Int) == 1) = true := by rw [beq_iff_eq]; omega
  have Hrow := Lib.hid hrow
  have Ha := Lib.hid ha
  have Hm := Lib.hid hm
  have Hb := Lib.hid hb
  have Hx := Lib.hid hx
  clear hrow ha hb hx hm hx1
  go_enter Try.func87, Try.ntmps87
  go_wp2
  go_loopw [14, 15] (fun i j wr => ∃ I J : Nat, i = .int .i64 I ∧ j = .int .i64 J ∧ a ≤ I ∧ I ≤ J ∧ J ≤ m ∧ Hid (Cut (fun z => leC z y) X (I - a) (J - a)) ∧ Hid (SortW wr B g n cap gb gs (pre ++ X ++ [y] ++ suf)) ∧ Hid (w.grownBy wr (some g))) (fun i j _ => (intOf j).toNat - (intOf i).toNat)
  case atStart => exact ⟨a, m, rfl, rfl, by omega, by omega, by omega, Lib.hid (by rw [Nat.sub_self]; exact Cut.start _ _ (by have := Hm.out; omega)), Hrow, Lib.hid gb_row⟩
  case round =>
    obtain ⟨I, J, rfl, rfl, hI, hIJ, hJ, hC, hW, hG⟩ := hrel
    by_cases hlt : I < J
    · obtain ⟨h, hh⟩ : ∃ h : Nat, h = (I + J) / 2 := ⟨_, rfl⟩
      have hh1 : ((I : Int) + (J : Int)) / 2 = (h : Int) := by omega
      have hh2 : I ≤ h := by omega
      have hh3 : h < J := by omega
      have hhn : h < n := by omega
      obtain ⟨x, hx⟩ : ∃ x, X[h - a]? = some x := ⟨_, List.getElem?_eq_getElem (by have := Hm.out; omega)⟩
      have hiy : (pre ++ X ++ [y] ++ suf)[m]? = some y := by
        have e : (pre ++ X).length = m := by rw [List.length_append, Ha.out, Hm.out]
        rw [List.append_assoc, List.getElem?_append_right (by omega), e, Nat.sub_self]; rfl
      have hix : (pre ++ X ++ [y] ++ suf)[h]? = some x := by
        rw [List.append_assoc, List.append_assoc, List.getElem?_append_right (by have := Ha.out; omega), Ha.out, List.getElem?_append_left (by have := Hm.out; omega)]
        exact hx
      have hln := hW.out.len
      obtain ⟨x0, x1, x2, x3, x4⟩ := Row.cellAt hW.out.row hln hix
      obtain ⟨y0, y1, y2, y3, y4⟩ := Row.cellAt hW.out.row hln hiy
      have hcm := Lib.hid fun W h => order_any y x gb gs W h
      have Hx2 := Lib.hid hx
      obtain ⟨z, hz⟩ : ∃ z, cmpC y x = z := ⟨_, rfl⟩
      rw [hz] at hcm
      have Hz := Lib.hid hz
      have hgl : g < wr.heap.size := World.block_lt_of_cell? _ _ x0
      clear hz hx hix hiy hln hh
      have hst : h < 4611686018427387904 := by omega
      by_cases hneg : z < 0
      · have hneg1 : decide (z < 0) = true := by simpa using hneg
        go_wp2
        refine wp_region_below (by kernel_rfl) (by kernel_rfl) (fun hkept => ?_)
        obtain ⟨r0, rf0⟩ := hkept (g) (by go_size); clear hkept
        repeat (any_goals (first | go_big_quiet_step (first | (go_at_call 78; exact Calls.regrown_of (hcm.out _ (hW.out.ord.below (below_regrown _ _ _))))) | quiet_step (first | (go_at_call 78; exact Calls.regrown_of (hcm.out _ (hW.out.ord.below (below_regrown _ _ _))))) | (refine wpQuiet_step (fun K hK => ?_); go_simp; split <;> (refine hK _ ?_; clear hK K))))
        all_goals (refine wpQuiet_nil ?_; intro w5 hb; obtain ⟨hB, hS, hk⟩ := after (B := wr.heap.size) (w := wr) (by go_grown) (by go_size) hb; obtain ⟨c0, f0, z0⟩ := hk (g) (by go_size); clear hk hb r0 rf0)
        go_wp2
        exact ⟨⟨I, h, rfl, rfl, by omega, by omega, by omega, Lib.hid (hC.out.down Hx.out (fun _ _ h1 h2 => leC_trans h1 h2) Hx2.out (by unfold leC; rw [Hz.out]; omega)), Lib.hid (hW.out.below hB), Lib.hid (gb_below hG.out hB)⟩, by simp [intOf]; omega⟩
      · have hneg1 : decide (z < 0) = false := by simpa using hneg
        go_wp2
        refine wp_region_below (by kernel_rfl) (by kernel_rfl) (fun hkept => ?_)
        obtain ⟨r0, rf0⟩ := hkept (g) (by go_size); clear hkept
        repeat (any_goals (first | go_big_quiet_step (first | (go_at_call 78; exact Calls.regrown_of (hcm.out _ (hW.out.ord.below (below_regrown _ _ _))))) | quiet_step (first | (go_at_call 78; exact Calls.regrown_of (hcm.out _ (hW.out.ord.below (below_regrown _ _ _))))) | (refine wpQuiet_step (fun K hK => ?_); go_simp; split <;> (refine hK _ ?_; clear hK K))))
        all_goals (refine wpQuiet_nil ?_; intro w5 hb; obtain ⟨hB, hS, hk⟩ := after (B := wr.heap.size) (w := wr) (by go_grown) (by go_size) hb; obtain ⟨c0, f0, z0⟩ := hk (g) (by go_size); clear hk hb r0 rf0)
        go_wp2
        exact ⟨⟨h + 1, J, by go_num, rfl, by omega, by omega, hJ, Lib.hid (by
          have := hC.out.up Hx.out (fun _ _ h1 h2 => leC_trans h1 h2) Hx2.out (by unfold leC; rw [Hz.out]; omega)
          rwa [show h - a + 1 = h + 1 - a by omega] at this), Lib.hid (hW.out.below hB), Lib.hid (gb_below hG.out hB)⟩, by simp [intOf]; omega⟩
    · obtain rfl : I = J := by omega
      clear hlt hIJ
      obtain ⟨wo, rfl⟩ : ∃ wo : World, wo = wr := ⟨_, rfl⟩
      go_wp2
      go_loopw [17] (fun k wr => ∃ K : Nat, k = .int .i64 K ∧ I ≤ K ∧ K ≤ m ∧ Hid (SortW wr B g n cap gb gs (pre ++ (X.take (K - a) ++ [y] ++ X.drop (K - a)) ++ suf)) ∧ Hid (w.grownBy wr (some g))) (fun k _ => (intOf k).toNat)
      case atStart => exact ⟨m, rfl, by omega, by omega, Lib.hid (by have := hW.out; rw [List.take_of_length_le (by have := Hm.out; omega), List.drop_eq_nil_of_le (by have := Hm.out; omega)]; simpa only [List.append_nil, List.append_assoc] using this), hG⟩
      case round =>
        obtain ⟨K, rfl, hK, hKm, hS2, hG2⟩ := hrel
        by_cases hlt : I < K
        · obtain ⟨K', rfl⟩ : ∃ K', K = K' + 1 := ⟨K - 1, by omega⟩
          have hd2 : decide ((I : Int) < (K' : Int) + 1) = true := by simp; omega
          obtain ⟨x, hx⟩ : ∃ x, X[K' - a]? = some x := ⟨_, List.getElem?_eq_getElem (by have := Hm.out; omega)⟩
          have hln := hS2.out.len
          have hs : K' + 1 - a = K' - a + 1 := by omega
          have e0 : pre ++ (X.take (K' + 1 - a) ++ [y] ++ X.drop (K' + 1 - a)) ++ suf = (pre ++ X.take (K' - a)) ++ x :: ([] ++ y :: (X.drop (K' - a + 1) ++ suf)) := by rw [hs, take_at hx]; simp
          have e3 : pre ++ (X.take (K' - a) ++ [y] ++ X.drop (K' - a)) ++ suf = (pre ++ X.take (K' - a)) ++ y :: ([] ++ x :: (X.drop (K' - a + 1) ++ suf)) := by
            rw [drop_at hx]; simp
          have e1 : K' = (pre ++ X.take (K' - a)).length := by have := Hm.out; rw [List.length_append, List.length_take, Ha.out]; omega
          have e2 : K' + 1 = (pre ++ X.take (K' - a)).length + 1 + ([] : List CellA).length := by rw [← e1]; rfl
          have hix : (pre ++ (X.take (K' + 1 - a) ++ [y] ++ X.drop (K' + 1 - a)) ++ suf)[K']? = some x := by rw [e0, List.getElem?_append_right (by omega), ← e1, Nat.sub_self]; rfl
          have hiy : (pre ++ (X.take (K' + 1 - a) ++ [y] ++ X.drop (K' + 1 - a)) ++ suf)[K' + 1]? = some y := by rw [e0, List.getElem?_append_right (by omega), ← e1, show K' + 1 - K' = 1 by omega]; rfl
          have hsw : Hid (((pre ++ (X.take (K' + 1 - a) ++ [y] ++ X.drop (K' + 1 - a)) ++ suf).set (K' + 1) x).set K' y = pre ++ (X.take (K' - a) ++ [y] ++ X.drop (K' - a)) ++ suf) := Lib.hid (by
            rw [e0, e3]; exact set_two' _ _ _ _ _ _ _ e1 e2)
          obtain ⟨x0, x1, x2, x3, x4⟩ := Row.cellAt hS2.out.row hln hix
          obtain ⟨y0, y1, y2, y3, y4⟩ := Row.cellAt hS2.out.row hln hiy
          obtain ⟨fx0, fx1, fx2, fx3, fx4⟩ := Row.cellFree hS2.out.row hln (i := K') (by omega)
          obtain ⟨fy0, fy1, fy2, fy3, fy4⟩ := Row.cellFree hS2.out.row hln (i := K' + 1) (by omega)
          have hR5 := Lib.hid ((Row.storeC hS2.out.row hln (i := K' + 1) (by omega) x).storeC (by rw [List.length_set]; exact hln) (i := K') (by omega) y).drew
          have hG6 := Lib.hid (gb_drew (gb_setC (gb_setC hG2.out (o := (K' + 1) * 5) x) (o := K' * 5) y))
          have hln2 := Lib.hid (show (((pre ++ (X.take (K' + 1 - a) ++ [y] ++ X.drop (K' + 1 - a)) ++ suf).set (K' + 1) x).set K' y).length = n by rw [List.length_set, List.length_set]; exact hln)
          have hgl : g < wr.heap.size := World.block_lt_of_cell? _ _ x0
          clear hx hix hiy e1 e2 e0 e3 hln hs
          go_wp2
          go_region
          go_wp2
          have hR6 := hR5.out
          have hG7 := hG6.out
          have hln3 := hln2.out
          rw [hsw.out] at hR6 hln3
          simp only [setC] at hR6 hG7
          exact ⟨⟨K', by go_num, by omega, by omega, Lib.hid ⟨hR6, hln3, Hrow.out.ord.grown hG7 h1 h2⟩, Lib.hid hG7⟩, by simp [intOf]⟩
        · obtain rfl : I = K := by omega
          have hres : Hid (IsSort (X.take (I - a) ++ [y] ++ X.drop (I - a)) (X ++ [y])) := Lib.hid (by
            have c := hC.out
            have := merge_one_right (y := y) (x1 := X.take (I - a)) (x2 := X.drop (I - a)) (by rw [List.take_append_drop]; exact Hx.out) (fun x hx => by have := c.hi x hx; unfold leC at this; omega) c.lo
            rw [List.take_append_drop] at this
            simpa using this)
          go_wp2
          go_returns
          exact ⟨rfl, ⟨_, hres.out, hS2.out⟩, hG2.out⟩

end Go.Proofs.Ytihglmicgccgiaa
