/-
  Plain facts on stable order: sorted lists that keep each class of equals, merged and turned about; no program in sight.
-/
import Derived.Test.YtehbikofoidjhaaSortPlain
namespace Go.Proofs.Ytehbikofoidjhaa

theorem cmp_neg_iff (a b : CellA) : cmpC a b < 0 ↔ cmpC a b = -1 := by have := cmpC_neg a b; omega
theorem cmp_flip (a b : CellA) : cmpC a b < 0 ↔ 0 < cmpC b a := by have := cmpC_neg a b; omega
theorem cmp_zero_flip {a b : CellA} : cmpC a b = 0 ↔ cmpC b a = 0 := by have := cmpC_neg a b; omega
theorem cmp_self (a : CellA) : cmpC a a = 0 := by have := cmpC_neg a a; omega
theorem cmpL_neg (a b : List UInt8) : cmpL a b < 0 ↔ a < b := by grind [cmpL]
theorem cmpL_zero (a b : List UInt8) : cmpL a b = 0 ↔ a = b := by grind [cmpL]
theorem cmp_neg (a b : CellA) : cmpC a b < 0 ↔ a.row.toList < b.row.toList ∨ (a.row.toList = b.row.toList ∧ (a.col.toList < b.col.toList ∨ (a.col.toList = b.col.toList ∧ b.ver < a.ver))) := by
  unfold cmpC orI
  have h1 := cmpL_neg a.row.toList b.row.toList
  have h2 := cmpL_zero a.row.toList b.row.toList
  have h3 := cmpL_neg a.col.toList b.col.toList
  have h4 := cmpL_zero a.col.toList b.col.toList
  have h5 : cmpN b.ver a.ver < 0 ↔ b.ver < a.ver := by unfold cmpN; split <;> (try split) <;> omega
  have h6 : a.row.toList = b.row.toList → ¬ a.row.toList < b.row.toList := fun h => by rw [h]; exact List.lt_irrefl _
  have h7 : a.col.toList = b.col.toList → ¬ a.col.toList < b.col.toList := fun h => by rw [h]; exact List.lt_irrefl _
  by_cases g1 : cmpL a.row.toList b.row.toList = 0
  · rw [if_neg (by simpa using g1)]
    have k1 := h2.1 g1
    by_cases g2 : cmpL a.col.toList b.col.toList = 0
    · rw [if_neg (by simpa using g2), h5]
      have k2 := h4.1 g2
      constructor
      · intro h; exact .inr ⟨k1, .inr ⟨k2, h⟩⟩
      · rintro (h | ⟨_, h | ⟨_, h⟩⟩)
        · exact absurd h (h6 k1)
        · exact absurd h (h7 k2)
        · exact h
    · rw [if_pos g2, h3]
      constructor
      · intro h; exact .inr ⟨k1, .inl h⟩
      · rintro (h | ⟨_, h | ⟨h, _⟩⟩)
        · exact absurd h (h6 k1)
        · exact h
        · exact absurd (h4.2 h) g2
  · rw [if_pos g1, h1]
    constructor
    · exact .inl
    · rintro (h | ⟨h, _⟩)
      · exact h
      · exact absurd (h2.2 h) g1
theorem cmp_zero (a b : CellA) : cmpC a b = 0 ↔ a.row.toList = b.row.toList ∧ a.col.toList = b.col.toList ∧ a.ver = b.ver := by
  unfold cmpC orI
  have h2 := cmpL_zero a.row.toList b.row.toList
  have h4 := cmpL_zero a.col.toList b.col.toList
  have h5 : cmpN b.ver a.ver = 0 ↔ a.ver = b.ver := by unfold cmpN; split <;> (try split) <;> omega
  by_cases g1 : cmpL a.row.toList b.row.toList = 0
  · rw [if_neg (by simpa using g1)]
    by_cases g2 : cmpL a.col.toList b.col.toList = 0
    · rw [if_neg (by simpa using g2), h5]
      exact ⟨fun h => ⟨h2.1 g1, h4.1 g2, h⟩, fun h => h.2.2⟩
    · rw [if_pos g2]
      exact ⟨fun h => absurd h g2, fun h => h4.2 h.2.1⟩
  · rw [if_pos g1]
    exact ⟨fun h => absurd h g1, fun h => h2.2 h.1⟩
theorem cmp_lt_trans {a b c : CellA} (h : cmpC a b < 0) (k : cmpC b c < 0) : cmpC a c < 0 := by
  rw [cmp_neg] at *
  rcases h with h | ⟨h1, h | ⟨h2, h3⟩⟩ <;> rcases k with k | ⟨k1, k | ⟨k2, k3⟩⟩
  · exact .inl (List.lt_trans h k)
  · exact .inl (k1 ▸ h)
  · exact .inl (k1 ▸ h)
  · exact .inl (h1 ▸ k)
  · exact .inr ⟨h1.trans k1, .inl (List.lt_trans h k)⟩
  · exact .inr ⟨h1.trans k1, .inl (k2 ▸ h)⟩
  · exact .inl (h1 ▸ k)
  · exact .inr ⟨h1.trans k1, .inl (h2 ▸ k)⟩
  · exact .inr ⟨h1.trans k1, .inr ⟨h2.trans k2, by omega⟩⟩
theorem cmp_lt_eq {a b c : CellA} (h : cmpC a b < 0) (k : cmpC b c = 0) : cmpC a c < 0 := by
  rw [cmp_zero] at k
  rw [cmp_neg] at *
  rwa [← k.1, ← k.2.1, ← k.2.2]
theorem cmp_eq_lt {a b c : CellA} (h : cmpC a b = 0) (k : cmpC b c < 0) : cmpC a c < 0 := by
  rw [cmp_zero] at h
  rw [cmp_neg] at *
  rwa [h.1, h.2.1, h.2.2]
theorem cmp_eq_trans {a b c : CellA} (h : cmpC a b = 0) (k : cmpC b c = 0) : cmpC a c = 0 := by
  rw [cmp_zero] at *
  exact ⟨h.1.trans k.1, h.2.1.trans k.2.1, h.2.2.trans k.2.2⟩

/-- a may stand ahead of b -/
def leC (a b : CellA) : Prop := ¬ cmpC b a < 0
theorem leC_refl (a : CellA) : leC a a := by unfold leC; rw [cmp_self]; decide
theorem leC_iff (a b : CellA) : leC a b ↔ cmpC a b < 0 ∨ cmpC a b = 0 := by have := cmpC_neg a b; unfold leC; omega
theorem leC_trans {a b c : CellA} (h : leC a b) (k : leC b c) : leC a c := by
  rw [leC_iff] at *
  rcases h with h | h <;> rcases k with k | k
  · exact .inl (cmp_lt_trans h k)
  · exact .inl (cmp_lt_eq h k)
  · exact .inl (cmp_eq_lt h k)
  · exact .inr (cmp_eq_trans h k)
theorem lt_le_trans {a b c : CellA} (h : cmpC a b < 0) (k : leC b c) : cmpC a c < 0 := by
  rw [leC_iff] at k
  rcases k with k | k
  · exact cmp_lt_trans h k
  · exact cmp_lt_eq h k
theorem le_lt_trans {a b c : CellA} (h : leC a b) (k : cmpC b c < 0) : cmpC a c < 0 := by
  rw [leC_iff] at h
  rcases h with h | h
  · exact cmp_lt_trans h k
  · exact cmp_eq_lt h k
theorem lt_leC {a b : CellA} (h : cmpC a b < 0) : leC a b := (leC_iff a b).2 (.inl h)

def Srt (l : List CellA) : Prop := l.Pairwise leC
def eqvC (x y : CellA) : Bool := decide (cmpC x y = 0)
theorem eqvC_self (x : CellA) : eqvC x x = true := by simp [eqvC, cmp_self]

structure IsSort (z l : List CellA) : Prop where
  srt : Srt z
  flt : ∀ x, z.filter (eqvC x) = l.filter (eqvC x)
  len : z.length = l.length
theorem flt_mem {z l : List CellA} (h : ∀ x, z.filter (eqvC x) = l.filter (eqvC x)) {x : CellA} (hx : x ∈ z) : x ∈ l := by
  have : x ∈ z.filter (eqvC x) := List.mem_filter.2 ⟨hx, eqvC_self x⟩
  rw [h x] at this
  exact (List.mem_filter.1 this).1
theorem IsSort.mem {z l : List CellA} (h : IsSort z l) {x : CellA} (hx : x ∈ z) : x ∈ l := flt_mem h.flt hx
theorem IsSort.of_srt {l : List CellA} (h : Srt l) : IsSort l l := ⟨h, fun _ => rfl, rfl⟩
theorem IsSort.trans {z l k : List CellA} (h : IsSort z l) (hf : ∀ x, l.filter (eqvC x) = k.filter (eqvC x)) (hl : l.length = k.length) : IsSort z k := ⟨h.srt, fun x => (h.flt x).trans (hf x), h.len.trans hl⟩

/-- one list alone is sorted and keeps its classes -/
theorem sort_unique : ∀ {z y : List CellA}, Srt z → Srt y → (∀ x, z.filter (eqvC x) = y.filter (eqvC x)) → z = y
  | [], [], _, _, _ => rfl
  | [], b :: y, _, _, h => by
    have := h b
    simp [List.filter_cons, eqvC_self] at this
  | a :: z, [], _, _, h => by
    have := h a
    simp [List.filter_cons, eqvC_self] at this
  | a :: z, b :: y, hz, hy, h => by
    have hab : eqvC a b = true := by
      rcases cmpC_neg a b with ⟨k, _⟩ | ⟨k, _⟩ | ⟨_, k⟩
      · have ha : a ∈ b :: y := flt_mem h (List.mem_cons_self ..)
        rcases List.mem_cons.1 ha with e | e
        · rw [e]; exact eqvC_self b
        · have := (List.pairwise_cons.1 hy).1 a e
          unfold leC at this; omega
      · simpa [eqvC] using k
      · have hb : b ∈ a :: z := flt_mem (fun x => (h x).symm) (List.mem_cons_self ..)
        rcases List.mem_cons.1 hb with e | e
        · rw [e]; exact eqvC_self a
        · have := (List.pairwise_cons.1 hz).1 b e
          unfold leC at this; omega
    have h1 := h a
    rw [List.filter_cons, List.filter_cons, if_pos (eqvC_self a), if_pos hab] at h1
    obtain ⟨e1, _⟩ := List.cons.inj h1
    subst e1
    refine congrArg _ (sort_unique (List.pairwise_cons.1 hz).2 (List.pairwise_cons.1 hy).2 fun x => ?_)
    have h2 := h x
    rw [List.filter_cons, List.filter_cons] at h2
    by_cases hx : eqvC x a = true
    · rw [if_pos hx, if_pos hx] at h2; exact (List.cons.inj h2).2
    · rw [if_neg hx, if_neg hx] at h2; exact h2

/-- two classes that do not meet may be turned about -/
theorem flt_swap {a b : List CellA} (h : ∀ y ∈ b, ∀ x ∈ a, cmpC y x < 0) (x : CellA) : (a ++ b).filter (eqvC x) = (b ++ a).filter (eqvC x) := by
  rw [List.filter_append, List.filter_append]
  by_cases ha : a.filter (eqvC x) = []
  · rw [ha]; simp
  · obtain ⟨p, hp⟩ := List.exists_mem_of_ne_nil _ ha
    obtain ⟨hp1, hp2⟩ := List.mem_filter.1 hp
    have hb : b.filter (eqvC x) = [] := by
      rw [List.filter_eq_nil_iff]
      intro y hy he
      have h1 := h y hy p hp1
      simp only [eqvC, decide_eq_true_eq] at hp2 he
      have := cmp_eq_trans (cmp_zero_flip.1 he) hp2
      omega
    rw [hb]; simp

theorem srt_append {a b : List CellA} : Srt (a ++ b) ↔ Srt a ∧ Srt b ∧ ∀ x ∈ a, ∀ y ∈ b, leC x y := List.pairwise_append

theorem merge_split {x1 x2 y1 y2 z1 z2 : List CellA} (hx : Srt (x1 ++ x2)) (hy : Srt (y1 ++ y2)) (h1 : ∀ y ∈ y1, ∀ x ∈ x2, cmpC y x < 0) (h2 : ∀ x ∈ x1, ∀ y ∈ y2, leC x y)
    (hz1 : IsSort z1 (x1 ++ y1)) (hz2 : IsSort z2 (x2 ++ y2)) : IsSort (z1 ++ z2) ((x1 ++ x2) ++ (y1 ++ y2)) := by
  obtain ⟨_, _, hx3⟩ := srt_append.1 hx
  obtain ⟨_, _, hy3⟩ := srt_append.1 hy
  refine ⟨srt_append.2 ⟨hz1.srt, hz2.srt, fun a ha b hb => ?_⟩, fun x => ?_, ?_⟩
  · rcases List.mem_append.1 (hz1.mem ha) with ha | ha <;> rcases List.mem_append.1 (hz2.mem hb) with hb | hb
    · exact hx3 a ha b hb
    · exact h2 a ha b hb
    · exact lt_leC (h1 a ha b hb)
    · exact hy3 a ha b hb
  · have hs := flt_swap h1 x
    rw [List.filter_append, List.filter_append] at hs
    rw [List.filter_append, hz1.flt, hz2.flt]
    simp only [List.filter_append, List.append_assoc]
    rw [← List.append_assoc (List.filter (eqvC x) y1), ← hs, List.append_assoc]
  · simp only [List.length_append, hz1.len, hz2.len]; omega

theorem merge_one_left {x : CellA} {y1 y2 : List CellA} (hy : Srt (y1 ++ y2)) (h1 : ∀ y ∈ y1, cmpC y x < 0) (h2 : ∀ y ∈ y2, leC x y) : IsSort (y1 ++ x :: y2) ([x] ++ (y1 ++ y2)) := by
  obtain ⟨hy1, hy2, _⟩ := srt_append.1 hy
  have := merge_split (x1 := []) (x2 := [x]) (z1 := y1) (z2 := x :: y2) (by simp [Srt]) hy (fun y hy' z hz => by rw [List.mem_singleton.1 hz]; exact h1 y hy') (by simp)
    (by simpa using IsSort.of_srt hy1) (by simpa using IsSort.of_srt (show Srt (x :: y2) from List.pairwise_cons.2 ⟨h2, hy2⟩))
  simpa using this
theorem merge_one_right {y : CellA} {x1 x2 : List CellA} (hx : Srt (x1 ++ x2)) (h1 : ∀ x ∈ x2, cmpC y x < 0) (h2 : ∀ x ∈ x1, leC x y) : IsSort (x1 ++ y :: x2) ((x1 ++ x2) ++ [y]) := by
  obtain ⟨hx1, hx2, _⟩ := srt_append.1 hx
  have := merge_split (y1 := [y]) (y2 := []) (z1 := x1 ++ [y]) (z2 := x2) hx (by simp [Srt]) (fun z hz x hx' => by rw [List.mem_singleton.1 hz]; exact h1 x hx') (by simp)
    (IsSort.of_srt (srt_append.2 ⟨hx1, by simp [Srt], fun a ha b hb => by rw [List.mem_singleton.1 hb]; exact h2 a ha⟩)) (by simpa using IsSort.of_srt hx2)
  simpa using this

/-! ### insertion -/
theorem insR_spec (x : CellA) : ∀ (r : List CellA), Srt r.reverse → Srt (insR x r).reverse ∧ ∀ y, (insR x r).reverse.filter (eqvC y) = (r.reverse ++ [x]).filter (eqvC y)
  | [], _ => by simp [insR, Srt]
  | y :: r, h => by
    rw [List.reverse_cons, srt_append] at h
    obtain ⟨h1, _, h3⟩ := h
    rw [insR]
    by_cases hc : cmpC x y < 0
    · rw [if_pos hc]
      obtain ⟨i1, i2⟩ := insR_spec x r h1
      rw [List.reverse_cons, List.reverse_cons]
      refine ⟨srt_append.2 ⟨i1, by simp [Srt], fun a ha b hb => ?_⟩, fun z => ?_⟩
      · rw [List.mem_singleton.1 hb]
        have := flt_mem i2 ha
        rcases List.mem_append.1 this with ha | ha
        · exact h3 a ha y (by simp)
        · rw [List.mem_singleton.1 ha]; exact lt_leC hc
      · have hs := flt_swap (a := [y]) (b := [x]) (by simpa using hc) z
        rw [List.filter_append, i2 z, List.filter_append, List.append_assoc, ← List.filter_append, ← hs, List.append_assoc, List.filter_append, List.filter_append, List.filter_append]
    · rw [if_neg hc]
      rw [List.reverse_cons, List.reverse_cons]
      refine ⟨srt_append.2 ⟨srt_append.2 ⟨h1, by simp [Srt], h3⟩, by simp [Srt], fun a ha b hb => ?_⟩, fun z => rfl⟩
      rw [List.mem_singleton.1 hb]
      rcases List.mem_append.1 ha with ha | ha
      · exact leC_trans (h3 a ha y (by simp)) hc
      · rw [List.mem_singleton.1 ha]; exact hc
theorem isort_spec (l : List CellA) : IsSort (isort l) l := by
  have key : ∀ (l r : List CellA), Srt r.reverse → Srt (l.foldl (fun r x => insR x r) r).reverse ∧ ∀ y, (l.foldl (fun r x => insR x r) r).reverse.filter (eqvC y) = (r.reverse ++ l).filter (eqvC y) := by
    intro l
    induction l with
    | nil => intro r h; simp [h]
    | cons x l ih =>
      intro r h
      obtain ⟨h1, h2⟩ := insR_spec x r h
      obtain ⟨i1, i2⟩ := ih (insR x r) h1
      rw [List.foldl_cons]
      refine ⟨i1, fun y => ?_⟩
      rw [i2 y, List.filter_append, h2 y, List.filter_append, List.filter_append, List.append_assoc, ← List.filter_append, List.singleton_append]
  obtain ⟨h1, h2⟩ := key l [] (by simp [Srt])
  exact ⟨h1, fun y => by have := h2 y; rw [List.reverse_nil, List.nil_append] at this; exact this, isort_len l⟩
theorem isort_of {z l : List CellA} (h : Srt z) (hf : ∀ x, z.filter (eqvC x) = l.filter (eqvC x)) : z = isort l :=
  sort_unique h (isort_spec l).srt fun x => (hf x).trans ((isort_spec l).flt x).symm

/-! ### by places -/
theorem srt_at {l : List CellA} (h : Srt l) {i j : Nat} (hij : i ≤ j) {x y : CellA} (hx : l[i]? = some x) (hy : l[j]? = some y) : leC x y := by
  rcases Nat.lt_or_ge i j with h1 | h1
  · obtain ⟨a, rfl⟩ := List.getElem?_eq_some_iff.1 hx
    obtain ⟨b, rfl⟩ := List.getElem?_eq_some_iff.1 hy
    exact List.pairwise_iff_getElem.1 h i j a b h1
  · obtain rfl : i = j := by omega
    rw [hx] at hy
    rw [Option.some.inj hy]
    exact leC_refl y
/-- sorted from i to j -/
def SrtOn (l : List CellA) (i j : Nat) : Prop := Srt ((l.drop i).take (j - i))
theorem srtOn_all {l : List CellA} {n : Nat} (h : SrtOn l 0 n) (hn : l.length ≤ n) : Srt l := by
  unfold SrtOn at h
  rwa [List.drop_zero, List.take_of_length_le (by omega)] at h
theorem srtOn_mid {pre z suf : List CellA} (h : Srt z) {a b : Nat} (ha : pre.length = a) (hb : a + z.length = b) : SrtOn (pre ++ z ++ suf) a b := by
  unfold SrtOn
  rw [List.append_assoc, List.drop_left' ha, List.take_left' (by omega)]
  exact h
theorem srtOn_pre {pre z z' suf : List CellA} {i j : Nat} (hj : j ≤ pre.length) (h : SrtOn (pre ++ z ++ suf) i j) : SrtOn (pre ++ z' ++ suf) i j := by
  unfold SrtOn at *
  rw [← List.drop_take] at *
  rw [List.append_assoc, List.take_append_of_le_length hj] at *
  exact h
theorem srtOn_suf {pre z z' suf : List CellA} {i j : Nat} (hl : z'.length = z.length) (hi : pre.length + z.length ≤ i) (h : SrtOn (pre ++ z ++ suf) i j) : SrtOn (pre ++ z' ++ suf) i j := by
  unfold SrtOn at *
  rw [List.drop_append, List.drop_eq_nil_of_le (by simp; omega)] at *
  simp only [List.length_append, hl, List.nil_append] at *
  exact h
theorem srtOn_seg {l : List CellA} {i j : Nat} (h : SrtOn l i j) : Srt ((l.drop i).take (j - i)) := h
theorem srtOn_empty {l : List CellA} {i j : Nat} (h : j ≤ i) : SrtOn l i j := by
  unfold SrtOn
  rw [Nat.sub_eq_zero_of_le h, List.take_zero]
  exact List.Pairwise.nil
/-- a list in three -/
theorem three {l : List CellA} {a b : Nat} (h : a ≤ b) : l = l.take a ++ (l.drop a).take (b - a) ++ l.drop b := by
  rw [List.append_assoc]
  have : (l.drop a).take (b - a) ++ l.drop b = l.drop a := by
    have h2 : l.drop b = (l.drop a).drop (b - a) := by rw [List.drop_drop]; congr 1; omega
    rw [h2, List.take_append_drop]
  rw [this, List.take_append_drop]

end Go.Proofs.Ytehbikofoidjhaa
