/-
  Two logs, plainly: what the document reads and what the program reads are one.
-/
import Derived.Test.YteibnignjghedaaAudQ
namespace Go.Proofs.Yteibnignjghedaa
open Go.RowKit Go.Sort

theorem step_spec {i t : Int} {e : EntA} (h : stepL i t e = true) : e.idx = i + 1 ∧ t ≤ e.term ∧ 1 ≤ e.term := by
  simp only [stepL, Bool.and_eq_true, decide_eq_true_eq] at h
  exact ⟨h.1.1.1, h.1.1.2, h.1.2⟩
theorem find_chain (n : Int) : ∀ (es : List EntA) (i t : Int), chainL i t es = true →
    es.find? (fun e => decide (e.idx = n)) = if n ≤ i ∨ (es.length : Int) < n - i then none else es[(n - i - 1).toNat]?
  | [], i, t, _ => by
    split
    · rfl
    · rename_i h; simp only [List.length_nil] at h; omega
  | e :: r, i, t, h => by
    rw [chainL, Bool.and_eq_true] at h
    obtain ⟨h1, h2, h3⟩ := step_spec h.1
    rw [List.find?_cons]
    by_cases hn : e.idx = n
    · rw [decide_eq_true hn]
      simp only
      rw [if_neg (by simp only [List.length_cons]; omega)]
      have : (n - i - 1).toNat = 0 := by omega
      rw [this]; rfl
    · rw [decide_eq_false hn]
      simp only
      rw [find_chain n r e.idx e.term h.2]
      by_cases hc : n ≤ e.idx ∨ (r.length : Int) < n - e.idx
      · rw [if_pos hc, if_pos (by simp only [List.length_cons]; omega)]
      · rw [if_neg hc, if_neg (by simp only [List.length_cons]; omega)]
        have : (n - i - 1).toNat = (n - e.idx - 1).toNat + 1 := by omega
        rw [this, List.getElem?_cons_succ]
theorem chain_mem : ∀ (es : List EntA) (i t : Int), chainL i t es = true → ∀ e ∈ es, i < e.idx ∧ 1 ≤ e.term
  | [], _, _, _, _, h => by cases h
  | e :: r, i, t, h, x, hx => by
    rw [chainL, Bool.and_eq_true] at h
    obtain ⟨h1, h2, h3⟩ := step_spec h.1
    rcases List.mem_cons.1 hx with rfl | hx
    · exact ⟨by omega, h3⟩
    · have := chain_mem r e.idx e.term h.2 x hx
      exact ⟨by omega, this.2⟩
theorem may_chain {s : SeenA} (h : mayS s = true) : chainL s.bidx s.bterm s.es = true := by
  simp only [mayS, Bool.and_eq_true] at h; exact h.1.2
theorem may_base {s : SeenA} (h : mayS s = true) (h0 : s.bidx ≠ 0) : s.bterm ≠ 0 := by
  simp only [mayS, Bool.and_eq_true] at h
  have := h.1.1.2
  simp [baseS, zeroS, h0] at this
  exact this.1
theorem entry_at {s : SeenA} (h : mayS s = true) (n : Int) : entryL s n = atX s n := by
  rw [entryL, find_chain n s.es s.bidx s.bterm (may_chain h), atX]
theorem pair_at (b : SeenA) (x : EntA) : pairL b x = (atX b x.idx).map fun y => (x, y) := by
  unfold pairL atX
  split <;> rfl
theorem rcommon_eq (a : SeenA) {b : SeenA} (h : mayS b = true) : rcommonL a b = commonL a b := by
  have : rpairL b = pairL b := by
    funext x
    rw [rpairL, entry_at h, pair_at]
  rw [rcommonL, commonL, this]
theorem rforms_eq (a : SeenA) {b : SeenA} (h : mayS b = true) : rformsL a b = formsL a b := by rw [rformsL, formsL, rcommon_eq a h]
theorem at_mem {s : SeenA} {n : Int} {e : EntA} (h : mayS s = true) (he : atX s n = some e) : e ∈ s.es ∧ e.idx = n := by
  rw [← entry_at h] at he
  exact ⟨List.mem_of_find?_eq_some he, by have := List.find?_some he; simpa using this⟩
theorem mem_at {s : SeenA} {e : EntA} (h : mayS s = true) (he : e ∈ s.es) : atX s e.idx = some e := by
  have hc := may_chain h
  rw [← entry_at h]
  -- the first of its index is it
  have : ∀ (es : List EntA) (i t : Int), chainL i t es = true → e ∈ es → es.find? (fun x => decide (x.idx = e.idx)) = some e := by
    intro es
    induction es with
    | nil => intro _ _ _ hm; cases hm
    | cons x r ih =>
      intro i t hx hm
      rw [chainL, Bool.and_eq_true] at hx
      rw [List.find?_cons]
      rcases List.mem_cons.1 hm with rfl | hm
      · simp
      · have h1 := (chain_mem r x.idx x.term hx.2 e hm).1
        have : decide (x.idx = e.idx) = false := by simp; omega
        rw [this]
        exact ih _ _ hx.2 hm
  exact this _ _ _ hc he
theorem at_low {s : SeenA} {n : Int} (h : n ≤ s.bidx) : atX s n = none := if_pos (.inl h)
theorem same_term {x y : EntA} (h : sameE x y = true) : x.term = y.term := by
  have h2 : x.says = y.says := by
    rcases Classical.em (x.says = y.says) with e | e
    · exact e
    · simp [sameE, e] at h
  simp only [EntA.says, Prod.mk.injEq] at h2
  exact h2.2.1
theorem rbase_eq {a b : SeenA} (ha : a.Ok) (hb : b.Ok) (h : mayS b = true) (most : Int) : rbaseL a b most = basedL a b most := by
  have hi := ha.i0
  have ht := hb.t0
  rw [rbaseL, basedL]
  by_cases h0 : a.bidx = 0 ∨ most < a.bidx
  · rw [if_pos h0]
    rcases h0 with h0 | h0
    · simp [h0]
    · have : ¬ a.bidx ≤ most := by omega
      simp [this]
  · rw [if_neg h0]
    have h1 : 0 < a.bidx := by omega
    have h2 : a.bidx ≤ most := by omega
    by_cases h3 : a.bidx = b.bidx
    · have hT : termL b a.bidx = b.bterm := if_pos h3
      have := may_base h (by omega)
      have h4 : 0 < b.bterm := by omega
      rw [if_pos h3]
      simp [h1, h2, hT, h4, eq_comm]
    · rw [if_neg h3]
      have hT : termL b a.bidx = (entryE b a.bidx).term := if_neg h3
      rw [entryE, entry_at h] at hT
      cases hx : atX b a.bidx with
      | none =>
        rw [hx] at hT
        have hT : termL b a.bidx = 0 := hT
        simp [hT]
      | some e =>
        rw [hx] at hT
        have hT : termL b a.bidx = e.term := hT
        have := (chain_mem _ _ _ (may_chain h) e (at_mem h hx).1).2
        have h4 : 0 < e.term := by omega
        simp [h1, h2, hT, h4]
theorem busyF_iff (most : Int) (l : List (EntA × EntA)) : busyF most l = true ↔ ∃ p ∈ l, p.1.idx ≤ most ∧ sameE p.1 p.2 = false := by
  simp [busyF, List.any_eq_true]
theorem mem_commonL {a b : SeenA} {p : EntA × EntA} : p ∈ commonL a b ↔ p.1 ∈ a.es ∧ atX b p.1.idx = some p.2 := by
  rw [commonL, List.mem_filterMap]
  constructor
  · rintro ⟨x, hx, h⟩
    rw [pair_at] at h
    cases he : atX b x.idx with
    | none => rw [he] at h; cases h
    | some y => rw [he] at h; cases h; exact ⟨hx, he⟩
  · rintro ⟨h1, h2⟩
    exact ⟨p.1, h1, by rw [pair_at, h2]; rfl⟩
theorem based_iff {a b : SeenA} {most : Int} : basedL a b most = true ↔ a.bidx ≠ 0 ∧ a.bidx ≤ most ∧ ((a.bidx = b.bidx ∧ a.bterm ≠ b.bterm) ∨ (a.bidx ≠ b.bidx ∧ ∃ e, atX b a.bidx = some e ∧ e.term ≠ a.bterm)) := by
  rw [basedL]
  by_cases h0 : a.bidx = 0 ∨ most < a.bidx
  · rw [if_pos h0]
    constructor
    · intro h; cases h
    · rintro ⟨h1, h2, _⟩; omega
  · rw [if_neg h0]
    have h1 : a.bidx ≠ 0 := by omega
    have h2 : a.bidx ≤ most := by omega
    by_cases h3 : a.bidx = b.bidx
    · rw [if_pos h3]; simp [h3]; omega
    · rw [if_neg h3]
      cases he : atX b a.bidx with
      | none => simp [h3]
      | some e => simp [h1, h2, h3]
theorem rbusy_eq {a b : SeenA} (ha : a.Ok) (hb : b.Ok) (h1 : mayS a = true) (h2 : mayS b = true) : rbusyL a b = busyL a b := by
  obtain ⟨most, hm⟩ : ∃ m, m = min a.com b.com := ⟨_, rfl⟩
  have hb0 := hb.i0
  have hbt := hb.t0
  rw [rbusyL, busyL, ← hm, rbase_eq ha hb h2, Bool.eq_iff_iff]
  simp only [Bool.or_eq_true]
  have key : a.es.any (rbadL b most) = true ↔ busyF most (commonL a b) = true ∨ (a.bidx ≠ b.bidx ∧ basedL b a most = true) := by
    rw [List.any_eq_true, busyF_iff, based_iff]
    constructor
    · rintro ⟨x, hx, hbad⟩
      have hxi := (chain_mem _ _ _ (may_chain h1) x hx)
      simp only [rbadL, Bool.and_eq_true, Bool.or_eq_true, decide_eq_true_eq, Bool.not_eq_true', decide_eq_false_iff_not] at hbad
      obtain ⟨hle, hbad⟩ := hbad
      rw [entry_at h2, termL] at hbad
      by_cases hxb : x.idx = b.bidx
      · rw [if_pos hxb, at_low (by omega)] at hbad
        rcases hbad with hbad | ⟨h3, h4⟩
        · cases hbad
        · right
          refine ⟨by omega, ?_, by omega, .inr ⟨by omega, x, ?_, fun e => h4 e.symm⟩⟩
          · intro e
            have hz := h2
            simp only [mayS, Bool.and_eq_true] at hz
            have := hz.1.1.2
            simp [baseS, zeroS, e] at this
            omega
          · rw [← hxb]; exact mem_at h1 hx
      · rw [if_neg hxb, entryE, entry_at h2] at hbad
        cases he : atX b x.idx with
        | none => rw [he] at hbad; simp [zeroE] at hbad
        | some y =>
          rw [he] at hbad
          left
          refine ⟨(x, y), mem_commonL.2 ⟨hx, he⟩, hle, ?_⟩
          rcases hbad with hbad | ⟨_, h4⟩
          · simpa using hbad
          · cases hs : sameE x y with
            | false => rfl
            | true => exact absurd (same_term hs).symm h4
    · rintro (⟨⟨x, y⟩, hp, hle, hs⟩ | ⟨hne, h3, h4, h5⟩)
      · obtain ⟨hx, he⟩ := mem_commonL.1 hp
        refine ⟨x, hx, ?_⟩
        simp only at hle hs he
        simp only [rbadL, Bool.and_eq_true, Bool.or_eq_true, decide_eq_true_eq]
        exact ⟨hle, .inl (by rw [entry_at h2, he]; simp [hs])⟩
      · rcases h5 with ⟨h5, _⟩ | ⟨h5, e, he, h6⟩
        · exact absurd h5.symm hne
        · obtain ⟨hm1, hm2⟩ := at_mem h1 he
          refine ⟨e, hm1, ?_⟩
          have := may_base h2 h3
          have hT : termL b e.idx = b.bterm := if_pos hm2
          simp only [rbadL, hT, Bool.and_eq_true, Bool.or_eq_true, decide_eq_true_eq, Bool.not_eq_true', decide_eq_false_iff_not]
          exact ⟨by omega, .inr ⟨by omega, fun e => h6 e.symm⟩⟩
  rw [key]
  constructor
  · rintro ((h | ⟨_, h⟩) | h)
    · exact .inl (.inl h)
    · exact .inr h
    · exact .inl (.inr h)
  · rintro ((h | h) | h)
    · exact .inl (.inl h)
    · exact .inr h
    · by_cases hne : a.bidx = b.bidx
      · right
        rw [based_iff] at h ⊢
        obtain ⟨h3, h4, h5⟩ := h
        refine ⟨by omega, by omega, .inl ⟨hne, ?_⟩⟩
        rcases h5 with ⟨_, h5⟩ | ⟨h5, _⟩
        · exact fun e => h5 e.symm
        · exact absurd hne.symm h5
      · exact .inl (.inr ⟨hne, h⟩)
end Go.Proofs.Yteibnignjghedaa
