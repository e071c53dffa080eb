/-
  Finding a place in a block: the plain part.
-/
import Derived.Test.YtfkghpomcaonfaaReadBP
namespace Go.Proofs.Ytfkghpomcaonfaa
open Go.RowKit

/-- is a cell ahead of a place? -/
def aheadC (row col : List UInt8) (c : CellA) : Bool := decide (c.row.toList < row) || (decide (c.row.toList = row) && decide (c.col.toList < col))
def isC (row col : List UInt8) (c : CellA) : Bool := decide (c.row.toList = row) && decide (c.col.toList = col)
/-- the first cell of a place -/
def findL (row col : List UInt8) (cs : List CellA) : Option CellA := cs.find? (isC row col)
/-- behind a place -/
def beyC (row col : List UInt8) (c : CellA) : Bool := !aheadC row col c && !isC row col c
theorem ahead_prev {row col : List UInt8} {p c : CellA} (h : cmpC p c < 0) (hc : aheadC row col c = true) : aheadC row col p = true := by
  unfold aheadC at *
  unfold cmpC orI cmpL at h
  grind
theorem ahead_is {row col : List UInt8} {c : CellA} (hc : aheadC row col c = true) : isC row col c = false := by
  unfold aheadC isC at *
  grind
theorem bey_next {row col : List UInt8} {p c : CellA} (h : cmpC p c < 0) (hp : aheadC row col p = false) : aheadC row col c = false := by
  rcases h1 : aheadC row col c with _ | _
  · rfl
  · rw [ahead_prev h h1] at hp; cases hp
theorem bey_is {row col : List UInt8} {p c : CellA} (h : cmpC p c < 0) (hp : beyC row col p = true) : beyC row col c = true := by
  unfold beyC at *
  simp only [Bool.and_eq_true, Bool.not_eq_true'] at *
  refine ⟨bey_next h hp.1, ?_⟩
  have h1 := hp.1
  have h2 := hp.2
  unfold aheadC at h1
  unfold isC at *
  unfold cmpC orI cmpL at h
  grind
/-- sorted: each cell is ahead of the next -/
def Rise (cs : List CellA) : Prop := ∀ k p c, cs[k]? = some p → cs[k + 1]? = some c → cmpC p c < 0
theorem BlockOf.rise {s : List UInt8} {cs : List CellA} (h : BlockOf s cs) : Rise cs := fun k p c hp hc => (wrongB_false h.good (k + 1) c hc).2 p (by omega) (by simpa using hp)
theorem rise_ahead {row col : List UInt8} {cs : List CellA} (h : Rise cs) {i : Nat} {c : CellA} (hc : cs[i]? = some c) (ha : aheadC row col c = true) : ∀ j x, j ≤ i → cs[j]? = some x → aheadC row col x = true := by
  induction i generalizing c with
  | zero => intro j x hj hx; obtain rfl : j = 0 := by omega
            rw [hc] at hx; cases hx; exact ha
  | succ i ih =>
    intro j x hj hx
    have hi : i < cs.length := by have := (List.getElem?_eq_some_iff.1 hc).1; omega
    rcases Nat.eq_or_lt_of_le hj with rfl | hj
    · rw [hc] at hx; cases hx; exact ha
    · exact ih (List.getElem?_eq_getElem hi) (ahead_prev (h i _ c (List.getElem?_eq_getElem hi) hc) ha) j x (by omega) hx
theorem rise_bey {row col : List UInt8} {cs : List CellA} (h : Rise cs) {i : Nat} {c : CellA} (hc : cs[i]? = some c) (ha : beyC row col c = true) : ∀ j x, cs[i + j]? = some x → beyC row col x = true
  | 0, x, hx => by rw [Nat.add_zero, hc] at hx; cases hx; exact ha
  | j + 1, x, hx => by
    have hi : i + j < cs.length := by have := (List.getElem?_eq_some_iff.1 hx).1; omega
    exact bey_is (h (i + j) _ x (List.getElem?_eq_getElem hi) hx) (rise_bey h hc ha j _ (List.getElem?_eq_getElem hi))
/-- all cells ahead of the i-th are ahead of the place -/
def Scanned (row col : List UInt8) (cs : List CellA) (i : Nat) : Prop := ∀ j x, j < i → cs[j]? = some x → aheadC row col x = true
theorem scanned_end {row col : List UInt8} {cs : List CellA} {i : Nat} (h : Scanned row col cs i) (hi : cs.length ≤ i) : findL row col cs = none := by
  unfold findL
  rw [List.find?_eq_none]
  intro x hx
  obtain ⟨j, hj⟩ := List.getElem?_of_mem hx
  rw [ahead_is (h j x (by have := (List.getElem?_eq_some_iff.1 hj).1; omega) hj)]
  exact Bool.false_ne_true
theorem scanned_step {row col : List UInt8} {cs : List CellA} {i : Nat} (h : Scanned row col cs i) {c : CellA} (hc : cs[i]? = some c) (ha : aheadC row col c = true) : Scanned row col cs (i + 1) := fun j x hj hx => by
  rcases Nat.eq_or_lt_of_le (Nat.lt_succ_iff.1 hj) with rfl | hj
  · rw [hc] at hx; cases hx; exact ha
  · exact h j x hj hx
theorem scanned_find {row col : List UInt8} {cs : List CellA} (hr : Rise cs) {i : Nat} (h : Scanned row col cs i) {c : CellA} (hc : cs[i]? = some c) (ha : aheadC row col c = false) : findL row col cs = if isC row col c then some c else none := by
  have hi := (List.getElem?_eq_some_iff.1 hc).1
  have e : cs = cs.take i ++ (c :: cs.drop (i + 1)) := by
    rw [← (List.getElem?_eq_some_iff.1 hc).2, ← List.drop_eq_getElem_cons hi, List.take_append_drop]
  have h1 : (cs.take i).find? (isC row col) = none := by
    rw [List.find?_eq_none]
    intro x hx
    obtain ⟨j, hj⟩ := List.getElem?_of_mem hx
    have hj' := (List.getElem?_eq_some_iff.1 hj).1
    rw [List.length_take] at hj'
    rw [List.getElem?_take_of_lt (by omega)] at hj
    rw [ahead_is (h j x (by omega) hj)]
    exact Bool.false_ne_true
  unfold findL
  rcases hx : isC row col c with _ | _
  · rw [if_neg Bool.false_ne_true, List.find?_eq_none]
    have hb : beyC row col c = true := by unfold beyC; rw [ha, hx]; rfl
    intro x hm
    obtain ⟨j, hj⟩ := List.getElem?_of_mem hm
    rcases Nat.lt_or_ge j i with h2 | h2
    · rw [ahead_is (h j x h2 hj)]; exact Bool.false_ne_true
    · have := rise_bey hr hc hb (j - i) x (by rw [show i + (j - i) = j by omega]; exact hj)
      unfold beyC at this
      simp only [Bool.and_eq_true, Bool.not_eq_true'] at this
      rw [this.2]; exact Bool.false_ne_true
  · rw [if_pos rfl, e, List.find?_append, h1, List.find?_cons_of_pos (by rw [hx])]
    rfl
theorem scanned_of {row col : List UInt8} {cs : List CellA} (hr : Rise cs) {i : Nat} {c : CellA} (hc : cs[i]? = some c) (ha : aheadC row col c = true) : Scanned row col cs i := fun j x hj hx => rise_ahead hr hc ha j x (by omega) hx
theorem scanned_zero (row col : List UInt8) (cs : List CellA) : Scanned row col cs 0 := fun j x hj _ => by omega

theorem placesTo_pre (cs : List CellA) {k m : Nat} (h : k ≤ m) : ∃ r, placesTo cs m = placesTo cs k ++ r := by
  induction m with
  | zero => rw [show k = 0 by omega]; exact ⟨[], (List.append_nil _).symm⟩
  | succ m ih =>
    rcases Nat.lt_or_ge m k with h1 | h1
    · rw [show k = m + 1 by omega]; exact ⟨[], (List.append_nil _).symm⟩
    · obtain ⟨r, hr⟩ := ih h1
      rw [placesTo]
      split
      · rw [hr, List.append_assoc]; exact ⟨_, rfl⟩
      · exact ⟨r, hr⟩
/-- the k-th whole one's place -/
theorem place_at (cs : List CellA) {k : Nat} (h : 8 * k < cs.length) (hb : (bodyTo cs cs.length).length ≤ 32768) :
    (placesTo cs cs.length)[2 * k]? = some (UInt8.ofNat ((bodyTo cs (8 * k)).length / 256)) ∧ (placesTo cs cs.length)[2 * k + 1]? = some (UInt8.ofNat (bodyTo cs (8 * k)).length) ∧ (bodyTo cs (8 * k)).length ≤ 32768 := by
  obtain ⟨r, hr⟩ := placesTo_pre cs (show 8 * k + 1 ≤ cs.length by omega)
  have hl := placesTo_len cs (8 * k)
  have h8 : (8 * k + 7) / 8 = k := by omega
  rw [h8] at hl
  have e : placesTo cs (8 * k + 1) = placesTo cs (8 * k) ++ twoL (bodyTo cs (8 * k)).length := by rw [placesTo, if_pos (by omega)]
  have hle := bodyTo_le cs (show 8 * k ≤ cs.length by omega)
  refine ⟨?_, ?_, by omega⟩
  · rw [hr, e, List.append_assoc, List.getElem?_append_right (by omega), hl, Nat.sub_self]
    simp [twoL]
  · rw [hr, e, List.append_assoc, List.getElem?_append_right (by omega), hl, show 2 * k + 1 - 2 * k = 1 by omega]
    simp [twoL]
theorem cellB_nil (a : List UInt8) : (cellB a []).ok = false := by
  have : (numR []).2.1 = false := by
    unfold numR
    cases h : takeL [] with
    | none => rfl
    | some r => have := takeL_bounds h; simp at this; omega
  simp only [cellB, this, Bool.false_and]
end Go.Proofs.Ytfkghpomcaonfaa
