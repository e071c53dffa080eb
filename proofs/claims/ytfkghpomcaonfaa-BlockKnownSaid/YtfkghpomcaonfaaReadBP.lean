/-
  Reading a block, cell by cell: the plain part, and what a round of block.Read keeps.
-/
import Derived.Test.YtfkghpomcaonfaaTakeW
import Derived.Test.YtfkghpomcaonfaaBuildW
import Derived.Test.YtfkghpomcaonfaaPartsB
import Derived.Test.YtfkghpomcaonfaaLits
namespace Go.Proofs.Ytfkghpomcaonfaa
open Go.RowKit

theorem textR_most (m : Int) (l : List UInt8) (h : 0 ≤ m) : ((textR m l).1.length : Int) ≤ m := by
  unfold textR textL
  cases takeL l with
  | none => simpa using h
  | some r =>
    simp only
    split
    · rename_i h1
      split at h1
      · cases h1
      · cases h1
        simp only [List.length_take]
        omega
    · simpa using h
theorem cellB_small (a l : List UInt8) : (cellB a l).x.row.size ≤ a.length + 32 ∧ (cellB a l).x.col.size ≤ 16 ∧ (cellB a l).x.val.size ≤ 65536 ∧ U64 (cellB a l).x.ver ∧ (cellB a l).rest.length ≤ l.length := by
  have n1 := numR_rest l
  have n2 := textR_rest 32 (numR l).2.2
  have m2 := textR_most 32 (numR l).2.2 (by decide)
  have n3 := textR_rest 16 (textR 32 (numR l).2.2).2.2
  have m3 := textR_most 16 (textR 32 (numR l).2.2).2.2 (by decide)
  have n4 := numR_rest (textR 16 (textR 32 (numR l).2.2).2.2).2.2
  have m4 := numR_lt (textR 16 (textR 32 (numR l).2.2).2.2).2.2
  have n5 := byteR_rest (numR (textR 16 (textR 32 (numR l).2.2).2.2).2.2).2.2
  have n6 := textR_rest 65536 (byteR (numR (textR 16 (textR 32 (numR l).2.2).2.2).2.2).2.2).2.2
  have m6 := textR_most 65536 (byteR (numR (textR 16 (textR 32 (numR l).2.2).2.2).2.2).2.2).2.2 (by decide)
  refine ⟨?_, ?_, ?_, ?_, ?_⟩
  · simp only [cellB, ofL_size, List.length_append, List.length_take]; omega
  · simp only [cellB, ofL_size]; omega
  · simp only [cellB, ofL_size]; omega
  · exact ⟨by simp only [cellB]; omega, by simp only [cellB]; omega⟩
  · simp only [cellB]; omega
theorem aheadB_if (cs : List CellA) (k : Nat) : aheadB cs k = if k % 8 = 0 then ⟨#[]⟩ else prevB cs k := by
  split
  · rename_i h; exact aheadB_zero h
  · rename_i h; exact aheadB_prev h
theorem aheadB_take {ds : List CellA} {k : Nat} (h : k ≤ ds.length) : aheadB (ds.take k) k = aheadB ds k := by
  by_cases h8 : k % 8 = 0
  · rw [aheadB, aheadB, if_pos h8, if_pos h8]
  · rw [aheadB, aheadB, if_neg h8, if_neg h8, List.getElem?_take_of_lt (by omega)]
theorem aheadB_snoc (cs : List CellA) (x : CellA) : aheadB (cs ++ [x]) cs.length = aheadB cs cs.length := by
  have := aheadB_take (ds := cs ++ [x]) (k := cs.length) (by simp)
  rw [List.take_left] at this
  exact this.symm
theorem bodyTo_snoc (cs : List CellA) (x : CellA) : bodyTo (cs ++ [x]) (cs ++ [x]).length = bodyTo cs cs.length ++ layL (aheadB cs cs.length).toList x := by
  rw [List.length_append, List.length_singleton, bodyTo_succ (c := x) (by simp), aheadB_snoc, ← bodyTo_take (cs ++ [x]) cs.length cs.length (Nat.le_refl _), List.take_left]
theorem prevB_snoc (cs : List CellA) (x : CellA) : prevB (cs ++ [x]) (cs ++ [x]).length = x.row := by
  rw [List.length_append, List.length_singleton]; exact prevB_succ (by simp)
/-- what a reader has so far: of whatever block these are the bytes, it has the first cells -/
def Sofar (s : List UInt8) (cs : List CellA) (rest : List UInt8) : Prop := ∀ ds, BlockOf s ds → cs.length ≤ ds.length ∧ cs = ds.take cs.length ∧ rest = bodyFrom ds cs.length
theorem sofar_zero {s body p : List UInt8} (h : partsL s = some (body, p)) : Sofar s [] body := fun ds hd => by
  have := (parts_block hd).symm.trans h
  simp only [Option.some.injEq, Prod.mk.injEq] at this
  exact ⟨Nat.zero_le _, by simp, by rw [List.length_nil, bodyFrom_zero, this.1]⟩
theorem sofar_next {s body p rest : List UInt8} {cs : List CellA} (h : partsL s = some (body, p)) (hs : Sofar s cs rest) (hlt : (bodyTo cs cs.length).length < body.length) :
    (∀ ds, BlockOf s ds → (cellB (aheadB cs cs.length).toList rest).ok = true) ∧ Sofar s (cs ++ [(cellB (aheadB cs cs.length).toList rest).x]) (cellB (aheadB cs cs.length).toList rest).rest := by
  have key : ∀ ds, BlockOf s ds → ∃ c, ds[cs.length]? = some c ∧ cellB (aheadB cs cs.length).toList rest = ⟨c, true, bodyFrom ds (cs.length + 1)⟩ := fun ds hd => by
    obtain ⟨h1, h2, h3⟩ := hs ds hd
    have hb := (parts_block hd).symm.trans h
    simp only [Option.some.injEq, Prod.mk.injEq] at hb
    have hk : cs.length < ds.length := by
      rcases Nat.lt_or_ge cs.length ds.length with h4 | h4
      · exact h4
      · have e : ds.take cs.length = ds := List.take_of_length_le h4
        rw [e] at h2
        rw [← hb.1, h2] at hlt
        omega
    refine ⟨ds[cs.length], List.getElem?_eq_getElem hk, ?_⟩
    rw [← read_step hd (List.getElem?_eq_getElem hk), ← h3, ← aheadB_take (ds := ds) (k := cs.length) (by omega), ← h2]
  refine ⟨fun ds hd => ?_, fun ds hd => ?_⟩
  · obtain ⟨c, _, e⟩ := key ds hd
    rw [e]
  · obtain ⟨c, hc, e⟩ := key ds hd
    obtain ⟨h1, h2, h3⟩ := hs ds hd
    rw [e]
    simp only [List.length_append, List.length_singleton]
    refine ⟨(List.getElem?_eq_some_iff.1 hc).1, ?_, trivial⟩
    rw [List.take_add_one, hc, ← h2]
    rfl
theorem sofar_end {s body p rest : List UInt8} {cs : List CellA} (h : partsL s = some (body, p)) (hs : Sofar s cs rest) (hge : ¬ (bodyTo cs cs.length).length < body.length) : ∀ ds, BlockOf s ds → cs = ds := fun ds hd => by
  obtain ⟨h1, h2, h3⟩ := hs ds hd
  have hb := (parts_block hd).symm.trans h
  simp only [Option.some.injEq, Prod.mk.injEq] at hb
  rcases Nat.lt_or_ge cs.length ds.length with h4 | h4
  · have h5 := bodyTo_lt h4
    rw [← bodyTo_take ds cs.length cs.length (Nat.le_refl _), ← h2, hb.1] at h5
    omega
  · rw [h2]; exact List.take_of_length_le h4
theorem bodyFrom_ne {ds : List CellA} {k : Nat} (h : k < ds.length) : bodyFrom ds k ≠ [] := fun e => by
  have h1 := bodyFrom_len ds (k := k) (by omega)
  have h2 := bodyTo_lt h
  rw [e, List.length_nil] at h1
  omega
theorem sofar_next' {s rest : List UInt8} {cs : List CellA} (hs : Sofar s cs rest) (hne : rest ≠ []) :
    (∀ ds, BlockOf s ds → (cellB (aheadB cs cs.length).toList rest).ok = true) ∧ Sofar s (cs ++ [(cellB (aheadB cs cs.length).toList rest).x]) (cellB (aheadB cs cs.length).toList rest).rest := by
  have key : ∀ ds, BlockOf s ds → ∃ c, ds[cs.length]? = some c ∧ cellB (aheadB cs cs.length).toList rest = ⟨c, true, bodyFrom ds (cs.length + 1)⟩ := fun ds hd => by
    obtain ⟨h1, h2, h3⟩ := hs ds hd
    have hk : cs.length < ds.length := by
      rcases Nat.lt_or_ge cs.length ds.length with h4 | h4
      · exact h4
      · have e : cs.length = ds.length := by omega
        rw [e, bodyFrom_end] at h3
        exact absurd h3 hne
    refine ⟨ds[cs.length], List.getElem?_eq_getElem hk, ?_⟩
    rw [← read_step hd (List.getElem?_eq_getElem hk), ← h3, ← aheadB_take (ds := ds) (k := cs.length) (by omega), ← h2]
  refine ⟨fun ds hd => ?_, fun ds hd => ?_⟩
  · obtain ⟨c, _, e⟩ := key ds hd
    rw [e]
  · obtain ⟨c, hc, e⟩ := key ds hd
    obtain ⟨h1, h2, h3⟩ := hs ds hd
    rw [e]
    simp only [List.length_append, List.length_singleton]
    refine ⟨(List.getElem?_eq_some_iff.1 hc).1, ?_, trivial⟩
    rw [List.take_add_one, hc, ← h2]
    rfl
theorem sofar_end' {s : List UInt8} {cs : List CellA} (hs : Sofar s cs []) : ∀ ds, BlockOf s ds → cs = ds := fun ds hd => by
  obtain ⟨h1, h2, h3⟩ := hs ds hd
  rcases Nat.lt_or_ge cs.length ds.length with h4 | h4
  · exact absurd h3.symm (bodyFrom_ne h4)
  · rw [h2]; exact List.take_of_length_le h4
theorem numR_less {l : List UInt8} (h : (numR l).2.1 = true) : (numR l).2.2.length < l.length := by
  unfold numR at h ⊢
  cases ht : takeL l with
  | none => rw [ht] at h; cases h
  | some r =>
    have := takeL_bounds ht
    simp only [List.length_drop]
    omega
theorem partsL_le {s body p : List UInt8} (h : partsL s = some (body, p)) : body.length ≤ 32768 ∧ s.length ≤ 32768 := by
  unfold partsL at h
  split at h
  · cases h
  · rename_i h1
    simp only at h
    split at h
    · cases h
    · simp only [Option.some.injEq, Prod.mk.injEq] at h
      rw [← h.1, List.length_take]
      omega

/-- the sizes of the cells read so far -/
def RowsB (cs : List CellA) : Prop := ∀ i c, cs[i]? = some c → c.row.size ≤ 32 * (i + 1) ∧ c.col.size ≤ 16 ∧ c.val.size ≤ 65536 ∧ U64 c.ver
theorem rowsB_prev {cs : List CellA} (h : RowsB cs) : (prevB cs cs.length).size ≤ 32 * cs.length ∧ (aheadB cs cs.length).size ≤ 32 * cs.length := by
  have h1 : (prevB cs cs.length).size ≤ 32 * cs.length := by
    unfold prevB
    split
    · exact Nat.zero_le _
    · rename_i h0
      cases hc : cs[cs.length - 1]? with
      | none => exact Nat.zero_le _
      | some c => have := (h _ c hc).1; simp only; omega
  refine ⟨h1, ?_⟩
  by_cases h8 : cs.length % 8 = 0
  · rw [aheadB_zero h8]; exact Nat.zero_le _
  · rw [aheadB_prev h8]; exact h1
theorem rowsB_next {cs : List CellA} {rest : List UInt8} (h : RowsB cs) : RowsB (cs ++ [(cellB (aheadB cs cs.length).toList rest).x]) := fun i c hi => by
  rcases Nat.lt_or_ge i cs.length with h1 | h1
  · rw [List.getElem?_append_left h1] at hi; exact h i c hi
  · rw [List.getElem?_append_right h1] at hi
    have h2 : i - cs.length = 0 := by
      rcases Nat.eq_zero_or_pos (i - cs.length) with h3 | h3
      · exact h3
      · rw [List.getElem?_eq_none (by simp; omega)] at hi; cases hi
    rw [h2] at hi
    simp only [List.getElem?_cons_zero, Option.some.injEq] at hi
    subst hi
    obtain ⟨q1, q2, q3, q4, _⟩ := cellB_small (aheadB cs cs.length).toList rest
    have := (rowsB_prev h).2
    rw [size_list] at q1
    exact ⟨by omega, q2, q3, q4⟩
theorem rowsB_ok {cs : List CellA} (h : RowsB cs) (hl : cs.length ≤ 1000000) : ∀ c ∈ cs, c.Ok := fun c hc => by
  obtain ⟨i, hi⟩ := List.getElem?_of_mem hc
  obtain ⟨q1, q2, q3, q4⟩ := h i c hi
  have := (List.getElem?_eq_some_iff.1 hi).1
  exact ⟨by unfold maxLen; omega, by unfold maxLen; omega, by unfold maxLen; omega, q4.1, q4.2⟩
/-- a round of block.Read -/
structure RB (w : World) (s : List UInt8) (b : Nat) (cs : List CellA) (rest : List UInt8) (v : Value) (wr : World) : Prop where
  all : Sofar s cs rest
  rows : RowsB cs
  le : rest.length ≤ 32768
  tk : TK b cs.length (prevB cs cs.length) rest wr
  own : Own wr (b + 4) v cs
  bel : Below w.heap.size w wr
  hb : w.heap.size ≤ b
/-- how much a reader has left -/
def leftN (w : World) (b : Nat) : Nat := match w.cell? ⟨b, 0, none⟩ with
  | some (.string s) => s.size
  | _ => 0
theorem leftN_eq {w : World} {b : Nat} {l : List UInt8} (h : Left w b l) : leftN w b = l.length := by rw [leftN, h.cell]; exact ofL_size l
/-- a round of the document's Read -/
structure RRB (w : World) (s : List UInt8) (b : Nat) (cs : List CellA) (rest : List UInt8) (v : Value) (wr : World) : Prop where
  all : Sofar s cs rest
  rows : RowsB cs
  le : cs.length + rest.length ≤ 32768
  left : Left wr b rest
  own : Own wr (b + 1) v cs
  bel : Below w.heap.size w wr
  hb : w.heap.size ≤ b
theorem Own.took {w w' : World} {B b : Nat} {v : Value} {cs : List CellA} (h : Own w B v cs) (hb : b < B) (g : w.grownBy w' (some b)) : Own w' B v cs :=
  Row.of_heap h fun k hk => g.block k (Row.lt h k hk).2 (by have := (Row.lt h k hk).1; simp; omega)
theorem Own.kept {F : Nat → Prop} {w w' : World} {B : Nat} {v : Value} {cs : List CellA} (h : Own w B v cs) (hk : Kept F w w') (hF : ∀ k, B ≤ k → ¬ F k) : Own w' B v cs :=
  Row.of_heap h fun k hk' => hk.block k (Row.lt h k hk').2 (hF k (Row.lt h k hk').1)
theorem TK.kept {F : Nat → Prop} {b k : Nat} {a : ByteArray} {l : List UInt8} {w w' : World} (h : TK b k a l w) (hk : Kept F w w') (hF : ∀ x, x ≤ b + 3 → ¬ F x) : TK b k a l w' :=
  h.keep fun x hx => hk.block x (by have := h.lt; have := hx.2; omega) (hF x hx.2)
theorem Own.later {F : Nat → Prop} {w w' w'' : World} {B : Nat} {v : Value} {cs : List CellA} (h : Own w B v cs) (hb : Below w.heap.size w w') (hk : Kept F w' w'') (hF : ∀ k, k < w.heap.size → ¬ F k) : Own w'' B v cs :=
  Row.of_heap h fun k hk' => (hk.block k (Nat.lt_of_lt_of_le (Row.lt h k hk').2 hb.size) (hF k (Row.lt h k hk').2)).trans (hb.block k (Row.lt h k hk').2)
theorem TK.later {F : Nat → Prop} {b k : Nat} {a : ByteArray} {l : List UInt8} {w w' w'' : World} (h : TK b k a l w) (hb : Below w.heap.size w w') (hk : Kept F w' w'') (hF : ∀ x, x < w.heap.size → ¬ F x) : TK b k a l w'' :=
  h.keep fun x hx => by
    have h1 := h.lt
    have h2 := hx.2
    exact (hk.block x (Nat.lt_of_lt_of_le (by omega) hb.size) (hF x (by omega))).trans (hb.block x (by omega))
theorem own_snocB {w : World} {B n : Nat} {v : Value} {l : List CellA} {x : CellA} (e : n = l.length) (h : Row w B 35 5 v (n + 1) ((l.map cellE).flatten ++ ([x].map cellE).flatten)) : Own w B v (l ++ [x]) := by
  subst e
  unfold Own
  rw [List.length_append, List.map_append, List.flatten_append]
  exact h
end Go.Proofs.Ytfkghpomcaonfaa
