/-
  Lists that are written out, in new memory; the walk of the document's Place (acreageref04).
-/
import Derived.Test.YtihglmicgccgiaaCellsSortW
import Derived.Test.YtihglmicgccgiaaTakeW
import Derived.Test.YtihglmicgccgiaaBuildW
import Derived.Test.YtihglmicgccgiaaPartsB
namespace Go.Proofs.Ytihglmicgccgiaa
open Go.RowKit

theorem cells_new (w : World) (T : TypeId) (cs : List CellA) (arr : Array Value) (n b : Nat) (h : arr = (cs.map cellE).flatten.toArray) (hn : cs.length = n) (hm : n ≤ maxLen) (hb : b = w.heap.size) : Cells (w.alloc (.cells arr T)) (some ⟨b, 0, none⟩) n n cs := by
  subst hn
  subst h
  subst hb
  refine ⟨cellE_elems cs, by simp, Nat.le_refl _, hm, fun _ => ⟨w.heap.size, 0, rfl, by rw [World.size_alloc]; omega, ?_⟩⟩
  intro i e he j u hu
  have h1 := flatten_get (Elems.len (cellE_elems cs)) i e he j u hu
  simp only [Nat.zero_add, World.cell?_alloc_new]
  simpa using h1
theorem Own.cells_n {w : World} {B : Nat} {v : Value} {cs : List CellA} (h : Own w B v cs) {n : Nat} (hn : cs.length = n) : ∃ ao cap, v = .slice ao n cap ∧ Cells w ao n cap cs := by
  subst hn
  exact h.cells

theorem Cells.short {w : World} {ao : Option Addr} {n cap k : Nat} {cs : List CellA} (h : Cells w ao n cap cs) (hk : k ≤ n) : Cells w ao k cap (cs.take k) := by
  have := Arr.take h hk
  rw [← List.map_take] at this
  exact this
theorem Cells.below {w w' : World} {ao : Option Addr} {n cap : Nat} {cs : List CellA} (h : Cells w ao n cap cs) (hb : Below w.heap.size w w') : Cells w' ao n cap cs := Arr.below h hb

end Go.Proofs.Ytihglmicgccgiaa

/-
  Reading a block, cell by cell: the plain part, and what a round of block.Read keeps.
-/
namespace Go.Proofs.Ytihglmicgccgiaa
open Go.RowKit

theorem textR_most (m : Int) (l : List UInt8) (h : 0 ≤ m) : ((textR m l).1.length : Int) ≤ m := by
  unfold textR textL
  cases takeL l with
  | none => simpa using h
  | some r =>
    simp only
    split
    · rename_i h1
      split at h1
      · cases h1
      · cases h1
        simp only [List.length_take]
        omega
    · simpa using h
theorem cellB_small (a l : List UInt8) : (cellB a l).x.row.size ≤ a.length + 32 ∧ (cellB a l).x.col.size ≤ 16 ∧ (cellB a l).x.val.size ≤ 65536 ∧ U64 (cellB a l).x.ver ∧ (cellB a l).rest.length ≤ l.length := by
  have n1 := numR_rest l
  have n2 := textR_rest 32 (numR l).2.2
  have m2 := textR_most 32 (numR l).2.2 (by decide)
  have n3 := textR_rest 16 (textR 32 (numR l).2.2).2.2
  have m3 := textR_most 16 (textR 32 (numR l).2.2).2.2 (by decide)
  have n4 := numR_rest (textR 16 (textR 32 (numR l).2.2).2.2).2.2
  have m4 := numR_lt (textR 16 (textR 32 (numR l).2.2).2.2).2.2
  have n5 := byteR_rest (numR (textR 16 (textR 32 (numR l).2.2).2.2).2.2).2.2
  have n6 := textR_rest 65536 (byteR (numR (textR 16 (textR 32 (numR l).2.2).2.2).2.2).2.2).2.2
  have m6 := textR_most 65536 (byteR (numR (textR 16 (textR 32 (numR l).2.2).2.2).2.2).2.2).2.2 (by decide)
  refine ⟨?_, ?_, ?_, ?_, ?_⟩
  · simp only [cellB, ofL_size, List.length_append, List.length_take]; omega
  · simp only [cellB, ofL_size]; omega
  · simp only [cellB, ofL_size]; omega
  · exact ⟨by simp only [cellB]; omega, by simp only [cellB]; omega⟩
  · simp only [cellB]; omega
theorem aheadB_if (cs : List CellA) (k : Nat) : aheadB cs k = if k % 8 = 0 then ⟨#[]⟩ else prevB cs k := by
  split
  · rename_i h; exact aheadB_zero h
  · rename_i h; exact aheadB_prev h
theorem aheadB_take {ds : List CellA} {k : Nat} (h : k ≤ ds.length) : aheadB (ds.take k) k = aheadB ds k := by
  by_cases h8 : k % 8 = 0
  · rw [aheadB, aheadB, if_pos h8, if_pos h8]
  · rw [aheadB, aheadB, if_neg h8, if_neg h8, List.getElem?_take_of_lt (by omega)]
theorem aheadB_snoc (cs : List CellA) (x : CellA) : aheadB (cs ++ [x]) cs.length = aheadB cs cs.length := by
  have := aheadB_take (ds := cs ++ [x]) (k := cs.length) (by simp)
  rw [List.take_left] at this
  exact this.symm
theorem bodyTo_snoc (cs : List CellA) (x : CellA) : bodyTo (cs ++ [x]) (cs ++ [x]).length = bodyTo cs cs.length ++ layL (aheadB cs cs.length).toList x := by
  rw [List.length_append, List.length_singleton, bodyTo_succ (c := x) (by simp), aheadB_snoc, ← bodyTo_take (cs ++ [x]) cs.length cs.length (Nat.le_refl _), List.take_left]
theorem prevB_snoc (cs : List CellA) (x : CellA) : prevB (cs ++ [x]) (cs ++ [x]).length = x.row := by
  rw [List.length_append, List.length_singleton]; exact prevB_succ (by simp)
/-- what a reader has so far: of whatever block these are the bytes, it has the first cells -/
def Sofar (s : List UInt8) (cs : List CellA) (rest : List UInt8) : Prop := ∀ ds, BlockOf s ds → cs.length ≤ ds.length ∧ cs = ds.take cs.length ∧ rest = bodyFrom ds cs.length
theorem sofar_zero {s body p : List UInt8} (h : partsL s = some (body, p)) : Sofar s [] body := fun ds hd => by
  have := (parts_block hd).symm.trans h
  simp only [Option.some.injEq, Prod.mk.injEq] at this
  exact ⟨Nat.zero_le _, by simp, by rw [List.length_nil, bodyFrom_zero, this.1]⟩
theorem sofar_next {s body p rest : List UInt8} {cs : List CellA} (h : partsL s = some (body, p)) (hs : Sofar s cs rest) (hlt : (bodyTo cs cs.length).length < body.length) :
    (∀ ds, BlockOf s ds → (cellB (aheadB cs cs.length).toList rest).ok = true) ∧ Sofar s (cs ++ [(cellB (aheadB cs cs.length).toList rest).x]) (cellB (aheadB cs cs.length).toList rest).rest := by
  have key : ∀ ds, BlockOf s ds → ∃ c, ds[cs.length]? = some c ∧ cellB (aheadB cs cs.length).toList rest = ⟨c, true, bodyFrom ds (cs.length + 1)⟩ := fun ds hd => by
    obtain ⟨h1, h2, h3⟩ := hs ds hd
    have hb := (parts_block hd).symm.trans h
    simp only [Option.some.injEq, Prod.mk.injEq] at hb
    have hk : cs.length < ds.length := by
      rcases Nat.lt_or_ge cs.length ds.length with h4 | h4
      · exact h4
      · have e : ds.take cs.length = ds := List.take_of_length_le h4
        rw [e] at h2
        rw [← hb.1, h2] at hlt
        omega
    refine ⟨ds[cs.length], List.getElem?_eq_getElem hk, ?_⟩
    rw [← read_step hd (List.getElem?_eq_getElem hk), ← h3, ← aheadB_take (ds := ds) (k := cs.length) (by omega), ← h2]
  refine ⟨fun ds hd => ?_, fun ds hd => ?_⟩
  · obtain ⟨c, _, e⟩ := key ds hd
    rw [e]
  · obtain ⟨c, hc, e⟩ := key ds hd
    obtain ⟨h1, h2, h3⟩ := hs ds hd
    rw [e]
    simp only [List.length_append, List.length_singleton]
    refine ⟨(List.getElem?_eq_some_iff.1 hc).1, ?_, trivial⟩
    rw [List.take_add_one, hc, ← h2]
    rfl
theorem sofar_end {s body p rest : List UInt8} {cs : List CellA} (h : partsL s = some (body, p)) (hs : Sofar s cs rest) (hge : ¬ (bodyTo cs cs.length).length < body.length) : ∀ ds, BlockOf s ds → cs = ds := fun ds hd => by
  obtain ⟨h1, h2, h3⟩ := hs ds hd
  have hb := (parts_block hd).symm.trans h
  simp only [Option.some.injEq, Prod.mk.injEq] at hb
  rcases Nat.lt_or_ge cs.length ds.length with h4 | h4
  · have h5 := bodyTo_lt h4
    rw [← bodyTo_take ds cs.length cs.length (Nat.le_refl _), ← h2, hb.1] at h5
    omega
  · rw [h2]; exact List.take_of_length_le h4
theorem bodyFrom_ne {ds : List CellA} {k : Nat} (h : k < ds.length) : bodyFrom ds k ≠ [] := fun e => by
  have h1 := bodyFrom_len ds (k := k) (by omega)
  have h2 := bodyTo_lt h
  rw [e, List.length_nil] at h1
  omega
theorem sofar_next' {s rest : List UInt8} {cs : List CellA} (hs : Sofar s cs rest) (hne : rest ≠ []) :
    (∀ ds, BlockOf s ds → (cellB (aheadB cs cs.length).toList rest).ok = true) ∧ Sofar s (cs ++ [(cellB (aheadB cs cs.length).toList rest).x]) (cellB (aheadB cs cs.length).toList rest).rest := by
  have key : ∀ ds, BlockOf s ds → ∃ c, ds[cs.length]? = some c ∧ cellB (aheadB cs cs.length).toList rest = ⟨c, true, bodyFrom ds (cs.length + 1)⟩ := fun ds hd => by
    obtain ⟨h1, h2, h3⟩ := hs ds hd
    have hk : cs.length < ds.length := by
      rcases Nat.lt_or_ge cs.length ds.length with h4 | h4
      · exact h4
      · have e : cs.length = ds.length := by omega
        rw [e, bodyFrom_end] at h3
        exact absurd h3 hne
    refine ⟨ds[cs.length], List.getElem?_eq_getElem hk, ?_⟩
    rw [← read_step hd (List.getElem?_eq_getElem hk), ← h3, ← aheadB_take (ds := ds) (k := cs.length) (by omega), ← h2]
  refine ⟨fun ds hd => ?_, fun ds hd => ?_⟩
  · obtain ⟨c, _, e⟩ := key ds hd
    rw [e]
  · obtain ⟨c, hc, e⟩ := key ds hd
    obtain ⟨h1, h2, h3⟩ := hs ds hd
    rw [e]
    simp only [List.length_append, List.length_singleton]
    refine ⟨(List.getElem?_eq_some_iff.1 hc).1, ?_, trivial⟩
    rw [List.take_add_one, hc, ← h2]
    rfl
theorem sofar_end' {s : List UInt8} {cs : List CellA} (hs : Sofar s cs []) : ∀ ds, BlockOf s ds → cs = ds := fun ds hd => by
  obtain ⟨h1, h2, h3⟩ := hs ds hd
  rcases Nat.lt_or_ge cs.length ds.length with h4 | h4
  · exact absurd h3.symm (bodyFrom_ne h4)
  · rw [h2]; exact List.take_of_length_le h4
theorem numR_less {l : List UInt8} (h : (numR l).2.1 = true) : (numR l).2.2.length < l.length := by
  unfold numR at h ⊢
  cases ht : takeL l with
  | none => rw [ht] at h; cases h
  | some r =>
    have := takeL_bounds ht
    simp only [List.length_drop]
    omega
theorem partsL_le {s body p : List UInt8} (h : partsL s = some (body, p)) : body.length ≤ 32768 ∧ s.length ≤ 32768 := by
  unfold partsL at h
  split at h
  · cases h
  · rename_i h1
    simp only at h
    split at h
    · cases h
    · simp only [Option.some.injEq, Prod.mk.injEq] at h
      rw [← h.1, List.length_take]
      omega

/-- the sizes of the cells read so far -/
def RowsB (cs : List CellA) : Prop := ∀ i c, cs[i]? = some c → c.row.size ≤ 32 * (i + 1) ∧ c.col.size ≤ 16 ∧ c.val.size ≤ 65536 ∧ U64 c.ver
theorem rowsB_prev {cs : List CellA} (h : RowsB cs) : (prevB cs cs.length).size ≤ 32 * cs.length ∧ (aheadB cs cs.length).size ≤ 32 * cs.length := by
  have h1 : (prevB cs cs.length).size ≤ 32 * cs.length := by
    unfold prevB
    split
    · exact Nat.zero_le _
    · rename_i h0
      cases hc : cs[cs.length - 1]? with
      | none => exact Nat.zero_le _
      | some c => have := (h _ c hc).1; simp only; omega
  refine ⟨h1, ?_⟩
  by_cases h8 : cs.length % 8 = 0
  · rw [aheadB_zero h8]; exact Nat.zero_le _
  · rw [aheadB_prev h8]; exact h1
theorem rowsB_next {cs : List CellA} {rest : List UInt8} (h : RowsB cs) : RowsB (cs ++ [(cellB (aheadB cs cs.length).toList rest).x]) := fun i c hi => by
  rcases Nat.lt_or_ge i cs.length with h1 | h1
  · rw [List.getElem?_append_left h1] at hi; exact h i c hi
  · rw [List.getElem?_append_right h1] at hi
    have h2 : i - cs.length = 0 := by
      rcases Nat.eq_zero_or_pos (i - cs.length) with h3 | h3
      · exact h3
      · rw [List.getElem?_eq_none (by simp; omega)] at hi; cases hi
    rw [h2] at hi
    simp only [List.getElem?_cons_zero, Option.some.injEq] at hi
    subst hi
    obtain ⟨q1, q2, q3, q4, _⟩ := cellB_small (aheadB cs cs.length).toList rest
    have := (rowsB_prev h).2
    rw [size_list] at q1
    exact ⟨by omega, q2, q3, q4⟩
theorem rowsB_ok {cs : List CellA} (h : RowsB cs) (hl : cs.length ≤ 1000000) : ∀ c ∈ cs, c.Ok := fun c hc => by
  obtain ⟨i, hi⟩ := List.getElem?_of_mem hc
  obtain ⟨q1, q2, q3, q4⟩ := h i c hi
  have := (List.getElem?_eq_some_iff.1 hi).1
  exact ⟨by unfold maxLen; omega, by unfold maxLen; omega, by unfold maxLen; omega, q4.1, q4.2⟩
/-- a round of block.Read -/
structure RB (w : World) (s : List UInt8) (b : Nat) (cs : List CellA) (rest : List UInt8) (v : Value) (wr : World) : Prop where
  all : Sofar s cs rest
  rows : RowsB cs
  le : rest.length ≤ 32768
  tk : TK b cs.length (prevB cs cs.length) rest wr
  own : Own wr (b + 4) v cs
  bel : Below w.heap.size w wr
  hb : w.heap.size ≤ b
/-- how much a reader has left -/
def leftN (w : World) (b : Nat) : Nat := match w.cell? ⟨b, 0, none⟩ with
  | some (.string s) => s.size
  | _ => 0
theorem leftN_eq {w : World} {b : Nat} {l : List UInt8} (h : Left w b l) : leftN w b = l.length := by rw [leftN, h.cell]; exact ofL_size l
/-- a round of the document's Read -/
structure RRB (w : World) (s : List UInt8) (b : Nat) (cs : List CellA) (rest : List UInt8) (v : Value) (wr : World) : Prop where
  all : Sofar s cs rest
  rows : RowsB cs
  le : cs.length + rest.length ≤ 32768
  left : Left wr b rest
  own : Own wr (b + 1) v cs
  bel : Below w.heap.size w wr
  hb : w.heap.size ≤ b
theorem Own.took {w w' : World} {B b : Nat} {v : Value} {cs : List CellA} (h : Own w B v cs) (hb : b < B) (g : w.grownBy w' (some b)) : Own w' B v cs :=
  Row.of_heap h fun k hk => g.block k (Row.lt h k hk).2 (by have := (Row.lt h k hk).1; simp; omega)
theorem Own.kept {F : Nat → Prop} {w w' : World} {B : Nat} {v : Value} {cs : List CellA} (h : Own w B v cs) (hk : Kept F w w') (hF : ∀ k, B ≤ k → ¬ F k) : Own w' B v cs :=
  Row.of_heap h fun k hk' => hk.block k (Row.lt h k hk').2 (hF k (Row.lt h k hk').1)
theorem TK.kept {F : Nat → Prop} {b k : Nat} {a : ByteArray} {l : List UInt8} {w w' : World} (h : TK b k a l w) (hk : Kept F w w') (hF : ∀ x, x ≤ b + 3 → ¬ F x) : TK b k a l w' :=
  h.keep fun x hx => hk.block x (by have := h.lt; have := hx.2; omega) (hF x hx.2)
theorem Own.later {F : Nat → Prop} {w w' w'' : World} {B : Nat} {v : Value} {cs : List CellA} (h : Own w B v cs) (hb : Below w.heap.size w w') (hk : Kept F w' w'') (hF : ∀ k, k < w.heap.size → ¬ F k) : Own w'' B v cs :=
  Row.of_heap h fun k hk' => (hk.block k (Nat.lt_of_lt_of_le (Row.lt h k hk').2 hb.size) (hF k (Row.lt h k hk').2)).trans (hb.block k (Row.lt h k hk').2)
theorem TK.later {F : Nat → Prop} {b k : Nat} {a : ByteArray} {l : List UInt8} {w w' w'' : World} (h : TK b k a l w) (hb : Below w.heap.size w w') (hk : Kept F w' w'') (hF : ∀ x, x < w.heap.size → ¬ F x) : TK b k a l w'' :=
  h.keep fun x hx => by
    have h1 := h.lt
    have h2 := hx.2
    exact (hk.block x (Nat.lt_of_lt_of_le (by omega) hb.size) (hF x (by omega))).trans (hb.block x (by omega))
theorem own_snocB {w : World} {B n : Nat} {v : Value} {l : List CellA} {x : CellA} (e : n = l.length) (h : Row w B 31 5 v (n + 1) ((l.map cellE).flatten ++ ([x].map cellE).flatten)) : Own w B v (l ++ [x]) := by
  subst e
  unfold Own
  rw [List.length_append, List.map_append, List.flatten_append]
  exact h
end Go.Proofs.Ytihglmicgccgiaa

/-
  block.Read. Printed by mkreadb.py.
-/
namespace Go.Proofs.Ytihglmicgccgiaa
open Go.RowKit

set_option maxRecDepth 100000 in
set_option maxHeartbeats 4000000 in
theorem readb_any (s : ByteArray) (w : World) :
    Calls Try.prog 21 #[.string s] w fun e w' => ((∃ cs v, BlockOf s.toList cs ∧ e = .returned (.tuple #[v, .int .i64 0]) ∧ Own w' w.heap.size v cs) ∨ ((∀ cs, ¬ BlockOf s.toList cs) ∧ e = .returned (.tuple #[.slice none 0 0, .int .i64 4]))) ∧ Below w.heap.size w w' := by
  obtain ⟨i0, hi, hz0, hz1, hz2⟩ := info_parts Try.info_cell
  have Hi := Lib.hid hi
  clear hi
  obtain ⟨P, hP⟩ : ∃ P : Ending → World → Prop, P = fun e w' => ((∃ cs v, BlockOf s.toList cs ∧ e = .returned (.tuple #[v, .int .i64 0]) ∧ Own w' w.heap.size v cs) ∨ ((∀ cs, ¬ BlockOf s.toList cs) ∧ e = .returned (.tuple #[.slice none 0 0, .int .i64 4]))) ∧ Below w.heap.size w w' := ⟨_, rfl⟩
  rw [← hP]
  have Hno : Hid ((∀ cs, ¬ BlockOf s.toList cs) → ∀ w', Below w.heap.size w w' → P (.returned (.tuple #[.slice none 0 0, .int .i64 4])) w') := Lib.hid fun h w' hb => by rw [hP]; exact ⟨.inr ⟨h, rfl⟩, hb⟩
  have Hyes : Hid (∀ cs v w', BlockOf s.toList cs → Own w' w.heap.size v cs → Below w.heap.size w w' → P (.returned (.tuple #[v, .int .i64 0])) w') := Lib.hid fun cs v w' h ho hb => by rw [hP]; exact ⟨.inl ⟨cs, v, h, rfl, ho⟩, hb⟩
  clear hP
  rcases hpl : partsL s.toList with _ | ⟨bd, pl⟩
  · have HN := Lib.hid (Hno.out fun cs h => by rw [parts_block h] at hpl; cases hpl)
    have K := Lib.hid (partsB_none s w hpl)
    clear hpl
    go_enter Try.func21, Try.ntmps21
    go_wp2_with (first | (go_at_call 51; refine K.out.mono ?_; rintro e w1 ⟨rfl, hb⟩))
    exact HN.out _ hb
  · have K := Lib.hid (partsB_some s bd pl w hpl)
    have hble := (partsL_le hpl).1
    have hsle := (partsL_le hpl).2
    rw [size_list] at hsle
    have HPL := Lib.hid hpl
    have HZ0 := Lib.hid (sofar_zero hpl)
    obtain ⟨sb, hsb⟩ : ∃ x, x = ofL bd := ⟨_, rfl⟩
    have hsz : sb.size = bd.length := by rw [hsb, ofL_size]
    have Hsz := Lib.hid hsz
    have Hsl : Hid (sb.toList = bd) := Lib.hid (by rw [hsb, ofL_toList])
    rw [← hsb] at K
    have hbz : sb.size ≤ 32768 := by omega
    have Hble := Lib.hid hble
    clear hpl hsb hsz hble
    go_enter Try.func21, Try.ntmps21
    go_wp2_with (first | (go_at_call 51; refine K.out.mono ?_; rintro e w1 ⟨rfl, hb⟩; have Hb1 := Lib.hid hb; clear hb) | (go_at_call 52; refine (taker_any sb w1).mono ?_; rintro e w2 ⟨rfl, hT, hb⟩; have Hb2 := Lib.hid hb; have HT2 := Lib.hid hT; clear hb hT))
    obtain ⟨b, hb⟩ : ∃ b, b = w1.heap.size := ⟨_, rfl⟩
    rw [← hb] at HT2 ⊢
    rw [Hsl.out] at HT2
    have HR0 : Hid (RB w s.toList b [] bd (.slice none 0 0) w2) := Lib.hid ⟨HZ0.out, fun i c h => by simp at h, Hble.out, HT2.out, Row.nil _ _ _ _, Hb1.out.trans (Hb2.out.mono Hb1.out.size), by rw [hb]; exact Hb1.out.size⟩
    clear HT2 Hb1 Hb2 HZ0 K Hsl hb
    go_loopw [7, 9] (fun v i wr => ∃ (cs : List CellA) (rest : List UInt8) (ao : Option Addr) (cap : Nat), v = .slice ao cs.length cap ∧ i = .int .i64 (bodyTo cs cs.length).length ∧ (bodyTo cs cs.length).length ≤ 4100000 ∧ Hid (RB w s.toList b cs rest (.slice ao cs.length cap) wr)) (fun _ i _ => sb.size - (intOf i).toNat)
    case atStart => exact ⟨[], bd, none, 0, rfl, rfl, by decide, HR0⟩
    case round =>
      obtain ⟨cs, rest, ao, cap, rfl, rfl, hzm, hR⟩ := hrel
      obtain ⟨z, hz⟩ : ∃ z, z = (bodyTo cs cs.length).length := ⟨_, rfl⟩
      have Hz := Lib.hid hz
      have hzl := bodyTo_long cs cs.length (Nat.le_refl _)
      rw [← hz] at hzl hzm ⊢
      obtain ⟨k, hk⟩ : ∃ k, k = cs.length := ⟨_, rfl⟩
      have Hk := Lib.hid hk
      rw [← hk] at hzl ⊢
      clear hz hk
      by_cases hlt : z < sb.size
      · have Hnx := Lib.hid (sofar_next HPL.out hR.out.all (by rw [← Hz.out, ← Hsz.out]; exact hlt))
        obtain ⟨q1, q2, q3, q4, q5⟩ := cellB_small (aheadB cs cs.length).toList rest
        have hrn := Lib.hid (rowsB_next (rest := rest) hR.out.rows)
        have hrp := rowsB_prev hR.out.rows
        have KT := Lib.hid fun W h => take_any b cs.length (prevB cs cs.length) rest W h (by have := Hk.out; omega) (Nat.le_trans hR.out.le (by decide)) (by have := Hk.out; omega) (aheadB cs cs.length) (aheadB_if cs cs.length)
        have Hsn := Lib.hid (bodyTo_snoc cs (cellB (aheadB cs cs.length).toList rest).x)
        have Hpn := Lib.hid (prevB_snoc cs (cellB (aheadB cs cs.length).toList rest).x)
        have hle := hR.out.le
        obtain ⟨⟨x, ok, rest'⟩, hx⟩ : ∃ x, x = cellB (aheadB cs cs.length).toList rest := ⟨_, rfl⟩
        rw [← hx] at KT Hnx q1 q2 q3 q4 q5 hrn Hsn Hpn
        simp only at KT Hnx q1 q2 q3 q4 q5 hrn Hsn Hpn
        clear hx
        have Hq5 := Lib.hid (Nat.le_trans q5 hle)
        have Hsm : Hid (SmallC x) := Lib.hid ⟨by rw [size_list] at q1; have := Hk.out; omega, by omega, by omega, q4⟩
        have Hrp := Lib.hid hrp
        clear q1 q2 q3 q4 q5 hrp hle
        have hs0 := hR.out.bel.size
        cases ok
        · have HN := Lib.hid (Hno.out fun ds hd => by have := Hnx.out.1 ds hd; cases this)
          have KT' : Hid (∀ W, TK b cs.length (prevB cs cs.length) rest W → Calls Try.prog 70 #[.pointer (some ⟨b + 3, 0, none⟩), .pointer (some ⟨b + 2, 0, none⟩), .pointer (some ⟨b + 1, 0, none⟩)] W fun e w' => e = .returned (.tuple #[.agg #[.string ⟨#[]⟩, .string ⟨#[]⟩, .int .u64 0, .bool false, .string ⟨#[]⟩], .bool false]) ∧ Kept (tkF b) W w') := Lib.hid fun W h => (KT.out W h).mono fun e w' hh => ⟨hh.1.elim (fun h => absurd h.1 (by decide)) (fun h => h.2), hh.2⟩
          clear KT Hnx Hsn Hpn hrn Hsm
          go_wp2_with (first | (go_at_call 70; refine (KT'.out _ hR.out.tk).mono ?_; rintro e w3 ⟨rfl, hK⟩; have hB3 : Below w.heap.size w w3 := hR.out.bel.trans (hK.below (fun y hy => Nat.le_trans hR.out.hb hy.1) hs0); have hs3 := hB3.size; clear hK))
          exact HN.out _ (by go_grown)
        · have KT' : Hid (∀ W, TK b cs.length (prevB cs cs.length) rest W → Calls Try.prog 70 #[.pointer (some ⟨b + 3, 0, none⟩), .pointer (some ⟨b + 2, 0, none⟩), .pointer (some ⟨b + 1, 0, none⟩)] W fun e w' => e = .returned (.tuple #[.agg #[.string x.row, .string x.col, .int .u64 x.ver, .bool x.gone, .string x.val], .bool true]) ∧ TK b (cs.length + 1) x.row rest' w' ∧ Kept (tkF b) W w') := Lib.hid fun W h => (KT.out W h).mono fun e w' hh => hh.1.elim (fun h => ⟨h.2.1, h.2.2, hh.2⟩) (fun h => absurd h.1 (by decide))
          clear KT
          obtain ⟨xr, xc, xv, xg, xl⟩ := x
          simp only at KT'
          have Hbw := Lib.hid hR.out.hb
          by_cases h8 : k % 8 = 0
          · skip
            have h8i : ((k : Int) % 8) = 0 := by omega
            have HA : Hid (aheadB cs cs.length = ⟨#[]⟩) := Lib.hid (aheadB_zero (by rw [← Hk.out]; exact h8))
            go_wp2_with fail
            refine (KT'.out _ hR.out.tk).mono ?_
            rintro e w3 ⟨rfl, hTn, hK⟩
            have hB3 := Lib.hid (hR.out.bel.trans (hK.below (fun y hy => Nat.le_trans hR.out.hb hy.1) hs0))
            have hs3 : w.heap.size ≤ w3.heap.size := hB3.out.size
            have HO3 := Lib.hid (hR.out.own.kept hK (fun y hy hf => by have := hf.2; omega))
            have HT3 := Lib.hid hTn
            have hb3 := hTn.lt
            clear hTn hK hR KT' hs0
            have HAz : Hid ((⟨#[]⟩ : ByteArray).size ≤ maxLen) := Lib.hid (by decide)
            clear h8 Hrp
            go_wp2_with fail
            obtain ⟨q, hq⟩ : ∃ q, q = w3.heap.size := ⟨_, rfl⟩
            obtain ⟨WA, hWA⟩ : ∃ X : World, X = (w3.alloc (.cells #[.string xr, .string xc, .int .u64 xv, .bool xg, .string xl] 31)).alloc (.cells #[.pointer none, .slice none 0 0] 85) := ⟨_, rfl⟩
            have d0 : WA.cell? ⟨q, 0, none⟩ = some (.string xr) := by rw [hWA, hq]; go_simp
            have d1 : WA.cell? ⟨q, 1, none⟩ = some (.string xc) := by rw [hWA, hq]; go_simp
            have d2 : WA.cell? ⟨q, 2, none⟩ = some (.int .u64 xv) := by rw [hWA, hq]; go_simp
            have d3 : WA.cell? ⟨q, 3, none⟩ = some (.bool xg) := by rw [hWA, hq]; go_simp
            have d4 : WA.cell? ⟨q, 4, none⟩ = some (.string xl) := by rw [hWA, hq]; go_simp
            have HbA : Hid (Below w3.heap.size w3 WA) := Lib.hid (by rw [hWA]; exact ((Below.refl _ _).alloc (Nat.le_refl _) _).alloc (by rw [World.size_alloc]; omega) _)
            have HBl : Hid (Bl (q + 1) [] (fun k => k = q + 1) WA) := Lib.hid (by have h := bl_new (w3.alloc (.cells #[.string xr, .string xc, .int .u64 xv, .bool xg, .string xl] 31)); rw [World.size_alloc, ← hq, ← hWA] at h; exact h)
            have zq : q + 1 < WA.heap.size := by rw [hWA, hq, World.size_alloc, World.size_alloc]; omega
            have HBA := Lib.hid (hB3.out.trans (HbA.out.mono hs3))
            have hq' := Lib.hid hq
            rw [← hWA, ← hq]
            rw [← hq] at hs3 hb3
            clear hWA hq hB3
            refine (lay_any (q + 1) [] _ ⟨#[]⟩ ⟨xr, xc, xv, xg, xl⟩ WA HBl.out HAz.out Hsm.out (by simp)).mono ?_
            rintro e w5 ⟨rfl, F', hL5, hk5, hF5⟩
            rw [List.nil_append] at hL5
            have c0 := (World.cell?_of_block (a := ⟨q, 0, none⟩) (hk5.block q (by omega) (by omega))).trans d0
            have c1 := (World.cell?_of_block (a := ⟨q, 1, none⟩) (hk5.block q (by omega) (by omega))).trans d1
            have c2 := (World.cell?_of_block (a := ⟨q, 2, none⟩) (hk5.block q (by omega) (by omega))).trans d2
            have c3 := (World.cell?_of_block (a := ⟨q, 3, none⟩) (hk5.block q (by omega) (by omega))).trans d3
            have c4 := (World.cell?_of_block (a := ⟨q, 4, none⟩) (hk5.block q (by omega) (by omega))).trans d4
            have HO5 := Lib.hid (HO3.out.later HbA.out hk5 (fun y hy hf => by rw [← hq'.out] at hy; omega))
            have HT5 := Lib.hid (HT3.out.later HbA.out hk5 (fun y hy hf => by rw [← hq'.out] at hy; omega))
            have HB5 := Lib.hid (HBA.out.trans (hk5.below (fun y hy => by omega) (by omega)))
            have hs5 := hk5.size
            have HL5 := Lib.hid hL5
            clear hL5 hk5 hF5 d0 d1 d2 d3 d4 HO3 HT3 HbA HBl HBA hq'
            go_wp2_with fail
            refine (len_bl (q + 1) _ F' _ HL5.out).mono ?_
            rintro e w6 ⟨rfl, rfl⟩
            have hn4 := layL_big (a := (⟨#[]⟩ : ByteArray).toList) Hsm.out
            obtain ⟨n, hn⟩ : ∃ n, n = (layL (⟨#[]⟩ : ByteArray).toList ⟨xr, xc, xv, xg, xl⟩).length := ⟨_, rfl⟩
            rw [← hn] at hn4 ⊢
            have Hzn : Hid ((bodyTo (cs ++ [⟨xr, xc, xv, xg, xl⟩]) (cs ++ [(⟨xr, xc, xv, xg, xl⟩ : CellA)]).length).length = z + n) := Lib.hid (by rw [Hsn.out, List.length_append, HA.out, ← hn, ← Hz.out])
            have hnp : 6 ≤ n := by rw [hn]; exact layL_pos _ _
            have HRow : Hid (Row w5 (b + 4) 31 5 (.slice ao k cap) k (cs.map cellE).flatten) := Lib.hid (by have h := HO5.out; unfold Own at h; rw [← Hk.out] at h; exact h)
            have hkb : Hid ((k + 1) * 64 ≤ 140737488355328) := Lib.hid (by omega)
            clear hn
            go_wp2_with (at_builtin; refine wpList_append_arr _ rfl _ _ 32 rfl (b + 4) 31 i0 _ 5 64 Try.underlying32 Hi.out hz0 hz1 hz2 rfl (by decide) (.slice ao k cap) k _ rfl (Row.alloc HRow.out _) rfl (cells_new w5 _ [⟨xr, xc, xv, xg, xl⟩] _ 1 _ rfl rfl (by decide) rfl) hkb.out (by have := hkb.out; unfold maxLen; omega) (by rw [World.size_alloc]; omega) ?_; intro v1 w7 hr7 hb7 hg7; have HR7 := Lib.hid (own_snocB Hk.out hr7); have HB7 := Lib.hid hb7; clear hr7 hb7 hg7)
            obtain ⟨ao1, cap1, e1, hC1⟩ := HR7.out.cells
            have HW7 := Lib.hid (((Below.refl (b + 4) w5).alloc (by omega) _).trans HB7.out)
            have HT7 := Lib.hid (HT5.out.keep (fun y hy => HW7.out.block y (by have := hy.2; omega)))
            have HE7 := Lib.hid (HB5.out.trans (HW7.out.mono (by have := Hbw.out; omega)))
            refine ⟨⟨cs ++ [⟨xr, xc, xv, xg, xl⟩], rest', ao1, cap1, e1, by rw [Hzn.out]; go_num, by rw [Hzn.out]; omega, Lib.hid ⟨Hnx.out.2, hrn.out, Hq5.out, by rw [Hpn.out, List.length_append]; exact HT7.out, by rw [← e1]; exact HR7.out, HE7.out, Hbw.out⟩⟩, by simp [intOf]; omega⟩
          · skip
            obtain ⟨j, rfl⟩ : ∃ j, k = j + 1 := ⟨k - 1, by omega⟩
            have h8i : (0 : Int) < (((j + 1 : Nat) : Int) % 8) := by omega
            have h8j : (0 : Int) < (((j : Int) + 1) % 8) := by omega
            go_wp2_with fail
            refine (KT'.out _ hR.out.tk).mono ?_
            rintro e w3 ⟨rfl, hTn, hK⟩
            have hB3 := Lib.hid (hR.out.bel.trans (hK.below (fun y hy => Nat.le_trans hR.out.hb hy.1) hs0))
            have hs3 : w.heap.size ≤ w3.heap.size := hB3.out.size
            have HO3 := Lib.hid (hR.out.own.kept hK (fun y hy hf => by have := hf.2; omega))
            have HT3 := Lib.hid hTn
            have hb3 := hTn.lt
            clear hTn hK hR KT' hs0
            obtain ⟨y, hy⟩ : ∃ y, cs[j]? = some y := ⟨_, List.getElem?_eq_getElem (by rw [← Hk.out]; omega)⟩
            have HA : Hid (aheadB cs cs.length = y.row) := Lib.hid (by rw [aheadB_prev (by rw [← Hk.out]; exact h8), ← Hk.out]; exact prevB_succ hy)
            obtain ⟨ao', cap', e', hC3⟩ := HO3.out.cells
            cases e'
            obtain ⟨g, off, rfl, hg, ⟨y0, y1, y2, y3, y4⟩⟩ := Cells.at_ hC3 hy
            obtain ⟨yr, yc, yv, yg, yl⟩ := y
            simp only at y0 HA
            have HAz : Hid (yr.size ≤ maxLen) := Lib.hid (by have := Hrp.out.2; rw [HA.out, ← Hk.out] at this; unfold maxLen; omega)
            have hgn : ¬ g = w3.heap.size := by omega
            clear y1 y2 y3 y4 hy hC3
            clear h8 Hrp
            go_wp2_with fail
            obtain ⟨q, hq⟩ : ∃ q, q = w3.heap.size := ⟨_, rfl⟩
            obtain ⟨WA, hWA⟩ : ∃ X : World, X = (w3.alloc (.cells #[.string xr, .string xc, .int .u64 xv, .bool xg, .string xl] 31)).alloc (.cells #[.pointer none, .slice none 0 0] 85) := ⟨_, rfl⟩
            have d0 : WA.cell? ⟨q, 0, none⟩ = some (.string xr) := by rw [hWA, hq]; go_simp
            have d1 : WA.cell? ⟨q, 1, none⟩ = some (.string xc) := by rw [hWA, hq]; go_simp
            have d2 : WA.cell? ⟨q, 2, none⟩ = some (.int .u64 xv) := by rw [hWA, hq]; go_simp
            have d3 : WA.cell? ⟨q, 3, none⟩ = some (.bool xg) := by rw [hWA, hq]; go_simp
            have d4 : WA.cell? ⟨q, 4, none⟩ = some (.string xl) := by rw [hWA, hq]; go_simp
            have HbA : Hid (Below w3.heap.size w3 WA) := Lib.hid (by rw [hWA]; exact ((Below.refl _ _).alloc (Nat.le_refl _) _).alloc (by rw [World.size_alloc]; omega) _)
            have HBl : Hid (Bl (q + 1) [] (fun k => k = q + 1) WA) := Lib.hid (by have h := bl_new (w3.alloc (.cells #[.string xr, .string xc, .int .u64 xv, .bool xg, .string xl] 31)); rw [World.size_alloc, ← hq, ← hWA] at h; exact h)
            have zq : q + 1 < WA.heap.size := by rw [hWA, hq, World.size_alloc, World.size_alloc]; omega
            have HBA := Lib.hid (hB3.out.trans (HbA.out.mono hs3))
            have hq' := Lib.hid hq
            rw [← hWA, ← hq]
            rw [← hq] at hs3 hb3
            clear hWA hq hB3 y0 hg hgn
            refine (lay_any (q + 1) [] _ yr ⟨xr, xc, xv, xg, xl⟩ WA HBl.out HAz.out Hsm.out (by simp)).mono ?_
            rintro e w5 ⟨rfl, F', hL5, hk5, hF5⟩
            rw [List.nil_append] at hL5
            have c0 := (World.cell?_of_block (a := ⟨q, 0, none⟩) (hk5.block q (by omega) (by omega))).trans d0
            have c1 := (World.cell?_of_block (a := ⟨q, 1, none⟩) (hk5.block q (by omega) (by omega))).trans d1
            have c2 := (World.cell?_of_block (a := ⟨q, 2, none⟩) (hk5.block q (by omega) (by omega))).trans d2
            have c3 := (World.cell?_of_block (a := ⟨q, 3, none⟩) (hk5.block q (by omega) (by omega))).trans d3
            have c4 := (World.cell?_of_block (a := ⟨q, 4, none⟩) (hk5.block q (by omega) (by omega))).trans d4
            have HO5 := Lib.hid (HO3.out.later HbA.out hk5 (fun y hy hf => by rw [← hq'.out] at hy; omega))
            have HT5 := Lib.hid (HT3.out.later HbA.out hk5 (fun y hy hf => by rw [← hq'.out] at hy; omega))
            have HB5 := Lib.hid (HBA.out.trans (hk5.below (fun y hy => by omega) (by omega)))
            have hs5 := hk5.size
            have HL5 := Lib.hid hL5
            clear hL5 hk5 hF5 d0 d1 d2 d3 d4 HO3 HT3 HbA HBl HBA hq'
            go_wp2_with fail
            refine (len_bl (q + 1) _ F' _ HL5.out).mono ?_
            rintro e w6 ⟨rfl, rfl⟩
            have hn4 := layL_big (a := (yr : ByteArray).toList) Hsm.out
            obtain ⟨n, hn⟩ : ∃ n, n = (layL (yr : ByteArray).toList ⟨xr, xc, xv, xg, xl⟩).length := ⟨_, rfl⟩
            rw [← hn] at hn4 ⊢
            have Hzn : Hid ((bodyTo (cs ++ [⟨xr, xc, xv, xg, xl⟩]) (cs ++ [(⟨xr, xc, xv, xg, xl⟩ : CellA)]).length).length = z + n) := Lib.hid (by rw [Hsn.out, List.length_append, HA.out, ← hn, ← Hz.out])
            have hnp : 6 ≤ n := by rw [hn]; exact layL_pos _ _
            have HRow : Hid (Row w5 (b + 4) 31 5 (.slice (some ⟨g, off, none⟩) (j + 1) cap) (j + 1) (cs.map cellE).flatten) := Lib.hid (by have h := HO5.out; unfold Own at h; rw [← Hk.out] at h; exact h)
            have hkb : Hid (((j + 1) + 1) * 64 ≤ 140737488355328) := Lib.hid (by omega)
            clear hn
            go_wp2_with (at_builtin; refine wpList_append_arr _ rfl _ _ 32 rfl (b + 4) 31 i0 _ 5 64 Try.underlying32 Hi.out hz0 hz1 hz2 rfl (by decide) (.slice (some ⟨g, off, none⟩) (j + 1) cap) (j + 1) _ rfl (Row.alloc HRow.out _) rfl (cells_new w5 _ [⟨xr, xc, xv, xg, xl⟩] _ 1 _ rfl rfl (by decide) rfl) hkb.out (by have := hkb.out; unfold maxLen; omega) (by rw [World.size_alloc]; omega) ?_; intro v1 w7 hr7 hb7 hg7; have HR7 := Lib.hid (own_snocB Hk.out hr7); have HB7 := Lib.hid hb7; clear hr7 hb7 hg7)
            obtain ⟨ao1, cap1, e1, hC1⟩ := HR7.out.cells
            have HW7 := Lib.hid (((Below.refl (b + 4) w5).alloc (by omega) _).trans HB7.out)
            have HT7 := Lib.hid (HT5.out.keep (fun y hy => HW7.out.block y (by have := hy.2; omega)))
            have HE7 := Lib.hid (HB5.out.trans (HW7.out.mono (by have := Hbw.out; omega)))
            refine ⟨⟨cs ++ [⟨xr, xc, xv, xg, xl⟩], rest', ao1, cap1, e1, by rw [Hzn.out]; go_num, by rw [Hzn.out]; omega, Lib.hid ⟨Hnx.out.2, hrn.out, Hq5.out, by rw [Hpn.out, List.length_append]; exact HT7.out, by rw [← e1]; exact HR7.out, HE7.out, Hbw.out⟩⟩, by simp [intOf]; omega⟩
      · have Hend := Lib.hid (sofar_end HPL.out hR.out.all (by rw [← Hz.out, ← Hsz.out]; exact hlt))
        obtain ⟨ao', cap', e', hC⟩ := hR.out.own.cells
        cases e'
        have KB := Lib.hid (build_any _ _ _ cs wr hC (rowsB_ok hR.out.rows (by have := Hk.out; omega)))
        have HO := Lib.hid hR.out.own
        have HB := Lib.hid hR.out.bel
        have Hbw := Lib.hid hR.out.hb
        have hs0 := hR.out.bel.size
        clear hC hR
        rw [← Hk.out] at KB
        by_cases hB : buildR cs = (s.toList, 0)
        · rw [hB] at KB
          rw [ofL_self] at KB
          have HN := Lib.hid (Hyes.out cs (.slice ao cs.length cap))
          rw [← Hk.out] at HN
          have HBk := Lib.hid (blockOf_iff.2 hB)
          clear hB
          go_wp2_with (first | (go_at_call 40; refine KB.out.mono ?_; rintro e w3 ⟨rfl, hb3⟩))
          exact HN.out _ HBk.out (by have h := (HO.out.below hb3).mono (show w.heap.size ≤ b + 4 by have := Hbw.out; omega); rw [Hk.out]; exact h) (HB.out.trans (hb3.mono hs0))
        · have HN := Lib.hid (Hno.out fun ds hd => hB (by rw [Hend.out ds hd]; exact blockOf_iff.1 hd))
          obtain ⟨r1, hr1⟩ : ∃ r, r = ofL (buildR cs).1 := ⟨_, rfl⟩
          obtain ⟨r2, hr2⟩ : ∃ r, r = (buildR cs).2 := ⟨_, rfl⟩
          rw [← hr1, ← hr2] at KB
          by_cases h2 : r2 = 0
          · subst h2
            have hne : r1 ≠ s := fun e => hB (Prod.ext (by rw [← ofL_toList (buildR cs).1, ← hr1, e]) hr2.symm)
            have hne1 := ne_of hne
            clear hB hr1 hr2
            go_wp2_with (first | (go_at_call 40; refine KB.out.mono ?_; rintro e w3 ⟨rfl, hb3⟩))
            exact HN.out _ (HB.out.trans (hb3.mono hs0))
          · clear hB hr1 hr2
            go_wp2_with (first | (go_at_call 40; refine KB.out.mono ?_; rintro e w3 ⟨rfl, hb3⟩))
            exact HN.out _ (HB.out.trans (hb3.mono hs0))
end Go.Proofs.Ytihglmicgccgiaa
