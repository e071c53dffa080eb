/-
  Rows as one (package merge): the state of All's function before its first call; behind loop 1.
-/
import Derived.Test.YtehbikofoidjhaaAll0W
import Derived.Test.YtehbikofoidjhaaAll1W
namespace Go.Proofs.Ytehbikofoidjhaa
open Go.RowKit

/-- not begun -/
structure New (a : AV) (ao : Option Addr) (n cap : Nat) (rs : List (Option RI)) (F : Nat → Prop) (w : World) : Prop where
  ok : a.Ok
  c0 : w.cell? ⟨a.b0, 0, none⟩ = some (.bool false)
  c1 : w.cell? ⟨a.b1, 0, none⟩ = some (.slice ao n cap)
  c2 : w.cell? ⟨a.b2, 0, none⟩ = some (.slice none 0 0)
  c3 : w.cell? ⟨a.b3, 0, none⟩ = some (.bool false)
  c4 : LastAt w a.b4 none
  f : ∀ k o, a.Is k → w.frozen? ⟨k, o, none⟩ = false
  arr : Arr w 1 ao n cap (rs.map rowE)
  rows : Rows0 a rs w
  small : n ≤ 1000000
  og : ∀ p, ao = some p → F p.block ∧ ¬ a.Is p.block ∧ ¬ RowsF rs p.block
  vF : ∀ k, a.Is k → F k
  rF : ∀ k, RowsF rs k → F k
  inb : ∀ k, F k → k < w.heap.size
theorem Rows0.keep {a : AV} {rs : List (Option RI)} {w w' : World} (h : Rows0 a rs w) (hs : w.heap.size ≤ w'.heap.size) (hb : ∀ k, RowsF rs k → w'.heap[k]? = w.heap[k]?) : Rows0 a rs w' :=
  ⟨fun i r hr => r.ok.keep (h.st i r hr) hs (fun k hk => hb k ⟨i, r, hr, hk⟩), h.apart, h.own⟩
theorem arr_keep {w w' : World} {s n cap : Nat} {ao : Option Addr} {es : List (List Value)} (h : Arr w s ao n cap es) (hs : w.heap.size ≤ w'.heap.size) (hb : ∀ p, ao = some p → w'.heap[p.block]? = w.heap[p.block]?) : Arr w' s ao n cap es := by
  refine ⟨h.elems, Arr.len h, Arr.fits h, Arr.max h, fun h0 => ?_⟩
  obtain ⟨g, off, e, hl, hc⟩ := Arr.lies h h0
  have hg := hb _ e
  exact ⟨g, off, e, Nat.lt_of_lt_of_le hl hs, fun i x hx j u hu => by rw [World.cell?_of_block (a := ⟨g, off + i * s + j, none⟩) hg]; exact hc i x hx j u hu⟩
theorem New.keep {a : AV} {ao : Option Addr} {n cap : Nat} {rs : List (Option RI)} {F : Nat → Prop} {w w' : World} (h : New a ao n cap rs F w) (hs : w.heap.size ≤ w'.heap.size) (hb : ∀ k, F k → w'.heap[k]? = w.heap[k]?) : New a ao n cap rs F w' := by
  have k : ∀ b o, a.Is b → w'.cell? ⟨b, o, none⟩ = w.cell? ⟨b, o, none⟩ := fun b o hi => World.cell?_of_block (a := ⟨b, o, none⟩) (hb b (h.vF b hi))
  exact ⟨h.ok, (k _ _ (.inl rfl)).trans h.c0, (k _ _ (.inr (.inl rfl))).trans h.c1, (k _ _ (.inr (.inr (.inl rfl)))).trans h.c2, (k _ _ (.inr (.inr (.inr (.inl rfl))))).trans h.c3, h.c4.same (hb _ (h.vF _ (.inr (.inr (.inr (.inr rfl)))))),
    fun b o hi => (World.frozen?_of_block (a := ⟨b, o, none⟩) (hb b (h.vF b hi))).trans (h.f b o hi), arr_keep h.arr hs (fun p hp => hb _ (h.og p hp).1), h.rows.keep hs (fun k hk => hb k (h.rF k hk)), h.small, h.og, h.vF, h.rF, fun j hj => Nat.lt_of_lt_of_le (h.inb j hj) hs⟩
/-- begun is stored, the result's block laid: what loop 1 needs -/
structure Pre (a : AV) (ao : Option Addr) (n cap : Nat) (rs : List (Option RI)) (F : Nat → Prop) (w W : World) : Prop where
  c0 : W.cell? ⟨a.b0, 0, none⟩ = some (.bool true)
  c1 : W.cell? ⟨a.b1, 0, none⟩ = some (.slice ao n cap)
  c2 : W.cell? ⟨a.b2, 0, none⟩ = some (.slice none 0 0)
  c3 : W.cell? ⟨a.b3, 0, none⟩ = some (.bool false)
  c4 : LastAt W a.b4 none
  f : ∀ k o, a.Is k → W.frozen? ⟨k, o, none⟩ = false
  arr : Arr W 1 ao n cap (rs.map rowE)
  rows : Rows0 a rs W
  kept : Kept F w W
  size : W.heap.size = w.heap.size + 1
theorem New.pre {a : AV} {ao : Option Addr} {n cap : Nat} {rs : List (Option RI)} {F : Nat → Prop} {w : World} (h : New a ao n cap rs F w) (o : Obj) : Pre a ao n cap rs F w ((w.setCell ⟨a.b0, 0, none⟩ (.bool true)).alloc o) := by
  obtain ⟨w1, hw1⟩ : ∃ X, X = w.setCell ⟨a.b0, 0, none⟩ (.bool true) := ⟨_, rfl⟩
  have hz : w1.heap.size = w.heap.size := by rw [hw1, World.size_setCell]
  have i0 : a.Is a.b0 := .inl rfl
  have hne : ∀ k, k ≠ a.b0 → w1.heap[k]? = w.heap[k]? := fun k hk => by rw [hw1]; exact Below.heap_setCell _ _ _ _ hk
  have hB : Below w1.heap.size w1 (w1.alloc o) := (Below.refl _ _).alloc (Nat.le_refl _) o
  have il : ∀ k, a.Is k → k < w1.heap.size := fun k hk => by rw [hz]; exact h.inb k (h.vF k hk)
  have hal : ∀ k, k < w1.heap.size → k ≠ a.b0 → (w1.alloc o).heap[k]? = w.heap[k]? := fun k hl hk => (hB.block k hl).trans (hne k hk)
  have cv : ∀ k o', a.Is k → k ≠ a.b0 → (w1.alloc o).cell? ⟨k, o', none⟩ = w.cell? ⟨k, o', none⟩ := fun k o' hi hk => World.cell?_of_block (a := ⟨k, o', none⟩) (hal k (il k hi) hk)
  rw [← hw1]
  refine ⟨(World.cell?_of_block (a := ⟨a.b0, 0, none⟩) (hB.block _ (il _ i0))).trans (by rw [hw1]; exact World.cell?_setCell_same _ _ _ h.c0), (cv _ _ (.inr (.inl rfl)) h.ok.n01.symm).trans h.c1, (cv _ _ (.inr (.inr (.inl rfl))) h.ok.n02.symm).trans h.c2, (cv _ _ (.inr (.inr (.inr (.inl rfl)))) h.ok.n03.symm).trans h.c3, h.c4.same (hal _ (il _ (.inr (.inr (.inr (.inr rfl))))) h.ok.n04.symm), fun k o' hk => (World.frozen?_of_block (a := ⟨k, o', none⟩) (hB.block _ (il _ hk))).trans (by rw [hw1, World.frozen?_setCell]; exact h.f k o' hk),
    arr_keep h.arr (by rw [World.size_alloc]; omega) (fun p hp => hal _ (by rw [hz]; exact h.inb _ (h.og p hp).1) (fun e => (h.og p hp).2.1 (by rw [e]; exact i0))), h.rows.keep (by rw [World.size_alloc]; omega) (fun k hk => hal _ (by rw [hz]; exact h.inb _ (h.rF k hk)) (fun e => ?_)), (by rw [hw1]; exact ((Kept.refl F w).setCell (p := ⟨a.b0, 0, none⟩) (.inl (h.vF _ i0)) _).alloc o), by rw [World.size_alloc]; omega⟩
  obtain ⟨i, r, hr, hf⟩ := hk
  exact h.rows.own i r hr k hf (by rw [e]; exact i0)
/-- the blocks of the state behind loop 1 -/
def F1 (F : Nat → Prop) (w wr : World) (k : Nat) : Prop := (F k ∨ w.heap.size < k) ∧ k < wr.heap.size
theorem Pre.beg {a : AV} {ao : Option Addr} {n cap : Nat} {rs : List (Option RI)} {F : Nat → Prop} {w W wr : World} {v : Value} {hs : List HI} (h0 : New a ao n cap rs F w) (h : Pre a ao n cap rs F w W) (hB : Bld a rs n v hs W wr) :
    Beg a v hs none (F1 F w wr) wr ∧ Kept (F1 F w wr) w wr ∧ hs.map HI.p = rs.filterMap headP := by
  have hz := h.size
  have hzr := hB.kept.size
  have inF : ∀ k, F k → k < w.heap.size := h0.inb
  have vl : ∀ k, a.Is k → k < w.heap.size := fun k hk => inF k (h0.vF k hk)
  have nr : ∀ k, a.Is k → ¬ RowsF rs k := fun k hk ⟨i, r, hr, hf⟩ => h0.rows.own i r hr k hf hk
  have kb : ∀ k, a.Is k → k ≠ a.b2 → wr.heap[k]? = W.heap[k]? := fun k hk hne => hB.kept.block k (by have := vl k hk; omega) (fun hf => hf.elim hne (nr k hk))
  have cv : ∀ k o, a.Is k → k ≠ a.b2 → wr.cell? ⟨k, o, none⟩ = W.cell? ⟨k, o, none⟩ := fun k o hk hne => World.cell?_of_block (a := ⟨k, o, none⟩) (kb k hk hne)
  have i4 : a.Is a.b4 := .inr (.inr (.inr (.inr rfl)))
  have hlen : n = rs.length := by have := h0.arr.len; rw [List.length_map] at this; exact this.symm
  refine ⟨⟨h0.ok, (cv _ _ (.inl rfl) h0.ok.n02).trans h.c0, hB.c2, (cv _ _ (.inr (.inr (.inr (.inl rfl)))) h0.ok.n23.symm).trans h.c3, h.c4.same (kb _ i4 h0.ok.n24.symm), fun k o hk => ?_, hB.row, hB.heads, hB.nd, fun k hk => ⟨.inl (h0.vF k hk), by have := vl k hk; omega⟩, fun k hk => ?_, fun i x hx k hk => ?_, fun k hk => hk.2⟩, ?_, ?_⟩
  · by_cases e : k = a.b2
    · subst e; exact hB.f2 o
    · exact (World.frozen?_of_block (a := ⟨k, o, none⟩) (kb k hk e)).trans (h.f k o hk)
  · have h1 := hB.gN k hk
    have h2 := (Row.lt hB.row k hk).2
    exact ⟨⟨.inr (by omega), h2⟩, fun hi => by have := vl k hi; omega, fun i x hx => hB.sep k hk i x hx⟩
  · have hl := (hB.heads.at_ i x hx).lt k hk
    rcases hB.hF i x hx k hk with ⟨q, r, _, h2, h3⟩ | h1
    · exact ⟨⟨.inl (h0.rF k ⟨q, r, h2, h3⟩), hl⟩, h0.rows.own q r h2 k h3⟩
    · exact ⟨⟨.inr (by omega), hl⟩, fun hi => by have := vl k hi; omega⟩
  · have hK : Kept F w wr := h.kept.trans hB.kept (fun k hk => .inl (by
      rcases hk with e | hk
      · subst e; exact h0.vF _ (.inr (.inr (.inl rfl)))
      · exact h0.rF k hk))
    exact ⟨hK.os, hK.tape, hK.output, hK.size, fun k hk hn => hK.block k hk (fun hf => hn ⟨.inl hf, by have := hK.size; omega⟩)⟩
  · rw [hB.plain, hlen, List.take_length]
theorem BegNext.first {a : AV} {hs : List HI} {F : Nat → Prop} {w wr : World} {e : Ending} {w' : World} (h : BegNext a hs none (F1 F w wr) w e w') : BegNext a hs none F w e w' := by
  obtain ⟨h1, ⟨v', hs', F', h2, h3, h4⟩, h5⟩ := h
  refine ⟨h1, ⟨v', hs', F', h2, h3, fun k hk => ?_⟩, ⟨h5.os, h5.tape, h5.output, h5.size, fun k hk hn => h5.block k hk (fun hf => ?_)⟩⟩
  · rcases h4 k hk with h6 | h6
    · rcases h6.1 with h7 | h7
      · exact .inl h7
      · exact .inr (by omega)
    · exact .inr h6
  · rcases hf.1 with h7 | h7
    · exact hn h7
    · omega
end Go.Proofs.Ytehbikofoidjhaa
