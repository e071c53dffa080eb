/-
  Tables: which bytes are a table's; the plain part of Open.
-/
import Derived.Test.YtihglmicgccgiaaTblW
namespace Go.Proofs.Ytihglmicgccgiaa
open Go.RowKit Go.Shelf

/-- s is the table of the blocks bss -/
structure IsT (s : List UInt8) (bss : List (List CellA)) : Prop where
  good : GoodB bss
  rise : wrongB bss.flatten = false
  eq : s = tableL bss
/-- the frames of a table -/
def partL (bss : List (List CellA)) : List UInt8 := framesL bss ++ frameB (indexL bss) ++ frameB (filterL bss)
theorem tableL_eq (bss : List (List CellA)) : ∃ t, t.length = 16 ∧ tableL bss = partL bss ++ t := ⟨eightL (framesL bss).length ++ eightL (framesL bss ++ frameB (indexL bss)).length, by rw [List.length_append, eightL_len, eightL_len], by simp only [tableL, partL, List.append_assoc]⟩
theorem tableL_len (bss : List (List CellA)) : (tableL bss).length = (partL bss).length + 16 := by
  obtain ⟨t, h1, h2⟩ := tableL_eq bss
  rw [h2, List.length_append, h1]
theorem tableL_take (bss : List (List CellA)) : (tableL bss).take ((tableL bss).length - 16) = partL bss := by
  obtain ⟨t, h1, h2⟩ := tableL_eq bss
  rw [tableL_len, Nat.add_sub_cancel, h2, List.take_left]
theorem block_long {bs : List CellA} (h : BlockOf (blockL bs) bs) (hne : bs ≠ []) : 1 ≤ (blockL bs).length ∧ 6 * bs.length ≤ (blockL bs).length := by
  have h1 := bodyTo_long bs bs.length (Nat.le_refl _)
  have h2 := List.length_pos_iff.2 hne
  have h3 : (bodyTo bs bs.length).length ≤ (blockL bs).length := by
    unfold blockL
    rw [List.length_append, List.length_append]
    omega
  omega
theorem framesL_ge : ∀ {bss : List (List CellA)}, GoodB bss → 9 * bss.length ≤ (framesL bss).length ∧ 6 * bss.flatten.length ≤ (framesL bss).length
  | [], _ => by simp
  | bs :: bss, h => by
    obtain ⟨h1, h2⟩ := h.each bs (List.mem_cons_self ..)
    obtain ⟨i1, i2⟩ := framesL_ge (bss := bss) ⟨fun x hx => h.each x (List.mem_cons_of_mem _ hx)⟩
    obtain ⟨b1, b2⟩ := block_long h2 h1
    have e : framesL (bs :: bss) = frameB (blockL bs) ++ framesL bss := by simp [framesL]
    rw [e, List.length_append, frameB_len, List.flatten_cons, List.length_append, List.length_cons]
    omega
theorem GoodB.small {bss : List (List CellA)} (h : GoodB bss) (hl : (framesL bss).length ≤ 80000) : bss.length ≤ 10000 ∧ bss.flatten.length ≤ 32768 := by
  obtain ⟨h1, h2⟩ := framesL_ge h
  omega
theorem framesL_part (bss : List (List CellA)) : (framesL bss).length ≤ (partL bss).length := by
  unfold partL
  rw [List.length_append, List.length_append]
  omega
theorem IsT.small {s : List UInt8} {bss : List (List CellA)} (h : IsT s bss) (hs : s.length ≤ 80000) : bss.length ≤ 10000 ∧ bss.flatten.length ≤ 32768 := by
  refine h.good.small ?_
  have h1 := tableL_len bss
  have h2 := framesL_part bss
  rw [← h.eq] at h1
  omega
/-- the bodies of a table's frames -/
def bodiesL (bss : List (List CellA)) : List (List UInt8) := bss.map blockL ++ [indexL bss, filterL bss]
theorem bodiesL_frames {bss : List (List CellA)} (h : GoodB bss) (h1 : bss.length ≤ 10000) (h2 : bss.flatten.length ≤ 32768) : Frames (partL bss) (bodiesL bss) [] := by
  refine Frames.mk ?_ ?_ ?_
  · rw [List.append_nil]
    unfold partL bodiesL framesL
    simp [List.map_append, List.map_map]
    rfl
  · intro b hb
    unfold bodiesL at hb
    rcases List.mem_append.1 hb with hb | hb
    · obtain ⟨bs, hbs, rfl⟩ := List.mem_map.1 hb
      have := (h.each bs hbs).2.le
      omega
    · simp only [List.mem_cons, List.not_mem_nil, or_false] at hb
      rcases hb with rfl | rfl
      · have := indexTo_len h h1 bss.length (Nat.le_refl _)
        unfold indexL
        omega
      · have h3 := makeF_len (keysOf bss.flatten)
        have h4 := keysOf_len bss.flatten
        unfold filterL
        rw [h3]
        unfold makeZ
        omega
  · rfl
theorem lenFr_part {bss : List (List CellA)} : lenFr (bodiesL bss) = (partL bss).length := by
  unfold lenFr bodiesL partL framesL
  simp [List.map_append, List.map_map, Function.comp_def]
/-- the frames that Scan finds in a table's bytes are the table's -/
theorem IsT.bodies {s : List UInt8} {bss : List (List CellA)} (h : IsT s bss) (hs : s.length ≤ 80000) {bs : List (List UInt8)} {rest : List UInt8} (hf : Frames (s.take (s.length - 16)) bs rest) : bs = bodiesL bss ∧ rest = [] := by
  obtain ⟨h1, h2⟩ := h.small hs
  have hfr := bodiesL_frames h.good h1 h2
  rw [h.eq, tableL_take] at hf
  exact Frames.uniq hf hfr
theorem IsT.len {s : List UInt8} {bss : List (List CellA)} (h : IsT s bss) : 16 ≤ s.length := by
  rw [h.eq, tableL_len]
  omega
theorem IsT.scan {s : List UInt8} {bss : List (List CellA)} (h : IsT s bss) (hs : s.length ≤ 80000) {bs : List (List UInt8)} {rest : List UInt8} (hf : Frames (s.take (s.length - 16)) bs rest) : lenFr bs = s.length - 16 ∧ bs.length = bss.length + 2 ∧ ∀ (k : Nat) b, bss[k]? = some b → bs[k]? = some (blockL b) := by
  obtain ⟨h1, _⟩ := h.bodies hs hf
  subst h1
  refine ⟨?_, by simp [bodiesL], fun k b hk => ?_⟩
  · rw [lenFr_part, h.eq, tableL_len]; omega
  · have hlt := (List.getElem?_eq_some_iff.1 hk).1
    unfold bodiesL
    rw [List.getElem?_append_left (by simpa using hlt), List.getElem?_map, hk]
    rfl
/-- two tables' blocks are the same where the bodies are -/
theorem IsT.blocks {s : List UInt8} {bss css : List (List CellA)} (h : IsT s bss) (hs : s.length ≤ 80000) {bs : List (List UInt8)} {rest : List UInt8} (hf : Frames (s.take (s.length - 16)) bs rest) {k : Nat} (hk : css.length = k) (hkn : k + 2 ≤ bs.length) (hcs : ∀ (j : Nat) c, css[j]? = some c → ∃ b, bs[j]? = some b ∧ BlockOf b c) : css = bss.take k := by
  obtain ⟨_, h2, h3⟩ := h.scan hs hf
  apply List.ext_getElem?
  intro j
  by_cases hj : j < k
  · obtain ⟨c, hc⟩ : ∃ c, css[j]? = some c := ⟨_, List.getElem?_eq_getElem (by omega)⟩
    obtain ⟨b, hb⟩ : ∃ b, bss[j]? = some b := ⟨_, List.getElem?_eq_getElem (by omega)⟩
    obtain ⟨d, hd, hdc⟩ := hcs j c hc
    have := h3 j b hb
    rw [hd] at this
    cases this
    have hbb := (h.good.each b (List.mem_of_getElem? hb)).2
    rw [List.getElem?_take_of_lt hj, hc, hb, block_inj hdc hbb]
  · rw [List.getElem?_eq_none (by omega), List.getElem?_eq_none (by rw [List.length_take]; omega)]
end Go.Proofs.Ytihglmicgccgiaa

/-
  Tables: what Open keeps while it reads blocks.
-/
namespace Go.Proofs.Ytihglmicgccgiaa
open Go.RowKit Go.Shelf

/-- a table in memory -/
structure TableAt (w : World) (p : Nat) (bss : List (List CellA)) : Prop where
  ex : ∃ ao cap, w.cell? ⟨p, 0, none⟩ = some (.slice ao bss.length cap) ∧ BB w ao bss.length cap bss
  c1 : w.cell? ⟨p, 1, none⟩ = some (.string (ofL (filterL bss)))
  c2 : w.cell? ⟨p, 2, none⟩ = some (.bool true)
theorem TableAt.lt {w : World} {p : Nat} {bss : List (List CellA)} (h : TableAt w p bss) : p < w.heap.size := World.block_lt_of_cell? _ _ h.c1
theorem TableAt.below {w w' : World} {p : Nat} {bss : List (List CellA)} (h : TableAt w p bss) (hb : Below w.heap.size w w') : TableAt w' p bss := by
  obtain ⟨ao, cap, h1, h2⟩ := h.ex
  exact ⟨⟨ao, cap, (hb.cell (p := ⟨p, 0, none⟩) h.lt).trans h1, h2.below hb⟩, (hb.cell (p := ⟨p, 1, none⟩) h.lt).trans h.c1, (hb.cell (p := ⟨p, 2, none⟩) h.lt).trans h.c2⟩

def avoidN (p : Nat) (va : Value) (k : Nat) : Prop := k = p ∨ va.ownBlock = some k
/-- the blocks' row v, all cells' row va, the bodies' row vb, the table's struct at p: all apart -/
structure OpenI (w : World) (p : Nat) (f : ByteArray) (vb : Value) (bs : List (List UInt8)) (v : Value) (bss : List (List CellA)) (va : Value) (al : List CellA) (V : World) : Prop where
  bel : Below w.heap.size w V
  strs : OwnS V w.heap.size vb bs
  blk : OwnB V w.heap.size v bss (avoidN p va)
  all : Own V w.heap.size va al
  c0 : V.cell? ⟨p, 0, none⟩ = some v
  c1 : V.cell? ⟨p, 1, none⟩ = some (.string f)
  c2 : V.cell? ⟨p, 2, none⟩ = some (.bool true)
  f0 : V.frozen? ⟨p, 0, none⟩ = false
  lo : w.heap.size ≤ p
  n1 : v.ownBlock ≠ some p ∧ va.ownBlock ≠ some p ∧ vb.ownBlock ≠ some p
  n2 : ∀ k, v.ownBlock = some k → va.ownBlock ≠ some k ∧ vb.ownBlock ≠ some k
  n3 : ∀ k, va.ownBlock = some k → vb.ownBlock ≠ some k
section
variable {w : World} {p : Nat} {f : ByteArray} {vb : Value} {bs : List (List UInt8)} {v : Value} {bss : List (List CellA)} {va : Value} {al : List CellA} {V : World}
theorem OpenI.lt (h : OpenI w p f vb bs v bss va al V) : p < V.heap.size := World.block_lt_of_cell? _ _ h.c0
theorem OpenI.below {V' : World} (h : OpenI w p f vb bs v bss va al V) (hb : Below V.heap.size V V') : OpenI w p f vb bs v bss va al V' :=
  ⟨h.bel.trans (hb.mono h.bel.size), h.strs.below hb, h.blk.below hb, Own.below h.all hb, (hb.cell (p := ⟨p, 0, none⟩) h.lt).trans h.c0, (hb.cell (p := ⟨p, 1, none⟩) h.lt).trans h.c1, (hb.cell (p := ⟨p, 2, none⟩) h.lt).trans h.c2, (hb.frozen (p := ⟨p, 0, none⟩) h.lt).trans h.f0, h.lo, h.n1, h.n2, h.n3⟩
/-- a block's cells that stand apart -/
structure Apart (p : Nat) (v va : Value) (V : World) (ad : Addr) : Prop where
  own : v.ownBlock ≠ some ad.block
  lt : ad.block < V.heap.size
  no : ¬ avoidN p va ad.block
theorem OpenI.fresh (h : OpenI w p f vb bs v bss va al V) {V' : World} (hb : Below V.heap.size V V') {ad : Addr} (h1 : V.heap.size ≤ ad.block) (h2 : ad.block < V'.heap.size) : Apart p v va V' ad := by
  refine ⟨fun e => ?_, h2, ?_⟩
  · have := (h.blk.lt _ e).2; omega
  · rintro (e | e)
    · have := h.lt; omega
    · have := (Row.lt h.all _ e).2; omega
/-- another block of cells is put behind the blocks -/
theorem OpenI.push (h : OpenI w p f vb bs v bss va al V) {v3 : Value} {w3 : World} {bss3 : List (List CellA)} (ho : OwnB w3 w.heap.size v3 bss3 (avoidN p va)) (hb : Below w.heap.size V w3) (hg : V.grownBy w3 v.ownBlock) (hq : ∀ k, v3.ownBlock = some k → v.ownBlock = some k ∨ V.heap.size ≤ k) :
    (w3.cell? ⟨p, 0, none⟩ = some v ∧ w3.frozen? ⟨p, 0, none⟩ = false) ∧ OpenI w p f vb bs v3 bss3 va al (w3.setCell ⟨p, 0, none⟩ v3) ∧ ∀ (ad : Addr) (n c : Nat) (cs : List CellA), Apart p v va V ad → Cells V (some ad) n c cs → Cells (w3.setCell ⟨p, 0, none⟩ v3) (some ad) n c cs ∧ ad.block < (w3.setCell ⟨p, 0, none⟩ v3).heap.size := by
  obtain ⟨n11, n12, n13⟩ := h.n1
  have hl := h.lt
  have hc := fun o => grown_cell (o := o) hg hl n11
  have gs : w3.grownBy (w3.setCell ⟨p, 0, none⟩ v3) (some p) := gb_set gb_row v3
  have hn3 : v3.ownBlock ≠ some p := fun e => by
    rcases hq _ e with e2 | e2
    · exact n11 e2
    · omega
  have hne1 : (⟨p, 0, none⟩ : Addr) ≠ ⟨p, 1, none⟩ := by intro e; cases e
  have hne2 : (⟨p, 0, none⟩ : Addr) ≠ ⟨p, 2, none⟩ := by intro e; cases e
  have hrow : ∀ {T : TypeId} {size n : Nat} {u : Value} {xs : List Value}, Row V w.heap.size T size u n xs → v.ownBlock ≠ none ∨ True → (∀ k, v.ownBlock = some k → u.ownBlock ≠ some k) → u.ownBlock ≠ some p → Row (w3.setCell ⟨p, 0, none⟩ v3) w.heap.size T size u n xs := by
    intro T size n u xs hr _ h1 h2
    refine Row.setCell (Row.of_heap hr fun k hk => hg.block k (hr.lt k hk).2 (fun e => h1 k e.symm hk)) (fun k hk e => h2 (by rw [hk, e])) _
  refine ⟨⟨(hc 0).1.trans h.c0, (hc 0).2.trans h.f0⟩, ⟨(h.bel.trans (hb.mono (Nat.le_refl _))).setCell (p := ⟨p, 0, none⟩) h.lo _, hrow h.strs (.inr trivial) (fun k hk => (h.n2 k hk).2) n13, ho.other gs (fun k hk e => by cases e; exact hn3 hk) (fun k e => by cases e; exact .inl rfl), hrow h.all (.inr trivial) (fun k hk => (h.n2 k hk).1) n12, World.cell?_setCell_same _ _ _ ((hc 0).1.trans h.c0), (World.cell?_setCell_other _ _ _ _ hne1).trans ((hc 1).1.trans h.c1), (World.cell?_setCell_other _ _ _ _ hne2).trans ((hc 2).1.trans h.c2), by rw [World.frozen?_setCell]; exact (hc 0).2.trans h.f0, h.lo, ⟨hn3, n12, n13⟩, fun k hk => ?_, h.n3⟩, fun ad n c cs ha hcs => ⟨?_, ?_⟩⟩
  · rcases hq k hk with e | e
    · exact h.n2 k e
    · exact ⟨fun e2 => by have := (Row.lt h.all _ e2).2; omega, fun e2 => by have := (Row.lt h.strs _ e2).2; omega⟩
  · refine (Cells.grown hcs hg (fun q hq2 => by cases hq2; exact ha.own)).grown gs (fun q hq2 e => ?_)
    cases hq2
    cases e
    exact ha.no (.inl rfl)
  · rw [World.size_setCell]
    exact Nat.lt_of_lt_of_le ha.lt hg.size
/-- cells are put behind all cells -/
theorem OpenI.more (h : OpenI w p f vb bs v bss va al V) {va4 : Value} {w4 : World} {al4 : List CellA} (ho : Own w4 w.heap.size va4 al4) (hb : Below w.heap.size V w4) (hg : V.grownBy w4 va.ownBlock) (hq : ∀ k, va4.ownBlock = some k → va.ownBlock = some k ∨ V.heap.size ≤ k) : OpenI w p f vb bs v bss va4 al4 w4 := by
  obtain ⟨n11, n12, n13⟩ := h.n1
  have hl := h.lt
  have hc := fun o => grown_cell (o := o) hg hl n12
  have hB : OwnB V w.heap.size v bss (fun k => avoidN p va k ∨ avoidN p va4 k) := h.blk.reN (fun k hk hm => hm.elim id fun hm => hm.elim .inl fun e => (hq k e).elim .inr fun e2 => by omega)
  refine ⟨h.bel.trans hb, Row.of_heap h.strs fun k hk => hg.block k (Row.lt h.strs k hk).2 (fun e => h.n3 k e.symm hk), (hB.other hg (fun k hk e => (h.n2 k hk).1 e) (fun k e => .inl (.inr e))).reN (fun k _ hm => .inr hm), ho, (hc 0).1.trans h.c0, (hc 1).1.trans h.c1, (hc 2).1.trans h.c2, (hc 0).2.trans h.f0, h.lo, ⟨n11, fun e => ?_, n13⟩, fun k hk => ⟨fun e => ?_, (h.n2 k hk).2⟩, fun k e => ?_⟩
  · rcases hq _ e with e2 | e2
    · exact n12 e2
    · omega
  · rcases hq _ e with e2 | e2
    · exact (h.n2 k hk).1 e2
    · have := (h.blk.lt _ hk).2; omega
  · rcases hq _ e with e2 | e2
    · exact h.n3 k e2
    · exact fun e3 => by have := (Row.lt h.strs _ e3).2; omega
theorem OpenI.table (h : OpenI w p f vb bs v bss va al V) (hf : f = ofL (filterL bss)) : TableAt V p bss := by
  obtain ⟨ao, cap, e⟩ := h.blk.form
  have hb := h.blk
  have h0 := h.c0
  rw [e] at hb h0
  exact ⟨⟨ao, cap, h0, hb.bb⟩, by rw [← hf]; exact h.c1, h.c2⟩
end
end Go.Proofs.Ytihglmicgccgiaa
