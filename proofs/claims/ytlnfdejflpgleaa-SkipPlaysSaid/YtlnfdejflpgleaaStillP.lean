/-
  SkipStill: what holds between two rounds.
-/
import Derived.Test.YtlnfdejflpgleaaPut8G
import Derived.Test.YtlnfdejflpgleaaRangeM
namespace Go.Proofs.Ytlnfdejflpgleaa
open Go.RowKit

/-- the blocks that SkipStill's loop leaves as they are: those laid since it began, but nodes -/
structure SafeS (B : Nat) (g : Nat) (W : World) : Prop where
  cells : ∃ arr T fr, W.heap[g]? = some (.cells arr T fr) ∧ T ≠ 72
  le : B ≤ g
theorem safeS (w1 : World) : Safe w1 (SafeS w1.heap.size) := by
  refine ⟨fun g W h => let ⟨arr, T, fr, e, _⟩ := h.cells; ⟨arr, T, fr, e⟩, fun g W W' h1 _ h3 _ h5 => ⟨h5, Nat.le_trans h1.size h3⟩, fun g W W' row hs hg hr => ?_⟩
  obtain ⟨arr, T, fr, e, hT⟩ := hs.cells
  have hgr : some g ≠ row := fun h => by
    obtain ⟨_, o, h2, h3⟩ := hr g h.symm
    rw [e] at h2; cases h2; cases h3
  exact ⟨⟨arr, T, fr, (hg.block g (Array.getElem?_eq_some_iff.1 e).1 hgr).trans e, hT⟩, hs.le⟩

/-- SkipStill's own variables: the list, the cells told first, how many rounds there were -/
structure SV where
  x : Nat
  bf : Nat
  n : Nat
def SV.Is (s : SV) (b k : Nat) : Prop := k = b ∨ k = b + 1 ∨ k = s.x ∨ k = s.bf ∨ k = s.n
structure StillI (w : World) (c : CellA) (lb : Nat) (s : SV) (ao : Option Addr) (cap : Nat) (L : List CellA) (k m : Nat) (V : World) : Prop where
  bel : Below w.heap.size w V
  c : CellAt V w.heap.size 0 c
  res : ∃ u, V.cell? ⟨w.heap.size + 1, 0, none⟩ = some (.bool u)
  resf : V.frozen? ⟨w.heap.size + 1, 0, none⟩ = false
  x : V.cell? ⟨s.x, 0, none⟩ = some (.pointer (some ⟨lb, 0, none⟩))
  bf : V.cell? ⟨s.bf, 0, none⟩ = some (.slice ao L.length cap)
  cells : Cells V ao L.length cap L
  aol : ∀ a, ao = some a → a.block < V.heap.size
  n : V.cell? ⟨s.n, 0, none⟩ = some (.int .i64 k)
  nf : V.frozen? ⟨s.n, 0, none⟩ = false
  sl : ∃ l F, SL lb l F V ∧ l.length ≤ m ∧ ∀ q, F q → w.heap.size ≤ q ∧ ¬ s.Is w.heap.size q ∧ ∀ a, ao = some a → q ≠ a.block
section
variable {w V V' : World} {c : CellA} {lb : Nat} {s : SV} {ao : Option Addr} {cap k m : Nat} {L : List CellA}
/-- all blocks that hold cells lie as they lay -/
theorem StillI.keep (h : StillI w c lb s ao cap L k m V) (hb : Below w.heap.size w V') (hs : V.heap.size ≤ V'.heap.size) (hk : ∀ (q : Nat) o, V.heap[q]? = some o → o.isCells = true → V'.heap[q]? = V.heap[q]?) : StillI w c lb s ao cap L k m V' := by
  have cellb : ∀ {p : Addr} {v : Value}, V.cell? p = some v → V'.heap[p.block]? = V.heap[p.block]? := fun {p v} hv => by
    unfold World.cell? at hv
    cases ho : V.heap[p.block]? with
    | none => simp [ho] at hv
    | some o =>
      cases o with
      | cells arr T fr => rw [hk _ _ ho rfl, ho]
      | _ => simp [ho] at hv
  have cl : ∀ {p : Addr} {v : Value}, V.cell? p = some v → V'.cell? p = some v := fun {p v} hv => (World.cell?_of_block (a := p) (cellb hv)).trans hv
  have fr : ∀ {p : Addr} {v : Value}, V.cell? p = some v → V'.frozen? p = V.frozen? p := fun {p v} hv => World.frozen?_of_block (a := p) (cellb hv)
  obtain ⟨u, hu⟩ := h.res
  obtain ⟨l, F, h1, h2, h3⟩ := h.sl
  refine ⟨hb, ⟨cl h.c.c0, cl h.c.c1, cl h.c.c2, cl h.c.c3, cl h.c.c4⟩, ⟨u, cl hu⟩, (fr hu).trans h.resf, cl h.x, cl h.bf, ?_, fun a ha => Nat.lt_of_lt_of_le (h.aol a ha) hs, cl h.n, (fr h.n).trans h.nf, ⟨l, F, h1.keep (fun q hq => ?_), h2, h3⟩⟩
  · refine ⟨h.cells.elems, Arr.len h.cells, Arr.fits h.cells, Arr.max h.cells, fun h0 => ?_⟩
    obtain ⟨g, off, e, hg, hc⟩ := Arr.lies h.cells h0
    exact ⟨g, off, e, Nat.lt_of_lt_of_le hg hs, fun i e he j u hu => cl (hc i e he j u hu)⟩
  · rcases h1.ty q hq with e | ⟨arr, fr, e⟩
    · subst e
      obtain ⟨hd, ns, q1, _, _⟩ := h1.ex
      exact cellb q1.l0
    · exact hk q _ e rfl
theorem StillI.own {α : Type} (f g : List α → Nat) {w1 : World} (hw1 : w.heap.size ≤ w1.heap.size) : OwnFrom w1.heap.size (fun (pre : List α) V => StillI w c lb s ao cap L (f pre) (g pre) V) := by
  rintro pre A B row h hg hr
  refine h.keep (h.bel.grown hg h.bel.size (fun k e => by have := (hr k e).1; omega)) hg.size (fun q o hq ho => hg.block q (Array.getElem?_eq_some_iff.1 hq).1 (fun e => ?_))
  obtain ⟨_, o2, h2, h3⟩ := hr q e.symm
  rw [hq] at h2; cases h2
  rw [ho] at h3; cases h3
/-- a Put -/
theorem StillI.puts (h : StillI w c lb s ao cap L k m V) {B : Nat} (hB : lb < B) : ∃ l F, SL lb l F V ∧ l.length ≤ m ∧ ∀ (V' : World) l' F', SL lb l' F' V' → Kept F V V' → (∀ q, F' q → F q ∨ V.heap.size ≤ q) → l'.length ≤ l.length + 1 →
    StillI w c lb s ao cap L k (m + 1) V' ∧ (∀ g, SafeS B g V → V'.heap[g]? = V.heap[g]? ∧ SafeS B g V') ∧ (∀ B', KeepsFrom B' V V') := by
  obtain ⟨l, F, h1, h2, h3⟩ := h.sl
  refine ⟨l, F, h1, h2, fun V' l' F' hS hK hF hl => ?_⟩
  have hF2 : ∀ q, F q → ∃ arr T fr, V.heap[q]? = some (.cells arr T fr) := fun q hq => by
    rcases h1.ty q hq with e | ⟨arr, fr, e⟩
    · subst e
      obtain ⟨hd, ns, q1, _, _⟩ := h1.ex
      have := q1.l0
      unfold World.cell? at this
      cases ho : V.heap[q]? with
      | none => simp [ho] at this
      | some o =>
        cases o with
        | cells arr T fr => exact ⟨arr, T, fr, rfl⟩
        | _ => simp [ho] at this
    · exact ⟨arr, _, fr, e⟩
  have nF : ∀ {q : Nat}, (s.Is w.heap.size q ∨ ∃ a, ao = some a ∧ q = a.block) → ¬ F q := fun {q} hq hf => by
    obtain ⟨_, r1, r2⟩ := h3 q hf
    rcases hq with hq | ⟨a, ha, hq⟩
    · exact r1 hq
    · exact r2 a ha hq
  have blk : ∀ {p : Addr} {v : Value}, V.cell? p = some v → ¬ F p.block → V'.heap[p.block]? = V.heap[p.block]? := fun {p v} hv hn => hK.block _ (World.block_lt_of_cell? _ _ hv) hn
  have cl : ∀ {p : Addr} {v : Value}, V.cell? p = some v → ¬ F p.block → V'.cell? p = some v := fun {p v} hv hn => (World.cell?_of_block (a := p) (blk hv hn)).trans hv
  have fr : ∀ {p : Addr} {v : Value}, V.cell? p = some v → ¬ F p.block → V'.frozen? p = V.frozen? p := fun {p v} hv hn => World.frozen?_of_block (a := p) (blk hv hn)
  have i0 : ¬ F w.heap.size := nF (.inl (.inl rfl))
  have i1 : ¬ F (w.heap.size + 1) := nF (.inl (.inr (.inl rfl)))
  have i2 : ¬ F s.x := nF (.inl (.inr (.inr (.inl rfl))))
  have i3 : ¬ F s.bf := nF (.inl (.inr (.inr (.inr (.inl rfl)))))
  have i4 : ¬ F s.n := nF (.inl (.inr (.inr (.inr (.inr rfl)))))
  obtain ⟨u, hu⟩ := h.res
  have lt : ∀ {p : Addr} {v : Value}, V.cell? p = some v → p.block < V.heap.size := fun hv => World.block_lt_of_cell? _ _ hv
  refine ⟨⟨?_, ⟨cl h.c.c0 i0, cl h.c.c1 i0, cl h.c.c2 i0, cl h.c.c3 i0, cl h.c.c4 i0⟩, ⟨u, cl hu i1⟩, (fr hu i1).trans h.resf, cl h.x i2, cl h.bf i3, ?_, fun a ha => Nat.lt_of_lt_of_le (h.aol a ha) hK.size, cl h.n i4, (fr h.n i4).trans h.nf, ⟨l', F', hS, by omega, fun q hq => ?_⟩⟩, fun g hg => ?_, fun B' => ⟨hK.size, fun q o _ ho hc => (hK.block q (Array.getElem?_eq_some_iff.1 ho).1 (fun hf => ?_)).trans ho⟩⟩
  · exact h.bel.trans (hK.below (fun q hq => (h3 q hq).1) h.bel.size)
  · refine ⟨h.cells.elems, Arr.len h.cells, Arr.fits h.cells, Arr.max h.cells, fun h0 => ?_⟩
    obtain ⟨g, off, e, hg, hc⟩ := Arr.lies h.cells h0
    exact ⟨g, off, e, Nat.lt_of_lt_of_le hg hK.size, fun i e' he j u hu => cl (hc i e' he j u hu) (nF (.inr ⟨_, e, rfl⟩))⟩
  · rcases hF q hq with hq | hq
    · exact h3 q hq
    · refine ⟨Nat.le_trans h.bel.size hq, fun hi => ?_, fun a ha e => ?_⟩
      · have l0 := lt h.c.c0
        have l1 := lt hu
        have l2 := lt h.x
        have l3 := lt h.bf
        have l4 := lt h.n
        simp only at l0 l1 l2 l3 l4
        rcases hi with e | e | e | e | e <;> omega
      · have := h.aol a ha
        omega
  · obtain ⟨arr, T, fr, e, hT⟩ := hg.cells
    have hn : ¬ F g := fun hf => by
      rcases h1.ty g hf with e1 | ⟨arr2, fr2, e1⟩
      · have := hg.le; omega
      · rw [e] at e1; cases e1; exact hT rfl
    have hb := hK.block g (Array.getElem?_eq_some_iff.1 e).1 hn
    exact ⟨hb, ⟨arr, T, fr, hb.trans e, hT⟩, hg.le⟩
  · obtain ⟨arr, T, fr, e⟩ := hF2 q hf
    rw [ho] at e; cases e; cases hc
/-- a round more is counted -/
theorem StillI.count (h : StillI w c lb s ao cap L k m V) (hd : s.n ≠ w.heap.size ∧ s.n ≠ w.heap.size + 1 ∧ s.n ≠ s.x ∧ s.n ≠ s.bf ∧ (∀ a, ao = some a → s.n ≠ a.block) ∧ w.heap.size ≤ s.n) (B : Nat) (hB : s.n < B) :
    StillI w c lb s ao cap L (k + 1) m (V.setCell ⟨s.n, 0, none⟩ (.int .i64 ((k : Int) + 1))) ∧ (∀ g, SafeS B g V → (V.setCell ⟨s.n, 0, none⟩ (.int .i64 ((k : Int) + 1))).heap[g]? = V.heap[g]? ∧ SafeS B g (V.setCell ⟨s.n, 0, none⟩ (.int .i64 ((k : Int) + 1)))) := by
  obtain ⟨d0, d1, d2, d3, d4, d5⟩ := hd
  obtain ⟨u, hu⟩ := h.res
  obtain ⟨l, F, h1, h2, h3⟩ := h.sl
  have blk : ∀ q, q ≠ s.n → (V.setCell ⟨s.n, 0, none⟩ (.int .i64 ((k : Int) + 1))).heap[q]? = V.heap[q]? := fun q hq => Below.heap_setCell _ _ _ _ hq
  have cl : ∀ {p : Addr}, p.block ≠ s.n → (V.setCell ⟨s.n, 0, none⟩ (.int .i64 ((k : Int) + 1))).cell? p = V.cell? p := fun {p} hq => World.cell?_of_block (a := p) (blk _ hq)
  refine ⟨⟨h.bel.setCell (by simp only; omega) _, ⟨(cl (Ne.symm d0)).trans h.c.c0, (cl (Ne.symm d0)).trans h.c.c1, (cl (Ne.symm d0)).trans h.c.c2, (cl (Ne.symm d0)).trans h.c.c3, (cl (Ne.symm d0)).trans h.c.c4⟩, ⟨u, (cl (Ne.symm d1)).trans hu⟩, by rw [World.frozen?_setCell]; exact h.resf,
    (cl (Ne.symm d2)).trans h.x, (cl (Ne.symm d3)).trans h.bf, ?_, fun a ha => by rw [World.size_setCell]; exact h.aol a ha, ?_, by rw [World.frozen?_setCell]; exact h.nf, ⟨l, F, h1.keep (fun q hq => blk q (fun e => (h3 q hq).2.1 (e ▸ .inr (.inr (.inr (.inr rfl)))))), h2, h3⟩⟩, fun g hg => ?_⟩
  · refine ⟨h.cells.elems, Arr.len h.cells, Arr.fits h.cells, Arr.max h.cells, fun h0 => ?_⟩
    obtain ⟨g, off, e, hg, hc⟩ := Arr.lies h.cells h0
    exact ⟨g, off, e, by rw [World.size_setCell]; exact hg, fun i e' he j u hu => (cl (p := ⟨g, off + i * 5 + j, none⟩) (fun e2 => d4 _ e (Eq.symm e2))).trans (hc i e' he j u hu)⟩
  · have := World.cell?_setCell_same V ⟨s.n, 0, none⟩ (.int .i64 ((k : Int) + 1)) h.n
    rw [this]
    rfl
  · have hb := blk g (by have := hg.le; omega)
    obtain ⟨arr, T, fr, e, hT⟩ := hg.cells
    exact ⟨hb, ⟨arr, T, fr, hb.trans e, hT⟩, hg.le⟩
end
theorem u64_wrap_ok (n : Int) : 0 ≤ IntKind.u64.wrap n ∧ IntKind.u64.wrap n ≤ 18446744073709551615 := by
  have : IntKind.u64.wrap n = n % 18446744073709551616 := by simp [IntKind.wrap, IntKind.bits, IntKind.signed]
  omega
section
variable {w V V' : World} {c : CellA} {lb : Nat} {s : SV} {ao : Option Addr} {cap k m : Nat} {L : List CellA}
theorem SafeS.same {B g : Nat} {V V' : World} (h : SafeS B g V) (e : V'.heap[g]? = V.heap[g]?) : SafeS B g V' := by
  obtain ⟨arr, T, fr, h1, h2⟩ := h.cells
  exact ⟨⟨arr, T, fr, e.trans h1, h2⟩, h.le⟩
theorem still_put (d : CellA) (hd : d.Ok) (h : Int) (hI : StillI w c lb s ao cap L k m V) (hm : m < 1000000) {B : Nat} (hB : lb < B) :
    Calls Try.prog 12 #[.pointer (some ⟨lb, 0, none⟩), .agg #[.string d.row, .string d.col, .int .u64 d.ver, .bool d.gone, .string d.val], .int .i64 h] V fun e V' => e = .returned (.int .i64 (putE d h)) ∧
      StillI w c lb s ao cap L k (m + 1) V' ∧ (∀ g, SafeS B g V → V'.heap[g]? = V.heap[g]?) ∧ (∀ B', KeepsFrom B' V V') := by
  obtain ⟨l, F, h1, h2, h3⟩ := hI.puts hB
  refine (put_slx d hd h lb l F V h1 (by omega)).mono ?_
  rintro e V' ⟨rfl, F', hS, hK, hF⟩
  obtain ⟨r1, r2, r3⟩ := h3 V' _ F' hS hK hF (putX_len d h l)
  exact ⟨rfl, r1, fun g hg => (r2 g hg).1, r3⟩
theorem StillI.weak {m' : Nat} (h : StillI w c lb s ao cap L k m V) (hm : m ≤ m') : StillI w c lb s ao cap L k m' V := by
  obtain ⟨l, F, h1, h2, h3⟩ := h.sl
  exact ⟨h.bel, h.c, h.res, h.resf, h.x, h.bf, h.cells, h.aol, h.n, h.nf, l, F, h1, by omega, h3⟩
/-- what a round keeps -/
theorem still_kps {w4 W W2 V1 V V'' : World} {o : Obj} (hW : w4.heap.size ≤ W.heap.size) (hg : (W.alloc o).grownBy W2 (some (w4.heap.size + 1))) (h1 : ∀ g, g < W.heap.size → V1.heap[g]? = W2.heap[g]?) (hq : ∀ (q : Nat) (o : Obj), W.heap[q]? = some o → o.isCells = true → W2.heap[q]? = W.heap[q]?)
    (h2 : ∀ g, SafeS w4.heap.size g V1 → V.heap[g]? = V1.heap[g]?) (h3 : ∀ g, SafeS w4.heap.size g V → V''.heap[g]? = V.heap[g]?) (hK : ∀ B', KeepsFrom B' W2 V'') :
    KeepsFrom w4.heap.size W2 V'' ∧ KpS (SafeS w4.heap.size) (w4.heap.size + 2) W V'' := by
  have hKW : KeepsFrom (w4.heap.size + 2) W V'' := ((keepsFrom_alloc W o).trans (KeepsFrom.of_grownBy hg (fun j e => by cases e; omega))).trans (hK _)
  refine ⟨hK _, ⟨hKW.size, fun g hs => ?_, hKW⟩⟩
  obtain ⟨arr, T, fr, e, hT⟩ := hs.cells
  have e1 := hq g _ e rfl
  have e2 := (h1 g (Array.getElem?_eq_some_iff.1 e).1).trans e1
  have s2 := hs.same e2
  have e3 := h2 g s2
  have s3 := s2.same e3
  have e4 := h3 g s3
  exact ⟨e4.trans (e3.trans e2), s3.same e4⟩
/-- where two cells differ first -/
theorem cell_differ {x z : CellA} (h : x ≠ z) : ((x.row.toList == z.row.toList) = false ∧ ¬ x.row.toList = z.row.toList) ∨ (z.row = x.row ∧ (x.col.toList == z.col.toList) = false ∧ ¬ x.col.toList = z.col.toList) ∨ (z.row = x.row ∧ z.col = x.col ∧ (x.ver == z.ver) = false) ∨
    (z.row = x.row ∧ z.col = x.col ∧ z.ver = x.ver ∧ x.gone = true ∧ z.gone = false) ∨ (z.row = x.row ∧ z.col = x.col ∧ z.ver = x.ver ∧ x.gone = false ∧ z.gone = true) ∨ (z.row = x.row ∧ z.col = x.col ∧ z.ver = x.ver ∧ z.gone = x.gone ∧ (x.val.toList == z.val.toList) = false ∧ ¬ x.val.toList = z.val.toList) := by
  by_cases e1 : x.row = z.row
  · by_cases e2 : x.col = z.col
    · by_cases e3 : x.ver = z.ver
      · by_cases e4 : x.gone = z.gone
        · by_cases e5 : x.val = z.val
          · exact absurd (CellA.ext' e1 e2 e3 e4 e5) h
          · obtain ⟨n1, n2⟩ := ne_of e5
            exact .inr (.inr (.inr (.inr (.inr ⟨e1.symm, e2.symm, e3.symm, e4.symm, n1, n2⟩))))
        · cases hx : x.gone <;> cases hz : z.gone
          · rw [hx, hz] at e4; exact absurd rfl e4
          · exact .inr (.inr (.inr (.inr (.inl ⟨e1.symm, e2.symm, e3.symm, rfl, rfl⟩))))
          · exact .inr (.inr (.inr (.inl ⟨e1.symm, e2.symm, e3.symm, rfl, rfl⟩)))
          · rw [hx, hz] at e4; exact absurd rfl e4
      · exact .inr (.inr (.inl ⟨e1.symm, e2.symm, by simpa using e3⟩))
    · obtain ⟨n1, n2⟩ := ne_of e2
      exact .inr (.inl ⟨e1.symm, n1, n2⟩)
  · exact .inl (ne_of e1)
end
end Go.Proofs.Ytlnfdejflpgleaa
