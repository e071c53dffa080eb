/-
  Steps of acreagelaw08.SkipPlays: the list of steps in memory; what the law's loop keeps.
-/
import Derived.Test.YtlnfdejflpgleaaPlays8P
namespace Go.Proofs.Ytlnfdejflpgleaa
open Go.RowKit

/-- a step: a cell, a height, how many are left behind -/
structure DoA where
  c : CellA
  h : Int
  lv : Int
def doE (d : DoA) : List Value := [.string d.c.row, .string d.c.col, .int .u64 d.c.ver, .bool d.c.gone, .string d.c.val, .int .i64 d.h, .int .i64 d.lv]
theorem doE_elems (ds : List DoA) : Elems 7 (ds.map doE) := fun e he => by
  obtain ⟨d, _, rfl⟩ := List.mem_map.1 he
  exact ⟨rfl, fun u hu => by simp [doE] at hu; rcases hu with rfl | rfl | rfl | rfl | rfl | rfl | rfl <;> rfl⟩
def Dos (w : World) (ao : Option Addr) (n cap : Nat) (ds : List DoA) : Prop := Arr w 7 ao n cap (ds.map doE)
theorem Dos.len {w : World} {ao : Option Addr} {n cap : Nat} {ds : List DoA} (h : Dos w ao n cap ds) : ds.length = n := by have := Arr.len h; rwa [List.length_map] at this
structure DoAt (w : World) (b o : Nat) (d : DoA) : Prop where
  c0 : w.cell? ⟨b, o, none⟩ = some (.string d.c.row)
  c1 : w.cell? ⟨b, o + 1, none⟩ = some (.string d.c.col)
  c2 : w.cell? ⟨b, o + 2, none⟩ = some (.int .u64 d.c.ver)
  c3 : w.cell? ⟨b, o + 3, none⟩ = some (.bool d.c.gone)
  c4 : w.cell? ⟨b, o + 4, none⟩ = some (.string d.c.val)
  c5 : w.cell? ⟨b, o + 5, none⟩ = some (.int .i64 d.h)
  c6 : w.cell? ⟨b, o + 6, none⟩ = some (.int .i64 d.lv)
theorem DoAt.below {w W : World} {b o : Nat} {d : DoA} (h : DoAt w b o d) (hb : b < w.heap.size) (hW : Below w.heap.size w W) : DoAt W b o d :=
  ⟨(hW.cell (p := ⟨b, _, none⟩) hb).trans h.c0, (hW.cell (p := ⟨b, _, none⟩) hb).trans h.c1, (hW.cell (p := ⟨b, _, none⟩) hb).trans h.c2, (hW.cell (p := ⟨b, _, none⟩) hb).trans h.c3, (hW.cell (p := ⟨b, _, none⟩) hb).trans h.c4, (hW.cell (p := ⟨b, _, none⟩) hb).trans h.c5, (hW.cell (p := ⟨b, _, none⟩) hb).trans h.c6⟩
theorem Dos.at_ {w : World} {ao : Option Addr} {n cap : Nat} {ds : List DoA} (h : Dos w ao n cap ds) {i : Nat} {d : DoA} (hd : ds[i]? = some d) : ∃ b off, ao = some ⟨b, off, none⟩ ∧ b < w.heap.size ∧ DoAt w b (off + i * 7) d := by
  obtain ⟨b, off, e, hb, hc⟩ := Arr.at_ h (i := i) (e := doE d) (by rw [List.getElem?_map, hd]; rfl)
  exact ⟨b, off, e, hb, ⟨hc 0 _ rfl, hc 1 _ rfl, hc 2 _ rfl, hc 3 _ rfl, hc 4 _ rfl, hc 5 _ rfl, hc 6 _ rfl⟩⟩

/-- of the blocks of the document's two rows G holds -/
def OnS (G : Nat → Prop) (v : Value) : Prop := ∀ ao n cap ao2 n2 cap2, v = .agg #[.slice ao n cap, .slice ao2 n2 cap2] → (∀ a, ao = some a → G a.block) ∧ ∀ a, ao2 = some a → G a.block
theorem OnS.mono {G H : Nat → Prop} {v : Value} (h : OnS G v) (hg : ∀ g, G g → H g) : OnS H v := fun a n c a2 n2 c2 e => ⟨fun x hx => hg _ ((h a n c a2 n2 c2 e).1 x hx), fun x hx => hg _ ((h a n c a2 n2 c2 e).2 x hx)⟩
theorem LM.keepS {w w' : World} {v : Value} {l : List CH} {G : Nat → Prop} (h : LM w v l) (hv : OnS G v) (hz : ∀ g, g < w.heap.size → G g → w'.heap[g]? = w.heap[g]?) (hs : w.heap.size ≤ w'.heap.size) : LM w' v l := by
  obtain ⟨ao, cap, ao2, cap2, e, h1, h2⟩ := h.ex
  obtain ⟨n1, n2⟩ := hv _ _ _ _ _ _ e
  refine ⟨h.nil, ao, cap, ao2, cap2, e, ⟨Arr.elems h1, Arr.len h1, Arr.fits h1, Arr.max h1, fun h0 => ?_⟩, ⟨Arr.elems h2, Arr.len h2, Arr.fits h2, Arr.max h2, fun h0 => ?_⟩⟩
  · obtain ⟨b, off, e2, hb, hc⟩ := Arr.lies h1 h0
    exact ⟨b, off, e2, Nat.lt_of_lt_of_le hb hs, fun i x hx j u hu => (World.cell?_of_block (a := ⟨b, _, none⟩) (hz b hb (n1 _ e2))).trans (hc i x hx j u hu)⟩
  · obtain ⟨b, off, e2, hb, hc⟩ := Arr.lies h2 h0
    exact ⟨b, off, e2, Nat.lt_of_lt_of_le hb hs, fun i x hx j u hu => (World.cell?_of_block (a := ⟨b, _, none⟩) (hz b hb (n2 _ e2))).trans (hc i x hx j u hu)⟩
theorem NewS.mono {B C : Nat} {v : Value} (h : NewS B v) (hc : C ≤ B) : NewS C v := fun a n c a2 n2 c2 e => ⟨fun x hx => Nat.le_trans hc ((h a n c a2 n2 c2 e).1 x hx), fun x hx => Nat.le_trans hc ((h a n c a2 n2 c2 e).2 x hx)⟩
theorem LM.on {w : World} {v : Value} {l : List CH} (h : LM w v l) : OnS (fun g => g < w.heap.size) v := by
  intro a n c a2 n2 c2 e
  by_cases hl : l = []
  · have := h.nil hl
    rw [e] at this
    simp only [Value.agg.injEq, Array.mk.injEq, List.cons.injEq, Value.slice.injEq, and_true] at this
    obtain ⟨⟨rfl, _⟩, rfl, _⟩ := this
    exact ⟨fun x hx => (by cases hx), fun x hx => (by cases hx)⟩
  · obtain ⟨ao, cap, ao2, cap2, e2, h1, h2⟩ := h.ex
    rw [e] at e2
    simp only [Value.agg.injEq, Array.mk.injEq, List.cons.injEq, Value.slice.injEq, and_true] at e2
    obtain ⟨⟨rfl, _⟩, rfl, _⟩ := e2
    have hp : 0 < l.length := List.length_pos_iff.2 hl
    refine ⟨fun x hx => ?_, fun x hx => ?_⟩
    · obtain ⟨b, off, e3, hb, _⟩ := Arr.lies h1 hp
      rw [hx] at e3; cases e3; exact hb
    · obtain ⟨b, off, e3, hb, _⟩ := Arr.lies h2 hp
      rw [hx] at e3; cases e3; exact hb
theorem OnS.both {G H : Nat → Prop} {v : Value} (h : OnS G v) (k : OnS H v) : OnS (fun g => G g ∧ H g) v := fun a n c a2 n2 c2 e => ⟨fun x hx => ⟨(h a n c a2 n2 c2 e).1 x hx, (k a n c a2 n2 c2 e).1 x hx⟩, fun x hx => ⟨(h a n c a2 n2 c2 e).2 x hx, (k a n c a2 n2 c2 e).2 x hx⟩⟩
theorem cell_blk {w : World} {p : Addr} {v : Value} (h : w.cell? p = some v) : ∃ o : Obj, w.heap[p.block]? = some o ∧ o.isCells = true := by
  unfold World.cell? at h
  cases ho : w.heap[p.block]? with
  | none => simp [ho] at h
  | some o =>
    cases o with
    | cells arr T fr => exact ⟨_, rfl, rfl⟩
    | _ => simp [ho] at h
theorem LM.onC {w : World} {v : Value} {l : List CH} (h : LM w v l) : OnS (fun g => ∃ o : Obj, w.heap[g]? = some o ∧ o.isCells = true) v := by
  intro a n c a2 n2 c2 e
  by_cases hl : l = []
  · have := h.nil hl
    rw [e] at this
    simp only [Value.agg.injEq, Array.mk.injEq, List.cons.injEq, Value.slice.injEq, and_true] at this
    obtain ⟨⟨rfl, _⟩, rfl, _⟩ := this
    exact ⟨fun x hx => (by cases hx), fun x hx => (by cases hx)⟩
  · obtain ⟨ao, cap, ao2, cap2, e2, h1, h2⟩ := h.ex
    rw [e] at e2
    simp only [Value.agg.injEq, Array.mk.injEq, List.cons.injEq, Value.slice.injEq, and_true] at e2
    obtain ⟨⟨rfl, _⟩, rfl, _⟩ := e2
    obtain ⟨y, r, rfl⟩ := List.exists_cons_of_ne_nil hl
    have hp : 0 < (y :: r).length := by simp
    refine ⟨fun x hx => ?_, fun x hx => ?_⟩
    · obtain ⟨b, off, e3, hb, hc⟩ := Arr.lies h1 hp
      rw [hx] at e3; cases e3
      exact cell_blk (hc 0 (cellE y.1) rfl 0 _ rfl)
    · obtain ⟨b, off, e3, hb, hc⟩ := Arr.lies h2 hp
      rw [hx] at e3; cases e3
      exact cell_blk (hc 0 [.int .i64 (y.2 : Int)] rfl 0 _ rfl)
theorem sl_cells {lb : Nat} {l : List CH} {F : Nat → Prop} {w : World} (h : SL lb l F w) (g : Nat) (hg : F g) : ∃ o : Obj, w.heap[g]? = some o ∧ o.isCells = true := by
  rcases h.ty g hg with e | ⟨arr, fr, e⟩
  · subst e
    obtain ⟨hd, ns, q1, _, _⟩ := h.ex
    exact cell_blk q1.l0
  · exact ⟨_, e, rfl⟩
theorem lm_after {w5 W : World} {C D z : Nat} {v v' : Value} {l' : List CH} (hM : LM w5 v' l') (hN : NewS C v' ∨ v' = v) (hv : OnS (fun g => g < D) v) (hD : D ≤ z) (hz : z < C ∨ w5.heap.size ≤ z) (hs : w5.heap.size ≤ W.heap.size)
    (hk : ∀ g, g < w5.heap.size → g ≠ z → W.heap[g]? = w5.heap[g]?) : LM W v' l' := by
  refine hM.keepS (G := fun g => g ≠ z) (fun a n c a2 n2 c2 e => ?_) hk hs
  obtain ⟨o1, o2⟩ := hM.on _ _ _ _ _ _ e
  rcases hz with hz | hz
  · rcases hN with hN | rfl
    · obtain ⟨n1, n2⟩ := hN _ _ _ _ _ _ e
      exact ⟨fun x hx => by have := n1 x hx; omega, fun x hx => by have := n2 x hx; omega⟩
    · obtain ⟨n1, n2⟩ := hv _ _ _ _ _ _ e
      exact ⟨fun x hx => by have := n1 x hx; omega, fun x hx => by have := n2 x hx; omega⟩
  · exact ⟨fun x hx => by have := o1 x hx; omega, fun x hx => by have := o2 x hx; omega⟩

/-- What the law's loop keeps: rb: the answer's cell, mb: the document's list's two cells, lb: the list. -/
structure PlK (w : World) (rb mb lb k : Nat) (l : List CH) (F : Nat → Prop) (v : Value) (V : World) : Prop where
  bel : Below w.heap.size w V
  lrb : w.heap.size ≤ rb
  lmb : w.heap.size ≤ mb
  ne : rb ≠ mb
  rc : ∃ u, V.cell? ⟨rb, 0, none⟩ = some (.bool u)
  rf : V.frozen? ⟨rb, 0, none⟩ = false
  m : ∃ s1 s2, v = .agg #[s1, s2] ∧ V.cell? ⟨mb, 0, none⟩ = some s1 ∧ V.cell? ⟨mb, 1, none⟩ = some s2
  mf0 : V.frozen? ⟨mb, 0, none⟩ = false
  mf1 : V.frozen? ⟨mb, 1, none⟩ = false
  sl : SL lb l F V
  lm : LM V v l
  apart : OnS (fun g => ¬ F g ∧ g ≠ mb ∧ g ≠ rb) v
  len : l.length ≤ k
  hts : ∀ p ∈ l, p.2 ≤ 12
  fo : ∀ q, F q → w.heap.size ≤ q ∧ q ≠ mb ∧ q ≠ rb
section
variable {w V V' : World} {rb mb lb k : Nat} {l : List CH} {F : Nat → Prop} {v : Value}
theorem PlK.lt (h : PlK w rb mb lb k l F v V) : rb < V.heap.size ∧ mb < V.heap.size := by
  obtain ⟨u, hu⟩ := h.rc
  obtain ⟨s1, s2, _, hs, _⟩ := h.m
  exact ⟨World.block_lt_of_cell? _ _ hu, World.block_lt_of_cell? _ _ hs⟩
theorem PlK.below (h : PlK w rb mb lb k l F v V) (hb : Below V.heap.size V V') : PlK w rb mb lb k l F v V' := by
  obtain ⟨h1, h2⟩ := h.lt
  obtain ⟨u, hu⟩ := h.rc
  obtain ⟨s1, s2, e, m0, m1⟩ := h.m
  exact ⟨h.bel.trans (hb.mono h.bel.size), h.lrb, h.lmb, h.ne, ⟨u, (hb.cell (p := ⟨rb, 0, none⟩) h1).trans hu⟩, (hb.frozen (p := ⟨rb, 0, none⟩) h1).trans h.rf, ⟨s1, s2, e, (hb.cell (p := ⟨mb, 0, none⟩) h2).trans m0, (hb.cell (p := ⟨mb, 1, none⟩) h2).trans m1⟩,
    (hb.frozen (p := ⟨mb, 0, none⟩) h2).trans h.mf0, (hb.frozen (p := ⟨mb, 1, none⟩) h2).trans h.mf1, h.sl.below hb, h.lm.below hb, h.apart, h.len, h.hts, h.fo⟩
/-- behind both Puts, ahead of the assignment -/
theorem PlK.puts (h : PlK w rb mb lb k l F v V) {W5 W6 : World} {l' : List CH} {F' : Nat → Prop} {v' : Value} (h5 : Below V.heap.size V W5) (hM : LM W5 v' l') (hN : NewS V.heap.size v' ∨ v' = v) (hS : SL lb l' F' W6) (hK : Kept F W5 W6) (hF : ∀ q, F' q → F q ∨ W5.heap.size ≤ q) :
    Below w.heap.size w W6 ∧ LM W6 v' l' ∧ OnS (fun g => ¬ F' g ∧ g ≠ mb ∧ g ≠ rb) v' ∧ W6.heap[rb]? = V.heap[rb]? ∧ W6.heap[mb]? = V.heap[mb]? ∧ (∀ q, F' q → w.heap.size ≤ q ∧ q ≠ mb ∧ q ≠ rb) := by
  obtain ⟨h1, h2⟩ := h.lt
  have hv5 := h5.size
  have hin := h.sl.inb
  have hbw := h.bel.size
  have hon := hM.on
  have hap : OnS (fun g => ¬ F g ∧ g < W5.heap.size ∧ g ≠ mb ∧ g ≠ rb) v' := fun a n c a2 n2 c2 e => by
    obtain ⟨o1, o2⟩ := hon _ _ _ _ _ _ e
    rcases hN with hN | rfl
    · obtain ⟨n1, n2⟩ := hN _ _ _ _ _ _ e
      exact ⟨fun x hx => ⟨fun hf => by have := hin _ hf; have := n1 x hx; omega, o1 x hx, by have := n1 x hx; omega, by have := n1 x hx; omega⟩, fun x hx => ⟨fun hf => by have := hin _ hf; have := n2 x hx; omega, o2 x hx, by have := n2 x hx; omega, by have := n2 x hx; omega⟩⟩
    · obtain ⟨n1, n2⟩ := h.apart _ _ _ _ _ _ e
      exact ⟨fun x hx => ⟨(n1 x hx).1, o1 x hx, (n1 x hx).2⟩, fun x hx => ⟨(n2 x hx).1, o2 x hx, (n2 x hx).2⟩⟩
  have hnF : ∀ q, q < W5.heap.size → ¬ F q → ¬ F' q := fun q hq hn hf => by
    rcases hF q hf with h3 | h3
    · exact hn h3
    · omega
  have h5w : Below w.heap.size w W5 := h.bel.trans (h5.mono hbw)
  refine ⟨h5w.trans (hK.below (fun q hq => (h.fo q hq).1) (by omega)), hM.keepS hap (fun g hg hG => hK.block g hg hG.1) hK.size, hap.mono (fun g hg => ⟨hnF g hg.2.1 hg.1, hg.2.2⟩), ?_, ?_, fun q hq => ?_⟩
  · exact (hK.block rb (by omega) (fun hf => (h.fo _ hf).2.2 rfl)).trans (h5.block rb h1)
  · exact (hK.block mb (by omega) (fun hf => (h.fo _ hf).2.1 rfl)).trans (h5.block mb h2)
  · rcases hF q hq with h3 | h3
    · exact h.fo q h3
    · exact ⟨by omega, by omega, by omega⟩
/-- .. and behind it -/
theorem PlK.next (h : PlK w rb mb lb k l F v V) {W5 W6 : World} {l' : List CH} {F' : Nat → Prop} {s1 s2 : Value} (h5 : Below V.heap.size V W5) (hM : LM W5 (.agg #[s1, s2]) l') (hN : NewS V.heap.size (.agg #[s1, s2]) ∨ .agg #[s1, s2] = v) (hS : SL lb l' F' W6) (hK : Kept F W5 W6)
    (hF : ∀ q, F' q → F q ∨ W5.heap.size ≤ q) (hl : l'.length ≤ l.length + 1) (hh : ∀ p ∈ l', p.2 ≤ 12) : PlK w rb mb lb (k + 1) l' F' (.agg #[s1, s2]) ((W6.setCell ⟨mb, 0, none⟩ s1).setCell ⟨mb, 1, none⟩ s2) := by
  obtain ⟨b6, m6, o6, r6, mb6, f6⟩ := h.puts h5 hM hN hS hK hF
  obtain ⟨u, hu⟩ := h.rc
  obtain ⟨t1, t2, e, m0, m1⟩ := h.m
  have hne := h.ne
  have hlm := h.lmb
  have keep : ∀ g, g ≠ mb → ((W6.setCell ⟨mb, 0, none⟩ s1).setCell ⟨mb, 1, none⟩ s2).heap[g]? = W6.heap[g]? := fun g hg => (Below.heap_setCell _ _ _ _ hg).trans (Below.heap_setCell _ _ _ _ hg)
  have x0 := (World.cell?_of_block (a := ⟨mb, 0, none⟩) mb6).trans m0
  have x1 := (World.cell?_of_block (a := ⟨mb, 1, none⟩) mb6).trans m1
  have g0 := (World.frozen?_of_block (a := ⟨mb, 0, none⟩) mb6).trans h.mf0
  have g1 := (World.frozen?_of_block (a := ⟨mb, 1, none⟩) mb6).trans h.mf1
  have hlen := h.len
  refine ⟨(b6.setCell hlm _).setCell hlm _, h.lrb, hlm, hne, ⟨u, (World.cell?_of_block (a := ⟨rb, 0, none⟩) (keep rb hne)).trans ((World.cell?_of_block (a := ⟨rb, 0, none⟩) r6).trans hu)⟩, (World.frozen?_of_block (a := ⟨rb, 0, none⟩) (keep rb hne)).trans ((World.frozen?_of_block (a := ⟨rb, 0, none⟩) r6).trans h.rf),
    ⟨s1, s2, rfl, ?_, ?_⟩, by rw [World.frozen?_setCell, World.frozen?_setCell]; exact g0, by rw [World.frozen?_setCell, World.frozen?_setCell]; exact g1, hS.keep (fun q hq => keep q (f6 q hq).2.1), m6.keepS o6 (fun g _ hg => keep g hg.2.1) (by rw [World.size_setCell, World.size_setCell]; exact Nat.le_refl _), o6, by omega, hh, f6⟩
  · rw [World.cell?_setCell_other _ _ _ _ (fun e => by cases e)]
    exact World.cell?_setCell_same _ _ _ x0
  · exact World.cell?_setCell_same _ _ _ ((World.cell?_setCell_other _ _ _ _ (fun e => by cases e)).trans x1)
end
end Go.Proofs.Ytlnfdejflpgleaa
