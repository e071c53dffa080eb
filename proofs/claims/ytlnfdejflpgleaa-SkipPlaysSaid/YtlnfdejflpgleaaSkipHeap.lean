/-
  Skip lists in memory.
-/
import Derived.Test.YtlnfdejflpgleaaSkipPlain
import Derived.Test.YtlnfdejflpgleaaKept
namespace Go.Proofs.Ytlnfdejflpgleaa
open Go.RowKit

/-- a node in memory; nx: where it points at each level -/
structure NodeAt (w : World) (n : Nd) (nx : Nat → Option Nd) : Prop where
  cell : CellAt w n.b 0 n.c
  h : w.cell? ⟨n.b, 5, none⟩ = some (.int .i64 n.h)
  t : ∀ L, L < 12 → w.cell? ⟨n.b, 6 + L, none⟩ = some (ptrN (nx L))
  f : ∀ o, w.frozen? ⟨n.b, o, none⟩ = false
  ty : ∃ arr fr, w.heap[n.b]? = some (.cells arr 72 fr)
theorem ty_setCell {w : World} {b : Nat} {T : TypeId} (h : ∃ arr fr, w.heap[b]? = some (.cells arr T fr)) (p : Addr) (v : Value) : ∃ arr fr, (w.setCell p v).heap[b]? = some (.cells arr T fr) := by
  obtain ⟨arr, fr, h⟩ := h
  by_cases e : b = p.block
  · subst e
    unfold World.setCell
    simp only [Array.getElem?_modify, if_true, h, Option.map_some]
    exact ⟨_, _, rfl⟩
  · exact ⟨arr, fr, (Below.heap_setCell _ _ _ _ e).trans h⟩
theorem NodeAt.same {w w' : World} {n : Nd} {nx : Nat → Option Nd} (h : NodeAt w n nx) (hs : w'.heap[n.b]? = w.heap[n.b]?) : NodeAt w' n nx :=
  ⟨h.cell.same hs, (World.cell?_of_block (a := ⟨n.b, 5, none⟩) hs).trans h.h, fun L hL => (World.cell?_of_block (a := ⟨n.b, 6 + L, none⟩) hs).trans (h.t L hL), fun o => (World.frozen?_of_block (a := ⟨n.b, o, none⟩) hs).trans (h.f o), let ⟨arr, fr, e⟩ := h.ty; ⟨arr, fr, hs.trans e⟩⟩
theorem NodeAt.lt {w : World} {n : Nd} {nx : Nat → Option Nd} (h : NodeAt w n nx) : n.b < w.heap.size := World.block_lt_of_cell? _ _ h.h
/-- a list in memory: its own block, its head, its nodes -/
structure SkipAt (w : World) (lb : Nat) (hd : Nd) (ns : List Nd) : Prop where
  l0 : w.cell? ⟨lb, 0, none⟩ = some (.pointer (some ⟨hd.b, 0, none⟩))
  l1 : w.cell? ⟨lb, 1, none⟩ = some (.int .i64 ns.length)
  lf : ∀ o, w.frozen? ⟨lb, o, none⟩ = false
  tow : ∀ (i : Nat) (n : Nd), (hd :: ns)[i]? = some n → NodeAt w n (fun L => towN n L ((hd :: ns).drop (i + 1)))
  high : ∀ n ∈ hd :: ns, 1 ≤ n.h ∧ n.h ≤ 12
  hh : hd.h = 12
  ne : (hd :: ns).Pairwise fun a b => a.b ≠ b.b
  nl : ∀ n ∈ hd :: ns, n.b ≠ lb
/-- its own blocks -/
def SkipF (lb : Nat) (hd : Nd) (ns : List Nd) (k : Nat) : Prop := k = lb ∨ ∃ n ∈ hd :: ns, k = n.b
section
variable {w w' : World} {lb : Nat} {hd : Nd} {ns : List Nd}
theorem SkipAt.keep (h : SkipAt w lb hd ns) (hb : ∀ k, SkipF lb hd ns k → w'.heap[k]? = w.heap[k]?) : SkipAt w' lb hd ns := by
  have hl := hb lb (.inl rfl)
  exact ⟨(World.cell?_of_block (a := ⟨lb, 0, none⟩) hl).trans h.l0, (World.cell?_of_block (a := ⟨lb, 1, none⟩) hl).trans h.l1, fun o => (World.frozen?_of_block (a := ⟨lb, o, none⟩) hl).trans (h.lf o),
    fun i n hn => (h.tow i n hn).same (hb _ (.inr ⟨n, List.mem_of_getElem? hn, rfl⟩)), h.high, h.hh, h.ne, h.nl⟩
theorem SkipAt.inb (h : SkipAt w lb hd ns) : ∀ k, SkipF lb hd ns k → k < w.heap.size := by
  rintro k (rfl | ⟨n, hn, rfl⟩)
  · exact World.block_lt_of_cell? _ _ h.l0
  · obtain ⟨i, hi⟩ := List.mem_iff_getElem?.1 hn
    exact (h.tow i n hi).lt
theorem SkipAt.below (h : SkipAt w lb hd ns) (hb : Below w.heap.size w w') : SkipAt w' lb hd ns := h.keep (fun k hk => hb.block k (h.inb k hk))
theorem blk_inj {l : List Nd} (h : l.Pairwise fun a b => a.b ≠ b.b) {i j : Nat} {a b : Nd} (ha : l[i]? = some a) (hb : l[j]? = some b) (e : a.b = b.b) : i = j := by
  rw [List.pairwise_iff_getElem] at h
  obtain ⟨hi, rfl⟩ := List.getElem?_eq_some_iff.1 ha
  obtain ⟨hj, rfl⟩ := List.getElem?_eq_some_iff.1 hb
  rcases Nat.lt_trichotomy i j with h1 | h1 | h1
  · exact absurd e (h i j hi hj h1)
  · exact h1
  · exact absurd e.symm (h j i hj hi h1)
/-- a node's place, by a pointer at it -/
def idxV (l : List Nd) : Value → Nat
  | .pointer (some a) => l.findIdx fun n => n.b == a.block
  | _ => 0
theorem idxV_at {l : List Nd} (h : l.Pairwise fun a b => a.b ≠ b.b) {i : Nat} {q : Nd} (hq : l[i]? = some q) : idxV l (.pointer (some ⟨q.b, 0, none⟩)) = i := by
  have hlt : l.findIdx (fun n => n.b == q.b) < l.length := List.findIdx_lt_length_of_exists ⟨q, List.mem_of_getElem? hq, by simp⟩
  have h1 := List.findIdx_getElem (w := hlt)
  exact blk_inj h (List.getElem?_eq_getElem hlt) hq (by simpa using h1)
end

/-- while ahead looks: w is its beginning, the levels from m on are done -/
structure AhW (full : List Nd) (k : Nat) (w wr : World) (m : Nat) (f : Nat → Nat) : Prop where
  bel : Below w.heap.size w wr
  lt : w.heap.size + 1 < wr.heap.size
  res : ∀ L, L < 12 → wr.cell? ⟨w.heap.size, L, none⟩ = some (.pointer none)
  out : ∀ L, L < 12 → wr.cell? ⟨w.heap.size + 1, L, none⟩ = some (if m ≤ L then ptrN full[f L]? else .pointer none)
  fr : ∀ o, wr.frozen? ⟨w.heap.size, o, none⟩ = false
  fo : ∀ o, wr.frozen? ⟨w.heap.size + 1, o, none⟩ = false
  last : ∀ L, m ≤ L → L < 12 → LastAtL full k L (f L)
section
variable {full : List Nd} {k : Nat} {w wr w1 : World} {m : Nat} {f : Nat → Nat}
theorem AhW.below (h : AhW full k w wr m f) (hb : Below wr.heap.size wr w1) : AhW full k w w1 m f := by
  have hl := h.lt
  exact ⟨h.bel.trans (hb.mono h.bel.size), Nat.lt_of_lt_of_le hl hb.size, fun L hL => (hb.cell (p := ⟨_, L, none⟩) (by simp only; omega)).trans (h.res L hL), fun L hL => (hb.cell (p := ⟨_, L, none⟩) (by simp only; omega)).trans (h.out L hL),
    fun o => (hb.frozen (p := ⟨_, o, none⟩) (by simp only; omega)).trans (h.fr o), fun o => (hb.frozen (p := ⟨_, o, none⟩) (by simp only; omega)).trans (h.fo o), h.last⟩
theorem AhW.put (h : AhW full k w wr (m + 1) f) (hm : m < 12) {i : Nat} {q : Nd} (hq : full[i]? = some q) (hl : LastAtL full k m i) : AhW full k w (wr.setCell ⟨w.heap.size + 1, m, none⟩ (.pointer (some ⟨q.b, 0, none⟩))) m (fun L => if L = m then i else f L) := by
  refine ⟨h.bel.setCell (by simp only; omega) _, by rw [World.size_setCell]; exact h.lt, fun L hL => ?_, fun L hL => ?_, fun o => by rw [World.frozen?_setCell]; exact h.fr o, fun o => by rw [World.frozen?_setCell]; exact h.fo o, fun L h1 h2 => ?_⟩
  · rw [World.cell?_setCell_other _ _ _ _ (fun e => by have := congrArg Addr.block e; simp only at this; omega)]
    exact h.res L hL
  · by_cases e : L = m
    · subst e
      rw [if_pos (Nat.le_refl _), if_pos rfl, hq]
      exact World.cell?_setCell_same _ _ _ (h.out L hL)
    · rw [World.cell?_setCell_other _ _ _ _ (fun e2 => e (by have := congrArg Addr.off e2; simpa using this.symm)), if_neg e, h.out L hL]
      by_cases h1 : m ≤ L
      · rw [if_pos h1, if_pos (by omega)]
      · rw [if_neg h1, if_neg (by omega)]
  · by_cases e : L = m
    · subst e; rw [if_pos rfl]; exact hl
    · rw [if_neg e]; exact h.last L (by omega) h2
end
/-- what ahead answers -/
def atV (full : List Nd) (f : Nat → Nat) : Value := .agg #[ptrN full[f 0]?, ptrN full[f 1]?, ptrN full[f 2]?, ptrN full[f 3]?, ptrN full[f 4]?, ptrN full[f 5]?, ptrN full[f 6]?, ptrN full[f 7]?, ptrN full[f 8]?, ptrN full[f 9]?, ptrN full[f 10]?, ptrN full[f 11]?]
end Go.Proofs.Ytlnfdejflpgleaa
