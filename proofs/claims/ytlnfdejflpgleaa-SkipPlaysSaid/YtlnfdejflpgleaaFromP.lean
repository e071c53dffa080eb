/-
  Skip lists, gone through: what a loop's body keeps; a list's cells in a row.
-/
import Derived.Test.YtlnfdejflpgleaaFirstW
import Derived.Test.YtlnfdejflpgleaaCellsSortW
import Derived.Test.YtlnfdejflpgleaaAppendAt
import Derived.Test.YtlnfdejflpgleaaMarks
namespace Go.Proofs.Ytlnfdejflpgleaa
open Go.RowKit

/-- the blocks that a loop's body leaves as they are -/
structure Safe (w : World) (Sf : Nat → World → Prop) : Prop where
  cells : ∀ g W, Sf g W → ∃ arr T fr, W.heap[g]? = some (.cells arr T fr)
  new : ∀ g W W', Below w.heap.size w W → Below W.heap.size W W' → W.heap.size ≤ g → g < W'.heap.size → (∃ arr T fr, W'.heap[g]? = some (.cells arr T fr) ∧ T ≠ 72) → Sf g W'
  own : ∀ g W W' row, Sf g W → W.grownBy W' row → (∀ r, row = some r → w.heap.size ≤ r ∧ ∃ o : Obj, W.heap[r]? = some o ∧ o.isCells = false) → Sf g W'
theorem grown_none {W W' : World} (h : Below W.heap.size W W') : W.grownBy W' none := ⟨h.os, h.tape, h.output, h.size, fun k hk _ => h.block k hk⟩
theorem Safe.keep {w : World} {Sf : Nat → World → Prop} (h : Safe w Sf) (g : Nat) (W W' : World) (hs : Sf g W) (hb : Below W.heap.size W W') : Sf g W' := h.own g W W' none hs (grown_none hb) (fun r e => by cases e)
theorem Safe.put {w : World} {Sf : Nat → World → Prop} (h : Safe w Sf) (g : Nat) (W : World) (l : Nat) (o o' : Obj) (hs : Sf g W) (hl : w.heap.size ≤ l) (ho : W.heap[l]? = some o) (hc : o.isCells = false) : Sf g (W.putObj l o') :=
  h.own g W _ (some l) hs (grownBy_putObj' W l o') (fun r e => by cases e; exact ⟨hl, o, ho, hc⟩)
theorem Safe.later {w w' : World} {Sf : Nat → World → Prop} (h : Safe w Sf) (hb : Below w.heap.size w w') : Safe w' Sf :=
  ⟨h.cells, fun g W W' h1 => h.new g W W' (hb.trans (h1.mono hb.size)), fun g W W' row h1 h2 h3 => h.own g W W' row h1 h2 (fun r e => ⟨by have := hb.size; have := (h3 r e).1; omega, (h3 r e).2⟩)⟩
structure KpS (Sf : Nat → World → Prop) (B : Nat) (W W' : World) : Prop where
  size : W.heap.size ≤ W'.heap.size
  same : ∀ g, Sf g W → W'.heap[g]? = W.heap[g]? ∧ Sf g W'
  keeps : KeepsFrom B W W'
theorem KpS.refl (Sf : Nat → World → Prop) (B : Nat) (W : World) : KpS Sf B W W := ⟨Nat.le_refl _, fun _ h => ⟨rfl, h⟩, KeepsFrom.refl _ _⟩
theorem KpS.trans {Sf : Nat → World → Prop} {B : Nat} {X Y Z : World} (h : KpS Sf B X Y) (k : KpS Sf B Y Z) : KpS Sf B X Z :=
  ⟨Nat.le_trans h.size k.size, fun g hg => let ⟨h1, h2⟩ := h.same g hg; let ⟨k1, k2⟩ := k.same g h2; ⟨k1.trans h1, k2⟩, h.keeps.trans k.keeps⟩
theorem KpS.later {Sf : Nat → World → Prop} {B B' : Nat} {X Y : World} (h : KpS Sf B X Y) (hB : B ≤ B') : KpS Sf B' X Y := ⟨h.size, h.same, ⟨h.keeps.size, fun k o hk h1 h2 => h.keeps.same k o (by omega) h1 h2⟩⟩
theorem KpS.below {w W W' : World} {B : Nat} {Sf : Nat → World → Prop} (h : Safe w Sf) (hb : Below W.heap.size W W') : KpS Sf B W W' :=
  ⟨hb.size, fun g hg => ⟨hb.block g (by obtain ⟨arr, T, fr, e⟩ := h.cells g W hg; exact (Array.getElem?_eq_some_iff.1 e).1), h.keep g W W' hg hb⟩, keepsFrom_below hb⟩
theorem KpS.putObj {w W : World} {B : Nat} {Sf : Nat → World → Prop} (h : Safe w Sf) {l : Nat} {o o' : Obj} (hl : w.heap.size ≤ l) (hB : l < B) (ho : W.heap[l]? = some o) (hc : o.isCells = false) : KpS Sf B W (W.putObj l o') := by
  refine ⟨(grownBy_putObj' W l o').size, ?_, ⟨(grownBy_putObj' W l o').size, fun k o2 hk h1 _ => ((grownBy_putObj' W l o').block k (Array.getElem?_eq_some_iff.1 h1).1 (fun e => by have := Option.some.inj e; omega)).trans h1⟩⟩
  intro g hg
  refine ⟨(grownBy_putObj' W l o').block g ?_ ?_, h.put g W l o o' hg hl ho hc⟩
  · obtain ⟨arr, T, fr, e⟩ := h.cells g W hg
    exact (Array.getElem?_eq_some_iff.1 e).1
  · intro e
    obtain ⟨arr, T, fr, e2⟩ := h.cells g W hg
    have e3 : l = g := (Option.some.inj e).symm
    rw [← e3, ho] at e2
    cases e2
    cases hc
theorem cells_one (w : World) (T : TypeId) (c : CellA) (g : Nat) (hg : w.heap.size = g) : Cells (w.alloc (.cells #[.string c.row, .string c.col, .int .u64 c.ver, .bool c.gone, .string c.val] T)) (some ⟨g, 0, none⟩) 1 1 [c] := by
  subst hg
  refine ⟨cellE_elems _, rfl, Nat.le_refl _, by unfold maxLen; omega, fun _ => ⟨w.heap.size, 0, rfl, by rw [World.size_alloc]; omega, fun i e he j u hu => ?_⟩⟩
  have hi : i = 0 := by
    have := (List.getElem?_eq_some_iff.1 he).1
    simp at this; exact this
  subst hi
  simp only [List.map_cons, List.map_nil, List.getElem?_cons_zero, Option.some.injEq] at he
  subst he
  match j, hu with
  | 0, hu => simp [cellE] at hu; subst hu; simp [World.cell?_alloc_new]
  | 1, hu => simp [cellE] at hu; subst hu; simp [World.cell?_alloc_new]
  | 2, hu => simp [cellE] at hu; subst hu; simp [World.cell?_alloc_new]
  | 3, hu => simp [cellE] at hu; subst hu; simp [World.cell?_alloc_new]
  | 4, hu => simp [cellE] at hu; subst hu; simp [World.cell?_alloc_new]
  | j + 5, hu => simp [cellE] at hu
theorem own_push {w : World} {B : Nat} {v : Value} {l l' : List CellA} {x : CellA} (e : l' = l ++ [x]) (h : Row w B 26 5 v (l.length + 1) ((l.map cellE).flatten ++ ([x].map cellE).flatten)) : Own w B v l' := by
  subst e
  unfold Own
  rw [List.length_append, List.map_append, List.flatten_append]
  exact h
def sliceN : Value → Nat
  | .slice _ n _ => n
  | _ => 0
theorem grown_below {B : Nat} {w w' : World} {v : Value} {n : Nat} {T : TypeId} {size : Nat} {xs : List Value} (hr : Row w B T size v n xs) (hg : w.grownBy w' v.ownBlock) (hB : B ≤ w.heap.size) : Below B w w' :=
  (Below.refl B w).grown hg hB (fun k e => (Row.lt hr k e).1)
theorem push_all {W wr w7 : World} {v v7 : Value} {j : Nat} {acc l' : List CellA} {x : CellA} {o : Obj} (hO : Own wr W.heap.size v acc) (hB : Below W.heap.size W wr) (e : l' = acc ++ [x]) (hl : acc.length = j)
    (hr : Row w7 W.heap.size 26 5 v7 (acc.length + 1) ((acc.map cellE).flatten ++ ([x].map cellE).flatten)) (hg : (wr.alloc o).grownBy w7 v.ownBlock) :
    Below W.heap.size W w7 ∧ ∃ ao7 cap7, v7 = .slice ao7 (j + 1) cap7 ∧ Own w7 W.heap.size (.slice ao7 (j + 1) cap7) l' := by
  have hz := hB.size
  have h1 := (hB.alloc hz o).trans (grown_below (Row.alloc hO o) hg (by rw [World.size_alloc]; omega))
  have hP := own_push e hr
  obtain ⟨ao7, cap7, rfl, _⟩ := Own.cells hP
  have hl' : l'.length = j + 1 := by rw [e, List.length_append, hl]; rfl
  rw [hl'] at hP ⊢
  exact ⟨h1, ao7, cap7, rfl, hP⟩
/-- the cells from a place on -/
def cellsFrom (l : List Nd) (k : Nat) : List CellA := (l.drop k).map Nd.c
theorem cellsFrom_take {l : List Nd} {k j : Nat} {n : Nd} (h : l[k + j]? = some n) : (cellsFrom l k).take (j + 1) = (cellsFrom l k).take j ++ [n.c] := by
  unfold cellsFrom
  rw [List.take_add_one, List.getElem?_map, List.getElem?_drop, h]
  rfl
theorem cellsFrom_len (l : List Nd) (k : Nat) : (cellsFrom l k).length = l.length - k := by unfold cellsFrom; rw [List.length_map, List.length_drop]
/-- a list's elements, as far as they have come -/
def came (L : List CellA) (j : Nat) : List { c : CellA // c ∈ L } := L.attach.take j
theorem came_succ {L : List CellA} {j : Nat} {c : CellA} (h : L[j]? = some c) : came L (j + 1) = came L j ++ [⟨c, List.mem_of_getElem? h⟩] := by
  unfold came
  rw [List.take_add_one]
  congr 1
  have hl := (List.getElem?_eq_some_iff.1 h).1
  have : L.attach[j]? = some ⟨c, List.mem_of_getElem? h⟩ := by
    rw [List.getElem?_eq_getElem (by simpa using hl)]
    simp only [List.getElem_attach, Option.some.injEq, Subtype.mk.injEq]
    exact Option.some.inj ((List.getElem?_eq_getElem hl).symm.trans h)
  rw [this]
  rfl
theorem came_len {L : List CellA} {j : Nat} (h : j ≤ L.length) : (came L j).length = j := by unfold came; rw [List.length_take, List.length_attach]; omega
theorem came_map (L : List CellA) (j : Nat) : (came L j).map (·.1) = L.take j := by
  unfold came
  rw [List.map_take]
  simp
end Go.Proofs.Ytlnfdejflpgleaa
