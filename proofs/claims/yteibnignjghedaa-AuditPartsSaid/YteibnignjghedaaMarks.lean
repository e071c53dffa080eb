/-
  Functions that hold a range over a function: entering them at the wide fence, leaving them; laws on what lies behind. Over any program.
-/
import Derived.RangeFuncNested
import Derived.RangeFuncBound
import Derived.RangeFuncCalls
import Derived.RangeFuncLeaves
import Derived.Shelf.Abstract
import Derived.WalkKit
import Derived.OwnWalkIn
import Derived.TacticsInMore
import Derived.LoopNIn
import Derived.LoopIn
namespace Go.Proofs.Yteibnignjghedaa
open Go.RowKit

section
variable {F : Fence} {n : Nat} {P : Program} {fn : Func} {R : Ending → World → Prop} {a : Act} {w : World} {v : Value}

/-- At the end of a body that has run no range over a function. -/
theorem postM_ret (hd : a.defers = []) (hr : (results fn a.tmps).run P w = .ok v w) (h : R (.returned v) w) : bodyPostM F n P fn R .ret a w := by
  show LeavesInM F n P fn a.tmps R a.defers .returning w
  rw [hd]; exact ⟨v, hr, h⟩
theorem postM_end (hd : a.defers = []) (hr : (results fn a.tmps).run P w = .ok v w) (h : R (.returned v) w) : bodyPostM F n P fn R .normal a w := by
  show LeavesInM F n P fn a.tmps R a.defers .returning w
  rw [hd]; exact ⟨v, hr, h⟩
/-- .. of one that has run one. -/
theorem postM_ret1 {D : Nat} (hd : a.defers = [{ target := .collected D, args := #[] }]) (hk : w.heap[D]? = some (.deferred (some [])))
    (hr : (results fn a.tmps).run P (w.putObj D (.deferred none)) = .ok v (w.putObj D (.deferred none))) (h : R (.returned v) (w.putObj D (.deferred none))) : bodyPostM F n P fn R .ret a w := by
  show LeavesInM F n P fn a.tmps R a.defers .returning w
  rw [hd]; exact ⟨by simp, .inl ⟨_, _, rfl, run_takeDeferred hk, v, hr, h⟩⟩
theorem postM_end1 {D : Nat} (hd : a.defers = [{ target := .collected D, args := #[] }]) (hk : w.heap[D]? = some (.deferred (some [])))
    (hr : (results fn a.tmps).run P (w.putObj D (.deferred none)) = .ok v (w.putObj D (.deferred none))) (h : R (.returned v) (w.putObj D (.deferred none))) : bodyPostM F n P fn R .normal a w := by
  show LeavesInM F n P fn a.tmps R a.defers .returning w
  rw [hd]; exact ⟨by simp, .inl ⟨_, _, rfl, run_takeDeferred hk, v, hr, h⟩⟩
end

theorem keepsFrom_below {B : Nat} {W W' : World} (h : Below W.heap.size W W') : KeepsFrom B W W' :=
  ⟨h.size, fun k o _ hk _ => (h.block k (Array.getElem?_eq_some_iff.1 hk).1).trans hk⟩
theorem keepsFrom_setCell {B : Nat} (W : World) (p : Addr) (v : Value) : KeepsFrom B W (W.setCell p v) := (KeepsOthers.setCell W p v).from B
theorem keepsFrom_alloc {B : Nat} (W : World) (o : Obj) : KeepsFrom B W (W.alloc o) := (KeepsOthers.alloc W o).from B
theorem keepsFrom_drew {B : Nat} (W : World) : KeepsFrom B W W.drew := (KeepsOthers.drew W).from B

/-- A turn of a block that is no cells leaves a cell. -/
theorem cell_put {w : World} {D : Nat} {o o' : Obj} (hk : w.heap[D]? = some o) (ho : o.isCells = false) {p : Addr} {v : Value} (h : w.cell? p = some v) : (w.putObj D o').cell? p = some v :=
  cell_kept h (grownBy_putObj' w D o') (fun r e => by cases e; exact ⟨o, hk, ho⟩)
theorem frozen_put {w : World} {D : Nat} {o o' : Obj} (hk : w.heap[D]? = some o) (ho : o.isCells = false) {p : Addr} {v : Value} (h : w.cell? p = some v) : (w.putObj D o').frozen? p = w.frozen? p :=
  frozen_kept h (grownBy_putObj' w D o') (fun r e => by cases e; exact ⟨o, hk, ho⟩)
theorem below_put {w : World} {B D : Nat} {o o' : Obj} (hk : w.heap[D]? = some o) (hD : B ≤ D) : Below B w (w.putObj D o') :=
  (Below.refl B w).grown (grownBy_putObj' w D o') (by have := (Array.getElem?_eq_some_iff.1 hk).1; omega) (fun k e => by cases e; omega)

/-- The blocks of a set stay as they are. -/
structure KB (S : Nat → Prop) (W W' : World) : Prop where
  size : W.heap.size ≤ W'.heap.size
  block : ∀ k, S k → k < W.heap.size → W'.heap[k]? = W.heap[k]?
theorem KB.refl (S : Nat → Prop) (W : World) : KB S W W := ⟨Nat.le_refl _, fun _ _ _ => rfl⟩
theorem KB.trans {S : Nat → Prop} {A B C : World} (h : KB S A B) (k : KB S B C) : KB S A C :=
  ⟨Nat.le_trans h.size k.size, fun i hi hl => (k.block i hi (by have := h.size; omega)).trans (h.block i hi hl)⟩
theorem KB.of_below {S : Nat → Prop} {W W' : World} (h : Below W.heap.size W W') : KB S W W' := ⟨h.size, fun k _ hl => h.block k hl⟩
theorem KB.of_below' {S : Nat → Prop} {B : Nat} {W W' : World} (h : Below B W W') (hs : ∀ k, S k → k < B) : KB S W W' := ⟨h.size, fun k hk _ => h.block k (hs k hk)⟩
theorem KB.alloc {S : Nat → Prop} {A W : World} (h : KB S A W) (o : Obj) : KB S A (W.alloc o) := h.trans (KB.of_below ((Below.refl _ _).alloc (Nat.le_refl _) _))
theorem KB.drew {S : Nat → Prop} {A W : World} (h : KB S A W) : KB S A W.drew := h.trans (KB.of_below (Below.refl _ _).drew)
theorem KB.setCell {S : Nat → Prop} {A W : World} (h : KB S A W) {p : Addr} (hp : ¬ S p.block) (v : Value) : KB S A (W.setCell p v) :=
  h.trans ⟨by simp, fun k hk _ => Below.heap_setCell _ _ _ _ (fun e => hp (e ▸ hk))⟩
theorem KB.putObj {S : Nat → Prop} (W : World) {l : Nat} {o : Obj} (o' : Obj) (hl : W.heap[l]? = some o) (hs : ¬ S l) : KB S W (W.putObj l o') :=
  ⟨(grownBy_putObj' W l o').size, fun k hk hlt => (grownBy_putObj' W l o').block k hlt (fun e => hs (by cases e; exact hk))⟩
theorem KB.cell {S : Nat → Prop} {W W' : World} (h : KB S W W') {b o : Nat} (hs : S b) (hb : b < W.heap.size) : W'.cell? ⟨b, o, none⟩ = W.cell? ⟨b, o, none⟩ := World.cell?_of_block (h.block b hs hb)
theorem KB.frozen {S : Nat → Prop} {W W' : World} (h : KB S W W') {b o : Nat} (hs : S b) (hb : b < W.heap.size) : W'.frozen? ⟨b, o, none⟩ = W.frozen? ⟨b, o, none⟩ := World.frozen?_of_block (h.block b hs hb)

end Go.Proofs.Yteibnignjghedaa
