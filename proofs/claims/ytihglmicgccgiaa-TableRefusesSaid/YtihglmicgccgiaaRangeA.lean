/-
  Functions that hold a range over a function: entering them at the wide fence, leaving them; laws on what lies behind. Over any program.
-/
import Derived.RangeFuncNested
import Derived.RangeFuncBound
import Derived.RangeFuncCalls
import Derived.RangeFuncLeaves
import Derived.Shelf.Abstract
import Derived.WalkKit
import Derived.OwnWalkIn
import Derived.TacticsInMore
import Derived.LoopNIn
import Derived.LoopIn
namespace Go.Proofs.Ytihglmicgccgiaa
open Go.RowKit

section
variable {F : Fence} {n : Nat} {P : Program} {fn : Func} {R : Ending → World → Prop} {a : Act} {w : World} {v : Value}

/-- At the end of a body that has run no range over a function. -/
theorem postM_ret (hd : a.defers = []) (hr : (results fn a.tmps).run P w = .ok v w) (h : R (.returned v) w) : bodyPostM F n P fn R .ret a w := by
  show LeavesInM F n P fn a.tmps R a.defers .returning w
  rw [hd]; exact ⟨v, hr, h⟩
theorem postM_end (hd : a.defers = []) (hr : (results fn a.tmps).run P w = .ok v w) (h : R (.returned v) w) : bodyPostM F n P fn R .normal a w := by
  show LeavesInM F n P fn a.tmps R a.defers .returning w
  rw [hd]; exact ⟨v, hr, h⟩
/-- .. of one that has run one. -/
theorem postM_ret1 {D : Nat} (hd : a.defers = [{ target := .collected D, args := #[] }]) (hk : w.heap[D]? = some (.deferred (some [])))
    (hr : (results fn a.tmps).run P (w.putObj D (.deferred none)) = .ok v (w.putObj D (.deferred none))) (h : R (.returned v) (w.putObj D (.deferred none))) : bodyPostM F n P fn R .ret a w := by
  show LeavesInM F n P fn a.tmps R a.defers .returning w
  rw [hd]; exact ⟨by simp, .inl ⟨_, _, rfl, run_takeDeferred hk, v, hr, h⟩⟩
theorem postM_end1 {D : Nat} (hd : a.defers = [{ target := .collected D, args := #[] }]) (hk : w.heap[D]? = some (.deferred (some [])))
    (hr : (results fn a.tmps).run P (w.putObj D (.deferred none)) = .ok v (w.putObj D (.deferred none))) (h : R (.returned v) (w.putObj D (.deferred none))) : bodyPostM F n P fn R .normal a w := by
  show LeavesInM F n P fn a.tmps R a.defers .returning w
  rw [hd]; exact ⟨by simp, .inl ⟨_, _, rfl, run_takeDeferred hk, v, hr, h⟩⟩
end

theorem keepsFrom_below {B : Nat} {W W' : World} (h : Below W.heap.size W W') : KeepsFrom B W W' :=
  ⟨h.size, fun k o _ hk _ => (h.block k (Array.getElem?_eq_some_iff.1 hk).1).trans hk⟩
theorem keepsFrom_setCell {B : Nat} (W : World) (p : Addr) (v : Value) : KeepsFrom B W (W.setCell p v) := (KeepsOthers.setCell W p v).from B
theorem keepsFrom_alloc {B : Nat} (W : World) (o : Obj) : KeepsFrom B W (W.alloc o) := (KeepsOthers.alloc W o).from B
theorem keepsFrom_drew {B : Nat} (W : World) : KeepsFrom B W W.drew := (KeepsOthers.drew W).from B

/-- A turn of a block that is no cells leaves a cell. -/
theorem cell_put {w : World} {D : Nat} {o o' : Obj} (hk : w.heap[D]? = some o) (ho : o.isCells = false) {p : Addr} {v : Value} (h : w.cell? p = some v) : (w.putObj D o').cell? p = some v :=
  cell_kept h (grownBy_putObj' w D o') (fun r e => by cases e; exact ⟨o, hk, ho⟩)
theorem frozen_put {w : World} {D : Nat} {o o' : Obj} (hk : w.heap[D]? = some o) (ho : o.isCells = false) {p : Addr} {v : Value} (h : w.cell? p = some v) : (w.putObj D o').frozen? p = w.frozen? p :=
  frozen_kept h (grownBy_putObj' w D o') (fun r e => by cases e; exact ⟨o, hk, ho⟩)
theorem below_put {w : World} {B D : Nat} {o o' : Obj} (hk : w.heap[D]? = some o) (hD : B ≤ D) : Below B w (w.putObj D o') :=
  (Below.refl B w).grown (grownBy_putObj' w D o') (by have := (Array.getElem?_eq_some_iff.1 hk).1; omega) (fun k e => by cases e; omega)

/-- The blocks of a set stay as they are. -/
structure KB (S : Nat → Prop) (W W' : World) : Prop where
  size : W.heap.size ≤ W'.heap.size
  block : ∀ k, S k → k < W.heap.size → W'.heap[k]? = W.heap[k]?
theorem KB.refl (S : Nat → Prop) (W : World) : KB S W W := ⟨Nat.le_refl _, fun _ _ _ => rfl⟩
theorem KB.trans {S : Nat → Prop} {A B C : World} (h : KB S A B) (k : KB S B C) : KB S A C :=
  ⟨Nat.le_trans h.size k.size, fun i hi hl => (k.block i hi (by have := h.size; omega)).trans (h.block i hi hl)⟩
theorem KB.of_below {S : Nat → Prop} {W W' : World} (h : Below W.heap.size W W') : KB S W W' := ⟨h.size, fun k _ hl => h.block k hl⟩
theorem KB.of_below' {S : Nat → Prop} {B : Nat} {W W' : World} (h : Below B W W') (hs : ∀ k, S k → k < B) : KB S W W' := ⟨h.size, fun k hk _ => h.block k (hs k hk)⟩
theorem KB.alloc {S : Nat → Prop} {A W : World} (h : KB S A W) (o : Obj) : KB S A (W.alloc o) := h.trans (KB.of_below ((Below.refl _ _).alloc (Nat.le_refl _) _))
theorem KB.drew {S : Nat → Prop} {A W : World} (h : KB S A W) : KB S A W.drew := h.trans (KB.of_below (Below.refl _ _).drew)
theorem KB.setCell {S : Nat → Prop} {A W : World} (h : KB S A W) {p : Addr} (hp : ¬ S p.block) (v : Value) : KB S A (W.setCell p v) :=
  h.trans ⟨by simp, fun k hk _ => Below.heap_setCell _ _ _ _ (fun e => hp (e ▸ hk))⟩
theorem KB.putObj {S : Nat → Prop} (W : World) {l : Nat} {o : Obj} (o' : Obj) (hl : W.heap[l]? = some o) (hs : ¬ S l) : KB S W (W.putObj l o') :=
  ⟨(grownBy_putObj' W l o').size, fun k hk hlt => (grownBy_putObj' W l o').block k hlt (fun e => hs (by cases e; exact hk))⟩
theorem KB.cell {S : Nat → Prop} {W W' : World} (h : KB S W W') {b o : Nat} (hs : S b) (hb : b < W.heap.size) : W'.cell? ⟨b, o, none⟩ = W.cell? ⟨b, o, none⟩ := World.cell?_of_block (h.block b hs hb)
theorem KB.frozen {S : Nat → Prop} {W W' : World} (h : KB S W W') {b o : Nat} (hs : S b) (hb : b < W.heap.size) : W'.frozen? ⟨b, o, none⟩ = W.frozen? ⟨b, o, none⟩ := World.frozen?_of_block (h.block b hs hb)

end Go.Proofs.Ytihglmicgccgiaa

/-
  A range over a function whose iterator itself holds a range over a function: the contract lets the caller's word abide turns of other loops' records too; the law for the caller at the wide fence. Over any program.
-/
namespace Go.Proofs.Ytihglmicgccgiaa
open Go.RowKit

variable {P : Program}
/-- An iterator's contract; what the caller holds abides new blocks and turns of blocks that are no cells, from the iterator's beginning on. -/
def SeqN {α : Type} (n : Nat) (P : Program) (g : Nat) (lb : Array Value) (encs : α → Array Value) (Kp : World → World → Prop) (S Sp : List α → Prop) (N : Nat) (w : World) : Prop :=
  ∀ (l : Nat) (J Jx : List α → World → Prop) (W : World), Below w.heap.size w W → OwnFrom W.heap.size J → OwnFrom W.heap.size Jx →
    (∀ pre x V, J pre V → pre.length < N → YieldAt Fence.wide (n - 1) P l (encs x) V fun e V' => (e = .returned (.bool true) ∧ J (pre ++ [x]) V' ∧ Kp V V') ∨ (e = .returned (.bool false) ∧ Jx (pre ++ [x]) V' ∧ Kp V V')) →
    J [] W →
    CallsIn Fence.wide n P g (#[.func (.yield l) #[] #[]] ++ lb) W fun e V => (∃ v, e = .returned v) ∧ ((∃ xs, S xs ∧ J xs V) ∨ (∃ pre, Sp pre ∧ Jx pre V))
theorem own_walks {β : Type} {B : Nat} {J : β → World → Prop} (h : OwnFrom B J) : AbidesFrom B J := fun s W V row hs hg hr => h s W V row hs hg fun r e => by
  obtain ⟨h1, o, h2, h3⟩ := hr r e
  exact ⟨h1, o, h2, Obj.not_cells_of_walk h3⟩
theorem SeqN.of_K {α : Type} {n g N : Nat} {lb : Array Value} {encs : α → Array Value} {Kp : World → World → Prop} {S Sp : List α → Prop} {w : World} (h : SeqStopsK Fence.wide n P g lb encs Kp S Sp N w) : SeqN n P g lb encs Kp S Sp N w :=
  fun l J Jx W hW hJ hJx hY h0 => h l J Jx W hW (own_walks hJ) (own_walks hJx) (fun pre x V h1 h2 => (hY pre x V h1 h2).mono fun e V' h3 => h3.imp id fun h4 => ⟨h4.1, h4.2.1⟩) h0

/-- how a round's body may be left -/
def roundN {α : Type} (B : Nat) (Kp : World → World → Prop) (I : List α → World → Prop) (Ix : Code → List α → World → Prop) (xs : List α) (W : World) : Exit → Act → World → Prop
  | .normal, _, V => (KeepsFrom B W V ∧ Kp W V) ∧ I xs V
  | .ret, _, V => (KeepsFrom B W V ∧ Kp W V) ∧ Ix .ret xs V
  | .exit id, _, V => (KeepsFrom B W V ∧ Kp W V) ∧ Ix (.exit id) xs V
  | .goto t, _, V => (KeepsFrom B W V ∧ Kp W V) ∧ Ix (.goto t) xs V
  | .panic _, _, _ => False
  | .outgrown, _, _ => False
/-- two blocks of book-keeping: the loop's record, the block for deferred calls -/
structure Books (l D : Nat) (rec : Loop) (W : World) : Prop where
  loop : W.heap[l]? = some (.loop rec)
  def_ : W.heap[D]? = some (.deferred (some []))
theorem Books.grown {l D : Nat} {r : Loop} {W V : World} {row : Option Nat} {B : Nat} (h : Books l D r W) (hg : W.grownBy V row) (hr : ∀ k, row = some k → B ≤ k) (hl : l < B) (hD : D < B) : Books l D r V :=
  ⟨(hg.block l (Array.getElem?_eq_some_iff.1 h.loop).1 (fun e => by have := hr l e.symm; omega)).trans h.loop, (hg.block D (Array.getElem?_eq_some_iff.1 h.def_).1 (fun e => by have := hr D e.symm; omega)).trans h.def_⟩
theorem Books.turn {l D : Nat} {r : Loop} {W : World} (h : Books l D r W) (hne : D ≠ l) (r' : Loop) : Books l D r' (W.putObj l (.loop r')) :=
  ⟨World.putObj_heap_same (Array.getElem?_eq_some_iff.1 h.loop).1, (World.putObj_heap_other hne).trans h.def_⟩
theorem Books.keeps {l D B : Nat} {r : Loop} {W V : World} (h : Books l D r W) (hk : KeepsFrom B W V) (hl : B ≤ l) (hD : B ≤ D) : Books l D r V := ⟨hk.same l _ hl h.loop rfl, hk.same D _ hD h.def_ rfl⟩

theorem range_law {α : Type} {n : Nat} {g : Operand} {ps : Array Tmp} {assign body : Code} {Q : Exit → Act → World → Prop} {a : Act} {w : World} (h1 : 1 ≤ n) {gf : Nat} {lb : Array Value} (hg : a.eval g = .func (.func gf) #[] lb)
    (eg : ∀ args w, (callFunc gf args).run P w = .ok (.enter gf args) w) {encs : α → Array Value} {Kp : World → World → Prop} {S Sp : List α → Prop} {N : Nat} (hseq : SeqN (n - 1) P gf lb encs Kp S Sp N w)
    (hKt : ∀ {A B C : World}, Kp A B → Kp B C → Kp A C) (hKb : ∀ (W : World) (o o' : Obj), W.heap[w.heap.size + 1]? = some o → o.isCells = false → Kp W (W.putObj (w.heap.size + 1) o')) (hps : ∀ x, (encs x).size = ps.size)
    (I : List α → World → Prop) (Ix : Code → List α → World → Prop) (hI : OwnFrom w.heap.size I) (hIx : ∀ c, OwnFrom w.heap.size (Ix c)) (h0 : I [] w) (Ax : α → Act → World → Prop) (hAx : ∀ x a', OwnFrom w.heap.size (fun (_ : Unit) W => Ax x a' W))
    (hassign : ∀ (l : Nat) (pre : List α) (x : α) (W : World) (K : Act → World → Prop), I pre W → (∀ a' W', KeepsFrom w.heap.size W W' → Kp W W' → I pre W' → Ax x a' W' → K a' W') →
      assign.wpIn (Fence.wide.inRound l) (n - 1 - 1) P (Exit.then K (fun _ _ _ => False)) { tmps := (ps.zip (encs x)).foldl (fun t (p, v) => t.setIfInBounds p v) a.tmps, defers := [] } W)
    (hbody : ∀ (l : Nat) (pre : List α) (x : α) (a' : Act) (W : World), I pre W → Ax x a' W → pre.length < N → body.wpIn (Fence.wide.inRound l) (n - 1 - 1) P (roundN w.heap.size Kp I Ix (pre ++ [x]) W) a' W)
    (hdone : ∀ (D : Nat) (xs : List α) (W : World), w.heap.size ≤ D → S xs → I xs W → W.heap[D]? = some (.deferred (some [])) → Q .normal { a with defers := { target := .collected D, args := #[] } :: a.defers } W)
    (hstop : ∀ (D : Nat) (c : Code) (pre : List α) (W : World), w.heap.size ≤ D → Sp pre → Ix c pre W → W.heap[D]? = some (.deferred (some [])) → c.wpIn Fence.wide n P Q { a with defers := { target := .collected D, args := #[] } :: a.defers } W) :
    (Code.rangeFunc g ps assign body).wpIn Fence.wide n P Q a w := by
  refine wpIn_rangeFunc fun fn hfn => ?_
  -- the loop's record, by its state and the jump that it holds
  let R : LoopState → Option Code → Loop := fun st pe => { state := st, pending := pe, fn, tmps := a.tmps, params := ps, assign, body, defers := w.heap.size }
  let D := w.heap.size
  let l := w.heap.size + 1
  let V0 := w.alloc (.deferred (some []))
  let V1 := V0.alloc (.loop (R .ready none))
  have hs0 : V0.heap.size = l := World.size_alloc ..
  have hs1 : V1.heap.size = w.heap.size + 2 := by show (V0.alloc _).heap.size = _; rw [World.size_alloc, hs0]
  have hDl : D ≠ l := Nat.ne_of_lt (Nat.lt_succ_self _)
  have hB : Books l D (R .ready none) V1 := by
    refine ⟨?_, ?_⟩
    · have := World.alloc_heap_new V0 (.loop (R .ready none)); rwa [hs0] at this
    · exact (Below.heap_alloc _ _ _ (by rw [hs0]; exact Nat.lt_succ_self _)).trans (World.alloc_heap_new w _)
  have hbel : Below w.heap.size w V1 := ((Below.refl _ w).alloc (Nat.le_refl _) _).alloc (by rw [hs0]; exact Nat.le_succ _) _
  have hI1 : I [] V1 := hI.alloc _ (hI.alloc _ h0)
  refine ⟨l, [{ target := .collected D, args := #[] }], V1, { target := .fn (.func gf) lb, args := #[.func (.yield l) #[] #[]] }, V1, gf, #[.func (.yield l) #[] #[]] ++ lb, V1, run_enterLoop_outer _ _ _ _ _, ?_, fun f' _ => trivial, ?_, fun _ => h1, ?_⟩
  · simp only [resolve, hg]
    simp [go_sem]
  · simp [invoke, go_sem, eg]
  have lift : ∀ {row : Option Nat} {A : World}, (∀ r, row = some r → V1.heap.size ≤ r ∧ ∃ o : Obj, A.heap[r]? = some o ∧ o.isCells = false) → (∀ r, row = some r → w.heap.size ≤ r ∧ ∃ o : Obj, A.heap[r]? = some o ∧ o.isCells = false) :=
    fun hr r e => ⟨by have := (hr r e).1; omega, (hr r e).2⟩
  refine (hseq l (fun pre W => I pre W ∧ Books l D (R .ready none) W) (fun pre W => ∃ c, Ix c pre W ∧ Books l D (R .done (some c)) W) V1 hbel ?_ ?_ ?_ ⟨hI1, hB⟩).mono ?_
  · intro s A B row hs hgr hr
    exact ⟨hI s A B row hs.1 hgr (lift hr), hs.2.grown hgr (B := w.heap.size + 2) (fun k e => by have := (hr k e).1; omega) (Nat.lt_succ_self _) (by show w.heap.size < _; omega)⟩
  · rintro s A B row ⟨c, hc, hb⟩ hgr hr
    exact ⟨c, hIx c s A B row hc hgr (lift hr), hb.grown hgr (B := w.heap.size + 2) (fun k e => by have := (hr k e).1; omega) (Nat.lt_succ_self _) (by show w.heap.size < _; omega)⟩
  · -- a round
    rintro pre x W ⟨hi, hb⟩ hlen
    refine ⟨fn, _, assign, body, run_yield (P := P) (args := encs x) hb.loop (hps x), roundIn_of_wpIn hfn (hassign l pre x W _ hi ?_)⟩
    intro a' Wa hk1 hp1 hi1 hx1
    have hb1 := hb.keeps hk1 (Nat.le_succ _) (Nat.le_refl _)
    refine ⟨_, run_beginRound hb1.loop rfl, ?_⟩
    have hbz : Books l D (R .busy none) (Wa.putObj l (.loop (R .busy none))) := hb1.turn hDl _
    have hp2 : Kp Wa (Wa.putObj l (.loop (R .busy none))) := hKb _ _ _ hb1.loop rfl
    refine wpIn_mono (hbody l pre x a' _ (hI.putObj _ hi1 (Nat.le_succ _) hb1.loop rfl) ((hAx x a').putObj (s := ()) _ hx1 (Nat.le_succ _) hb1.loop rfl) hlen) ?_
    rintro e a3 W3 hp
    cases e with
    | normal =>
      obtain ⟨⟨k3, p3⟩, i3⟩ := hp
      have b3 := hbz.keeps k3 (Nat.le_succ _) (Nat.le_refl _)
      exact ⟨_, _, run_endRound (P := P) none b3.loop, .inl ⟨rfl, ⟨hI.putObj _ i3 (Nat.le_succ _) b3.loop rfl, b3.turn hDl _⟩, hKt hp1 (hKt (hKt hp2 p3) (hKb _ _ _ b3.loop rfl))⟩⟩
    | ret =>
      obtain ⟨⟨k3, p3⟩, i3⟩ := hp
      have b3 := hbz.keeps k3 (Nat.le_succ _) (Nat.le_refl _)
      exact ⟨_, _, run_endRound (P := P) (some .ret) b3.loop, .inr ⟨rfl, ⟨_, (hIx _).putObj _ i3 (Nat.le_succ _) b3.loop rfl, b3.turn hDl _⟩, hKt hp1 (hKt (hKt hp2 p3) (hKb _ _ _ b3.loop rfl))⟩⟩
    | exit id =>
      obtain ⟨⟨k3, p3⟩, i3⟩ := hp
      have b3 := hbz.keeps k3 (Nat.le_succ _) (Nat.le_refl _)
      exact ⟨_, _, run_endRound (P := P) (some (.exit id)) b3.loop, .inr ⟨rfl, ⟨_, (hIx _).putObj _ i3 (Nat.le_succ _) b3.loop rfl, b3.turn hDl _⟩, hKt hp1 (hKt (hKt hp2 p3) (hKb _ _ _ b3.loop rfl))⟩⟩
    | goto t =>
      obtain ⟨⟨k3, p3⟩, i3⟩ := hp
      have b3 := hbz.keeps k3 (Nat.le_succ _) (Nat.le_refl _)
      exact ⟨_, _, run_endRound (P := P) (some (.goto t)) b3.loop, .inr ⟨rfl, ⟨_, (hIx _).putObj _ i3 (Nat.le_succ _) b3.loop rfl, b3.turn hDl _⟩, hKt hp1 (hKt (hKt hp2 p3) (hKb _ _ _ b3.loop rfl))⟩⟩
    | panic ch => exact hp.elim
    | outgrown => exact hp.elim
  · -- behind the iterator
    rintro e W2 ⟨⟨v, rfl⟩, (⟨xs, hS, hi, hb⟩ | ⟨pre, hSp, c, hi, hb⟩)⟩
    · exact ⟨none, _, run_endLoop (P := P) hb.loop (by simp [R]), hdone D xs _ (Nat.le_refl _) hS (hI.putObj _ hi (Nat.le_succ _) hb.loop rfl) ((World.putObj_heap_other hDl).trans hb.def_)⟩
    · exact ⟨some c, _, run_endLoop (P := P) hb.loop (by simp [R]), hstop D c pre _ (Nat.le_refl _) hSp ((hIx c).putObj _ hi (Nat.le_succ _) hb.loop rfl) ((World.putObj_heap_other hDl).trans hb.def_)⟩
end Go.Proofs.Ytihglmicgccgiaa

/-
  A range over a function: what a round keeps is asked from ahead of the assignment to the loop's variable on (the body may write that variable).
-/
namespace Go.Proofs.Ytihglmicgccgiaa
open Go.RowKit

variable {P : Program}
theorem range_round {α : Type} {n : Nat} {g : Operand} {ps : Array Tmp} {assign body : Code} {Q : Exit → Act → World → Prop} {a : Act} {w : World} (h1 : 1 ≤ n) {gf : Nat} {lb : Array Value} (hg : a.eval g = .func (.func gf) #[] lb)
    (eg : ∀ args w, (callFunc gf args).run P w = .ok (.enter gf args) w) {encs : α → Array Value} {Kp : World → World → Prop} {S Sp : List α → Prop} {N : Nat} (hseq : SeqN (n - 1) P gf lb encs Kp S Sp N w)
    (hKt : ∀ {A B C : World}, Kp A B → Kp B C → Kp A C) (hKb : ∀ (W : World) (o o' : Obj), W.heap[w.heap.size + 1]? = some o → o.isCells = false → Kp W (W.putObj (w.heap.size + 1) o')) (hps : ∀ x, (encs x).size = ps.size)
    (I : List α → World → Prop) (Ix : Code → List α → World → Prop) (hI : OwnFrom w.heap.size I) (hIx : ∀ c, OwnFrom w.heap.size (Ix c)) (h0 : I [] w)
    (hround : ∀ (l : Nat) (pre : List α) (x : α) (W : World), l = w.heap.size + 1 → I pre W → pre.length < N →
      assign.wpIn (Fence.wide.inRound l) (n - 1 - 1) P (Exit.then (fun a' W' => KeepsFrom w.heap.size W W' ∧ ∀ W2 : World, W'.grownBy W2 (some l) → W2.heap.size = W'.heap.size → (∃ o : Obj, W'.heap[l]? = some o ∧ o.isCells = false) →
        body.wpIn (Fence.wide.inRound l) (n - 1 - 1) P (roundN w.heap.size (fun _ V => Kp W V) I Ix (pre ++ [x]) W2) a' W2) (fun _ _ _ => False)) { tmps := (ps.zip (encs x)).foldl (fun t (p, v) => t.setIfInBounds p v) a.tmps, defers := [] } W)
    (hdone : ∀ (D : Nat) (xs : List α) (W : World), w.heap.size ≤ D → S xs → I xs W → W.heap[D]? = some (.deferred (some [])) → Q .normal { a with defers := { target := .collected D, args := #[] } :: a.defers } W)
    (hstop : ∀ (D : Nat) (c : Code) (pre : List α) (W : World), w.heap.size ≤ D → Sp pre → Ix c pre W → W.heap[D]? = some (.deferred (some [])) → c.wpIn Fence.wide n P Q { a with defers := { target := .collected D, args := #[] } :: a.defers } W) :
    (Code.rangeFunc g ps assign body).wpIn Fence.wide n P Q a w := by
  refine wpIn_rangeFunc fun fn hfn => ?_
  -- the loop's record, by its state and the jump that it holds
  let R : LoopState → Option Code → Loop := fun st pe => { state := st, pending := pe, fn, tmps := a.tmps, params := ps, assign, body, defers := w.heap.size }
  let D := w.heap.size
  let l := w.heap.size + 1
  let V0 := w.alloc (.deferred (some []))
  let V1 := V0.alloc (.loop (R .ready none))
  have hs0 : V0.heap.size = l := World.size_alloc ..
  have hs1 : V1.heap.size = w.heap.size + 2 := by show (V0.alloc _).heap.size = _; rw [World.size_alloc, hs0]
  have hDl : D ≠ l := Nat.ne_of_lt (Nat.lt_succ_self _)
  have hB : Books l D (R .ready none) V1 := by
    refine ⟨?_, ?_⟩
    · have := World.alloc_heap_new V0 (.loop (R .ready none)); rwa [hs0] at this
    · exact (Below.heap_alloc _ _ _ (by rw [hs0]; exact Nat.lt_succ_self _)).trans (World.alloc_heap_new w _)
  have hbel : Below w.heap.size w V1 := ((Below.refl _ w).alloc (Nat.le_refl _) _).alloc (by rw [hs0]; exact Nat.le_succ _) _
  have hI1 : I [] V1 := hI.alloc _ (hI.alloc _ h0)
  refine ⟨l, [{ target := .collected D, args := #[] }], V1, { target := .fn (.func gf) lb, args := #[.func (.yield l) #[] #[]] }, V1, gf, #[.func (.yield l) #[] #[]] ++ lb, V1, run_enterLoop_outer _ _ _ _ _, ?_, fun f' _ => trivial, ?_, fun _ => h1, ?_⟩
  · simp only [resolve, hg]
    simp [go_sem]
  · simp [invoke, go_sem, eg]
  have lift : ∀ {row : Option Nat} {A : World}, (∀ r, row = some r → V1.heap.size ≤ r ∧ ∃ o : Obj, A.heap[r]? = some o ∧ o.isCells = false) → (∀ r, row = some r → w.heap.size ≤ r ∧ ∃ o : Obj, A.heap[r]? = some o ∧ o.isCells = false) :=
    fun hr r e => ⟨by have := (hr r e).1; omega, (hr r e).2⟩
  refine (hseq l (fun pre W => I pre W ∧ Books l D (R .ready none) W) (fun pre W => ∃ c, Ix c pre W ∧ Books l D (R .done (some c)) W) V1 hbel ?_ ?_ ?_ ⟨hI1, hB⟩).mono ?_
  · intro s A B row hs hgr hr
    exact ⟨hI s A B row hs.1 hgr (lift hr), hs.2.grown hgr (B := w.heap.size + 2) (fun k e => by have := (hr k e).1; omega) (Nat.lt_succ_self _) (by show w.heap.size < _; omega)⟩
  · rintro s A B row ⟨c, hc, hb⟩ hgr hr
    exact ⟨c, hIx c s A B row hc hgr (lift hr), hb.grown hgr (B := w.heap.size + 2) (fun k e => by have := (hr k e).1; omega) (Nat.lt_succ_self _) (by show w.heap.size < _; omega)⟩
  · -- a round
    rintro pre x W ⟨hi, hb⟩ hlen
    refine ⟨fn, _, assign, body, run_yield (P := P) (args := encs x) hb.loop (hps x), roundIn_of_wpIn hfn (wpIn_mono (hround l pre x W rfl hi hlen) ?_)⟩
    rintro e a' Wa hq
    cases e with
    | normal =>
      obtain ⟨hk1, hq⟩ := hq
      have hb1 := hb.keeps hk1 (Nat.le_succ _) (Nat.le_refl _)
      refine ⟨_, run_beginRound hb1.loop rfl, ?_⟩
      have hbz : Books l D (R .busy none) (Wa.putObj l (.loop (R .busy none))) := hb1.turn hDl _
      refine wpIn_mono (hq _ (grownBy_putObj' Wa l _) World.putObj_size ⟨_, hb1.loop, rfl⟩) ?_
      clear hq
      rintro e a3 W3 hp
      cases e with
      | normal =>
        obtain ⟨⟨k3, p3⟩, i3⟩ := hp
        have b3 := hbz.keeps k3 (Nat.le_succ _) (Nat.le_refl _)
        exact ⟨_, _, run_endRound (P := P) none b3.loop, .inl ⟨rfl, ⟨hI.putObj _ i3 (Nat.le_succ _) b3.loop rfl, b3.turn hDl _⟩, hKt p3 (hKb _ _ _ b3.loop rfl)⟩⟩
      | ret =>
        obtain ⟨⟨k3, p3⟩, i3⟩ := hp
        have b3 := hbz.keeps k3 (Nat.le_succ _) (Nat.le_refl _)
        exact ⟨_, _, run_endRound (P := P) (some .ret) b3.loop, .inr ⟨rfl, ⟨_, (hIx _).putObj _ i3 (Nat.le_succ _) b3.loop rfl, b3.turn hDl _⟩, hKt p3 (hKb _ _ _ b3.loop rfl)⟩⟩
      | exit id =>
        obtain ⟨⟨k3, p3⟩, i3⟩ := hp
        have b3 := hbz.keeps k3 (Nat.le_succ _) (Nat.le_refl _)
        exact ⟨_, _, run_endRound (P := P) (some (.exit id)) b3.loop, .inr ⟨rfl, ⟨_, (hIx _).putObj _ i3 (Nat.le_succ _) b3.loop rfl, b3.turn hDl _⟩, hKt p3 (hKb _ _ _ b3.loop rfl)⟩⟩
      | goto t =>
        obtain ⟨⟨k3, p3⟩, i3⟩ := hp
        have b3 := hbz.keeps k3 (Nat.le_succ _) (Nat.le_refl _)
        exact ⟨_, _, run_endRound (P := P) (some (.goto t)) b3.loop, .inr ⟨rfl, ⟨_, (hIx _).putObj _ i3 (Nat.le_succ _) b3.loop rfl, b3.turn hDl _⟩, hKt p3 (hKb _ _ _ b3.loop rfl)⟩⟩
      | panic ch => exact hp.elim
      | outgrown => exact hp.elim
    | _ => exact hq
  · -- behind the iterator
    rintro e W2 ⟨⟨v, rfl⟩, (⟨xs, hS, hi, hb⟩ | ⟨pre, hSp, c, hi, hb⟩)⟩
    · exact ⟨none, _, run_endLoop (P := P) hb.loop (by simp [R]), hdone D xs _ (Nat.le_refl _) hS (hI.putObj _ hi (Nat.le_succ _) hb.loop rfl) ((World.putObj_heap_other hDl).trans hb.def_)⟩
    · exact ⟨some c, _, run_endLoop (P := P) hb.loop (by simp [R]), hstop D c pre _ (Nat.le_refl _) hSp ((hIx c).putObj _ hi (Nat.le_succ _) hb.loop rfl) ((World.putObj_heap_other hDl).trans hb.def_)⟩
end Go.Proofs.Ytihglmicgccgiaa

/-
  A range over an iterator that writes blocks of its own between two rounds: what the caller keeps lies in blocks that stood before the range. What is told: a list, by its places. Over any program.
-/
namespace Go.Proofs.Ytihglmicgccgiaa
open Go.RowKit

variable {P : Program}
theorem grown_none' {W W' : World} (h : Below W.heap.size W W') : W.grownBy W' none := ⟨h.os, h.tape, h.output, h.size, fun k hk _ => h.block k hk⟩
def OwnAll {β : Type} (B : Nat) (J : β → World → Prop) : Prop := ∀ (s : β) (W V : World) (row : Option Nat), J s W → W.grownBy V row → (∀ r, row = some r → B ≤ r) → J s V
theorem OwnAll.put {β : Type} {B : Nat} {J : β → World → Prop} (h : OwnAll B J) {s : β} {W : World} (o : Obj) (hj : J s W) {l : Nat} (hl : B ≤ l) : J s (W.putObj l o) := h s W _ (some l) hj (grownBy_putObj' W l o) fun r e => by cases e; exact hl
theorem OwnAll.alloc {β : Type} {B : Nat} {J : β → World → Prop} (h : OwnAll B J) {s : β} {W : World} (o : Obj) (hj : J s W) : J s (W.alloc o) := h s W _ none hj (grown_none' ((Below.refl _ _).alloc (Nat.le_refl _) o)) fun r e => by cases e
/-- every block from B on, and those of F, stand as they stood -/
structure KpC (F : Nat → Prop) (B : Nat) (W V : World) : Prop where
  size : W.heap.size ≤ V.heap.size
  same : ∀ k, F k ∨ B ≤ k → k < W.heap.size → V.heap[k]? = W.heap[k]?
theorem KpC.refl (F : Nat → Prop) (B : Nat) (W : World) : KpC F B W W := ⟨Nat.le_refl _, fun _ _ _ => rfl⟩
theorem KpC.trans {F : Nat → Prop} {B : Nat} {X Y Z : World} (h : KpC F B X Y) (k : KpC F B Y Z) : KpC F B X Z := ⟨Nat.le_trans h.size k.size, fun i h1 h2 => (k.same i h1 (Nat.lt_of_lt_of_le h2 h.size)).trans (h.same i h1 h2)⟩
theorem KpC.later {F : Nat → Prop} {B B' : Nat} {X Y : World} (h : KpC F B X Y) (hB : B ≤ B') : KpC F B' X Y := ⟨h.size, fun k h1 h2 => h.same k (h1.imp id fun h => Nat.le_trans hB h) h2⟩
theorem KpC.below {F : Nat → Prop} {B : Nat} {X Y : World} (h : Below X.heap.size X Y) : KpC F B X Y := ⟨h.size, fun _ _ h2 => h.block _ h2⟩
theorem KpC.cell {F : Nat → Prop} {B : Nat} {X Y : World} (h : KpC F B X Y) {p : Addr} (hp : F p.block ∨ B ≤ p.block) (hl : p.block < X.heap.size) : Y.cell? p = X.cell? p := World.cell?_of_block (h.same _ hp hl)
theorem KpC.put {F : Nat → Prop} {B : Nat} {W : World} {l : Nat} {o : Obj} (hl : l < B) (hF : ¬ F l) : KpC F B W (W.putObj l o) := ⟨(grownBy_putObj' W l o).size, fun k h1 h2 => (grownBy_putObj' W l o).block k h2 (fun e => by
  have e2 : l = k := (Option.some.inj e).symm
  subst e2
  rcases h1 with h1 | h1
  · exact hF h1
  · omega)⟩
/-- An iterator's contract. -/
def SeqA {α : Type} (n : Nat) (P : Program) (g : Nat) (lb : Array Value) (encs : α → Array Value) (L : List α) (F : Nat → Prop) (w : World) : Prop :=
  ∀ (l : Nat) (J Jx : Nat → World → Prop) (W : World), Below w.heap.size w W → OwnAll W.heap.size J → OwnAll W.heap.size Jx →
    (∀ k x V, L[k]? = some x → J k V → YieldAt Fence.wide (n - 1) P l (encs x) V fun e V' => (e = .returned (.bool true) ∧ J (k + 1) V' ∧ KpC F W.heap.size V V') ∨ (e = .returned (.bool false) ∧ Jx (k + 1) V' ∧ KpC F W.heap.size V V')) →
    J 0 W →
    CallsIn Fence.wide n P g (#[.func (.yield l) #[] #[]] ++ lb) W fun e V => (∃ v, e = .returned v) ∧ (J L.length V ∨ ∃ k, k ≤ L.length ∧ Jx k V)

/-- how a round's body may be left -/
def roundA (F : Nat → Prop) (B : Nat) (W0 : World) (I : Nat → World → Prop) (Ix : Code → Nat → World → Prop) (k : Nat) (W : World) : Exit → Act → World → Prop
  | .normal, _, V => (KpC F B W V ∧ KpC F (B + 2) W0 V) ∧ I k V
  | .ret, _, V => (KpC F B W V ∧ KpC F (B + 2) W0 V) ∧ Ix .ret k V
  | .exit id, _, V => (KpC F B W V ∧ KpC F (B + 2) W0 V) ∧ Ix (.exit id) k V
  | .goto t, _, V => (KpC F B W V ∧ KpC F (B + 2) W0 V) ∧ Ix (.goto t) k V
  | .panic _, _, _ => False
  | .outgrown, _, _ => False
theorem Books.kept {F : Nat → Prop} {l D B : Nat} {r : Loop} {W V : World} (h : Books l D r W) (hk : KpC F B W V) (hl : B ≤ l) (hD : B ≤ D) : Books l D r V :=
  ⟨(hk.same l (.inr hl) (Array.getElem?_eq_some_iff.1 h.loop).1).trans h.loop, (hk.same D (.inr hD) (Array.getElem?_eq_some_iff.1 h.def_).1).trans h.def_⟩

theorem rangeA {α : Type} {n : Nat} {g : Operand} {ps : Array Tmp} {assign body : Code} {Q : Exit → Act → World → Prop} {a : Act} {w : World} (h1 : 1 ≤ n) {gf : Nat} {lb : Array Value} (hg : a.eval g = .func (.func gf) #[] lb)
    (eg : ∀ args w, (callFunc gf args).run P w = .ok (.enter gf args) w) {encs : α → Array Value} {L : List α} {F : Nat → Prop} (hF : ∀ k, F k → k < w.heap.size) (hseq : SeqA (n - 1) P gf lb encs L F w) (hps : ∀ x, (encs x).size = ps.size)
    (I : Nat → World → Prop) (Ix : Code → Nat → World → Prop) (hI : OwnAll w.heap.size I) (hIx : ∀ c, OwnAll w.heap.size (Ix c)) (h0 : I 0 w)
    (hround : ∀ (l : Nat) (k : Nat) (x : α) (W : World), l = w.heap.size + 1 → l < W.heap.size → L[k]? = some x → I k W →
      assign.wpIn (Fence.wide.inRound l) (n - 1 - 1) P (Exit.then (fun a' W' => KpC F w.heap.size W W' ∧ ∀ W2 : World, W'.grownBy W2 (some l) → W2.heap.size = W'.heap.size →
        body.wpIn (Fence.wide.inRound l) (n - 1 - 1) P (roundA F w.heap.size W I Ix (k + 1) W2) a' W2) (fun _ _ _ => False)) { tmps := (ps.zip (encs x)).foldl (fun t (p, v) => t.setIfInBounds p v) a.tmps, defers := [] } W)
    (hdone : ∀ (D : Nat) (W : World), w.heap.size ≤ D → I L.length W → W.heap[D]? = some (.deferred (some [])) → Q .normal { a with defers := { target := .collected D, args := #[] } :: a.defers } W)
    (hstop : ∀ (D : Nat) (c : Code) (k : Nat) (W : World), w.heap.size ≤ D → k ≤ L.length → Ix c k W → W.heap[D]? = some (.deferred (some [])) → c.wpIn Fence.wide n P Q { a with defers := { target := .collected D, args := #[] } :: a.defers } W) :
    (Code.rangeFunc g ps assign body).wpIn Fence.wide n P Q a w := by
  refine wpIn_rangeFunc fun fn hfn => ?_
  -- the loop's record, by its state and the jump that it holds
  let R : LoopState → Option Code → Loop := fun st pe => { state := st, pending := pe, fn, tmps := a.tmps, params := ps, assign, body, defers := w.heap.size }
  let D := w.heap.size
  let l := w.heap.size + 1
  let V0 := w.alloc (.deferred (some []))
  let V1 := V0.alloc (.loop (R .ready none))
  have hs0 : V0.heap.size = l := World.size_alloc ..
  have hs1 : V1.heap.size = w.heap.size + 2 := by show (V0.alloc _).heap.size = _; rw [World.size_alloc, hs0]
  have hDl : D ≠ l := Nat.ne_of_lt (Nat.lt_succ_self _)
  have hB : Books l D (R .ready none) V1 := by
    refine ⟨?_, ?_⟩
    · have := World.alloc_heap_new V0 (.loop (R .ready none)); rwa [hs0] at this
    · exact (Below.heap_alloc _ _ _ (by rw [hs0]; exact Nat.lt_succ_self _)).trans (World.alloc_heap_new w _)
  have hbel : Below w.heap.size w V1 := ((Below.refl _ w).alloc (Nat.le_refl _) _).alloc (by rw [hs0]; exact Nat.le_succ _) _
  have hI1 : I 0 V1 := hI.alloc _ (hI.alloc _ h0)
  refine ⟨l, [{ target := .collected D, args := #[] }], V1, { target := .fn (.func gf) lb, args := #[.func (.yield l) #[] #[]] }, V1, gf, #[.func (.yield l) #[] #[]] ++ lb, V1, run_enterLoop_outer _ _ _ _ _, ?_, fun f' _ => trivial, ?_, fun _ => h1, ?_⟩
  · simp only [resolve, hg]
    simp [go_sem]
  · simp [invoke, go_sem, eg]
  refine (hseq l (fun k W => I k W ∧ Books l D (R .ready none) W) (fun k W => ∃ c, Ix c k W ∧ Books l D (R .done (some c)) W) V1 hbel ?_ ?_ ?_ ⟨hI1, hB⟩).mono ?_
  · intro s A B row hs hgr hr
    exact ⟨hI s A B row hs.1 hgr (fun r e => by have := hr r e; omega), hs.2.grown hgr (B := w.heap.size + 2) (fun k e => by have := hr k e; omega) (Nat.lt_succ_self _) (by show w.heap.size < _; omega)⟩
  · rintro s A B row ⟨c, hc, hb⟩ hgr hr
    exact ⟨c, hIx c s A B row hc hgr (fun r e => by have := hr r e; omega), hb.grown hgr (B := w.heap.size + 2) (fun k e => by have := hr k e; omega) (Nat.lt_succ_self _) (by show w.heap.size < _; omega)⟩
  · -- a round
    rintro k x W hx ⟨hi, hb⟩
    refine ⟨fn, _, assign, body, run_yield (P := P) (args := encs x) hb.loop (hps x), roundIn_of_wpIn hfn (wpIn_mono (hround l k x W rfl (Array.getElem?_eq_some_iff.1 hb.loop).1 hx hi) ?_)⟩
    rintro e a' Wa hq
    cases e with
    | normal =>
      obtain ⟨hk1, hq⟩ := hq
      have hb1 := hb.kept hk1 (Nat.le_succ _) (Nat.le_refl _)
      refine ⟨_, run_beginRound hb1.loop rfl, ?_⟩
      have hbz : Books l D (R .busy none) (Wa.putObj l (.loop (R .busy none))) := hb1.turn hDl _
      refine wpIn_mono (hq _ (grownBy_putObj' Wa l _) World.putObj_size) ?_
      clear hq
      rintro e a3 W3 hp
      have hlast : ∀ (o : Obj), KpC F (w.heap.size + 2) W W3 → KpC F V1.heap.size W (W3.putObj l o) := fun o h => by
        rw [hs1]
        exact h.trans (KpC.put (Nat.lt_succ_self _) (fun h => by have := hF _ h; omega))
      cases e with
      | normal =>
        obtain ⟨⟨k3, p3⟩, i3⟩ := hp
        have b3 := hbz.kept k3 (Nat.le_succ _) (Nat.le_refl _)
        exact ⟨_, _, run_endRound (P := P) none b3.loop, .inl ⟨rfl, ⟨hI.put _ i3 (Nat.le_succ _), b3.turn hDl _⟩, hlast _ p3⟩⟩
      | ret =>
        obtain ⟨⟨k3, p3⟩, i3⟩ := hp
        have b3 := hbz.kept k3 (Nat.le_succ _) (Nat.le_refl _)
        exact ⟨_, _, run_endRound (P := P) (some .ret) b3.loop, .inr ⟨rfl, ⟨_, (hIx _).put _ i3 (Nat.le_succ _), b3.turn hDl _⟩, hlast _ p3⟩⟩
      | exit id =>
        obtain ⟨⟨k3, p3⟩, i3⟩ := hp
        have b3 := hbz.kept k3 (Nat.le_succ _) (Nat.le_refl _)
        exact ⟨_, _, run_endRound (P := P) (some (.exit id)) b3.loop, .inr ⟨rfl, ⟨_, (hIx _).put _ i3 (Nat.le_succ _), b3.turn hDl _⟩, hlast _ p3⟩⟩
      | goto t =>
        obtain ⟨⟨k3, p3⟩, i3⟩ := hp
        have b3 := hbz.kept k3 (Nat.le_succ _) (Nat.le_refl _)
        exact ⟨_, _, run_endRound (P := P) (some (.goto t)) b3.loop, .inr ⟨rfl, ⟨_, (hIx _).put _ i3 (Nat.le_succ _), b3.turn hDl _⟩, hlast _ p3⟩⟩
      | panic ch => exact hp.elim
      | outgrown => exact hp.elim
    | _ => exact hq
  · -- behind the iterator
    rintro e W2 ⟨⟨v, rfl⟩, (⟨hi, hb⟩ | ⟨k, hk, c, hi, hb⟩)⟩
    · exact ⟨none, _, run_endLoop (P := P) hb.loop (by simp [R]), hdone D _ (Nat.le_refl _) (hI.put _ hi (Nat.le_succ _)) ((World.putObj_heap_other hDl).trans hb.def_)⟩
    · exact ⟨some c, _, run_endLoop (P := P) hb.loop (by simp [R]), hstop D c k _ (Nat.le_refl _) hk ((hIx c).put _ hi (Nat.le_succ _)) ((World.putObj_heap_other hDl).trans hb.def_)⟩
end Go.Proofs.Ytihglmicgccgiaa
