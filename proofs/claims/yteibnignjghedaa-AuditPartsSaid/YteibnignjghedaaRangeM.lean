/-
  A range over a function: what a round keeps is asked from ahead of the assignment to the loop's variable on (the body may write that variable).
-/
import Derived.Test.YteibnignjghedaaRangeN
namespace Go.Proofs.Yteibnignjghedaa
open Go.RowKit

variable {P : Program}
theorem range_round {α : Type} {n : Nat} {g : Operand} {ps : Array Tmp} {assign body : Code} {Q : Exit → Act → World → Prop} {a : Act} {w : World} (h1 : 1 ≤ n) {gf : Nat} {lb : Array Value} (hg : a.eval g = .func (.func gf) #[] lb)
    (eg : ∀ args w, (callFunc gf args).run P w = .ok (.enter gf args) w) {encs : α → Array Value} {Kp : World → World → Prop} {S Sp : List α → Prop} {N : Nat} (hseq : SeqN (n - 1) P gf lb encs Kp S Sp N w)
    (hKt : ∀ {A B C : World}, Kp A B → Kp B C → Kp A C) (hKb : ∀ (W : World) (o o' : Obj), W.heap[w.heap.size + 1]? = some o → o.isCells = false → Kp W (W.putObj (w.heap.size + 1) o')) (hps : ∀ x, (encs x).size = ps.size)
    (I : List α → World → Prop) (Ix : Code → List α → World → Prop) (hI : OwnFrom w.heap.size I) (hIx : ∀ c, OwnFrom w.heap.size (Ix c)) (h0 : I [] w)
    (hround : ∀ (l : Nat) (pre : List α) (x : α) (W : World), l = w.heap.size + 1 → I pre W → pre.length < N →
      assign.wpIn (Fence.wide.inRound l) (n - 1 - 1) P (Exit.then (fun a' W' => KeepsFrom w.heap.size W W' ∧ ∀ W2 : World, W'.grownBy W2 (some l) → W2.heap.size = W'.heap.size → (∃ o : Obj, W'.heap[l]? = some o ∧ o.isCells = false) →
        body.wpIn (Fence.wide.inRound l) (n - 1 - 1) P (roundN w.heap.size (fun _ V => Kp W V) I Ix (pre ++ [x]) W2) a' W2) (fun _ _ _ => False)) { tmps := (ps.zip (encs x)).foldl (fun t (p, v) => t.setIfInBounds p v) a.tmps, defers := [] } W)
    (hdone : ∀ (D : Nat) (xs : List α) (W : World), w.heap.size ≤ D → S xs → I xs W → W.heap[D]? = some (.deferred (some [])) → Q .normal { a with defers := { target := .collected D, args := #[] } :: a.defers } W)
    (hstop : ∀ (D : Nat) (c : Code) (pre : List α) (W : World), w.heap.size ≤ D → Sp pre → Ix c pre W → W.heap[D]? = some (.deferred (some [])) → c.wpIn Fence.wide n P Q { a with defers := { target := .collected D, args := #[] } :: a.defers } W) :
    (Code.rangeFunc g ps assign body).wpIn Fence.wide n P Q a w := by
  refine wpIn_rangeFunc fun fn hfn => ?_
  -- the loop's record, by its state and the jump that it holds
  let R : LoopState → Option Code → Loop := fun st pe => { state := st, pending := pe, fn, tmps := a.tmps, params := ps, assign, body, defers := w.heap.size }
  let D := w.heap.size
  let l := w.heap.size + 1
  let V0 := w.alloc (.deferred (some []))
  let V1 := V0.alloc (.loop (R .ready none))
  have hs0 : V0.heap.size = l := World.size_alloc ..
  have hs1 : V1.heap.size = w.heap.size + 2 := by show (V0.alloc _).heap.size = _; rw [World.size_alloc, hs0]
  have hDl : D ≠ l := Nat.ne_of_lt (Nat.lt_succ_self _)
  have hB : Books l D (R .ready none) V1 := by
    refine ⟨?_, ?_⟩
    · have := World.alloc_heap_new V0 (.loop (R .ready none)); rwa [hs0] at this
    · exact (Below.heap_alloc _ _ _ (by rw [hs0]; exact Nat.lt_succ_self _)).trans (World.alloc_heap_new w _)
  have hbel : Below w.heap.size w V1 := ((Below.refl _ w).alloc (Nat.le_refl _) _).alloc (by rw [hs0]; exact Nat.le_succ _) _
  have hI1 : I [] V1 := hI.alloc _ (hI.alloc _ h0)
  refine ⟨l, [{ target := .collected D, args := #[] }], V1, { target := .fn (.func gf) lb, args := #[.func (.yield l) #[] #[]] }, V1, gf, #[.func (.yield l) #[] #[]] ++ lb, V1, run_enterLoop_outer _ _ _ _ _, ?_, fun f' _ => trivial, ?_, fun _ => h1, ?_⟩
  · simp only [resolve, hg]
    simp [go_sem]
  · simp [invoke, go_sem, eg]
  have lift : ∀ {row : Option Nat} {A : World}, (∀ r, row = some r → V1.heap.size ≤ r ∧ ∃ o : Obj, A.heap[r]? = some o ∧ o.isCells = false) → (∀ r, row = some r → w.heap.size ≤ r ∧ ∃ o : Obj, A.heap[r]? = some o ∧ o.isCells = false) :=
    fun hr r e => ⟨by have := (hr r e).1; omega, (hr r e).2⟩
  refine (hseq l (fun pre W => I pre W ∧ Books l D (R .ready none) W) (fun pre W => ∃ c, Ix c pre W ∧ Books l D (R .done (some c)) W) V1 hbel ?_ ?_ ?_ ⟨hI1, hB⟩).mono ?_
  · intro s A B row hs hgr hr
    exact ⟨hI s A B row hs.1 hgr (lift hr), hs.2.grown hgr (B := w.heap.size + 2) (fun k e => by have := (hr k e).1; omega) (Nat.lt_succ_self _) (by show w.heap.size < _; omega)⟩
  · rintro s A B row ⟨c, hc, hb⟩ hgr hr
    exact ⟨c, hIx c s A B row hc hgr (lift hr), hb.grown hgr (B := w.heap.size + 2) (fun k e => by have := (hr k e).1; omega) (Nat.lt_succ_self _) (by show w.heap.size < _; omega)⟩
  · -- a round
    rintro pre x W ⟨hi, hb⟩ hlen
    refine ⟨fn, _, assign, body, run_yield (P := P) (args := encs x) hb.loop (hps x), roundIn_of_wpIn hfn (wpIn_mono (hround l pre x W rfl hi hlen) ?_)⟩
    rintro e a' Wa hq
    cases e with
    | normal =>
      obtain ⟨hk1, hq⟩ := hq
      have hb1 := hb.keeps hk1 (Nat.le_succ _) (Nat.le_refl _)
      refine ⟨_, run_beginRound hb1.loop rfl, ?_⟩
      have hbz : Books l D (R .busy none) (Wa.putObj l (.loop (R .busy none))) := hb1.turn hDl _
      refine wpIn_mono (hq _ (grownBy_putObj' Wa l _) World.putObj_size ⟨_, hb1.loop, rfl⟩) ?_
      clear hq
      rintro e a3 W3 hp
      cases e with
      | normal =>
        obtain ⟨⟨k3, p3⟩, i3⟩ := hp
        have b3 := hbz.keeps k3 (Nat.le_succ _) (Nat.le_refl _)
        exact ⟨_, _, run_endRound (P := P) none b3.loop, .inl ⟨rfl, ⟨hI.putObj _ i3 (Nat.le_succ _) b3.loop rfl, b3.turn hDl _⟩, hKt p3 (hKb _ _ _ b3.loop rfl)⟩⟩
      | ret =>
        obtain ⟨⟨k3, p3⟩, i3⟩ := hp
        have b3 := hbz.keeps k3 (Nat.le_succ _) (Nat.le_refl _)
        exact ⟨_, _, run_endRound (P := P) (some .ret) b3.loop, .inr ⟨rfl, ⟨_, (hIx _).putObj _ i3 (Nat.le_succ _) b3.loop rfl, b3.turn hDl _⟩, hKt p3 (hKb _ _ _ b3.loop rfl)⟩⟩
      | exit id =>
        obtain ⟨⟨k3, p3⟩, i3⟩ := hp
        have b3 := hbz.keeps k3 (Nat.le_succ _) (Nat.le_refl _)
        exact ⟨_, _, run_endRound (P := P) (some (.exit id)) b3.loop, .inr ⟨rfl, ⟨_, (hIx _).putObj _ i3 (Nat.le_succ _) b3.loop rfl, b3.turn hDl _⟩, hKt p3 (hKb _ _ _ b3.loop rfl)⟩⟩
      | goto t =>
        obtain ⟨⟨k3, p3⟩, i3⟩ := hp
        have b3 := hbz.keeps k3 (Nat.le_succ _) (Nat.le_refl _)
        exact ⟨_, _, run_endRound (P := P) (some (.goto t)) b3.loop, .inr ⟨rfl, ⟨_, (hIx _).putObj _ i3 (Nat.le_succ _) b3.loop rfl, b3.turn hDl _⟩, hKt p3 (hKb _ _ _ b3.loop rfl)⟩⟩
      | panic ch => exact hp.elim
      | outgrown => exact hp.elim
    | _ => exact hq
  · -- behind the iterator
    rintro e W2 ⟨⟨v, rfl⟩, (⟨xs, hS, hi, hb⟩ | ⟨pre, hSp, c, hi, hb⟩)⟩
    · exact ⟨none, _, run_endLoop (P := P) hb.loop (by simp [R]), hdone D xs _ (Nat.le_refl _) hS (hI.putObj _ hi (Nat.le_succ _) hb.loop rfl) ((World.putObj_heap_other hDl).trans hb.def_)⟩
    · exact ⟨some c, _, run_endLoop (P := P) hb.loop (by simp [R]), hstop D c pre _ (Nat.le_refl _) hSp ((hIx c).putObj _ hi (Nat.le_succ _) hb.loop rfl) ((World.putObj_heap_other hDl).trans hb.def_)⟩
end Go.Proofs.Yteibnignjghedaa
