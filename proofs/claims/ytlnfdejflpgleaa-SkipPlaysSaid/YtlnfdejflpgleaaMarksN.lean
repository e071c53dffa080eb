/-
  Leaving a function that has run several ranges over functions.
-/
import Derived.Test.YtlnfdejflpgleaaMarks
namespace Go.Proofs.Ytlnfdejflpgleaa
open Go.RowKit

/-- the world behind the ranges' blocks for deferred calls -/
def takeN (w : World) : List Nat → World
  | [] => w
  | D :: ds => takeN (w.putObj D (.deferred none)) ds
theorem takeN_keeps : ∀ {ds : List Nat} {w : World}, (∀ D ∈ ds, ∃ o : Obj, w.heap[D]? = some o ∧ o.isCells = false) → ∀ {B : Nat}, (∀ D ∈ ds, B ≤ D) → Below B w (takeN w ds) ∧ ∀ (k : Nat) (o : Obj), w.heap[k]? = some o → o.isCells = true → (takeN w ds).heap[k]? = some o
  | [], w, _, B, _ => ⟨Below.refl _ _, fun _ _ h _ => h⟩
  | D :: ds, w, h, B, hB => by
    obtain ⟨o0, h0, hc0⟩ := h D (List.mem_cons_self ..)
    have hcells : ∀ (k : Nat) (o : Obj), w.heap[k]? = some o → o.isCells = true → (w.putObj D (.deferred none)).heap[k]? = some o := fun k o hk hc => by
      rw [World.putObj_heap_other (fun e => by subst e; rw [h0] at hk; cases hk; rw [hc0] at hc; cases hc)]
      exact hk
    have := takeN_keeps (ds := ds) (w := w.putObj D (.deferred none)) (fun D' hD' => by
      by_cases e : D' = D
      · subst e
        exact ⟨.deferred none, World.putObj_heap_same (Array.getElem?_eq_some_iff.1 h0).1, rfl⟩
      · obtain ⟨o, h1, h2⟩ := h D' (List.mem_cons_of_mem _ hD')
        exact ⟨o, by rw [World.putObj_heap_other e]; exact h1, h2⟩) (fun D' hD' => hB D' (List.mem_cons_of_mem _ hD'))
    exact ⟨(below_put h0 (hB D (List.mem_cons_self ..))).trans this.1, fun k o hk hc => this.2 k o (hcells k o hk hc) hc⟩
theorem takeN_cell {ds : List Nat} {w : World} (hd : ∀ D ∈ ds, ∃ o : Obj, w.heap[D]? = some o ∧ o.isCells = false) {p : Addr} {v : Value} (h : w.cell? p = some v) : (takeN w ds).cell? p = some v := by
  unfold World.cell? at h
  cases ho : w.heap[p.block]? with
  | none => simp [ho] at h
  | some o =>
    cases o with
    | cells arr T fr =>
      have := (takeN_keeps hd (B := 0) (fun _ _ => Nat.zero_le _)).2 _ _ ho rfl
      unfold World.cell?
      rw [this]
      rw [ho] at h
      exact h
    | _ => simp [ho] at h
section
variable {F : Fence} {n : Nat} {P : Program} {fn : Func} {R : Ending → World → Prop}
theorem leavesN {tmps : Array Value} {v : Value} : ∀ {ds : List Nat} {w : World}, ds.Nodup → (∀ D ∈ ds, w.heap[D]? = some (.deferred (some []))) → (results fn tmps).run P (takeN w ds) = .ok v (takeN w ds) → R (.returned v) (takeN w ds) →
    LeavesInM F n P fn tmps R (ds.map fun D => ({ target := .collected D, args := #[] } : Deferred)) .returning w
  | [], w, _, _, hr, h => ⟨v, hr, h⟩
  | D :: ds, w, hn, hk, hr, h => by
    refine ⟨by simp, .inl ⟨_, _, rfl, run_takeDeferred (hk D (List.mem_cons_self ..)), ?_⟩⟩
    have hn2 := List.nodup_cons.1 hn
    exact leavesN hn2.2 (fun D' hD' => by
      have hne : D' ≠ D := fun e => hn2.1 (by rw [← e]; exact hD')
      rw [World.putObj_heap_other hne]
      exact hk D' (List.mem_cons_of_mem _ hD')) hr h
/-- At the end of a body that has run ranges over functions: their blocks, the last one first. -/
theorem postM_retN {a : Act} {w : World} {v : Value} (ds : List Nat) (hd : a.defers = ds.map fun D => ({ target := .collected D, args := #[] } : Deferred)) (hn : ds.Nodup) (hk : ∀ D ∈ ds, w.heap[D]? = some (.deferred (some [])))
    (hr : (results fn a.tmps).run P (takeN w ds) = .ok v (takeN w ds)) (h : R (.returned v) (takeN w ds)) : bodyPostM F n P fn R .ret a w := by
  show LeavesInM F n P fn a.tmps R a.defers .returning w
  rw [hd]; exact leavesN hn hk hr h
end
end Go.Proofs.Ytlnfdejflpgleaa
