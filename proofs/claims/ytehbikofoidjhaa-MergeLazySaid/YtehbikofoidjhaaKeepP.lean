/-
  Rows of cells as functions (package merge): the state of keep's function; what it tells.
-/
import Derived.Test.YtehbikofoidjhaaAllCW
namespace Go.Proofs.Ytehbikofoidjhaa
open Go.RowKit

def placeB (a b : CellA) : Bool := decide (a.row = b.row) && decide (a.col = b.col)
/-- is the cell the first of its place? -/
def freshB : Option CellA → CellA → Bool
  | none, _ => true
  | some p, c => !placeB p c
/-- the first cells of places that a test lets through -/
def keepL (t : CellA → Bool) : Option CellA → List CellA → List CellA
  | _, [] => []
  | last, c :: r => if freshB last c && t c then c :: keepL t (some c) r else keepL t (some c) r

/-- keep's own variables: the row, first, ahead, the test -/
structure KV where
  b0 : Nat
  b1 : Nat
  b2 : Nat
  b3 : Nat
def KV.caps (k : KV) : Array Value := #[.pointer (some ⟨k.b0, 0, none⟩), .pointer (some ⟨k.b1, 0, none⟩), .pointer (some ⟨k.b2, 0, none⟩), .pointer (some ⟨k.b3, 0, none⟩)]
def KV.Is (a : KV) (k : Nat) : Prop := k = a.b0 ∨ k = a.b1 ∨ k = a.b2 ∨ k = a.b3
structure KV.Ok (a : KV) : Prop where
  n01 : a.b0 ≠ a.b1
  n02 : a.b0 ≠ a.b2
  n12 : a.b1 ≠ a.b2
  n13 : a.b1 ≠ a.b3
  n23 : a.b2 ≠ a.b3
structure KeepAt (a : KV) (f : FuncId) (caps : Array Value) (T : FuncId) (last : Option CellA) (w : World) : Prop where
  ok : a.Ok
  c0 : w.cell? ⟨a.b0, 0, none⟩ = some (.func (.func f) #[] caps)
  c1 : w.cell? ⟨a.b1, 0, none⟩ = some (.bool last.isNone)
  c2 : LastAt w a.b2 last
  c3 : w.cell? ⟨a.b3, 0, none⟩ = some (.func (.func T) #[] #[])
  f : ∀ k o, a.Is k → w.frozen? ⟨k, o, none⟩ = false
theorem KeepAt.same {a : KV} {f : FuncId} {caps : Array Value} {T : FuncId} {last : Option CellA} {w w' : World} (h : KeepAt a f caps T last w) (hb : ∀ k, a.Is k → w'.heap[k]? = w.heap[k]?) : KeepAt a f caps T last w' :=
  ⟨h.ok, (World.cell?_of_block (a := ⟨a.b0, 0, none⟩) (hb _ (.inl rfl))).trans h.c0, (World.cell?_of_block (a := ⟨a.b1, 0, none⟩) (hb _ (.inr (.inl rfl)))).trans h.c1, h.c2.same (hb _ (.inr (.inr (.inl rfl)))), (World.cell?_of_block (a := ⟨a.b3, 0, none⟩) (hb _ (.inr (.inr (.inr rfl))))).trans h.c3,
    fun k o hk => (World.frozen?_of_block (a := ⟨k, o, none⟩) (hb k hk)).trans (h.f k o hk)⟩
theorem KeepAt.lt {a : KV} {f : FuncId} {caps : Array Value} {T : FuncId} {last : Option CellA} {w : World} (h : KeepAt a f caps T last w) : ∀ k, a.Is k → k < w.heap.size := by
  intro k hk
  rcases hk with e | e | e | e <;> subst e
  · exact World.block_lt_of_cell? _ _ h.c0
  · exact World.block_lt_of_cell? _ _ h.c1
  · obtain ⟨u, hu⟩ := h.c2.any 0 (by decide)
    exact World.block_lt_of_cell? _ _ hu
  · exact World.block_lt_of_cell? _ _ h.c3
/-- a cell is noted -/
theorem KeepAt.note {a : KV} {f : FuncId} {caps : Array Value} {T : FuncId} {last : Option CellA} {w : World} (h : KeepAt a f caps T last w) (c : CellA) : KeepAt a f caps T (some c) ((putC w a.b2 c).setCell ⟨a.b1, 0, none⟩ (.bool false)) := by
  obtain ⟨n01, n02, n12, n13, n23⟩ := h.ok
  have hne : ∀ k, k ≠ a.b1 → k ≠ a.b2 → ((putC w a.b2 c).setCell ⟨a.b1, 0, none⟩ (.bool false)).heap[k]? = w.heap[k]? := fun k h1 h2 => by
    rw [Below.heap_setCell _ _ _ _ h1, putC_heap _ _ _ _ h2]
  have h2 : ((putC w a.b2 c).setCell ⟨a.b1, 0, none⟩ (.bool false)).heap[a.b2]? = (putC w a.b2 c).heap[a.b2]? := Below.heap_setCell _ _ _ _ n12.symm
  have hp := (putC_at h.c2.any c).same h2
  refine ⟨⟨n01, n02, n12, n13, n23⟩, (World.cell?_of_block (a := ⟨a.b0, 0, none⟩) (hne _ n01 n02)).trans h.c0, ?_, ⟨fun y hy => by cases hy; exact hp, fun o ho => ?_⟩, (World.cell?_of_block (a := ⟨a.b3, 0, none⟩) (hne _ n13.symm n23.symm)).trans h.c3, fun k o hk => by rw [World.frozen?_setCell, putC_frozen]; exact h.f k o hk⟩
  · exact World.cell?_setCell_same _ _ _ ((World.cell?_of_block (a := ⟨a.b1, 0, none⟩) (putC_heap _ _ _ _ n12)).trans h.c1)
  · match o, ho with
    | 0, _ => exact ⟨_, hp.c0⟩
    | 1, _ => exact ⟨_, hp.c1⟩
    | 2, _ => exact ⟨_, hp.c2⟩
    | 3, _ => exact ⟨_, hp.c3⟩
    | 4, _ => exact ⟨_, hp.c4⟩

/-- keep's function has these cells yet to tell -/
def KeepSt (a : KV) (f : FuncId) (caps : Array Value) (St : List CellA → (Nat → Prop) → World → Prop) (T : FuncId) (t : CellA → Bool) (cs : List CellA) (F : Nat → Prop) (w : World) : Prop :=
  ∃ (last : Option CellA) (l : List CellA) (F0 : Nat → Prop), KeepAt a f caps T last w ∧ St l F0 w ∧ keepL t last l = cs ∧ (∀ k, F0 k → F k) ∧ (∀ k, a.Is k → F k ∧ ¬ F0 k) ∧ ∀ k, F k → k < w.heap.size

/-- while keep's function looks -/
structure KeepS (a : KV) (f : FuncId) (caps : Array Value) (St : List CellA → (Nat → Prop) → World → Prop) (T : FuncId) (F : Nat → Prop) (w W wr : World) (last : Option CellA) (l : List CellA) (F1 : Nat → Prop) : Prop where
  at_ : KeepAt a f caps T last wr
  st : St l F1 wr
  sub : ∀ b, F1 b → F b ∨ W.heap.size ≤ b
  own : ∀ b, a.Is b → F b ∧ ¬ F1 b
  kept : Kept F w wr
  size : W.heap.size ≤ wr.heap.size
  res : wr.heap[w.heap.size]? = W.heap[w.heap.size]?
section
variable {a : KV} {f : FuncId} {caps : Array Value} {St : List CellA → (Nat → Prop) → World → Prop} {T : FuncId} {F F1 F2 : Nat → Prop} {w W wr w1 : World} {last : Option CellA} {l l' cs : List CellA} {t : CellA → Bool}
/-- the row was called -/
theorem KeepS.call (hF : ∀ k, F k → k < w.heap.size) (hW : w.heap.size < W.heap.size) (h : KeepS a f caps St T F w W wr last l F1) (hS : St l' F2 w1) (h2 : ∀ b, F2 b → F1 b ∨ wr.heap.size ≤ b) (hK : Kept F1 wr w1) : KeepS a f caps St T F w W w1 last l' F2 := by
  have hs := h.size
  have hlt := h.at_.lt
  refine ⟨h.at_.same (fun k hk => hK.block k (hlt k hk) (h.own k hk).2), hS, fun b hb => ?_, fun b hb => ⟨(h.own b hb).1, fun hf => ?_⟩, h.kept.trans hK (fun i hi => (h.sub i hi).imp id (fun h => by omega)), by have := hK.size; omega, (hK.block _ (by omega) (fun hf => ?_)).trans h.res⟩
  · rcases h2 b hb with h3 | h3
    · exact h.sub b h3
    · exact .inr (by omega)
  · rcases h2 b hf with h3 | h3
    · exact (h.own b hb).2 h3
    · have := hlt b hb; omega
  · rcases h.sub _ hf with h3 | h3
    · have := hF _ h3; omega
    · omega
theorem KeepS.below (hR : RowOf f caps St) (hW : w.heap.size < W.heap.size) (h : KeepS a f caps St T F w W wr last l F1) (hB : Below wr.heap.size wr w1) : KeepS a f caps St T F w W w1 last l F1 := by
  have hs := h.size
  exact ⟨h.at_.same (fun k hk => hB.block k (h.at_.lt k hk)), hR.keep h.st hB.size (fun b hf => hB.block b (hR.inb h.st b hf)), h.sub, h.own, h.kept.trans (F' := fun _ => False) (Kept.of_below hB) (fun _ h => h.elim), Nat.le_trans hs hB.size, (hB.block _ (by omega)).trans h.res⟩
theorem KeepS.note (hR : RowOf f caps St) (hF : ∀ k, F k → k < w.heap.size) (h : KeepS a f caps St T F w W wr last l F1) (c : CellA) : KeepS a f caps St T F w W ((putC wr a.b2 c).setCell ⟨a.b1, 0, none⟩ (.bool false)) (some c) l F1 := by
  have i1 : a.Is a.b1 := .inr (.inl rfl)
  have i2 : a.Is a.b2 := .inr (.inr (.inl rfl))
  have hne : ∀ k, ¬ a.Is k → ((putC wr a.b2 c).setCell ⟨a.b1, 0, none⟩ (.bool false)).heap[k]? = wr.heap[k]? := fun k hk => by
    rw [Below.heap_setCell _ _ _ _ (fun e => hk (by rw [show k = a.b1 from e]; exact i1)), putC_heap _ _ _ _ (fun e => hk (by rw [e]; exact i2))]
  have hsz : ((putC wr a.b2 c).setCell ⟨a.b1, 0, none⟩ (.bool false)).heap.size = wr.heap.size := by rw [World.size_setCell, putC_size]
  refine ⟨h.at_.note c, hR.keep h.st (by omega) (fun b hb => hne b (fun hi => (h.own b hi).2 hb)), h.sub, h.own, ((h.kept.putC (.inl (h.own _ i2).1) c).setCell (p := ⟨a.b1, 0, none⟩) (.inl (h.own _ i1).1) _), by rw [hsz]; exact h.size, (hne _ (fun hi => ?_)).trans h.res⟩
  have := hF _ (h.own _ hi).1
  omega
/-- the result's block was written -/
theorem KeepS.done (hR : RowOf f caps St) (hF : ∀ k, F k → k < w.heap.size) (hW : w.heap.size < W.heap.size) (h : KeepS a f caps St T F w W wr last l F1) (he : keepL t last l = cs) (x : CellA) :
    (∃ F', KeepSt a f caps St T t cs F' (putC wr w.heap.size x) ∧ ∀ b, F' b → F b ∨ w.heap.size ≤ b) ∧ Kept F w (putC wr w.heap.size x) := by
  have hs := h.size
  have hn1 : ¬ F1 w.heap.size := fun hf => by
    rcases h.sub _ hf with h3 | h3
    · have := hF _ h3; omega
    · omega
  refine ⟨⟨fun k => (F k ∨ W.heap.size ≤ k) ∧ k < wr.heap.size, ⟨last, l, F1, h.at_.same (fun k hk => putC_heap _ _ _ _ (fun e => ?_)), hR.keep h.st (by rw [putC_size]; exact Nat.le_refl _) (fun b hb => putC_heap _ _ _ _ (fun e => hn1 (e ▸ hb))), he, fun k hk => ⟨h.sub k hk, hR.inb h.st k hk⟩, fun k hk => ⟨⟨.inl (h.own k hk).1, h.at_.lt k hk⟩, (h.own k hk).2⟩, fun k hk => by rw [putC_size]; exact hk.2⟩, fun b hb => hb.1.imp id (fun h => by omega)⟩, h.kept.putC (.inr (Nat.le_refl _)) x⟩
  have := hF _ (h.own k hk).1
  omega
end

/-- A call of a function value with one argument. -/
theorem wpList_call_test {w : World} {ops : Array Oper} {rest : List Oper} {o : Oper} {a : Act} {Q : Exit → Act → World → Prop} (hgd : o.guard = none) (s x : Operand) (T : TypeId) {u : Value}
    (ho : o.op = .call { callee := .value s, args := #[x], argTypes := #[T] }) {f : FuncId} {caps : Array Value} (hs : a.eval s = .func (.func f) #[] caps) (hx : a.eval x = u)
    (hf : ∃ fn c, Try.prog.funcs[f]? = some fn ∧ (fn.name == "runtime.NumGoroutine") = false ∧ fn.body = some c)
    (h : Calls Try.prog f (#[u] ++ caps) w fun e w' => ∃ v, e = .returned v ∧ wpList Try.prog ops Q rest (a.put o.dst v) w') : wpList Try.prog ops Q (o :: rest) a w := by
  refine wpList_plain hgd fun K hK => ?_
  obtain ⟨fn, c, h1, h2, h3⟩ := hf
  have hr := MuLone.run_callFunc_enter h1 h2 h3 (#[u] ++ caps) w
  unfold Oper.wp execOp
  simp only [ho, resolve, Deferred.ofValue, invoke, Sem.run_bind, Sem.run_pure, Result.andThen_ok, List.map_toArray, List.map_cons, List.map_nil, hs, hx, Array.empty_append]
  rw [hr]
  unfold Oper.upon
  simp only
  exact h.mono fun e w' ⟨v, he, hk⟩ => by subst he; exact hK _ _ hk
theorem upon_test {w : World} {o : Oper} {a : Act} {K : Act → World → Prop} {Q : Exit → Act → World → Prop} {f : FuncId} {args : Array Value}
    (hf : ∃ fn c, Try.prog.funcs[f]? = some fn ∧ (fn.name == "runtime.NumGoroutine") = false ∧ fn.body = some c)
    (h : Calls Try.prog f args w fun e w' => ∃ v, e = .returned v ∧ K (a.put o.dst v) w') : Oper.upon Try.prog o a K Q ((callFunc f args).run Try.prog w) := by
  obtain ⟨fn, c, h1, h2, h3⟩ := hf
  rw [MuLone.run_callFunc_enter h1 h2 h3 args w]
  unfold Oper.upon
  simp only
  exact h.mono fun e w' ⟨v, he, hk⟩ => by subst he; exact hk
end Go.Proofs.Ytehbikofoidjhaa
