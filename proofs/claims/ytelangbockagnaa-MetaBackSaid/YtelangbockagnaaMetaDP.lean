/-
  Places read: plain forms, and what a round of the loop keeps.
-/
import Derived.Test.YtelangbockagnaaMetaQ
namespace Go.Proofs.Ytelangbockagnaa
open Go.RowKit

theorem left_set {w : World} {b : Nat} {l : List UInt8} {p : Addr} {v : Value} (h : Left w b l) (hne : p.block ≠ b) : Left (w.setCell p v) b l := by
  obtain ⟨pb, po, pm⟩ := p
  refine ⟨?_, by rw [World.frozen?_setCell]; exact h.fro⟩
  rw [World.cell?_of_block (Below.heap_setCell _ _ _ _ (fun e => hne e.symm))]
  exact h.cell
theorem left_alloc {w : World} {b : Nat} {l : List UInt8} (h : Left w b l) (o : Obj) : Left (w.alloc o) b l := by
  have hl : b < w.heap.size := World.block_lt_of_cell? _ _ h.cell
  have hb := ((Below.refl w.heap.size w).alloc (Nat.le_refl _) o)
  exact ⟨(hb.cell (p := ⟨b, 0, none⟩) hl).trans h.cell, (hb.frozen (p := ⟨b, 0, none⟩) hl).trans h.fro⟩

theorem numc_z (zi zm : Int) (i most : Nat) (hzi : zi = i) (hzm : zm = most) (rb pr pw : Nat) (l : List UInt8) (w : World) (hi : i < 5) (hl : l.length ≤ maxLen) (h : Left w rb l) (hr : w.cell? ⟨pr, 0, none⟩ = some (.pointer (some ⟨rb, 0, none⟩))) (q : Bool) (hw : w.cell? ⟨pw, i, none⟩ = some (.bool q)) (hf : w.frozen? ⟨pw, i, none⟩ = false) (h1 : pr ≠ rb) (h2 : pw ≠ rb) :
    Calls Try.prog 21 #[.int .i64 zi, .int .u64 zm, .pointer (some ⟨pr, 0, none⟩), .pointer (some ⟨pw, 0, none⟩)] w
      fun e w' => e = .returned (.int .u64 (if mayN l most then (numR l).1 else 0 : Nat)) ∧ ∃ w1, Took rb (numR l).2.2 w w1 ∧ w' = w1.setCell ⟨pw, i, none⟩ (.bool (mayN l most)) := by
  subst hzi hzm
  exact numc_any i most rb pr pw l w hi hl h hr q hw hf h1 h2

theorem numR_rest' (l : List UInt8) : (numR l).2.2.length ≤ l.length := by
  unfold numR; cases takeL l <;> simp
theorem textR_rest' (m : Int) (l : List UInt8) : (textR m l).2.2.length ≤ l.length := by
  unfold textR; cases textL l m <;> simp

/-- nodes, one behind the other -/
def nodesR : Nat → List UInt8 → Option (List Int × List UInt8)
  | 0, l => some ([], l)
  | n + 1, l => if (numR l).2.1 = true ∧ (numR l).1 < 5 then (nodesR n (numR l).2.2).map fun r => (((numR l).1 : Int) :: r.1, r.2) else none
structure MParse where
  g : Nat
  wa : Bool
  lo : List UInt8
  wb : Bool
  hi : List UInt8
  wc : Bool
  ep : Nat
  wd : Bool
  n : Nat
  we : Bool
  rest : List UInt8
def metaR (l : List UInt8) : MParse :=
  let a := numR l
  let b := textR 24 a.2.2
  let c := textR 24 b.2.2
  let d := numR c.2.2
  let e := numR d.2.2
  ⟨if mayN l 12 then a.1 else 0, mayN l 12, b.1, b.2.1, c.1, c.2.1, if mayN c.2.2 1099511627776 then d.1 else 0, mayN c.2.2 1099511627776, if mayN d.2.2 5 then e.1 else 0, mayN d.2.2 5, e.2.2⟩

theorem Try.info_int : (Try.prog.info? 3).map (fun i => (i.zero, i.size, i.bytes)) = some (some (.int .i64 0), 1, 8) := by kernel_rfl
def decM (l : List UInt8) : Option LocA :=
  match nodesR (metaR l).n (metaR l).rest with
  | some (nd, r) => if ((metaR l).wa && (metaR l).wb && (metaR l).wc && (metaR l).wd && (metaR l).we && r.isEmpty && okL ⟨(metaR l).g, ofL (metaR l).lo, ofL (metaR l).hi, (metaR l).ep, nd⟩) = true then some ⟨(metaR l).g, ofL (metaR l).lo, ofL (metaR l).hi, (metaR l).ep, nd⟩ else none
  | none => none
def zeroLoc : Value := .agg #[.int .i64 0, .string ⟨#[]⟩, .string ⟨#[]⟩, .int .u64 0, .slice none 0 0]
theorem ints_new (w : World) (T : TypeId) (x : Int) : Arr (w.alloc (.cells #[.int .i64 x] T)) 1 (some ⟨w.heap.size, 0, none⟩) 1 1 ([x].map intE) := by
  refine ⟨intE_elems _, rfl, Nat.le_refl _, by unfold maxLen; omega, fun _ => ⟨w.heap.size, 0, rfl, by rw [World.size_alloc]; omega, fun i e he j u hu => ?_⟩⟩
  have hi : i = 0 := by
    have := (List.getElem?_eq_some_iff.1 he).1
    simp at this; exact this
  subst hi
  simp only [List.map_cons, List.map_nil, List.getElem?_cons_zero, Option.some.injEq] at he
  subst he
  have hj : j = 0 := by
    have := (List.getElem?_eq_some_iff.1 hu).1
    simp [intE] at this; exact this
  subst hj
  simp only [intE, List.getElem?_cons_zero, Option.some.injEq] at hu
  subst hu
  simp [World.cell?_alloc_new]
structure MRel (w W0 : World) (bl nn : Nat) (l5 : List UInt8) (k : Nat) (acc : List Int) (rest : List UInt8) (v : Value) (wr : World) : Prop where
  all : nodesR nn l5 = (nodesR (nn - k) rest).map fun r => (acc ++ r.1, r.2)
  len : acc.length = k
  le : rest.length ≤ 1000
  left : Left wr (w.heap.size + 1) rest
  row : Row wr (bl + 1) 3 1 v k (acc.map intE).flatten
  nodes : wr.cell? ⟨bl, 4, none⟩ = some v
  keep : ∀ b, b = w.heap.size ∨ b = w.heap.size + 1 + 1 ∨ b = w.heap.size + 1 + 1 + 1 → wr.heap[b]? = W0.heap[b]?
  lo : ∀ o, o < 4 → wr.cell? ⟨bl, o, none⟩ = W0.cell? ⟨bl, o, none⟩
  fro : ∀ o, wr.frozen? ⟨bl, o, none⟩ = W0.frozen? ⟨bl, o, none⟩
  size : W0.heap.size ≤ wr.heap.size
  bel : Below w.heap.size w wr
theorem row_took {w w' : World} {B b : Nat} {T : TypeId} {n : Nat} {v : Value} {xs : List Value} {l : List UInt8} (h : Row w B T 1 v n xs) (hT : Took b l w w') (hb : b < B) : Row w' B T 1 v n xs :=
  Row.of_heap h fun k hk => hT.gb.block k (Row.lt h k hk).2 (fun e => by have := (Row.lt h k hk).1; cases e; omega)

theorem row_set {w : World} {B : Nat} {T : TypeId} {n : Nat} {v : Value} {xs : List Value} (h : Row w B T 1 v n xs) {p : Addr} (hp : p.block < B) (u : Value) : Row (w.setCell p u) B T 1 v n xs :=
  Row.of_heap h fun k hk => Below.heap_setCell _ _ _ _ (fun e => by have := (Row.lt h k hk).1; omega)
theorem row_pos {w : World} {B : Nat} {T : TypeId} {n : Nat} {v : Value} {xs : List Value} (h : Row w B T 1 v n xs) (hn : 0 < n) : ∃ g cap, v = .slice (some ⟨g, 0, none⟩) n cap := by
  rcases h.form with ⟨_, h0⟩ | ⟨g, cap, e, _⟩
  · omega
  · exact ⟨g, cap, e⟩
theorem ints_of_row {w : World} {B k cap : Nat} {T : TypeId} {ao : Option Addr} {acc : List Int} (h : Row w B T 1 (.slice ao k cap) k (acc.map intE).flatten) (hl : acc.length = k) : Ints w ao k cap acc := by
  subst hl
  obtain ⟨ao', cap', e, hc⟩ := Row.arr (es := acc.map intE) (by decide) (by rw [List.length_map]; exact h) (intE_elems acc)
  rw [List.length_map] at e hc
  cases e
  exact hc
theorem left_upto {w w' : World} {b B : Nat} {l : List UInt8} (h : Left w b l) (hb : Below B w w') (hl : b < B) : Left w' b l :=
  ⟨(hb.cell (p := ⟨b, 0, none⟩) hl).trans h.cell, (hb.frozen (p := ⟨b, 0, none⟩) hl).trans h.fro⟩
theorem mrel_next {w W0 : World} {bl nn : Nat} {l5 : List UInt8} {k : Nat} {acc : List Int} {rest r6 : List UInt8} {v v7 u : Value} {wr w6 w7 : World} {o : Obj} {x : Int} (h : MRel w W0 bl nn l5 k acc rest v wr) (hbl : w.heap.size + 1 + 1 + 1 < bl) (hlt : bl < wr.heap.size)
    (hT : Took (w.heap.size + 1) r6 wr w6) (hb7 : Below (bl + 1) (w6.alloc o) w7) (hr7 : Row w7 (bl + 1) 3 1 v7 (k + 1) ((acc.map intE).flatten ++ ([x].map intE).flatten))
    (hall : nodesR nn l5 = (nodesR (nn - (k + 1)) r6).map fun r => ((acc ++ [x]) ++ r.1, r.2)) (hle : r6.length ≤ 1000) (hu : w7.cell? ⟨bl, 4, none⟩ = some u) : MRel w W0 bl nn l5 (k + 1) (acc ++ [x]) r6 v7 (w7.setCell ⟨bl, 4, none⟩ v7) := by
  have hs6 := hT.gb.size
  have hs7 := hb7.size
  rw [World.size_alloc] at hs7
  have key : ∀ b, b < bl + 1 → b ≠ w.heap.size + 1 → w7.heap[b]? = wr.heap[b]? := fun b hb hne => by
    rw [hb7.block b hb, show (w6.alloc o).heap[b]? = w6.heap[b]? from ((Below.refl w6.heap.size w6).alloc (Nat.le_refl _) o).block b (by omega)]
    exact hT.gb.block b (by omega) (fun e => hne (Option.some.inj e))
  refine ⟨hall, by rw [List.length_append, h.len]; rfl, hle, left_set (left_upto (left_alloc hT.left o) hb7 (by omega)) (by simp only; omega), ?_, ?_, fun b hb => ?_, fun j hj => ?_, fun j => ?_, ?_, ?_⟩
  · have : ((acc ++ [x]).map intE).flatten = (acc.map intE).flatten ++ ([x].map intE).flatten := by simp
    rw [this]
    exact row_set hr7 (by simp only; omega) _
  · exact World.cell?_setCell_same _ _ _ hu
  · rw [Below.heap_setCell _ _ _ _ (fun e => by simp only at e; rcases hb with hb | hb | hb <;> omega), key b (by rcases hb with hb | hb | hb <;> omega) (by rcases hb with hb | hb | hb <;> omega)]
    exact h.keep b hb
  · rw [World.cell?_setCell_other _ _ _ _ (fun e => by cases e; omega), World.cell?_of_block (a := ⟨bl, j, none⟩) (key bl (by omega) (by omega))]
    exact h.lo j hj
  · rw [World.frozen?_setCell, World.frozen?_of_block (a := ⟨bl, j, none⟩) (key bl (by omega) (by omega))]
    exact h.fro j
  · have := h.size
    simp only [World.size_setCell]; omega
  · have h1 : Below w.heap.size w w6 := h.bel.grown hT.gb h.bel.size (fun k e => by cases e; omega)
    have h2 : Below w.heap.size w w7 := (h1.alloc h1.size o).trans (hb7.mono (by omega))
    exact h2.setCell (by simp only; omega) _

end Go.Proofs.Ytelangbockagnaa
