/-
  Leaving a function that has run several ranges over functions.
-/
import Derived.Test.YtihglmicgccgiaaRangeA
import Derived.Test.YtihglmicgccgiaaBloomF
namespace Go.Proofs.Ytihglmicgccgiaa
open Go.RowKit

/-- the world behind the ranges' blocks for deferred calls -/
def takeN (w : World) : List Nat → World
  | [] => w
  | D :: ds => takeN (w.putObj D (.deferred none)) ds
theorem takeN_keeps : ∀ {ds : List Nat} {w : World}, (∀ D ∈ ds, ∃ o : Obj, w.heap[D]? = some o ∧ o.isCells = false) → ∀ {B : Nat}, (∀ D ∈ ds, B ≤ D) → Below B w (takeN w ds) ∧ ∀ (k : Nat) (o : Obj), w.heap[k]? = some o → o.isCells = true → (takeN w ds).heap[k]? = some o
  | [], w, _, B, _ => ⟨Below.refl _ _, fun _ _ h _ => h⟩
  | D :: ds, w, h, B, hB => by
    obtain ⟨o0, h0, hc0⟩ := h D (List.mem_cons_self ..)
    have hcells : ∀ (k : Nat) (o : Obj), w.heap[k]? = some o → o.isCells = true → (w.putObj D (.deferred none)).heap[k]? = some o := fun k o hk hc => by
      rw [World.putObj_heap_other (fun e => by subst e; rw [h0] at hk; cases hk; rw [hc0] at hc; cases hc)]
      exact hk
    have := takeN_keeps (ds := ds) (w := w.putObj D (.deferred none)) (fun D' hD' => by
      by_cases e : D' = D
      · subst e
        exact ⟨.deferred none, World.putObj_heap_same (Array.getElem?_eq_some_iff.1 h0).1, rfl⟩
      · obtain ⟨o, h1, h2⟩ := h D' (List.mem_cons_of_mem _ hD')
        exact ⟨o, by rw [World.putObj_heap_other e]; exact h1, h2⟩) (fun D' hD' => hB D' (List.mem_cons_of_mem _ hD'))
    exact ⟨(below_put h0 (hB D (List.mem_cons_self ..))).trans this.1, fun k o hk hc => this.2 k o (hcells k o hk hc) hc⟩
theorem takeN_cell {ds : List Nat} {w : World} (hd : ∀ D ∈ ds, ∃ o : Obj, w.heap[D]? = some o ∧ o.isCells = false) {p : Addr} {v : Value} (h : w.cell? p = some v) : (takeN w ds).cell? p = some v := by
  unfold World.cell? at h
  cases ho : w.heap[p.block]? with
  | none => simp [ho] at h
  | some o =>
    cases o with
    | cells arr T fr =>
      have := (takeN_keeps hd (B := 0) (fun _ _ => Nat.zero_le _)).2 _ _ ho rfl
      unfold World.cell?
      rw [this]
      rw [ho] at h
      exact h
    | _ => simp [ho] at h
section
variable {F : Fence} {n : Nat} {P : Program} {fn : Func} {R : Ending → World → Prop}
theorem leavesN {tmps : Array Value} {v : Value} : ∀ {ds : List Nat} {w : World}, ds.Nodup → (∀ D ∈ ds, w.heap[D]? = some (.deferred (some []))) → (results fn tmps).run P (takeN w ds) = .ok v (takeN w ds) → R (.returned v) (takeN w ds) →
    LeavesInM F n P fn tmps R (ds.map fun D => ({ target := .collected D, args := #[] } : Deferred)) .returning w
  | [], w, _, _, hr, h => ⟨v, hr, h⟩
  | D :: ds, w, hn, hk, hr, h => by
    refine ⟨by simp, .inl ⟨_, _, rfl, run_takeDeferred (hk D (List.mem_cons_self ..)), ?_⟩⟩
    have hn2 := List.nodup_cons.1 hn
    exact leavesN hn2.2 (fun D' hD' => by
      have hne : D' ≠ D := fun e => hn2.1 (by rw [← e]; exact hD')
      rw [World.putObj_heap_other hne]
      exact hk D' (List.mem_cons_of_mem _ hD')) hr h
/-- At the end of a body that has run ranges over functions: their blocks, the last one first. -/
theorem postM_retN {a : Act} {w : World} {v : Value} (ds : List Nat) (hd : a.defers = ds.map fun D => ({ target := .collected D, args := #[] } : Deferred)) (hn : ds.Nodup) (hk : ∀ D ∈ ds, w.heap[D]? = some (.deferred (some [])))
    (hr : (results fn a.tmps).run P (takeN w ds) = .ok v (takeN w ds)) (h : R (.returned v) (takeN w ds)) : bodyPostM F n P fn R .ret a w := by
  show LeavesInM F n P fn a.tmps R a.defers .returning w
  rw [hd]; exact leavesN hn hk hr h
end
end Go.Proofs.Ytihglmicgccgiaa

/-
  The walk of bloom.Make.
-/
namespace Go.Proofs.Ytihglmicgccgiaa
open Go.RowKit Go.Shelf

attribute [local go_sem] Oper.semAt_some readsUpon
theorem wpList_makeK {P : Program} (w : World) {ops : Array Oper} {rest : List Oper} {o : Oper} {a : Act} {Q : Exit → Act → World → Prop}
    (hg : o.guard = none) (l c : Operand) (t : TypeId) (hop : o.op = Op.makeSlice t l c) {x y v : Value} {w' : World} (hl : a.eval l = x) (hc : a.eval c = y)
    (hrun : (Instr.makeSlice t x y).run P w = .ok v w') (hK : wpList P ops Q rest (a.put o.dst v) w') : wpList P ops Q (o :: rest) a w := by
  refine wpList_plain hg fun K hK' => ?_
  subst hl
  subst hc
  unfold Oper.wp
  simp [execOp, hop, hrun, Result.andThen]
  exact hK' _ _ hK
/-- a list of strings in memory -/
def ArrS (w : World) (ao : Option Addr) (n cap : Nat) (l : List (List UInt8)) : Prop := Arr w 1 ao n cap (l.map fun b => [sval b])
def orByte (y : UInt8) (r : Nat) : UInt8 := UInt8.ofNat (bits .or .u8 y.toNat (2 ^ r % 256)).toNat
def orAll : Bool := (List.range 256).all fun y => (List.range 8).all fun r =>
  decide (((UInt8.ofNat (bits .or .u8 (y : Int) (2 ^ r % 256)).toNat).toNat : Int) = bits .or .u8 (y : Int) (2 ^ r % 256)) &&
    (!(bits .and .u8 (((UInt8.ofNat (bits .or .u8 (y : Int) (2 ^ r % 256)).toNat).toNat : Int) / 2 ^ r) 1 == 0)) &&
    (List.range 8).all fun q => (bits .and .u8 ((y : Int) / 2 ^ q) 1 == 0) || (!(bits .and .u8 (((UInt8.ofNat (bits .or .u8 (y : Int) (2 ^ r % 256)).toNat).toNat : Int) / 2 ^ q) 1 == 0))
theorem orAll_true : orAll = true := by kernel_rfl
theorem or_facts (y : UInt8) {r : Nat} (hr : r < 8) : ((orByte y r).toNat : Int) = bits .or .u8 y.toNat (2 ^ r % 256) ∧ (!(bits .and .u8 (((orByte y r).toNat : Int) / 2 ^ r) 1 == 0)) = true ∧
    ∀ q, q < 8 → (!(bits .and .u8 ((y.toNat : Int) / 2 ^ q) 1 == 0)) = true → (!(bits .and .u8 (((orByte y r).toNat : Int) / 2 ^ q) 1 == 0)) = true := by
  have h := orAll_true
  unfold orAll at h
  have h1 := List.all_eq_true.1 h y.toNat (List.mem_range.2 y.toNat_lt)
  have h2 := List.all_eq_true.1 h1 r (List.mem_range.2 hr)
  simp only [Bool.and_eq_true, decide_eq_true_eq] at h2
  obtain ⟨⟨h3, h4⟩, h5⟩ := h2
  refine ⟨h3, h4, fun q hq ht => ?_⟩
  have h6 := List.all_eq_true.1 h5 q (List.mem_range.2 hq)
  rw [Bool.or_eq_true] at h6
  rcases h6 with h6 | h6
  · rw [h6] at ht; cases ht
  · exact h6
def setO (o : List UInt8) (x : Int) : List UInt8 := o.set (1 + x.toNat / 8) (orByte ((o[1 + x.toNat / 8]?).getD 0) (x.toNat % 8))
def makeZ (n : Nat) : Nat := max ((10 * n + 7) / 8) 8
def keyO (z : Nat) (o : List UInt8) (key : List UInt8) : List UInt8 := (placesH key 6 (8 * (z : Int))).foldl setO o
/-- the filter over keys -/
def makeF (l : List (List UInt8)) : List UInt8 := l.foldl (keyO (makeZ l.length)) (6 :: List.replicate (makeZ l.length) 0)
theorem setO_len (o : List UInt8) (x : Int) : (setO o x).length = o.length := by simp [setO]
theorem keyO_len (z : Nat) (o key : List UInt8) : (keyO z o key).length = o.length := by
  unfold keyO
  generalize placesH key 6 (8 * (z : Int)) = l
  induction l generalizing o with
  | nil => rfl
  | cons x l ih => rw [List.foldl_cons, ih, setO_len]
/-- what the loop over keys keeps -/
structure MakeI (w : World) (P z : Nat) (o : List UInt8) (ds : List Nat) (V : World) : Prop where
  bel : Below w.heap.size w V
  row : Row V w.heap.size 5 1 (.slice (some ⟨w.heap.size, 0, none⟩) (1 + z) (1 + z)) (1 + z) (o.map bval)
  c0 : V.cell? ⟨P, 0, none⟩ = some (.slice (some ⟨w.heap.size, 0, none⟩) (1 + z) (1 + z))
  nod : ds.Nodup
  all : ∀ D ∈ ds, P < D ∧ V.heap[D]? = some (.deferred (some []))
theorem MakeI.lt {w V : World} {P z : Nat} {o : List UInt8} {ds : List Nat} (h : MakeI w P z o ds V) : w.heap.size < V.heap.size ∧ P < V.heap.size ∧ ∀ D ∈ ds, D < V.heap.size :=
  ⟨(h.row.lt _ rfl).2, World.block_lt_of_cell? _ _ h.c0, fun D hD => (Array.getElem?_eq_some_iff.1 (h.all D hD).2).1⟩
theorem MakeI.own {w V V' : World} {P z M : Nat} {o : List UInt8} {ds : List Nat} {row : Option Nat} (h : MakeI w P z o ds V) (hM : w.heap.size < M ∧ P < M ∧ ∀ D ∈ ds, D < M) (hg : V.grownBy V' row) (hr : ∀ q, row = some q → M ≤ q) : MakeI w P z o ds V' := by
  obtain ⟨l1, l2, l3⟩ := h.lt
  have hk : ∀ k, k < M → k < V.heap.size → V'.heap[k]? = V.heap[k]? := fun k h1 h2 => hg.block k h2 (fun e => by have := hr k e.symm; omega)
  refine ⟨h.bel.grown hg (by omega) fun k e => by have := hr k e; omega, h.row.of_heap fun k e => ?_, (World.cell?_of_block (a := ⟨P, 0, none⟩) (hk P hM.2.1 l2)).trans h.c0, h.nod, fun D hD => ⟨(h.all D hD).1, (hk D (hM.2.2 D hD) (l3 D hD)).trans (h.all D hD).2⟩⟩
  cases e
  exact hk _ hM.1 l1
theorem MakeI.below {w V V' : World} {P z : Nat} {o : List UInt8} {ds : List Nat} (h : MakeI w P z o ds V) (hb : Below V.heap.size V V') : MakeI w P z o ds V' :=
  h.own (M := V.heap.size) h.lt ⟨hb.os, hb.tape, hb.output, hb.size, fun k hk _ => hb.block k hk⟩ (row := none) (fun q e => by cases e)
theorem MakeI.set {w V : World} {P z : Nat} {o : List UInt8} {ds : List Nat} (h : MakeI w P z o ds V) (hP : w.heap.size < P) {j : Nat} (hj : j < 1 + z) (c : UInt8) : MakeI w P z (o.set j c) ds (V.setCell ⟨w.heap.size, j, none⟩ (bval c)) := by
  refine ⟨h.bel.setCell (p := ⟨w.heap.size, j, none⟩) (Nat.le_refl _) _, ?_, (World.cell?_setCell_other _ _ _ _ (by intro e; cases e; omega)).trans h.c0, h.nod, fun D hD => ⟨(h.all D hD).1, (Below.heap_setCell _ _ _ _ (by have := (h.all D hD).1; simp only; omega)).trans (h.all D hD).2⟩⟩
  rw [List.map_set]
  exact Row.store (k := 0) h.row (by omega) _
theorem MakeI.push {w V : World} {P z D : Nat} {o : List UInt8} {ds : List Nat} (h : MakeI w P z o ds V) (hD : ∀ d ∈ ds, d < D) (hP : P < D) (hd : V.heap[D]? = some (.deferred (some []))) : MakeI w P z o (D :: ds) V :=
  ⟨h.bel, h.row, h.c0, List.nodup_cons.2 ⟨fun hm => by have := hD D hm; omega, h.nod⟩, fun d hm => by
    rcases List.mem_cons.1 hm with rfl | hm
    · exact ⟨hP, hd⟩
    · exact h.all d hm⟩
set_option maxRecDepth 100000 in
set_option maxHeartbeats 4000000 in
theorem make_any (ao : Option Addr) (n cap : Nat) (l : List (List UInt8)) (w : World) (h : ArrS w ao n cap l) (hn : n ≤ 32768) (hkl : ∀ b ∈ l, b.length ≤ 1000000) :
    Calls Try.prog 67 #[.slice ao n cap, .int .i64 10] w fun e w' => e = .returned (.tuple #[.string (ofL (makeF l)), .int .i64 0]) ∧ Below w.heap.size w w' := by
  have hll : l.length = n := by have := h.len; simpa using this
  have hF : makeF l = l.foldl (keyO (makeZ n)) (6 :: List.replicate (makeZ n) 0) := by rw [← hll]; rfl
  have HArr := Lib.hid h
  obtain ⟨z, hz⟩ : ∃ z : Nat, (if (10 * (n : Int) + 7) / 8 < 8 then 8 else (10 * (n : Int) + 7) / 8) = z ∧ z = makeZ n := ⟨makeZ n, by unfold makeZ; split <;> omega, rfl⟩
  obtain ⟨hz, hzm⟩ := hz
  rw [← hzm] at hF
  have HF := Lib.hid hF
  have hz1 : 8 ≤ z := by split at hz <;> omega
  have hz2 : z ≤ 41000 := by split at hz <;> omega
  obtain ⟨i8, hi8, iz0, iz1, iz2⟩ := info_parts Try.info_u8
  obtain ⟨w1, hrun, hown, hgr⟩ := run_makeSlice_full (P := Try.prog) w w.heap.size 33 5 i8 _ 1 Try.underlying33 hi8 iz0 iz1 .i64 .i64 (1 + z) (by omega) (by rw [iz2]; omega) (by unfold maxLen; omega) (Nat.le_refl _)
  have hrow : Row w1 w.heap.size 5 1 (.slice (some ⟨w.heap.size, 0, none⟩) (1 + z) (1 + z)) (1 + z) ((List.replicate (1 + z) (0 : UInt8)).map bval) := by
    have e : (madeCells (Value.int .u8 0).cells ((1 + z) * 1)).toList = (List.replicate (1 + z) (0 : UInt8)).map bval := by
      rw [Nat.mul_one]
      show (madeCells #[Value.int .u8 0] (1 + z)).toList = _
      rw [toList_madeCells_one, List.map_replicate]
      rfl
    rw [← e]
    exact Row.of_own hown
  have hb1 : Below w.heap.size w w1 := (Below.refl _ _).grown hgr (Nat.le_refl _) (fun k e => by cases e)
  have hrun2 : (Instr.makeSlice 33 (.int .i64 (1 + (z : Int))) (.int .i64 (1 + (z : Int)))).run Try.prog w = .ok (.slice (some ⟨w.heap.size, 0, none⟩) (1 + z) (1 + z)) w1 := by
    have e : ((1 + z : Nat) : Int) = 1 + (z : Int) := by omega
    rw [e] at hrun
    exact hrun
  have Hz := Lib.hid hz
  have hgl := (hrow.lt _ rfl).2
  have hfr := Row.free hrow (j := 0) (by omega)
  have hcl : w1.cell? ⟨w.heap.size, 0, none⟩ = some (.int .u8 0) := (hrow.cell 0 (by omega)).trans (by simp [List.replicate_succ, Nat.add_comm 1 z, bval])
  have HR := Lib.hid hrow
  have HB := Lib.hid hb1
  clear hrun hown hgr hrow hb1 hF hzm h
  refine callsIn_wide.1 (callsIn_of_wp_marks (F := Fence.wide) (n := 20) Try.func67 rfl trivial ?_ rfl); refine wpIn_wide.2 ?_; simp only [Try.ntmps67, List.size_toArray, List.length_cons, List.length_nil, Nat.reduceAdd, Nat.reduceSub, Array.replicate_succ, Array.replicate_zero, List.push_toArray, List.append_toArray, List.nil_append, List.cons_append]
  go_wp2_with (at_make; refine wpList_makeK _ rfl _ _ _ rfl rfl rfl hrun2 ?_; simp only [Act.put, List.setIfInBounds_toArray, List.set_cons_succ, List.set_cons_zero])
  have HI0 : Hid (MakeI w w1.heap.size z (6 :: List.replicate z 0) [] ((w1.setCell ⟨w.heap.size, 0, none⟩ (.int .u8 6)).alloc (.cells #[.slice (some ⟨w.heap.size, 0, none⟩) (1 + z) (1 + z)] 33))) := Lib.hid (by
    have h := (Row.store (k := 0) HR.out (j := 0) (by omega) (.int .u8 6))
    refine ⟨(HB.out.setCell (p := ⟨w.heap.size, 0, none⟩) (Nat.le_refl _) _).alloc (by have := HB.out.size; simp only [World.size_setCell]; omega) _, ?_, ?_, List.nodup_nil, fun D hD => by cases hD⟩
    · have e : (6 :: List.replicate z 0 : List UInt8).map bval = ((List.replicate (1 + z) (0 : UInt8)).map bval).set 0 (.int .u8 6) := by
        rw [Nat.add_comm 1 z, List.replicate_succ]
        rfl
      rw [e]
      exact Row.alloc h _
    · have := World.cell?_alloc_mark (w1.setCell ⟨w.heap.size, 0, none⟩ (.int .u8 6)) #[Value.slice (some ⟨w.heap.size, 0, none⟩) (1 + z) (1 + z)] 33 (0, 0) 0
      rw [World.size_setCell] at this
      exact this)
  have HP := hgl
  obtain ⟨W0, hW0⟩ : ∃ V : World, V = ((w1.setCell ⟨w.heap.size, 0, none⟩ (.int .u8 6)).alloc (.cells #[.slice (some ⟨w.heap.size, 0, none⟩) (1 + z) (1 + z)] 33)) := ⟨_, rfl⟩
  rw [← hW0] at HI0 ⊢
  clear hW0 HR HB hcl hfr hgl
  refine wp_loop (fun a' V => ∃ (i : Nat) (ds : List Nat) (u10 u45 u46 u47 u48 u49 u50 u51 u52 u65 : Value), (i ≤ n ∧ Hid (MakeI w w1.heap.size z ((l.take i).foldl (keyO z) (6 :: List.replicate z 0)) ds V)) ∧ a' = ⟨((.slice ao n cap) :: (.int .i64 10) :: undef :: undef :: (.string ⟨#[]⟩) :: (.int .i64 0) :: (.int .i64 6) :: (.int .i64 (z : Int)) :: (.pointer (some ⟨w1.heap.size, 0, none⟩)) :: undef :: u10 :: undef :: (.bool false) :: (.int .i64 10) :: (.bool false) :: (.bool false) :: (.int .i64 10) :: (.bool false) :: (.bool false) :: (.bool (decide ((32768:Int) < n))) :: (.slice ao n cap) :: (.int .i64 (n : Int)) :: (.bool (decide ((32768:Int) < n))) :: (.int .i64 10) :: (.int .i64 690) :: (.int .i64 6) :: (.int .i64 6) :: (.int .i64 6) :: (.int .i64 10) :: (.slice ao n cap) :: (.int .i64 (n : Int)) :: (.int .i64 (10 * (n : Int))) :: (.int .i64 (10 * (n : Int) + 7)) :: (.int .i64 ((10 * (n : Int) + 7) / 8)) :: (.int .i64 (z : Int)) :: (.int .i64 (z : Int)) :: (.int .i64 (1 + (z : Int))) :: (.slice (some ⟨w.heap.size, 0, none⟩) (1 + z) (1 + z)) :: (.slice (some ⟨w.heap.size, 0, none⟩) (1 + z) (1 + z)) :: (.int .i64 6) :: (.int .u8 6) :: (.pointer (some ⟨w.heap.size, 0, none⟩)) :: (.slice ao n cap) :: (.int .i64 (n : Int)) :: (.int .i64 (i : Int)) :: u45 :: u46 :: u47 :: u48 :: u49 :: u50 :: u51 :: u52 :: undef :: undef :: undef :: undef :: undef :: undef :: undef :: undef :: undef :: undef :: undef :: undef :: u65 :: undef :: undef :: []).toArray, ds.map fun D => ({ target := .collected D, args := #[] } : Deferred)⟩) (fun a' _ => n - (intOf (a'.tmps.getD 44 undef)).toNat) ⟨0, [], _, _, _, _, _, _, _, _, _, _, ⟨Nat.zero_le _, HI0⟩, rfl⟩ ?_
  rintro a' V ⟨i, ds, u10, u45, u46, u47, u48, u49, u50, u51, u52, u65, ⟨hi, hI⟩, rfl⟩
  clear HI0
  obtain ⟨hl1, hl2, hl3⟩ := hI.out.lt
  have d0 := hI.out.c0
  by_cases hlt : i < n
  · obtain ⟨b, hb⟩ : ∃ b, l[i]? = some b := ⟨_, List.getElem?_eq_getElem (by omega)⟩
    obtain ⟨bk, off, rfl, hbl, hcs⟩ := Arr.at_ HArr.out (i := i) (e := [sval b]) (by rw [List.getElem?_map, hb]; rfl)
    have hs0 : V.cell? ⟨bk, off + i * 1 + 0, none⟩ = some (sval b) := (hI.out.bel.cell (p := ⟨bk, off + i * 1 + 0, none⟩) hbl).trans (hcs 0 _ rfl)
    rw [Nat.mul_one, Nat.add_zero] at hs0
    unfold sval at hs0
    have hbm := hkl b (List.mem_of_getElem? hb)
    have hsz : (ofL b).size ≤ 1000000 := by rw [ofL_size]; exact hbm
    have hso : keyO z ((l.take i).foldl (keyO z) (6 :: List.replicate z 0)) b = (l.take (i + 1)).foldl (keyO z) (6 :: List.replicate z 0) := by
      rw [List.take_add_one, hb]
      simp
    have hol : ((l.take i).foldl (keyO z) (6 :: List.replicate z 0)).length = 1 + z := by
      have := hI.out.row.1
      simpa using this
    obtain ⟨o, ho⟩ : ∃ o, o = (l.take i).foldl (keyO z) (6 :: List.replicate z 0) := ⟨_, rfl⟩
    rw [← ho] at hI hso hol
    have HSO := Lib.hid hso
    obtain ⟨s, hs⟩ : ∃ s, s = ofL b := ⟨_, rfl⟩
    rw [← hs] at hs0 hsz
    have hsl : s.toList = b := by rw [hs, ofL_toList]
    have HSL := Lib.hid hsl
    clear hcs hb hbm ho hso hs hsl
    have HL := Lib.hid hl3
    have hPG : w.heap.size < w1.heap.size := HP
    clear hl3 HP d0
    go_wp2_with fail
    obtain ⟨m, hm⟩ : ∃ m : Int, m = 8 * (z : Int) := ⟨_, rfl⟩
    have hm1 : 0 < m ∧ m ≤ 1099511627776 := by omega
    rw [← hm]
    refine (places_any s 6 m V).mono ?_
    rintro e w2 ⟨rfl, hb2, hz2, k0, k1, k2⟩
    have HI2 := Lib.hid (hI.out.below hb2)
    have hG2 : w.heap.size < w2.heap.size := by omega
    have hP2 : w1.heap.size < w2.heap.size := by omega
    have HD2 : Hid (∀ D ∈ ds, D < w2.heap.size) := Lib.hid fun D hD => by have := HL.out D hD; omega
    have Hm := Lib.hid hm
    clear hm hb2 hI HL hs0
    go_wp2
    refine (wpIn_wide (n := 20)).1 ?_
    refine rangeA (n := 20) (by omega) (gf := 76) (lb := #[.pointer (some ⟨V.heap.size, 0, none⟩), .pointer (some ⟨V.heap.size + 1, 0, none⟩), .pointer (some ⟨V.heap.size + 2, 0, none⟩)]) rfl (enters_of Try.func76 (by kernel_rfl) rfl)
      (F := fun b => b = V.heap.size + 2) (fun k e => by subst e; omega) (places1_stops 19 (by omega) s 6 m _ _ _ w2 k0 k1 k2 (by unfold maxLen; omega) hm1 (by omega)) (fun _ => rfl)
      (fun k W => MakeI w w1.heap.size z (((placesH s.toList 6 m).take k).foldl setO o) ds W) (fun _ _ _ => False) ?hI ?hIx HI2.out ?hround ?done ?stop
    case hI =>
      intro k A B row h hg hr
      exact h.own ⟨by omega, by omega, HD2.out⟩ hg hr
    case hIx => exact fun _ _ _ _ _ h => h.elim
    case stop =>
      rintro D cd k W _ _ h
      exact h.elim
    case hround =>
      rintro lc k x W hl hlW hx hI
      have hxm := placesH_in hm1.1 x (List.mem_of_getElem? hx)
      obtain ⟨d, hd⟩ : ∃ d : Nat, x.tdiv 8 = d := ⟨(x / 8).toNat, by rw [Int.tdiv_eq_ediv_of_nonneg hxm.1]; omega⟩
      obtain ⟨r, hr⟩ : ∃ r : Nat, x.tmod 8 = r := ⟨(x % 8).toNat, by rw [Int.tmod_eq_emod_of_nonneg hxm.1]; omega⟩
      have hd2 : 1 + d < 1 + z := by have := Hm.out; rw [Int.tdiv_eq_ediv_of_nonneg hxm.1] at hd; omega
      have hr8 : r < 8 := by rw [Int.tmod_eq_emod_of_nonneg hxm.1] at hr; omega
      have hnx : ((placesH s.toList 6 m).take (k + 1)).foldl setO o = setO (((placesH s.toList 6 m).take k).foldl setO o) x := by
        rw [List.take_add_one, hx]
        simp
      have hol2 : (((placesH s.toList 6 m).take k).foldl setO o).length = 1 + z := by
        have := hI.row.1
        simpa using this
      obtain ⟨q, hq⟩ : ∃ q, q = ((placesH s.toList 6 m).take k).foldl setO o := ⟨_, rfl⟩
      rw [← hq] at hnx hI hol2
      obtain ⟨y, hy⟩ : ∃ y, q[1 + d]? = some y := ⟨_, List.getElem?_eq_getElem (by omega)⟩
      have hst : setO q x = q.set (1 + d) (orByte y r) := by
        obtain ⟨hx0, hx1⟩ := hxm
        rw [Int.tdiv_eq_ediv_of_nonneg hx0] at hd
        rw [Int.tmod_eq_emod_of_nonneg hx0] at hr
        unfold setO
        rw [show x.toNat / 8 = d by omega, show x.toNat % 8 = r by omega, hy]
        rfl
      rw [hst] at hnx
      have HNX := Lib.hid hnx
      obtain ⟨hx0, hx1⟩ := hxm
      have hy256 := y.toNat_lt
      clear hx hq hnx hst
      gi_wp2
      refine ⟨KpC.refl _ _ _, fun W2 hg2 hz2 => ?_⟩
      have hI2 := hI.own ⟨hG2, hP2, HD2.out⟩ hg2 (fun r e => by cases e; rw [hl]; omega)
      have y0 := hI2.c0
      have y1 : W2.cell? ⟨w.heap.size, 1 + d, none⟩ = some (.int .u8 y.toNat) := (Row.cell hI2.row (1 + d) (by omega)).trans (by rw [List.getElem?_map, hy]; rfl)
      have y2 : W2.frozen? ⟨w.heap.size, 1 + d, none⟩ = false := Row.free hI2.row (by omega)
      have HI := Lib.hid hI2
      have HK : Hid (KpC (fun b => b = V.heap.size + 2) (w2.heap.size + 2) W W2) := Lib.hid ⟨hg2.size, fun k hk hlt => hg2.block k hlt (fun e => by have := Option.some.inj e; omega)⟩
      clear hI hI2 hg2 hy
      have hdz : d < z := by omega
      have hd0 : (0 : Int) ≤ 1 + (d : Int) := by omega
      have hdt : (1 + (d : Int)).toNat = 1 + d := by omega
      have hwa : IntKind.i64.wrap (d : Int) = d := by rw [IntKind.wrap_i64]; omega
      have hwb : IntKind.i64.wrap (1 + (d : Int)) = 1 + (d : Int) := by rw [IntKind.wrap_i64]; omega
      have hwc : IntKind.i64.wrap (r : Int) = r := by rw [IntKind.wrap_i64]; omega
      have hmx : Try.prog.follows .mixedOrders = true := by kernel_rfl
      gi_wp2_with fail
      refine wpIn_region_reads_tail 68 11 (fun _ => trivial) hmx (by kernel_rfl) (by kernel_rfl) (by kernel_rfl) (by kernel_rfl) (by decide) rfl ?_
      simp only [List.take_succ_cons, List.take_zero, List.drop_succ_cons, List.drop_zero]
      repeat (refine wpReads_step (fun K hK => ?_); go_simp; refine hK _ ?_; clear hK K)
      refine wpReads_nil ?_
      have hob := (or_facts y hr8).1
      have HO := Lib.hid hob
      clear hob
      gi_wp2_with fail
      have hk1 : KpC (fun b => b = V.heap.size + 2) w2.heap.size W2 ((W2.setCell ⟨w.heap.size, 1 + d, none⟩ (.int .u8 (bits .or .u8 y.toNat (2 ^ r % 256)))).drew) := ⟨by simp [World.setCell], fun k hk hlt => Below.heap_setCell _ _ _ _ (by simp only; omega)⟩
      refine ⟨⟨hk1, HK.out.trans (hk1.later (by omega))⟩, ?_⟩
      show MakeI w w1.heap.size z (List.foldl setO o (List.take (k + 1) (placesH s.toList 6 m))) ds _
      rw [HNX.out, ← HO.out]
      exact (HI.out.set hPG (by omega) (orByte y r)).below (Below.refl _ _).drew
    case done =>
      rintro D W hD hI hd
      rw [List.take_of_length_le (Nat.le_refl _)] at hI
      have hI2 : MakeI w w1.heap.size z ((l.take (i + 1)).foldl (keyO z) (6 :: List.replicate z 0)) (D :: ds) W := by
        rw [← HSO.out]
        have := hI.push (D := D) (fun d hd => by have := HD2.out d hd; omega) (by omega) hd
        rw [HSL.out, Hm.out] at this
        exact this
      have HN := Lib.hid hI2
      clear hI hI2
      go_wp2_with fail
      refine ⟨⟨i + 1, D :: ds, _, _, _, _, _, _, _, _, _, _, ⟨by omega, HN⟩, rfl⟩, ?_⟩
      simp [intOf]
      omega
  · obtain rfl : i = n := by omega
    have hcv := convert_back (P := Try.prog) V 33 9 5 w.heap.size _ ((l.take i).foldl (keyO z) (6 :: List.replicate z 0)) Try.underlying33 Try.underlying5 Try.underlying9 (by
      have h := hI.out.row
      have e : ((l.take i).foldl (keyO z) (6 :: List.replicate z 0)).length = 1 + z := by have := h.1; simpa using this
      rw [e]
      exact h)
    rw [List.take_of_length_le (Nat.le_of_eq hll), ← HF.out] at hcv
    change _ = Result.ok (Value.string (ofL (makeF l))) V at hcv
    obtain ⟨R, hR⟩ : ∃ R, R = ofL (makeF l) := ⟨_, rfl⟩
    rw [← hR] at hcv
    have HR := Lib.hid hR
    clear hR hl3
    go_wp2_with fail
    exact postM_retN (v := .tuple #[.string R, .int .i64 0]) ds rfl hI.out.nod (fun D hD => (hI.out.all D hD).2) (by simp [results, Try.results67, go_sem]) ⟨by rw [HR.out], hI.out.bel.trans (takeN_keeps (fun D hD => ⟨_, (hI.out.all D hD).2, rfl⟩) (fun D hD => by have := (hI.out.all D hD).1; omega)).1⟩
/-- a filter that was made may be one, and tells each of its keys -/
theorem makeF_len (l : List (List UInt8)) : (makeF l).length = 1 + makeZ l.length := by
  unfold makeF
  generalize makeZ l.length = z
  have : ∀ (ks : List (List UInt8)) (o : List UInt8), (ks.foldl (keyO z) o).length = o.length := by
    intro ks
    induction ks with
    | nil => intro o; rfl
    | cons k ks ih => intro o; rw [List.foldl_cons, ih, keyO_len]
  rw [this]
  simp [Nat.add_comm]
theorem setO_head (o : List UInt8) (x : Int) : (setO o x)[0]? = o[0]? := by
  unfold setO
  rw [List.getElem?_set_ne (by omega)]
theorem keyO_head (z : Nat) (o key : List UInt8) : (keyO z o key)[0]? = o[0]? := by
  unfold keyO
  generalize placesH key 6 (8 * (z : Int)) = l
  induction l generalizing o with
  | nil => rfl
  | cons x l ih => rw [List.foldl_cons, ih, setO_head]
theorem makeF_head (l : List (List UInt8)) : (makeF l)[0]? = some 6 := by
  unfold makeF
  generalize makeZ l.length = z
  have : ∀ (ks : List (List UInt8)) (o : List UInt8), (ks.foldl (keyO z) o)[0]? = o[0]? := by
    intro ks
    induction ks with
    | nil => intro o; rfl
    | cons k ks ih => intro o; rw [List.foldl_cons, ih, keyO_head]
  rw [this]
  rfl
theorem setO_keeps (o : List UInt8) (x y : Int) (h : bitS o y = true) (hx : 1 + x.toNat / 8 < o.length) : bitS (setO o x) y = true := by
  unfold bitS setO at *
  by_cases e : x.toNat / 8 = y.toNat / 8
  · rw [e] at hx ⊢
    rw [List.getElem?_set_self hx, List.getElem?_eq_getElem hx] at *
    simp only [Option.getD_some] at h ⊢
    exact (or_facts _ (Nat.mod_lt _ (by decide))).2.2 _ (Nat.mod_lt _ (by decide)) h
  · rw [List.getElem?_set_ne (by omega)]
    exact h
theorem setO_sets (o : List UInt8) (x : Int) (hx : 1 + x.toNat / 8 < o.length) : bitS (setO o x) x = true := by
  unfold bitS setO
  rw [List.getElem?_set_self hx]
  exact (or_facts _ (Nat.mod_lt _ (by decide))).2.1
theorem foldO_keeps (z : Nat) : ∀ (l : List Int) (o : List UInt8) (y : Int), (∀ x ∈ l, 0 ≤ x ∧ x < 8 * (z : Int)) → o.length = 1 + z → bitS o y = true → bitS (l.foldl setO o) y = true
  | [], _, _, _, _, h => h
  | x :: l, o, y, hl, ho, h => by
    obtain ⟨h0, h1⟩ := hl x (List.mem_cons_self ..)
    exact foldO_keeps z l _ y (fun x hx => hl x (List.mem_cons_of_mem _ hx)) (by rw [setO_len]; exact ho) (setO_keeps _ _ _ h (by omega))
theorem foldO_sets (z : Nat) : ∀ (l : List Int) (o : List UInt8), (∀ x ∈ l, 0 ≤ x ∧ x < 8 * (z : Int)) → o.length = 1 + z → ∀ y ∈ l, bitS (l.foldl setO o) y = true
  | x :: l, o, hl, ho, y, hy => by
    obtain ⟨h0, h1⟩ := hl x (List.mem_cons_self ..)
    rcases List.mem_cons.1 hy with rfl | hy
    · exact foldO_keeps z l _ y (fun x hx => hl x (List.mem_cons_of_mem _ hx)) (by rw [setO_len]; exact ho) (setO_sets _ _ (by omega))
    · exact foldO_sets z l _ (fun x hx => hl x (List.mem_cons_of_mem _ hx)) (by rw [setO_len]; exact ho) y hy
theorem keysO_has {z : Nat} (hz : 0 < z) : ∀ (ks : List (List UInt8)) (o : List UInt8), o.length = 1 + z → (∀ key, (∀ y ∈ placesH key 6 (8 * (z : Int)), bitS o y = true) → ∀ y ∈ placesH key 6 (8 * (z : Int)), bitS (ks.foldl (keyO z) o) y = true) ∧ ∀ key ∈ ks, ∀ y ∈ placesH key 6 (8 * (z : Int)), bitS (ks.foldl (keyO z) o) y = true
  | [], o, ho => ⟨fun key h => h, fun key h => by cases h⟩
  | k :: ks, o, ho => by
    have hp := fun key => placesH_in (l := key) (k := 6) (m := 8 * (z : Int)) (by omega)
    have ih := keysO_has hz ks (keyO z o k) (by rw [keyO_len]; exact ho)
    refine ⟨fun key h => ih.1 key fun y hy => foldO_keeps z _ _ y (hp k) ho (h y hy), fun key hk => ?_⟩
    rcases List.mem_cons.1 hk with rfl | hk
    · exact ih.1 key fun y hy => foldO_sets z _ _ (hp key) ho y hy
    · exact ih.2 key hk
theorem makeF_ok (l : List (List UInt8)) (hn : l.length ≤ 32768) : okF (makeF l) = true := by
  unfold okF
  rw [makeF_len, makeF_head]
  have : makeZ l.length ≤ 41000 := by unfold makeZ; omega
  have : 8 ≤ makeZ l.length := by unfold makeZ; omega
  simp only [Option.getD_some, Bool.and_eq_true, decide_eq_true_eq]
  exact ⟨⟨⟨by omega, by omega⟩, by decide⟩, by decide⟩
theorem makeF_has (l : List (List UInt8)) (key : List UInt8) (hk : key ∈ l) : hasS (makeF l) key = true := by
  unfold hasS
  rw [makeF_len, makeF_head]
  have hz : 0 < makeZ l.length := by unfold makeZ; omega
  have e : 8 * (((1 + makeZ l.length : Nat) : Int) - 1) = 8 * (makeZ l.length : Int) := by omega
  rw [e]
  refine List.all_eq_true.2 fun y hy => ?_
  have := (keysO_has hz l (6 :: List.replicate (makeZ l.length) 0) (by simp [Nat.add_comm])).2 key hk y hy
  exact this
end Go.Proofs.Ytihglmicgccgiaa
