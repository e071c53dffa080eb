/-
  Skip lists: the walk of acreagelaw08.list.
-/
import Derived.Test.YtlnfdejflpgleaaSkipAllW
namespace Go.Proofs.Ytlnfdejflpgleaa
open Go.RowKit Go.Shelf

attribute [local go_sem] Oper.semAt_some
/-- the blocks that the loop of list leaves as they are: all cells but its own row's and the row's box -/
structure SafeL (bx : Nat) (g : Nat) (W : World) : Prop where
  cells : ∃ arr T fr, W.heap[g]? = some (.cells arr T fr)
  ne : g ≠ bx
  lt : bx < W.heap.size
  row : ∀ v, W.cell? ⟨bx, 0, none⟩ = some v → v.ownBlock ≠ some g
theorem safeL {bx : Nat} {w1 : World} (hbx : bx < w1.heap.size) (h0 : w1.cell? ⟨bx, 0, none⟩ = some (.slice none 0 0)) : Safe w1 (SafeL bx) := by
  refine ⟨fun g W h => h.cells, fun g W W' h1 h2 h3 _ ⟨arr, T, fr, h5, _⟩ => ?_, fun g W W' row hs hg hr => ?_⟩
  · have hz1 := h1.size
    have hz2 := h2.size
    refine ⟨⟨arr, T, fr, h5⟩, by omega, by omega, fun v hv => ?_⟩
    rw [h2.cell (p := ⟨bx, 0, none⟩) (by simp only; omega), h1.cell (p := ⟨bx, 0, none⟩) hbx, h0] at hv
    cases hv
    intro e; cases e
  · obtain ⟨arr, T, fr, e⟩ := hs.cells
    have hgr : row ≠ some g := fun h => by
      obtain ⟨_, o, h2, h3⟩ := hr g h
      rw [e] at h2; cases h2; cases h3
    have hz := hg.size
    refine ⟨⟨arr, T, fr, (hg.block g (Array.getElem?_eq_some_iff.1 e).1 (Ne.symm hgr)).trans e⟩, hs.ne, by have := hs.lt; omega, fun v hv => hs.row v ?_⟩
    rw [World.cell?_of_block (a := ⟨bx, 0, none⟩) (hg.block bx hs.lt (fun h => by have := (hr bx h.symm).1; omega))] at hv
    exact hv
/-- between two rounds -/
structure ListI (bx : Nat) (w w1 : World) (acc : List CellA) (V : World) : Prop where
  ex : ∃ v, V.cell? ⟨bx, 0, none⟩ = some v ∧ Own V w1.heap.size v acc
  fro : V.frozen? ⟨bx, 0, none⟩ = false
  bel : Below w.heap.size w V
  size : w1.heap.size ≤ V.heap.size
theorem own_kept {W W' : World} {B : Nat} {v : Value} {acc : List CellA} {row : Option Nat} (h : Own W B v acc) (hg : W.grownBy W' row) (hr : ∀ r, row = some r → ∃ o : Obj, W.heap[r]? = some o ∧ o.isCells = false) : Own W' B v acc := by
  refine Row.of_heap h (fun k hk => hg.block k (Row.lt h k hk).2 (fun e => ?_))
  obtain ⟨o, h1, h2⟩ := hr k e.symm
  rcases h.2 with ⟨h3, _⟩ | ⟨g, cp, cur, fr, e3, _, h4, _⟩
  · subst h3; cases hk
  · subst e3
    cases hk
    rw [h4] at h1; cases h1; cases h2
theorem listI_own {bx : Nat} {w w1 : World} (hbx : bx = w.heap.size) (h1 : bx < w1.heap.size) {α : Type} (f : List α → List CellA) : OwnFrom w1.heap.size (fun (pre : List α) V => ListI bx w w1 (f pre) V) := by
  rintro s A B row ⟨⟨v, h1, h2⟩, h3, h4, h5⟩ hg hr
  exact ⟨⟨v, cell_kept h1 hg (fun r e => (hr r e).2), own_kept h2 hg (fun r e => (hr r e).2)⟩, (frozen_kept h1 hg (fun r e => (hr r e).2)).trans h3, h4.grown hg h4.size (fun k e => by have := (hr k e).1; omega), Nat.le_trans h5 hg.size⟩
/-- a round appends -/
theorem listI_step {bx : Nat} {w w1 V w7 : World} (hbx : bx = w.heap.size) (hb1 : bx < w1.heap.size) {acc acc' : List CellA} {x : CellA} {o : Obj} {v v7 : Value} (h : ListI bx w w1 acc V) (hv : V.cell? ⟨bx, 0, none⟩ = some v) (e : acc' = acc ++ [x]) (hO : Own V w1.heap.size v acc)
    (hr : Row w7 w1.heap.size 26 5 v7 (acc.length + 1) ((acc.map cellE).flatten ++ ([x].map cellE).flatten)) (hg : (V.alloc o).grownBy w7 v.ownBlock) (ho : v7.ownBlock = v.ownBlock ∨ v7.ownBlock = some (V.alloc o).heap.size) (B : Nat) :
    (KeepsFrom w1.heap.size V (w7.setCell ⟨bx, 0, none⟩ v7) ∧ KpS (SafeL bx) B V (w7.setCell ⟨bx, 0, none⟩ v7)) ∧ ListI bx w w1 acc' (w7.setCell ⟨bx, 0, none⟩ v7) ∧ w7.cell? ⟨bx, 0, none⟩ = some v ∧ w7.frozen? ⟨bx, 0, none⟩ = false ∧ ∃ ao' cap', v7 = .slice ao' (acc.length + 1) cap' := by
  have hz := h.size
  have hz7 := hg.size
  rw [World.size_alloc] at hz7
  have hlt := Row.lt hO
  have blk : ∀ k, k < V.heap.size → v.ownBlock ≠ some k → k ≠ bx → (w7.setCell ⟨bx, 0, none⟩ v7).heap[k]? = V.heap[k]? := fun k h1 h2 h3 => by
    rw [Below.heap_setCell _ _ _ _ h3, hg.block k (by rw [World.size_alloc]; omega) (Ne.symm h2)]
    exact Below.heap_alloc _ _ _ h1
  have c7 : w7.cell? ⟨bx, 0, none⟩ = some v := by
    have : w7.heap[bx]? = V.heap[bx]? := by
      rw [hg.block bx (by rw [World.size_alloc]; omega) (fun e => by have := (hlt bx e.symm).1; omega)]
      exact Below.heap_alloc _ _ _ (by omega)
    exact (World.cell?_of_block (a := ⟨bx, 0, none⟩) this).trans hv
  have f7 : w7.frozen? ⟨bx, 0, none⟩ = false := by
    have : w7.heap[bx]? = V.heap[bx]? := by
      rw [hg.block bx (by rw [World.size_alloc]; omega) (fun e => by have := (hlt bx e.symm).1; omega)]
      exact Below.heap_alloc _ _ _ (by omega)
    exact (World.frozen?_of_block (a := ⟨bx, 0, none⟩) this).trans h.fro
  have keeps : ∀ B, KeepsFrom B V (w7.setCell ⟨bx, 0, none⟩ v7) := fun B => ⟨by rw [World.size_setCell]; omega, fun k ob _ h1 h2 => by
    have hk := (Array.getElem?_eq_some_iff.1 h1).1
    refine (blk k hk (fun e => ?_) (fun e => ?_)).trans h1
    · rcases hO.2 with ⟨h3, _⟩ | ⟨g, cp, cur, fr, e3, _, h4, _⟩
      · subst h3; cases e
      · subst e3; cases e
        rw [h4] at h1; cases h1; cases h2
    · subst e
      unfold World.cell? at hv
      simp only [h1] at hv
      cases ob <;> first | (cases h2; done) | (simp at hv; done) | (cases hv; done)⟩
  have hown := own_push e hr
  refine ⟨⟨keeps _, ⟨by rw [World.size_setCell]; omega, fun g hs => ?_, keeps _⟩⟩, ⟨⟨v7, World.cell?_setCell_same _ _ _ c7, Row.setCell hown (fun k hk => ?_) _⟩, by rw [World.frozen?_setCell]; exact f7, ?_, by rw [World.size_setCell]; omega⟩, c7, f7, let ⟨ao', cap', h1, _⟩ := Own.cells hown; ⟨ao', cap', by rw [h1, e, List.length_append]; rfl⟩⟩
  · obtain ⟨arr, T, fr, e1⟩ := hs.cells
    have hgl := (Array.getElem?_eq_some_iff.1 e1).1
    have hb := blk g hgl (hs.row v hv) hs.ne
    refine ⟨hb, ⟨arr, T, fr, hb.trans e1⟩, hs.ne, by rw [World.size_setCell]; omega, fun u hu => ?_⟩
    rw [World.cell?_setCell_same _ _ _ c7] at hu
    cases hu
    rcases ho with ho | ho
    · rw [ho]; exact hs.row v hv
    · rw [ho, World.size_alloc]; intro e; have := Option.some.inj e; omega
  · have := (Row.lt hown k hk).1
    simp only; omega
  · have h1 := (h.bel.alloc h.bel.size o).trans ((Below.refl w.heap.size (V.alloc o)).grown hg (by rw [World.size_alloc]; have := h.bel.size; omega) (fun k e => by have := (hlt k e).1; omega))
    exact h1.setCell (by simp only; omega) _

/-- append to a row, in a fence -/
theorem wpListIn_append_at {F : Fence} {m0 : Nat} {P : Program} (w : World) {ops : Array Oper} {rest : List Oper} {o : Oper} {a : Act} {Q : Exit → Act → World → Prop} (hgd : o.guard = none) (s x : Operand) (t : TypeId)
    (ho : o.op = .call { callee := .builtin .append, args := #[s, x], argTypes := #[t, t] })
    (B : Nat) (e : TypeId) (i : TypeInfo) (z : Value) (size bytes : Nat) (ht : P.underlying t = some (.slice e)) (hi : P.info? e = some i) (hz : i.zero = some z)
    (hsize : i.size = size) (hby : i.bytes = bytes) (hzs : z.cells.size = size) (hsz : 0 < size)
    (v : Value) (n : Nat) (xs : List Value) (hs : a.eval s = v) (hown : Row w B e size v n xs)
    {ao : Option Addr} {m c : Nat} (hx : a.eval x = .slice ao m c) {fs : List (List Value)} (hsrc : Arr w size ao m c fs)
    (hbytes : (n + m) * bytes ≤ 140737488355328) (h63 : n + m ≤ maxLen) (hbase : B ≤ w.heap.size)
    (h : ∀ v' w', Row w' B e size v' (n + m) (xs ++ fs.flatten) → w.grownBy w' v.ownBlock → (v'.ownBlock = v.ownBlock ∨ v'.ownBlock = some w.heap.size) → wpListIn F m0 P ops Q rest (a.put o.dst v') w') : wpListIn F m0 P ops Q (o :: rest) a w := by
  refine wpListIn_plain hgd fun K hK => ?_
  obtain ⟨v', w', hr, h2, h3, h4⟩ := run_append_arr_at (P := P) w B t o.type e i z size bytes ht hi hz hsize hby hzs hsz v n xs hown hsrc hbytes h63 hbase
  unfold Oper.wpIn
  refine ⟨?_, ?_⟩
  · simp [Oper.about, ho, resolve, Target.leads, Sem.run_pure]
  · rw [Oper.semAt_plain F _ _ (by rw [ho]; intro c hc; cases hc)]
    simp only [execOp, ho, resolve, invoke, builtin, Sem.run_bind, Sem.run_pure, Result.andThen_ok, List.map_toArray, List.map_cons, List.map_nil, hs, hx, hr]
    exact hK _ _ (h v' w' h2 h3 h4)

theorem cellsFrom_one (hd : Nd) (ns : List Nd) : cellsFrom (hd :: ns) 1 = ns.map Nd.c := by simp [cellsFrom]

set_option maxRecDepth 100000 in
set_option maxHeartbeats 4000000 in
theorem list8_any (lb : Nat) (hd : Nd) (ns : List Nd) (w : World) (hS : SkipAt w lb hd ns) (hlen : ns.length < 1000000) :
    Calls Try.prog 10 #[.pointer (some ⟨lb, 0, none⟩)] w fun e w' => ∃ v, e = .returned v ∧ Own w' w.heap.size v (ns.map Nd.c) ∧ Below w.heap.size w w' := by
  obtain ⟨i0, hi, iz0, iz1, iz2⟩ := info_parts Try.info_cell
  have Hi := Lib.hid hi
  have HS := Lib.hid hS
  have hlb := hS.inb lb (.inl rfl)
  clear hS hi
  refine callsIn_wide.1 (callsIn_of_wp_marks (F := Fence.wide) (n := 20) Try.func10 rfl trivial ?_ rfl); refine wpIn_wide.2 ?_; simp only [Try.ntmps10, List.size_toArray, List.length_cons, List.length_nil, Nat.reduceAdd, Nat.reduceSub, Array.replicate_succ, Array.replicate_zero, List.push_toArray, List.append_toArray, List.nil_append, List.cons_append]
  go_wp2_with fail
  refine (all_any lb _).mono ?_
  rintro e w1 ⟨rfl, hb, hz, kA⟩
  simp only [World.size_alloc] at hz kA
  have hc0 : w1.cell? ⟨w.heap.size, 0, none⟩ = some (.slice none 0 0) := (hb.cell (p := ⟨w.heap.size, 0, none⟩) (by simp)).trans (by go_simp)
  have hf0 : w1.frozen? ⟨w.heap.size, 0, none⟩ = false := (hb.frozen (p := ⟨w.heap.size, 0, none⟩) (by simp)).trans (by go_simp)
  have hbW : Below w.heap.size w w1 := ((Below.refl _ _).alloc (Nat.le_refl _) _).trans (hb.mono (by simp))
  clear hb
  go_wp2
  refine (wpIn_wide (n := 20)).1 ?_
  refine range_law (n := 20) (by omega) (gf := 27) (lb := #[.pointer (some ⟨w.heap.size + 1, 0, none⟩)]) rfl (enters_of Try.func27 (by kernel_rfl) rfl)
    (all1_stops 19 (by omega) _ lb hd ns w1 (HS.out.below hbW) kA hlen (SafeL w.heap.size) (safeL (by omega) hc0) (w1.heap.size + 2) (by omega))
    (fun h k => h.trans k) (fun V o o' ho hc => KpS.putObj (safeL (by omega) hc0) (Nat.le_succ _) (Nat.lt_succ_self _) ho hc) (fun _ => rfl)
    (fun pre V => ListI w.heap.size w w1 (pre.map (·.1)) V) (fun _ _ _ => False) (listI_own rfl (by omega) _) (fun _ _ _ _ _ h _ _ => h) ⟨⟨_, hc0, Row.nil _ _ _ _⟩, hf0, hbW, Nat.le_refl _⟩
    (fun x a' V => ∃ Bx, w1.heap.size ≤ Bx ∧ V.cell? ⟨Bx, 0, none⟩ = some (.string x.1.row) ∧ V.cell? ⟨Bx, 1, none⟩ = some (.string x.1.col) ∧ V.cell? ⟨Bx, 2, none⟩ = some (.int .u64 x.1.ver) ∧ V.cell? ⟨Bx, 3, none⟩ = some (.bool x.1.gone) ∧ V.cell? ⟨Bx, 4, none⟩ = some (.string x.1.val) ∧
      a' = { tmps := #[.pointer (some ⟨lb, 0, none⟩), undef, .slice none 0 0, .pointer (some ⟨w.heap.size, 0, none⟩), .pointer (some ⟨Bx, 0, none⟩), .pointer (some ⟨lb, 0, none⟩), .func (.func 27) #[] #[.pointer (some ⟨w.heap.size + 1, 0, none⟩)], .agg #[.string x.1.row, .string x.1.col, .int .u64 x.1.ver, .bool x.1.gone, .string x.1.val], undef, undef, undef, undef, undef], defers := [] })
    ?hAx ?assign ?body ?done ?stop
  case hAx =>
    rintro x a' s A B row ⟨Bx, gz, g0, g1, g2, g3, g4, g5⟩ hg hr
    exact ⟨Bx, gz, cell_kept g0 hg (fun r e => (hr r e).2), cell_kept g1 hg (fun r e => (hr r e).2), cell_kept g2 hg (fun r e => (hr r e).2), cell_kept g3 hg (fun r e => (hr r e).2), cell_kept g4 hg (fun r e => (hr r e).2), g5⟩
  case assign =>
    rintro l2 pre x V K hI hK
    have hbV : ∀ o : Obj, Below V.heap.size V (V.alloc o) := fun o => (Below.refl _ _).alloc (Nat.le_refl _) o
    have hsz := hI.size
    gi_wp2
    refine hK _ _ (keepsFrom_alloc _ _) (KpS.below (safeL (by omega) hc0) (hbV _)) ((listI_own (w := w) (w1 := w1) rfl (by omega) (fun (pre : List { c : CellA // c ∈ cellsFrom (hd :: ns) 1 }) => pre.map (·.1))).alloc _ hI) ⟨V.heap.size, hsz, by go_simp, by go_simp, by go_simp, by go_simp, by go_simp, rfl⟩
  case body =>
    rintro l2 pre x a' V hI ⟨Bx, gz, g0, g1, g2, g3, g4, rfl⟩ hlt
    obtain ⟨v, hv, hO⟩ := hI.ex
    obtain ⟨ao, cap, rfl, _⟩ := Own.cells hO
    have hIs := hI.size
    have hIf := hI.fro
    have HI := Lib.hid hI
    have HO := Lib.hid hO
    have Hv := Lib.hid hv
    obtain ⟨acc, hacc⟩ : ∃ acc, acc = pre.map (·.1) := ⟨_, rfl⟩
    have Hacc := Lib.hid hacc
    rw [← hacc] at hv HO Hv HI
    have hal : acc.length ≤ 1000000 := by rw [hacc, List.length_map]; rw [cellsFrom_len, List.length_cons] at hlt; omega
    have Hal := Lib.hid hal
    clear hI hO hacc hal hlt
    gi_wp2_with (gi_at_builtin; go_loud (refine wpListIn_append_at _ rfl _ _ 22 rfl w1.heap.size 26 i0 _ 5 64 Try.underlying22 Hi.out iz0 iz1 iz2 rfl (by decide) (.slice ao acc.length cap) _ _ rfl (Row.alloc HO.out _) rfl (cells_one _ _ x.1 _ rfl) (by have := Hal.out; omega) (by have := Hal.out; unfold maxLen; omega) (by go_size) ?_; intro v7 w7 hr7 hg7 ho7; obtain ⟨⟨hk1, hk2⟩, hI7, c7, f7, ao7, cap7, rfl⟩ := listI_step rfl (by omega) HI.out Hv.out (acc' := acc ++ [x.1]) rfl HO.out hr7 hg7 ho7 (w1.heap.size + 2); have HK1 := Lib.hid hk1; have HK2 := Lib.hid hk2; have HI7 := Lib.hid hI7; clear hr7 hg7 ho7 hk1 hk2 hI7))
    exact ⟨⟨HK1.out, HK2.out⟩, by show ListI _ _ _ ((pre ++ [x]).map (·.1)) _; rw [List.map_append, List.map_singleton, ← Hacc.out]; exact HI7.out⟩
  case done =>
    rintro D xs V hD hx hI hK
    obtain ⟨v, hv, hO⟩ := hI.ex
    obtain ⟨ao, cap, rfl, _⟩ := Own.cells hO
    have hf := hI.fro
    go_wp2
    have HO2 := own_kept (row := some D) hO (grownBy_putObj' V D (.deferred none)) (fun r e => by cases e; exact ⟨_, hK, rfl⟩)
    rw [hx] at HO2
    rw [cellsFrom_one] at HO2 ⊢
    exact postM_ret1 (v := .slice ao (ns.map Nd.c).length cap) rfl hK (by simp [results, Try.results10, go_sem]) ⟨_, rfl, Row.mono HO2 (by have := hbW.size; omega), hI.bel.trans ((below_put hK (Nat.le_trans (by omega) hD)).mono (Nat.le_refl _))⟩
  case stop =>
    rintro D c pre V hD hp h hK
    exact h.elim
end Go.Proofs.Ytlnfdejflpgleaa
