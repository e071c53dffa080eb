/-
  Copies in memory of their own: the walks of acreageref16.OwnInts, OwnEntry, OwnEntries, acreagelaw32.own.
-/
import Derived.Test.YteibnignjghedaaAudZ
import Derived.Test.YteibnignjghedaaAudH
import Derived.Great.BuildSlice
import Derived.Test.YteibnignjghedaaAudRP
namespace Go.Proofs.Yteibnignjghedaa
open Go.RowKit Go.Sort

set_option maxHeartbeats 1000000 in
theorem ownints_any (ao : Option Addr) (n cap : Nat) (cs : List Int) (w : World) (h : Ints w ao n cap cs) (hle : n * 8 ≤ 140737488355328) :
    Calls Try.prog 26 #[.slice ao n cap] w fun e w' => ∃ v, e = .returned v ∧ Row w' w.heap.size 3 1 v n (cs.map intE).flatten ∧ Below w.heap.size w w' := by
  have hmax := Arr.max h
  have hcap := Arr.fits h
  unfold maxLen at hmax
  obtain ⟨i0, hi, hz0, hz1, hz2⟩ := info_parts Try.info_int
  have Hi := Lib.hid hi
  have H := Lib.hid h
  clear h hi
  go_enter Try.func26, Try.ntmps26
  go_wp2_with (at_builtin; refine wpList_append_arr _ rfl _ _ 35 rfl w.heap.size 3 i0 _ 1 8 Try.underlying35 Hi.out hz0 hz1 hz2 rfl (by decide) _ 0 [] rfl (Row.nil _ _ _ _) rfl H.out (by omega) (by unfold maxLen; omega) (by go_size) ?_; intro v1 w1 hr1 hb1 hg1)
  go_returns
  exact ⟨_, rfl, by simpa using hr1, hb1⟩

/-- an entry whose members lie in a row of their own -/
def MemR (w : World) (B : Nat) (e : EntA) : Prop := Row w B 3 1 (.slice e.ma e.mn e.mc) e.mn (e.mem.map intE).flatten
def EntA.at_ (e : EntA) (a : Option Addr) (c : Nat) : EntA := { e with ma := a, mc := c }
theorem EntA.at_l (e : EntA) (a : Option Addr) (c : Nat) : (e.at_ a c).l = e.l.set 23 (.slice a e.mn c) := rfl
theorem EntAt.setMem {w : World} {p : Nat} {e : EntA} (h : EntAt w p 0 e) (a : Option Addr) (c : Nat) : EntAt (w.setCell ⟨p, 23, none⟩ (.slice a e.mn c)) p 0 (e.at_ a c) := fun j v hv => by
  rw [EntA.at_l] at hv
  by_cases hj : j = 23
  · subst hj
    rw [List.getElem?_set_self (by exact (by decide : 23 < 24))] at hv
    cases hv
    exact World.cell?_setCell_same _ _ _ h.mem
  · rw [List.getElem?_set_ne (fun e => hj e.symm)] at hv
    rw [World.cell?_setCell_other _ _ _ _ (fun e => hj (by have := congrArg Addr.off e; simpa using this.symm))]
    exact h j v hv
theorem heap_setCells {b k : Nat} (hk : k ≠ b) : ∀ (vs : List Value) (o : Nat) (V : World), (V.setCells b o vs).heap[k]? = V.heap[k]?
  | [], _, _ => rfl
  | v :: r, o, V => (heap_setCells hk r (o + 1) _).trans (Below.heap_setCell _ _ _ _ hk)
theorem Row.setCells {w : World} {B : Nat} {T : TypeId} {size n : Nat} {v : Value} {xs : List Value} (h : Row w B T size v n xs) {b : Nat} (hb : ∀ k, v.ownBlock = some k → k ≠ b) (o : Nat) (vs : List Value) : Row (w.setCells b o vs) B T size v n xs :=
  Row.of_heap h fun k hk => heap_setCells (hb k hk) vs o w
theorem size_setCells {b : Nat} : ∀ (vs : List Value) (o : Nat) (V : World), (V.setCells b o vs).heap.size = V.heap.size
  | [], _, _ => rfl
  | v :: r, o, V => (size_setCells r (o + 1) _).trans (World.size_setCell _ _ _)

theorem results_cell {fn : Func} {p : Tmp} {ty : TypeId} (h : fn.results = #[.cell p ty]) (tmps : Array Value) (P : Program) (w : World) :
    (results fn tmps).run P w = ((asAddr (tmps.getD p undef)).run P w).andThen fun a w₁ => (loadVar ty a).run P w₁ := by
  simp only [results, h]
  simp [Sem.run_bind, Result.andThen]

set_option maxRecDepth 100000 in
set_option maxHeartbeats 4000000 in
theorem ownentry_any (e0 : EntA) (w : World) (h : e0.In w) (hle : e0.mn * 8 ≤ 140737488355328) :
    Calls Try.prog 48 #[e0.v] w fun e w' => ∃ a c, e = .returned (e0.at_ a c).v ∧ MemR w' w.heap.size (e0.at_ a c) ∧ Below w.heap.size w w' := by
  have KI := Lib.hid fun (W : World) (hb : Below w.heap.size w W) => ownints_any e0.ma e0.mn e0.mc e0.mem W (Ints.below h hb) hle
  simp only [EntA.v]
  clear h
  go_enter Try.func48, Try.ntmps48
  go_upto_region 1 with fail
  rw [← zeroE_lit]
  obtain ⟨W, hW⟩ : ∃ W : World, W = (w.alloc (.cells e0.l.toArray 60)).alloc (.cells zeroE.l.toArray 60) := ⟨_, rfl⟩
  have hbW : Below w.heap.size w W := by rw [hW]; exact ((Below.refl _ _).alloc (Nat.le_refl _) _).alloc (by simp) _
  have hA0 : EntAt W w.heap.size 0 e0 := by
    rw [hW]
    exact (EntAt.new w e0 _).below ((Below.refl _ _).alloc (Nat.le_refl _) _)
  have hf : W.frozen? ⟨w.heap.size, 23, none⟩ = false := by rw [hW]; go_simp
  have hH : W.heap[w.heap.size + 1]? = some (.cells zeroE.l.toArray 60) := by
    rw [hW]
    have := heap_alloc_new (w.alloc (.cells e0.l.toArray 60)) (.cells zeroE.l.toArray 60)
    rwa [World.size_alloc] at this
  have hzW : W.heap.size = w.heap.size + 2 := by rw [hW]; simp
  obtain ⟨q, hq⟩ : ∃ q, q = w.heap.size + 1 := ⟨_, rfl⟩
  rw [← hW, ← hq]
  rw [← hq] at hH
  have HA0 := Lib.hid hA0
  have HH := Lib.hid hH
  have x23 := hA0.mem
  simp only [Nat.zero_add] at x23
  have Hq := Lib.hid hq
  clear hW hA0 hH hq
  go_upto_region 2 with (go_at_call 26; refine (KI.out _ hbW).mono ?_; rintro e w1 ⟨v1, rfl, hr, hb⟩; obtain ⟨a1, k9, rfl⟩ := row_slice hr; have y23 := (hb.cell (p := ⟨w.heap.size, 23, none⟩) (by simp only; omega)).trans x23; have g23 := (hb.frozen (p := ⟨w.heap.size, 23, none⟩) (by simp only; omega)).trans hf; have Hr := Lib.hid hr; have Hb := Lib.hid hb; clear hr hb)
  have hq := Hq.out
  have hE1 := (HA0.out.below Hb.out).setMem a1 k9
  have hsz := Hb.out.size
  obtain ⟨w2, hw2⟩ : ∃ V, V = w1.setCell ⟨w.heap.size, 23, none⟩ (.slice a1 e0.mn k9) := ⟨_, rfl⟩
  have hH2 : w2.heap[q]? = some (.cells zeroE.l.toArray 60) := by rw [hw2]; exact (Below.heap_setCell _ _ _ _ (by simp only; omega)).trans ((Hb.out.block q (by omega)).trans HH.out)
  have hb2 : Below w.heap.size w w2 := by rw [hw2]; exact (hbW.trans (Hb.out.mono hbW.size)).setCell (Nat.le_refl _) _
  have hr2 : MemR w2 W.heap.size (e0.at_ a1 k9) := by
    rw [hw2]
    exact Row.setCell Hr.out (fun k hk => by have := (Row.lt Hr.out k hk).1; simp only; omega) _
  rw [← hw2] at hE1 ⊢
  obtain ⟨e1, he1⟩ : ∃ e, e = e0.at_ a1 k9 := ⟨_, rfl⟩
  rw [← he1] at hE1 hr2
  have HL := Lib.hid hE1.load
  have Hr2 := Lib.hid hr2
  have Hb2 := Lib.hid hb2
  have HH2 := Lib.hid (EntAt.there hH2)
  have He1 := Lib.hid he1
  have hzq : w.heap.size ≤ q := by omega
  have hqW : q < W.heap.size := by omega
  clear hw2 hE1 hb2 hr2 hH2 y23 g23 x23 hf hq he1
  go_wp2_with (first | (with_reducible refine bodyPost_ret (v := .agg e1.l.toArray) ?hr ?hd ?hR) | (refine wpList_loadK rfl (by rfl) rfl (by exact HL.out) ?_; simp only [Act.put, List.setIfInBounds_toArray, List.set_cons_succ, List.set_cons_zero]) | (refine wpList_store_mid rfl _ _ _ rfl q 0 e1.l.toArray rfl rfl HH2.out (by kernel_rfl) (EntA.all _) ?_; simp only [Act.put, List.setIfInBounds_toArray, List.set_cons_succ, List.set_cons_zero]))
  case hd => rfl
  all_goals
    have hE3 : EntAt (w2.setCells q 0 e1.l) q 0 e1 := World.rangeAt_setCells_same _ _ _ _ HH2.out
    have hld := hE3.loadVar
    have hb3 : Below w.heap.size w (w2.setCells q 0 e1.l) := Below.setCells hzq _ _ Hb2.out
    have hr3 : MemR (w2.setCells q 0 e1.l) w.heap.size e1 := Row.mono (Row.setCells Hr2.out (fun k hk => by have := (Row.lt Hr2.out k hk).1; omega) _ _) (by omega)
  case hR => exact ⟨a1, k9, by rw [← He1.out], by rw [← He1.out]; exact hr3, hb3⟩
  case hr =>
    rw [results_cell rfl]
    simp [asAddr, Result.andThen, hld]

/-- an entry but for where its members lie -/
def EntA.norm (e : EntA) : EntA := e.at_ none 0
theorem EntA.norm_at (e : EntA) (a : Option Addr) (c : Nat) : (e.at_ a c).norm = e.norm := rfl
/-- copies of entries, in rows of their own, apart from the row v -/
structure OwnE (w : World) (B : Nat) (v : Value) (es es' : List EntA) : Prop where
  of : es'.map EntA.norm = es.map EntA.norm
  mem : ∀ e ∈ es', MemR w B e ∧ ∀ q, v.ownBlock = some q → (Value.slice e.ma e.mn e.mc).ownBlock ≠ some q
theorem OwnE.below {w w' : World} {B : Nat} {v : Value} {es es' : List EntA} (h : OwnE w B v es es') (hb : Below w.heap.size w w') : OwnE w' B v es es' := ⟨h.of, fun e he => ⟨Row.below (h.mem e he).1 hb, (h.mem e he).2⟩⟩
theorem OwnE.step {w V w' : World} {B : Nat} {v v' : Value} {es es' : List EntA} {e e1 : EntA} {T : TypeId} {c : Array Value} {a9 : Option Addr} {c9 : Nat} (h : OwnE w B v es es') (hb : Below w.heap.size w V) (he : e1 = e.at_ a9 c9) (hm : MemR V w.heap.size e1) (hB : B ≤ w.heap.size) (hv : ∀ q, v.ownBlock = some q → q < w.heap.size)
    (hg : (V.alloc (.cells c T)).grownBy w' v.ownBlock) (ho : v'.ownBlock = v.ownBlock ∨ v'.ownBlock = some (V.alloc (.cells c T)).heap.size) : OwnE w' B v' (es ++ [e]) (es' ++ [e1]) := by
  refine ⟨by rw [List.map_append, List.map_append, h.of, he]; rfl, fun x hx => ?_⟩
  have key : ∀ x : EntA, MemR V B x → (∀ q, v.ownBlock = some q → (Value.slice x.ma x.mn x.mc).ownBlock ≠ some q) → MemR w' B x ∧ ∀ q, v'.ownBlock = some q → (Value.slice x.ma x.mn x.mc).ownBlock ≠ some q := fun x h1 h2 => by
    refine ⟨Row.of_heap (Row.alloc h1 (.cells c T)) fun k hk => hg.block k (Row.lt (Row.alloc h1 (.cells c T)) k hk).2 (fun e => h2 k e.symm hk), fun q hq hq2 => ?_⟩
    rcases ho with e | e
    · exact h2 q (e ▸ hq) hq2
    · rw [e, World.size_alloc] at hq
      cases hq
      have := (Row.lt h1 _ hq2).2
      omega
  rcases List.mem_append.1 hx with hx | hx
  · exact key x (Row.below (h.mem x hx).1 hb) (h.mem x hx).2
  · rw [List.mem_singleton] at hx
    subst hx
    exact key x (Row.mono hm hB) (fun q h1 h2 => by have := hv q h1; have := (Row.lt hm q h2).1; omega)
/-- a slice literal of whole values, their cells as lists -/
theorem wpList_buildAggs {P : Program} {ops : Array Oper} {rest : List Oper} {o : Oper} {a : Act} {w : World} {Q : Exit → Act → World → Prop} (hw : Region.wanted o (yielded ops a.tmps) = true) (t e : TypeId) (len : Nat) (parts : Array (Nat × Operand)) (ho : o.op = .buildSlice t len parts)
    (ls : List (List Value)) (size : Nat) (ie : TypeInfo) (z : Value) (hu : P.underlying t = some (.slice e)) (hie : P.info? e = some ie) (hz : ie.zero = some z) (hsz : ie.size = size) (hs : 0 < size) (hlen : len = ls.length) (hpos : 0 < len) (hsmall : len * size ≤ 16777216)
    (hparts : (parts.map fun (i, x) => (i, a.eval x)).toList = ((ls.map fun l => Value.agg l.toArray).zipIdx 0).map fun x => (x.2, x.1)) (hl : ∀ l ∈ ls, l.length = size)
    (h : wpList P ops Q rest (a.put o.dst (.slice (some ⟨w.heap.size, 0, none⟩) len len)) (w.alloc (.cells ls.flatten.toArray e))) : wpList P ops Q (o :: rest) a w := by
  subst hsz
  have hf := Great.fill_whole hs (ls.map fun l => Value.agg l.toArray) ((Array.range (len * ie.size)).map (z.cells[· % z.cells.size]!)) (fun v hv => by obtain ⟨l, hm, rfl⟩ := List.mem_map.1 hv; simpa [Value.cells] using hl l hm) (by simp [hlen])
  refine wpList_step fun K hK => ?_
  rw [if_pos hw]
  refine wp_buildSlice t e len parts ho ls.flatten.toArray ie z hu hie hz (by omega) (by have := Nat.mul_pos hpos hs; omega) ?_ (hK _ _ h)
  rw [hparts, hf]
  congr 2
  rw [List.flatMap_map]
  simp [Value.cells, List.flatMap_def]
theorem wpList_build1 {P : Program} {ops : Array Oper} {rest : List Oper} {o : Oper} {a : Act} {w : World} {Q : Exit → Act → World → Prop} (hw : Region.wanted o (yielded ops a.tmps) = true) (t e : TypeId) (x : Operand) (ho : o.op = .buildSlice t 1 #[(0, x)])
    (l : List Value) (hx : a.eval x = .agg l.toArray) (size : Nat) (ie : TypeInfo) (z : Value) (hu : P.underlying t = some (.slice e)) (hie : P.info? e = some ie) (hz : ie.zero = some z) (hsz : ie.size = size) (hs : 0 < size) (hsmall : size ≤ 1000) (hl : l.length = size)
    (h : wpList P ops Q rest (a.put o.dst (.slice (some ⟨w.heap.size, 0, none⟩) 1 1)) (w.alloc (.cells l.toArray e))) : wpList P ops Q (o :: rest) a w :=
  wpList_buildAggs hw t e 1 #[(0, x)] ho [l] size ie z hu hie hz hsz hs rfl (by omega) (by omega) (by simp [hx]) (fun k hk => by rw [List.mem_singleton.1 hk]; exact hl) (by simpa using h)
theorem wpList_build2 {P : Program} {ops : Array Oper} {rest : List Oper} {o : Oper} {a : Act} {w : World} {Q : Exit → Act → World → Prop} (hw : Region.wanted o (yielded ops a.tmps) = true) (t e : TypeId) (x y : Operand) (ho : o.op = .buildSlice t 2 #[(0, x), (1, y)])
    (l m : List Value) (hx : a.eval x = .agg l.toArray) (hy : a.eval y = .agg m.toArray) (size : Nat) (ie : TypeInfo) (z : Value) (hu : P.underlying t = some (.slice e)) (hie : P.info? e = some ie) (hz : ie.zero = some z) (hsz : ie.size = size) (hs : 0 < size) (hsmall : size ≤ 1000) (hl : l.length = size) (hm : m.length = size)
    (h : wpList P ops Q rest (a.put o.dst (.slice (some ⟨w.heap.size, 0, none⟩) 2 2)) (w.alloc (.cells (l ++ m).toArray e))) : wpList P ops Q (o :: rest) a w :=
  wpList_buildAggs hw t e 2 #[(0, x), (1, y)] ho [l, m] size ie z hu hie hz hsz hs rfl (by omega) (by omega) (by simp [hx, hy]) (fun k hk => by
    simp only [List.mem_cons, List.not_mem_nil, or_false] at hk
    rcases hk with rfl | rfl
    · exact hl
    · exact hm) (by simpa using h)
theorem Try.info_ent : (Try.prog.info? 60).map (fun i => (i.zero, i.size, i.bytes)) = some (some (.agg zeroE.l.toArray), 24, 264) := by kernel_rfl
theorem ents_one (w : World) (T : TypeId) (e : EntA) (g : Nat) (hg : w.heap.size = g) : Arr (w.alloc (.cells e.l.toArray T)) 24 (some ⟨g, 0, none⟩) 1 1 ([e].map EntA.l) := by
  subst hg
  refine ⟨ent_elems _, rfl, Nat.le_refl _, by unfold maxLen; omega, fun _ => ⟨w.heap.size, 0, rfl, by rw [World.size_alloc]; omega, fun i x hx j u hu => ?_⟩⟩
  have hi : i = 0 := by
    have := (List.getElem?_eq_some_iff.1 hx).1
    simp at this; exact this
  subst hi
  simp only [List.map_cons, List.map_nil, List.getElem?_cons_zero, Option.some.injEq] at hx
  subst hx
  simp only [Nat.zero_mul, Nat.zero_add]
  rw [World.cell?_alloc_new]
  simpa using hu

set_option maxRecDepth 100000 in
set_option maxHeartbeats 400000 in
theorem ownentries_any (ao : Option Addr) (n cap : Nat) (es : List EntA) (w : World) (h : Ents w ao n cap es) (hle : ∀ e ∈ es, e.mn * 8 ≤ 140737488355328) (hn : n * 264 ≤ 140737488355328) :
    Calls Try.prog 25 #[.slice ao n cap] w fun e w' => ∃ (ra : Option Addr) (rc : Nat) (es' : List EntA), e = .returned (.slice ra n rc) ∧ Row w' w.heap.size 60 24 (.slice ra n rc) n (es'.map EntA.l).flatten ∧ OwnE w' w.heap.size (.slice ra n rc) es es' ∧ Below w.heap.size w w' := by
  have H := Lib.hid h
  have HL := Lib.hid hle
  have hc1 := Arr.fits h.arr
  have hc2 := Arr.max h.arr
  unfold maxLen at hc2
  have Hn := Lib.hid h.len
  obtain ⟨i0, hi, iz0, iz1, iz2⟩ := info_parts Try.info_ent
  have Hi := Lib.hid hi
  clear h hle hi
  go_enter Try.func25, Try.ntmps25
  go_wp2
  go_loopw [3, 4] (fun v i V => ∃ (k : Nat) (ra : Option Addr) (rc : Nat) (es' : List EntA), k ≤ n ∧ i = .int .i64 k ∧ v = .slice ra k rc ∧ Hid (Row V w.heap.size 60 24 (.slice ra k rc) k (es'.map EntA.l).flatten) ∧ Hid (OwnE V w.heap.size (.slice ra k rc) (es.take k) es') ∧ Hid (Below w.heap.size w V)) (fun _ i _ => n - (intOf i).toNat)
  case atStart => exact ⟨0, none, 0, [], by omega, rfl, rfl, Lib.hid (Row.nil _ _ _ _), Lib.hid ⟨by rw [List.take_zero], fun e he => by cases he⟩, Lib.hid (Below.refl _ _)⟩
  case round =>
    obtain ⟨k, ra, rc, es', hk, rfl, rfl, hR, hO, hB⟩ := hrel
    have hzw := hB.out.size
    by_cases hlt : k < n
    · obtain ⟨e, he⟩ : ∃ e, es[k]? = some e := ⟨_, List.getElem?_eq_getElem (by rw [Hn.out]; exact hlt)⟩
      obtain ⟨g, off, e0, hgl, hE, _⟩ := (H.out.below hB.out).at_ he
      have HLe := Lib.hid hE.load
      have KO : Hid (Calls Try.prog 48 #[.agg e.l.toArray] wr fun x w' => ∃ a c, x = .returned (e.at_ a c).v ∧ MemR w' wr.heap.size (e.at_ a c) ∧ Below wr.heap.size wr w') := Lib.hid (ownentry_any e wr ((H.out.below hB.out).mem e (List.mem_of_getElem? he)) (HL.out e (List.mem_of_getElem? he)))
      have Htk := Lib.hid (show es.take (k + 1) = es.take k ++ [e] from by rw [List.take_add_one, he]; rfl)
      have hrl : es'.length = k := by have := congrArg List.length hO.out.of; rw [List.length_map, List.length_map, List.length_take] at this; have := Hn.out; omega
      cases e0
      clear hE he
      go_wp2_with (first | (refine wpList_loadK rfl (by rfl) rfl (by exact HLe.out) ?_; simp only [Act.put, List.setIfInBounds_toArray, List.set_cons_succ, List.set_cons_zero]) | (go_at_call 48; refine KO.out.mono ?_; rintro x w5 ⟨a5, c5, rfl, hm5, hb5⟩; obtain ⟨e5, he5⟩ : ∃ y, y = e.at_ a5 c5 := ⟨_, rfl⟩; rw [← he5] at hm5 ⊢; have He5 := Lib.hid he5; have Hm5 := Lib.hid hm5; have Hb5 := Lib.hid hb5; have hz5 := hb5.size; clear he5 hm5 hb5; simp only [EntA.v]) | (refine wpList_build1 (by rfl) 42 60 _ rfl e5.l rfl 24 i0 _ Try.underlying42 Hi.out iz0 iz1 (by decide) (by decide) (EntA.len _) ?_; simp only [Act.put, List.setIfInBounds_toArray, List.set_cons_succ, List.set_cons_zero]) | (at_builtin; go_loud (refine wpList_append_at _ rfl _ _ 42 rfl w.heap.size 60 i0 _ 24 264 Try.underlying42 Hi.out iz0 iz1 iz2 rfl (by decide) (.slice ra k rc) _ _ rfl (Row.alloc (Row.below hR.out Hb5.out) _) rfl (ents_one w5 _ e5 _ rfl) (by omega) (by unfold maxLen; omega) (by rw [World.size_alloc]; omega) ?_; intro v7 w7 hr7 hg7 ho7; obtain ⟨a7, k7, rfl⟩ := row_slice hr7; have HR7 := Lib.hid hr7; have HO7 := Lib.hid (hO.out.step Hb5.out He5.out Hm5.out hzw (fun q hq => (Row.lt hR.out q hq).2) hg7 ho7); have HB7 := Lib.hid (((hB.out.trans (Hb5.out.mono hzw)).alloc (by omega) _).grown hg7 (by rw [World.size_alloc]; omega) (fun q hq => (Row.lt hR.out q hq).1)); clear hr7 hg7 ho7)))
      exact ⟨⟨k + 1, a7, k7, es' ++ [e5], by omega, by go_num, rfl, Lib.hid (by rw [List.map_append, List.flatten_append]; exact HR7.out), Lib.hid (by rw [Htk.out]; exact HO7.out), HB7⟩, by simp [intOf]; omega⟩
    · obtain rfl : k = n := by omega
      have Hall : Hid (es.take k = es) := Lib.hid (List.take_of_length_le (by rw [Hn.out]; exact Nat.le_refl _))
      go_wp2_with fail
      go_returns
      exact ⟨ra, rc, es', rfl, hR.out, by have := hO.out; rw [Hall.out] at this; exact this, hB.out⟩
end Go.Proofs.Yteibnignjghedaa

/-
  Copies of what replicas show, in memory of their own: the walk of acreagelaw32.own.
-/
namespace Go.Proofs.Yteibnignjghedaa
open Go.RowKit Go.Sort

def SeenA.at_ (s : SeenA) (ba : Option Addr) (bc : Nat) (ea : Option Addr) (ec : Nat) (es' : List EntA) : SeenA := { s with ba := ba, bc := bc, ea := ea, ec := ec, es := es' }
/-- but for where its parts lie -/
def SeenA.norm (s : SeenA) : SeenA := s.at_ none 0 none 0 (s.es.map EntA.norm)
theorem SeenA.at_l (s : SeenA) (ba : Option Addr) (bc : Nat) (ea : Option Addr) (ec : Nat) (es' : List EntA) : (s.at_ ba bc ea ec es').l = (s.l.set 9 (.slice ea s.en ec)).set 8 (.slice ba s.bn bc) := rfl
theorem SeenA.norm_at (s : SeenA) (ba : Option Addr) (bc : Nat) (ea : Option Addr) (ec : Nat) {es' : List EntA} (h : es'.map EntA.norm = s.es.map EntA.norm) : (s.at_ ba bc ea ec es').norm = s.norm := by
  simp only [SeenA.norm, SeenA.at_, h]
theorem seen_elems (l : List SeenA) : Elems 19 (l.map SeenA.l) := fun k hk => by
  obtain ⟨s, _, rfl⟩ := List.mem_map.1 hk
  exact ⟨rfl, s.one⟩
theorem seens_one (w : World) (T : TypeId) (s : SeenA) (g : Nat) (hg : w.heap.size = g) : Arr (w.alloc (.cells s.l.toArray T)) 19 (some ⟨g, 0, none⟩) 1 1 ([s].map SeenA.l) := by
  subst hg
  refine ⟨seen_elems _, rfl, Nat.le_refl _, by unfold maxLen; omega, fun _ => ⟨w.heap.size, 0, rfl, by rw [World.size_alloc]; omega, fun i x hx j u hu => ?_⟩⟩
  have hi : i = 0 := by
    have := (List.getElem?_eq_some_iff.1 hx).1
    simp at this; exact this
  subst hi
  simp only [List.map_cons, List.map_nil, List.getElem?_cons_zero, Option.some.injEq] at hx
  subst hx
  simp only [Nat.zero_mul, Nat.zero_add]
  rw [World.cell?_alloc_new]
  simpa using hu
theorem Try.info_seen : (Try.prog.info? 49).map (fun i => (i.zero, i.size, i.bytes)) = some (some (.agg #[.int .i64 0, .int .i64 0, .bool false, .bool false, .int .u64 0, .int .i64 0, .int .u64 0, .int .u64 0, .slice none 0 0, .slice none 0 0, .int .u64 0, .int .u64 0, .string ⟨#[]⟩, .string ⟨#[]⟩, .int .u64 0, .bool false, .slice none 0 0, .slice none 0 0, .int .i64 0]), 19, 224) := by kernel_rfl
theorem SeenAt.set1 {w : World} {p : Nat} {l : List Value} (h : w.rangeAt p 0 l) (k : Nat) (hk : k < l.length) (v : Value) : (w.setCell ⟨p, k, none⟩ v).rangeAt p 0 (l.set k v) := fun j u hu => by
  by_cases hj : j = k
  · subst hj
    rw [List.getElem?_set_self hk] at hu
    cases hu
    rw [Nat.zero_add]
    have := h j _ (List.getElem?_eq_getElem hk)
    rw [Nat.zero_add] at this
    exact World.cell?_setCell_same _ _ _ this
  · rw [List.getElem?_set_ne (fun e => hj e.symm)] at hu
    rw [World.cell?_setCell_other _ _ _ _ (fun e => hj (by have := congrArg Addr.off e; simpa using this.symm))]
    exact h j u hu

/-- it reads the same, whatever is done to the row v -/
def Safe (V : World) (v : Value) (s : SeenA) : Prop := ∀ V', V.grownBy V' v.ownBlock → s.In V'
theorem Safe.in_ {V : World} {v : Value} {s : SeenA} (h : Safe V v s) : s.In V := h V (World.grownBy.refl V _)
theorem Safe.below {V V1 : World} {v : Value} {s : SeenA} (h : Safe V v s) (hb : Below V.heap.size V V1) : Safe V1 v s := fun V' hg => h V' (grown_two (grown_below (World.grownBy.refl V _) hb) hg (.inl rfl))
theorem Safe.app {V V' : World} {v v' : Value} {s : SeenA} {T : TypeId} {c : Array Value} (h : Safe V v s) (hg : (V.alloc (.cells c T)).grownBy V' v.ownBlock) (ho : v'.ownBlock = v.ownBlock ∨ v'.ownBlock = some (V.alloc (.cells c T)).heap.size) : Safe V' v' s := fun V2 hg2 =>
  h V2 (grown_two (grown_two (grown_below (World.grownBy.refl V _) ((Below.refl _ _).alloc (Nat.le_refl _) _)) hg (.inl rfl)) hg2 (ho.imp id (fun e => ⟨_, e, by rw [World.size_alloc]; omega⟩)))
theorem Safe.new {w V : World} {v : Value} {s : SeenA} {K : Nat} {ba ea : Option Addr} {bc ec : Nat} {es' : List EntA} (hs : s.In w) (hb : Below w.heap.size w V) (hv : ∀ q, v.ownBlock = some q → w.heap.size ≤ q ∧ q < K)
    (hbm : Row V K 3 1 (.slice ba s.bn bc) s.bn (s.bm.map intE).flatten) (hes : Row V K 60 24 (.slice ea s.en ec) s.en (es'.map EntA.l).flatten) (hmem : ∀ e ∈ es', MemR V K e) (hme : ∀ e ∈ es', e.mem.length = e.mn) (hl : es'.length = s.en) : Safe V v (s.at_ ba bc ea ec es') := fun V' hg => by
  have hw : Below w.heap.size w V' := hb.grown hg hb.size (fun q e => (hv q e).1)
  have keep : ∀ {T : TypeId} {size n : Nat} {u : Value} {xs : List Value}, Row V K T size u n xs → Row V' K T size u n xs := fun h => Row.of_heap h fun q hq => hg.block q (Row.lt h q hq).2 (fun e => by have := (hv q e.symm).2; have := (Row.lt h q hq).1; omega)
  refine ⟨?_, ⟨?_, fun e he => ?_⟩, hs.locs.below hw, hs.procs.below hw⟩
  · exact row_arr (by decide) (by rw [List.length_map]; exact hs.bm.len) (keep hbm) (intE_elems _)
  · exact row_arr (by decide) (by rw [List.length_map]; exact hl) (keep hes) (ent_elems _)
  · exact row_arr (by decide) (by rw [List.length_map]; exact hme e he) (keep (hmem e he)) (intE_elems _)

set_option maxRecDepth 100000 in
set_option maxHeartbeats 4000000 in
theorem own_any (ao : Option Addr) (n cap : Nat) (l : List SeenA) (w : World) (h : Seens w ao n cap l) (h12 : n ≤ 12) (hwt : ∀ s ∈ l, s.bn * 8 ≤ 140737488355328 ∧ s.en * 264 ≤ 140737488355328 ∧ ∀ e ∈ s.es, e.mn * 8 ≤ 140737488355328) :
    Calls Try.prog 10 #[.slice ao n cap] w fun e w' => ∃ (ra : Option Addr) (rc : Nat) (l' : List SeenA), e = .returned (.slice ra n rc) ∧ Seens w' ra n rc l' ∧ l'.map SeenA.norm = l.map SeenA.norm ∧ Below w.heap.size w w' := by
  have H := Lib.hid h
  have HW := Lib.hid hwt
  have hc1 := Arr.fits h.arr
  have hc2 := Arr.max h.arr
  unfold maxLen at hc2
  have Hn := Lib.hid h.len
  obtain ⟨i0, hi, iz0, iz1, iz2⟩ := info_parts Try.info_seen
  have Hi := Lib.hid hi
  clear h hwt hi
  go_enter Try.func10, Try.ntmps10
  go_wp2
  go_loopw [3, 4] (fun v i V => ∃ (k : Nat) (ra : Option Addr) (rc : Nat) (l' : List SeenA), k ≤ n ∧ i = .int .i64 k ∧ v = .slice ra k rc ∧ Hid (Row V w.heap.size 49 19 (.slice ra k rc) k (l'.map SeenA.l).flatten) ∧ Hid (l'.map SeenA.norm = (l.take k).map SeenA.norm) ∧ Hid (∀ s ∈ l', Safe V (.slice ra k rc) s) ∧ Hid (Below w.heap.size w V)) (fun _ i _ => n - (intOf i).toNat)
  case atStart => exact ⟨0, none, 0, [], by omega, rfl, rfl, Lib.hid (Row.nil _ _ _ _), Lib.hid (by rw [List.take_zero]), Lib.hid (fun s hs => by cases hs), Lib.hid (Below.refl _ _)⟩
  case round =>
    obtain ⟨k, ra, rc, l', hk, rfl, rfl, hR, hO, hS, hB⟩ := hrel
    have hzw := hB.out.size
    by_cases hlt : k < n
    · obtain ⟨s, hs⟩ : ∃ s, l[k]? = some s := ⟨_, List.getElem?_eq_getElem (by rw [Hn.out]; exact hlt)⟩
      obtain ⟨b, off, e0, hb, xx⟩ := (H.out.below hB.out).at_ hs
      have HLs := Lib.hid xx.load
      have HsI := Lib.hid (H.out.ins s (List.mem_of_getElem? hs))
      have Hsw := Lib.hid (HW.out s (List.mem_of_getElem? hs))
      have Htk := Lib.hid (show (l.take (k + 1)).map SeenA.norm = (l.take k).map SeenA.norm ++ [s.norm] from by rw [List.take_add_one, hs, List.map_append]; rfl)
      cases e0
      clear xx hs
      go_upto_region 6 with (first | (refine wpList_loadK rfl (by rfl) rfl (by exact HLs.out) ?_; simp only [Act.put, List.setIfInBounds_toArray, List.set_cons_succ, List.set_cons_zero]) | (refine wpList_storeN rfl rfl rfl rfl (by first | rfl | simp) (by kernel_rfl) (by rfl) (SeenA.all _) ?_; simp only [Act.put, List.setIfInBounds_toArray, List.set_cons_succ, List.set_cons_zero]))
      obtain ⟨wc, hwc⟩ : ∃ wc, wc = wr.alloc (.cells s.l.toArray 49) := ⟨_, rfl⟩
      obtain ⟨p, hp⟩ : ∃ p, p = wr.heap.size := ⟨_, rfl⟩
      have hE := SeenAt.new wr s 49
      have hBc : Below wr.heap.size wr wc := by rw [hwc]; exact (Below.refl _ _).alloc (Nat.le_refl _) _
      have f8 : wc.frozen? ⟨p, 8, none⟩ = false := by rw [hwc, hp]; go_simp
      have f9 : wc.frozen? ⟨p, 9, none⟩ = false := by rw [hwc, hp]; go_simp
      have hzc : wc.heap.size = wr.heap.size + 1 := by rw [hwc]; simp
      rw [← hwc, ← hp] at hE ⊢
      have x8 := hE.at_ 8 _ rfl
      have x9 := hE.at_ 9 _ rfl
      simp only [Nat.zero_add] at x8 x9
      have HE := Lib.hid hE
      have Hp := Lib.hid hp
      have HBc := Lib.hid hBc
      have hpc : p < wc.heap.size := by omega
      have KE := Lib.hid (ownentries_any s.ea s.en s.ec s.es wc ((HsI.out.es.below hB.out).below hBc) Hsw.out.2.2 Hsw.out.2.1)
      clear hwc hp hE hBc
      go_upto_region 7 with (go_at_call 25; refine KE.out.mono ?_; rintro e w5 ⟨ea, ec, es', rfl, hr5, ho5, hb5⟩; have y8 := (hb5.cell (p := ⟨p, 8, none⟩) hpc).trans x8; have y9 := (hb5.cell (p := ⟨p, 9, none⟩) hpc).trans x9; have g8 := (hb5.frozen (p := ⟨p, 8, none⟩) hpc).trans f8; have g9 := (hb5.frozen (p := ⟨p, 9, none⟩) hpc).trans f9; have Hr5 := Lib.hid hr5; have Ho5 := Lib.hid ho5; have Hb5 := Lib.hid hb5; clear hr5 ho5 hb5)
      obtain ⟨w6, hw6⟩ : ∃ V, V = w5.setCell ⟨p, 9, none⟩ (.slice ea s.en ec) := ⟨_, rfl⟩
      have hz5 := Hb5.out.size
      have hz6 : w6.heap.size = w5.heap.size := by rw [hw6, World.size_setCell]
      have hE6 : w6.rangeAt p 0 (s.l.set 9 (.slice ea s.en ec)) := by rw [hw6]; exact SeenAt.set1 (HE.out.below Hb5.out) 9 (show 9 < 19 by decide) _
      have z8 : w6.cell? ⟨p, 8, none⟩ = some (.slice s.ba s.bn s.bc) := by rw [hw6, World.cell?_setCell_other _ _ _ _ (by simp)]; exact y8
      have h8 : w6.frozen? ⟨p, 8, none⟩ = false := by rw [hw6, World.frozen?_setCell]; exact g8
      have hb6 : Below wr.heap.size wr w6 := by rw [hw6, Hp.out]; exact (HBc.out.trans (Hb5.out.mono HBc.out.size)).setCell (Nat.le_refl _) _
      have hr6 : Row w6 wc.heap.size 60 24 (.slice ea s.en ec) s.en (es'.map EntA.l).flatten := by rw [hw6]; exact Row.setCell Hr5.out (fun q hq e => by have := (Row.lt Hr5.out q hq).1; simp only at e; omega) _
      have hm6 : ∀ e ∈ es', MemR w6 wc.heap.size e := fun e he => by rw [hw6]; exact Row.setCell (Ho5.out.mem e he).1 (fun q hq e2 => by have := (Row.lt (Ho5.out.mem e he).1 q hq).1; simp only at e2; omega) _
      rw [← hw6]
      have HE6 := Lib.hid hE6
      have Hb6 := Lib.hid hb6
      have Hr6 := Lib.hid hr6
      have Hm6 := Lib.hid hm6
      have hzr6 := hb6.size
      have hp6 : p < w6.heap.size := by omega
      have KI := Lib.hid (ownints_any s.ba s.bn s.bc s.bm w6 ((HsI.out.bm.below hB.out).below hb6) Hsw.out.1)
      clear hw6 hE6 hb6 hr6 hm6 y8 y9 g8 g9 x8 x9 f8 f9 KE
      go_upto_region 8 with (go_at_call 26; refine KI.out.mono ?_; rintro e w7 ⟨v7, rfl, hr7, hb7⟩; obtain ⟨ba, bc, rfl⟩ := row_slice hr7; have y8 := (hb7.cell (p := ⟨p, 8, none⟩) hp6).trans z8; have g8 := (hb7.frozen (p := ⟨p, 8, none⟩) hp6).trans h8; have Hr7 := Lib.hid hr7; have Hb7 := Lib.hid hb7; clear hr7 hb7)
      obtain ⟨w8, hw8⟩ : ∃ V, V = w7.setCell ⟨p, 8, none⟩ (.slice ba s.bn bc) := ⟨_, rfl⟩
      have hz7 := Hb7.out.size
      obtain ⟨s', hs'⟩ : ∃ s', s' = s.at_ ba bc ea ec es' := ⟨_, rfl⟩
      have hE8 : SeenAt w8 p 0 s' := by
        rw [hw8, hs', SeenAt, SeenA.at_l]
        have h7 : w7.rangeAt p 0 (s.l.set 9 (.slice ea s.en ec)) := fun j u hu => (Hb7.out.cell (p := ⟨p, 0 + j, none⟩) hp6).trans (HE6.out j u hu)
        exact SeenAt.set1 h7 8 (show 8 < 19 by decide) _
      have hb8 : Below wr.heap.size wr w8 := by rw [hw8, Hp.out]; exact (Hb6.out.trans (Hb7.out.mono Hb6.out.size)).setCell (Nat.le_refl _) _
      have hlen' : es'.length = s.en := by
        have h1 := congrArg List.length Ho5.out.of
        rw [List.length_map, List.length_map, HsI.out.es.len] at h1
        exact h1
      have hme : ∀ e ∈ es', e.mem.length = e.mn := fun e he => by
        have : e.norm ∈ s.es.map EntA.norm := by rw [← Ho5.out.of]; exact List.mem_map_of_mem he
        obtain ⟨e2, he2, h2⟩ := List.mem_map.1 this
        have h3' := congrArg EntA.mem h2
        have h3 : e2.mem = e.mem := h3'
        have h4' := congrArg EntA.mn h2
        have h4 : e2.mn = e.mn := h4'
        have := Ints.len (HsI.out.es.mem e2 he2)
        rw [← h3, ← h4]; exact this
      have hS8 : Safe w8 (.slice ra k rc) s' := by
        rw [hs', hw8]
        refine Safe.new HsI.out ?_ (fun q hq => ⟨(Row.lt hR.out q hq).1, (Row.lt hR.out q hq).2⟩) ?_ ?_ (fun e he => ?_) hme hlen'
        · exact (hB.out.trans ((Hb6.out.trans (Hb7.out.mono Hb6.out.size)).mono hzw)).setCell (by rw [Hp.out]; exact hzw) _
        · exact Row.mono (Row.setCell Hr7.out (fun q hq e => by have := (Row.lt Hr7.out q hq).1; simp only at e; omega) _) (by omega)
        · exact Row.mono (Row.setCell (Row.below Hr6.out Hb7.out) (fun q hq e => by have := (Row.lt Hr6.out q hq).1; simp only at e; omega) _) (by omega)
        · exact Row.mono (Row.setCell (Row.below (Hm6.out e he) Hb7.out) (fun q hq e2 => by have := (Row.lt (Hm6.out e he) q hq).1; simp only at e2; omega) _) (by omega)
      have hno : s'.norm = s.norm := by rw [hs']; exact SeenA.norm_at s ba bc ea ec Ho5.out.of
      rw [← hw8]
      have HL8 := Lib.hid hE8.load
      have HS8 := Lib.hid hS8
      have Hno := Lib.hid hno
      have Hb8 := Lib.hid hb8
      have hz8 := hb8.size
      clear hw8 hs' hE8 hb8 hS8 hno hme hlen' y8 g8 z8 h8 KI
      go_wp2_with (first | (refine wpList_loadK rfl (by rfl) rfl (by exact HL8.out) ?_; simp only [Act.put, List.setIfInBounds_toArray, List.set_cons_succ, List.set_cons_zero]) | (refine wpList_build1 (by rfl) 22 49 _ rfl s'.l rfl 19 i0 _ Try.underlying22 Hi.out iz0 iz1 (by decide) (by decide) rfl ?_; simp only [Act.put, List.setIfInBounds_toArray, List.set_cons_succ, List.set_cons_zero]) | (at_builtin; refine wpList_append_at _ rfl _ _ 22 rfl w.heap.size 49 i0 _ 19 224 Try.underlying22 Hi.out iz0 iz1 iz2 rfl (by decide) (.slice ra k rc) _ _ rfl (Row.alloc (Row.below hR.out Hb8.out) _) rfl (seens_one w8 _ s' _ rfl) (by omega) (by unfold maxLen; omega) (by rw [World.size_alloc]; omega) ?_; intro v9 w9 hr9 hg9 ho9; obtain ⟨a9, k9, rfl⟩ := row_slice hr9; have HR9 := Lib.hid hr9; have HS9 := Lib.hid (show ∀ x ∈ l' ++ [s'], Safe w9 (.slice a9 (k + 1) k9) x from fun x hx => (List.mem_append.1 hx).elim (fun h => ((hS.out x h).below Hb8.out).app hg9 ho9) (fun h => by rw [List.mem_singleton.1 h]; exact HS8.out.app hg9 ho9)); have HB9 := Lib.hid (((hB.out.trans (Hb8.out.mono hzw)).alloc (by omega) _).grown hg9 (by rw [World.size_alloc]; omega) (fun q hq => (Row.lt hR.out q hq).1)); clear hr9 hg9 ho9))
      exact ⟨⟨k + 1, a9, k9, l' ++ [s'], by omega, by go_num, rfl, Lib.hid (by rw [List.map_append, List.flatten_append]; exact HR9.out), Lib.hid (by rw [Htk.out, List.map_append, hO.out]; show _ ++ [s'.norm] = _; rw [Hno.out]), HS9, HB9⟩, by simp [intOf]; omega⟩
    · obtain rfl : k = n := by omega
      have Hall : Hid (l.take k = l) := Lib.hid (List.take_of_length_le (by rw [Hn.out]; exact Nat.le_refl _))
      have hO2 : Hid (l'.map SeenA.norm = l.map SeenA.norm) := Lib.hid (by have := hO.out; rwa [Hall.out] at this)
      have hl' : l'.length = k := by have h1 := congrArg List.length hO2.out; rw [List.length_map, List.length_map, Hn.out] at h1; exact h1
      have HA := Lib.hid (row_arr (by decide) (by rw [List.length_map]; exact hl') hR.out (seen_elems l'))
      clear hl'
      go_wp2_with fail
      go_returns
      exact ⟨ra, rc, l', rfl, ⟨HA.out, fun s hs => (hS.out s hs).in_⟩, hO2.out, hB.out⟩
end Go.Proofs.Yteibnignjghedaa
