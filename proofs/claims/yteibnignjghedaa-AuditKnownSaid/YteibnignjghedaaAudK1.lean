/-
  The chapter's examples: the walk of acreagelaw32.AuditKnown.
-/
import Derived.Test.YteibnignjghedaaAudKW
namespace Go.Proofs.Yteibnignjghedaa
open Go.RowKit Go.Sort

def oneLike (s : SeenA) : Prop := s.Ok ∧ s.bn * 8 ≤ 140737488355328 ∧ ∀ e ∈ s.es, e.mn * 8 ≤ 140737488355328
/-- two examples, and what a check finds in them -/
theorem fault_lit {a b : SeenA} {f1 f2 : Int} (V : World) (ha : a.In V) (hb : b.In V) (ka : oneLike a) (kb : oneLike b) (h : checkL [a, b] = [(f1, f2)]) :
    Calls Try.prog 17 #[.agg a.l.toArray, .agg b.l.toArray, .agg #[.int .i64 f1, .int .i64 f2]] V fun e w' => e = .returned (.bool true) ∧ Below V.heap.size V w' := by
  refine (fault_any a b f1 f2 V ha hb ka.1 kb.1 ka.2 kb.2).mono ?_
  rintro e w' ⟨rfl, hb⟩
  rw [h]
  exact ⟨by rw [decide_eq_true rfl], hb⟩
theorem ok_of {s t : SeenA} (h : oneLike s) (h1 : t.lo.size ≤ maxLen) (h2 : t.hi.size ≤ maxLen) (h3 : 0 ≤ t.bidx ∧ t.bidx ≤ 18446744073709551615) (h4 : 0 ≤ t.bterm ∧ t.bterm ≤ 18446744073709551615) (h5 : 0 ≤ t.com ∧ t.com ≤ 18446744073709551615) (h6 : 0 ≤ t.app) (h7 : t.bn * 8 ≤ 140737488355328) (h8 : ∀ e ∈ t.es, e.Ok ∧ e.mn * 8 ≤ 140737488355328) : oneLike t :=
  ⟨⟨h1, h2, h3.1, h3.2, h4.1, h4.2, h5.1, h5.2, h6, fun e he => (h8 e he).1⟩, h7, fun e he => (h8 e he).2⟩
theorem one_like (k : Int) (g : Nat) : oneLike (oneS k g) := ⟨oneS_ok k g, oneS_wt k g⟩
theorem ents_ok1 {e : EntA} (h : e.Ok ∧ e.mn * 8 ≤ 140737488355328) : ∀ x ∈ [e], x.Ok ∧ x.mn * 8 ≤ 140737488355328 := fun x hx => by rw [List.mem_singleton.1 hx]; exact h
theorem oneE_ok : oneE.Ok ∧ oneE.mn * 8 ≤ 140737488355328 := ⟨⟨by decide, by decide, by decide, by decide⟩, by show 0 * 8 ≤ _; omega⟩
theorem ent3_ok : ent3.Ok ∧ ent3.mn * 8 ≤ 140737488355328 := ⟨⟨by decide, by decide, by decide, by decide⟩, by show 0 * 8 ≤ _; omega⟩
theorem entSeq_ok : entSeq.Ok ∧ entSeq.mn * 8 ≤ 140737488355328 := ⟨⟨by decide, by decide, by decide, by decide⟩, by show 0 * 8 ≤ _; omega⟩

theorem wpList_store_cell {P : Program} {w : World} {ops : Array Oper} {rest : List Oper} {o : Oper} {a : Act} {Q : Exit → Act → World → Prop} {ty : TypeId} {x y : Operand} (p k : Nat) (u : Value) (hg : o.guard = none) (hop : o.op = .store ty x y)
    (hx : a.eval x = .pointer (some ⟨p, k, none⟩)) (hy : a.eval y = u) (hth : w.there p k 1) (hi : (P.info? ty).map (·.size) = some 1) (h1 : u.oneCell' = true)
    (h : wpList P ops Q rest (a.put o.dst undef) (w.setCell ⟨p, k, none⟩ u)) : wpList P ops Q (o :: rest) a w := by
  refine wpList_plain hg fun K hK => ?_
  have h0 : w.there p k (#[u] : Array Value).size := hth
  have hs := run_storeVar_mid (P := P) w p k ty #[u] h0 hi (by simp [h1])
  have hs2 : (storeVar ty ⟨p, k, none⟩ u).run P w = .ok () (w.setCell ⟨p, k, none⟩ u) := by
    have hc : u.cells = #[u] := by cases u <;> first | rfl | cases h1
    have : storeVar ty ⟨p, k, none⟩ u = storeVar ty ⟨p, k, none⟩ (.agg #[u]) := by
      unfold storeVar
      rw [hc]
      rfl
    rw [this]
    exact hs
  unfold Oper.wp execOp
  simp only [hop, hx, hy, Instr.storeAt, Instr.sureAddr, Sem.run_bind, Sem.run_pure, Result.andThen_ok, hs2]
  exact hK _ _ h
theorem VarS.th1 {P : Nat → Prop} {V : World} {p : Nat} {s : SeenA} (h : VarS P V p s) (k : Nat) (hk : k < 19) : V.there p k 1 := fun j hj => by
  have := h.th k hk
  obtain rfl : j = 0 := by omega
  rwa [Nat.zero_add] at this

theorem there_sub {V : World} {p : Nat} (h : V.there p 0 19) (k n : Nat) (hk : k + n ≤ 19) : V.there p k n := fun j hj => by
  have := h (k + j) (by omega)
  rwa [Nat.zero_add] at this
theorem there_sub24 {V : World} {p : Nat} (h : V.there p 0 24) (k : Nat) (hk : k < 24) : V.there p k 1 := fun j hj => by
  have := h (k + j) (by omega)
  rwa [Nat.zero_add] at this
theorem ints2_new (w : World) (T : TypeId) (b : Nat) (x y : Int) (hb : b = w.heap.size) : Ints (w.alloc (.cells #[.int .i64 x, .int .i64 y] T)) (some ⟨b, 0, none⟩) 2 2 [x, y] := by
  subst hb
  refine ⟨intE_elems _, rfl, Nat.le_refl _, by unfold maxLen; omega, fun _ => ⟨w.heap.size, 0, rfl, by rw [World.size_alloc]; omega, fun i e he j u hu => ?_⟩⟩
  match i, he with
  | 0, he => cases he; match j, hu with
    | 0, hu => cases hu; rw [World.cell?_alloc_new]; rfl
  | 1, he => cases he; match j, hu with
    | 0, hu => cases hu; rw [World.cell?_alloc_new]; rfl
theorem ints1_new (w : World) (T : TypeId) (b : Nat) (x : Int) (hb : b = w.heap.size) : Ints (w.alloc (.cells #[.int .i64 x] T)) (some ⟨b, 0, none⟩) 1 1 [x] := by
  subst hb
  refine ⟨intE_elems _, rfl, Nat.le_refl _, by unfold maxLen; omega, fun _ => ⟨w.heap.size, 0, rfl, by rw [World.size_alloc]; omega, fun i e he j u hu => ?_⟩⟩
  match i, he with
  | 0, he => cases he; match j, hu with
    | 0, hu => cases hu; rw [World.cell?_alloc_new]; rfl

theorem says_single {cs : List LocI} {gr : Int} {lo hi : ByteArray} {ep : Int} {nd : List Int} (h : cs.map LocI.says = [(gr, lo, hi, ep, nd)]) : ∃ na nn nc, cs = [⟨gr, lo, hi, ep, na, nn, nc, nd⟩] := by
  match cs, h with
  | [⟨gr, lo, hi, ep, na, nn, nc, nd⟩], h =>
    simp only [List.map_cons, List.map_nil, LocI.says, List.cons.injEq, Prod.mk.injEq, and_true] at h
    obtain ⟨rfl, rfl, rfl, rfl, rfl⟩ := h
    exact ⟨na, nn, nc, rfl⟩
theorem like_all {a b : SeenA} (ka : oneLike a) (kb : oneLike b) : (∀ s ∈ [a, b], s.Ok) ∧ (∀ s ∈ [a, b], s.bn * 8 ≤ 140737488355328 ∧ ∀ e ∈ s.es, e.mn * 8 ≤ 140737488355328) :=
  ⟨fun s hs => by simp only [List.mem_cons, List.not_mem_nil, or_false] at hs; rcases hs with rfl | rfl; exact ka.1; exact kb.1, fun s hs => by simp only [List.mem_cons, List.not_mem_nil, or_false] at hs; rcases hs with rfl | rfl; exact ka.2; exact kb.2⟩
theorem chk1_any {s : SeenA} (f1 : Int) (V : World) (hs : s.In V) (ks : oneLike s) (h : checkL [s] = [(f1, 0)]) : Calls Try.prog 9 #[.slice (some ⟨V.heap.size, 0, none⟩) 1 1] (V.alloc (.cells s.l.toArray 49)) fun e w' => ∃ g c, e = .returned (.slice (some ⟨g, 0, none⟩) 1 c) ∧ V.heap.size ≤ g ∧ g < w'.heap.size ∧ w'.cell? ⟨g, 0, none⟩ = some (.int .i64 f1) ∧ w'.cell? ⟨g, 1, none⟩ = some (.int .i64 0) ∧ Below V.heap.size V w' := by
  refine (acheck_any _ 1 1 [s] _ (seens_1 V 49 s V.heap.size rfl hs) (fun x hx => by rw [List.mem_singleton.1 hx]; exact ks.1) (fun x hx => by rw [List.mem_singleton.1 hx]; exact ks.2) (by omega)).mono ?_
  rintro e w' ⟨v, rfl, hr, hb⟩
  rw [h] at hr
  rcases hr.form with ⟨_, h0⟩ | ⟨g, c, rfl, hg, hgl, _, _⟩
  · cases h0
  refine ⟨g, c, rfl, ?_, hgl, ?_, ?_, Below.trans ((Below.refl V.heap.size V).alloc (Nat.le_refl _) _) (hb.mono (by rw [World.size_alloc]; omega))⟩
  · rw [World.size_alloc] at hg; omega
  · exact Row.cell hr 0 (show 0 < 2 by decide)
  · exact Row.cell hr 1 (show 1 < 2 by decide)
theorem chk2_any {a b : SeenA} (V : World) (ha : a.In V) (hb : b.In V) (ka : oneLike a) (kb : oneLike b) (h : checkL [a, b] = []) : Calls Try.prog 9 #[.slice (some ⟨V.heap.size, 0, none⟩) 2 2] (V.alloc (.cells (a.l ++ b.l).toArray 49)) fun e w' => ∃ a c, e = .returned (.slice a 0 c) ∧ Below V.heap.size V w' := by
  refine (acheck_any _ 2 2 [a, b] _ (seens_two V 49 a b V.heap.size rfl ha hb) (like_all ka kb).1 (like_all ka kb).2 (by omega)).mono ?_
  rintro e w' ⟨v, rfl, hr, hb⟩
  rw [h] at hr
  obtain ⟨a, c, rfl⟩ := row_slice hr
  exact ⟨a, c, rfl, Below.trans ((Below.refl V.heap.size V).alloc (Nat.le_refl _) _) (hb.mono (by rw [World.size_alloc]; omega))⟩
theorem sum_int (l : List Int) : (l.map (List.length ∘ intE)).sum = l.length := by
  induction l with
  | nil => rfl
  | cons a l ih => rw [List.map_cons, List.sum_cons, ih, List.length_cons]; show 1 + l.length = _; omega
theorem tab2_any {a b : SeenA} (n : Nat) {gr : Int} {lo hi : ByteArray} {ep : Int} {nd : List Int} (V : World) (ha : a.In V) (hb : b.In V) (ka : oneLike a) (kb : oneLike b) (h : tabsL [a, b] = [(gr, lo, hi, ep, nd)]) (hn : nd.length = n) : Calls Try.prog 13 #[.slice (some ⟨V.heap.size, 0, none⟩) 2 2] (V.alloc (.cells (a.l ++ b.l).toArray 49)) fun e w' => ∃ g tc na nc, e = .returned (.slice (some ⟨g, 0, none⟩) 1 tc) ∧ V.heap.size ≤ g ∧ g < w'.heap.size ∧ w'.cell? ⟨g, 4, none⟩ = some (.slice na n nc) ∧ Below V.heap.size V w' := by
  refine (tablets_any _ 2 2 [a, b] _ (seens_two V 49 a b V.heap.size rfl ha hb) (like_all ka kb).2).mono ?_
  rintro e w' ⟨v, cs, rfl, hr, hN, hS, hb⟩
  rw [h] at hS
  obtain ⟨na, nn, nc, rfl⟩ := says_single hS
  have hn3 : nn = n := by
    have := (hN _ (List.mem_singleton.2 rfl)).1
    rw [← hn, ← sum_int]
    simpa [intE] using this.symm
  subst hn3
  rcases hr.form with ⟨_, h0⟩ | ⟨g, c, rfl, hg, hgl, _, _⟩
  · cases h0
  refine ⟨g, c, na, nc, rfl, ?_, hgl, ?_, Below.trans ((Below.refl V.heap.size V).alloc (Nat.le_refl _) _) (hb.mono (by rw [World.size_alloc]; omega))⟩
  · rw [World.size_alloc] at hg; omega
  · exact Row.cell hr 4 (show 4 < 5 by decide)
/-- a variable laid anew -/
theorem newvar {k : Int} {g : Nat} {v : World} (T : TypeId) (hI : (oneS k g).In v) (hg : g + 1 < v.heap.size) : VarS (fun j => j = v.heap.size) ((v.alloc (.cells seenZ T)).setCells v.heap.size 0 (oneS k g).l) v.heap.size (oneS k g) := by
  have hbU : Below v.heap.size v (v.alloc (.cells seenZ T)) := (Below.refl _ _).alloc (Nat.le_refl _) _
  have h1 := heap_alloc_new v (.cells seenZ T)
  have hT : (v.alloc (.cells seenZ T)).there v.heap.size 0 19 := there_of h1
  have hS : SafeV (fun j => j = v.heap.size) (v.alloc (.cells seenZ T)) (oneS k g) := one_safe (hI.below hbU) (by rw [World.size_alloc]; omega) (by omega) (by omega)
  have h2 : SeenAt ((v.alloc (.cells seenZ T)).setCells v.heap.size 0 (oneS k g).l) v.heap.size 0 (oneS k g) := World.rangeAt_setCells_same _ _ _ _ hT
  refine ⟨h2, ?_, rfl, hS.kept (KeptV.sets (P := fun j => j = v.heap.size) rfl 0 _)⟩
  intro j hj
  have h3 := h2 j _ (List.getElem?_eq_getElem (show j < (oneS k g).l.length from hj))
  refine ⟨by rw [h3]; rfl, ?_⟩
  rw [frozen_setCells]
  exact (hT j hj).2
theorem one_there (v : World) (T : TypeId) : (v.alloc (.cells seenZ T)).there v.heap.size 0 19 := there_of (heap_alloc_new v (.cells seenZ T))
theorem newvar_below {B b : World} {v : World} (T : TypeId) (vs : List Value) (h : Below B.heap.size B b) (hb : Below b.heap.size b v) : Below B.heap.size B ((v.alloc (.cells seenZ T)).setCells v.heap.size 0 vs) := by
  have h1 : Below v.heap.size v ((v.alloc (.cells seenZ T)).setCells v.heap.size 0 vs) := Below.setCells (Nat.le_refl _) _ _ ((Below.refl _ _).alloc (Nat.le_refl _) _)
  have h2 := h.trans (hb.mono h.size)
  exact h2.trans (h1.mono h2.size)

theorem two_vars {w2 : World} {k1 k2 : Int} {g1 g2 : Nat} (T : TypeId) (hI1 : (oneS k1 g1).In w2) (hI2 : (oneS k2 g2).In w2) (hg1 : g1 + 1 < w2.heap.size) (hg2 : g2 + 1 < w2.heap.size) :
    VarS (fun k => k = w2.heap.size ∨ k = w2.heap.size + 1) ((((w2.alloc (.cells seenZ T)).alloc (.cells seenZ T)).setCells w2.heap.size 0 (oneS k1 g1).l).setCells (w2.heap.size + 1) 0 (oneS k2 g2).l) w2.heap.size (oneS k1 g1) ∧ VarS (fun k => k = w2.heap.size ∨ k = w2.heap.size + 1) ((((w2.alloc (.cells seenZ T)).alloc (.cells seenZ T)).setCells w2.heap.size 0 (oneS k1 g1).l).setCells (w2.heap.size + 1) 0 (oneS k2 g2).l) (w2.heap.size + 1) (oneS k2 g2) := by
  obtain ⟨U0, hU0⟩ : ∃ U : World, U = (w2.alloc (.cells seenZ T)).alloc (.cells seenZ T) := ⟨_, rfl⟩
  obtain ⟨W, hW⟩ : ∃ W : World, W = (U0.setCells w2.heap.size 0 (oneS k1 g1).l).setCells (w2.heap.size + 1) 0 (oneS k2 g2).l := ⟨_, rfl⟩
  rw [← hU0, ← hW]
  have HT1 := (two_there w2 T).1
  have HT2 := there_set (b := w2.heap.size) (vs := (oneS k1 g1).l) (o := 0) (by omega) (two_there w2 T).2
  rw [← hU0] at HT1 HT2
  have hbU : Below w2.heap.size w2 U0 := by rw [hU0]; exact ((Below.refl _ _).alloc (Nat.le_refl _) _).alloc (by rw [World.size_alloc]; omega) _
  have hzU : U0.heap.size = w2.heap.size + 2 := by rw [hU0, World.size_alloc, World.size_alloc]
  have hk : KeptV (fun k => k = w2.heap.size ∨ k = w2.heap.size + 1) U0 W := by
    rw [hW]
    exact (KeptV.sets (.inl rfl) 0 (oneS k1 g1).l).trans (KeptV.sets (.inr rfl) 0 (oneS k2 g2).l)
  have hSA : SafeV (fun k => k = w2.heap.size ∨ k = w2.heap.size + 1) W (oneS k1 g1) := (one_safe (hI1.below hbU) (by omega) (by omega) (by omega)).kept hk
  have hSB : SafeV (fun k => k = w2.heap.size ∨ k = w2.heap.size + 1) W (oneS k2 g2) := (one_safe (hI2.below hbU) (by omega) (by omega) (by omega)).kept hk
  have h1 : SeenAt (U0.setCells w2.heap.size 0 (oneS k1 g1).l) w2.heap.size 0 (oneS k1 g1) := World.rangeAt_setCells_same _ _ _ _ HT1
  have h2 : SeenAt W (w2.heap.size + 1) 0 (oneS k2 g2) := by rw [hW]; exact World.rangeAt_setCells_same _ _ _ _ HT2
  refine ⟨⟨?_, ?_, .inl rfl, hSA⟩, ⟨h2, ?_, .inr rfl, hSB⟩⟩
  · rw [hW]; exact h1.same (heap_setCells (by omega) _ _ _)
  · rw [hW]
    refine there_set (by omega) (fun j hj => ?_)
    have h3 := h1 j _ (List.getElem?_eq_getElem (show j < (oneS k1 g1).l.length from hj))
    refine ⟨by rw [h3]; rfl, ?_⟩
    rw [frozen_setCells]
    exact (HT1 j hj).2
  · intro j hj
    have h3 := h2 j _ (List.getElem?_eq_getElem (show j < (oneS k2 g2).l.length from hj))
    refine ⟨by rw [h3]; rfl, ?_⟩
    rw [hW, frozen_setCells]
    exact (HT2 j hj).2
theorem two_vars_below {B b v : World} (T : TypeId) (vs vs2 : List Value) (h : Below B.heap.size B b) (hb : Below b.heap.size b v) : Below B.heap.size B ((((v.alloc (.cells seenZ T)).alloc (.cells seenZ T)).setCells v.heap.size 0 vs).setCells (v.heap.size + 1) 0 vs2) := by
  have h1 : Below v.heap.size v ((((v.alloc (.cells seenZ T)).alloc (.cells seenZ T)).setCells v.heap.size 0 vs).setCells (v.heap.size + 1) 0 vs2) := Below.setCells (by omega) _ _ (Below.setCells (Nat.le_refl _) _ _ (((Below.refl _ _).alloc (Nat.le_refl _) _).alloc (by rw [World.size_alloc]; omega) _))
  have h2 := h.trans (hb.mono h.size)
  exact h2.trans (h1.mono h2.size)

theorem fault_load {w : World} {g : Nat} {f1 : Int} (h0 : w.cell? ⟨g, 0, none⟩ = some (.int .i64 f1)) (h1 : w.cell? ⟨g, 1, none⟩ = some (.int .i64 0)) : (Instr.loadAt 65 (.pointer (some ⟨g, 0, none⟩))).run Try.prog w = .ok (.agg #[.int .i64 f1, .int .i64 0]) w := by
  have h : w.rangeAt g 0 [.int .i64 f1, .int .i64 0] := fun j v hv => by
    match j, hv with
    | 0, hv => cases hv; exact h0
    | 1, hv => cases hv; exact h1
  simp only [Instr.loadAt, Instr.sureAddr, Sem.run_bind, Sem.run_pure, Result.andThen_ok, run_loadVar_mid w g 0 65 _ _ h Try.underlying65 rfl (by kernel_rfl)]

set_option maxRecDepth 100000 in
set_option maxHeartbeats 2000000 in
theorem one_gf (k : Int) (w : World) : Calls Try.prog 16 #[.int .i64 k] w fun e w' => ∃ g, e = .returned (oneS k g).v ∧ (oneS k g).In w' ∧ w.heap.size ≤ g ∧ g + 1 < w'.heap.size ∧ w'.there (g + 1) 0 24 ∧ Below w.heap.size w w' := by
  go_enter Try.func16, Try.ntmps16
  go_upto_region 1 with fail
  obtain ⟨zs, hzs⟩ : ∃ zs : Array Value, zs = #[.int .i64 0, .int .i64 0, .bool false, .bool false, .int .u64 0, .int .i64 0, .int .u64 0, .int .u64 0, .slice none 0 0, .slice none 0 0, .int .u64 0, .int .u64 0, .string ⟨#[]⟩, .string ⟨#[]⟩, .int .u64 0, .bool false, .slice none 0 0, .slice none 0 0, .int .i64 0] := ⟨_, rfl⟩
  rw [← hzs]
  have hzn : zs.size = 19 := by rw [hzs]; rfl
  obtain ⟨W, hW⟩ : ∃ W : World, W = w.alloc (.cells zs 49) := ⟨_, rfl⟩
  rw [← hW]
  obtain ⟨p, hp⟩ : ∃ p, p = w.heap.size := ⟨_, rfl⟩
  rw [← hp]
  have hWp : W.heap[p]? = some (.cells zs 49) := by rw [hW, hp]; exact heap_alloc_new _ _
  have hWz : W.heap.size = p + 1 := by rw [hW, hp]; simp
  have HT : Hid (∀ o1 o2 : Obj, ((W.alloc o1).alloc o2).there p 0 19) := Lib.hid (fun o1 o2 => by
    have h1 : ((W.alloc o1).alloc o2).heap[p]? = some (.cells zs 49) := by
      have hb : Below W.heap.size W ((W.alloc o1).alloc o2) := ((Below.refl _ _).alloc (Nat.le_refl _) _).alloc (by simp) _
      exact (hb.block p (by omega)).trans hWp
    rw [← hzn]
    exact there_of h1)
  have HWz := Lib.hid hWz
  have HbW := Lib.hid (show Below w.heap.size w W from by rw [hW]; exact (Below.refl _ _).alloc (Nat.le_refl _) _)
  have Hp := Lib.hid hp
  clear hzs hW hp hWp hzn hWz
  go_wp2_with (first | (with_reducible refine bodyPost_ret (v := .agg (oneS k W.heap.size).l.toArray) ?hr ?hd ?hR) | (refine wpList_store_mid rfl _ _ _ rfl p 0 (oneS k W.heap.size).l.toArray rfl rfl (HT.out _ _) (by kernel_rfl) (SeenA.all _) ?_; simp only [Act.put, List.setIfInBounds_toArray, List.set_cons_succ, List.set_cons_zero]))
  case hd => rfl
  all_goals
    have hth : ((W.alloc (.cells #[.int .i64 0, .int .i64 1, .int .i64 2] 3)).alloc (.cells oneE.l.toArray 60)).there p 0 19 := HT.out _ _
    have hE : SeenAt (((W.alloc (.cells #[.int .i64 0, .int .i64 1, .int .i64 2] 3)).alloc (.cells oneE.l.toArray 60)).setCells p 0 (oneS k W.heap.size).l) p 0 (oneS k W.heap.size) := World.rangeAt_setCells_same _ _ _ _ hth
  case hr =>
    rw [results_cell rfl]
    have hld := SeenAt.loadVar hE
    change ((asAddr (.pointer (some ⟨p, 0, none⟩))).run Try.prog (((W.alloc (.cells #[.int .i64 0, .int .i64 1, .int .i64 2] 3)).alloc (.cells oneE.l.toArray 60)).setCells p 0 (oneS k W.heap.size).l)).andThen _ = _
    simp [asAddr, Result.andThen, hld]
    rfl
  case hR =>
    have hp := Hp.out
    have hz := HWz.out
    refine ⟨W.heap.size, rfl, ⟨?_, ⟨?_, ?_⟩, ⟨Arr.nil _ _, fun c hc => by cases hc⟩, Arr.nil _ _⟩, by omega, by rw [size_setCells, World.size_alloc, World.size_alloc]; omega, ?_, ?_⟩
    · refine Arr.sameBlk (Ints.below (ints3_new W 3 W.heap.size rfl) ((Below.refl _ _).alloc (Nat.le_refl _) (.cells oneE.l.toArray 60))) (heap_setCells (by omega) _ _ _)
    · refine Arr.sameBlk (ents_one (W.alloc (.cells #[.int .i64 0, .int .i64 1, .int .i64 2] 3)) 60 oneE (W.heap.size + 1) (by rw [World.size_alloc])) (heap_setCells (by omega) _ _ _)
    · intro e he
      rw [show (oneS k W.heap.size).es = [oneE] from rfl, List.mem_singleton] at he
      subst he
      exact Arr.nil _ _
    · refine there_set (by omega) ?_
      have h1 := heap_alloc_new (W.alloc (.cells #[.int .i64 0, .int .i64 1, .int .i64 2] 3)) (.cells oneE.l.toArray 60)
      rw [World.size_alloc] at h1
      exact there_of h1
    · exact Below.setCells (by omega) _ _ ((HbW.out.alloc HbW.out.size _).alloc (by rw [World.size_alloc]; have := HbW.out.size; omega) _)
theorem ents_set {V : World} {g j : Nat} {e e' : EntA} {u : Value} (h : Ents V (some ⟨g, 0, none⟩) 1 1 [e]) (hl : e'.l = e.l.set j u) (hj : j < 24) (hm : e'.ma = none ∧ e'.mn = 0 ∧ e'.mc = 0 ∧ e'.mem = []) : Ents (V.setCell ⟨g, j, none⟩ u) (some ⟨g, 0, none⟩) 1 1 [e'] := by
  obtain ⟨b, off, e0, hb, hc⟩ := h.arr.lies (by omega)
  cases e0
  refine ⟨⟨ent_elems _, rfl, Nat.le_refl _, by unfold maxLen; omega, fun _ => ⟨g, 0, rfl, by rw [World.size_setCell]; exact hb, fun i x hx i' u' hu' => ?_⟩⟩, fun x hx => ?_⟩
  · match i, hx with
    | 0, hx =>
      cases hx
      have h1 : V.rangeAt g 0 e.l := fun a v hv => by
        have := hc 0 e.l rfl a v hv
        simpa using this
      have h2 := SeenAt.set1 h1 j (by rw [e.len]; exact hj) u
      rw [← hl] at h2
      have h3 := h2 i' u' hu'
      simpa using h3
  · rw [List.mem_singleton.1 hx]
    obtain ⟨h1, h2, h3, h4⟩ := hm
    rw [EntA.In, h1, h2, h3, h4]
    exact Arr.nil _ _

theorem tab0_any (V : World) : Calls Try.prog 13 #[.slice none 0 0] V fun e w' => ∃ a c, e = .returned (.slice a 0 c) ∧ Below V.heap.size V w' := by
  refine (tablets_any none 0 0 [] V ⟨Arr.nil _ _, fun s h => by cases h⟩ (fun s h => by cases h)).mono ?_
  rintro e w' ⟨v, cs, rfl, hr, hN, hS, hb⟩
  have h0 : tabsL [] = [] := (tabs_c _).trans (by kernel_rfl)
  rw [h0] at hS
  obtain rfl : cs = [] := List.map_eq_nil_iff.1 hS
  obtain ⟨a, c, rfl⟩ := row_slice hr
  exact ⟨a, c, rfl, hb⟩

set_option maxRecDepth 100000 in
set_option maxHeartbeats 20000000 in
theorem known_any (w : World) : Calls Try.prog 7 #[] w fun e w' => e = .returned (.bool true) ∧ Below w.heap.size w w' := by
  obtain ⟨i0, hi, iz0, iz1, iz2⟩ := info_parts Try.info_seen
  have Hi := Lib.hid hi
  obtain ⟨j0, hj, jz0, jz1, jz2⟩ := info_parts Try.info_ent
  have Hj := Lib.hid hj
  have K0 := Lib.hid (fun V => one_g 0 V)
  have K1 := Lib.hid (fun V => one_g 1 V)
  clear hi hj
  go_enter Try.func7, Try.ntmps7
  go_upto_region 2 with (first
    | ((go_at_call 16; with_reducible refine (K0.out _).mono ?_); rintro e w1 ⟨g1, rfl, hI1, hg1, hg1', hb1⟩; obtain ⟨A, hA⟩ : ∃ A, A = oneS 0 g1 := ⟨_, rfl⟩; rw [← hA] at hI1 ⊢; have HA := Lib.hid hA; clear hA; have HI1 := Lib.hid hI1; have Hb1 := Lib.hid hb1; clear hI1 hb1; simp only [SeenA.v])
    | ((go_at_call 16; with_reducible refine (K1.out _).mono ?_); rintro e w2 ⟨g2, rfl, hI2, hg2, hg2', hb2⟩; obtain ⟨B, hB⟩ : ∃ B, B = oneS 1 g2 := ⟨_, rfl⟩; rw [← hB] at hI2 ⊢; have HB := Lib.hid hB; clear hB; have HI2 := Lib.hid hI2; have Hb2 := Lib.hid hb2; have HT1 := Lib.hid (two_there w2 49).1; have HT2 := Lib.hid (there_set (b := w2.heap.size) (vs := A.l) (o := 0) (by omega) (two_there w2 49).2); clear hI2 hb2; simp only [SeenA.v])
    | (refine wpList_store_mid rfl _ _ _ rfl w2.heap.size 0 A.l.toArray rfl rfl ?ht1 (by kernel_rfl) (SeenA.all _) ?_; (case ht1 => exact HT1.out); simp only [Act.put, List.setIfInBounds_toArray, List.set_cons_succ, List.set_cons_zero])
    | (refine wpList_store_mid rfl _ _ _ rfl (w2.heap.size + 1) 0 B.l.toArray rfl rfl ?ht2 (by kernel_rfl) (SeenA.all _) ?_; (case ht2 => exact HT2.out); simp only [Act.put, List.setIfInBounds_toArray, List.set_cons_succ, List.set_cons_zero]))
  obtain ⟨U0, hU0⟩ : ∃ U : World, U = (w2.alloc (.cells seenZ 49)).alloc (.cells seenZ 49) := ⟨_, rfl⟩
  obtain ⟨W, hW⟩ : ∃ W : World, W = (U0.setCells w2.heap.size 0 A.l).setCells (w2.heap.size + 1) 0 B.l := ⟨_, rfl⟩
  obtain ⟨p, hp⟩ : ∃ p, p = w2.heap.size := ⟨_, rfl⟩
  obtain ⟨q, hq⟩ : ∃ q, q = w2.heap.size + 1 := ⟨_, rfl⟩
  have hz1 := Hb1.out.size
  have hz2 := Hb2.out.size
  have hVars : VarS (fun k => k = w2.heap.size ∨ k = w2.heap.size + 1) W w2.heap.size A ∧ VarS (fun k => k = w2.heap.size ∨ k = w2.heap.size + 1) W (w2.heap.size + 1) B := by
    have hbU : Below w2.heap.size w2 U0 := by rw [hU0]; exact ((Below.refl _ _).alloc (Nat.le_refl _) _).alloc (by rw [World.size_alloc]; omega) _
    have hzU := hbU.size
    have hk : KeptV (fun k => k = w2.heap.size ∨ k = w2.heap.size + 1) U0 W := by
      rw [hW]
      exact (KeptV.sets (.inl rfl) 0 A.l).trans (KeptV.sets (.inr rfl) 0 B.l)
    have hSA : SafeV (fun k => k = w2.heap.size ∨ k = w2.heap.size + 1) W A := by
      rw [HA.out]
      have h1 : (oneS 0 g1).In U0 := by have := (HI1.out.below Hb2.out).below hbU; rwa [HA.out] at this
      exact (one_safe h1 (by omega) (by omega) (by omega)).kept hk
    have hSB : SafeV (fun k => k = w2.heap.size ∨ k = w2.heap.size + 1) W B := by
      rw [HB.out]
      have h1 : (oneS 1 g2).In U0 := by have := HI2.out.below hbU; rwa [HB.out] at this
      exact (one_safe h1 (by omega) (by omega) (by omega)).kept hk
    have h1 : SeenAt (U0.setCells w2.heap.size 0 A.l) w2.heap.size 0 A := by rw [hU0]; exact World.rangeAt_setCells_same _ _ _ _ HT1.out
    have h2 : SeenAt W (w2.heap.size + 1) 0 B := by rw [hW, hU0]; exact World.rangeAt_setCells_same _ _ _ _ HT2.out
    refine ⟨⟨?_, ?_, .inl rfl, hSA⟩, ⟨h2, ?_, .inr rfl, hSB⟩⟩
    · rw [hW]; exact h1.same (heap_setCells (by omega) _ _ _)
    · rw [hW]
      refine there_set (by omega) (fun j hj => ?_)
      have h3 := h1 j _ (List.getElem?_eq_getElem (show j < A.l.length from hj))
      refine ⟨by rw [h3]; rfl, ?_⟩
      rw [frozen_setCells, hU0]
      exact (HT1.out j hj).2
    · intro j hj
      have h3 := h2 j _ (List.getElem?_eq_getElem (show j < B.l.length from hj))
      refine ⟨by rw [h3]; rfl, ?_⟩
      rw [hW, frozen_setCells, hU0]
      exact (HT2.out j hj).2
  have hbW : Below w.heap.size w W := by
    have hbU : Below w2.heap.size w2 U0 := by rw [hU0]; exact ((Below.refl _ _).alloc (Nat.le_refl _) _).alloc (by rw [World.size_alloc]; omega) _
    have h1 : Below w2.heap.size w2 W := by rw [hW]; exact Below.setCells (by omega) _ _ (Below.setCells (Nat.le_refl _) _ _ hbU)
    exact Hb1.out.trans ((Hb2.out.trans (h1.mono hz2)).mono hz1)
  have hwp : w.heap.size ≤ p := by omega
  have hwq : w.heap.size ≤ q := by omega
  have hpq : p ≠ q := by omega
  rw [hU0] at hW
  unfold seenZ at hW
  rw [← hW, ← hq, ← hp]
  rw [← hq, ← hp] at hVars
  have HV := Lib.hid hVars
  have HbW := Lib.hid hbW
  have Hpq := Lib.hid hpq
  clear hW hU0 hp hq hVars hbW HI1 HI2 HT1 HT2 hz1 hz2 Hb1 Hb2 hpq hg1 hg1' hg2 hg2'
  obtain ⟨C, rfl⟩ : ∃ X, X = B := ⟨_, rfl⟩
  have HC := HB
  clear HB
  obtain ⟨g, hg⟩ : ∃ g, g = W.heap.size := ⟨_, rfl⟩
  obtain ⟨D, hD⟩ : ∃ D, D = bEnt g2 g := ⟨_, rfl⟩
  go_upto_region 3 with (refine wpList_store_cell q 9 (.slice (some ⟨W.heap.size, 0, none⟩) 1 1) rfl rfl rfl rfl ?ht (by kernel_rfl) rfl ?_; (case ht => exact World.there_alloc (HV.out.2.th1 9 (by decide)) _); simp only [Act.put, List.setIfInBounds_toArray, List.set_cons_succ, List.set_cons_zero])
  change Code.wp _ _ _ _ ((W.alloc (.cells ent3.l.toArray 60)).setCell ⟨q, 9, none⟩ (.slice (some ⟨W.heap.size, 0, none⟩) 1 1))
  obtain ⟨V2, hVe2⟩ : ∃ V, V = W.alloc (.cells ent3.l.toArray 60) := ⟨_, rfl⟩
  rw [← hVe2]
  obtain ⟨X2, hX2⟩ : ∃ V, V = V2.setCell ⟨q, 9, none⟩ (.slice (some ⟨W.heap.size, 0, none⟩) 1 1) := ⟨_, rfl⟩
  have hbV : Below W.heap.size W V2 := by rw [hVe2]; exact (Below.refl _ _).alloc (Nat.le_refl _) _
  have hVV : VarS (fun k => k = p ∨ k = q) X2 p A ∧ VarS (fun k => k = p ∨ k = q) X2 q D := by
    have h1 := HV.out.1.lt
    have h2 := HV.out.2.lt
    have hz : V2.heap.size = W.heap.size + 1 := by rw [hVe2, World.size_alloc]
    rw [hX2]
    refine ⟨(HV.out.1.below hbV).other (.inr rfl) Hpq.out _ _, (HV.out.2.below hbV).put 9 (by decide) _ ?_ ?_⟩
    · rw [hD, HC.out, hg]; rfl
    · have hVe := hVe2
      have := (HV.out.2.below hbV).safe.ents (e := ent3) ⟨by rw [hVe]; exact ents_one _ _ ent3 _ rfl, fun e he => by rw [List.mem_singleton.1 he]; exact Arr.nil _ _⟩ (by omega) (by omega) ⟨rfl, rfl, rfl, rfl⟩
      rw [HC.out] at this
      rw [hD, hg]; exact this
  have hbX : Below w.heap.size w X2 := by rw [hX2]; exact (HbW.out.trans (hbV.mono HbW.out.size)).setCell hwq _
  rw [← hX2]
  clear hX2 hVe2 hbV HV HbW HC hg
  have HC := Lib.hid hD
  clear hD
  have HV := Lib.hid hVV
  have HbW := Lib.hid hbX
  clear hVV hbX
  obtain ⟨C, rfl⟩ : ∃ X, X = D := ⟨_, rfl⟩
  obtain ⟨ge2, rfl⟩ : ∃ x, x = g := ⟨_, rfl⟩
  have LA := Lib.hid HV.out.1.at_.load
  have LB := Lib.hid HV.out.2.at_.load
  have KF := Lib.hid (fault_lit (f1 := 6) (f2 := 1) X2 HV.out.1.safe.in_ HV.out.2.safe.in_ (by rw [HA.out]; exact one_like 0 _) (by rw [HC.out]; exact ok_of (one_like 1 g2) (Nat.zero_le _) (Nat.zero_le _) (of_decide_eq_true rfl) (of_decide_eq_true rfl) (of_decide_eq_true rfl) (of_decide_eq_true rfl) (show 3 * 8 ≤ _ by omega) (ents_ok1 ent3_ok)) (by rw [HA.out, HC.out]; exact k_ent g1 g2 ge2))
  go_upto_region 5 with (first | (refine wpList_loadK rfl (by rfl) rfl (by first | exact LA.out | exact LB.out) ?_; simp only [Act.put, List.setIfInBounds_toArray, List.set_cons_succ, List.set_cons_zero]) | ((go_at_call 17; refine KF.out.mono ?_); rintro e v3 ⟨rfl, hb⟩; have Hb := Lib.hid hb; clear hb))
  have hV3 : VarS (fun k => k = p ∨ k = q) v3 p A ∧ VarS (fun k => k = p ∨ k = q) v3 q C := ⟨HV.out.1.below Hb.out, HV.out.2.below Hb.out⟩
  have hbW3 := HbW.out.trans (Hb.out.mono HbW.out.size)
  clear HV HbW Hb LA LB KF HC
  have HV := Lib.hid hV3
  have HbW := Lib.hid hbW3
  clear hV3 hbW3
  go_upto_region 6 with (first
    | ((go_at_call 16; with_reducible refine (K1.out _).mono ?_); rintro e v10 ⟨g10, rfl, hI, hg, hg', hb⟩; obtain ⟨C, hC⟩ : ∃ C, C = oneS 1 g10 := ⟨_, rfl⟩; rw [← hC] at hI ⊢; have HC := Lib.hid hC; clear hC; have HI := Lib.hid hI; have Hg := Lib.hid (And.intro hg hg'); have Hb := Lib.hid hb; have HT := Lib.hid ((HV.out.2.below hb).th); clear hI hb hg hg'; simp only [SeenA.v])
    | (refine wpList_store_mid rfl _ _ _ rfl q 0 C.l.toArray rfl rfl ?ht10 (by kernel_rfl) (SeenA.all _) ?_; (case ht10 => exact HT.out); simp only [Act.put, List.setIfInBounds_toArray, List.set_cons_succ, List.set_cons_zero]))
  obtain ⟨W10, hW10⟩ : ∃ V, V = v10.setCells q 0 C.l := ⟨_, rfl⟩
  have hV10 : VarS (fun k => k = p ∨ k = q) W10 p A ∧ VarS (fun k => k = p ∨ k = q) W10 q C := by
    have h1 := HV.out.1.lt
    have h2 := HV.out.2.lt
    have h3 := Hg.out.1
    have hS : SafeV (fun k => k = p ∨ k = q) v10 C := by
      rw [HC.out]
      exact one_safe (by have := HI.out; rwa [HC.out] at this) Hg.out.2 (by omega) (by omega)
    rw [hW10]
    exact ⟨(HV.out.1.below Hb.out).others (.inr rfl) Hpq.out 0 _, (HV.out.2.below Hb.out).whole hS⟩
  have hbW10 : Below w.heap.size w W10 := by rw [hW10]; exact Below.setCells hwq _ _ (HbW.out.trans (Hb.out.mono HbW.out.size))
  rw [← hW10]
  clear hW10 HV HbW HI Hg Hb HT
  have HV := Lib.hid hV10
  have HbW := Lib.hid hbW10
  clear hV10 hbW10
  go_upto_region 7 with (refine wpList_store_cell q 14 (.int .u64 2) rfl rfl rfl rfl ?ht (by kernel_rfl) rfl ?_; (case ht => exact HV.out.2.th1 14 (by decide)); simp only [Act.put, List.setIfInBounds_toArray, List.set_cons_succ, List.set_cons_zero])
  obtain ⟨W11, hW11⟩ : ∃ V, V = W10.setCell ⟨q, 14, none⟩ (.int .u64 2) := ⟨_, rfl⟩
  obtain ⟨D, hD⟩ : ∃ D, D = bEp g10 := ⟨_, rfl⟩
  have hV11 : VarS (fun k => k = p ∨ k = q) W11 p A ∧ VarS (fun k => k = p ∨ k = q) W11 q D := by
    rw [hW11]
    refine ⟨HV.out.1.other (.inr rfl) Hpq.out _ _, HV.out.2.put 14 (by decide) _ ?_ ?_⟩
    · rw [hD, HC.out]; rfl
    · rw [hD]; exact HV.out.2.safe.scal (fun _ h => by rw [HC.out] at h; exact ⟨h.bm, h.es, h.locs, h.procs⟩)
  have hbW11 : Below w.heap.size w W11 := by rw [hW11]; exact HbW.out.setCell hwq _
  rw [← hW11]
  clear hW11 HV HbW HC
  have HC := Lib.hid hD
  clear hD
  have HV := Lib.hid hV11
  have HbW := Lib.hid hbW11
  clear hV11 hbW11
  obtain ⟨C, rfl⟩ : ∃ X, X = D := ⟨_, rfl⟩
  have LA := Lib.hid HV.out.1.at_.load
  have LB := Lib.hid HV.out.2.at_.load
  have KF := Lib.hid (fault_lit (f1 := 9) (f2 := 1) W11 HV.out.1.safe.in_ HV.out.2.safe.in_ (by rw [HA.out]; exact one_like 0 _) (by rw [HC.out]; exact ok_of (one_like 1 g10) (Nat.zero_le _) (Nat.zero_le _) (of_decide_eq_true rfl) (of_decide_eq_true rfl) (of_decide_eq_true rfl) (of_decide_eq_true rfl) (show 3 * 8 ≤ _ by omega) (ents_ok1 oneE_ok)) (by rw [HA.out, HC.out]; exact k_ep g1 g10))
  go_upto_region 9 with (first | (refine wpList_loadK rfl (by rfl) rfl (by first | exact LA.out | exact LB.out) ?_; simp only [Act.put, List.setIfInBounds_toArray, List.set_cons_succ, List.set_cons_zero]) | ((go_at_call 17; refine KF.out.mono ?_); rintro e v12 ⟨rfl, hb⟩; have Hb := Lib.hid hb; clear hb))
  have hV12 : VarS (fun k => k = p ∨ k = q) v12 p A ∧ VarS (fun k => k = p ∨ k = q) v12 q C := ⟨HV.out.1.below Hb.out, HV.out.2.below Hb.out⟩
  have hbW12 := HbW.out.trans (Hb.out.mono HbW.out.size)
  clear HV HbW Hb LA LB KF HC
  have HV := Lib.hid hV12
  have HbW := Lib.hid hbW12
  clear hV12 hbW12
  go_upto_region 10 with (first
    | ((go_at_call 16; with_reducible refine (K1.out _).mono ?_); rintro e v13 ⟨g13, rfl, hI, hg, hg', hb⟩; obtain ⟨C, hC⟩ : ∃ C, C = oneS 1 g13 := ⟨_, rfl⟩; rw [← hC] at hI ⊢; have HC := Lib.hid hC; clear hC; have HI := Lib.hid hI; have Hg := Lib.hid (And.intro hg hg'); have Hb := Lib.hid hb; have HT := Lib.hid ((HV.out.2.below hb).th); clear hI hb hg hg'; simp only [SeenA.v])
    | (refine wpList_store_mid rfl _ _ _ rfl q 0 C.l.toArray rfl rfl ?ht13 (by kernel_rfl) (SeenA.all _) ?_; (case ht13 => exact HT.out); simp only [Act.put, List.setIfInBounds_toArray, List.set_cons_succ, List.set_cons_zero]))
  obtain ⟨W13, hW13⟩ : ∃ V, V = v13.setCells q 0 C.l := ⟨_, rfl⟩
  have hV13 : VarS (fun k => k = p ∨ k = q) W13 p A ∧ VarS (fun k => k = p ∨ k = q) W13 q C := by
    have h1 := HV.out.1.lt
    have h2 := HV.out.2.lt
    have h3 := Hg.out.1
    have hS : SafeV (fun k => k = p ∨ k = q) v13 C := by
      rw [HC.out]
      exact one_safe (by have := HI.out; rwa [HC.out] at this) Hg.out.2 (by omega) (by omega)
    rw [hW13]
    exact ⟨(HV.out.1.below Hb.out).others (.inr rfl) Hpq.out 0 _, (HV.out.2.below Hb.out).whole hS⟩
  have hbW13 : Below w.heap.size w W13 := by rw [hW13]; exact Below.setCells hwq _ _ (HbW.out.trans (Hb.out.mono HbW.out.size))
  rw [← hW13]
  clear hW13 HV HbW HI Hg Hb HT
  have HV := Lib.hid hV13
  have HbW := Lib.hid hbW13
  clear hV13 hbW13
  go_upto_region 11 with (refine wpList_store_cell q 1 (.int .i64 4) rfl rfl rfl rfl ?ht (by kernel_rfl) rfl ?_; (case ht => exact HV.out.2.th1 1 (by decide)); simp only [Act.put, List.setIfInBounds_toArray, List.set_cons_succ, List.set_cons_zero])
  obtain ⟨W14, hW14⟩ : ∃ V, V = W13.setCell ⟨q, 1, none⟩ (.int .i64 4) := ⟨_, rfl⟩
  obtain ⟨D, hD⟩ : ∃ D, D = bGr g13 := ⟨_, rfl⟩
  have hV14 : VarS (fun k => k = p ∨ k = q) W14 p A ∧ VarS (fun k => k = p ∨ k = q) W14 q D := by
    rw [hW14]
    refine ⟨HV.out.1.other (.inr rfl) Hpq.out _ _, HV.out.2.put 1 (by decide) _ ?_ ?_⟩
    · rw [hD, HC.out]; rfl
    · rw [hD]; exact HV.out.2.safe.scal (fun _ h => by rw [HC.out] at h; exact ⟨h.bm, h.es, h.locs, h.procs⟩)
  have hbW14 : Below w.heap.size w W14 := by rw [hW14]; exact HbW.out.setCell hwq _
  rw [← hW14]
  clear hW14 HV HbW HC
  have HC := Lib.hid hD
  clear hD
  have HV := Lib.hid hV14
  have HbW := Lib.hid hbW14
  clear hV14 hbW14
  obtain ⟨C, rfl⟩ : ∃ X, X = D := ⟨_, rfl⟩
  have LA := Lib.hid HV.out.1.at_.load
  have LB := Lib.hid HV.out.2.at_.load
  have KF := Lib.hid (fault_lit (f1 := 8) (f2 := 1) W14 HV.out.1.safe.in_ HV.out.2.safe.in_ (by rw [HA.out]; exact one_like 0 _) (by rw [HC.out]; exact ok_of (one_like 1 g13) (Nat.zero_le _) (Nat.zero_le _) (of_decide_eq_true rfl) (of_decide_eq_true rfl) (of_decide_eq_true rfl) (of_decide_eq_true rfl) (show 3 * 8 ≤ _ by omega) (ents_ok1 oneE_ok)) (by rw [HA.out, HC.out]; exact k_gr g1 g13))
  go_upto_region 13 with (first | (refine wpList_loadK rfl (by rfl) rfl (by first | exact LA.out | exact LB.out) ?_; simp only [Act.put, List.setIfInBounds_toArray, List.set_cons_succ, List.set_cons_zero]) | ((go_at_call 17; refine KF.out.mono ?_); rintro e v15 ⟨rfl, hb⟩; have Hb := Lib.hid hb; clear hb))
  have hV15 : VarS (fun k => k = p ∨ k = q) v15 p A ∧ VarS (fun k => k = p ∨ k = q) v15 q C := ⟨HV.out.1.below Hb.out, HV.out.2.below Hb.out⟩
  have hbW15 := HbW.out.trans (Hb.out.mono HbW.out.size)
  clear HV HbW Hb LA LB KF HC
  have HV := Lib.hid hV15
  have HbW := Lib.hid hbW15
  clear hV15 hbW15
  go_upto_region 14 with (first
    | ((go_at_call 16; with_reducible refine (K1.out _).mono ?_); rintro e v16 ⟨g16, rfl, hI, hg, hg', hb⟩; obtain ⟨C, hC⟩ : ∃ C, C = oneS 1 g16 := ⟨_, rfl⟩; rw [← hC] at hI ⊢; have HC := Lib.hid hC; clear hC; have HI := Lib.hid hI; have Hg := Lib.hid (And.intro hg hg'); have Hb := Lib.hid hb; have HT := Lib.hid ((HV.out.2.below hb).th); clear hI hb hg hg'; simp only [SeenA.v])
    | (refine wpList_store_mid rfl _ _ _ rfl q 0 C.l.toArray rfl rfl ?ht16 (by kernel_rfl) (SeenA.all _) ?_; (case ht16 => exact HT.out); simp only [Act.put, List.setIfInBounds_toArray, List.set_cons_succ, List.set_cons_zero]))
  obtain ⟨W16, hW16⟩ : ∃ V, V = v16.setCells q 0 C.l := ⟨_, rfl⟩
  have hV16 : VarS (fun k => k = p ∨ k = q) W16 p A ∧ VarS (fun k => k = p ∨ k = q) W16 q C := by
    have h1 := HV.out.1.lt
    have h2 := HV.out.2.lt
    have h3 := Hg.out.1
    have hS : SafeV (fun k => k = p ∨ k = q) v16 C := by
      rw [HC.out]
      exact one_safe (by have := HI.out; rwa [HC.out] at this) Hg.out.2 (by omega) (by omega)
    rw [hW16]
    exact ⟨(HV.out.1.below Hb.out).others (.inr rfl) Hpq.out 0 _, (HV.out.2.below Hb.out).whole hS⟩
  have hbW16 : Below w.heap.size w W16 := by rw [hW16]; exact Below.setCells hwq _ _ (HbW.out.trans (Hb.out.mono HbW.out.size))
  rw [← hW16]
  clear hW16 HV HbW HI Hg Hb HT
  have HV := Lib.hid hV16
  have HbW := Lib.hid hbW16
  clear hV16 hbW16
  obtain ⟨g, hg⟩ : ∃ g, g = W16.heap.size := ⟨_, rfl⟩
  obtain ⟨D, hD⟩ : ∃ D, D = { oneS 1 g16 with ea := some ⟨g, 0, none⟩, es := [entSeq] } := ⟨_, rfl⟩
  go_upto_region 15 with (refine wpList_store_cell q 9 (.slice (some ⟨W16.heap.size, 0, none⟩) 1 1) rfl rfl rfl rfl ?ht (by kernel_rfl) rfl ?_; (case ht => exact World.there_alloc (HV.out.2.th1 9 (by decide)) _); simp only [Act.put, List.setIfInBounds_toArray, List.set_cons_succ, List.set_cons_zero])
  change Code.wp _ _ _ _ ((W16.alloc (.cells entSeq.l.toArray 60)).setCell ⟨q, 9, none⟩ (.slice (some ⟨W16.heap.size, 0, none⟩) 1 1))
  obtain ⟨V17, hVe17⟩ : ∃ V, V = W16.alloc (.cells entSeq.l.toArray 60) := ⟨_, rfl⟩
  rw [← hVe17]
  obtain ⟨X17, hX17⟩ : ∃ V, V = V17.setCell ⟨q, 9, none⟩ (.slice (some ⟨W16.heap.size, 0, none⟩) 1 1) := ⟨_, rfl⟩
  have hbV : Below W16.heap.size W16 V17 := by rw [hVe17]; exact (Below.refl _ _).alloc (Nat.le_refl _) _
  have hVV : VarS (fun k => k = p ∨ k = q) X17 p A ∧ VarS (fun k => k = p ∨ k = q) X17 q D := by
    have h1 := HV.out.1.lt
    have h2 := HV.out.2.lt
    have hz : V17.heap.size = W16.heap.size + 1 := by rw [hVe17, World.size_alloc]
    rw [hX17]
    refine ⟨(HV.out.1.below hbV).other (.inr rfl) Hpq.out _ _, (HV.out.2.below hbV).put 9 (by decide) _ ?_ ?_⟩
    · rw [hD, HC.out, hg]; rfl
    · have hVe := hVe17
      have := (HV.out.2.below hbV).safe.ents (e := entSeq) ⟨by rw [hVe]; exact ents_one _ _ entSeq _ rfl, fun e he => by rw [List.mem_singleton.1 he]; exact Arr.nil _ _⟩ (by omega) (by omega) ⟨rfl, rfl, rfl, rfl⟩
      rw [HC.out] at this
      rw [hD, hg]; exact this
  have hbX : Below w.heap.size w X17 := by rw [hX17]; exact (HbW.out.trans (hbV.mono HbW.out.size)).setCell hwq _
  rw [← hX17]
  clear hX17 hVe17 hbV HV HbW HC hg
  have HC := Lib.hid hD
  clear hD
  have HV := Lib.hid hVV
  have HbW := Lib.hid hbX
  clear hVV hbX
  obtain ⟨C, rfl⟩ : ∃ X, X = D := ⟨_, rfl⟩
  obtain ⟨ge17, rfl⟩ : ∃ x, x = g := ⟨_, rfl⟩
  go_upto_region 16 with (refine wpList_store_cell q 10 (.int .u64 1) rfl rfl rfl rfl ?ht (by kernel_rfl) rfl ?_; (case ht => exact HV.out.2.th1 10 (by decide)); simp only [Act.put, List.setIfInBounds_toArray, List.set_cons_succ, List.set_cons_zero])
  obtain ⟨W18, hW18⟩ : ∃ V, V = X17.setCell ⟨q, 10, none⟩ (.int .u64 1) := ⟨_, rfl⟩
  obtain ⟨D, hD⟩ : ∃ D, D = bSeq g16 ge17 := ⟨_, rfl⟩
  have hV18 : VarS (fun k => k = p ∨ k = q) W18 p A ∧ VarS (fun k => k = p ∨ k = q) W18 q D := by
    rw [hW18]
    refine ⟨HV.out.1.other (.inr rfl) Hpq.out _ _, HV.out.2.put 10 (by decide) _ ?_ ?_⟩
    · rw [hD, HC.out]; rfl
    · rw [hD]; exact HV.out.2.safe.scal (fun _ h => by rw [HC.out] at h; exact ⟨h.bm, h.es, h.locs, h.procs⟩)
  have hbW18 : Below w.heap.size w W18 := by rw [hW18]; exact HbW.out.setCell hwq _
  rw [← hW18]
  clear hW18 HV HbW HC
  have HC := Lib.hid hD
  clear hD
  have HV := Lib.hid hV18
  have HbW := Lib.hid hbW18
  clear hV18 hbW18
  obtain ⟨C, rfl⟩ : ∃ X, X = D := ⟨_, rfl⟩
  have LA := Lib.hid HV.out.1.at_.load
  have LB := Lib.hid HV.out.2.at_.load
  have KF := Lib.hid (fault_lit (f1 := 4) (f2 := 1) W18 HV.out.1.safe.in_ HV.out.2.safe.in_ (by rw [HA.out]; exact one_like 0 _) (by rw [HC.out]; exact ok_of (one_like 1 g16) (Nat.zero_le _) (Nat.zero_le _) (of_decide_eq_true rfl) (of_decide_eq_true rfl) (of_decide_eq_true rfl) (of_decide_eq_true rfl) (show 3 * 8 ≤ _ by omega) (ents_ok1 entSeq_ok)) (by rw [HA.out, HC.out]; exact k_seq g1 g16 ge17))
  go_upto_region 18 with (first | (refine wpList_loadK rfl (by rfl) rfl (by first | exact LA.out | exact LB.out) ?_; simp only [Act.put, List.setIfInBounds_toArray, List.set_cons_succ, List.set_cons_zero]) | ((go_at_call 17; refine KF.out.mono ?_); rintro e v19 ⟨rfl, hb⟩; have Hb := Lib.hid hb; clear hb))
  have hV19 : VarS (fun k => k = p ∨ k = q) v19 p A ∧ VarS (fun k => k = p ∨ k = q) v19 q C := ⟨HV.out.1.below Hb.out, HV.out.2.below Hb.out⟩
  have hbW19 := HbW.out.trans (Hb.out.mono HbW.out.size)
  clear HV HbW Hb LA LB KF HC
  have HV := Lib.hid hV19
  have HbW := Lib.hid hbW19
  clear hV19 hbW19
  go_upto_region 19 with (first
    | ((go_at_call 16; with_reducible refine (K1.out _).mono ?_); rintro e v20 ⟨g20, rfl, hI, hg, hg', hb⟩; obtain ⟨C, hC⟩ : ∃ C, C = oneS 1 g20 := ⟨_, rfl⟩; rw [← hC] at hI ⊢; have HC := Lib.hid hC; clear hC; have HI := Lib.hid hI; have Hg := Lib.hid (And.intro hg hg'); have Hb := Lib.hid hb; have HT := Lib.hid ((HV.out.2.below hb).th); clear hI hb hg hg'; simp only [SeenA.v])
    | (refine wpList_store_mid rfl _ _ _ rfl q 0 C.l.toArray rfl rfl ?ht20 (by kernel_rfl) (SeenA.all _) ?_; (case ht20 => exact HT.out); simp only [Act.put, List.setIfInBounds_toArray, List.set_cons_succ, List.set_cons_zero]))
  obtain ⟨W20, hW20⟩ : ∃ V, V = v20.setCells q 0 C.l := ⟨_, rfl⟩
  have hV20 : VarS (fun k => k = p ∨ k = q) W20 p A ∧ VarS (fun k => k = p ∨ k = q) W20 q C := by
    have h1 := HV.out.1.lt
    have h2 := HV.out.2.lt
    have h3 := Hg.out.1
    have hS : SafeV (fun k => k = p ∨ k = q) v20 C := by
      rw [HC.out]
      exact one_safe (by have := HI.out; rwa [HC.out] at this) Hg.out.2 (by omega) (by omega)
    rw [hW20]
    exact ⟨(HV.out.1.below Hb.out).others (.inr rfl) Hpq.out 0 _, (HV.out.2.below Hb.out).whole hS⟩
  have hbW20 : Below w.heap.size w W20 := by rw [hW20]; exact Below.setCells hwq _ _ (HbW.out.trans (Hb.out.mono HbW.out.size))
  rw [← hW20]
  clear hW20 HV HbW HI Hg Hb HT
  have HV := Lib.hid hV20
  have HbW := Lib.hid hbW20
  clear hV20 hbW20
  obtain ⟨g, hg⟩ : ∃ g, g = W20.heap.size := ⟨_, rfl⟩
  go_upto_region 20 with (refine wpList_store_mid rfl _ _ _ rfl q 6 #[.int .u64 2, .int .u64 1, .slice (some ⟨W20.heap.size, 0, none⟩) 1 1] rfl rfl ?ht (by kernel_rfl) (by simp [Value.oneCell']) ?_; (case ht => exact World.there_alloc (there_sub HV.out.2.th 6 3 (by decide)) _); simp only [Act.put, List.setIfInBounds_toArray, List.set_cons_succ, List.set_cons_zero])
  change Code.wp _ _ _ _ ((((W20.alloc (.cells #[.int .i64 0] 3)).setCell ⟨q, 6, none⟩ (.int .u64 2)).setCell ⟨q, 7, none⟩ (.int .u64 1)).setCell ⟨q, 8, none⟩ (.slice (some ⟨W20.heap.size, 0, none⟩) 1 1))
  obtain ⟨V, hVe⟩ : ∃ V, V = W20.alloc (.cells #[.int .i64 0] 3) := ⟨_, rfl⟩
  rw [← hVe]
  obtain ⟨X21, hX⟩ : ∃ X, X = ((V.setCell ⟨q, 6, none⟩ (.int .u64 2)).setCell ⟨q, 7, none⟩ (.int .u64 1)).setCell ⟨q, 8, none⟩ (.slice (some ⟨W20.heap.size, 0, none⟩) 1 1) := ⟨_, rfl⟩
  have hbV : Below W20.heap.size W20 V := by rw [hVe]; exact (Below.refl _ _).alloc (Nat.le_refl _) _
  obtain ⟨D, hD⟩ : ∃ D, D = { oneS 1 g20 with bidx := 2, bterm := 1, ba := some ⟨g, 0, none⟩, bn := 1, bc := 1, bm := [0] } := ⟨_, rfl⟩
  have hVV : VarS (fun k => k = p ∨ k = q) X21 p A ∧ VarS (fun k => k = p ∨ k = q) X21 q D := by
    have h1 := HV.out.1.lt
    have h2 := HV.out.2.lt
    have hz : V.heap.size = W20.heap.size + 1 := by rw [hVe, World.size_alloc]
    have i0 := HV.out.2.below hbV
    have s1 : SafeV (fun k => k = p ∨ k = q) V { C with bidx := 2 } := i0.safe.scal (fun _ h => ⟨h.bm, h.es, h.locs, h.procs⟩)
    have i1 := i0.put (s' := { C with bidx := 2 }) 6 (by decide) (.int .u64 2) rfl s1
    have s2 := i1.safe.scal (s' := { C with bidx := 2, bterm := 1 }) (fun _ h => ⟨h.bm, h.es, h.locs, h.procs⟩)
    have i2 := i1.put (s' := { C with bidx := 2, bterm := 1 }) 7 (by decide) (.int .u64 1) rfl s2
    have s2 := i0.safe.scal (s' := { C with bidx := 2, bterm := 1 }) (fun _ h => ⟨h.bm, h.es, h.locs, h.procs⟩)
    have e0 : Ints V (some ⟨W20.heap.size, 0, none⟩) 1 1 [0] := by rw [hVe]; exact ints1_new _ 3 _ 0 rfl
    have e1 := ints_kept e0 (by omega) (by omega) (KeptV.set (P := (fun k => k = p ∨ k = q)) (.inr rfl) 6 (.int .u64 2))
    have e2 := ints_kept e1 (by rw [World.size_setCell]; omega) (by omega) (KeptV.set (P := (fun k => k = p ∨ k = q)) (.inr rfl) 7 (.int .u64 1))
    have s3 := ((s2.kept (KeptV.set (.inr rfl) 6 (.int .u64 2))).kept (KeptV.set (.inr rfl) 7 (.int .u64 1))).ints e2 (by rw [World.size_setCell, World.size_setCell]; omega) (by omega)
    rw [hX]
    refine ⟨(((HV.out.1.below hbV).other (.inr rfl) Hpq.out _ _).other (.inr rfl) Hpq.out _ _).other (.inr rfl) Hpq.out _ _, i2.put 8 (by decide) _ ?_ ?_⟩
    · rw [hD, HC.out, hg]; rfl
    · rw [HC.out] at s3
      rw [hD, hg]; exact s3
  have hbX : Below w.heap.size w X21 := by rw [hX]; exact (((HbW.out.trans (hbV.mono HbW.out.size)).setCell hwq _).setCell hwq _).setCell hwq _
  rw [← hX]
  clear hX hVe hbV HV HbW HC hg
  have HC := Lib.hid hD
  clear hD
  have HV := Lib.hid hVV
  have HbW := Lib.hid hbX
  clear hVV hbX
  obtain ⟨C, rfl⟩ : ∃ X, X = D := ⟨_, rfl⟩
  obtain ⟨ge21, rfl⟩ : ∃ x, x = g := ⟨_, rfl⟩
  go_upto_region 21 with (refine wpList_store_cell q 9 (.slice none 0 0) rfl rfl rfl rfl ?ht (by kernel_rfl) rfl ?_; (case ht => exact HV.out.2.th1 9 (by decide)); simp only [Act.put, List.setIfInBounds_toArray, List.set_cons_succ, List.set_cons_zero])
  obtain ⟨W22, hW22⟩ : ∃ V, V = X21.setCell ⟨q, 9, none⟩ (.slice none 0 0) := ⟨_, rfl⟩
  obtain ⟨D, hD⟩ : ∃ D, D = bBase ge21 := ⟨_, rfl⟩
  have hV22 : VarS (fun k => k = p ∨ k = q) W22 p A ∧ VarS (fun k => k = p ∨ k = q) W22 q D := by
    rw [hW22]
    refine ⟨HV.out.1.other (.inr rfl) Hpq.out _ _, HV.out.2.put 9 (by decide) _ ?_ ?_⟩
    · rw [hD, HC.out]; rfl
    · rw [hD]; have := HV.out.2.safe.ents0; rw [HC.out] at this; exact this
  have hbW22 : Below w.heap.size w W22 := by rw [hW22]; exact HbW.out.setCell hwq _
  rw [← hW22]
  clear hW22 HV HbW HC
  have HC := Lib.hid hD
  clear hD
  have HV := Lib.hid hV22
  have HbW := Lib.hid hbW22
  clear hV22 hbW22
  obtain ⟨C, rfl⟩ : ∃ X, X = D := ⟨_, rfl⟩
  have LA := Lib.hid HV.out.1.at_.load
  have LB := Lib.hid HV.out.2.at_.load
  have KF := Lib.hid (fault_lit (f1 := 6) (f2 := 1) W22 HV.out.1.safe.in_ HV.out.2.safe.in_ (by rw [HA.out]; exact one_like 0 _) (by rw [HC.out]; exact ok_of (one_like 1 0) (Nat.zero_le _) (Nat.zero_le _) (of_decide_eq_true rfl) (of_decide_eq_true rfl) (of_decide_eq_true rfl) (of_decide_eq_true rfl) (show 1 * 8 ≤ _ by omega) (fun _ h => by cases h)) (by rw [HA.out, HC.out]; exact k_base g1 ge21))
  go_upto_region 23 with (first | (refine wpList_loadK rfl (by rfl) rfl (by first | exact LA.out | exact LB.out) ?_; simp only [Act.put, List.setIfInBounds_toArray, List.set_cons_succ, List.set_cons_zero]) | ((go_at_call 17; refine KF.out.mono ?_); rintro e v23 ⟨rfl, hb⟩; have Hb := Lib.hid hb; clear hb))
  have hV23 : VarS (fun k => k = p ∨ k = q) v23 p A ∧ VarS (fun k => k = p ∨ k = q) v23 q C := ⟨HV.out.1.below Hb.out, HV.out.2.below Hb.out⟩
  have hbW23 := HbW.out.trans (Hb.out.mono HbW.out.size)
  clear HV HbW Hb LA LB KF HC
  have HV := Lib.hid hV23
  have HbW := Lib.hid hbW23
  clear hV23 hbW23
  go_upto_region 24 with (first
    | ((go_at_call 16; with_reducible refine (K1.out _).mono ?_); rintro e v25 ⟨g25, rfl, hI, hg, hg', hb⟩; obtain ⟨C, hC⟩ : ∃ C, C = oneS 1 g25 := ⟨_, rfl⟩; rw [← hC] at hI ⊢; have HC := Lib.hid hC; clear hC; have HI := Lib.hid hI; have Hg := Lib.hid (And.intro hg hg'); have Hb := Lib.hid hb; have HT := Lib.hid ((HV.out.2.below hb).th); clear hI hb hg hg'; simp only [SeenA.v])
    | (refine wpList_store_mid rfl _ _ _ rfl q 0 C.l.toArray rfl rfl ?ht25 (by kernel_rfl) (SeenA.all _) ?_; (case ht25 => exact HT.out); simp only [Act.put, List.setIfInBounds_toArray, List.set_cons_succ, List.set_cons_zero]))
  obtain ⟨W25, hW25⟩ : ∃ V, V = v25.setCells q 0 C.l := ⟨_, rfl⟩
  have hV25 : VarS (fun k => k = p ∨ k = q) W25 p A ∧ VarS (fun k => k = p ∨ k = q) W25 q C := by
    have h1 := HV.out.1.lt
    have h2 := HV.out.2.lt
    have h3 := Hg.out.1
    have hS : SafeV (fun k => k = p ∨ k = q) v25 C := by
      rw [HC.out]
      exact one_safe (by have := HI.out; rwa [HC.out] at this) Hg.out.2 (by omega) (by omega)
    rw [hW25]
    exact ⟨(HV.out.1.below Hb.out).others (.inr rfl) Hpq.out 0 _, (HV.out.2.below Hb.out).whole hS⟩
  have hbW25 : Below w.heap.size w W25 := by rw [hW25]; exact Below.setCells hwq _ _ (HbW.out.trans (Hb.out.mono HbW.out.size))
  rw [← hW25]
  clear hW25 HV HbW HI Hg Hb HT
  have HV := Lib.hid hV25
  have HbW := Lib.hid hbW25
  clear hV25 hbW25
  go_upto_region 25 with (refine wpList_store_cell q 15 (.bool true) rfl rfl rfl rfl ?ht (by kernel_rfl) rfl ?_; (case ht => exact HV.out.2.th1 15 (by decide)); simp only [Act.put, List.setIfInBounds_toArray, List.set_cons_succ, List.set_cons_zero])
  obtain ⟨W26, hW26⟩ : ∃ V, V = W25.setCell ⟨q, 15, none⟩ (.bool true) := ⟨_, rfl⟩
  obtain ⟨D, hD⟩ : ∃ D, D = bFr g25 := ⟨_, rfl⟩
  have hV26 : VarS (fun k => k = p ∨ k = q) W26 p A ∧ VarS (fun k => k = p ∨ k = q) W26 q D := by
    rw [hW26]
    refine ⟨HV.out.1.other (.inr rfl) Hpq.out _ _, HV.out.2.put 15 (by decide) _ ?_ ?_⟩
    · rw [hD, HC.out]; rfl
    · rw [hD]; exact HV.out.2.safe.scal (fun _ h => by rw [HC.out] at h; exact ⟨h.bm, h.es, h.locs, h.procs⟩)
  have hbW26 : Below w.heap.size w W26 := by rw [hW26]; exact HbW.out.setCell hwq _
  rw [← hW26]
  clear hW26 HV HbW HC
  have HC := Lib.hid hD
  clear hD
  have HV := Lib.hid hV26
  have HbW := Lib.hid hbW26
  clear hV26 hbW26
  obtain ⟨C, rfl⟩ : ∃ X, X = D := ⟨_, rfl⟩
  have LA := Lib.hid HV.out.1.at_.load
  have LB := Lib.hid HV.out.2.at_.load
  have KF := Lib.hid (fault_lit (f1 := 9) (f2 := 1) W26 HV.out.1.safe.in_ HV.out.2.safe.in_ (by rw [HA.out]; exact one_like 0 _) (by rw [HC.out]; exact ok_of (one_like 1 g25) (Nat.zero_le _) (Nat.zero_le _) (of_decide_eq_true rfl) (of_decide_eq_true rfl) (of_decide_eq_true rfl) (of_decide_eq_true rfl) (show 3 * 8 ≤ _ by omega) (ents_ok1 oneE_ok)) (by rw [HA.out, HC.out]; exact k_fr g1 g25))
  go_upto_region 27 with (first | (refine wpList_loadK rfl (by rfl) rfl (by first | exact LA.out | exact LB.out) ?_; simp only [Act.put, List.setIfInBounds_toArray, List.set_cons_succ, List.set_cons_zero]) | ((go_at_call 17; refine KF.out.mono ?_); rintro e v27 ⟨rfl, hb⟩; have Hb := Lib.hid hb; clear hb))
  have hV27 : VarS (fun k => k = p ∨ k = q) v27 p A ∧ VarS (fun k => k = p ∨ k = q) v27 q C := ⟨HV.out.1.below Hb.out, HV.out.2.below Hb.out⟩
  have hbW27 := HbW.out.trans (Hb.out.mono HbW.out.size)
  clear HV HbW Hb LA LB KF HC
  have HV := Lib.hid hV27
  have HbW := Lib.hid hbW27
  clear hV27 hbW27
  have HC : Hid (C = C) := Lib.hid rfl
  go_upto_region 28 with (refine wpList_store_cell p 3 (.bool true) rfl rfl rfl rfl ?ht (by kernel_rfl) rfl ?_; (case ht => exact HV.out.1.th1 3 (by decide)); simp only [Act.put, List.setIfInBounds_toArray, List.set_cons_succ, List.set_cons_zero])
  obtain ⟨W28, hW28⟩ : ∃ V, V = v27.setCell ⟨p, 3, none⟩ (.bool true) := ⟨_, rfl⟩
  obtain ⟨D, hD⟩ : ∃ D, D = aLead g1 := ⟨_, rfl⟩
  have hV28 : VarS (fun k => k = p ∨ k = q) W28 p D ∧ VarS (fun k => k = p ∨ k = q) W28 q C := by
    rw [hW28]
    refine ⟨HV.out.1.put 3 (by decide) _ ?_ ?_, HV.out.2.other (.inl rfl) (Ne.symm Hpq.out) _ _⟩
    · rw [hD, HA.out]; rfl
    · rw [hD]; exact HV.out.1.safe.scal (fun _ h => by rw [HA.out] at h; exact ⟨h.bm, h.es, h.locs, h.procs⟩)
  have hbW28 : Below w.heap.size w W28 := by rw [hW28]; exact HbW.out.setCell hwp _
  rw [← hW28]
  clear hW28 HV HbW HA
  have HA := Lib.hid hD
  clear hD
  have HV := Lib.hid hV28
  have HbW := Lib.hid hbW28
  clear hV28 hbW28
  obtain ⟨A, rfl⟩ : ∃ X, X = D := ⟨_, rfl⟩
  clear HC
  go_upto_region 29 with (first
    | ((go_at_call 16; with_reducible refine (K1.out _).mono ?_); rintro e v30 ⟨g30, rfl, hI, hg, hg', hb⟩; obtain ⟨C, hC⟩ : ∃ C, C = oneS 1 g30 := ⟨_, rfl⟩; rw [← hC] at hI ⊢; have HC := Lib.hid hC; clear hC; have HI := Lib.hid hI; have Hg := Lib.hid (And.intro hg hg'); have Hb := Lib.hid hb; have HT := Lib.hid ((HV.out.2.below hb).th); clear hI hb hg hg'; simp only [SeenA.v])
    | (refine wpList_store_mid rfl _ _ _ rfl q 0 C.l.toArray rfl rfl ?ht30 (by kernel_rfl) (SeenA.all _) ?_; (case ht30 => exact HT.out); simp only [Act.put, List.setIfInBounds_toArray, List.set_cons_succ, List.set_cons_zero]))
  obtain ⟨W30, hW30⟩ : ∃ V, V = v30.setCells q 0 C.l := ⟨_, rfl⟩
  have hV30 : VarS (fun k => k = p ∨ k = q) W30 p A ∧ VarS (fun k => k = p ∨ k = q) W30 q C := by
    have h1 := HV.out.1.lt
    have h2 := HV.out.2.lt
    have h3 := Hg.out.1
    have hS : SafeV (fun k => k = p ∨ k = q) v30 C := by
      rw [HC.out]
      exact one_safe (by have := HI.out; rwa [HC.out] at this) Hg.out.2 (by omega) (by omega)
    rw [hW30]
    exact ⟨(HV.out.1.below Hb.out).others (.inr rfl) Hpq.out 0 _, (HV.out.2.below Hb.out).whole hS⟩
  have hbW30 : Below w.heap.size w W30 := by rw [hW30]; exact Below.setCells hwq _ _ (HbW.out.trans (Hb.out.mono HbW.out.size))
  rw [← hW30]
  clear hW30 HV HbW HI Hg Hb HT
  have HV := Lib.hid hV30
  have HbW := Lib.hid hbW30
  clear hV30 hbW30
  go_upto_region 30 with (refine wpList_store_cell q 3 (.bool true) rfl rfl rfl rfl ?ht (by kernel_rfl) rfl ?_; (case ht => exact HV.out.2.th1 3 (by decide)); simp only [Act.put, List.setIfInBounds_toArray, List.set_cons_succ, List.set_cons_zero])
  obtain ⟨W31, hW31⟩ : ∃ V, V = W30.setCell ⟨q, 3, none⟩ (.bool true) := ⟨_, rfl⟩
  obtain ⟨D, hD⟩ : ∃ D, D = { oneS 1 g30 with leads := true } := ⟨_, rfl⟩
  have hV31 : VarS (fun k => k = p ∨ k = q) W31 p A ∧ VarS (fun k => k = p ∨ k = q) W31 q D := by
    rw [hW31]
    refine ⟨HV.out.1.other (.inr rfl) Hpq.out _ _, HV.out.2.put 3 (by decide) _ ?_ ?_⟩
    · rw [hD, HC.out]; rfl
    · rw [hD]; exact HV.out.2.safe.scal (fun _ h => by rw [HC.out] at h; exact ⟨h.bm, h.es, h.locs, h.procs⟩)
  have hbW31 : Below w.heap.size w W31 := by rw [hW31]; exact HbW.out.setCell hwq _
  rw [← hW31]
  clear hW31 HV HbW HC
  have HC := Lib.hid hD
  clear hD
  have HV := Lib.hid hV31
  have HbW := Lib.hid hbW31
  clear hV31 hbW31
  obtain ⟨C, rfl⟩ : ∃ X, X = D := ⟨_, rfl⟩
  go_upto_region 31 with (refine wpList_store_cell q 4 (.int .u64 3) rfl rfl rfl rfl ?ht (by kernel_rfl) rfl ?_; (case ht => exact HV.out.2.th1 4 (by decide)); simp only [Act.put, List.setIfInBounds_toArray, List.set_cons_succ, List.set_cons_zero])
  obtain ⟨W32, hW32⟩ : ∃ V, V = W31.setCell ⟨q, 4, none⟩ (.int .u64 3) := ⟨_, rfl⟩
  obtain ⟨D, hD⟩ : ∃ D, D = { oneS 1 g30 with leads := true, ht := 3 } := ⟨_, rfl⟩
  have hV32 : VarS (fun k => k = p ∨ k = q) W32 p A ∧ VarS (fun k => k = p ∨ k = q) W32 q D := by
    rw [hW32]
    refine ⟨HV.out.1.other (.inr rfl) Hpq.out _ _, HV.out.2.put 4 (by decide) _ ?_ ?_⟩
    · rw [hD, HC.out]; rfl
    · rw [hD]; exact HV.out.2.safe.scal (fun _ h => by rw [HC.out] at h; exact ⟨h.bm, h.es, h.locs, h.procs⟩)
  have hbW32 : Below w.heap.size w W32 := by rw [hW32]; exact HbW.out.setCell hwq _
  rw [← hW32]
  clear hW32 HV HbW HC
  have HC := Lib.hid hD
  clear hD
  have HV := Lib.hid hV32
  have HbW := Lib.hid hbW32
  clear hV32 hbW32
  obtain ⟨C, rfl⟩ : ∃ X, X = D := ⟨_, rfl⟩
  obtain ⟨g, hg⟩ : ∃ g, g = W32.heap.size := ⟨_, rfl⟩
  obtain ⟨D, hD⟩ : ∃ D, D = bLead g30 g := ⟨_, rfl⟩
  go_upto_region 32 with (refine wpList_store_cell q 8 (.slice (some ⟨W32.heap.size, 0, none⟩) 2 2) rfl rfl rfl rfl ?ht (by kernel_rfl) rfl ?_; (case ht => exact World.there_alloc (HV.out.2.th1 8 (by decide)) _); simp only [Act.put, List.setIfInBounds_toArray, List.set_cons_succ, List.set_cons_zero])
  change Code.wp _ _ _ _ ((W32.alloc (.cells #[.int .i64 0, .int .i64 1] 3)).setCell ⟨q, 8, none⟩ (.slice (some ⟨W32.heap.size, 0, none⟩) 2 2))
  obtain ⟨V33, hVe33⟩ : ∃ V, V = W32.alloc (.cells #[.int .i64 0, .int .i64 1] 3) := ⟨_, rfl⟩
  rw [← hVe33]
  obtain ⟨X33, hX33⟩ : ∃ V, V = V33.setCell ⟨q, 8, none⟩ (.slice (some ⟨W32.heap.size, 0, none⟩) 2 2) := ⟨_, rfl⟩
  have hbV : Below W32.heap.size W32 V33 := by rw [hVe33]; exact (Below.refl _ _).alloc (Nat.le_refl _) _
  have hVV : VarS (fun k => k = p ∨ k = q) X33 p A ∧ VarS (fun k => k = p ∨ k = q) X33 q D := by
    have h1 := HV.out.1.lt
    have h2 := HV.out.2.lt
    have hz : V33.heap.size = W32.heap.size + 1 := by rw [hVe33, World.size_alloc]
    rw [hX33]
    refine ⟨(HV.out.1.below hbV).other (.inr rfl) Hpq.out _ _, (HV.out.2.below hbV).put 8 (by decide) _ ?_ ?_⟩
    · rw [hD, HC.out, hg]; rfl
    · have hVe := hVe33
      have := (HV.out.2.below hbV).safe.ints (by rw [hVe]; exact ints2_new _ _ _ 0 1 rfl) (by omega) (by omega)
      rw [HC.out] at this
      rw [hD, hg]; exact this
  have hbX : Below w.heap.size w X33 := by rw [hX33]; exact (HbW.out.trans (hbV.mono HbW.out.size)).setCell hwq _
  rw [← hX33]
  clear hX33 hVe33 hbV HV HbW HC hg
  have HC := Lib.hid hD
  clear hD
  have HV := Lib.hid hVV
  have HbW := Lib.hid hbX
  clear hVV hbX
  obtain ⟨C, rfl⟩ : ∃ X, X = D := ⟨_, rfl⟩
  obtain ⟨ge33, rfl⟩ : ∃ x, x = g := ⟨_, rfl⟩
  have KA : Hid (oneLike A) := Lib.hid (by rw [HA.out]; exact ok_of (one_like 0 g1) (Nat.zero_le _) (Nat.zero_le _) (of_decide_eq_true rfl) (of_decide_eq_true rfl) (of_decide_eq_true rfl) (of_decide_eq_true rfl) (show 3 * 8 ≤ _ by omega) (ents_ok1 oneE_ok))
  have KC : Hid (oneLike C) := Lib.hid (by rw [HC.out]; exact ok_of (one_like 1 g30) (Nat.zero_le _) (Nat.zero_le _) (of_decide_eq_true rfl) (of_decide_eq_true rfl) (of_decide_eq_true rfl) (of_decide_eq_true rfl) (show 2 * 8 ≤ _ by omega) (ents_ok1 oneE_ok))
  have CK : Hid (checkL [A, C] = []) := Lib.hid (by rw [HA.out, HC.out]; exact k_lead g1 g30 ge33)
  have LA := Lib.hid HV.out.1.at_.load
  have LB := Lib.hid HV.out.2.at_.load
  have KT := Lib.hid (tab2_any 3 X33 HV.out.1.safe.in_ HV.out.2.safe.in_ KA.out KC.out (by rw [HA.out, HC.out]; exact t_lead g1 g30 ge33) rfl)
  go_upto_region 33 with (first | (refine wpList_loadK rfl (by rfl) rfl (by first | exact LA.out | exact LB.out) ?_; simp only [Act.put, List.setIfInBounds_toArray, List.set_cons_succ, List.set_cons_zero]) | (refine wpList_build2 (by rfl) 22 49 _ _ rfl A.l C.l rfl rfl 19 i0 _ Try.underlying22 Hi.out iz0 iz1 (by decide) (by decide) rfl rfl ?_; simp only [Act.put, List.setIfInBounds_toArray, List.set_cons_succ, List.set_cons_zero]) | ((go_at_call 13; with_reducible refine KT.out.mono ?_); rintro e v34 ⟨gx, tx, nax, ncx, rfl, hx1, hx2, hx3, hb⟩; have Hb := Lib.hid hb; have HX := Lib.hid (And.intro hx2 hx3); clear hb hx1 hx2 hx3))
  have hV34 : VarS (fun k => k = p ∨ k = q) v34 p A ∧ VarS (fun k => k = p ∨ k = q) v34 q C := ⟨HV.out.1.below Hb.out, HV.out.2.below Hb.out⟩
  have hbW34 := HbW.out.trans (Hb.out.mono HbW.out.size)
  clear HV HbW Hb LA LB KT
  have HV := Lib.hid hV34
  have HbW := Lib.hid hbW34
  clear hV34 hbW34
  have LA := Lib.hid HV.out.1.at_.load
  have LB := Lib.hid HV.out.2.at_.load
  have KT := Lib.hid (tab2_any 2 v34 HV.out.2.safe.in_ HV.out.1.safe.in_ KC.out KA.out (by rw [HA.out, HC.out]; exact t_lead2 g1 g30 ge33) rfl)
  go_upto_region 34 with (first | (refine wpList_loadK rfl (by rfl) rfl (by first | exact LA.out | exact LB.out) ?_; simp only [Act.put, List.setIfInBounds_toArray, List.set_cons_succ, List.set_cons_zero]) | (refine wpList_build2 (by rfl) 22 49 _ _ rfl C.l A.l rfl rfl 19 i0 _ Try.underlying22 Hi.out iz0 iz1 (by decide) (by decide) rfl rfl ?_; simp only [Act.put, List.setIfInBounds_toArray, List.set_cons_succ, List.set_cons_zero]) | ((go_at_call 13; with_reducible refine KT.out.mono ?_); rintro e v35 ⟨gy, ty, nay, ncy, rfl, hx1, hx2, hx3, hb⟩; have Hb := Lib.hid hb; have HY := Lib.hid (And.intro hx2 hx3); clear hb hx1 hx2 hx3))
  have hX : gx < v35.heap.size ∧ v35.cell? ⟨gx, 4, none⟩ = some (.slice nax 3 ncx) := ⟨Nat.lt_of_lt_of_le HX.out.1 Hb.out.size, (Hb.out.cell (p := ⟨gx, 4, none⟩) HX.out.1).trans HX.out.2⟩
  have hV35 : VarS (fun k => k = p ∨ k = q) v35 p A ∧ VarS (fun k => k = p ∨ k = q) v35 q C := ⟨HV.out.1.below Hb.out, HV.out.2.below Hb.out⟩
  have hbW35 := HbW.out.trans (Hb.out.mono HbW.out.size)
  clear HV HbW Hb LA LB KT HX
  have HV := Lib.hid hV35
  have HbW := Lib.hid hbW35
  have HX := Lib.hid hX
  clear hV35 hbW35 hX
  have HB := Lib.hid (Below.refl v35.heap.size v35)
  go_upto_region 35 with (first
    | ((go_at_call 16; with_reducible refine (K0.out _).mono ?_); rintro e v36 ⟨g36, rfl, hI, hg, hg', hb⟩; obtain ⟨F, hF⟩ : ∃ C, C = oneS 0 g36 := ⟨_, rfl⟩; rw [← hF] at hI ⊢; have HF := Lib.hid hF; clear hF; have HI := Lib.hid hI; have Hg := Lib.hid (And.intro hg hg'); have Hb := Lib.hid hb; have HT := Lib.hid (one_there v36 49); clear hI hb hg hg'; simp only [SeenA.v])
    | (refine wpList_store_mid rfl _ _ _ rfl v36.heap.size 0 F.l.toArray rfl rfl ?ht (by kernel_rfl) (SeenA.all _) ?_; (case ht => exact HT.out); simp only [Act.put, List.setIfInBounds_toArray, List.set_cons_succ, List.set_cons_zero]))
  obtain ⟨W36, hW36⟩ : ∃ V, V = (v36.alloc (.cells seenZ 49)).setCells v36.heap.size 0 F.l := ⟨_, rfl⟩
  obtain ⟨p36, hp⟩ : ∃ p, p = v36.heap.size := ⟨_, rfl⟩
  have hV : VarS (fun k => k = p36) W36 p36 F := by
    rw [hW36, hp, HF.out]
    exact newvar _ (by have := HI.out; rwa [HF.out] at this) Hg.out.2
  have hB : Below v35.heap.size v35 W36 := by rw [hW36]; exact newvar_below _ _ HB.out Hb.out
  have hpb : v35.heap.size ≤ p36 := by rw [hp]; exact Nat.le_trans HB.out.size Hb.out.size
  unfold seenZ at hW36
  rw [← hp] at hW36 ⊢
  rw [← hW36]
  clear hW36 hp HB HI Hg Hb HT
  have HV36 := Lib.hid hV
  have HB := Lib.hid hB
  have Hpb36 := Lib.hid hpb
  clear hV hB hpb
  go_upto_region 36 with (refine wpList_store_cell p36 7 (.int .u64 3) rfl rfl rfl rfl ?ht (by kernel_rfl) rfl ?_; (case ht => exact HV36.out.th1 7 (by decide)); simp only [Act.put, List.setIfInBounds_toArray, List.set_cons_succ, List.set_cons_zero])
  obtain ⟨W37, hW⟩ : ∃ V, V = W36.setCell ⟨p36, 7, none⟩ (.int .u64 3) := ⟨_, rfl⟩
  obtain ⟨D, hD⟩ : ∃ D, D = falls g36 := ⟨_, rfl⟩
  have hV : VarS (fun k => k = p36) W37 p36 D := by
    rw [hW]
    refine HV36.out.put 7 (by decide) _ ?_ ?_
    · rw [hD, HF.out]; rfl
    · rw [hD]; exact HV36.out.safe.scal (fun _ h => by rw [HF.out] at h; exact ⟨h.bm, h.es, h.locs, h.procs⟩)
  have hB : Below v35.heap.size v35 W37 := by rw [hW]; exact HB.out.setCell Hpb36.out _
  rw [← hW]
  clear hW HV36 HB HF
  have HF := Lib.hid hD
  clear hD
  have HV36 := Lib.hid hV
  have HB := Lib.hid hB
  clear hV hB
  obtain ⟨F, rfl⟩ : ∃ X, X = D := ⟨_, rfl⟩
  have LA := Lib.hid HV36.out.at_.load
  have KT := Lib.hid (chk1_any 2 W37 HV36.out.safe.in_ (by rw [HF.out]; exact ok_of (one_like 0 g36) (Nat.zero_le _) (Nat.zero_le _) (of_decide_eq_true rfl) (of_decide_eq_true rfl) (of_decide_eq_true rfl) (of_decide_eq_true rfl) (show 3 * 8 ≤ _ by omega) (ents_ok1 oneE_ok)) (by rw [HF.out]; exact k_falls g36))
  go_upto_region 37 with (first | (refine wpList_loadK rfl (by rfl) rfl (by first | exact LA.out) ?_; simp only [Act.put, List.setIfInBounds_toArray, List.set_cons_succ, List.set_cons_zero]) | (refine wpList_build1 (by rfl) 22 49 _ rfl F.l rfl 19 i0 _ Try.underlying22 Hi.out iz0 iz1 (by decide) (by decide) rfl ?_; simp only [Act.put, List.setIfInBounds_toArray, List.set_cons_succ, List.set_cons_zero]) | ((go_at_call 9; with_reducible refine KT.out.mono ?_); rintro e v38 ⟨gz, cz, rfl, hx1, hx2, hx3, hx4, hb⟩; have Hb := Lib.hid hb; have Hz := Lib.hid (And.intro hx2 (And.intro hx3 hx4)); clear hb hx1 hx2 hx3 hx4))
  have hB : Below v35.heap.size v35 v38 := HB.out.trans (Hb.out.mono HB.out.size)
  clear HB LA KT
  have HB := Lib.hid hB
  clear hB
  have hLA := (HV.out.1.below HB.out).at_.load
  have hLB := (HV.out.2.below HB.out).at_.load
  have hKT := chk2_any v38 (HV.out.1.below HB.out).safe.in_ (HV.out.2.below HB.out).safe.in_ KA.out KC.out CK.out
  have LA := Lib.hid hLA
  have LB := Lib.hid hLB
  have KT := Lib.hid hKT
  clear hLA hLB hKT
  go_cut [135] (fun c wx => c = .bool false ∧ Hid (Below v35.heap.size v35 wx))
  case first =>
    go_wp2_with (first | (refine wpList_loadK rfl (by rfl) rfl (by first | exact LA.out | exact LB.out) ?_; simp only [Act.put, List.setIfInBounds_toArray, List.set_cons_succ, List.set_cons_zero]) | (refine wpList_loadK rfl (by rfl) rfl (by first | exact LZ.out) ?_; simp only [Act.put, List.setIfInBounds_toArray, List.set_cons_succ, List.set_cons_zero]) | (refine wpList_build2 (by rfl) 22 49 _ _ rfl A.l C.l rfl rfl 19 i0 _ Try.underlying22 Hi.out iz0 iz1 (by decide) (by decide) rfl rfl ?_; simp only [Act.put, List.setIfInBounds_toArray, List.set_cons_succ, List.set_cons_zero]) | ((go_at_call 9; with_reducible refine KT.out.mono ?_); rintro e v39 ⟨a39, c39, rfl, hb⟩; have dX := ((HB.out.trans (hb.mono HB.out.size)).cell (p := ⟨gx, 4, none⟩) HX.out.1).trans HX.out.2; have dY := ((HB.out.trans (hb.mono HB.out.size)).cell (p := ⟨gy, 4, none⟩) HY.out.1).trans HY.out.2; have LZ := Lib.hid (fault_load ((hb.cell (p := ⟨gz, 0, none⟩) Hz.out.1).trans Hz.out.2.1) ((hb.cell (p := ⟨gz, 1, none⟩) Hz.out.1).trans Hz.out.2.2)); have Hb := Lib.hid hb; clear hb))
    go_meet
    exact ⟨rfl, Lib.hid (HB.out.trans (Hb.out.mono HB.out.size))⟩
  obtain ⟨rfl, HB39⟩ := hcut
  obtain ⟨v39, rfl⟩ : ∃ v, v = wc := ⟨_, rfl⟩
  go_upto_region 39 with fail
  clear HB LA LB KT HX HY Hz HV HV36 KA KC CK HA HC HF
  obtain ⟨HB⟩ : Nonempty (Hid (Below v35.heap.size v35 v39)) := ⟨HB39⟩
  clear HB39
  have hbWv39 : Below w.heap.size w v39 := HbW.out.trans (HB.out.mono HbW.out.size)
  clear HbW HB
  have HbW := Lib.hid hbWv39
  clear hbWv39
  have HB := Lib.hid (Below.refl v39.heap.size v39)
  trace "at 39"
  go_upto_region 40 with (first
    | ((go_at_call 16; with_reducible refine (K0.out _).mono ?_); rintro e v40 ⟨g40, rfl, hI, hg, hg', hb⟩; obtain ⟨G, hG⟩ : ∃ C, C = oneS 0 g40 := ⟨_, rfl⟩; rw [← hG] at hI ⊢; have HG := Lib.hid hG; clear hG; have HI := Lib.hid hI; have Hg := Lib.hid (And.intro hg hg'); have Hb := Lib.hid hb; have HT := Lib.hid (one_there v40 49); clear hI hb hg hg'; simp only [SeenA.v])
    | (refine wpList_store_mid rfl _ _ _ rfl v40.heap.size 0 G.l.toArray rfl rfl ?ht (by kernel_rfl) (SeenA.all _) ?_; (case ht => exact HT.out); simp only [Act.put, List.setIfInBounds_toArray, List.set_cons_succ, List.set_cons_zero]))
  obtain ⟨W40, hW40⟩ : ∃ V, V = (v40.alloc (.cells seenZ 49)).setCells v40.heap.size 0 G.l := ⟨_, rfl⟩
  obtain ⟨p40, hp⟩ : ∃ p, p = v40.heap.size := ⟨_, rfl⟩
  have hV : VarS (fun k => k = p40) W40 p40 G := by
    rw [hW40, hp, HG.out]
    exact newvar _ (by have := HI.out; rwa [HG.out] at this) Hg.out.2
  have hB : Below v39.heap.size v39 W40 := by rw [hW40]; exact newvar_below _ _ HB.out Hb.out
  have hpb : v39.heap.size ≤ p40 := by rw [hp]; exact Nat.le_trans HB.out.size Hb.out.size
  unfold seenZ at hW40
  rw [← hp] at hW40 ⊢
  rw [← hW40]
  clear hW40 hp HB HI Hg Hb HT
  have HV40 := Lib.hid hV
  have HB := Lib.hid hB
  have Hpb40 := Lib.hid hpb
  clear hV hB hpb
  go_upto_region 41 with (refine wpList_store_cell p40 12 (.string ⟨#[98]⟩) rfl rfl rfl rfl ?ht (by kernel_rfl) rfl ?_; (case ht => exact HV40.out.th1 12 (by decide)); simp only [Act.put, List.setIfInBounds_toArray, List.set_cons_succ, List.set_cons_zero])
  obtain ⟨W41, hW⟩ : ∃ V, V = W40.setCell ⟨p40, 12, none⟩ (.string ⟨#[98]⟩) := ⟨_, rfl⟩
  obtain ⟨D, hD⟩ : ∃ D, D = gapA g40 := ⟨_, rfl⟩
  have hV : VarS (fun k => k = p40) W41 p40 D := by
    rw [hW]
    refine HV40.out.put 12 (by decide) _ ?_ ?_
    · rw [hD, HG.out]; rfl
    · rw [hD]; exact HV40.out.safe.scal (fun _ h => by rw [HG.out] at h; exact ⟨h.bm, h.es, h.locs, h.procs⟩)
  have hB : Below v39.heap.size v39 W41 := by rw [hW]; exact HB.out.setCell Hpb40.out _
  rw [← hW]
  clear hW HV40 HB HG
  have HG := Lib.hid hD
  clear hD
  have HV40 := Lib.hid hV
  have HB := Lib.hid hB
  clear hV hB
  obtain ⟨G, rfl⟩ : ∃ X, X = D := ⟨_, rfl⟩
  have LA := Lib.hid HV40.out.at_.load
  have KT := Lib.hid (chk1_any 5 W41 HV40.out.safe.in_ (by rw [HG.out]; exact ok_of (one_like 0 g40) (show 1 ≤ maxLen by unfold maxLen; omega) (Nat.zero_le _) (of_decide_eq_true rfl) (of_decide_eq_true rfl) (of_decide_eq_true rfl) (of_decide_eq_true rfl) (show 3 * 8 ≤ _ by omega) (ents_ok1 oneE_ok)) (by rw [HG.out]; exact k_gap g40))
  go_upto_region 42 with (first | (refine wpList_loadK rfl (by rfl) rfl (by first | exact LA.out) ?_; simp only [Act.put, List.setIfInBounds_toArray, List.set_cons_succ, List.set_cons_zero]) | (refine wpList_build1 (by rfl) 22 49 _ rfl G.l rfl 19 i0 _ Try.underlying22 Hi.out iz0 iz1 (by decide) (by decide) rfl ?_; simp only [Act.put, List.setIfInBounds_toArray, List.set_cons_succ, List.set_cons_zero]) | ((go_at_call 9; with_reducible refine KT.out.mono ?_); rintro e v42 ⟨gc, cc, rfl, hx1, hx2, hx3, hx4, hb⟩; have Hb := Lib.hid hb; have Hc := Lib.hid (And.intro hx2 (And.intro hx3 hx4)); clear hb hx1 hx2 hx3 hx4))
  have hB : Below v39.heap.size v39 v42 := HB.out.trans (Hb.out.mono HB.out.size)
  clear HB LA KT
  have HB := Lib.hid hB
  clear hB
  have hbWv42 : Below w.heap.size w v42 := HbW.out.trans (HB.out.mono HbW.out.size)
  clear HbW HB
  have HbW := Lib.hid hbWv42
  clear hbWv42
  have HB := Lib.hid (Below.refl v42.heap.size v42)
  clear HG HV40 Hpb40
  have K5 := Lib.hid (fun V => one_g 5 V)
  go_upto_region 43 with (first
    | ((go_at_call 16; with_reducible refine (K5.out _).mono ?_); rintro e v43 ⟨g43, rfl, hI, hg, hg', hb⟩; obtain ⟨E, hE⟩ : ∃ C, C = oneS 5 g43 := ⟨_, rfl⟩; rw [← hE] at hI ⊢; have HE := Lib.hid hE; clear hE; have HI := Lib.hid hI; have Hg := Lib.hid (And.intro hg hg'); have Hb := Lib.hid hb; have HT := Lib.hid (one_there v43 49); clear hI hb hg hg'; simp only [SeenA.v])
    | (refine wpList_store_mid rfl _ _ _ rfl v43.heap.size 0 E.l.toArray rfl rfl ?ht (by kernel_rfl) (SeenA.all _) ?_; (case ht => exact HT.out); simp only [Act.put, List.setIfInBounds_toArray, List.set_cons_succ, List.set_cons_zero]))
  obtain ⟨W43, hW43⟩ : ∃ V, V = (v43.alloc (.cells seenZ 49)).setCells v43.heap.size 0 E.l := ⟨_, rfl⟩
  obtain ⟨p43, hp⟩ : ∃ p, p = v43.heap.size := ⟨_, rfl⟩
  have hV : VarS (fun k => k = p43) W43 p43 E := by
    rw [hW43, hp, HE.out]
    exact newvar _ (by have := HI.out; rwa [HE.out] at this) Hg.out.2
  have hB : Below v42.heap.size v42 W43 := by rw [hW43]; exact newvar_below _ _ HB.out Hb.out
  have hpb : v42.heap.size ≤ p43 := by rw [hp]; exact Nat.le_trans HB.out.size Hb.out.size
  unfold seenZ at hW43
  rw [← hp] at hW43 ⊢
  rw [← hW43]
  clear hW43 hp HB HI Hg Hb HT
  have HV43 := Lib.hid hV
  have HB := Lib.hid hB
  have Hpb43 := Lib.hid hpb
  clear hV hB hpb
  have LA := Lib.hid HV43.out.at_.load
  have KT := Lib.hid (chk1_any 2 W43 HV43.out.safe.in_ (by rw [HE.out]; exact ok_of (one_like 5 g43) (Nat.zero_le _) (Nat.zero_le _) (of_decide_eq_true rfl) (of_decide_eq_true rfl) (of_decide_eq_true rfl) (of_decide_eq_true rfl) (show 3 * 8 ≤ _ by omega) (ents_ok1 oneE_ok)) (by rw [HE.out]; exact k_bad g43))
  go_upto_region 44 with (first | (refine wpList_loadK rfl (by rfl) rfl (by first | exact LA.out) ?_; simp only [Act.put, List.setIfInBounds_toArray, List.set_cons_succ, List.set_cons_zero]) | (refine wpList_build1 (by rfl) 22 49 _ rfl E.l rfl 19 i0 _ Try.underlying22 Hi.out iz0 iz1 (by decide) (by decide) rfl ?_; simp only [Act.put, List.setIfInBounds_toArray, List.set_cons_succ, List.set_cons_zero]) | ((go_at_call 9; with_reducible refine KT.out.mono ?_); rintro e v44 ⟨gd, cd, rfl, hx1, hx2, hx3, hx4, hb⟩; have Hb := Lib.hid hb; have Hd := Lib.hid (And.intro hx2 (And.intro hx3 hx4)); clear hb hx1 hx2 hx3 hx4))
  have hB : Below v42.heap.size v42 v44 := HB.out.trans (Hb.out.mono HB.out.size)
  clear HB LA KT
  have HB := Lib.hid hB
  clear hB
  have hc : gc < v44.heap.size ∧ v44.cell? ⟨gc, 0, none⟩ = some (.int .i64 5) ∧ v44.cell? ⟨gc, 1, none⟩ = some (.int .i64 0) := ⟨Nat.lt_of_lt_of_le Hc.out.1 HB.out.size, (HB.out.cell (p := ⟨gc, 0, none⟩) Hc.out.1).trans Hc.out.2.1, (HB.out.cell (p := ⟨gc, 1, none⟩) Hc.out.1).trans Hc.out.2.2⟩
  clear Hc HE HV43 Hpb43 K5
  have Hc := Lib.hid hc
  clear hc
  have hbWv44 : Below w.heap.size w v44 := HbW.out.trans (HB.out.mono HbW.out.size)
  clear HbW HB
  have HbW := Lib.hid hbWv44
  clear hbWv44
  have HB := Lib.hid (Below.refl v44.heap.size v44)
  trace "at 44"
  go_upto_region 45 with (first
    | ((go_at_call 16; with_reducible refine (K0.out _).mono ?_); rintro e v45 ⟨g45, rfl, hI, hg, hg', hb⟩; obtain ⟨A, hA⟩ : ∃ C, C = oneS 0 g45 := ⟨_, rfl⟩; rw [← hA] at hI ⊢; have HA := Lib.hid hA; clear hA; have HI := Lib.hid hI; have Hg := Lib.hid (And.intro hg hg'); have Hb := Lib.hid hb; clear hI hb hg hg'; simp only [SeenA.v])
    | ((go_at_call 16; with_reducible refine (K1.out _).mono ?_); rintro e v46 ⟨g46, rfl, hI, hg, hg', hb⟩; obtain ⟨C, hC⟩ : ∃ C, C = oneS 1 g46 := ⟨_, rfl⟩; rw [← hC] at hI ⊢; have HC := Lib.hid hC; clear hC; have HI2 := Lib.hid hI; have Hg2 := Lib.hid (And.intro hg hg'); have Hb2 := Lib.hid hb; have HT1 := Lib.hid (two_there v46 49).1; have HT2 := Lib.hid (there_set (b := v46.heap.size) (vs := A.l) (o := 0) (by omega) (two_there v46 49).2); clear hI hb hg hg'; simp only [SeenA.v])
    | (refine wpList_store_mid rfl _ _ _ rfl v46.heap.size 0 A.l.toArray rfl rfl ?ht (by kernel_rfl) (SeenA.all _) ?_; (case ht => exact HT1.out); simp only [Act.put, List.setIfInBounds_toArray, List.set_cons_succ, List.set_cons_zero])
    | (refine wpList_store_mid rfl _ _ _ rfl (v46.heap.size + 1) 0 C.l.toArray rfl rfl ?ht (by kernel_rfl) (SeenA.all _) ?_; (case ht => exact HT2.out); simp only [Act.put, List.setIfInBounds_toArray, List.set_cons_succ, List.set_cons_zero]))
  obtain ⟨W46, hW46⟩ : ∃ W : World, W = (((v46.alloc (.cells seenZ 49)).alloc (.cells seenZ 49)).setCells v46.heap.size 0 A.l).setCells (v46.heap.size + 1) 0 C.l := ⟨_, rfl⟩
  obtain ⟨p, hp⟩ : ∃ p, p = v46.heap.size := ⟨_, rfl⟩
  obtain ⟨q, hq⟩ : ∃ q, q = v46.heap.size + 1 := ⟨_, rfl⟩
  have hV : VarS (fun k => k = p ∨ k = q) W46 p A ∧ VarS (fun k => k = p ∨ k = q) W46 q C := by
    have h1 : (oneS 0 g45).In v46 := by have := HI.out.below Hb2.out; rwa [HA.out] at this
    have h2 : (oneS 1 g46).In v46 := by have := HI2.out; rwa [HC.out] at this
    have hz := Hb2.out.size
    have h3 := Hg.out.2
    rw [hW46, hp, hq, HA.out, HC.out]
    exact two_vars 49 h1 h2 (by omega) Hg2.out.2
  have hB : Below v44.heap.size v44 W46 := by rw [hW46]; exact two_vars_below _ _ _ (HB.out.trans (Hb.out.mono HB.out.size)) Hb2.out
  have hwp' : v44.heap.size ≤ p := by rw [hp]; exact Nat.le_trans Hb.out.size Hb2.out.size
  have hwq' : v44.heap.size ≤ q := by rw [hq]; exact Nat.le_succ_of_le (Nat.le_trans Hb.out.size Hb2.out.size)
  have hpq : p ≠ q := by omega
  unfold seenZ at hW46
  rw [← hW46, ← hq, ← hp]
  clear hW46 hp hq HB HI HI2 Hg Hg2 Hb Hb2 HT1 HT2 hwp hwq Hpq
  obtain ⟨hwp, hwq⟩ : v44.heap.size ≤ p ∧ v44.heap.size ≤ q := ⟨hwp', hwq'⟩
  have Hpq := Lib.hid hpq
  have HV := Lib.hid hV
  obtain ⟨HbA⟩ : Nonempty (Hid (Below w.heap.size w v44)) := ⟨HbW⟩
  clear HbW hV hpq hwp' hwq'
  have HbW := Lib.hid hB
  clear hB
  go_upto_region 46 with (refine wpList_store_cell p 1 (.int .i64 0) rfl rfl rfl rfl ?ht (by kernel_rfl) rfl ?_; (case ht => exact HV.out.1.th1 1 (by decide)); simp only [Act.put, List.setIfInBounds_toArray, List.set_cons_succ, List.set_cons_zero])
  obtain ⟨W47, hW47⟩ : ∃ V, V = W46.setCell ⟨p, 1, none⟩ (.int .i64 0) := ⟨_, rfl⟩
  obtain ⟨D, hD⟩ : ∃ D, D = { oneS 0 g45 with group := 0 } := ⟨_, rfl⟩
  have hV47 : VarS (fun k => k = p ∨ k = q) W47 p D ∧ VarS (fun k => k = p ∨ k = q) W47 q C := by
    rw [hW47]
    refine ⟨HV.out.1.put 1 (by decide) _ ?_ ?_, HV.out.2.other (.inl rfl) (Ne.symm Hpq.out) _ _⟩
    · rw [hD, HA.out]; rfl
    · rw [hD]; exact HV.out.1.safe.scal (fun _ h => by rw [HA.out] at h; exact ⟨h.bm, h.es, h.locs, h.procs⟩)
  have hbW47 : Below v44.heap.size v44 W47 := by rw [hW47]; exact HbW.out.setCell hwp _
  rw [← hW47]
  clear hW47 HV HbW HA
  have HA := Lib.hid hD
  clear hD
  have HV := Lib.hid hV47
  have HbW := Lib.hid hbW47
  clear hV47 hbW47
  obtain ⟨A, rfl⟩ : ∃ X, X = D := ⟨_, rfl⟩
  go_upto_region 47 with (refine wpList_store_cell q 1 (.int .i64 0) rfl rfl rfl rfl ?ht (by kernel_rfl) rfl ?_; (case ht => exact HV.out.2.th1 1 (by decide)); simp only [Act.put, List.setIfInBounds_toArray, List.set_cons_succ, List.set_cons_zero])
  obtain ⟨W48, hW48⟩ : ∃ V, V = W47.setCell ⟨q, 1, none⟩ (.int .i64 0) := ⟨_, rfl⟩
  obtain ⟨D, hD⟩ : ∃ D, D = { oneS 1 g46 with group := 0 } := ⟨_, rfl⟩
  have hV48 : VarS (fun k => k = p ∨ k = q) W48 p A ∧ VarS (fun k => k = p ∨ k = q) W48 q D := by
    rw [hW48]
    refine ⟨HV.out.1.other (.inr rfl) Hpq.out _ _, HV.out.2.put 1 (by decide) _ ?_ ?_⟩
    · rw [hD, HC.out]; rfl
    · rw [hD]; exact HV.out.2.safe.scal (fun _ h => by rw [HC.out] at h; exact ⟨h.bm, h.es, h.locs, h.procs⟩)
  have hbW48 : Below v44.heap.size v44 W48 := by rw [hW48]; exact HbW.out.setCell hwq _
  rw [← hW48]
  clear hW48 HV HbW HC
  have HC := Lib.hid hD
  clear hD
  have HV := Lib.hid hV48
  have HbW := Lib.hid hbW48
  clear hV48 hbW48
  obtain ⟨C, rfl⟩ : ∃ X, X = D := ⟨_, rfl⟩
  go_upto_region 48 with (refine wpList_store_cell p 18 (.int .i64 4) rfl rfl rfl rfl ?ht (by kernel_rfl) rfl ?_; (case ht => exact HV.out.1.th1 18 (by decide)); simp only [Act.put, List.setIfInBounds_toArray, List.set_cons_succ, List.set_cons_zero])
  obtain ⟨W49, hW49⟩ : ∃ V, V = W48.setCell ⟨p, 18, none⟩ (.int .i64 4) := ⟨_, rfl⟩
  obtain ⟨D, hD⟩ : ∃ D, D = bossA 0 4 g45 := ⟨_, rfl⟩
  have hV49 : VarS (fun k => k = p ∨ k = q) W49 p D ∧ VarS (fun k => k = p ∨ k = q) W49 q C := by
    rw [hW49]
    refine ⟨HV.out.1.put 18 (by decide) _ ?_ ?_, HV.out.2.other (.inl rfl) (Ne.symm Hpq.out) _ _⟩
    · rw [hD, HA.out]; rfl
    · rw [hD]; exact HV.out.1.safe.scal (fun _ h => by rw [HA.out] at h; exact ⟨h.bm, h.es, h.locs, h.procs⟩)
  have hbW49 : Below v44.heap.size v44 W49 := by rw [hW49]; exact HbW.out.setCell hwp _
  rw [← hW49]
  clear hW49 HV HbW HA
  have HA := Lib.hid hD
  clear hD
  have HV := Lib.hid hV49
  have HbW := Lib.hid hbW49
  clear hV49 hbW49
  obtain ⟨A, rfl⟩ : ∃ X, X = D := ⟨_, rfl⟩
  go_upto_region 49 with (refine wpList_store_cell q 18 (.int .i64 5) rfl rfl rfl rfl ?ht (by kernel_rfl) rfl ?_; (case ht => exact HV.out.2.th1 18 (by decide)); simp only [Act.put, List.setIfInBounds_toArray, List.set_cons_succ, List.set_cons_zero])
  obtain ⟨W50, hW50⟩ : ∃ V, V = W49.setCell ⟨q, 18, none⟩ (.int .i64 5) := ⟨_, rfl⟩
  obtain ⟨D, hD⟩ : ∃ D, D = bossA 1 5 g46 := ⟨_, rfl⟩
  have hV50 : VarS (fun k => k = p ∨ k = q) W50 p A ∧ VarS (fun k => k = p ∨ k = q) W50 q D := by
    rw [hW50]
    refine ⟨HV.out.1.other (.inr rfl) Hpq.out _ _, HV.out.2.put 18 (by decide) _ ?_ ?_⟩
    · rw [hD, HC.out]; rfl
    · rw [hD]; exact HV.out.2.safe.scal (fun _ h => by rw [HC.out] at h; exact ⟨h.bm, h.es, h.locs, h.procs⟩)
  have hbW50 : Below v44.heap.size v44 W50 := by rw [hW50]; exact HbW.out.setCell hwq _
  rw [← hW50]
  clear hW50 HV HbW HC
  have HC := Lib.hid hD
  clear hD
  have HV := Lib.hid hV50
  have HbW := Lib.hid hbW50
  clear hV50 hbW50
  obtain ⟨C, rfl⟩ : ∃ X, X = D := ⟨_, rfl⟩
  obtain ⟨X, hX⟩ : ∃ X, X = W50 := ⟨_, rfl⟩
  rw [← hX] at HV HbW ⊢
  have hXb : Below w.heap.size w X := HbA.out.trans (HbW.out.mono HbA.out.size)
  have hc : gc < X.heap.size ∧ X.cell? ⟨gc, 0, none⟩ = some (.int .i64 5) ∧ X.cell? ⟨gc, 1, none⟩ = some (.int .i64 0) := ⟨Nat.lt_of_lt_of_le Hc.out.1 HbW.out.size, (HbW.out.cell (p := ⟨gc, 0, none⟩) Hc.out.1).trans Hc.out.2.1, (HbW.out.cell (p := ⟨gc, 1, none⟩) Hc.out.1).trans Hc.out.2.2⟩
  have hd : gd < X.heap.size ∧ X.cell? ⟨gd, 0, none⟩ = some (.int .i64 2) ∧ X.cell? ⟨gd, 1, none⟩ = some (.int .i64 0) := ⟨Nat.lt_of_lt_of_le Hd.out.1 HbW.out.size, (HbW.out.cell (p := ⟨gd, 0, none⟩) Hd.out.1).trans Hd.out.2.1, (HbW.out.cell (p := ⟨gd, 1, none⟩) Hd.out.1).trans Hd.out.2.2⟩
  clear hX Hc Hd HbA HbW K0 K1
  have Hc := Lib.hid hc
  have Hd := Lib.hid hd
  have HXw := Lib.hid hXb
  have KG := Lib.hid (fun V => one_gf 0 V)
  clear hc hd hXb
  go_wp2_with fail
  go_loopw [13] (fun i V => ∃ k : Nat, k ≤ 7 ∧ i = .int .i64 (k : Int) ∧ Hid (Below X.heap.size X V)) (fun i _ => 7 - (intOf i).toNat)
  case atStart => exact ⟨0, by omega, rfl, Lib.hid (Below.refl _ _)⟩
  case round =>
    obtain ⟨k, hk, rfl, HB⟩ := hrel
    by_cases hlt : k < 7
    · have hx7 : k = 0 ∨ k = 1 ∨ k = 2 ∨ k = 3 ∨ k = 4 ∨ k = 5 ∨ k = 6 := by omega
      have Hx7 := Lib.hid hx7
      clear hx7
      go_upto_region 53 with (first
        | ((go_at_call 16; with_reducible refine (KG.out _).mono ?_); rintro e v51 ⟨g51, rfl, hI, hg, hg', hT, hb⟩; obtain ⟨S, hS⟩ : ∃ C, C = oneS 0 g51 := ⟨_, rfl⟩; rw [← hS] at hI ⊢; have HS := Lib.hid hS; clear hS; have HI := Lib.hid hI; have Hg := Lib.hid (And.intro hg hg'); have Hb := Lib.hid hb; have HTe := Lib.hid hT; have HT := Lib.hid (one_there v51 49); clear hI hb hg hg' hT; simp only [SeenA.v])
        | (refine wpList_store_mid rfl _ _ _ rfl v51.heap.size 0 S.l.toArray rfl rfl ?ht (by kernel_rfl) (SeenA.all _) ?_; (case ht => exact HT.out); simp only [Act.put, List.setIfInBounds_toArray, List.set_cons_succ, List.set_cons_zero]))
      obtain ⟨W51, hW51⟩ : ∃ V, V = (v51.alloc (.cells seenZ 49)).setCells v51.heap.size 0 S.l := ⟨_, rfl⟩
      obtain ⟨p51, hp⟩ : ∃ p, p = v51.heap.size := ⟨_, rfl⟩
      have hV : VarS (fun k => k = p51) W51 p51 (oneS 0 g51) := by
        rw [hW51, hp, HS.out]
        exact newvar _ (by have := HI.out; rwa [HS.out] at this) Hg.out.2
      have hB : Below X.heap.size X W51 := by rw [hW51]; exact newvar_below _ _ HB.out Hb.out
      have hpb : X.heap.size ≤ p51 := by rw [hp]; exact Nat.le_trans HB.out.size Hb.out.size
      have hte : W51.there (g51 + 1) 0 24 := by
        rw [hW51]
        exact there_set (by have := Hg.out.2; omega) (World.there_alloc HTe.out _)
      have hgp : g51 + 1 < p51 := by rw [hp]; exact Hg.out.2
      have hgX : X.heap.size ≤ g51 := Nat.le_trans HB.out.size Hg.out.1
      unfold seenZ at hW51
      rw [← hp] at hW51 ⊢
      rw [← hW51]
      clear hW51 hp HB HI Hg Hb HT HTe
      have HV51 := Lib.hid hV
      have HB := Lib.hid hB
      have HTe := Lib.hid hte
      clear hV hB hte
      rcases Hx7.out with rfl | rfl | rfl | rfl | rfl | rfl | rfl
      · obtain ⟨D, hD⟩ : ∃ D, D = x0 g51 := ⟨_, rfl⟩
        have h' : VarS (fun k => k = p51) (W51.setCell ⟨p51, 1, none⟩ (.int .i64 12)) p51 D := by
          refine HV51.out.put 1 (by decide) _ (by rw [hD]; rfl) ?_
          rw [hD]; exact HV51.out.safe.scal (fun _ h => ⟨h.bm, h.es, h.locs, h.procs⟩)
        have hL := h'.at_
        have hI := h'.safe.in_
        have hBX : Below X.heap.size X (W51.setCell ⟨p51, 1, none⟩ (.int .i64 12)) := HB.out.setCell hpb _
        obtain ⟨W52, hW52⟩ : ∃ V, V = W51.setCell ⟨p51, 1, none⟩ (.int .i64 12) := ⟨_, rfl⟩
        rw [← hW52] at hL hI hBX
        have LA := Lib.hid hL.load
        have KT := Lib.hid (chk1_any 2 W52 hI (by rw [hD]; exact ok_of (one_like 0 g51) (Nat.zero_le _) (Nat.zero_le _) (of_decide_eq_true rfl) (of_decide_eq_true rfl) (of_decide_eq_true rfl) (of_decide_eq_true rfl) (show 3 * 8 ≤ _ by omega) (ents_ok1 oneE_ok)) (by rw [hD]; exact k_x0 g51))
        have HBX := Lib.hid hBX
        have HW52 := Lib.hid hW52
        clear hL hI hBX hD hW52 h'
        go_upto_region 67 with (refine wpList_store_cell p51 1 (.int .i64 12) rfl rfl rfl rfl ?ht (by kernel_rfl) rfl ?_; (case ht => exact HV51.out.th1 1 (by decide)); simp only [Act.put, List.setIfInBounds_toArray, List.set_cons_succ, List.set_cons_zero])
        change Code.wp _ _ _ _ (W51.setCell ⟨p51, 1, none⟩ (.int .i64 12))
        rw [← HW52.out]
        clear HW52 
        go_wp2_with (first | (refine wpList_loadK rfl (by rfl) rfl (by first | exact LA.out) ?_; simp only [Act.put, List.setIfInBounds_toArray, List.set_cons_succ, List.set_cons_zero]) | (refine wpList_build1 (by rfl) 22 49 _ rfl D.l rfl 19 i0 _ Try.underlying22 Hi.out iz0 iz1 (by decide) (by decide) rfl ?_; simp only [Act.put, List.setIfInBounds_toArray, List.set_cons_succ, List.set_cons_zero]) | ((go_at_call 9; with_reducible refine KT.out.mono ?_); rintro e v52 ⟨gz, cz, rfl, hx1, hx2, hx3, hx4, hb⟩; have Hb := Lib.hid (HBX.out.trans (hb.mono HBX.out.size)); have LZ := Lib.hid (fault_load hx3 hx4); clear hb hx1 hx3 hx4) | (refine wpList_loadK rfl (by rfl) rfl (by first | exact LZ.out) ?_; simp only [Act.put, List.setIfInBounds_toArray, List.set_cons_succ, List.set_cons_zero]))
        exact ⟨⟨1, by omega, by go_num, Hb⟩, by simp [intOf]⟩
      · obtain ⟨D, hD⟩ : ∃ D, D = x1 g51 := ⟨_, rfl⟩
        have h' : VarS (fun k => k = p51) (W51.setCell ⟨p51, 7, none⟩ (.int .u64 0)) p51 D := by
          refine HV51.out.put 7 (by decide) _ (by rw [hD]; rfl) ?_
          rw [hD]; exact HV51.out.safe.scal (fun _ h => ⟨h.bm, h.es, h.locs, h.procs⟩)
        have hL := h'.at_
        have hI := h'.safe.in_
        have hBX : Below X.heap.size X (W51.setCell ⟨p51, 7, none⟩ (.int .u64 0)) := HB.out.setCell hpb _
        obtain ⟨W52, hW52⟩ : ∃ V, V = W51.setCell ⟨p51, 7, none⟩ (.int .u64 0) := ⟨_, rfl⟩
        rw [← hW52] at hL hI hBX
        have LA := Lib.hid hL.load
        have KT := Lib.hid (chk1_any 2 W52 hI (by rw [hD]; exact ok_of (one_like 0 g51) (Nat.zero_le _) (Nat.zero_le _) (of_decide_eq_true rfl) (of_decide_eq_true rfl) (of_decide_eq_true rfl) (of_decide_eq_true rfl) (show 3 * 8 ≤ _ by omega) (ents_ok1 oneE_ok)) (by rw [hD]; exact k_x1 g51))
        have HBX := Lib.hid hBX
        have HW52 := Lib.hid hW52
        clear hL hI hBX hD hW52 h'
        go_upto_region 67 with (refine wpList_store_cell p51 7 (.int .u64 0) rfl rfl rfl rfl ?ht (by kernel_rfl) rfl ?_; (case ht => exact HV51.out.th1 7 (by decide)); simp only [Act.put, List.setIfInBounds_toArray, List.set_cons_succ, List.set_cons_zero])
        change Code.wp _ _ _ _ (W51.setCell ⟨p51, 7, none⟩ (.int .u64 0))
        rw [← HW52.out]
        clear HW52 
        go_wp2_with (first | (refine wpList_loadK rfl (by rfl) rfl (by first | exact LA.out) ?_; simp only [Act.put, List.setIfInBounds_toArray, List.set_cons_succ, List.set_cons_zero]) | (refine wpList_build1 (by rfl) 22 49 _ rfl D.l rfl 19 i0 _ Try.underlying22 Hi.out iz0 iz1 (by decide) (by decide) rfl ?_; simp only [Act.put, List.setIfInBounds_toArray, List.set_cons_succ, List.set_cons_zero]) | ((go_at_call 9; with_reducible refine KT.out.mono ?_); rintro e v52 ⟨gz, cz, rfl, hx1, hx2, hx3, hx4, hb⟩; have Hb := Lib.hid (HBX.out.trans (hb.mono HBX.out.size)); have LZ := Lib.hid (fault_load hx3 hx4); clear hb hx1 hx3 hx4) | (refine wpList_loadK rfl (by rfl) rfl (by first | exact LZ.out) ?_; simp only [Act.put, List.setIfInBounds_toArray, List.set_cons_succ, List.set_cons_zero]))
        exact ⟨⟨2, by omega, by go_num, Hb⟩, by simp [intOf]⟩
      · obtain ⟨D, hD⟩ : ∃ D, D = x2 g51 W51.heap.size := ⟨_, rfl⟩
        have hbV : Below W51.heap.size W51 (W51.alloc (.cells #[.int .i64 1, .int .i64 0] 3)) := (Below.refl _ _).alloc (Nat.le_refl _) _
        have hzV : (W51.alloc (.cells #[.int .i64 1, .int .i64 0] 3)).heap.size = W51.heap.size + 1 := World.size_alloc _ _
        have hpW := HV51.out.lt
        have h0 := HV51.out.below hbV
        have h' : VarS (fun k => k = p51) ((W51.alloc (.cells #[.int .i64 1, .int .i64 0] 3)).setCell ⟨p51, 8, none⟩ (.slice (some ⟨W51.heap.size, 0, none⟩) 2 2)) p51 D := by
          refine h0.put 8 (by decide) _ (by rw [hD]; rfl) ?_
          rw [hD]; exact h0.safe.ints (ints2_new _ _ _ 1 0 rfl) (by omega) (by omega)
        have hL := h'.at_
        have hI := h'.safe.in_
        have hBX : Below X.heap.size X ((W51.alloc (.cells #[.int .i64 1, .int .i64 0] 3)).setCell ⟨p51, 8, none⟩ (.slice (some ⟨W51.heap.size, 0, none⟩) 2 2)) := (HB.out.trans (hbV.mono HB.out.size)).setCell hpb _
        clear hbV hzV hpW h0
        obtain ⟨W52, hW52⟩ : ∃ V, V = (W51.alloc (.cells #[.int .i64 1, .int .i64 0] 3)).setCell ⟨p51, 8, none⟩ (.slice (some ⟨W51.heap.size, 0, none⟩) 2 2) := ⟨_, rfl⟩
        rw [← hW52] at hL hI hBX
        have LA := Lib.hid hL.load
        have KT := Lib.hid (chk1_any 2 W52 hI (by rw [hD]; exact ok_of (one_like 0 g51) (Nat.zero_le _) (Nat.zero_le _) (of_decide_eq_true rfl) (of_decide_eq_true rfl) (of_decide_eq_true rfl) (of_decide_eq_true rfl) (show 2 * 8 ≤ _ by omega) (ents_ok1 oneE_ok)) (by rw [hD]; exact k_x2c g51 W51.heap.size))
        have HBX := Lib.hid hBX
        have HW52 := Lib.hid hW52
        clear hL hI hBX hD hW52 h'
        go_upto_region 67 with (refine wpList_store_cell p51 8 (.slice (some ⟨W51.heap.size, 0, none⟩) 2 2) rfl rfl rfl rfl ?ht (by kernel_rfl) rfl ?_; (case ht => exact World.there_alloc (HV51.out.th1 8 (by decide)) _); simp only [Act.put, List.setIfInBounds_toArray, List.set_cons_succ, List.set_cons_zero])
        change Code.wp _ _ _ _ ((W51.alloc (.cells #[.int .i64 1, .int .i64 0] 3)).setCell ⟨p51, 8, none⟩ (.slice (some ⟨W51.heap.size, 0, none⟩) 2 2))
        rw [← HW52.out]
        clear HW52 
        go_wp2_with (first | (refine wpList_loadK rfl (by rfl) rfl (by first | exact LA.out) ?_; simp only [Act.put, List.setIfInBounds_toArray, List.set_cons_succ, List.set_cons_zero]) | (refine wpList_build1 (by rfl) 22 49 _ rfl D.l rfl 19 i0 _ Try.underlying22 Hi.out iz0 iz1 (by decide) (by decide) rfl ?_; simp only [Act.put, List.setIfInBounds_toArray, List.set_cons_succ, List.set_cons_zero]) | ((go_at_call 9; with_reducible refine KT.out.mono ?_); rintro e v52 ⟨gz, cz, rfl, hx1, hx2, hx3, hx4, hb⟩; have Hb := Lib.hid (HBX.out.trans (hb.mono HBX.out.size)); have LZ := Lib.hid (fault_load hx3 hx4); clear hb hx1 hx3 hx4) | (refine wpList_loadK rfl (by rfl) rfl (by first | exact LZ.out) ?_; simp only [Act.put, List.setIfInBounds_toArray, List.set_cons_succ, List.set_cons_zero]))
        exact ⟨⟨3, by omega, by go_num, Hb⟩, by simp [intOf]⟩
      · obtain ⟨D, hD⟩ : ∃ D, D = x3 g51 := ⟨_, rfl⟩
        have hpne : p51 ≠ g51 + 1 := by omega
        have i0 := HV51.out.safe.in_
        have hL : SeenAt (W51.setCell ⟨g51 + 1, 0, none⟩ (.int .u64 3)) p51 0 D := by
          have := HV51.out.at_.same (w' := W51.setCell ⟨g51 + 1, 0, none⟩ (.int .u64 3)) (Below.heap_setCell _ _ _ _ (by simpa using hpne))
          rw [hD]; exact this
        have hI : D.In (W51.setCell ⟨g51 + 1, 0, none⟩ (.int .u64 3)) := by
          rw [hD]
          exact ⟨Arr.sameBlk i0.bm (Below.heap_setCell _ _ _ _ (by simp)), ents_set i0.es rfl (by decide) ⟨rfl, rfl, rfl, rfl⟩, ⟨Arr.nil _ _, fun c hc => by cases hc⟩, Arr.nil _ _⟩
        have hBX : Below X.heap.size X (W51.setCell ⟨g51 + 1, 0, none⟩ (.int .u64 3)) := HB.out.setCell (show X.heap.size ≤ g51 + 1 by omega) _
        have xc := HV51.out.cell 9 (.slice (some ⟨g51 + 1, 0, none⟩) 1 1) rfl
        clear hpne i0
        obtain ⟨W52, hW52⟩ : ∃ V, V = W51.setCell ⟨g51 + 1, 0, none⟩ (.int .u64 3) := ⟨_, rfl⟩
        rw [← hW52] at hL hI hBX
        have LA := Lib.hid hL.load
        have KT := Lib.hid (chk1_any 2 W52 hI (by rw [hD]; exact ok_of (one_like 0 g51) (Nat.zero_le _) (Nat.zero_le _) (of_decide_eq_true rfl) (of_decide_eq_true rfl) (of_decide_eq_true rfl) (of_decide_eq_true rfl) (show 3 * 8 ≤ _ by omega) (ents_ok1 (e := { oneE with idx := 3 }) ⟨⟨by decide, by decide, by decide, by decide⟩, by show 0 * 8 ≤ _; omega⟩)) (by rw [hD]; exact k_x3 g51))
        have HBX := Lib.hid hBX
        have HW52 := Lib.hid hW52
        clear hL hI hBX hD hW52 
        go_upto_region 67 with (refine wpList_store_cell (g51 + 1) 0 (.int .u64 3) rfl rfl rfl rfl ?ht (by kernel_rfl) rfl ?_; (case ht => exact there_sub24 HTe.out 0 (by decide)); simp only [Act.put, List.setIfInBounds_toArray, List.set_cons_succ, List.set_cons_zero])
        change Code.wp _ _ _ _ (W51.setCell ⟨g51 + 1, 0, none⟩ (.int .u64 3))
        rw [← HW52.out]
        clear HW52 xc
        go_wp2_with (first | (refine wpList_loadK rfl (by rfl) rfl (by first | exact LA.out) ?_; simp only [Act.put, List.setIfInBounds_toArray, List.set_cons_succ, List.set_cons_zero]) | (refine wpList_build1 (by rfl) 22 49 _ rfl D.l rfl 19 i0 _ Try.underlying22 Hi.out iz0 iz1 (by decide) (by decide) rfl ?_; simp only [Act.put, List.setIfInBounds_toArray, List.set_cons_succ, List.set_cons_zero]) | ((go_at_call 9; with_reducible refine KT.out.mono ?_); rintro e v52 ⟨gz, cz, rfl, hx1, hx2, hx3, hx4, hb⟩; have Hb := Lib.hid (HBX.out.trans (hb.mono HBX.out.size)); have LZ := Lib.hid (fault_load hx3 hx4); clear hb hx1 hx3 hx4) | (refine wpList_loadK rfl (by rfl) rfl (by first | exact LZ.out) ?_; simp only [Act.put, List.setIfInBounds_toArray, List.set_cons_succ, List.set_cons_zero]))
        exact ⟨⟨4, by omega, by go_num, Hb⟩, by simp [intOf]⟩
      · obtain ⟨D, hD⟩ : ∃ D, D = x4 g51 := ⟨_, rfl⟩
        have h' : VarS (fun k => k = p51) (W51.setCell ⟨p51, 10, none⟩ (.int .u64 3)) p51 D := by
          refine HV51.out.put 10 (by decide) _ (by rw [hD]; rfl) ?_
          rw [hD]; exact HV51.out.safe.scal (fun _ h => ⟨h.bm, h.es, h.locs, h.procs⟩)
        have hL := h'.at_
        have hI := h'.safe.in_
        have hBX : Below X.heap.size X (W51.setCell ⟨p51, 10, none⟩ (.int .u64 3)) := HB.out.setCell hpb _
        obtain ⟨W52, hW52⟩ : ∃ V, V = W51.setCell ⟨p51, 10, none⟩ (.int .u64 3) := ⟨_, rfl⟩
        rw [← hW52] at hL hI hBX
        have LA := Lib.hid hL.load
        have KT := Lib.hid (chk1_any 2 W52 hI (by rw [hD]; exact ok_of (one_like 0 g51) (Nat.zero_le _) (Nat.zero_le _) (of_decide_eq_true rfl) (of_decide_eq_true rfl) (of_decide_eq_true rfl) (of_decide_eq_true rfl) (show 3 * 8 ≤ _ by omega) (ents_ok1 oneE_ok)) (by rw [hD]; exact k_x4 g51))
        have HBX := Lib.hid hBX
        have HW52 := Lib.hid hW52
        clear hL hI hBX hD hW52 h'
        go_upto_region 67 with (refine wpList_store_cell p51 10 (.int .u64 3) rfl rfl rfl rfl ?ht (by kernel_rfl) rfl ?_; (case ht => exact HV51.out.th1 10 (by decide)); simp only [Act.put, List.setIfInBounds_toArray, List.set_cons_succ, List.set_cons_zero])
        change Code.wp _ _ _ _ (W51.setCell ⟨p51, 10, none⟩ (.int .u64 3))
        rw [← HW52.out]
        clear HW52 
        go_wp2_with (first | (refine wpList_loadK rfl (by rfl) rfl (by first | exact LA.out) ?_; simp only [Act.put, List.setIfInBounds_toArray, List.set_cons_succ, List.set_cons_zero]) | (refine wpList_build1 (by rfl) 22 49 _ rfl D.l rfl 19 i0 _ Try.underlying22 Hi.out iz0 iz1 (by decide) (by decide) rfl ?_; simp only [Act.put, List.setIfInBounds_toArray, List.set_cons_succ, List.set_cons_zero]) | ((go_at_call 9; with_reducible refine KT.out.mono ?_); rintro e v52 ⟨gz, cz, rfl, hx1, hx2, hx3, hx4, hb⟩; have Hb := Lib.hid (HBX.out.trans (hb.mono HBX.out.size)); have LZ := Lib.hid (fault_load hx3 hx4); clear hb hx1 hx3 hx4) | (refine wpList_loadK rfl (by rfl) rfl (by first | exact LZ.out) ?_; simp only [Act.put, List.setIfInBounds_toArray, List.set_cons_succ, List.set_cons_zero]))
        exact ⟨⟨5, by omega, by go_num, Hb⟩, by simp [intOf]⟩
      · obtain ⟨D, hD⟩ : ∃ D, D = x5 g51 := ⟨_, rfl⟩
        have h0 : VarS (fun k => k = p51) (W51.setCell ⟨p51, 12, none⟩ (.string ⟨#[98]⟩)) p51 (gapA g51) := HV51.out.put 12 (by decide) _ rfl (HV51.out.safe.scal (fun _ h => ⟨h.bm, h.es, h.locs, h.procs⟩))
        have h' : VarS (fun k => k = p51) ((W51.setCell ⟨p51, 12, none⟩ (.string ⟨#[98]⟩)).setCell ⟨p51, 13, none⟩ (.string ⟨#[97]⟩)) p51 D := by
          refine h0.put 13 (by decide) _ (by rw [hD]; rfl) ?_
          rw [hD]; exact h0.safe.scal (fun _ h => ⟨h.bm, h.es, h.locs, h.procs⟩)
        have hL := h'.at_
        have hI := h'.safe.in_
        have hBX : Below X.heap.size X ((W51.setCell ⟨p51, 12, none⟩ (.string ⟨#[98]⟩)).setCell ⟨p51, 13, none⟩ (.string ⟨#[97]⟩)) := (HB.out.setCell hpb _).setCell hpb _
        clear h0
        obtain ⟨W52, hW52⟩ : ∃ V, V = (W51.setCell ⟨p51, 12, none⟩ (.string ⟨#[98]⟩)).setCell ⟨p51, 13, none⟩ (.string ⟨#[97]⟩) := ⟨_, rfl⟩
        rw [← hW52] at hL hI hBX
        have LA := Lib.hid hL.load
        have KT := Lib.hid (chk1_any 2 W52 hI (by rw [hD]; exact ok_of (one_like 0 g51) (show 1 ≤ maxLen by unfold maxLen; omega) (show 1 ≤ maxLen by unfold maxLen; omega) (of_decide_eq_true rfl) (of_decide_eq_true rfl) (of_decide_eq_true rfl) (of_decide_eq_true rfl) (show 3 * 8 ≤ _ by omega) (ents_ok1 oneE_ok)) (by rw [hD]; exact k_x5 g51))
        have HBX := Lib.hid hBX
        have HW52 := Lib.hid hW52
        clear hL hI hBX hD hW52 h'
        go_upto_region 67 with (refine wpList_store_mid rfl _ _ _ rfl p51 12 #[.string ⟨#[98]⟩, .string ⟨#[97]⟩] rfl rfl ?ht (by kernel_rfl) (by simp [Value.oneCell']) ?_; (case ht => exact there_sub HV51.out.th 12 2 (by decide)); simp only [Act.put, List.setIfInBounds_toArray, List.set_cons_succ, List.set_cons_zero])
        change Code.wp _ _ _ _ ((W51.setCell ⟨p51, 12, none⟩ (.string ⟨#[98]⟩)).setCell ⟨p51, 13, none⟩ (.string ⟨#[97]⟩))
        rw [← HW52.out]
        clear HW52 
        go_wp2_with (first | (refine wpList_loadK rfl (by rfl) rfl (by first | exact LA.out) ?_; simp only [Act.put, List.setIfInBounds_toArray, List.set_cons_succ, List.set_cons_zero]) | (refine wpList_build1 (by rfl) 22 49 _ rfl D.l rfl 19 i0 _ Try.underlying22 Hi.out iz0 iz1 (by decide) (by decide) rfl ?_; simp only [Act.put, List.setIfInBounds_toArray, List.set_cons_succ, List.set_cons_zero]) | ((go_at_call 9; with_reducible refine KT.out.mono ?_); rintro e v52 ⟨gz, cz, rfl, hx1, hx2, hx3, hx4, hb⟩; have Hb := Lib.hid (HBX.out.trans (hb.mono HBX.out.size)); have LZ := Lib.hid (fault_load hx3 hx4); clear hb hx1 hx3 hx4) | (refine wpList_loadK rfl (by rfl) rfl (by first | exact LZ.out) ?_; simp only [Act.put, List.setIfInBounds_toArray, List.set_cons_succ, List.set_cons_zero]))
        exact ⟨⟨6, by omega, by go_num, Hb⟩, by simp [intOf]⟩
      · obtain ⟨D, hD⟩ : ∃ D, D = x6 g51 := ⟨_, rfl⟩
        have hpne : p51 ≠ g51 + 1 := by omega
        have i0 := HV51.out.safe.in_
        have hL : SeenAt (W51.setCell ⟨g51 + 1, 2, none⟩ (.int .i64 2)) p51 0 D := by
          have := HV51.out.at_.same (w' := W51.setCell ⟨g51 + 1, 2, none⟩ (.int .i64 2)) (Below.heap_setCell _ _ _ _ (by simpa using hpne))
          rw [hD]; exact this
        have hI : D.In (W51.setCell ⟨g51 + 1, 2, none⟩ (.int .i64 2)) := by
          rw [hD]
          exact ⟨Arr.sameBlk i0.bm (Below.heap_setCell _ _ _ _ (by simp)), ents_set i0.es rfl (by decide) ⟨rfl, rfl, rfl, rfl⟩, ⟨Arr.nil _ _, fun c hc => by cases hc⟩, Arr.nil _ _⟩
        have hBX : Below X.heap.size X (W51.setCell ⟨g51 + 1, 2, none⟩ (.int .i64 2)) := HB.out.setCell (show X.heap.size ≤ g51 + 1 by omega) _
        have xc := HV51.out.cell 9 (.slice (some ⟨g51 + 1, 0, none⟩) 1 1) rfl
        clear hpne i0
        obtain ⟨W52, hW52⟩ : ∃ V, V = W51.setCell ⟨g51 + 1, 2, none⟩ (.int .i64 2) := ⟨_, rfl⟩
        rw [← hW52] at hL hI hBX
        have LA := Lib.hid hL.load
        have KT := Lib.hid (chk1_any 2 W52 hI (by rw [hD]; exact ok_of (one_like 0 g51) (Nat.zero_le _) (Nat.zero_le _) (of_decide_eq_true rfl) (of_decide_eq_true rfl) (of_decide_eq_true rfl) (of_decide_eq_true rfl) (show 3 * 8 ≤ _ by omega) (ents_ok1 (e := { oneE with kind := 2 }) ⟨⟨by decide, by decide, by decide, by decide⟩, by show 0 * 8 ≤ _; omega⟩)) (by rw [hD]; exact k_x6 g51))
        have HBX := Lib.hid hBX
        have HW52 := Lib.hid hW52
        clear hL hI hBX hD hW52 
        go_upto_region 67 with (refine wpList_store_cell (g51 + 1) 2 (.int .i64 2) rfl rfl rfl rfl ?ht (by kernel_rfl) rfl ?_; (case ht => exact there_sub24 HTe.out 2 (by decide)); simp only [Act.put, List.setIfInBounds_toArray, List.set_cons_succ, List.set_cons_zero])
        change Code.wp _ _ _ _ (W51.setCell ⟨g51 + 1, 2, none⟩ (.int .i64 2))
        rw [← HW52.out]
        clear HW52 xc
        go_wp2_with (first | (refine wpList_loadK rfl (by rfl) rfl (by first | exact LA.out) ?_; simp only [Act.put, List.setIfInBounds_toArray, List.set_cons_succ, List.set_cons_zero]) | (refine wpList_build1 (by rfl) 22 49 _ rfl D.l rfl 19 i0 _ Try.underlying22 Hi.out iz0 iz1 (by decide) (by decide) rfl ?_; simp only [Act.put, List.setIfInBounds_toArray, List.set_cons_succ, List.set_cons_zero]) | ((go_at_call 9; with_reducible refine KT.out.mono ?_); rintro e v52 ⟨gz, cz, rfl, hx1, hx2, hx3, hx4, hb⟩; have Hb := Lib.hid (HBX.out.trans (hb.mono HBX.out.size)); have LZ := Lib.hid (fault_load hx3 hx4); clear hb hx1 hx3 hx4) | (refine wpList_loadK rfl (by rfl) rfl (by first | exact LZ.out) ?_; simp only [Act.put, List.setIfInBounds_toArray, List.set_cons_succ, List.set_cons_zero]))
        exact ⟨⟨7, by omega, by go_num, Hb⟩, by simp [intOf]⟩
    · obtain rfl : k = 7 := by omega
      have KF : Hid (∀ V, Below X.heap.size X V → Calls Try.prog 17 #[.agg A.l.toArray, .agg C.l.toArray, .agg #[.int .i64 9, .int .i64 1]] V fun e w' => e = .returned (.bool true) ∧ Below V.heap.size V w') := Lib.hid (fun V hb => fault_lit (f1 := 9) (f2 := 1) V (HV.out.1.below hb).safe.in_ (HV.out.2.below hb).safe.in_ (by rw [HA.out]; exact ok_of (one_like 0 g45) (Nat.zero_le _) (Nat.zero_le _) (of_decide_eq_true rfl) (of_decide_eq_true rfl) (of_decide_eq_true rfl) (of_decide_eq_true rfl) (show 3 * 8 ≤ _ by omega) (ents_ok1 oneE_ok)) (by rw [HC.out]; exact ok_of (one_like 1 g46) (Nat.zero_le _) (Nat.zero_le _) (of_decide_eq_true rfl) (of_decide_eq_true rfl) (of_decide_eq_true rfl) (of_decide_eq_true rfl) (show 3 * 8 ≤ _ by omega) (ents_ok1 oneE_ok)) (by rw [HA.out, HC.out]; exact k_boss g45 g46))
      trace "end"
      go_wp2_with (first
        | ((go_at_call 12; refine (works_any wr).mono ?_); rintro e w60 ⟨rfl, hb⟩; have hB := HB.out.trans (hb.mono HB.out.size); have LC := Lib.hid (fault_load ((hB.cell (p := ⟨gc, 0, none⟩) Hc.out.1).trans Hc.out.2.1) ((hB.cell (p := ⟨gc, 1, none⟩) Hc.out.1).trans Hc.out.2.2)); have LD := Lib.hid (fault_load ((hB.cell (p := ⟨gd, 0, none⟩) Hd.out.1).trans Hd.out.2.1) ((hB.cell (p := ⟨gd, 1, none⟩) Hd.out.1).trans Hd.out.2.2)); have LA := Lib.hid (HV.out.1.below hB).at_.load; have LB := Lib.hid (HV.out.2.below hB).at_.load; have KF60 := Lib.hid (KF.out w60 hB); have HB60 := Lib.hid hB; clear hb hB)
        | (refine wpList_loadK rfl (by rfl) rfl (by first | exact LC.out | exact LD.out | exact LA.out | exact LB.out) ?_; simp only [Act.put, List.setIfInBounds_toArray, List.set_cons_succ, List.set_cons_zero])
        | ((go_at_call 17; with_reducible refine KF60.out.mono ?_); rintro e w61 ⟨rfl, hb⟩; have HB61 := Lib.hid (HB60.out.trans (hb.mono HB60.out.size)); clear hb)
        | ((go_at_call 13; refine (tab0_any w61).mono ?_); rintro e w62 ⟨a62, c62, rfl, hb⟩; have HB62 := Lib.hid (HB61.out.trans (hb.mono HB61.out.size)); clear hb))
      go_returns
      exact ⟨rfl, HXw.out.trans (HB62.out.mono HXw.out.size)⟩
end Go.Proofs.Yteibnignjghedaa
