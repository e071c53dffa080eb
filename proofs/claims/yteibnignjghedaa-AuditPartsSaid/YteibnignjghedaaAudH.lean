/-
  Two logs, as the document reads them: the walks of acreageref32.entry, acreageref32.term.
-/
import Derived.Test.YteibnignjghedaaAudG
import Derived.Laws.ResultCell
import Derived.Deep.QuietTactic
import Derived.Deep.RegionHeld3
namespace Go.Proofs.Yteibnignjghedaa
open Go.RowKit

/-- A store of a whole value into the block that was laid last, its world by a name. -/
theorem wpList_storeL {P : Program} {W V : World} {ops : Array Oper} {rest : List Oper} {o : Oper} {a : Act} {Q : Exit → Act → World → Prop} {ty : TypeId} {x y : Operand} {b : Nat} {c c' : Array Value} (hV : V = W.alloc (.cells c ty)) (hb : b = W.heap.size) (hg : o.guard = none) (hop : o.op = .store ty x y)
    (hx : a.eval x = .pointer (some ⟨b, 0, none⟩)) (hy : a.eval y = .agg c') (hi : (P.info? ty).map (·.size) = some c'.size) (ho : c.size = c'.size) (h1 : c'.all (·.oneCell') = true)
    (h : wpList P ops Q rest (a.put o.dst undef) (W.alloc (.cells c' ty))) : wpList P ops Q (o :: rest) a V := by
  subst hV
  exact wpList_storeN hg hop hx hy hb hi ho h1 h
/-- A load in a quiet walk, whose run is known. -/
theorem wpQuiet_loadK {P : Program} {C : World → Prop} {ops : Array Oper} {rest : List Oper} {o : Oper} {a : Act} {Q : Act → Prop} {ty : TypeId} {x : Operand} {v : Value} (hop : o.op = .load ty x) (hw : Region.wanted o (yielded ops a.tmps) = true)
    (hr : ∀ w', C w' → (Instr.loadAt ty (a.eval x)).run P w' = .ok v w') (h : wpQuiet P ops C Q rest (a.put o.dst v)) : wpQuiet P ops C Q (o :: rest) a := by
  unfold wpQuiet
  rw [if_pos hw]
  refine ⟨v, fun w' hC => ?_, h⟩
  unfold Oper.quietAt execOp
  simp only [hop, Sem.run_bind, hr w' hC, Result.andThen_ok, Sem.run_pure, Oper.quietUpon]
  exact ⟨trivial, trivial⟩
theorem EntAt.loadVar {w : World} {b o : Nat} {e : EntA} (h : EntAt w b o e) : (loadVar 60 ⟨b, o, none⟩).run Try.prog w = .ok (.agg e.l.toArray) w :=
  run_loadVar_mid w b o 60 e.l _ h Try.underlying60 rfl (by kernel_rfl)

def zeroC : CmdA := ⟨0, 0, 0, 0, 0, ⟨#[]⟩, ⟨#[]⟩, ⟨#[]⟩, false, ⟨#[]⟩, 0, 0, ⟨#[]⟩, ⟨#[]⟩, 0, false, 0, ⟨#[]⟩, 0, 0⟩
def zeroE : EntA := ⟨0, 0, 0, zeroC, none, 0, 0, []⟩
theorem zeroE_lit : zeroE.l.toArray = #[.int .u64 0, .int .u64 0, .int .i64 0, .int .i64 0, .int .i64 0, .int .u64 0, .int .u64 0, .int .i64 0, .string ⟨#[]⟩, .string ⟨#[]⟩, .string ⟨#[]⟩, .bool false, .string ⟨#[]⟩, .int .u64 0, .int .i64 0, .string ⟨#[]⟩, .string ⟨#[]⟩, .int .i64 0, .bool false, .int .i64 0, .string ⟨#[]⟩, .int .i64 0, .int .i64 0, .slice none 0 0] := rfl
/-- the entry of an index: the first there -/
def entryL (s : SeenA) (n : Int) : Option EntA := s.es.find? fun e => decide (e.idx = n)
def entryE (s : SeenA) (n : Int) : EntA := (entryL s n).getD zeroE
def termL (s : SeenA) (n : Int) : Int := if n = s.bidx then s.bterm else (entryE s n).term

set_option maxRecDepth 100000 in
set_option maxHeartbeats 4000000 in
theorem rentry_any (s : SeenA) (n : Int) (w : World) (hs : s.In w) :
    Calls Try.prog 65 #[s.v, .int .u64 n] w fun e w' => e = .returned (.tuple #[(entryE s n).v, .bool (entryL s n).isSome]) ∧ Below w.heap.size w w' := by
  obtain ⟨R, hR⟩ : ∃ R, R = entryE s n := ⟨_, rfl⟩
  obtain ⟨B, hB⟩ : ∃ B, B = (entryL s n).isSome := ⟨_, rfl⟩
  rw [← hR, ← hB]
  have HRB : Hid (R = (entryL s n).getD zeroE ∧ B = (entryL s n).isSome) := Lib.hid ⟨hR, hB⟩
  have Hs := Lib.hid hs.es
  have hc1 := Arr.fits hs.es.arr
  have hc2 := Arr.max hs.es.arr
  unfold maxLen at hc2
  have Hn := Lib.hid hs.es.len
  simp only [SeenA.v]
  clear hR hB hs
  go_enter Try.func65, Try.ntmps65
  go_upto_region 1 with fail
  rw [← zeroE_lit]
  obtain ⟨Wa, hWa⟩ : ∃ W : World, W = w.alloc (.cells s.l.toArray 49) := ⟨_, rfl⟩
  obtain ⟨W, hW⟩ : ∃ W : World, W = Wa.alloc (.cells zeroE.l.toArray 60) := ⟨_, rfl⟩
  have hz : Wa.heap.size = w.heap.size + 1 := by rw [hWa, World.size_alloc]
  have hbA : Below w.heap.size w Wa := by rw [hWa]; exact (Below.refl _ _).alloc (Nat.le_refl _) _
  have hbW : Below w.heap.size w W := by rw [hW]; exact hbA.alloc (by omega) _
  have hA : SeenAt W w.heap.size 0 s := by
    rw [hW, hWa]
    exact (SeenAt.new w s _).below ((Below.refl _ _).alloc (Nat.le_refl _) _)
  have HW := Lib.hid hW
  have x9 := hA.at_ 9 _ rfl
  simp only [Nat.zero_add] at x9
  rw [← hWa, ← hW]
  obtain ⟨p, hp⟩ : ∃ p, p = w.heap.size + 1 := ⟨_, rfl⟩
  rw [← hp]
  have Hp : Hid (p = Wa.heap.size) := Lib.hid (by rw [hp, hz])
  have HbA := Lib.hid hbA
  have hz' : Hid (Wa.heap.size = w.heap.size + 1) := Lib.hid hz
  clear hWa hW hA hp hz hbA
  go_wp2
  go_loopw [6] (fun i wr => ∃ k : Nat, k ≤ s.en ∧ i = .int .i64 k ∧ Hid ((s.es.take k).find? (fun e => decide (e.idx = n)) = none) ∧ W = wr) (fun i _ => s.en - (intOf i).toNat)
  case atStart => exact ⟨0, by omega, rfl, Lib.hid rfl, rfl⟩
  case round =>
    obtain ⟨k, hk, rfl, hF, rfl⟩ := hrel
    by_cases hlt : k < s.en
    · obtain ⟨y, hy⟩ : ∃ y, s.es[k]? = some y := ⟨_, List.getElem?_eq_getElem (by rw [Hn.out]; exact hlt)⟩
      obtain ⟨g, off, e0, hgl, hE, _⟩ := Hs.out.at_ hy
      have hEW := hE.below hbW
      have v0 := hEW.idx
      have HL := Lib.hid hEW.load
      have Hy := Lib.hid hy
      have Htk : Hid (s.es.take (k + 1) = s.es.take k ++ [y]) := Lib.hid (by rw [List.take_add_one, hy]; rfl)
      rw [e0] at x9
      clear hE hEW hy e0
      by_cases hxy : y.idx = n
      · have t0 : (y.idx == n) = true := by simpa using hxy
        have Hf : Hid (entryL s n = some y) := Lib.hid (by
          have h1 : (s.es.take (k + 1)).find? (fun e => decide (e.idx = n)) = some y := by
            rw [Htk.out, List.find?_append, hF.out]; simp [hxy]
          unfold entryL
          rw [← List.take_append_drop (k + 1) s.es, List.find?_append, h1]; rfl)
        clear hxy
        go_wp2_with (first | (refine wpList_loadK rfl (by rfl) rfl (by exact HL.out) ?_; simp only [Act.put, List.setIfInBounds_toArray, List.set_cons_succ, List.set_cons_zero]) | (refine wpList_storeL HW.out Hp.out rfl rfl rfl (by first | rfl | simp) (by kernel_rfl) (by rfl) (EntA.all _) ?_; simp only [Act.put, List.setIfInBounds_toArray, List.set_cons_succ, List.set_cons_zero]))
        (try simp only [Exit.inBlock, Exit.then])
        have hld := EntAt.loadVar (EntAt.new Wa y 60)
        rw [← Hp.out] at hld
        have hbF : Below w.heap.size w (Wa.alloc (.cells y.l.toArray 60)) := HbA.out.alloc (by have := hz'.out; omega) _
        obtain ⟨V, hV⟩ : ∃ V, V = Wa.alloc (.cells y.l.toArray 60) := ⟨_, rfl⟩
        rw [← hV] at hld hbF ⊢
        clear hV
        refine bodyPost_ret (v := .tuple #[.agg y.l.toArray, .bool true]) ?_ rfl ⟨?_, hbF⟩
        · rw [results_cell_tmp rfl]
          simp [asAddr, Result.andThen, hld]
        · rw [HRB.out.1, HRB.out.2, Hf.out]; rfl
      · have t0 : (y.idx == n) = false := by simpa using hxy
        have hT2 : Hid ((s.es.take (k + 1)).find? (fun e => decide (e.idx = n)) = none) := Lib.hid (by rw [Htk.out, List.find?_append, hF.out]; simp [hxy])
        clear hxy
        go_wp2_with fail
        exact ⟨⟨k + 1, by omega, by go_num, hT2, trivial⟩, by simp [intOf]; omega⟩
    · obtain rfl : k = s.en := by omega
      have Hf : Hid (entryL s n = none) := Lib.hid (by
        have := hF.out
        rwa [List.take_of_length_le (by rw [Hn.out]; exact Nat.le_refl _)] at this)
      go_wp2_with (refine wpList_storeL HW.out Hp.out rfl rfl rfl (by first | rfl | simp) (by kernel_rfl) (by rfl) (by rw [← zeroE_lit]; exact EntA.all zeroE) ?_; simp only [Act.put, List.setIfInBounds_toArray, List.set_cons_succ, List.set_cons_zero])
      (try simp only [Exit.inBlock, Exit.then])
      rw [← zeroE_lit]
      have hld := EntAt.loadVar (EntAt.new Wa zeroE 60)
      rw [← Hp.out] at hld
      have hbF : Below w.heap.size w (Wa.alloc (.cells zeroE.l.toArray 60)) := HbA.out.alloc (by have := hz'.out; omega) _
      obtain ⟨V, hV⟩ : ∃ V, V = Wa.alloc (.cells zeroE.l.toArray 60) := ⟨_, rfl⟩
      rw [← hV] at hld hbF ⊢
      clear hV
      refine bodyPost_ret (v := .tuple #[.agg zeroE.l.toArray, .bool false]) ?_ rfl ⟨?_, hbF⟩
      · rw [results_cell_tmp rfl]
        simp [asAddr, Result.andThen, hld]
      · rw [HRB.out.1, HRB.out.2, Hf.out]; rfl

set_option maxRecDepth 100000 in
set_option maxHeartbeats 4000000 in
theorem rterm_any (s : SeenA) (n : Int) (w : World) (hs : s.In w) :
    Calls Try.prog 67 #[s.v, .int .u64 n] w fun e w' => e = .returned (.int .u64 (termL s n)) ∧ Below w.heap.size w w' := by
  have HR : Hid (∀ R, R = termL s n → R = if n = s.bidx then s.bterm else (entryE s n).term) := Lib.hid fun R h => h
  obtain ⟨R, hR⟩ : ∃ R, R = termL s n := ⟨_, rfl⟩
  rw [← hR]
  have HR := Lib.hid (HR.out R hR)
  have KE := Lib.hid fun (W : World) (hb : Below w.heap.size w W) => rentry_any s n W (hs.below hb)
  simp only [SeenA.v, EntA.v] at KE ⊢
  obtain ⟨E, hE⟩ : ∃ E, E = entryE s n := ⟨_, rfl⟩
  obtain ⟨B, hB⟩ : ∃ B, B = (entryL s n).isSome := ⟨_, rfl⟩
  rw [← hE] at HR
  rw [← hE, ← hB] at KE
  clear hR hs hE hB
  go_enter Try.func67, Try.ntmps67
  go_upto_region 1 with fail
  obtain ⟨W, hW⟩ : ∃ W : World, W = w.alloc (.cells s.l.toArray 49) := ⟨_, rfl⟩
  have hbW : Below w.heap.size w W := by rw [hW]; exact (Below.refl _ _).alloc (Nat.le_refl _) _
  have hA : SeenAt W w.heap.size 0 s := by
    rw [hW]
    exact SeenAt.new w s _
  have x6 := hA.at_ 6 _ rfl
  have x7 := hA.at_ 7 _ rfl
  simp only [Nat.zero_add] at x6 x7
  have HL := Lib.hid hA.load
  rw [← hW]
  clear hW hA
  by_cases h0 : n = s.bidx
  · have t0 : (n == s.bidx) = true := by simpa using h0
    have hRf : Hid (R = s.bterm) := Lib.hid (by rw [HR.out, if_pos h0])
    clear h0
    go_wp2_with fail
    go_returns
    exact ⟨by rw [hRf.out]; rfl, hbW⟩
  · have t0 : (n == s.bidx) = false := by simpa using h0
    have hRf : Hid (R = E.term) := Lib.hid (by rw [HR.out, if_neg h0])
    clear h0
    go_wp2_with (refine wpList_loadK rfl (by rfl) rfl (by exact HL.out) ?_; simp only [Act.put, List.setIfInBounds_toArray, List.set_cons_succ, List.set_cons_zero])
    refine (KE.out W hbW).mono ?_
    rintro e V ⟨rfl, hbV⟩
    have HbV := Lib.hid hbV
    have hzV := hbV.size
    have hzW := hbW.size
    clear hbV
    go_upto_region 4 with (refine wpList_storeN rfl rfl rfl rfl (by first | rfl | simp) (by kernel_rfl) (by rfl) (EntA.all _) ?_; simp only [Act.put, List.setIfInBounds_toArray, List.set_cons_succ, List.set_cons_zero])
    have v1 := (EntAt.new V E 60).term
    obtain ⟨V1, hV1⟩ : ∃ V1, V1 = V.alloc (.cells E.l.toArray 60) := ⟨_, rfl⟩
    have hb1 : Below w.heap.size w V1 := by rw [hV1]; exact (hbW.trans (HbV.out.mono hzW)).alloc (by omega) _
    obtain ⟨p, hp⟩ : ∃ p, p = V.heap.size := ⟨_, rfl⟩
    simp only [Nat.zero_add] at v1
    rw [← hV1, ← hp] at v1 ⊢
    clear hV1 hp
    go_wp2_with fail
    go_returns
    exact ⟨by rw [hRf.out]; rfl, hb1⟩
end Go.Proofs.Yteibnignjghedaa

/-
  Two logs, as the document reads them: the walk of acreageref32.forms.
-/
namespace Go.Proofs.Yteibnignjghedaa
open Go.RowKit Go.Sort

theorem EntAt.regrown {w : World} {b o : Nat} {e : EntA} (h : EntAt w b o e) (d : Nat) (os : Array Obj) : (Instr.loadAt 60 (.pointer (some ⟨b, o, none⟩))).run Try.prog (grow (redrawn w d) os) = .ok (.agg e.l.toArray) (grow (redrawn w d) os) := (h.below (below_regrown w d os)).load
theorem SeenAt.regrown {w : World} {b o : Nat} {s : SeenA} (h : SeenAt w b o s) (d : Nat) (os : Array Obj) : (Instr.loadAt 49 (.pointer (some ⟨b, o, none⟩))).run Try.prog (grow (redrawn w d) os) = .ok (.agg s.l.toArray) (grow (redrawn w d) os) := (h.below (below_regrown w d os)).load
/-- A load in a quiet walk, whose run is known: its type, its address, its value out of the fact. -/
theorem wpQuiet_loadR {P : Program} {w : World} {ops : Array Oper} {rest : List Oper} {o : Oper} {a : Act} {Q : Act → Prop} {ty : TypeId} {x : Operand} {p v : Value} (hr : ∀ d os, (Instr.loadAt ty p).run P (grow (redrawn w d) os) = .ok v (grow (redrawn w d) os)) (hop : o.op = .load ty x) (hx : a.eval x = p) (hw : Region.wanted o (yielded ops a.tmps) = true)
    (h : wpQuiet P ops (fun w' => ∃ p : Regrown, w' = grow (redrawn w p.d) p.os) Q rest (a.put o.dst v)) : wpQuiet P ops (fun w' => ∃ p : Regrown, w' = grow (redrawn w p.d) p.os) Q (o :: rest) a :=
  wpQuiet_loadK hop hw (by rintro w' ⟨p, rfl⟩; rw [hx]; exact hr p.d p.os) h
/-- a load whose run is known in every world that meets S -/
theorem yieldsIf_loadK {P : Program} {ops : Array Oper} {S : World → Prop} {o : Oper} {a : Act} {ty : TypeId} {x : Operand} {v : Value} (hop : o.op = .load ty x) (hw : Region.wanted o (yielded ops a.tmps) = true)
    (hr : ∀ W, S W → (Instr.loadAt ty (a.eval x)).run P W = .ok v W) : YieldsIf P ops S o v a :=
  .inl ⟨hw, fun W hW => by
    unfold execOp
    simp only [hop, Sem.run_bind, hr W hW, Result.andThen_ok, Sem.run_pure]⟩
theorem Below.setCells {B : Nat} {b : Nat} (hb : B ≤ b) : ∀ (vs : List Value) (o : Nat) {w V : World}, Below B w V → Below B w (V.setCells b o vs)
  | [], _, _, _, h => h
  | v :: r, o, _, _, h => Below.setCells hb r (o + 1) (h.setCell hb v)
theorem wp_storeN {P : Program} {W : World} {o : Oper} {a : Act} {K : Act → World → Prop} {Q : Exit → Act → World → Prop} {ty : TypeId} {x y : Operand} {b : Nat} {c c' : Array Value} (hop : o.op = .store ty x y)
    (hx : a.eval x = .pointer (some ⟨b, 0, none⟩)) (hy : a.eval y = .agg c') (hb : b = W.heap.size) (hi : (P.info? ty).map (·.size) = some c'.size) (ho : c.size = c'.size) (h1 : c'.all (·.oneCell') = true)
    (h : K (a.put o.dst undef) (W.alloc (.cells c' ty))) : o.wp P a (W.alloc (.cells c ty)) K Q := by
  subst hb
  unfold Oper.wp execOp
  simp only [hop, hx, hy, Sem.run_bind, run_storeAt_new W ty c c' hi ho h1, Result.andThen_ok, Sem.run_pure]
  exact h
theorem EntAt.there {w : World} {b : Nat} {e : EntA} {T : TypeId} (h : w.heap[b]? = some (.cells e.l.toArray T)) : w.there b 0 24 := fun j hj => by
  have hj2 : j < e.l.length := hj
  constructor
  · have := cell_of_row w b (0 + j) e.l.toArray T (0, 0) h
    rw [this]
    simp [hj2]
  · simp [World.frozen?, h]
def rpairL (b : SeenA) (x : EntA) : Option (EntA × EntA) := (entryL b x.idx).map fun y => (x, y)
def rcommonL (a b : SeenA) : List (EntA × EntA) := a.es.filterMap (rpairL b)
noncomputable def rformsL (a b : SeenA) : Bool := formsF false (rcommonL a b)

set_option maxRecDepth 100000 in
set_option maxHeartbeats 8000000 in
theorem rforms_any (a b : SeenA) (w : World) (ha : a.In w) (hb : b.In w) :
    Calls Try.prog 51 #[a.v, b.v] w fun e w' => e = .returned (.bool (rformsL a b)) ∧ Below w.heap.size w w' := by
  obtain ⟨R, hR⟩ : ∃ R, R = rformsL a b := ⟨_, rfl⟩
  rw [← hR]
  have HR := Lib.hid hR
  have Ha := Lib.hid ha
  have Hb := Lib.hid hb
  have hc1 := Arr.fits ha.es.arr
  have hc2 := Arr.max ha.es.arr
  unfold maxLen at hc2
  have Hn := Lib.hid ha.es.len
  simp only [SeenA.v]
  clear hR ha hb
  go_enter Try.func51, Try.ntmps51
  go_upto_region 2 with fail
  obtain ⟨W, hW⟩ : ∃ W : World, W = (w.alloc (.cells a.l.toArray 49)).alloc (.cells b.l.toArray 49) := ⟨_, rfl⟩
  have hbW : Below w.heap.size w W := by rw [hW]; exact ((Below.refl _ _).alloc (Nat.le_refl _) _).alloc (by simp) _
  have hzW : W.heap.size = w.heap.size + 2 := by rw [hW]; simp
  have hA0 : SeenAt W w.heap.size 0 a := by
    rw [hW]
    exact (SeenAt.new w a _).below ((Below.refl _ _).alloc (Nat.le_refl _) _)
  have hB0 : SeenAt W (w.heap.size + 1) 0 b := by
    rw [hW]
    have := SeenAt.new (w.alloc (.cells a.l.toArray 49)) b 49
    rw [World.size_alloc] at this
    exact this
  obtain ⟨q, hq⟩ : ∃ q, q = w.heap.size + 1 := ⟨_, rfl⟩
  rw [← hW, ← hq]
  rw [← hq] at hB0
  have HA := Lib.hid hA0
  have HB := Lib.hid hB0
  have hl1 : w.heap.size < W.heap.size := by omega
  have hl2 : q < W.heap.size := by omega
  have HzW := Lib.hid hzW
  clear hW hq hA0 hB0 hzW
  go_wp2
  go_loopw [5, 6] (fun u i wr => ∃ k : Nat, k ≤ a.en ∧ u = .bool (unlF false ((a.es.take k).filterMap (rpairL b))) ∧ i = .int .i64 k ∧ Hid (formsF false ((a.es.take k).filterMap (rpairL b)) = false) ∧ Below W.heap.size W wr) (fun _ i _ => a.en - (intOf i).toNat)
  case atStart => exact ⟨0, by omega, rfl, rfl, Lib.hid rfl, Below.refl _ _⟩
  case round =>
    obtain ⟨k, hk, rfl, rfl, hF, hBr⟩ := hrel
    obtain ⟨U, hU⟩ : ∃ U, U = unlF false ((a.es.take k).filterMap (rpairL b)) := ⟨_, rfl⟩
    rw [← hU]
    have HU := Lib.hid hU
    have hzr := hBr.size
    have hAr := HA.out.below hBr
    have hBr2 := HB.out.below hBr
    have x9 := hAr.at_ 9 _ rfl
    simp only [Nat.zero_add] at x9
    have HLB := Lib.hid hBr2.regrown
    have hbr : Below w.heap.size w wr := hbW.trans (hBr.mono (by omega))
    clear hU hAr hBr2
    by_cases hlt : k < a.en
    · obtain ⟨x, hx⟩ : ∃ x, a.es[k]? = some x := ⟨_, List.getElem?_eq_getElem (by rw [Hn.out]; exact hlt)⟩
      obtain ⟨g, off, e0, hgl, hE, hEI⟩ := (Ha.out.es.below hbr).at_ hx
      have v0 := hE.idx
      have HX := Lib.hid hx
      have Htk : Hid ((a.es.take (k + 1)).filterMap (rpairL b) = (a.es.take k).filterMap (rpairL b) ++ (rpairL b x).toList) := Lib.hid (by
        rw [List.take_add_one, hx, List.filterMap_append]
        congr 1)
      have HE := Lib.hid hE
      obtain ⟨y, hy⟩ : ∃ y, y = entryE b x.idx := ⟨_, rfl⟩
      obtain ⟨is, his⟩ : ∃ z, z = (entryL b x.idx).isSome := ⟨_, rfl⟩
      have Hyy : Hid (y = entryE b x.idx ∧ is = (entryL b x.idx).isSome) := Lib.hid ⟨hy, his⟩
      rw [e0] at x9
      clear hE hx e0 hEI
      have t0 : decide ((k : Int) < (a.en : Int)) = true := by simpa using hlt
      go_upto_region 5 with fail
      have hwr : w.heap.size < wr.heap.size := by omega
      have hqr : q < wr.heap.size := by omega
      have HS : Hid (∀ V, Below wr.heap.size wr V → (∀ j v, b.l[j]? = some v → V.cell? ⟨q, j, none⟩ = some v) ∧ V.cell? ⟨w.heap.size, 9, none⟩ = some (.slice (some ⟨g, off, none⟩) a.en a.ec) ∧ V.cell? ⟨g, off + k * 24, none⟩ = some (.int .u64 x.idx)) := Lib.hid fun V h => ⟨fun j v hv => by
        have := (HB.out.below (hBr.trans (h.mono hzr))).at_ j v hv
        rwa [Nat.zero_add] at this, (h.cell (p := ⟨w.heap.size, _, none⟩) hwr).trans x9, (h.cell (p := ⟨g, _, none⟩) hgl).trans v0⟩
      have HLV : Hid (∀ V : World, ((∀ j v, b.l[j]? = some v → V.cell? ⟨q, j, none⟩ = some v) ∧ V.cell? ⟨w.heap.size, 9, none⟩ = some (.slice (some ⟨g, off, none⟩) a.en a.ec) ∧ V.cell? ⟨g, off + k * 24, none⟩ = some (.int .u64 x.idx)) → (Instr.loadAt 49 (.pointer (some ⟨q, 0, none⟩))).run Try.prog V = .ok (.agg b.l.toArray) V) := Lib.hid fun V h => SeenAt.load (fun j v hv => by rw [Nat.zero_add]; exact h.1 j v hv)
      have KE := Lib.hid fun (V : World) (hV : Below wr.heap.size wr V) => rentry_any b x.idx V (Hb.out.below (hbr.trans (hV.mono (by omega))))
      rw [← hy, ← his] at KE
      simp only [SeenA.v, EntA.v] at KE
      have hgn : ¬ g = wr.heap.size := by omega
      have hgn1 : ¬ wr.heap.size = g := by omega
      clear hy his x9 v0
      go_cut [7, 8] from 9 to 51 (fun p i wx => ∃ pb : Nat, p = .pointer (some ⟨pb, 0, none⟩) ∧ i = .bool is ∧ Below wr.heap.size wr (wx : World) ∧ EntAt wx pb 0 y ∧ wr.heap.size ≤ pb ∧ pb < (wx : World).heap.size)
      case first =>
        refine wp_region_held_drew (S := fun V => Below wr.heap.size wr V) (by kernel_rfl) (by go_grown) (fun hHeld => ?_)
        refine wpAnyH_take (i := 0) (oi := { dst := some 17, op := Op.load 49 (Operand.tmp 3), type := 49, pos := "ref.go:60", after := #[], guard := none }) (v := (.agg b.l.toArray)) rfl (by kernel_rfl) (by kernel_rfl) (by kernel_rfl) (fun _ _ _ h => h) (yieldsIf_loadK rfl (by rfl) (fun V hV => HLV.out V (HS.out V hV))) (by assumption) ?_
        simp only [Act.put, List.setIfInBounds_toArray, List.set_cons_succ, List.set_cons_zero]
        refine wpAnyH_take (i := 1) (oi := { dst := some 18, op := Op.fieldAddr 49 (Operand.tmp 2) 6, type := 0, pos := "ref.go:60", after := #[], guard := none }) (v := (.pointer (some ⟨w.heap.size, 9, none⟩))) rfl (by kernel_rfl) (by kernel_rfl) (by kernel_rfl) (fun _ _ _ h => h) (.inl ⟨by rfl, fun V hV => by go_simp⟩) (by assumption) ?_
        simp only [Act.put, List.setIfInBounds_toArray, List.set_cons_succ, List.set_cons_zero]
        refine wpAnyH_take (i := 2) (oi := { dst := some 19, op := Op.load 42 (Operand.tmp 18), type := 42, pos := "ref.go:60", after := #[{ on := 1, ground := Ground.data }], guard := none }) (v := (.slice (some ⟨g, off, none⟩) a.en a.ec)) rfl (by kernel_rfl) (by kernel_rfl) (by kernel_rfl) (fun _ _ _ h => h) (.inl ⟨by rfl, fun V hV => by have h9 := (HS.out V hV).2.1; go_simp⟩) (by assumption) ?_
        simp only [Act.put, List.setIfInBounds_toArray, List.set_cons_succ, List.set_cons_zero]
        refine wpAnyH_take (i := 3) (oi := { dst := some 20, op := Op.move (Operand.tmp 6), type := 3, pos := "ref.go:60", after := #[], guard := none }) (v := (.int .i64 k)) rfl (by kernel_rfl) (by kernel_rfl) (by kernel_rfl) (fun _ _ _ h => h) (.inl ⟨by rfl, fun V hV => by go_simp⟩) (by assumption) ?_
        simp only [Act.put, List.setIfInBounds_toArray, List.set_cons_succ, List.set_cons_zero]
        refine wpAnyH_take (i := 4) (oi := { dst := some 21, op := Op.indexAddr 42 (Operand.tmp 19) (Operand.tmp 20), type := 0, pos := "ref.go:60", after := #[{ on := 2, ground := Ground.data }, { on := 3, ground := Ground.data }], guard := none }) (v := (.pointer (some ⟨g, off + k * 24, none⟩))) rfl (by kernel_rfl) (by kernel_rfl) (by kernel_rfl) (fun _ _ _ h => h) (.inl ⟨by rfl, fun V hV => by go_simp⟩) (by assumption) ?_
        simp only [Act.put, List.setIfInBounds_toArray, List.set_cons_succ, List.set_cons_zero]
        refine wpAnyH_take (i := 5) (oi := { dst := some 22, op := Op.fieldAddr 60 (Operand.tmp 21) 0, type := 0, pos := "ref.go:60", after := #[{ on := 4, ground := Ground.data }], guard := none }) (v := (.pointer (some ⟨g, off + k * 24, none⟩))) rfl (by kernel_rfl) (by kernel_rfl) (by kernel_rfl) (fun _ _ _ h => h) (.inl ⟨by rfl, fun V hV => by go_simp⟩) (by assumption) ?_
        simp only [Act.put, List.setIfInBounds_toArray, List.set_cons_succ, List.set_cons_zero]
        refine wpAnyH_take (i := 6) (oi := { dst := some 23, op := Op.load 34 (Operand.tmp 22), type := 34, pos := "ref.go:60", after := #[{ on := 5, ground := Ground.data }], guard := none }) (v := (.int .u64 x.idx)) rfl (by kernel_rfl) (by kernel_rfl) (by kernel_rfl) (fun _ _ _ h => h) (.inl ⟨by rfl, fun V hV => by have h9 := (HS.out V hV).2.2; go_simp⟩) (by assumption) ?_
        simp only [Act.put, List.setIfInBounds_toArray, List.set_cons_succ, List.set_cons_zero]
        refine wpAnyH_ready (rs := [7, 11]) (by kernel_rfl) (by simp) ?_
        refine AllReadyH.cons (o := { dst := some 24, op := Op.call { callee := Callee.value (Operand.func 65), args := #[Operand.tmp 17, Operand.tmp 23], argTypes := #[49, 34] }, type := 108, pos := "ref.go:60", after := #[{ on := 0, ground := Ground.data }, { on := 6, ground := Ground.data }], guard := none }) rfl ?_ ?_
        · intro K hK
          rw [if_pos (by rfl)]
          go_simp
          refine (KE.out _ (by go_grown)).mono ?_
          rintro e w7 ⟨rfl, hb7⟩
          have hB7 : Below wr.heap.size wr w7 := Below.trans (by go_grown : Below wr.heap.size wr wr.drew) (hb7.mono (by go_size))
          clear hb7
          have hz7 := hB7.size
          refine hK.out _ _ hB7 (fun hHeld => ?_)
          clear hK K
          refine wpAnyH_take (i := 8) (oi := { dst := some 16, op := Op.move (Operand.tmp 24), type := 108, pos := "ref.go:60", after := #[{ on := 7, ground := Ground.data }], guard := none }) (v := (.tuple #[.agg y.l.toArray, .bool is])) rfl (by kernel_rfl) (by kernel_rfl) (by kernel_rfl) (fun _ _ _ h => h) (.inl ⟨by rfl, fun V hV => by go_simp⟩) (by assumption) ?_
          simp only [Act.put, List.setIfInBounds_toArray, List.set_cons_succ, List.set_cons_zero]
          refine wpAnyH_take (i := 9) (oi := { dst := some 25, op := Op.extract (Operand.tmp 16) 0, type := 60, pos := "ref.go:60", after := #[{ on := 8, ground := Ground.data }], guard := none }) (v := (.agg y.l.toArray)) rfl (by kernel_rfl) (by kernel_rfl) (by kernel_rfl) (fun _ _ _ h => h) (.inl ⟨by rfl, fun V hV => by go_simp⟩) (by assumption) ?_
          simp only [Act.put, List.setIfInBounds_toArray, List.set_cons_succ, List.set_cons_zero]
          refine wpAnyH_take (i := 10) (oi := { dst := some 26, op := Op.extract (Operand.tmp 16) 1, type := 4, pos := "ref.go:60", after := #[{ on := 8, ground := Ground.data }, { on := 12, ground := Ground.gcOnly Departure.lateStores }], guard := none }) (v := (.bool is)) rfl (by kernel_rfl) (by kernel_rfl) (by kernel_rfl) (fun _ _ _ h => h) (.inl ⟨by rfl, fun V hV => by go_simp⟩) (by assumption) ?_
          simp only [Act.put, List.setIfInBounds_toArray, List.set_cons_succ, List.set_cons_zero]
          refine wpAnyH_ready (rs := [11]) (by kernel_rfl) (by simp) ?_
          refine AllReadyH.cons (o := { dst := some 7, op := Op.alloc 60, type := 0, pos := "ref.go:60", after := #[], guard := none }) rfl ?_ ?_
          · intro K hK
            rw [if_pos (by rfl)]
            go_simp
            rw [← zeroE_lit]
            refine hK.out _ _ (hB7.alloc (by omega) _) (fun hHeld => ?_)
            clear hK K
            refine wpAnyH_ready (rs := [12]) (by kernel_rfl) (by simp) ?_
            refine AllReadyH.cons (o := { dst := none, op := Op.store 60 (Operand.tmp 7) (Operand.tmp 25), type := 0, pos := "ref.go:60", after := #[{ on := 11, ground := Ground.data }, { on := 9, ground := Ground.data }, { on := 7, ground := Ground.chain }, { on := 0, ground := Ground.phase }, { on := 1, ground := Ground.phase }, { on := 2, ground := Ground.phase }, { on := 3, ground := Ground.phase }, { on := 4, ground := Ground.phase }, { on := 5, ground := Ground.phase }, { on := 6, ground := Ground.phase }, { on := 7, ground := Ground.phase }, { on := 8, ground := Ground.phase }, { on := 9, ground := Ground.phase }, { on := 10, ground := Ground.textOnly Departure.lateStores }, { on := 11, ground := Ground.phase }], guard := none }) rfl ?_ ?_
            · intro K hK
              rw [if_pos (by rfl)]
              refine wp_storeN rfl rfl rfl rfl (by kernel_rfl) (by rfl) (EntA.all _) ?_
              simp only [Act.put, List.setIfInBounds_toArray, List.set_cons_succ, List.set_cons_zero]
              refine hK.out _ _ (hB7.alloc (by omega) _) (fun hHeld => ?_)
              clear hK K
              refine wpAnyH_take (i := 13) (oi := { dst := some 8, op := Op.assign (Operand.tmp 26), type := 4, pos := "ref.go:60", after := #[{ on := 10, ground := Ground.data }, { on := 12, ground := Ground.chain }, { on := 0, ground := Ground.phase }, { on := 1, ground := Ground.phase }, { on := 2, ground := Ground.phase }, { on := 3, ground := Ground.phase }, { on := 4, ground := Ground.phase }, { on := 5, ground := Ground.phase }, { on := 6, ground := Ground.phase }, { on := 7, ground := Ground.phase }, { on := 8, ground := Ground.phase }, { on := 9, ground := Ground.phase }, { on := 10, ground := Ground.phase }, { on := 11, ground := Ground.phase }, { on := 12, ground := Ground.phase }], guard := none }) (v := (.bool is)) rfl (by kernel_rfl) (by kernel_rfl) (by kernel_rfl) (fun _ _ _ h => h) (.inl ⟨by rfl, fun V hV => by go_simp⟩) (by assumption) ?_
              simp only [Act.put, List.setIfInBounds_toArray, List.set_cons_succ, List.set_cons_zero]
              refine wpAnyH_done (by kernel_rfl) ?_ _
              go_wp2_with fail
              go_meet
              exact ⟨_, rfl, rfl, hB7.alloc (by omega) _, EntAt.new w7 y _, by omega, by rw [World.size_alloc]; omega⟩
            exact AllReadyH.nil
          exact AllReadyH.nil
        refine AllReadyH.cons (o := { dst := some 7, op := Op.alloc 60, type := 0, pos := "ref.go:60", after := #[], guard := none }) rfl ?_ ?_
        · intro K hK
          rw [if_pos (by rfl)]
          go_simp
          rw [← zeroE_lit]
          obtain ⟨V2, hV2⟩ : ∃ V2, V2 = (wr.alloc (.cells zeroE.l.toArray 60)).drew := ⟨_, rfl⟩
          have hB2 : Below wr.heap.size wr V2 := by rw [hV2]; go_grown
          have hH2 : V2.heap[wr.heap.size]? = some (.cells zeroE.l.toArray 60) := by rw [hV2]; exact heap_alloc_last wr _
          have hz2 : V2.heap.size = wr.heap.size + 1 := by rw [hV2]; go_size
          rw [← hV2]
          clear hV2
          refine hK.out _ _ hB2 (fun hHeld => ?_)
          clear hK K
          refine wpAnyH_ready (rs := [7]) (by kernel_rfl) (by simp) ?_
          refine AllReadyH.cons (o := { dst := some 24, op := Op.call { callee := Callee.value (Operand.func 65), args := #[Operand.tmp 17, Operand.tmp 23], argTypes := #[49, 34] }, type := 108, pos := "ref.go:60", after := #[{ on := 0, ground := Ground.data }, { on := 6, ground := Ground.data }], guard := none }) rfl ?_ ?_
          · intro K hK
            rw [if_pos (by rfl)]
            go_simp
            refine (KE.out _ hB2).mono ?_
            rintro e w7 ⟨rfl, hb7⟩
            have hB7 : Below wr.heap.size wr w7 := hB2.trans (hb7.mono (by omega))
            have hH7 : w7.heap[wr.heap.size]? = some (.cells zeroE.l.toArray 60) := (hb7.block _ (by omega)).trans hH2
            have hz7 := hb7.size
            clear hb7
            refine hK.out _ _ hB7 (fun hHeld => ?_)
            clear hK K
            refine wpAnyH_take (i := 8) (oi := { dst := some 16, op := Op.move (Operand.tmp 24), type := 108, pos := "ref.go:60", after := #[{ on := 7, ground := Ground.data }], guard := none }) (v := (.tuple #[.agg y.l.toArray, .bool is])) rfl (by kernel_rfl) (by kernel_rfl) (by kernel_rfl) (fun _ _ _ h => h) (.inl ⟨by rfl, fun V hV => by go_simp⟩) (by assumption) ?_
            simp only [Act.put, List.setIfInBounds_toArray, List.set_cons_succ, List.set_cons_zero]
            refine wpAnyH_take (i := 9) (oi := { dst := some 25, op := Op.extract (Operand.tmp 16) 0, type := 60, pos := "ref.go:60", after := #[{ on := 8, ground := Ground.data }], guard := none }) (v := (.agg y.l.toArray)) rfl (by kernel_rfl) (by kernel_rfl) (by kernel_rfl) (fun _ _ _ h => h) (.inl ⟨by rfl, fun V hV => by go_simp⟩) (by assumption) ?_
            simp only [Act.put, List.setIfInBounds_toArray, List.set_cons_succ, List.set_cons_zero]
            refine wpAnyH_take (i := 10) (oi := { dst := some 26, op := Op.extract (Operand.tmp 16) 1, type := 4, pos := "ref.go:60", after := #[{ on := 8, ground := Ground.data }, { on := 12, ground := Ground.gcOnly Departure.lateStores }], guard := none }) (v := (.bool is)) rfl (by kernel_rfl) (by kernel_rfl) (by kernel_rfl) (fun _ _ _ h => h) (.inl ⟨by rfl, fun V hV => by go_simp⟩) (by assumption) ?_
            simp only [Act.put, List.setIfInBounds_toArray, List.set_cons_succ, List.set_cons_zero]
            refine wpAnyH_ready (rs := [12]) (by kernel_rfl) (by simp) ?_
            refine AllReadyH.cons (o := { dst := none, op := Op.store 60 (Operand.tmp 7) (Operand.tmp 25), type := 0, pos := "ref.go:60", after := #[{ on := 11, ground := Ground.data }, { on := 9, ground := Ground.data }, { on := 7, ground := Ground.chain }, { on := 0, ground := Ground.phase }, { on := 1, ground := Ground.phase }, { on := 2, ground := Ground.phase }, { on := 3, ground := Ground.phase }, { on := 4, ground := Ground.phase }, { on := 5, ground := Ground.phase }, { on := 6, ground := Ground.phase }, { on := 7, ground := Ground.phase }, { on := 8, ground := Ground.phase }, { on := 9, ground := Ground.phase }, { on := 10, ground := Ground.textOnly Departure.lateStores }, { on := 11, ground := Ground.phase }], guard := none }) rfl ?_ ?_
            · intro K hK
              rw [if_pos (by rfl)]
              refine wp_store_mid _ _ _ rfl wr.heap.size 0 y.l.toArray rfl rfl (EntAt.there hH7) (by kernel_rfl) (EntA.all _) ?_
              simp only [Act.put, List.setIfInBounds_toArray, List.set_cons_succ, List.set_cons_zero]
              have hBF : Below wr.heap.size wr (w7.setCells wr.heap.size 0 y.l) := Below.setCells (Nat.le_refl _) _ _ hB7
              have hEF : EntAt (w7.setCells wr.heap.size 0 y.l) wr.heap.size 0 y := World.rangeAt_setCells_same _ _ _ _ (EntAt.there hH7)
              obtain ⟨V8, hV8⟩ : ∃ V8, V8 = w7.setCells wr.heap.size 0 y.l := ⟨_, rfl⟩
              have hz8 : V2.heap.size ≤ V8.heap.size := by
                have := hEF.lt
                rw [← hV8] at this
                omega
              rw [← hV8] at hBF hEF
              change K _ (w7.setCells wr.heap.size 0 y.l)
              rw [← hV8]
              clear hV8
              refine hK.out _ _ hBF (fun hHeld => ?_)
              clear hK K
              refine wpAnyH_take (i := 13) (oi := { dst := some 8, op := Op.assign (Operand.tmp 26), type := 4, pos := "ref.go:60", after := #[{ on := 10, ground := Ground.data }, { on := 12, ground := Ground.chain }, { on := 0, ground := Ground.phase }, { on := 1, ground := Ground.phase }, { on := 2, ground := Ground.phase }, { on := 3, ground := Ground.phase }, { on := 4, ground := Ground.phase }, { on := 5, ground := Ground.phase }, { on := 6, ground := Ground.phase }, { on := 7, ground := Ground.phase }, { on := 8, ground := Ground.phase }, { on := 9, ground := Ground.phase }, { on := 10, ground := Ground.phase }, { on := 11, ground := Ground.phase }, { on := 12, ground := Ground.phase }], guard := none }) (v := (.bool is)) rfl (by kernel_rfl) (by kernel_rfl) (by kernel_rfl) (fun _ _ _ h => h) (.inl ⟨by rfl, fun V hV => by go_simp⟩) (by assumption) ?_
              simp only [Act.put, List.setIfInBounds_toArray, List.set_cons_succ, List.set_cons_zero]
              refine wpAnyH_done (by kernel_rfl) ?_ _
              go_wp2_with fail
              go_meet
              exact ⟨_, rfl, rfl, hBF, hEF, Nat.le_refl _, by omega⟩
            exact AllReadyH.nil
          exact AllReadyH.nil
        exact AllReadyH.nil
      case rest =>
        obtain ⟨pb, rfl, rfl, hBc, hEc, hp0, hpl⟩ := hcut
        have hzc := hBc.size
        have hbc : Below w.heap.size w wc := hbr.trans (hBc.mono (by omega))
        have HBc := Lib.hid (hBr.trans (hBc.mono hzr))
        cases is
        · have Hp : Hid (rpairL b x = none) := Lib.hid (by
            have := Hyy.out.2
            rw [rpairL]
            cases h : entryL b x.idx with
            | none => rfl
            | some z => rw [h] at this; cases this)
          go_wp2_with fail
          exact ⟨⟨k + 1, by omega, by rw [Htk.out, Hp.out, ← HU.out.symm]; simp [HU.out], by go_num, Lib.hid (by rw [Htk.out, Hp.out]; simpa using hF.out), HBc.out⟩, by simp [intOf]; omega⟩
        · have Hent : Hid (entryL b x.idx = some y) := Lib.hid (by
            have h1 := Hyy.out.2
            have h2 := Hyy.out.1
            rw [entryE] at h2
            cases h : entryL b x.idx with
            | none => rw [h] at h1; cases h1
            | some z => rw [h] at h2; rw [h2]; rfl)
          have Hp : Hid (rpairL b x = some (x, y)) := Lib.hid (by rw [rpairL, Hent.out]; rfl)
          have hyb : y ∈ b.es := List.mem_of_find?_eq_some Hent.out
          have x9c := (HS.out wc hBc).2.1
          have hgc : g < wc.heap.size := by omega
          have hqc : q < wc.heap.size := by omega
          have hwc : w.heap.size < wc.heap.size := by omega
          have xt := (HE.out.below hBc).term
          have yt := hEc.term
          simp only [Nat.zero_add] at yt
          have HLx := Lib.hid (HE.out.below hBc).regrown
          have HLy := Lib.hid hEc.regrown
          have KS := Lib.hid fun d os => rssame_any x y (grow (redrawn wc d) os) ((Ha.out.es.mem x (List.mem_of_getElem? HX.out)).below (hbc.trans ((below_regrown wc d os).mono (by omega)))) ((Hb.out.es.mem y hyb).below (hbc.trans ((below_regrown wc d os).mono (by omega))))
          simp only [EntA.v] at KS
          have Hun : Hid (unlF false ((a.es.take (k + 1)).filterMap (rpairL b)) = (U || !sameE x y)) := Lib.hid (by rw [Htk.out, Hp.out, HU.out]; exact unlF_snoc _ _ _)
          have Hfs : Hid (formsF false ((a.es.take (k + 1)).filterMap (rpairL b)) = ((U || !sameE x y) && decide (x.term = y.term))) := Lib.hid (by
            rw [Htk.out, Hp.out, HU.out]
            exact (formsF_snoc _ _ _).trans (by rw [hF.out, Bool.false_or]))
          have HRt : Hid (formsF false ((a.es.take (k + 1)).filterMap (rpairL b)) = true → R = true) := Lib.hid (fun h => by
            rw [HR.out, rformsL, rcommonL, ← List.take_append_drop (k + 1) a.es, List.filterMap_append]
            exact formsF_prefix _ _ _ h)
          obtain ⟨Q, hQ⟩ : ∃ Q, Q = sameE x y := ⟨_, rfl⟩
          rw [← hQ] at KS Hun Hfs
          clear hQ hyb hEc hBc hF hBr hbr hp0
          go_wp2_with fail
          cases U
          case false =>
            refine wp_region_below (by kernel_rfl) (by kernel_rfl) (fun hkept => ?_)
            obtain ⟨r0, rf0⟩ := hkept (w.heap.size) (by go_size); obtain ⟨r1, rf1⟩ := hkept (q) (by go_size); obtain ⟨r2, rf2⟩ := hkept (g) (by go_size); obtain ⟨r3, rf3⟩ := hkept (pb) (by go_size); clear hkept
            repeat (any_goals (first | go_big_quiet_skip | (refine wpQuiet_loadR (HLx.out) rfl rfl (by rfl) ?_; simp only [Act.put, List.setIfInBounds_toArray, List.set_cons_succ, List.set_cons_zero]) | (refine wpQuiet_loadR (HLy.out) rfl rfl (by rfl) ?_; simp only [Act.put, List.setIfInBounds_toArray, List.set_cons_succ, List.set_cons_zero]) | go_big_quiet_step (first | (go_at_call 66; exact Calls.regrown_of (KS.out _ _))) | quiet_step (first | (go_at_call 66; exact Calls.regrown_of (KS.out _ _))) | (refine wpQuiet_step (fun K hK => ?_); go_simp; split <;> (refine hK _ ?_; clear hK K))))
            all_goals (refine wpQuiet_nil ?_; intro w6 hb; obtain ⟨hB, hS, hk⟩ := after (B := wc.heap.size) (w := wc) (by go_grown) (by go_size) hb; obtain ⟨c0, f0, z0⟩ := hk (w.heap.size) (by go_size); obtain ⟨c1, f1, z1⟩ := hk (q) (by go_size); obtain ⟨c2, f2, z2⟩ := hk (g) (by go_size); obtain ⟨c3, f3, z3⟩ := hk (pb) (by go_size); clear hk hb r0 rf0 r1 rf1 r2 rf2 r3 rf3)
            have HB6 := Lib.hid (HBc.out.trans (hB.mono HBc.out.size))
            clear hB hS
            cases Q
            case false =>
              simp only [Bool.not_false]
              by_cases ht : x.term = y.term
              case pos =>
                have hu9 : Hid (unlF false ((a.es.take (k + 1)).filterMap (rpairL b)) = true) := Lib.hid (by rw [Hun.out]; rfl)
                have hRf : Hid (R = true) := Lib.hid (HRt.out (by rw [Hfs.out]; simp [ht]))
                have t9 : (x.term == y.term) = true := by simpa using ht
                clear ht
                go_wp2_with fail
                refine wp_region_below (by kernel_rfl) (by kernel_rfl) (fun hkept => ?_)
                obtain ⟨r0, rf0⟩ := hkept (w.heap.size) (by go_size); obtain ⟨r1, rf1⟩ := hkept (q) (by go_size); obtain ⟨r2, rf2⟩ := hkept (g) (by go_size); obtain ⟨r3, rf3⟩ := hkept (pb) (by go_size); clear hkept
                repeat (any_goals (first | go_big_quiet_step (fail) | quiet_step (fail) | (refine wpQuiet_step (fun K hK => ?_); go_simp; split <;> (refine hK _ ?_; clear hK K))))
                all_goals (refine wpQuiet_nil ?_; intro w8 hb; obtain ⟨hB, hS, hk⟩ := after (B := w6.heap.size) (w := w6) (by go_grown) (by go_size) hb; obtain ⟨c0, f0, z0⟩ := hk (w.heap.size) (by go_size); obtain ⟨c1, f1, z1⟩ := hk (q) (by go_size); obtain ⟨c2, f2, z2⟩ := hk (g) (by go_size); obtain ⟨c3, f3, z3⟩ := hk (pb) (by go_size); clear hk hb r0 rf0 r1 rf1 r2 rf2 r3 rf3)
                have HB8 := Lib.hid (HB6.out.trans (hB.mono HB6.out.size))
                clear hB hS
                go_wp2_with fail
                go_returns
                exact ⟨by rw [hRf.out]; rfl, hbW.trans (HB8.out.mono hbW.size)⟩
              case neg =>
                have hu9 : Hid (unlF false ((a.es.take (k + 1)).filterMap (rpairL b)) = true) := Lib.hid (by rw [Hun.out]; rfl)
                have hf9 : Hid (formsF false ((a.es.take (k + 1)).filterMap (rpairL b)) = false) := Lib.hid (by rw [Hfs.out]; simp [ht])
                have t9 : (x.term == y.term) = false := by simpa using ht
                clear ht
                go_wp2_with fail
                refine wp_region_below (by kernel_rfl) (by kernel_rfl) (fun hkept => ?_)
                obtain ⟨r0, rf0⟩ := hkept (w.heap.size) (by go_size); obtain ⟨r1, rf1⟩ := hkept (q) (by go_size); obtain ⟨r2, rf2⟩ := hkept (g) (by go_size); obtain ⟨r3, rf3⟩ := hkept (pb) (by go_size); clear hkept
                repeat (any_goals (first | go_big_quiet_step (fail) | quiet_step (fail) | (refine wpQuiet_step (fun K hK => ?_); go_simp; split <;> (refine hK _ ?_; clear hK K))))
                all_goals (refine wpQuiet_nil ?_; intro w8 hb; obtain ⟨hB, hS, hk⟩ := after (B := w6.heap.size) (w := w6) (by go_grown) (by go_size) hb; obtain ⟨c0, f0, z0⟩ := hk (w.heap.size) (by go_size); obtain ⟨c1, f1, z1⟩ := hk (q) (by go_size); obtain ⟨c2, f2, z2⟩ := hk (g) (by go_size); obtain ⟨c3, f3, z3⟩ := hk (pb) (by go_size); clear hk hb r0 rf0 r1 rf1 r2 rf2 r3 rf3)
                have HB8 := Lib.hid (HB6.out.trans (hB.mono HB6.out.size))
                clear hB hS
                go_wp2_with fail
                exact ⟨⟨k + 1, by omega, by rw [hu9.out], by go_num, hf9, HB8.out⟩, by simp [intOf]; omega⟩
            case true =>
              simp only [Bool.not_true]
              have hu9 : Hid (unlF false ((a.es.take (k + 1)).filterMap (rpairL b)) = false) := Lib.hid (by rw [Hun.out]; rfl)
              have hf9 : Hid (formsF false ((a.es.take (k + 1)).filterMap (rpairL b)) = false) := Lib.hid (by rw [Hfs.out]; rfl)
              go_wp2_with fail
              refine wp_region_below (by kernel_rfl) (by kernel_rfl) (fun hkept => ?_)
              obtain ⟨r0, rf0⟩ := hkept (w.heap.size) (by go_size); obtain ⟨r1, rf1⟩ := hkept (q) (by go_size); obtain ⟨r2, rf2⟩ := hkept (g) (by go_size); obtain ⟨r3, rf3⟩ := hkept (pb) (by go_size); clear hkept
              repeat (any_goals (first | go_big_quiet_step (fail) | quiet_step (fail) | (refine wpQuiet_step (fun K hK => ?_); go_simp; split <;> (refine hK _ ?_; clear hK K))))
              all_goals (refine wpQuiet_nil ?_; intro w8 hb; obtain ⟨hB, hS, hk⟩ := after (B := w6.heap.size) (w := w6) (by go_grown) (by go_size) hb; obtain ⟨c0, f0, z0⟩ := hk (w.heap.size) (by go_size); obtain ⟨c1, f1, z1⟩ := hk (q) (by go_size); obtain ⟨c2, f2, z2⟩ := hk (g) (by go_size); obtain ⟨c3, f3, z3⟩ := hk (pb) (by go_size); clear hk hb r0 rf0 r1 rf1 r2 rf2 r3 rf3)
              have HB8 := Lib.hid (HB6.out.trans (hB.mono HB6.out.size))
              clear hB hS
              go_wp2_with fail
              exact ⟨⟨k + 1, by omega, by rw [hu9.out], by go_num, hf9, HB8.out⟩, by simp [intOf]; omega⟩
          case true =>
            refine wp_region_below (by kernel_rfl) (by kernel_rfl) (fun hkept => ?_)
            obtain ⟨r0, rf0⟩ := hkept (w.heap.size) (by go_size); obtain ⟨r1, rf1⟩ := hkept (q) (by go_size); obtain ⟨r2, rf2⟩ := hkept (g) (by go_size); obtain ⟨r3, rf3⟩ := hkept (pb) (by go_size); clear hkept
            repeat (any_goals (first | go_big_quiet_step (fail) | quiet_step (fail) | (refine wpQuiet_step (fun K hK => ?_); go_simp; split <;> (refine hK _ ?_; clear hK K))))
            all_goals (refine wpQuiet_nil ?_; intro w6 hb; obtain ⟨hB, hS, hk⟩ := after (B := wc.heap.size) (w := wc) (by go_grown) (by go_size) hb; obtain ⟨c0, f0, z0⟩ := hk (w.heap.size) (by go_size); obtain ⟨c1, f1, z1⟩ := hk (q) (by go_size); obtain ⟨c2, f2, z2⟩ := hk (g) (by go_size); obtain ⟨c3, f3, z3⟩ := hk (pb) (by go_size); clear hk hb r0 rf0 r1 rf1 r2 rf2 r3 rf3)
            have HB6 := Lib.hid (HBc.out.trans (hB.mono HBc.out.size))
            clear hB hS
            by_cases ht : x.term = y.term
            case pos =>
              have hu9 : Hid (unlF false ((a.es.take (k + 1)).filterMap (rpairL b)) = true) := Lib.hid (by rw [Hun.out]; rfl)
              have hRf : Hid (R = true) := Lib.hid (HRt.out (by rw [Hfs.out]; simp [ht]))
              have t9 : (x.term == y.term) = true := by simpa using ht
              clear ht
              go_wp2_with fail
              refine wp_region_below (by kernel_rfl) (by kernel_rfl) (fun hkept => ?_)
              obtain ⟨r0, rf0⟩ := hkept (w.heap.size) (by go_size); obtain ⟨r1, rf1⟩ := hkept (q) (by go_size); obtain ⟨r2, rf2⟩ := hkept (g) (by go_size); obtain ⟨r3, rf3⟩ := hkept (pb) (by go_size); clear hkept
              repeat (any_goals (first | go_big_quiet_step (fail) | quiet_step (fail) | (refine wpQuiet_step (fun K hK => ?_); go_simp; split <;> (refine hK _ ?_; clear hK K))))
              all_goals (refine wpQuiet_nil ?_; intro w8 hb; obtain ⟨hB, hS, hk⟩ := after (B := w6.heap.size) (w := w6) (by go_grown) (by go_size) hb; obtain ⟨c0, f0, z0⟩ := hk (w.heap.size) (by go_size); obtain ⟨c1, f1, z1⟩ := hk (q) (by go_size); obtain ⟨c2, f2, z2⟩ := hk (g) (by go_size); obtain ⟨c3, f3, z3⟩ := hk (pb) (by go_size); clear hk hb r0 rf0 r1 rf1 r2 rf2 r3 rf3)
              have HB8 := Lib.hid (HB6.out.trans (hB.mono HB6.out.size))
              clear hB hS
              go_wp2_with fail
              go_returns
              exact ⟨by rw [hRf.out]; rfl, hbW.trans (HB8.out.mono hbW.size)⟩
            case neg =>
              have hu9 : Hid (unlF false ((a.es.take (k + 1)).filterMap (rpairL b)) = true) := Lib.hid (by rw [Hun.out]; rfl)
              have hf9 : Hid (formsF false ((a.es.take (k + 1)).filterMap (rpairL b)) = false) := Lib.hid (by rw [Hfs.out]; simp [ht])
              have t9 : (x.term == y.term) = false := by simpa using ht
              clear ht
              go_wp2_with fail
              refine wp_region_below (by kernel_rfl) (by kernel_rfl) (fun hkept => ?_)
              obtain ⟨r0, rf0⟩ := hkept (w.heap.size) (by go_size); obtain ⟨r1, rf1⟩ := hkept (q) (by go_size); obtain ⟨r2, rf2⟩ := hkept (g) (by go_size); obtain ⟨r3, rf3⟩ := hkept (pb) (by go_size); clear hkept
              repeat (any_goals (first | go_big_quiet_step (fail) | quiet_step (fail) | (refine wpQuiet_step (fun K hK => ?_); go_simp; split <;> (refine hK _ ?_; clear hK K))))
              all_goals (refine wpQuiet_nil ?_; intro w8 hb; obtain ⟨hB, hS, hk⟩ := after (B := w6.heap.size) (w := w6) (by go_grown) (by go_size) hb; obtain ⟨c0, f0, z0⟩ := hk (w.heap.size) (by go_size); obtain ⟨c1, f1, z1⟩ := hk (q) (by go_size); obtain ⟨c2, f2, z2⟩ := hk (g) (by go_size); obtain ⟨c3, f3, z3⟩ := hk (pb) (by go_size); clear hk hb r0 rf0 r1 rf1 r2 rf2 r3 rf3)
              have HB8 := Lib.hid (HB6.out.trans (hB.mono HB6.out.size))
              clear hB hS
              go_wp2_with fail
              exact ⟨⟨k + 1, by omega, by rw [hu9.out], by go_num, hf9, HB8.out⟩, by simp [intOf]; omega⟩
    · obtain rfl : k = a.en := by omega
      have hRf : Hid (R = false) := Lib.hid (by
        have := hF.out
        rw [List.take_of_length_le (by rw [Hn.out]; exact Nat.le_refl _)] at this
        rw [HR.out]; exact this)
      go_wp2_with fail
      go_returns
      exact ⟨by rw [hRf.out]; rfl, hbr⟩
end Go.Proofs.Yteibnignjghedaa
