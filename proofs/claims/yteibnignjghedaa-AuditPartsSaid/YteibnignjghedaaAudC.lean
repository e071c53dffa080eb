/-
  The indices at which two logs have an entry each: audit.common, its iterator.
-/
import Derived.Test.YteibnignjghedaaAudR
import Derived.Test.YteibnignjghedaaReadsT
import Derived.Test.YteibnignjghedaaRangeM
import Derived.Sort.CutIn
namespace Go.Proofs.Yteibnignjghedaa
open Go.RowKit Go.Shelf

attribute [local go_sem] Oper.semAt_some readsUpon
/-- A load in a reading walk, whose run is known. -/
theorem wpReads_loadK {P : Program} {W : World} {ops : Array Oper} {rest : List Oper} {o : Oper} {a : Act} {K : Act → Prop} {ty : TypeId} {x : Operand} {p v : Value} (hop : o.op = .load ty x) (hw : Region.wanted o (yielded ops a.tmps) = true)
    (hx : a.eval x = p) (hr : (Instr.loadAt ty p).run P W = .ok v W) (h : wpReads P ops W K rest (a.put o.dst v)) : wpReads P ops W K (o :: rest) a := by
  unfold wpReads
  rw [if_pos hw]
  subst hx
  unfold execOp
  simp only [hop, Sem.run_bind, hr, Result.andThen_ok, Sem.run_pure, readsUpon]
  exact ⟨trivial, h⟩
theorem wpListIn_loadK {F : Fence} {n : Nat} {P : Program} {w : World} {ops : Array Oper} {rest : List Oper} {o : Oper} {a : Act} {Q : Exit → Act → World → Prop} {ty : TypeId} {x : Operand} {p v : Value} (hfn : ∀ f, F.fn f) (hop : o.op = .load ty x) (hw : Region.wanted o (yielded ops a.tmps) = true)
    (hx : a.eval x = p) (hr : (Instr.loadAt ty p).run P w = .ok v w) (h : wpListIn F n P ops Q rest (a.put o.dst v) w) : wpListIn F n P ops Q (o :: rest) a w := by
  unfold wpListIn
  rw [if_pos hw]
  unfold Oper.wpIn
  refine ⟨fun f _ => hfn f, ?_⟩
  rw [Oper.semAt_eq _ _ _ (fun c e => by rw [hop] at e; cases e)]
  subst hx
  unfold execOp
  simp only [hop, Sem.run_bind, hr, Result.andThen_ok, Sem.run_pure, Oper.uponIn_value]
  exact h
theorem wpListIn_storeN {F : Fence} {n : Nat} {P : Program} {W : World} {ops : Array Oper} {rest : List Oper} {o : Oper} {a : Act} {Q : Exit → Act → World → Prop} {ty : TypeId} {x y : Operand} {b : Nat} {c c' : Array Value} (hfn : ∀ f, F.fn f) (hg : o.guard = none) (hop : o.op = .store ty x y)
    (hx : a.eval x = .pointer (some ⟨b, 0, none⟩)) (hy : a.eval y = .agg c') (hb : b = W.heap.size) (hi : (P.info? ty).map (·.size) = some c'.size) (ho : c.size = c'.size) (h1 : c'.all (·.oneCell') = true)
    (h : wpListIn F n P ops Q rest (a.put o.dst undef) (W.alloc (.cells c' ty))) : wpListIn F n P ops Q (o :: rest) a (W.alloc (.cells c ty)) := by
  subst hb
  unfold wpListIn
  rw [if_pos (by simp [Region.wanted, hg])]
  unfold Oper.wpIn
  refine ⟨fun f _ => hfn f, ?_⟩
  rw [Oper.semAt_eq _ _ _ (fun c e => by rw [hop] at e; cases e)]
  unfold execOp
  simp only [hop, hx, hy, Sem.run_bind, run_storeAt_new W ty c c' hi ho h1, Result.andThen_ok, Sem.run_pure, Oper.uponIn]
  exact h
theorem EntAt.drew {w : World} {b o : Nat} {e : EntA} (h : EntAt w b o e) : EntAt w.drew b o e := fun j v hv => h j v hv
theorem SeenAt.drew {w : World} {b o : Nat} {s : SeenA} (h : SeenAt w b o s) : SeenAt w.drew b o s := fun j v hv => h j v hv

/-- the other log's entry of x's index -/
def pairL (b : SeenA) (x : EntA) : Option (EntA × EntA) := if x.idx ≤ b.bidx ∨ (b.es.length : Int) < x.idx - b.bidx then none else (b.es[(x.idx - b.bidx - 1).toNat]?).map fun y => (x, y)
def commonL (a b : SeenA) : List (EntA × EntA) := a.es.filterMap (pairL b)
theorem pair_none {b : SeenA} {x : EntA} (h : x.idx ≤ b.bidx ∨ (b.es.length : Int) < x.idx - b.bidx) : pairL b x = none := if_pos h
theorem pair_some {b : SeenA} {x y : EntA} (h : ¬ (x.idx ≤ b.bidx ∨ (b.es.length : Int) < x.idx - b.bidx)) (hy : b.es[(x.idx - b.bidx - 1).toNat]? = some y) : pairL b x = some (x, y) := by
  rw [pairL, if_neg h, hy]; rfl

theorem common_any (a b : SeenA) (w : World) : Calls Try.prog 39 #[a.v, b.v] w fun e w' => e = .returned (.func (.func 61) #[] #[.pointer (some ⟨w.heap.size, 0, none⟩), .pointer (some ⟨w.heap.size + 1, 0, none⟩)]) ∧
    w' = (w.alloc (.cells a.l.toArray 49)).alloc (.cells b.l.toArray 49) := by
  simp only [SeenA.v]
  go_enter Try.func39, Try.ntmps39
  go_wp2
  go_ret
  exact ⟨rfl, rfl⟩

set_option maxRecDepth 100000 in
set_option maxHeartbeats 8000000 in
theorem common1_seq (n : Nat) (hn : 1 ≤ n) (B1 B2 : Nat) (a b : SeenA) (w : World) (hA : SeenAt w B1 0 a) (hB : SeenAt w B2 0 b) (ha : a.In w) (hb : b.In w) (hoa : a.Ok) (hob : b.Ok) (S : Nat → Prop) (hS1 : S B1) (hS2 : S B2)
    (hS3 : 0 < a.en → ∀ x, a.ea = some x → S x.block) (hS4 : 0 < b.en → ∀ x, b.ea = some x → S x.block) :
    SeqN (α := { p : EntA × EntA // p ∈ commonL a b }) n Try.prog 61 #[.pointer (some ⟨B1, 0, none⟩), .pointer (some ⟨B2, 0, none⟩)] (fun x => #[x.1.1.v, x.1.2.v]) (KB S) (fun xs => xs.map (·.1) = commonL a b) (fun pre => pre.map (·.1) <+: commonL a b) (commonL a b).length w := by
  intro l J Jx W hW hJ hJx hY h0
  have HY := Lib.hid hY
  have HJ := Lib.hid hJ
  have HA := Lib.hid (hA.below hW)
  have HB := Lib.hid (hB.below hW)
  have HaE := Lib.hid (ha.es.below hW)
  have HbE := Lib.hid (hb.es.below hW)
  have hc1 := Arr.fits ha.es.arr
  have hc2 := Arr.max ha.es.arr
  have hc3 := Arr.fits hb.es.arr
  have hc4 := Arr.max hb.es.arr
  unfold maxLen at hc2 hc4
  have Hla := Lib.hid ha.es.len
  have Hlb := Lib.hid hb.es.len
  have Hoa := Lib.hid hoa
  have Hob := Lib.hid hob
  have HS1 := Lib.hid hS1
  have HS2 := Lib.hid hS2
  have HS3 := Lib.hid hS3
  have HS4 := Lib.hid hS4
  have x9 := HA.out.at_ 9 _ rfl
  simp only [Nat.zero_add] at x9
  have hl1 := HA.out.lt
  have hl2 := HB.out.lt
  obtain ⟨m, hm⟩ : ∃ m, m = a.en := ⟨_, rfl⟩
  rw [← hm] at hc1 x9 Hla HaE HS3
  clear hY hJ hJx hA hB ha hb hoa hob hS1 hS2 hS3 hS4 hm hW
  refine callsIn_of_wp (F := Fence.wide) Try.func61 rfl trivial ?_ rfl
  simp only [Try.ntmps61, List.size_toArray, List.length_cons, List.length_nil, Nat.reduceAdd, Nat.reduceSub, Array.replicate_succ, Array.replicate_zero, List.push_toArray, List.append_toArray, List.nil_append, List.cons_append]
  gi_wp2
  gi_loopw [9] (fun i wr => ∃ (k : Nat) (pre : List { p : EntA × EntA // p ∈ commonL a b }), k ≤ m ∧ i = .int .i64 k ∧ Hid (pre.map (·.1) = (a.es.take k).filterMap (pairL b)) ∧ Hid (J pre wr) ∧ Hid (KB S W wr)) (fun i _ => m - (intOf i).toNat)
  case atStart => exact ⟨0, [], by omega, rfl, Lib.hid rfl, Lib.hid h0, Lib.hid (KB.refl _ _)⟩
  case round =>
    obtain ⟨k, pre, hk, rfl, hP, hJr, hK⟩ := hrel
    by_cases hlt : k < m
    · obtain ⟨x, hx⟩ : ∃ x, a.es[k]? = some x := ⟨_, List.getElem?_eq_getElem (by rw [Hla.out]; omega)⟩
      obtain ⟨g, off, e0, hgl, hEA, hEI⟩ := HaE.out.at_ hx
      have hox := Hoa.out.es x (List.mem_of_getElem? hx)
      have hSg : S g := HS3.out (by omega) _ e0
      have hEr : EntAt wr g (off + k * 24) x := hEA.same (hK.out.block g hSg hgl)
      have HL := Lib.hid hEr.load
      have HX := Lib.hid hx
      have hBr := HB.out.same (hK.out.block B2 HS2.out hl2)
      have hzr := hK.out.size
      have hbl : B2 < wr.heap.size := by omega
      rw [e0] at x9 ⊢
      clear hEA hEr hx e0
      have g0 : x.l[0]? = some (.int .u64 x.idx) := rfl
      gi_upto_region 3 with (first | (refine wpListIn_loadK (fun _ => trivial) rfl (by rfl) rfl (by exact HL.out) ?_; simp only [Act.put, List.setIfInBounds_toArray, List.set_cons_succ, List.set_cons_zero]) | (refine wpListIn_storeN (fun _ => trivial) rfl rfl rfl rfl (by rfl) (by kernel_rfl) (by rfl) (EntA.all _) ?_; simp only [Act.put, List.setIfInBounds_toArray, List.set_cons_succ, List.set_cons_zero]))
      obtain ⟨W3, hW3⟩ : ∃ W3 : World, W3 = wr.alloc (.cells x.l.toArray 60) := ⟨_, rfl⟩
      have hE3 : EntAt W3 wr.heap.size 0 x := by rw [hW3]; exact EntAt.new wr x _
      have hb3 : Below wr.heap.size wr W3 := by rw [hW3]; exact (Below.refl _ _).alloc (Nat.le_refl _) _
      have hz3 : W3.heap.size = wr.heap.size + 1 := by rw [hW3]; simp
      obtain ⟨p, hp⟩ : ∃ p, p = wr.heap.size := ⟨_, rfl⟩
      have hJ3 : J pre W3 := by rw [hW3]; exact HJ.out.alloc _ hJr.out
      have hK3 : KB S W W3 := by rw [hW3]; exact hK.out.alloc _
      rw [← hW3, ← hp]
      rw [← hp] at hE3
      have v0 := hE3.idx
      have hB3 := hBr.below hb3
      have u6 := hB3.at_ 6 _ rfl
      have u9 := hB3.at_ 9 _ rfl
      simp only [Nat.zero_add] at v0 u6 u9
      have hpl : p < W3.heap.size := by omega
      have hbl3 : B2 < W3.heap.size := by omega
      have HJ3 := Lib.hid hJ3
      have HK3 := Lib.hid hK3
      have HE3 := Lib.hid hE3
      have hi0 := Hob.out.i0
      have hi1 := Hob.out.i1
      have hx0 := hox.i0
      have hx1 := hox.i1
      have Htk := Lib.hid (show (a.es.take (k + 1)).filterMap (pairL b) = (a.es.take k).filterMap (pairL b) ++ (pairL b x).toList by
        rw [List.take_add_one, HX.out, List.filterMap_append]
        congr 1)
      clear hW3 hb3 hJ3 hK3 hE3 hp g0 HL hBr hB3 hJr hK hox
      by_cases s0 : x.idx ≤ b.bidx
      · have t0 : decide (x.idx ≤ b.bidx) = true := by simpa using s0
        have Hn := Lib.hid (pair_none (b := b) (x := x) (.inl s0))
        clear s0
        gi_wp2_with fail
        go_roundw
        case rel => exact ⟨k + 1, pre, by omega, by go_num, Lib.hid (by rw [Htk.out, Hn.out, hP.out]; simp), HJ3, HK3⟩
        case measure => simp [intOf]; omega
      · have t0 : decide (x.idx ≤ b.bidx) = false := by simpa using s0
        have hs1 : IntKind.u64.wrap (x.idx - b.bidx) = x.idx - b.bidx := by
          have : IntKind.u64.wrap (x.idx - b.bidx) = (x.idx - b.bidx) % 18446744073709551616 := by simp [IntKind.wrap, IntKind.bits, IntKind.signed]
          omega
        by_cases s1 : (b.es.length : Int) < x.idx - b.bidx
        · have t1 : decide ((b.en : Int) < x.idx - b.bidx) = true := by rw [← Hlb.out]; simpa using s1
          have Hn := Lib.hid (pair_none (b := b) (x := x) (.inr s1))
          clear s1 s0
          gi_wp2_with fail
          go_roundw
          case rel => exact ⟨k + 1, pre, by omega, by go_num, Lib.hid (by rw [Htk.out, Hn.out, hP.out]; simp), HJ3, HK3⟩
          case measure => simp [intOf]; omega
        · have t1 : decide ((b.en : Int) < x.idx - b.bidx) = false := by rw [← Hlb.out]; simpa using s1
          obtain ⟨q, hq⟩ : ∃ q : Nat, q = (x.idx - b.bidx - 1).toNat := ⟨_, rfl⟩
          have hqn : q < b.es.length := by omega
          obtain ⟨y, hy⟩ : ∃ y, b.es[q]? = some y := ⟨_, List.getElem?_eq_getElem hqn⟩
          have hps := pair_some (b := b) (x := x) (y := y) (by omega) (by rw [← hq]; exact hy)
          have hmem : (x, y) ∈ commonL a b := List.mem_filterMap.2 ⟨x, List.mem_of_getElem? HX.out, hps⟩
          obtain ⟨g2, off2, e2, hg2l, hEB, hEI2⟩ := HbE.out.at_ hy
          have hEB3 : EntAt W3 g2 (off2 + q * 24) y := hEB.same (HK3.out.block g2 (HS4.out (by rw [← Hlb.out]; omega) _ e2) hg2l)
          have hlen : pre.length < (commonL a b).length := by
            have h1 := congrArg List.length hP.out
            have h2 := congrArg List.length Htk.out
            rw [hps, List.length_append] at h2
            have h3 : ((a.es.take (k + 1)).filterMap (pairL b)).length ≤ (commonL a b).length := ((List.take_sublist _ _).filterMap _).length_le
            rw [List.length_map] at h1
            simp at h2
            omega
          have HL1 := Lib.hid HE3.out.drew.load
          have HL2 := Lib.hid hEB3.drew.load
          have hJd : J pre W3.drew := HJ.out pre W3 W3.drew none HJ3.out ⟨rfl, rfl, rfl, Nat.le_refl _, fun _ _ _ => rfl⟩ (fun r e => by cases e)
          obtain ⟨fn, tmps, assign, body, hyy, hR⟩ := HY.out pre ⟨(x, y), hmem⟩ W3.drew hJd hlen
          dsimp only at hyy
          simp only [EntA.v] at hyy
          have HR := Lib.hid hR
          have hix : (x.idx - b.bidx - 1) = (q : Int) := by omega
          have hs2 : IntKind.u64.wrap (x.idx - b.bidx - 1) = (q : Int) := by
            have : IntKind.u64.wrap (x.idx - b.bidx - 1) = (x.idx - b.bidx - 1) % 18446744073709551616 := by simp [IntKind.wrap, IntKind.bits, IntKind.signed]
            omega
          have hqe : q < b.en := by rw [← Hlb.out]; exact hqn
          have hmx : Try.prog.follows .mixedOrders = true := by kernel_rfl
          rw [e2] at u9
          have Hps := Lib.hid hps
          clear hR hJd hlen hy hq hix hEB hEB3 hEI2 hqn s0 s1 hps
          gi_wp2_with fail
          refine wpIn_region_reads_tail 48 13 (fun _ => trivial) hmx (by kernel_rfl) (by kernel_rfl) (by kernel_rfl) (by kernel_rfl) (by decide) rfl ?_
          repeat (first | (refine wpReads_loadK rfl (by rfl) rfl (by first | exact HL1.out | exact HL2.out) ?_; simp only [Act.put, List.setIfInBounds_toArray, List.set_cons_succ, List.set_cons_zero]) | (refine wpReads_step (fun K hK => ?_); go_simp; refine hK _ ?_; clear hK K))
          refine wpReads_nil ?_
          simp only [List.drop_succ_cons, List.drop_zero]
          gi_wp2
          refine HR.out.mono ?_
          rintro e W5 (⟨rfl, hJ5, hk5⟩ | ⟨rfl, hJx5, _⟩)
          · gi_wp2
            go_roundw
            case rel => exact ⟨k + 1, _, by omega, by go_num, Lib.hid (by rw [Htk.out, Hps.out, List.map_append, hP.out]; rfl), Lib.hid hJ5, Lib.hid (HK3.out.drew.trans hk5)⟩
            case measure => simp [intOf]; omega
          · gi_wp2
            refine bodyPost_ret (results_none rfl _ _ _) rfl ?_
            refine ⟨⟨_, rfl⟩, .inr ⟨_, ?_, hJx5⟩⟩
            rw [List.map_append, hP.out]
            have h1 := Htk.out
            rw [Hps.out] at h1
            refine ⟨(a.es.drop (k + 1)).filterMap (pairL b), ?_⟩
            have h2 : commonL a b = (a.es.take (k + 1)).filterMap (pairL b) ++ (a.es.drop (k + 1)).filterMap (pairL b) := by rw [← List.filterMap_append, List.take_append_drop]; rfl
            exact (h2.trans (by rw [h1]; rfl)).symm
    · obtain rfl : k = m := by omega
      have hall : a.es.take k = a.es := List.take_of_length_le (by rw [Hla.out]; exact Nat.le_refl _)
      have hP2 := hP.out
      rw [hall] at hP2
      gi_wp2
      go_end0
      exact ⟨⟨_, rfl⟩, .inl ⟨pre, hP2, hJr.out⟩⟩
end Go.Proofs.Yteibnignjghedaa
