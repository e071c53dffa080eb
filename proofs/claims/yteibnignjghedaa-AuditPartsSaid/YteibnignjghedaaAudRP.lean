/-
  The faults of two: the walk of acreageref32.pair.
-/
import Derived.Test.YteibnignjghedaaAudCP
import Derived.Test.YteibnignjghedaaAudQ
import Derived.Deep.CutRange
namespace Go.Proofs.Yteibnignjghedaa
open Go.RowKit Go.Sort

/-- faults told behind those of v, in a row of their own -/
structure Tell (w w' : World) (B : Nat) (v v' : Value) (fs : List (Int × Int)) : Prop where
  row : Row w' B 65 2 v' fs.length (fs.map faultE).flatten
  grown : w.grownBy w' v.ownBlock
  at_ : v'.ownBlock = v.ownBlock ∨ ∃ q, v'.ownBlock = some q ∧ w.heap.size ≤ q
section
variable {w w' V : World} {B : Nat} {v u v' : Value} {fs gs : List (Int × Int)}
theorem Tell.refl (h : Row w B 65 2 v fs.length (fs.map faultE).flatten) : Tell w w B v v fs := ⟨h, World.grownBy.refl w _, .inl rfl⟩
theorem grown_two {a b c : World} {p q : Option Nat} (h : a.grownBy b p) (k : b.grownBy c q) (hq : q = p ∨ ∃ j, q = some j ∧ a.heap.size ≤ j) : a.grownBy c p :=
  ⟨k.os.trans h.os, k.tape.trans h.tape, k.output.trans h.output, Nat.le_trans h.size k.size, fun j hj hne => by
    rw [k.block j (Nat.lt_of_lt_of_le hj h.size) (fun e => by
      rcases hq with rfl | ⟨i, rfl, hi⟩
      · exact hne e
      · cases e; omega)]
    exact h.block j hj hne⟩
theorem grown_below {a b c : World} {p : Option Nat} (h : a.grownBy b p) (k : Below b.heap.size b c) : a.grownBy c p :=
  ⟨k.os.trans h.os, k.tape.trans h.tape, k.output.trans h.output, Nat.le_trans h.size k.size, fun j hj hne => (k.block j (Nat.lt_of_lt_of_le hj h.size)).trans (h.block j hj hne)⟩
theorem Tell.trans (h : Tell w V B v u fs) (k : Tell V w' B u v' gs) : Tell w w' B v v' gs := by
  refine ⟨k.row, grown_two h.grown k.grown ?_, ?_⟩
  · exact h.at_.imp id id
  · rcases k.at_ with e | ⟨q, e, hq⟩
    · rw [e]; exact h.at_
    · exact .inr ⟨q, e, Nat.le_trans h.grown.size hq⟩
theorem Tell.below (h : Tell w V B v u fs) (hb : Below V.heap.size V w') : Tell w w' B v u fs := ⟨Row.below h.row hb, grown_below h.grown hb, h.at_⟩
theorem Tell.step {f : Int × Int} {T : TypeId} {c : Array Value} (h : Tell w V B v u fs) (hr : Row w' B 65 2 v' (fs.length + 1) ((fs.map faultE).flatten ++ ([f].map faultE).flatten)) (hg : (V.alloc (.cells c T)).grownBy w' u.ownBlock) (ho : v'.ownBlock = u.ownBlock ∨ v'.ownBlock = some (V.alloc (.cells c T)).heap.size) :
    Tell w w' B v v' (fs ++ [f]) := by
  refine ⟨by rw [List.length_append, List.map_append, List.flatten_append]; exact hr, grown_two (grown_below h.grown ((Below.refl _ _).alloc (Nat.le_refl _) _)) hg (h.at_.imp id id), ?_⟩
  rcases ho with e | e
  · rw [e]; exact h.at_
  · exact .inr ⟨_, e, by rw [World.size_alloc]; have := h.grown.size; omega⟩
theorem SeenAt.own {b o : Nat} {s : SeenA} (h : SeenAt w b o s) (hg : w.grownBy w' v.ownBlock) (hv : v.ownBlock ≠ some b) : SeenAt w' b o s := h.same (hg.block b h.lt (fun e => hv e.symm))
theorem Tell.bel {w0 : World} (h : Tell w w' w0.heap.size v v' fs) (h0 : Below w0.heap.size w0 w) (hv : ∀ q, v.ownBlock = some q → w0.heap.size ≤ q) : Below w0.heap.size w0 w' := h0.grown h.grown h0.size hv
end

set_option maxRecDepth 100000 in
set_option maxHeartbeats 16000000 in
theorem rpair_any (w0 : World) (v : Value) (fs : List (Int × Int)) (a b : SeenA) (k : Int) (w : World) (h0 : Below w0.heap.size w0 w) (hrow : Row w w0.heap.size 65 2 v fs.length (fs.map faultE).flatten) (hle : fs.length ≤ 100000)
    (ha : a.In w0) (hb : b.In w0) (hoa : a.Ok) (hob : b.Ok) (hma : mayS a = true) (hmb : mayS b = true) :
    Calls Try.prog 28 #[v, a.v, b.v, .int .i64 k] w fun e w' => ∃ v', e = .returned v' ∧ Tell w w' w0.heap.size v v' (pairF a b k fs) := by
  have HR := Lib.hid hrow
  have Hv := Lib.hid (fun q => Row.lt hrow q)
  have H0 := Lib.hid h0
  have Ha := Lib.hid ha
  have Hb := Lib.hid hb
  have EF := Lib.hid (rforms_eq a hmb)
  have EB := Lib.hid (rbusy_eq hoa hob hma hmb)
  have Ha0 := Lib.hid hoa.a0
  have ESz := h0.size
  simp only [SeenA.v]
  clear hrow h0 ha hb hoa hob hma hmb
  go_enter Try.func28, Try.ntmps28
  go_upto_region 1 with fail
  obtain ⟨W, hW⟩ : ∃ W : World, W = (w.alloc (.cells a.l.toArray 49)).alloc (.cells b.l.toArray 49) := ⟨_, rfl⟩
  have hbW : Below w.heap.size w W := by rw [hW]; exact ((Below.refl _ _).alloc (Nat.le_refl _) _).alloc (by simp) _
  have hA0 : SeenAt W w.heap.size 0 a := by
    rw [hW]
    exact (SeenAt.new w a _).below ((Below.refl _ _).alloc (Nat.le_refl _) _)
  have hB0 : SeenAt W (w.heap.size + 1) 0 b := by
    rw [hW]
    have := SeenAt.new (w.alloc (.cells a.l.toArray 49)) b 49
    rw [World.size_alloc] at this
    exact this
  obtain ⟨q, hq⟩ : ∃ q, q = w.heap.size + 1 := ⟨_, rfl⟩
  rw [← hW, ← hq]
  rw [← hq] at hB0
  have HA0 := Lib.hid hA0
  have HB0 := Lib.hid hB0
  have Hbw := Lib.hid hbW
  have HT0 := Lib.hid (Tell.refl (Row.below HR.out hbW))
  have H0W := Lib.hid (H0.out.trans (hbW.mono H0.out.size))
  have Hnp := Lib.hid (show v.ownBlock ≠ some w.heap.size from fun e => by have := (Hv.out _ e).2; omega)
  have Hnq := Lib.hid (show v.ownBlock ≠ some q from fun e => by have := (Hv.out _ e).2; omega)
  have x1 := hA0.at_ 1 _ rfl
  have x3 := hA0.at_ 3 _ rfl
  have x4 := hA0.at_ 4 _ rfl
  have y1 := hB0.at_ 1 _ rfl
  have y3 := hB0.at_ 3 _ rfl
  have y4 := hB0.at_ 4 _ rfl
  simp only [Nat.zero_add] at x1 x3 x4 y1 y3 y4
  clear hW hA0 hB0 hq hbW
  by_cases hg : a.group = b.group
  case neg =>
    have t1 : (a.group != b.group) = true := by simpa using hg
    have hP : Hid (pairF a b k fs = fs) := Lib.hid (by rw [pairF, if_neg hg])
    go_wp2_with fail
    go_returns
    exact ⟨v, rfl, by rw [hP.out]; exact Tell.trans ((Tell.refl HR.out).below Hbw.out) HT0.out⟩
  have t1 : (a.group != b.group) = false := by simpa using hg
  have hP : Hid (pairF a b k fs = addF (machL a b) (addF (busyL a b) (addF (formsL a b) (addF (leadS a b) fs (11, k)) (4, k)) (6, k)) (9, k)) := Lib.hid (by rw [pairF, if_pos hg])
  have Hg := Lib.hid hg
  obtain ⟨i0, hi, iz0, iz1, iz2⟩ := info_parts Try.info_fault
  have Hi := Lib.hid hi
  clear hg hi
  go_upto_region 3 with fail
  go_cut [30] (fun c wx => c = .bool (leadS a b) ∧ W = wx)
  case first =>
    have HL : Hid (leadS a b = (a.leads && b.leads && decide (a.ht = b.ht))) := Lib.hid rfl
    cases h1 : a.leads <;> cases h2 : b.leads
    all_goals
      rw [h1] at x3 HL
      rw [h2] at y3 HL
      clear h1 h2
    case true.true =>
      by_cases h3 : a.ht = b.ht
      · have t2 : (a.ht == b.ht) = true := by simpa using h3
        have HL2 : Hid (leadS a b = true) := Lib.hid (by rw [HL.out]; simp [h3])
        clear h3 HL
        go_wp2_with fail
        go_meet
        exact ⟨by rw [HL2.out], rfl⟩
      · have t2 : (a.ht == b.ht) = false := by simpa using h3
        have HL2 : Hid (leadS a b = false) := Lib.hid (by rw [HL.out]; simp [h3])
        clear h3 HL
        go_wp2_with fail
        go_meet
        exact ⟨by rw [HL2.out], rfl⟩
    all_goals
      go_wp2_with fail
      go_meet
      exact ⟨by rw [HL.out]; rfl, rfl⟩
  case rest =>
    obtain ⟨rfl, rfl⟩ := hcut
    have Hlen := Lib.hid (Nat.le_refl fs.length)
    obtain ⟨L0, hL0⟩ : ∃ L, L = leadS a b := ⟨_, rfl⟩
    rw [← hL0] at hP ⊢
    clear hL0 x1 x3 x4 y1 y3 y4
    go_upto_if 30 with fail
    have hzz := Nat.le_trans H0W.out.size HT0.out.grown.size
    have hls : (fs).length ≤ 100010 := by have := Hlen.out; omega
    have Hlen2 : Hid ((addF L0 fs (11, k)).length ≤ fs.length + 1) := Lib.hid (by have := Hlen.out; have := (addF_len L0 (fs) (11, k)).2; omega)
    go_cut [0] (fun o wx => Hid (Tell W wx w0.heap.size v o (addF L0 fs (11, k))))
    case first =>
      cases L0
      · go_wp2_with fail
        go_meet
        exact HT0
      · go_wp2_with (at_builtin; refine wpList_append_at _ rfl _ _ 24 rfl w0.heap.size 65 i0 _ 2 16 Try.underlying24 Hi.out iz0 iz1 iz2 rfl (by decide) v _ _ rfl (Row.alloc HT0.out.row _) rfl (fault_one _ _ (11, k) _ rfl) (by omega) (by unfold maxLen; omega) (by rw [World.size_alloc]; omega) ?_; intro v7 w7 hr7 hg7 ho7; have HR7 := Lib.hid hr7; have HG7 := Lib.hid hg7; have HO7 := Lib.hid ho7; clear hr7 hg7 ho7)
        go_meet
        exact Lib.hid (Tell.step HT0.out HR7.out HG7.out HO7.out)
    case rest =>
      have HT1 := hcut; clear hcut
      clear hls hzz Hlen
      have Hlen := Hlen2
      clear Hlen2
      have HBc := Lib.hid (Tell.bel HT1.out H0W.out (fun q hq => (Hv.out q hq).1))
      have hA := HA0.out.own HT1.out.grown Hnp.out
      have hB := HB0.out.own HT1.out.grown Hnq.out
      have LA := Lib.hid hA.load
      have LB := Lib.hid hB.load
      have KF : Hid (Calls Try.prog 51 #[.agg a.l.toArray, .agg b.l.toArray] wc fun e w' => e = .returned (.bool (formsL a b)) ∧ Below wc.heap.size wc w') := Lib.hid (by rw [← EF.out]; exact rforms_any a b wc (Ha.out.below HBc.out) (Hb.out.below HBc.out))
      obtain ⟨L1, hL1⟩ : ∃ L, L = formsL a b := ⟨_, rfl⟩
      rw [← hL1] at hP KF
      clear hL1 hA hB
      go_upto_if 38 with (first | (refine wpList_loadK rfl (by rfl) rfl (by first | exact LA.out | exact LB.out) ?_; simp only [Act.put, List.setIfInBounds_toArray, List.set_cons_succ, List.set_cons_zero]) | (go_at_call 51; refine KF.out.mono ?_; rintro e w5 ⟨rfl, hb5⟩; have HT2 := Lib.hid (HT1.out.below hb5); clear hb5))
      clear LA LB KF HBc HT1
      have hzz := Nat.le_trans H0W.out.size HT2.out.grown.size
      have hls : (addF L0 fs (11, k)).length ≤ 100010 := by have := Hlen.out; omega
      have Hlen2 : Hid ((addF L1 (addF L0 fs (11, k)) (4, k)).length ≤ fs.length + 2) := Lib.hid (by have := Hlen.out; have := (addF_len L1 (addF L0 fs (11, k)) (4, k)).2; omega)
      go_cut [0] (fun o wx => Hid (Tell W wx w0.heap.size v o (addF L1 (addF L0 fs (11, k)) (4, k))))
      case first =>
        cases L1
        · go_wp2_with fail
          go_meet
          exact HT2
        · go_wp2_with (at_builtin; refine wpList_append_at _ rfl _ _ 24 rfl w0.heap.size 65 i0 _ 2 16 Try.underlying24 Hi.out iz0 iz1 iz2 rfl (by decide) u0 _ _ rfl (Row.alloc HT2.out.row _) rfl (fault_one _ _ (4, k) _ rfl) (by omega) (by unfold maxLen; omega) (by rw [World.size_alloc]; omega) ?_; intro v7 w7 hr7 hg7 ho7; have HR7 := Lib.hid hr7; have HG7 := Lib.hid hg7; have HO7 := Lib.hid ho7; clear hr7 hg7 ho7)
          go_meet
          exact Lib.hid (Tell.step HT2.out HR7.out HG7.out HO7.out)
      case rest =>
        have HT3 := hcut; clear hcut
        clear hls hzz Hlen
        have Hlen := Hlen2
        clear Hlen2
        have HBc := Lib.hid (Tell.bel HT3.out H0W.out (fun q hq => (Hv.out q hq).1))
        have hA := HA0.out.own HT3.out.grown Hnp.out
        have hB := HB0.out.own HT3.out.grown Hnq.out
        have LA := Lib.hid hA.load
        have LB := Lib.hid hB.load
        have KF : Hid (Calls Try.prog 52 #[.agg a.l.toArray, .agg b.l.toArray] wc fun e w' => e = .returned (.bool (busyL a b)) ∧ Below wc.heap.size wc w') := Lib.hid (by rw [← EB.out]; exact rbusy_any a b wc (Ha.out.below HBc.out) (Hb.out.below HBc.out))
        obtain ⟨L2, hL2⟩ : ∃ L, L = busyL a b := ⟨_, rfl⟩
        rw [← hL2] at hP KF
        clear hL2 hA hB
        go_upto_if 46 with (first | (refine wpList_loadK rfl (by rfl) rfl (by first | exact LA.out | exact LB.out) ?_; simp only [Act.put, List.setIfInBounds_toArray, List.set_cons_succ, List.set_cons_zero]) | (go_at_call 52; refine KF.out.mono ?_; rintro e w5 ⟨rfl, hb5⟩; have HT4 := Lib.hid (HT3.out.below hb5); clear hb5))
        clear LA LB KF HBc HT3
        have hzz := Nat.le_trans H0W.out.size HT4.out.grown.size
        have hls : (addF L1 (addF L0 fs (11, k)) (4, k)).length ≤ 100010 := by have := Hlen.out; omega
        have Hlen2 : Hid ((addF L2 (addF L1 (addF L0 fs (11, k)) (4, k)) (6, k)).length ≤ fs.length + 3) := Lib.hid (by have := Hlen.out; have := (addF_len L2 (addF L1 (addF L0 fs (11, k)) (4, k)) (6, k)).2; omega)
        go_cut [0] (fun o wx => Hid (Tell W wx w0.heap.size v o (addF L2 (addF L1 (addF L0 fs (11, k)) (4, k)) (6, k))))
        case first =>
          cases L2
          · go_wp2_with fail
            go_meet
            exact HT4
          · go_wp2_with (at_builtin; refine wpList_append_at _ rfl _ _ 24 rfl w0.heap.size 65 i0 _ 2 16 Try.underlying24 Hi.out iz0 iz1 iz2 rfl (by decide) u0 _ _ rfl (Row.alloc HT4.out.row _) rfl (fault_one _ _ (6, k) _ rfl) (by omega) (by unfold maxLen; omega) (by rw [World.size_alloc]; omega) ?_; intro v7 w7 hr7 hg7 ho7; have HR7 := Lib.hid hr7; have HG7 := Lib.hid hg7; have HO7 := Lib.hid ho7; clear hr7 hg7 ho7)
            go_meet
            exact Lib.hid (Tell.step HT4.out HR7.out HG7.out HO7.out)
        case rest =>
          have HT5 := hcut; clear hcut
          clear hls hzz Hlen
          have Hlen := Hlen2
          clear Hlen2
          have HBc := Lib.hid (Tell.bel HT5.out H0W.out (fun q hq => (Hv.out q hq).1))
          have hA := HA0.out.own HT5.out.grown Hnp.out
          have hB := HB0.out.own HT5.out.grown Hnq.out
          obtain ⟨V, hV⟩ : ∃ V, V = wc := ⟨_, rfl⟩
          subst hV
          have x1 := hA.at_ 1 _ rfl
          have x11 := hA.at_ 11 _ rfl
          have x12 := hA.at_ 12 _ rfl
          have x13 := hA.at_ 13 _ rfl
          have x14 := hA.at_ 14 _ rfl
          have x15 := hA.at_ 15 _ rfl
          have x16 := hA.at_ 16 _ rfl
          have x17 := hA.at_ 17 _ rfl
          have x18 := hA.at_ 18 _ rfl
          have y11 := hB.at_ 11 _ rfl
          have y12 := hB.at_ 12 _ rfl
          have y13 := hB.at_ 13 _ rfl
          have y14 := hB.at_ 14 _ rfl
          have y15 := hB.at_ 15 _ rfl
          have y16 := hB.at_ 16 _ rfl
          have y17 := hB.at_ 17 _ rfl
          have y18 := hB.at_ 18 _ rfl
          simp only [Nat.zero_add] at x1 x11 x12 x13 x14 x15 x16 x17 x18 y11 y12 y13 y14 y15 y16 y17 y18
          have hpl := hA.lt
          have hql := hB.lt
          have KB : Hid (Calls Try.prog 53 #[.agg #[.slice a.la a.ln a.lc, .slice a.pa a.pn a.pc, .int .i64 a.next], .agg #[.slice b.la b.ln b.lc, .slice b.pa b.pn b.pc, .int .i64 b.next]] V fun e w' => e = .returned (.bool (bossS a b)) ∧ Below V.heap.size V w') := Lib.hid (rboss_any a b V (Ha.out.below HBc.out) (Hb.out.below HBc.out))
          have HM : Hid (machL a b = (!decide (a.app = 0) && decide (a.app = b.app) && !(if a.group = 0 then bossS a b else tabS a b))) := Lib.hid rfl
          obtain ⟨L3, hL3⟩ : ∃ L, L = machL a b := ⟨_, rfl⟩
          rw [← hL3] at hP HM
          clear hL3 hA hB HBc
          go_upto_region 9 with fail
          go_cut [9] (fun c wx => c = .bool (!tabS a b) ∧ V = wx)
          case first =>
            have HT9 : Hid (tabS a b = (decide (a.lo = b.lo) && decide (a.hi = b.hi) && decide (a.ep = b.ep) && decide (a.fr = b.fr))) := Lib.hid rfl
            clear x1 x11 x16 x17 x18 y11 y16 y17 y18 KB HM
            by_cases e1 : a.lo = b.lo
            case neg =>
              have hRf : Hid (tabS a b = false) := Lib.hid (by rw [HT9.out]; simp [e1])
              obtain ⟨t3, t4⟩ := str_ne e1
              go_wp2_with fail
              go_meet
              exact ⟨by rw [hRf.out]; rfl, rfl⟩
            by_cases e2 : a.hi = b.hi
            case neg =>
              have hRf : Hid (tabS a b = false) := Lib.hid (by rw [HT9.out]; simp [e2])
              obtain ⟨t3, t4⟩ := str_ne e2
              rw [← e1] at y12
              clear e1
              go_wp2_with fail
              go_meet
              exact ⟨by rw [hRf.out]; rfl, rfl⟩
            have HT8 : Hid (tabS a b = (decide (a.ep = b.ep) && decide (a.fr = b.fr))) := Lib.hid (by rw [HT9.out]; simp [e1, e2])
            rw [← e1] at y12
            rw [← e2] at y13
            clear e1 e2 HT9
            by_cases e3 : a.ep = b.ep
            case neg =>
              have hRf : Hid (tabS a b = false) := Lib.hid (by rw [HT8.out]; simp [e3])
              have t3 : (a.ep == b.ep) = false := by simpa using e3
              go_wp2_with fail
              go_meet
              exact ⟨by rw [hRf.out]; rfl, rfl⟩
            have HT7 : Hid (tabS a b = (decide (a.fr = b.fr))) := Lib.hid (by rw [HT8.out]; simp [e3])
            rw [← e3] at y14
            clear e3 HT8
            obtain ⟨f1, hf1⟩ : ∃ f, f = a.fr := ⟨_, rfl⟩
            obtain ⟨f2, hf2⟩ : ∃ f, f = b.fr := ⟨_, rfl⟩
            rw [← hf1] at x15 HT7
            rw [← hf2] at y15 HT7
            clear hf1 hf2
            cases f1 <;> cases f2
            all_goals
              go_wp2_with fail
              go_meet
              exact ⟨by rw [HT7.out]; rfl, rfl⟩
          case rest =>
            obtain ⟨rfl, rfl⟩ := hcut
            clear x12 x13 x14 x15 y12 y13 y14 y15
            go_upto_if 59 with fail
            go_cut [9] (fun c wx => c = .bool (!(if a.group = 0 then bossS a b else tabS a b)) ∧ Hid (Below V.heap.size V wx))
            case first =>
              by_cases hg0 : a.group = 0
              · have t2 : (a.group == 0) = true := by simpa using hg0
                obtain ⟨M, hM⟩ : ∃ M, M = bossS a b := ⟨_, rfl⟩
                have e9 : Hid ((if a.group = 0 then bossS a b else tabS a b) = M) := Lib.hid (by rw [if_pos hg0, hM])
                rw [← hM] at KB
                clear hg0 hM
                go_wp2_with (go_at_call 53; refine KB.out.mono ?_; rintro e w5 ⟨rfl, hb5⟩; have HB5 := Lib.hid hb5; clear hb5)
                go_meet
                exact ⟨by rw [e9.out], HB5⟩
              · have t2 : (a.group == 0) = false := by simpa using hg0
                have e9 : Hid ((if a.group = 0 then bossS a b else tabS a b) = tabS a b) := Lib.hid (if_neg hg0)
                clear hg0
                go_wp2_with fail
                go_meet
                exact ⟨by rw [e9.out], Lib.hid (Below.refl _ _)⟩
            case rest =>
              obtain ⟨rfl, HB6⟩ := hcut
              have x11 := (HB6.out.cell (p := ⟨w.heap.size, 11, none⟩) hpl).trans x11
              have y11 := (HB6.out.cell (p := ⟨q, 11, none⟩) hql).trans y11
              have HT6 := Lib.hid (HT5.out.below HB6.out)
              clear HB6 KB HT5 x1 x16 x17 x18 y16 y17 y18
              obtain ⟨M, hM⟩ : ∃ M, M = (if a.group = 0 then bossS a b else tabS a b) := ⟨_, rfl⟩
              rw [← hM] at HM ⊢
              clear hM
              go_upto_region 12 with fail
              go_cut [78] (fun c wx => c = .bool L3 ∧ wc = wx)
              case first =>
                by_cases h1 : a.app = 0
                · have t2 : decide ((0 : Int) < a.app) = false := by simp [h1]
                  have hL : Hid (L3 = false) := Lib.hid (by rw [HM.out]; simp [h1])
                  clear h1
                  go_wp2_with fail
                  go_meet
                  exact ⟨by rw [hL.out], rfl⟩
                have t2 : decide ((0 : Int) < a.app) = true := by have := Ha0.out; simp; omega
                by_cases h2 : a.app = b.app
                case neg =>
                  have t3 : (a.app == b.app) = false := by simpa using h2
                  have hL : Hid (L3 = false) := Lib.hid (by rw [HM.out]; simp [h2])
                  clear h1 h2
                  go_wp2_with fail
                  go_meet
                  exact ⟨by rw [hL.out], rfl⟩
                have t3 : (a.app == b.app) = true := by simpa using h2
                have hL : Hid (L3 = !M) := Lib.hid (by rw [HM.out]; simp [← h2, h1])
                clear h1 h2
                cases M
                all_goals
                  go_wp2_with fail
                  go_meet
                  exact ⟨by rw [hL.out]; rfl, rfl⟩
              case rest =>
                obtain ⟨rfl, rfl⟩ := hcut
                clear x11 y11
                go_upto_if 78 with fail
                have hzz := Nat.le_trans H0W.out.size HT6.out.grown.size
                have hls : (addF L2 (addF L1 (addF L0 fs (11, k)) (4, k)) (6, k)).length ≤ 100010 := by have := Hlen.out; omega
                have Hlen2 : Hid ((addF L3 (addF L2 (addF L1 (addF L0 fs (11, k)) (4, k)) (6, k)) (9, k)).length ≤ fs.length + 4) := Lib.hid (by have := Hlen.out; have := (addF_len L3 (addF L2 (addF L1 (addF L0 fs (11, k)) (4, k)) (6, k)) (9, k)).2; omega)
                go_cut [0] (fun o wx => Hid (Tell W wx w0.heap.size v o (addF L3 (addF L2 (addF L1 (addF L0 fs (11, k)) (4, k)) (6, k)) (9, k))))
                case first =>
                  cases L3
                  · go_wp2_with fail
                    go_meet
                    exact HT6
                  · go_wp2_with (at_builtin; refine wpList_append_at _ rfl _ _ 24 rfl w0.heap.size 65 i0 _ 2 16 Try.underlying24 Hi.out iz0 iz1 iz2 rfl (by decide) u0 _ _ rfl (Row.alloc HT6.out.row _) rfl (fault_one _ _ (9, k) _ rfl) (by omega) (by unfold maxLen; omega) (by rw [World.size_alloc]; omega) ?_; intro v7 w7 hr7 hg7 ho7; have HR7 := Lib.hid hr7; have HG7 := Lib.hid hg7; have HO7 := Lib.hid ho7; clear hr7 hg7 ho7)
                    go_meet
                    exact Lib.hid (Tell.step HT6.out HR7.out HG7.out HO7.out)
                case rest =>
                  have HT7 := hcut; clear hcut
                  clear hls hzz Hlen
                  have Hlen := Hlen2
                  clear Hlen2
                  go_wp2_with fail
                  go_returns
                  exact ⟨u0, rfl, by rw [hP.out]; exact Tell.trans ((Tell.refl HR.out).below Hbw.out) HT7.out⟩
end Go.Proofs.Yteibnignjghedaa
