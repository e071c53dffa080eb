/-
  What is wrong with what replicas show, as the document has it: the walk of acreageref32.Check.
-/
import Derived.Test.YteibnignjghedaaAudRP
import Derived.Test.YteibnignjghedaaAudRT
import Derived.Test.YteibnignjghedaaAudR
import Derived.Test.YteibnignjghedaaRefKeysW
namespace Go.Proofs.Yteibnignjghedaa
open Go.RowKit Go.Sort

/-- three rows of a call's own, apart: faults, ranges, places -/
structure Trio (B : Nat) (V : World) (v rv tv : Value) (fs : List (Int × Int)) (rs : List (ByteArray × ByteArray)) (cs : List LocI) : Prop where
  rowv : Row V B 65 2 v fs.length (fs.map faultE).flatten
  rowr : Row V B 33 2 rv rs.length (rs.map rgE).flatten
  rowt : Row V B 37 5 tv cs.length (cs.map LocI.l).flatten
  vr : ∀ q, v.ownBlock = some q → rv.ownBlock ≠ some q
  vt : ∀ q, v.ownBlock = some q → tv.ownBlock ≠ some q
  rt : ∀ q, rv.ownBlock = some q → tv.ownBlock ≠ some q
section
variable {B : Nat} {V V' : World} {v rv tv v' : Value} {fs : List (Int × Int)} {rs : List (ByteArray × ByteArray)} {cs : List LocI}
theorem Trio.below (h : Trio B V v rv tv fs rs cs) (hb : Below V.heap.size V V') : Trio B V' v rv tv fs rs cs := ⟨Row.below h.rowv hb, Row.below h.rowr hb, Row.below h.rowt hb, h.vr, h.vt, h.rt⟩
theorem new_apart {u u' x : Value} {T : TypeId} {c : Array Value} {es size n : Nat} {xs : List Value} (hx : Row V B es size x n xs) (ha : ∀ q, u.ownBlock = some q → x.ownBlock ≠ some q) (ho : u'.ownBlock = u.ownBlock ∨ u'.ownBlock = some (V.alloc (.cells c T)).heap.size) : ∀ q, u'.ownBlock = some q → x.ownBlock ≠ some q := fun q hq hq2 => by
  rcases ho with e | e
  · exact ha q (e ▸ hq) hq2
  · rw [e, World.size_alloc] at hq
    cases hq
    have := (Row.lt hx _ hq2).2
    omega
theorem Trio.tell {f : Int × Int} {T : TypeId} {c : Array Value} (h : Trio B V v rv tv fs rs cs) (hr : Row V' B 65 2 v' (fs.length + 1) ((fs.map faultE).flatten ++ ([f].map faultE).flatten)) (hg : (V.alloc (.cells c T)).grownBy V' v.ownBlock) (ho : v'.ownBlock = v.ownBlock ∨ v'.ownBlock = some (V.alloc (.cells c T)).heap.size) :
    Trio B V' v' rv tv (fs ++ [f]) rs cs :=
  ⟨by rw [List.length_append, List.map_append, List.flatten_append]; exact hr, Row.keptBy (Row.alloc h.rowr _) hg h.vr, Row.keptBy (Row.alloc h.rowt _) hg h.vt, new_apart h.rowr h.vr ho, new_apart h.rowt h.vt ho, h.rt⟩
theorem Trio.range {r : ByteArray × ByteArray} {T : TypeId} {c : Array Value} (h : Trio B V v rv tv fs rs cs) (hr : Row V' B 33 2 v' (rs.length + 1) ((rs.map rgE).flatten ++ ([r].map rgE).flatten)) (hg : (V.alloc (.cells c T)).grownBy V' rv.ownBlock) (ho : v'.ownBlock = rv.ownBlock ∨ v'.ownBlock = some (V.alloc (.cells c T)).heap.size) :
    Trio B V' v v' tv fs (rs ++ [r]) cs :=
  ⟨Row.keptBy (Row.alloc h.rowv _) hg (fun q h1 h2 => h.vr q h2 h1), by rw [List.length_append, List.map_append, List.flatten_append]; exact hr, Row.keptBy (Row.alloc h.rowt _) hg h.rt, fun q h1 h2 => new_apart h.rowv (fun q h1 h2 => h.vr q h2 h1) ho q h2 h1, h.vt, new_apart h.rowt h.rt ho⟩
end

set_option maxRecDepth 100000 in
set_option maxHeartbeats 16000000 in
theorem racheck_any (ao : Option Addr) (n cap : Nat) (l : List SeenA) (w : World) (h : Seens w ao n cap l) (hok : ∀ s ∈ l, s.Ok) (hwt : ∀ s ∈ l, s.bn * 8 ≤ 140737488355328 ∧ ∀ e ∈ s.es, e.mn * 8 ≤ 140737488355328) (h12 : n ≤ 12) :
    Calls Try.prog 11 #[.slice ao n cap] w fun e w' => ∃ v, e = .returned v ∧ Row w' w.heap.size 65 2 v (checkL l).length ((checkL l).map faultE).flatten ∧ Below w.heap.size w w' := by
  have H := Lib.hid h
  have HW := Lib.hid hwt
  have HOk := Lib.hid hok
  have hc1 := Arr.fits h.arr
  have hc2 := Arr.max h.arr
  unfold maxLen at hc2
  have Hn := Lib.hid h.len
  obtain ⟨i0, hi, iz0, iz1, iz2⟩ := info_parts Try.info_fault
  have Hi := Lib.hid hi
  clear h hwt hok hi
  go_enter Try.func11, Try.ntmps11
  go_wp2
  go_loopw [3, 4] (fun v i V => ∃ (k : Nat) (fa : Option Addr) (fc : Nat), k ≤ n ∧ i = .int .i64 k ∧ v = .slice fa (argsN l k).length fc ∧ Hid (Row V w.heap.size 65 2 (.slice fa (argsN l k).length fc) (argsN l k).length ((argsN l k).map faultE).flatten) ∧ Hid (Below w.heap.size w V)) (fun _ i _ => n - (intOf i).toNat)
  case atStart => exact ⟨0, none, 0, by omega, rfl, rfl, Lib.hid (Row.nil _ _ _ _), Lib.hid (Below.refl _ _)⟩
  case round =>
    obtain ⟨k, fa, fc, hk, rfl, rfl, hR, hB⟩ := hrel
    have hal := argsN_len l k
    by_cases hlt : k < n
    · obtain ⟨s, hs⟩ : ∃ s, l[k]? = some s := ⟨_, List.getElem?_eq_getElem (by rw [Hn.out]; omega)⟩
      obtain ⟨b, off, e0, hb, xx⟩ := (H.out.below hB.out).at_ hs
      have HLs := Lib.hid xx.load
      have KM : Hid (Calls Try.prog 27 #[.agg s.l.toArray] wr fun e w' => e = .returned (.bool (mayS s)) ∧ Below wr.heap.size wr w') := Lib.hid (rmay_any32 s wr (SeenA.In.below (H.out.ins s (List.mem_of_getElem? hs)) hB.out) (HOk.out s (List.mem_of_getElem? hs)))
      have HA := Lib.hid (argsN_succ hs)
      obtain ⟨M, hM⟩ : ∃ M, M = mayS s := ⟨_, rfl⟩
      rw [← hM] at KM HA
      obtain ⟨F, hF⟩ : ∃ F, F = argsN l k := ⟨_, rfl⟩
      rw [← hF] at hR HA hal ⊢
      have hzw := hB.out.size
      cases e0
      clear xx hs hM hF
      cases M
      · go_wp2_with (first | (refine wpList_loadK rfl (by rfl) rfl (by exact HLs.out) ?_; simp only [Act.put, List.setIfInBounds_toArray, List.set_cons_succ, List.set_cons_zero]) | (go_at_call 27; refine KM.out.mono ?_; rintro e w5 ⟨rfl, hb5⟩; have HB5 := Lib.hid hb5; have hz5 := hb5.size; clear hb5) | (at_builtin; refine wpList_append_at _ rfl _ _ 24 rfl w.heap.size 65 i0 _ 2 16 Try.underlying24 Hi.out iz0 iz1 iz2 rfl (by decide) (.slice fa F.length fc) _ _ rfl (Row.alloc (Row.below hR.out HB5.out) _) rfl (fault_one _ _ (2, (k : Int)) _ rfl) (by omega) (by unfold maxLen; omega) (by rw [World.size_alloc]; omega) ?_; intro v7 w7 hr7 hg7 ho7; obtain ⟨a7, k7, rfl⟩ := row_slice hr7; have HT7 := Lib.hid (Tell.step ((Tell.refl hR.out).below HB5.out) hr7 hg7 ho7); clear hr7 hg7 ho7))
        exact ⟨⟨k + 1, a7, k7, by omega, by go_num, by rw [HA.out]; simp [addF], Lib.hid (by rw [HA.out]; have := HT7.out.row; simpa [addF] using this), Lib.hid (HT7.out.bel hB.out (fun q hq => (Row.lt hR.out q hq).1))⟩, by simp [intOf]; omega⟩
      · go_wp2_with (first | (refine wpList_loadK rfl (by rfl) rfl (by exact HLs.out) ?_; simp only [Act.put, List.setIfInBounds_toArray, List.set_cons_succ, List.set_cons_zero]) | (go_at_call 27; refine KM.out.mono ?_; rintro e w5 ⟨rfl, hb5⟩; have HB5 := Lib.hid hb5; clear hb5))
        exact ⟨⟨k + 1, fa, fc, by omega, by go_num, by rw [HA.out]; rfl, Lib.hid (by rw [HA.out]; exact Row.below hR.out HB5.out), Lib.hid (hB.out.trans (HB5.out.mono hzw))⟩, by simp [intOf]; omega⟩
    · obtain rfl : k = n := by omega
      obtain ⟨m, hm⟩ : ∃ m, m = (argsN l k).length := ⟨_, rfl⟩
      rw [← hm] at hR ⊢
      have Hm := Lib.hid hm
      have Hkl : Hid (k = l.length) := Lib.hid (by rw [Hn.out])
      clear hm hal
      by_cases hnil : argsN l k = []
      case neg =>
        have hm0 : 0 < m := by rw [Hm.out]; exact List.length_pos_iff.2 hnil
        have t1 : decide (0 < m) = true := by simpa using hm0
        have t2 : decide ((0 : Int) < (m : Int)) = true := by simpa using hm0
        have hch : Hid (checkL l = argsN l k) := Lib.hid (by rw [checkL, ← Hkl.out, if_neg hnil])
        clear hnil
        go_wp2_with fail
        go_returns
        exact ⟨_, rfl, by rw [hch.out, ← Hm.out]; exact hR.out, hB.out⟩
      have hm0 : m = 0 := by rw [Hm.out, hnil]; rfl
      subst hm0
      have HR2 : Hid (Row wr w.heap.size 65 2 (.slice fa 0 fc) 0 []) := Lib.hid (by have := hR.out; rw [hnil] at this; exact this)
      have Hmay := Lib.hid (args_nil hnil)
      have Hch : Hid (checkL l = endF (tabsL l) (meetsN (tabsL l) (pairsN l k) (tabsL l).length)) := Lib.hid (by rw [checkL, ← Hkl.out, if_pos hnil])
      have HB2 := hB
      clear hnil hR hB Hm
      go_wp2
      go_loopw [3, 5] (fun v i V => ∃ (k2 : Nat) (fa : Option Addr) (fc : Nat), k2 ≤ k ∧ i = .int .i64 k2 ∧ v = .slice fa (pairsN l k2).length fc ∧ Hid (Row V w.heap.size 65 2 (.slice fa (pairsN l k2).length fc) (pairsN l k2).length ((pairsN l k2).map faultE).flatten) ∧ Hid (Below w.heap.size w V)) (fun _ i _ => k - (intOf i).toNat)
      case atStart => exact ⟨0, fa, fc, by omega, rfl, rfl, HR2, HB2⟩
      case round =>
        obtain ⟨k2, fa, fc, hk2, rfl, rfl, hR, hB⟩ := hrel
        clear HR2 HB2
        have hpl := pairsN_len l 12 k2 (by omega)
        by_cases hlt2 : k2 < k
        · obtain ⟨s, hs⟩ : ∃ s, l[k2]? = some s := ⟨_, List.getElem?_eq_getElem (by rw [Hn.out]; omega)⟩
          have HP := Lib.hid (pairsN_succ hs)
          obtain ⟨F, hF⟩ : ∃ F, F = pairsN l k2 := ⟨_, rfl⟩
          rw [← hF] at hR HP hpl ⊢
          have Hs := Lib.hid hs
          have HR0 := hR
          have HB0 := hB
          clear hF hs hR hB
          go_wp2
          go_loopw [3, 6] (fun v i V => ∃ (i2 : Nat) (fa : Option Addr) (fc : Nat), i2 ≤ k2 ∧ i = .int .i64 i2 ∧ v = .slice fa (rowN l s k2 F i2).length fc ∧ Hid (Row V w.heap.size 65 2 (.slice fa (rowN l s k2 F i2).length fc) (rowN l s k2 F i2).length ((rowN l s k2 F i2).map faultE).flatten) ∧ Hid (Below w.heap.size w V)) (fun _ i _ => k2 - (intOf i).toNat)
          case atStart => exact ⟨0, fa, fc, by omega, rfl, rfl, HR0, HB0⟩
          case round =>
            obtain ⟨i2, fa, fc, hi2, rfl, rfl, hR, hB⟩ := hrel
            clear HR0 HB0
            have hrl := rowN_len l s k2 F i2
            by_cases hlt3 : i2 < k2
            · obtain ⟨a, ha⟩ : ∃ a, l[i2]? = some a := ⟨_, List.getElem?_eq_getElem (by rw [Hn.out]; omega)⟩
              obtain ⟨b, off, e0, hb, xx⟩ := (H.out.below hB.out).at_ Hs.out
              obtain ⟨b2, off2, e2, hb2, yy⟩ := (H.out.below hB.out).at_ ha
              rw [e0] at e2
              cases e2
              cases e0
              have HLs := Lib.hid (SeenAt.regrown xx)
              have HLa := Lib.hid (SeenAt.regrown yy)
              have HRw := Lib.hid (rowN_succ (b := s) (k := (k2 : Int)) (fs := F) ha)
              obtain ⟨G, hG⟩ : ∃ G, G = rowN l s k2 F i2 := ⟨_, rfl⟩
              rw [← hG] at hR HRw hrl ⊢
              have KP : Hid (∀ w5, Below wr.heap.size wr w5 → Calls Try.prog 28 #[.slice fa G.length fc, .agg a.l.toArray, .agg s.l.toArray, .int .i64 (k2 : Int)] w5 fun e w' => ∃ v', e = .returned v' ∧ Tell w5 w' w.heap.size (.slice fa G.length fc) v' (pairF a s k2 G)) := Lib.hid (fun w5 hw5 => rpair_any w (.slice fa G.length fc) G a s k2 w5 (hB.out.trans (hw5.mono hB.out.size)) (Row.below hR.out hw5) (by omega)
                (H.out.ins a (List.mem_of_getElem? ha)) (H.out.ins s (List.mem_of_getElem? Hs.out)) (HOk.out a (List.mem_of_getElem? ha)) (HOk.out s (List.mem_of_getElem? Hs.out)) (Hmay.out i2 (by omega) a ha) (Hmay.out k2 (by omega) s Hs.out))
              have HbV := hB
              clear xx yy ha hG hB
              go_upto_region 15 with fail
              refine wp_region_below_tail 10 (by kernel_rfl) (by kernel_rfl) (fun hkept => ?_)
              obtain ⟨r0, rf0⟩ := hkept (b) (by go_size); clear hkept
              simp only [List.take_succ_cons, List.take_zero, List.drop_succ_cons, List.drop_zero]
              repeat (any_goals (first | go_big_quiet_skip | (refine wpQuiet_loadR (HLs.out) rfl rfl (by rfl) ?_; simp only [Act.put, List.setIfInBounds_toArray, List.set_cons_succ, List.set_cons_zero]) | (refine wpQuiet_loadR (HLa.out) rfl rfl (by rfl) ?_; simp only [Act.put, List.setIfInBounds_toArray, List.set_cons_succ, List.set_cons_zero]) | go_big_quiet_step (fail) | quiet_step (fail) | (refine wpQuiet_step (fun K hK => ?_); go_simp; split <;> (refine hK _ ?_; clear hK K))))
              all_goals (refine wpQuiet_nil ?_; intro w5 hb; obtain ⟨hB, hS, hk⟩ := after (B := wr.heap.size) (w := wr) (by go_grown) (by go_size) hb; obtain ⟨c0, f0, z0⟩ := hk (b) (by go_size); clear hk hb r0 rf0)
              have HB5 := Lib.hid hB
              clear hB
              go_wp2_with (go_at_call 28; refine (KP.out _ HB5.out).mono ?_; rintro e w6 ⟨v6, rfl, hT6⟩; obtain ⟨a6, k6, rfl⟩ := row_slice hT6.row; have HT6 := Lib.hid hT6; clear hT6)
              refine NoPanic.normal ?_
              go_wp2
              exact ⟨⟨i2 + 1, a6, k6, by omega, by go_num, by rw [HRw.out], Lib.hid (by rw [HRw.out]; exact HT6.out.row), Lib.hid (HT6.out.bel (HbV.out.trans (HB5.out.mono HbV.out.size)) (fun q hq => (Row.lt hR.out q hq).1))⟩, by simp [intOf]; omega⟩
            · obtain rfl : i2 = k2 := by omega
              go_wp2_with fail
              exact ⟨⟨i2 + 1, fa, fc, by omega, by go_num, by rw [HP.out], Lib.hid (by rw [HP.out]; exact hR.out), hB⟩, by simp [intOf]; omega⟩
        · obtain rfl : k2 = k := by omega
          have KT := Lib.hid (rtablets_any ao k2 cap l wr (H.out.below hB.out) HW.out)
          have hFP := hpl
          obtain ⟨FP, hFPd⟩ : ∃ F, F = pairsN l k2 := ⟨_, rfl⟩
          rw [← hFPd] at hR Hch hFP ⊢
          have hzw := hB.out.size
          clear hFPd hpl
          go_wp2_with (go_at_call 15; refine KT.out.mono ?_; rintro e w5 ⟨tv, cs, rfl, hr, _, hS, hb⟩; obtain ⟨ta, tc, rfl⟩ := row_slice hr; have HR5 := Lib.hid hr; have HS := Lib.hid hS; have HB5 := Lib.hid hb; clear hr hS hb)
          have hcl : cs.length ≤ 9 := by have := tabs_len l; rw [← HS.out, List.length_map] at this; exact this
          have HTr : Hid (Trio w.heap.size w5 (.slice fa FP.length fc) (.slice none 0 0) (.slice ta cs.length tc) FP [] cs) := Lib.hid ⟨Row.below hR.out HB5.out, Row.nil _ _ _ _, Row.mono HR5.out hzw, fun q _ h => (by cases h), fun q h1 h2 => (by have := (Row.lt hR.out q h1).2; have := (Row.lt HR5.out q h2).1; omega), fun q h => (by cases h)⟩
          have HBw := Lib.hid (hB.out.trans (HB5.out.mono hzw))
          have HFl := Lib.hid hFP
          clear HR5 HB5 hR hB KT hFP hzw
          go_loopw [3, 8, 9] (fun v rv i V => ∃ (k4 : Nat) (fa : Option Addr) (fc : Nat) (ra : Option Addr) (rc : Nat), k4 ≤ cs.length ∧ i = .int .i64 k4 ∧ v = .slice fa (meetsN (tabsL l) FP k4).length fc ∧ rv = .slice ra ((cs.take k4).map rgC).length rc ∧ Hid (Trio w.heap.size V (.slice fa (meetsN (tabsL l) FP k4).length fc) (.slice ra ((cs.take k4).map rgC).length rc) (.slice ta cs.length tc) (meetsN (tabsL l) FP k4) ((cs.take k4).map rgC) cs) ∧ Hid (Below w.heap.size w V)) (fun _ _ i _ => cs.length - (intOf i).toNat)
          case atStart => exact ⟨0, fa, fc, none, 0, by omega, rfl, rfl, rfl, HTr, HBw⟩
          case round =>
            obtain ⟨k4, fa, fc, ra, rc, hk4, rfl, rfl, rfl, hT, hB⟩ := hrel
            clear HTr HBw
            have hml := meetsN_len (tabsL l) FP 9 k4 (by omega)
            have hzw := hB.out.size
            have hAT := row_arr (by decide) (by rw [List.length_map]) hT.out.rowt (loc_elems cs)
            have hrl : ((cs.take k4).map rgC).length = k4 := by rw [List.length_map, List.length_take]; omega
            have htf := Arr.fits hAT
            have htm := Arr.max hAT
            unfold maxLen at htm
            have HAT := Lib.hid hAT
            have Hrl := Lib.hid hrl
            clear hAT hrl
            by_cases hlt4 : k4 < cs.length
            · obtain ⟨c, hc⟩ : ∃ c, cs[k4]? = some c := ⟨_, List.getElem?_eq_getElem hlt4⟩
              have HMs : Hid (meetsN (tabsL l) FP (k4 + 1) = meetN (tabsL l) c.says k4 (meetsN (tabsL l) FP k4) k4) := Lib.hid (meetsN_succ (by rw [← HS.out, List.getElem?_map, hc]; rfl))
              have Hc := Lib.hid hc
              obtain ⟨FM, hFM⟩ : ∃ F, F = meetsN (tabsL l) FP k4 := ⟨_, rfl⟩
              rw [← hFM] at hT HMs hml ⊢
              obtain ⟨RS, hRS⟩ : ∃ R, R = (cs.take k4).map rgC := ⟨_, rfl⟩
              rw [← hRS] at hT Hrl ⊢
              have HRS : Hid ((cs.take (k4 + 1)).map rgC = RS ++ [(c.lo, c.hi)]) := Lib.hid (by rw [List.take_add_one, hc, List.map_append, hRS]; rfl)
              have hT0 := hT
              have hB0 := hB
              clear hc hFM hRS HAT hT hB
              go_wp2
              go_loopw [3, 10] (fun v i V => ∃ (i5 : Nat) (fa : Option Addr) (fc : Nat), i5 ≤ k4 ∧ i = .int .i64 i5 ∧ v = .slice fa (meetN (tabsL l) c.says k4 FM i5).length fc ∧ Hid (Trio w.heap.size V (.slice fa (meetN (tabsL l) c.says k4 FM i5).length fc) (.slice ra RS.length rc) (.slice ta cs.length tc) (meetN (tabsL l) c.says k4 FM i5) RS cs) ∧ Hid (Below w.heap.size w V)) (fun _ i _ => k4 - (intOf i).toNat)
              case atStart => exact ⟨0, fa, fc, by omega, rfl, rfl, hT0, hB0⟩
              case round =>
                obtain ⟨i5, fa, fc, hi5, rfl, rfl, hT, hB⟩ := hrel
                clear hT0 hB0
                have hnl := meetN_len (tabsL l) c.says k4 FM i5
                have hls : (meetN (tabsL l) c.says k4 FM i5).length ≤ 1000000 := by have := HFl.out; omega
                have hzw := hB.out.size
                have hAT := row_arr (by decide) (by rw [List.length_map]) hT.out.rowt (loc_elems cs)
                obtain ⟨g, off, e0, hg, xx⟩ := Arr.at_ hAT (i := k4) (e := c.l) (by rw [List.getElem?_map, Hc.out]; rfl)
                have x1 : wr.cell? ⟨g, off + k4 * 5 + 1, none⟩ = some (.string c.lo) := xx 1 _ rfl
                have x2 : wr.cell? ⟨g, off + k4 * 5 + 2, none⟩ = some (.string c.hi) := xx 2 _ rfl
                have HAT := Lib.hid hAT
                clear xx hAT
                by_cases hlt5 : i5 < k4
                · obtain ⟨r, hr⟩ : ∃ r, cs[i5]? = some r := ⟨_, List.getElem?_eq_getElem (by omega)⟩
                  obtain ⟨g5, off5, e5, hg5, yy⟩ := Arr.at_ HAT.out (i := i5) (e := r.l) (by rw [List.getElem?_map, hr]; rfl)
                  have HMn : Hid (meetN (tabsL l) c.says k4 FM (i5 + 1) = addF (meetL r.lo.toList r.hi.toList c.lo.toList c.hi.toList) (meetN (tabsL l) c.says k4 FM i5) (8, (k4 : Int))) := Lib.hid (meetN_succ (r := r.says) (by rw [← HS.out, List.getElem?_map, hr]; rfl))
                  rw [e0] at e5
                  cases e5
                  have y1 : wr.cell? ⟨g, off + i5 * 5 + 1, none⟩ = some (.string r.lo) := yy 1 _ rfl
                  have y2 : wr.cell? ⟨g, off + i5 * 5 + 2, none⟩ = some (.string r.hi) := yy 2 _ rfl
                  have KM := Lib.hid (fun V => rmeet_any r.lo r.hi c.lo c.hi V)
                  obtain ⟨M, hM⟩ : ∃ M, M = meetL r.lo.toList r.hi.toList c.lo.toList c.hi.toList := ⟨_, rfl⟩
                  rw [← hM] at KM HMn
                  obtain ⟨FN, hFN⟩ : ∃ F, F = meetN (tabsL l) c.says k4 FM i5 := ⟨_, rfl⟩
                  rw [← hFN] at hT HMn hls hnl ⊢
                  cases e0
                  have HTw := hT
                  have HBw := hB
                  clear yy hr hM hFN hT hB HAT
                  go_upto_region 24 with fail
                  refine wp_region_below (by kernel_rfl) (by kernel_rfl) (fun hkept => ?_)
                  obtain ⟨r0, rf0⟩ := hkept (g) (by go_size); clear hkept
                  repeat (any_goals (first | go_big_quiet_step (first | (go_at_call 29; exact Calls.regrown_of (KM.out _))) | quiet_step (first | (go_at_call 29; exact Calls.regrown_of (KM.out _))) | (refine wpQuiet_step (fun K hK => ?_); go_simp; split <;> (refine hK _ ?_; clear hK K))))
                  all_goals (refine wpQuiet_nil ?_; intro w5 hb; obtain ⟨hB, hS, hk⟩ := after (B := wr.heap.size) (w := wr) (by go_grown) (by go_size) hb; obtain ⟨c0, f0, z0⟩ := hk (g) (by go_size); clear hk hb r0 rf0)
                  have HB5 := Lib.hid hB
                  have hz5 := hB.size
                  have HT5 := Lib.hid (HTw.out.below hB)
                  clear hB
                  cases M
                  · go_wp2_with fail
                    exact ⟨⟨i5 + 1, fa, fc, by omega, by go_num, by rw [HMn.out]; rfl, Lib.hid (by rw [HMn.out]; exact HT5.out), Lib.hid (HBw.out.trans (HB5.out.mono HBw.out.size))⟩, by simp [intOf]; omega⟩
                  · go_wp2_with (at_builtin; refine wpList_append_at _ rfl _ _ 24 rfl w.heap.size 65 i0 _ 2 16 Try.underlying24 Hi.out iz0 iz1 iz2 rfl (by decide) (.slice fa FN.length fc) _ _ rfl (Row.alloc HT5.out.rowv _) rfl (fault_one _ _ (8, (k4 : Int)) _ rfl) (by omega) (by unfold maxLen; omega) (by rw [World.size_alloc]; omega) ?_; intro v7 w7 hr7 hg7 ho7; obtain ⟨a7, k7, rfl⟩ := row_slice hr7; have HT7 := Lib.hid (HT5.out.tell hr7 hg7 ho7); have HB7 := Lib.hid (((HBw.out.trans (HB5.out.mono HBw.out.size)).alloc (by omega) _).grown hg7 (by rw [World.size_alloc]; omega) (fun q hq => (Row.lt HT5.out.rowv q hq).1)); clear hr7 hg7 ho7)
                    exact ⟨⟨i5 + 1, a7, k7, by omega, by go_num, by rw [HMn.out]; simp [addF], Lib.hid (by rw [HMn.out]; simpa [addF] using HT7.out), HB7⟩, by simp [intOf]; omega⟩
                · obtain rfl : i5 = k4 := by omega
                  obtain ⟨i1, hi1, jz0, jz1, jz2⟩ := info_parts Try.info_rg
                  have Hi1 := Lib.hid hi1
                  cases e0
                  clear hi1 HAT
                  go_wp2_with (at_builtin; refine wpList_append_at _ rfl _ _ 72 rfl w.heap.size 33 i1 _ 2 32 Try.underlying72 Hi1.out jz0 jz1 jz2 rfl (by decide) (.slice ra RS.length rc) _ _ rfl (Row.alloc hT.out.rowr _) rfl (rgs_one wr _ (c.lo, c.hi) _ rfl) (by have := Hrl.out; omega) (by have := Hrl.out; unfold maxLen; omega) (by rw [World.size_alloc]; omega) ?_; intro v7 w7 hr7 hg7 ho7; obtain ⟨a7, c7, rfl⟩ := row_slice hr7; have HT7 := Lib.hid (hT.out.range hr7 hg7 ho7); have HB7 := Lib.hid ((hB.out.alloc (by omega) _).grown hg7 (by rw [World.size_alloc]; omega) (fun q hq => (Row.lt hT.out.rowr q hq).1)); clear hr7 hg7 ho7)
                  exact ⟨⟨i5 + 1, fa, fc, a7, c7, by omega, by go_num, by rw [HMs.out], by rw [HRS.out, List.length_append]; rfl, Lib.hid (by rw [HMs.out, HRS.out, List.length_append]; exact HT7.out), HB7⟩, by simp [intOf]; omega⟩
            · obtain rfl : k4 = cs.length := by omega
              have hcn : Hid ((tabsL l).length = cs.length) := Lib.hid (by rw [← HS.out, List.length_map])
              have hE : ((cs.take cs.length).map rgC) = cs.map rgC := by rw [List.take_length]
              rw [hE] at hT Hrl ⊢
              rw [Hrl.out] at hT ⊢
              have hrow := hT.out.rowr
              rw [Hrl.out] at hrow
              have hAR := row_arr (es := (cs.map rgC).map rgE) (by decide) (by rw [List.length_map, List.length_map]) hrow (rgE_elems _)
              have KG := Lib.hid (rgap_of ra cs.length rc (cs.map rgC) wr (by rw [List.length_map]) (by omega) (Rgs.of_arr hAR (by rw [← tabs_rg HS.out]; exact tabs_ok HOk.out)))
              have hgs : gapS (tabsL l) = (gapL (rgL (cs.map rgC))).isSome := by rw [gapS, tabs_rg HS.out]
              obtain ⟨A, U, bb, hv, hbb⟩ : ∃ A U bb, gapV (gapL (rgL (cs.map rgC))) = .tuple #[.agg #[.string A, .string U], .bool bb] ∧ gapS (tabsL l) = bb := by
                rw [hgs]
                cases gapL (rgL (cs.map rgC)) with
                | none => exact ⟨_, _, _, rfl, rfl⟩
                | some r => exact ⟨_, _, _, rfl, rfl⟩
              rw [hv] at KG
              have hch : Hid (checkL l = if cs.length = 0 then meetsN (tabsL l) FP cs.length else addF bb (meetsN (tabsL l) FP cs.length) (5, 0)) := Lib.hid (by rw [Hch.out, endF, hcn.out, hbb])
              have hls : (meetsN (tabsL l) FP cs.length).length ≤ 1000000 := by have := HFl.out; omega
              obtain ⟨FN, hFN⟩ : ∃ F, F = meetsN (tabsL l) FP cs.length := ⟨_, rfl⟩
              rw [← hFN] at hT hls hml hch ⊢
              clear hE hAR hgs hv hbb hFN hrow
              go_upto_region 28 with (go_at_call 30; refine KG.out.mono ?_; rintro e w5 ⟨rfl, hb5⟩; have HB5 := Lib.hid hb5; clear hb5)
              obtain ⟨w6, hw6⟩ : ∃ V, V = w5.alloc (.cells #[.string A, .string U] 33) := ⟨_, rfl⟩
              have hb6 : Below wr.heap.size wr w6 := by rw [hw6]; exact HB5.out.alloc HB5.out.size _
              rw [← hw6]
              have HT6 := Lib.hid (hT.out.below hb6)
              have HB6 := Lib.hid (hB.out.trans (hb6.mono hB.out.size))
              have hz6 := HB6.out.size
              clear hw6 hb6 hT hB HB5
              by_cases hc0 : cs.length = 0
              · have t1 : decide (0 < cs.length) = false := by simpa using hc0
                have t2 : decide ((0 : Int) < (cs.length : Int)) = false := decide_eq_false (by omega)
                have hch2 : Hid (checkL l = FN) := Lib.hid (by rw [hch.out, if_pos hc0])
                clear hc0
                go_wp2_with fail
                go_returns
                exact ⟨_, rfl, by rw [hch2.out]; exact HT6.out.rowv, HB6.out⟩
              · have hpos : 0 < cs.length := by omega
                have t1 : decide (0 < cs.length) = true := by simpa using hpos
                have t2 : decide ((0 : Int) < (cs.length : Int)) = true := by simpa using hpos
                have hch2 : Hid (checkL l = addF bb FN (5, 0)) := Lib.hid (by rw [hch.out, if_neg hc0])
                clear hc0
                cases bb
                · go_wp2_with fail
                  go_returns
                  exact ⟨_, rfl, by rw [hch2.out]; exact HT6.out.rowv, HB6.out⟩
                · go_wp2_with (at_builtin; refine wpList_append_at _ rfl _ _ 24 rfl w.heap.size 65 i0 _ 2 16 Try.underlying24 Hi.out iz0 iz1 iz2 rfl (by decide) (.slice fa FN.length fc) _ _ rfl (Row.alloc HT6.out.rowv _) rfl (fault_one _ _ (5, 0) _ rfl) (by omega) (by unfold maxLen; omega) (by rw [World.size_alloc]; omega) ?_; intro v7 w7 hr7 hg7 ho7; obtain ⟨a7, k7, rfl⟩ := row_slice hr7; have HT7 := Lib.hid (HT6.out.tell hr7 hg7 ho7); have HB7 := Lib.hid ((HB6.out.alloc (by omega) _).grown hg7 (by rw [World.size_alloc]; omega) (fun q hq => (Row.lt HT6.out.rowv q hq).1)); clear hr7 hg7 ho7)
                  go_returns
                  exact ⟨_, rfl, by rw [hch2.out]; exact HT7.out.rowv, HB7.out⟩
end Go.Proofs.Yteibnignjghedaa
