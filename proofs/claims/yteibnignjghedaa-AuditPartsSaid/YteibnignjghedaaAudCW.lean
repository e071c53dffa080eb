/-
  What is wrong with what replicas show: the walk of audit.Check.
-/
import Derived.Test.YteibnignjghedaaAudCP
import Derived.Test.YteibnignjghedaaMeetW
import Derived.Deep.CutRange
namespace Go.Proofs.Yteibnignjghedaa
open Go.RowKit Go.Sort

set_option maxRecDepth 100000 in
set_option maxHeartbeats 16000000 in
theorem acheck_any (ao : Option Addr) (n cap : Nat) (l : List SeenA) (w : World) (h : Seens w ao n cap l) (hok : ∀ s ∈ l, s.Ok) (hwt : ∀ s ∈ l, s.bn * 8 ≤ 140737488355328 ∧ ∀ e ∈ s.es, e.mn * 8 ≤ 140737488355328) (h12 : n ≤ 12) :
    Calls Try.prog 9 #[.slice ao n cap] w fun e w' => ∃ v, e = .returned v ∧ Row w' w.heap.size 65 2 v (checkL l).length ((checkL l).map faultE).flatten ∧ Below w.heap.size w w' := by
  have H := Lib.hid h
  have HW := Lib.hid hwt
  have HOk := Lib.hid hok
  have hc1 := Arr.fits h.arr
  have hc2 := Arr.max h.arr
  unfold maxLen at hc2
  have Hn := Lib.hid h.len
  clear h hwt hok
  go_enter Try.func9, Try.ntmps9
  go_upto_region 2 with fail
  obtain ⟨W0, hW0⟩ : ∃ W0 : World, W0 = w.alloc (.cells #[.slice none 0 0] 24) := ⟨_, rfl⟩
  have hF0 := FaultsAt.start w
  rw [← hW0] at hF0 ⊢
  have HF := Lib.hid hF0
  clear hW0 hF0
  go_wp2
  go_loopw [22] (fun i wr => ∃ k : Nat, k ≤ n ∧ i = .int .i64 k ∧ Hid (FaultsAt w wr (fun _ => False) (argsN l k))) (fun i _ => n - (intOf i).toNat)
  case atStart => exact ⟨0, by omega, rfl, HF⟩
  case round =>
    obtain ⟨k, hk, rfl, hF⟩ := hrel
    clear HF
    by_cases hlt : k < n
    · obtain ⟨s, hs⟩ : ∃ s, l[k]? = some s := ⟨_, List.getElem?_eq_getElem (by rw [Hn.out]; omega)⟩
      obtain ⟨b, off, e0, hb, xx⟩ := (H.out.below hF.out.bel).at_ hs
      have HLs := Lib.hid xx.load
      have HsI := Lib.hid (SeenA.In.below (H.out.ins s (List.mem_of_getElem? hs)) hF.out.bel)
      have Hso := Lib.hid (HOk.out s (List.mem_of_getElem? hs))
      have HA := Lib.hid (argsN_succ hs)
      have hal := argsN_len l k
      cases e0
      clear xx hs
      go_upto_region 6 with (first | (refine wpList_loadK rfl (by rfl) rfl (by exact HLs.out) ?_; simp only [Act.put, List.setIfInBounds_toArray, List.set_cons_succ, List.set_cons_zero]) | (refine wpList_storeN rfl rfl rfl rfl (by first | rfl | simp) (by kernel_rfl) (by rfl) (SeenA.all _) ?_; simp only [Act.put, List.setIfInBounds_toArray, List.set_cons_succ, List.set_cons_zero]))
      obtain ⟨wc, hwc⟩ : ∃ wc, wc = wr.alloc (.cells s.l.toArray 49) := ⟨_, rfl⟩
      obtain ⟨p, hp⟩ : ∃ p, p = wr.heap.size := ⟨_, rfl⟩
      have hE := SeenAt.new wr s 49
      have hBc : Below wr.heap.size wr wc := by rw [hwc]; exact (Below.refl _ _).alloc (Nat.le_refl _) _
      rw [← hwc, ← hp] at hE ⊢
      clear hwc
      have HLp := Lib.hid hE.load
      have KM : Hid (Calls Try.prog 19 #[.agg s.l.toArray] wc fun e w' => e = .returned (.bool (mayS s)) ∧ Below wc.heap.size wc w') := Lib.hid (may_any s wc (HsI.out.below hBc) Hso.out)
      obtain ⟨M, hM⟩ : ∃ M, M = mayS s := ⟨_, rfl⟩
      rw [← hM] at KM HA
      have hFc : FaultsAt w wc (fun _ => False) (argsN l k) := hF.out.below hBc (fun _ h => h.elim)
      have HFc := Lib.hid hFc
      clear hE hBc hp hM hFc
      go_wp2_with (first | (refine wpList_loadK rfl (by rfl) rfl (by exact HLp.out) ?_; simp only [Act.put, List.setIfInBounds_toArray, List.set_cons_succ, List.set_cons_zero]) | (go_at_call 19; refine KM.out.mono ?_; rintro e w5 ⟨rfl, hb5⟩; have HF5 := Lib.hid (HFc.out.below (S' := fun _ => False) hb5 (fun _ h => h.elim)); clear hb5) | (go_at_call 18; refine (wrong_fa HF5.out _ _ _ (by omega)).mono ?_; rintro e w6 ⟨rfl, hF6, _⟩; have HF6 := Lib.hid hF6; clear hF6))
      exact ⟨⟨k + 1, by omega, by go_num, Lib.hid (by rw [HA.out]; exact HF6.out)⟩, by simp [intOf]; omega⟩
    · obtain rfl : k = n := by omega
      obtain ⟨⟨v, hO, _⟩, _, hbel⟩ := hF.out
      obtain ⟨m, hm⟩ : ∃ m, m = (argsN l k).length := ⟨_, rfl⟩
      obtain ⟨a1, k1, hv⟩ := row_slice hO.row
      rw [← hm] at hv
      subst hv
      have c0 := hO.c0
      have HO := Lib.hid hO
      have Hm := Lib.hid hm
      have Hkl : Hid (k = l.length) := Lib.hid (by rw [Hn.out])
      have Hbel := Lib.hid hbel
      clear hO hm hbel
      by_cases hnil : argsN l k = []
      case neg =>
        have hm0 : 0 < m := by rw [Hm.out]; exact List.length_pos_iff.2 hnil
        have t1 : decide (0 < m) = true := by simpa using hm0
        have t2 : decide ((0 : Int) < (m : Int)) = true := by simpa using hm0
        have hch : Hid (checkL l = argsN l k) := Lib.hid (by rw [checkL, ← Hkl.out, if_neg hnil])
        clear hnil
        go_wp2_with fail
        go_returns
        exact ⟨_, rfl, by rw [hch.out]; exact HO.out.row, Hbel.out⟩
      have hm0 : m = 0 := by rw [Hm.out, hnil]; rfl
      subst hm0
      have HF2 : Hid (FaultsAt w wr (fun _ => False) []) := Lib.hid (by rw [← hnil]; exact hF.out)
      have Hmay := Lib.hid (args_nil hnil)
      have Hch : Hid (checkL l = endF (tabsL l) (meetsN (tabsL l) (pairsN l k) (tabsL l).length)) := Lib.hid (by rw [checkL, ← Hkl.out, if_pos hnil])
      clear hnil hF
      go_wp2
      clear c0 HO Hm Hbel
      go_loopw [40] (fun i V => ∃ k2 : Nat, k2 ≤ k ∧ i = .int .i64 k2 ∧ Hid (FaultsAt w V (fun _ => False) (pairsN l k2))) (fun i _ => k - (intOf i).toNat)
      case atStart => exact ⟨0, by omega, rfl, HF2⟩
      case round =>
        obtain ⟨k2, hk2, rfl, hF⟩ := hrel
        clear HF2
        have hpl := pairsN_len l 12 k2 (by omega)
        by_cases hlt2 : k2 < k
        · obtain ⟨s, hs⟩ : ∃ s, l[k2]? = some s := ⟨_, List.getElem?_eq_getElem (by rw [Hn.out]; omega)⟩
          obtain ⟨b, off, e0, hb, xx⟩ := (H.out.below hF.out.bel).at_ hs
          have HLs := Lib.hid xx.load
          have HsI := Lib.hid (H.out.ins s (List.mem_of_getElem? hs))
          have Hso := Lib.hid (HOk.out s (List.mem_of_getElem? hs))
          have HP := Lib.hid (pairsN_succ hs)
          cases e0
          clear xx hs
          go_upto_region 13 with (first | (refine wpList_loadK rfl (by rfl) rfl (by exact HLs.out) ?_; simp only [Act.put, List.setIfInBounds_toArray, List.set_cons_succ, List.set_cons_zero]) | (refine wpList_storeN rfl rfl rfl rfl (by first | rfl | simp) (by kernel_rfl) (by rfl) (SeenA.all _) ?_; simp only [Act.put, List.setIfInBounds_toArray, List.set_cons_succ, List.set_cons_zero]))
          obtain ⟨wc, hwc⟩ : ∃ wc, wc = wr.alloc (.cells s.l.toArray 49) := ⟨_, rfl⟩
          obtain ⟨p, hp⟩ : ∃ p, p = wr.heap.size := ⟨_, rfl⟩
          have hE := SeenAt.new wr s 49
          have hBc : Below wr.heap.size wr wc := by rw [hwc]; exact (Below.refl _ _).alloc (Nat.le_refl _) _
          have hzc : wc.heap.size = wr.heap.size + 1 := by rw [hwc]; simp
          rw [← hwc, ← hp] at hE ⊢
          have HE := Lib.hid hE
          have HFc : Hid (FaultsAt w wc (fun q => q = p) (pairsN l k2)) := Lib.hid (hF.out.below hBc (fun q h => .inr (by omega)))
          clear hwc hE hBc hp hzc hF
          go_wp2
          obtain ⟨F, hFd⟩ : ∃ F, F = pairsN l k2 := ⟨_, rfl⟩
          rw [← hFd] at HFc HP hpl
          have HFd := Lib.hid hFd
          clear hFd
          go_loopw [49] (fun i V => ∃ i2 : Nat, i2 ≤ k2 ∧ i = .int .i64 i2 ∧ Hid (FaultsAt w V (fun q => q = p) (rowN l s k2 F i2)) ∧ Hid (SeenAt V p 0 s)) (fun i _ => k2 - (intOf i).toNat)
          case atStart => exact ⟨0, by omega, rfl, HFc, HE⟩
          case round =>
            obtain ⟨i2, hi2, rfl, hF, hS⟩ := hrel
            clear HFc HE
            have hrl := rowN_len l s k2 F i2
            by_cases hlt3 : i2 < k2
            · obtain ⟨a, ha⟩ : ∃ a, l[i2]? = some a := ⟨_, List.getElem?_eq_getElem (by rw [Hn.out]; omega)⟩
              obtain ⟨b3, off3, e3, hb3, xx⟩ := (H.out.below hF.out.bel).at_ ha
              cases e3
              have HLa := Lib.hid xx.load
              have HaI := Lib.hid (H.out.ins a (List.mem_of_getElem? ha))
              have Hao := Lib.hid (HOk.out a (List.mem_of_getElem? ha))
              have HRw := Lib.hid (rowN_succ (b := s) (k := (k2 : Int)) (fs := F) ha)
              clear xx ha
              go_upto_region 16 with (first | (refine wpList_loadK rfl (by rfl) rfl (by exact HLa.out) ?_; simp only [Act.put, List.setIfInBounds_toArray, List.set_cons_succ, List.set_cons_zero]) | (refine wpList_storeN rfl rfl rfl rfl (by first | rfl | simp) (by kernel_rfl) (by rfl) (SeenA.all _) ?_; simp only [Act.put, List.setIfInBounds_toArray, List.set_cons_succ, List.set_cons_zero]))
              obtain ⟨wd, hwd⟩ : ∃ wd, wd = wr.alloc (.cells a.l.toArray 49) := ⟨_, rfl⟩
              obtain ⟨p2, hp2⟩ : ∃ p, p = wr.heap.size := ⟨_, rfl⟩
              have hA := SeenAt.new wr a 49
              have hBd : Below wr.heap.size wr wd := by rw [hwd]; exact (Below.refl _ _).alloc (Nat.le_refl _) _
              have hzd : wd.heap.size = wr.heap.size + 1 := by rw [hwd]; simp
              have hB : SeenAt wd p 0 s := hS.out.below hBd
              rw [← hwd, ← hp2] at hA ⊢
              obtain ⟨G, hG⟩ : ∃ G, G = rowN l s k2 F i2 := ⟨_, rfl⟩
              rw [← hG] at hF HRw hrl
              have HFd2 : Hid (FaultsAt w wd (fun q => q = p ∨ q = p2) G) := Lib.hid (hF.out.below hBd (fun q h => h.elim .inl (fun h => .inr (by omega))))
              have HA0 := Lib.hid hA
              have HB0 := Lib.hid hB
              have x1 := hA.at_ 1 _ rfl
              have x3 := hA.at_ 3 _ rfl
              have x4 := hA.at_ 4 _ rfl
              have y1 := hB.at_ 1 _ rfl
              have y3 := hB.at_ 3 _ rfl
              have y4 := hB.at_ 4 _ rfl
              simp only [Nat.zero_add] at x1 x3 x4 y1 y3 y4
              clear hwd hA hB hBd hp2 hzd hF hS hG
              by_cases hg : a.group = s.group
              case neg =>
                have t1 : (a.group != s.group) = true := by simpa using hg
                have hP : Hid (pairF a s k2 G = G) := Lib.hid (by rw [pairF, if_neg hg])
                clear hg
                go_wp2_with fail
                exact ⟨⟨i2 + 1, by omega, by go_num, Lib.hid (by rw [HRw.out, hP.out]; exact HFd2.out.below (Below.refl _ _) (fun q h => .inl (.inl h))), HB0⟩, by simp [intOf]; omega⟩
              have t1 : (a.group != s.group) = false := by simpa using hg
              have hP : Hid (pairF a s k2 G = addF (machL a s) (addF (busyL a s) (addF (formsL a s) (addF (leadS a s) G (11, (k2 : Int))) (4, (k2 : Int))) (6, (k2 : Int))) (9, (k2 : Int))) := Lib.hid (by rw [pairF, if_pos hg])
              have Hlen : Hid (G.length ≤ 4 * 12 * 13) := Lib.hid (by omega)
              clear hg
              go_upto_region 17 with fail
              go_cut [] (fun wx => Hid (FaultsAt w wx (fun q => q = p ∨ q = p2) (addF (leadS a s) G (11, (k2 : Int)))) ∧ Hid (KeptS (fun q => q = p ∨ q = p2) wd wx))
              case first =>
                have hls : G.length ≤ 1000000 := by have := Hlen.out; omega
                have HL : Hid (leadS a s = (a.leads && s.leads && decide (a.ht = s.ht))) := Lib.hid rfl
                cases h1 : a.leads <;> cases h2 : s.leads
                all_goals
                  rw [h1] at x3 HL
                  rw [h2] at y3 HL
                  clear h1 h2
                case true.true =>
                  by_cases h3 : a.ht = s.ht
                  · have t2 : (a.ht == s.ht) = true := by simpa using h3
                    have HL2 : Hid (leadS a s = true) := Lib.hid (by rw [HL.out]; simp [h3])
                    clear h3 HL
                    go_wp2_with (go_at_call 18; refine (wrong_fa HFd2.out _ _ _ hls).mono ?_; rintro e w6 ⟨rfl, hF6, hK6⟩; have HF6 := Lib.hid hF6; have HK6 := Lib.hid hK6; clear hF6 hK6)
                    go_meet
                    exact ⟨Lib.hid (by rw [HL2.out]; exact HF6.out), HK6⟩
                  · have t2 : (a.ht == s.ht) = false := by simpa using h3
                    have HL2 : Hid (leadS a s = false) := Lib.hid (by rw [HL.out]; simp [h3])
                    clear h3 HL
                    go_wp2_with (go_at_call 18; refine (wrong_fa HFd2.out _ _ _ hls).mono ?_; rintro e w6 ⟨rfl, hF6, hK6⟩; have HF6 := Lib.hid hF6; have HK6 := Lib.hid hK6; clear hF6 hK6)
                    go_meet
                    exact ⟨Lib.hid (by rw [HL2.out]; exact HF6.out), HK6⟩
                all_goals
                  go_wp2_with (go_at_call 18; refine (wrong_fa HFd2.out _ _ _ hls).mono ?_; rintro e w6 ⟨rfl, hF6, hK6⟩; have HF6 := Lib.hid hF6; have HK6 := Lib.hid hK6; clear hF6 hK6)
                  go_meet
                  exact ⟨Lib.hid (by rw [HL.out]; exact HF6.out), HK6⟩
              case rest =>
                obtain ⟨FA, KA⟩ := hcut
                clear x1 x3 x4 y1 y3 y4 HFd2
                have hA : SeenAt wc p2 0 a := HA0.out.same (KA.out.blk p2 (.inr rfl))
                have hB : SeenAt wc p 0 s := HB0.out.same (KA.out.blk p (.inl rfl))
                have Hlen2 : Hid ((addF (leadS a s) G (11, (k2 : Int))).length ≤ 4 * 12 * 13 + 1) := Lib.hid (by have := Hlen.out; have := (addF_len (leadS a s) G (11, (k2 : Int))).2; omega)
                clear Hlen KA HA0 HB0
                obtain ⟨G1, hG1⟩ : ∃ X, X = addF (leadS a s) G (11, (k2 : Int)) := ⟨_, rfl⟩
                rw [← hG1] at hP FA Hlen2
                have Hlen := Hlen2
                clear Hlen2 hG1
                have LA := Lib.hid hA.load
                have LB := Lib.hid hB.load
                have KF : Hid (Calls Try.prog 20 #[.agg a.l.toArray, .agg s.l.toArray] wc fun e w' => e = .returned (.bool (formsL a s)) ∧ Below wc.heap.size wc w') := Lib.hid (forms_any a s wc (HaI.out.below FA.out.bel) (HsI.out.below FA.out.bel) Hao.out Hso.out)
                have hls : G1.length ≤ 1000000 := by have := Hlen.out; omega
                have HA0 := Lib.hid hA
                have HB0 := Lib.hid hB
                have Hlen2 : Hid ((addF (formsL a s) G1 (4, (k2 : Int))).length ≤ 4 * 12 * 13 + 2) := Lib.hid (by have := Hlen.out; have := (addF_len (formsL a s) G1 (4, (k2 : Int))).2; omega)
                obtain ⟨L, hL⟩ : ∃ L, L = formsL a s := ⟨_, rfl⟩
                rw [← hL] at KF hP Hlen2
                clear hA hB hL Hlen
                go_upto_region 19 with (first | (refine wpList_loadK rfl (by rfl) rfl (by first | exact LA.out | exact LB.out) ?_; simp only [Act.put, List.setIfInBounds_toArray, List.set_cons_succ, List.set_cons_zero]) | (go_at_call 20; refine KF.out.mono ?_; rintro e w5 ⟨rfl, hb5⟩; have HF5 := Lib.hid (FA.out.below (S' := fun q => q = p ∨ q = p2) hb5 (fun _ h => .inl h)); have HK5 := Lib.hid (KeptS.below hb5 (fun q h => (FA.out.big q h).2)); clear hb5) | (go_at_call 18; refine (wrong_fa HF5.out _ _ _ hls).mono ?_; rintro e w6 ⟨rfl, hF6, hK6⟩; have HF6 := Lib.hid hF6; have HK6 := Lib.hid (HK5.out.trans hK6); clear hF6 hK6))
                have hA : SeenAt w6 p2 0 a := HA0.out.same (HK6.out.blk p2 (.inr rfl))
                have hB : SeenAt w6 p 0 s := HB0.out.same (HK6.out.blk p (.inl rfl))
                obtain ⟨G2, hG2⟩ : ∃ X, X = addF L G1 (4, (k2 : Int)) := ⟨_, rfl⟩
                rw [← hG2] at hP HF6 Hlen2
                have Hlen := Hlen2
                have FB := HF6
                clear Hlen2 hG2 LA LB KF hls HA0 HB0 HF5 HK5 HK6 HF6 FA
                have FA := FB
                clear FB
                obtain ⟨wc, hwc⟩ : ∃ V, V = w6 := ⟨_, rfl⟩
                subst hwc
                have LA := Lib.hid hA.load
                have LB := Lib.hid hB.load
                have KF : Hid (Calls Try.prog 21 #[.agg a.l.toArray, .agg s.l.toArray] wc fun e w' => e = .returned (.bool (busyL a s)) ∧ Below wc.heap.size wc w') := Lib.hid (busy_any a s wc (HaI.out.below FA.out.bel) (HsI.out.below FA.out.bel) Hao.out Hso.out)
                have hls : G2.length ≤ 1000000 := by have := Hlen.out; omega
                have HA0 := Lib.hid hA
                have HB0 := Lib.hid hB
                have Hlen2 : Hid ((addF (busyL a s) G2 (6, (k2 : Int))).length ≤ 4 * 12 * 13 + 3) := Lib.hid (by have := Hlen.out; have := (addF_len (busyL a s) G2 (6, (k2 : Int))).2; omega)
                obtain ⟨L, hL⟩ : ∃ L, L = busyL a s := ⟨_, rfl⟩
                rw [← hL] at KF hP Hlen2
                clear hA hB hL Hlen
                go_upto_region 20 with (first | (refine wpList_loadK rfl (by rfl) rfl (by first | exact LA.out | exact LB.out) ?_; simp only [Act.put, List.setIfInBounds_toArray, List.set_cons_succ, List.set_cons_zero]) | (go_at_call 21; refine KF.out.mono ?_; rintro e w5 ⟨rfl, hb5⟩; have HF5 := Lib.hid (FA.out.below (S' := fun q => q = p ∨ q = p2) hb5 (fun _ h => .inl h)); have HK5 := Lib.hid (KeptS.below hb5 (fun q h => (FA.out.big q h).2)); clear hb5) | (go_at_call 18; refine (wrong_fa HF5.out _ _ _ hls).mono ?_; rintro e w6 ⟨rfl, hF6, hK6⟩; have HF6 := Lib.hid hF6; have HK6 := Lib.hid (HK5.out.trans hK6); clear hF6 hK6))
                have hA : SeenAt w6 p2 0 a := HA0.out.same (HK6.out.blk p2 (.inr rfl))
                have hB : SeenAt w6 p 0 s := HB0.out.same (HK6.out.blk p (.inl rfl))
                obtain ⟨G3, hG3⟩ : ∃ X, X = addF L G2 (6, (k2 : Int)) := ⟨_, rfl⟩
                rw [← hG3] at hP HF6 Hlen2
                have Hlen := Hlen2
                have FB := HF6
                clear Hlen2 hG3 LA LB KF hls HA0 HB0 HF5 HK5 HK6 HF6 FA
                have FA := FB
                clear FB
                obtain ⟨wc, hwc⟩ : ∃ V, V = w6 := ⟨_, rfl⟩
                subst hwc
                have LA := Lib.hid hA.load
                have LB := Lib.hid hB.load
                have KF : Hid (Calls Try.prog 22 #[.agg a.l.toArray, .agg s.l.toArray] wc fun e w' => e = .returned (.bool (machL a s)) ∧ Below wc.heap.size wc w') := Lib.hid (machines_any a s wc (HaI.out.below FA.out.bel) (HsI.out.below FA.out.bel))
                have hls : G3.length ≤ 1000000 := by have := Hlen.out; omega
                have HA0 := Lib.hid hA
                have HB0 := Lib.hid hB
                have Hlen2 : Hid ((addF (machL a s) G3 (9, (k2 : Int))).length ≤ 4 * 12 * 13 + 4) := Lib.hid (by have := Hlen.out; have := (addF_len (machL a s) G3 (9, (k2 : Int))).2; omega)
                obtain ⟨L, hL⟩ : ∃ L, L = machL a s := ⟨_, rfl⟩
                rw [← hL] at KF hP Hlen2
                clear hA hB hL Hlen
                go_wp2_with (first | (refine wpList_loadK rfl (by rfl) rfl (by first | exact LA.out | exact LB.out) ?_; simp only [Act.put, List.setIfInBounds_toArray, List.set_cons_succ, List.set_cons_zero]) | (go_at_call 22; refine KF.out.mono ?_; rintro e w5 ⟨rfl, hb5⟩; have HF5 := Lib.hid (FA.out.below (S' := fun q => q = p ∨ q = p2) hb5 (fun _ h => .inl h)); have HK5 := Lib.hid (KeptS.below hb5 (fun q h => (FA.out.big q h).2)); clear hb5) | (go_at_call 18; refine (wrong_fa HF5.out _ _ _ hls).mono ?_; rintro e w6 ⟨rfl, hF6, hK6⟩; have HF6 := Lib.hid hF6; have HK6 := Lib.hid (HK5.out.trans hK6); clear hF6 hK6))
                exact ⟨⟨i2 + 1, by omega, by go_num, Lib.hid (by rw [HRw.out, hP.out]; exact HF6.out.below (Below.refl _ _) (fun q h => .inl (.inl h))), Lib.hid (HB0.out.same (HK6.out.blk p (.inl rfl)))⟩, by simp [intOf]; omega⟩
            · obtain rfl : i2 = k2 := by omega
              go_wp2_with fail
              exact ⟨⟨i2 + 1, by omega, by go_num, Lib.hid (by rw [HP.out]; exact hF.out.below (Below.refl _ _) (fun q h => h.elim))⟩, by simp [intOf]; omega⟩
        · obtain rfl : k2 = k := by omega
          have KT := Lib.hid (tablets_any ao k2 cap l wr (H.out.below hF.out.bel) HW.out)
          have hFP := pairsN_len l 12 k2 (by omega)
          obtain ⟨FP, hFPd⟩ : ∃ F, F = pairsN l k2 := ⟨_, rfl⟩
          rw [← hFPd] at hF Hch hFP
          have Hlt := Lib.hid (show w.heap.size < wr.heap.size from by
            obtain ⟨v, ho, _⟩ := hF.out.ex
            exact World.block_lt_of_cell? _ _ ho.c0)
          clear hFPd
          go_wp2_with (go_at_call 13; refine KT.out.mono ?_; rintro e w5 ⟨tv, cs, rfl, hr, _, hS, hb⟩; obtain ⟨ta, tc, rfl⟩ := row_slice hr; have HR5 := Lib.hid hr; have HS := Lib.hid hS; have HB5 := Lib.hid hb; clear hr hS hb)
          have hcl : cs.length ≤ 9 := by have := tabs_len l; rw [← HS.out, List.length_map] at this; exact this
          have HT0 : Hid (Row w5 w.heap.size 37 5 (.slice ta cs.length tc) cs.length (cs.map LocI.l).flatten) := Lib.hid (Row.mono HR5.out (Nat.le_of_lt Hlt.out))
          have HF0 : Hid (FaultsAt w w5 (fun q => (Value.slice ta cs.length tc).ownBlock = some q ∨ (Value.slice none 0 0).ownBlock = some q) FP) := Lib.hid (hF.out.below HB5.out (fun q h => h.elim (fun h => .inr (Row.lt HR5.out q h)) (fun h => by cases h)))
          have HFl := Lib.hid hFP
          clear HR5 HB5 hF KT hFP
          go_loopw [12, 100] (fun rv i V => ∃ (k4 : Nat) (ra : Option Addr) (rc : Nat), k4 ≤ cs.length ∧ i = .int .i64 k4 ∧ rv = .slice ra k4 rc ∧ Hid (FaultsAt w V (fun q => (Value.slice ta cs.length tc).ownBlock = some q ∨ (Value.slice ra k4 rc).ownBlock = some q) (meetsN (tabsL l) FP k4)) ∧ Hid (Row V w.heap.size 33 2 (.slice ra k4 rc) k4 (((cs.take k4).map rgC).map rgE).flatten) ∧ Hid (Row V w.heap.size 37 5 (.slice ta cs.length tc) cs.length (cs.map LocI.l).flatten) ∧ Hid (∀ q, (Value.slice ra k4 rc).ownBlock = some q → (Value.slice ta cs.length tc).ownBlock ≠ some q)) (fun _ i _ => cs.length - (intOf i).toNat)
          case atStart => exact ⟨0, none, 0, by omega, rfl, rfl, HF0, Lib.hid (Row.nil _ _ _ _), HT0, Lib.hid (fun q h => by cases h)⟩
          case round =>
            obtain ⟨k4, ra, rc, hk4, rfl, rfl, hF, hR, hT, hap⟩ := hrel
            clear HF0 HT0
            have hml := meetsN_len (tabsL l) FP 9 k4 (by omega)
            have hAT := row_arr (by decide) (by rw [List.length_map]) hT.out (loc_elems cs)
            have hAR := row_arr (es := ((cs.take k4).map rgC).map rgE) (by decide) (by rw [List.length_map, List.length_map, List.length_take]; omega) hR.out (rgE_elems _)
            have HAT := Lib.hid hAT
            have HAR := Lib.hid hAR
            have hrf := Arr.fits hAR
            have htf := Arr.fits hAT
            have htm := Arr.max hAT
            unfold maxLen at htm
            clear hAT hAR
            by_cases hlt4 : k4 < cs.length
            · obtain ⟨c, hc⟩ : ∃ c, cs[k4]? = some c := ⟨_, List.getElem?_eq_getElem hlt4⟩
              obtain ⟨g, off, e0, hg, xx⟩ := Arr.at_ HAT.out (i := k4) (e := c.l) (by rw [List.getElem?_map, hc]; rfl)
              have hLc : LocAt wr g (off + k4 * 5) c := fun j v hv => xx j v hv
              have HLc := Lib.hid hLc.load
              have HMs : Hid (meetsN (tabsL l) FP (k4 + 1) = meetN (tabsL l) c.says k4 (meetsN (tabsL l) FP k4) k4) := Lib.hid (meetsN_succ (by rw [← HS.out, List.getElem?_map, hc]; rfl))
              have Hc := Lib.hid hc
              cases e0
              clear xx hc hLc
              go_upto_region 28 with (first | (refine wpList_loadK rfl (by rfl) rfl (by exact HLc.out) ?_; simp only [Act.put, List.setIfInBounds_toArray, List.set_cons_succ, List.set_cons_zero]) | (refine wpList_storeN rfl rfl rfl rfl (by first | rfl | simp) (by kernel_rfl) (by rfl) (LocI.all _) ?_; simp only [Act.put, List.setIfInBounds_toArray, List.set_cons_succ, List.set_cons_zero]))
              obtain ⟨wc, hwc⟩ : ∃ wc, wc = wr.alloc (.cells c.l.toArray 37) := ⟨_, rfl⟩
              obtain ⟨p, hp⟩ : ∃ p, p = wr.heap.size := ⟨_, rfl⟩
              have hE := LocAt.new wr c 37
              have hBc : Below wr.heap.size wr wc := by rw [hwc]; exact (Below.refl _ _).alloc (Nat.le_refl _) _
              have hzc : wc.heap.size = wr.heap.size + 1 := by rw [hwc]; simp
              rw [← hwc, ← hp] at hE ⊢
              have HE := Lib.hid hE
              obtain ⟨FM, hFM⟩ : ∃ F, F = meetsN (tabsL l) FP k4 := ⟨_, rfl⟩
              rw [← hFM] at hF HMs hml
              have HFc : Hid (FaultsAt w wc (fun q => q = p ∨ (Value.slice (some ⟨g, off, none⟩) cs.length tc).ownBlock = some q ∨ (Value.slice ra k4 rc).ownBlock = some q) FM) := Lib.hid (hF.out.below hBc (fun q h => h.elim (fun h => .inr (by omega)) .inl))
              have HRc := Lib.hid (Row.below hR.out hBc)
              have HTc := Lib.hid (Row.below hT.out hBc)
              clear hwc hE hBc hp hzc hF hR hT hFM HAT HAR
              go_wp2
              go_loopw [107] (fun i V => ∃ i5 : Nat, i5 ≤ k4 ∧ i = .int .i64 i5 ∧ Hid (FaultsAt w V (fun q => q = p ∨ (Value.slice (some ⟨g, off, none⟩) cs.length tc).ownBlock = some q ∨ (Value.slice ra k4 rc).ownBlock = some q) (meetN (tabsL l) c.says k4 FM i5)) ∧ Hid (LocAt V p 0 c) ∧ Hid (Row V w.heap.size 33 2 (.slice ra k4 rc) k4 (((cs.take k4).map rgC).map rgE).flatten) ∧ Hid (Row V w.heap.size 37 5 (.slice (some ⟨g, off, none⟩) cs.length tc) cs.length (cs.map LocI.l).flatten)) (fun i _ => k4 - (intOf i).toNat)
              case atStart => exact ⟨0, by omega, rfl, HFc, HE, HRc, HTc⟩
              case round =>
                obtain ⟨i5, hi5, rfl, hF, hE, hR, hT⟩ := hrel
                clear HFc HE HRc HTc
                have hnl := meetN_len (tabsL l) c.says k4 FM i5
                have hEl := LocAt.lt hE.out
                have x1 := hE.out 1 _ rfl
                have x2 := hE.out 2 _ rfl
                simp only [Nat.zero_add] at x1 x2
                by_cases hlt5 : i5 < k4
                · obtain ⟨r, hr⟩ : ∃ r, cs[i5]? = some r := ⟨_, List.getElem?_eq_getElem (by omega)⟩
                  have hAR := row_arr (es := ((cs.take k4).map rgC).map rgE) (by decide) (by rw [List.length_map, List.length_map, List.length_take]; omega) hR.out (rgE_elems _)
                  obtain ⟨g5, off5, e5, hg5, yy⟩ := Arr.at_ hAR (i := i5) (e := rgE (rgC r)) (by rw [List.getElem?_map, List.getElem?_map, List.getElem?_take_of_lt hlt5, hr]; rfl)
                  have z0 : wr.cell? ⟨g5, off5 + i5 * 2, none⟩ = some (.string r.lo) := yy 0 _ rfl
                  have z1 : wr.cell? ⟨g5, off5 + i5 * 2 + 1, none⟩ = some (.string r.hi) := yy 1 _ rfl
                  have HMn : Hid (meetN (tabsL l) c.says k4 FM (i5 + 1) = addF (meetL r.lo.toList r.hi.toList c.lo.toList c.hi.toList) (meetN (tabsL l) c.says k4 FM i5) (8, (k4 : Int))) := Lib.hid (meetN_succ (r := r.says) (by rw [← HS.out, List.getElem?_map, hr]; rfl))
                  cases e5
                  clear yy hr hAR
                  go_upto_region 31 with fail
                  obtain ⟨wd, hwd⟩ : ∃ wd, wd = wr.alloc (.cells #[.string r.lo, .string r.hi] 33) := ⟨_, rfl⟩
                  obtain ⟨p5, hp5⟩ : ∃ p, p = wr.heap.size := ⟨_, rfl⟩
                  have hBd : Below wr.heap.size wr wd := by rw [hwd]; exact (Below.refl _ _).alloc (Nat.le_refl _) _
                  have v0 : wd.cell? ⟨p5, 0, none⟩ = some (.string r.lo) := by rw [hwd, hp5]; go_simp
                  have v1 : wd.cell? ⟨p5, 1, none⟩ = some (.string r.hi) := by rw [hwd, hp5]; go_simp
                  have x1 := (hBd.cell (p := ⟨p, 1, none⟩) hEl).trans x1
                  have x2 := (hBd.cell (p := ⟨p, 2, none⟩) hEl).trans x2
                  rw [← hwd, ← hp5]
                  have HEd := Lib.hid (hE.out.below hBd)
                  have HFd := Lib.hid (hF.out.below (S' := fun q => q = p ∨ (Value.slice (some ⟨g, off, none⟩) cs.length tc).ownBlock = some q ∨ (Value.slice (some ⟨g5, off5, none⟩) k4 rc).ownBlock = some q) hBd (fun q h => .inl h))
                  have HRd := Lib.hid (Row.below hR.out hBd)
                  have HTd := Lib.hid (Row.below hT.out hBd)
                  have KM := Lib.hid (meet_any r.lo r.hi c.lo c.hi wd)
                  obtain ⟨M, hM⟩ : ∃ M, M = meetL r.lo.toList r.hi.toList c.lo.toList c.hi.toList := ⟨_, rfl⟩
                  rw [← hM] at KM HMn
                  have hls : (meetN (tabsL l) c.says k4 FM i5).length ≤ 1000000 := by have := HFl.out; omega
                  clear hwd hp5 hBd hM hE hF hR hT z0 z1
                  go_wp2_with (first | (go_at_call 23; refine KM.out.mono ?_; rintro e w5 ⟨rfl, hb5⟩; have HF5 := Lib.hid (HFd.out.below (S' := fun q => q = p ∨ (Value.slice (some ⟨g, off, none⟩) cs.length tc).ownBlock = some q ∨ (Value.slice (some ⟨g5, off5, none⟩) k4 rc).ownBlock = some q) hb5 (fun _ h => .inl h)); have HK5 := Lib.hid (KeptS.below hb5 (fun q h => (HFd.out.big q h).2)); clear hb5) | (go_at_call 18; refine (wrong_fa HF5.out _ _ _ (by omega)).mono ?_; rintro e w6 ⟨rfl, hF6, hK6⟩; have HF6 := Lib.hid hF6; have HK6 := Lib.hid (HK5.out.trans hK6); clear hF6 hK6))
                  exact ⟨⟨i5 + 1, by omega, by go_num, Lib.hid (by rw [HMn.out]; exact HF6.out), Lib.hid (HEd.out.same (HK6.out.blk p (.inl rfl))), Lib.hid (Row.of_heap HRd.out fun q hq => HK6.out.blk q (.inr (.inr hq))), Lib.hid (Row.of_heap HTd.out fun q hq => HK6.out.blk q (.inr (.inl hq)))⟩, by simp [intOf]; omega⟩
                · obtain rfl : i5 = k4 := by omega
                  obtain ⟨i1, hi1, jz0, jz1, jz2⟩ := info_parts Try.info_rg
                  have Hi1 := Lib.hid hi1
                  have hzw := hF.out.bel.size
                  clear hi1
                  go_wp2_with (at_builtin; refine wpList_append_at _ rfl _ _ 72 rfl w.heap.size 33 i1 _ 2 32 Try.underlying72 Hi1.out jz0 jz1 jz2 rfl (by decide) (.slice ra i5 rc) _ _ rfl (Row.alloc hR.out _) rfl (rgs_one wr _ (c.lo, c.hi) _ rfl) (by omega) (by unfold maxLen; omega) (by rw [World.size_alloc]; omega) ?_; intro v7 w7 hr7 hg7 ho7; obtain ⟨a7, c7, rfl⟩ := row_slice hr7; have HR7 := Lib.hid hr7; have HG7 := Lib.hid hg7; have HO7 := Lib.hid ho7; clear hr7 hg7 ho7)
                  have HBa := Lib.hid ((Below.refl wr.heap.size wr).alloc (Nat.le_refl _) (.cells #[.string c.lo, .string c.hi] 33))
                  have hFa := hF.out.below (S' := fun q => q = p ∨ (Value.slice (some ⟨g, off, none⟩) cs.length tc).ownBlock = some q ∨ (Value.slice ra i5 rc).ownBlock = some q) HBa.out (fun q h => .inl h)
                  have hno : ∀ q, (Value.slice a7 (i5 + 1) c7).ownBlock = some q → (Value.slice ra i5 rc).ownBlock = some q ∨ (wr.heap.size < q ∧ q < w7.heap.size) := fun q hq => by
                    rcases HO7.out with e | e
                    · exact .inl (e ▸ hq)
                    · have := Row.lt HR7.out q hq
                      rw [e] at hq
                      cases hq
                      rw [World.size_alloc] at this ⊢
                      exact .inr ⟨by omega, by omega⟩
                  have hF7 : FaultsAt w w7 (fun q => (Value.slice (some ⟨g, off, none⟩) cs.length tc).ownBlock = some q ∨ (Value.slice a7 (i5 + 1) c7).ownBlock = some q) (meetN (tabsL l) c.says i5 FM i5) := hFa.own (u := .slice ra i5 rc) (fun q h => .inr (.inr h)) HG7.out (fun q h => h.elim (fun h => .inl (.inr (.inl h))) (fun h => by
                    rcases HO7.out with e | e
                    · exact .inl (.inr (.inr (e ▸ h)))
                    · have h2 := Row.lt HR7.out q h
                      rw [e] at h
                      cases h
                      exact .inr ⟨Nat.le_refl _, h2.2⟩))
                  refine ⟨⟨i5 + 1, a7, c7, by omega, by go_num, rfl, Lib.hid (by rw [HMs.out]; exact hF7), Lib.hid ?_, Lib.hid ?_, Lib.hid (fun q hq hq2 => ?_)⟩, by simp [intOf]; omega⟩
                  · have := HR7.out
                    rw [List.take_add_one, Hc.out, List.map_append, List.map_append, List.flatten_append]
                    exact this
                  · exact Row.keptBy (Row.alloc hT.out _) HG7.out hap.out
                  · rcases hno q hq with h | h
                    · exact hap.out q h hq2
                    · have := Row.lt hT.out q hq2
                      omega
            · obtain rfl : k4 = cs.length := by omega
              have hcn : Hid ((tabsL l).length = cs.length) := Lib.hid (by rw [← HS.out, List.length_map])
              by_cases hc0 : cs.length = 0
              · have t1 : decide (0 < cs.length) = false := by simpa using hc0
                have t2 : decide ((0 : Int) < (cs.length : Int)) = false := decide_eq_false (by omega)
                obtain ⟨⟨v9, hO9, _⟩, _, hbel9⟩ := hF.out
                obtain ⟨a9, k9, hv9⟩ := row_slice hO9.row
                subst hv9
                have c9 := hO9.c0
                have HO9 := Lib.hid hO9
                have HB9 := Lib.hid hbel9
                have hch : Hid (checkL l = meetsN (tabsL l) FP cs.length) := Lib.hid (by rw [Hch.out, endF, if_pos (by rw [hcn.out]; exact hc0), hcn.out])
                have Hc0 := Lib.hid hc0
                clear hc0 hO9 hbel9 hF
                go_wp2_with fail
                go_returns
                exact ⟨_, rfl, by rw [hch.out]; exact HO9.out.row, HB9.out⟩
              · have hpos : 0 < cs.length := by omega
                have t1 : decide (0 < cs.length) = true := by simpa using hpos
                have t2 : decide ((0 : Int) < (cs.length : Int)) = true := by simpa using hpos
                have hE : ((cs.take cs.length).map rgC) = cs.map rgC := by rw [List.take_length]
                have hAR := HAR.out
                rw [hE] at hAR
                have KG := Lib.hid (gap_of ra cs.length rc (cs.map rgC) wr (by rw [List.length_map]) (Rgs.of_arr hAR (by rw [← tabs_rg HS.out]; exact tabs_ok HOk.out)))
                have hgs : gapS (tabsL l) = (gapL (rgL (cs.map rgC))).isSome := by rw [gapS, tabs_rg HS.out]
                obtain ⟨A, U, bb, hv, hbb⟩ : ∃ A U bb, gapV (gapL (rgL (cs.map rgC))) = .tuple #[.agg #[.string A, .string U], .bool bb] ∧ gapS (tabsL l) = bb := by
                  rw [hgs]
                  cases gapL (rgL (cs.map rgC)) with
                  | none => exact ⟨_, _, _, rfl, rfl⟩
                  | some r => exact ⟨_, _, _, rfl, rfl⟩
                rw [hv] at KG
                have hch : Hid (checkL l = addF bb (meetsN (tabsL l) FP cs.length) (5, 0)) := Lib.hid (by rw [Hch.out, endF, if_neg (by rw [hcn.out]; exact hc0), hcn.out, hbb])
                have hls : (meetsN (tabsL l) FP cs.length).length ≤ 1000000 := by have := HFl.out; omega
                clear hE hAR hgs hv hbb hc0
                go_wp2_with (first | (go_at_call 24; refine KG.out.mono ?_; rintro e w5 ⟨rfl, hb5⟩; have HF5 := Lib.hid (hF.out.below (S' := fun _ => False) (hb5.alloc hb5.size (.cells #[.string A, .string U] 33)) (fun _ h => h.elim)); clear hb5) | (go_at_call 18; refine (wrong_fa HF5.out _ _ _ hls).mono ?_; rintro e w6 ⟨rfl, hF6, _⟩; obtain ⟨⟨v9, hO9, _⟩, _, hbel9⟩ := hF6; obtain ⟨a9, k9, hv9⟩ := row_slice hO9.row; subst hv9; have c9 := hO9.c0; have HO9 := Lib.hid hO9; have HB9 := Lib.hid hbel9; clear hO9 hbel9))
                go_returns
                exact ⟨_, rfl, by rw [hch.out]; exact HO9.out.row, HB9.out⟩
end Go.Proofs.Yteibnignjghedaa
