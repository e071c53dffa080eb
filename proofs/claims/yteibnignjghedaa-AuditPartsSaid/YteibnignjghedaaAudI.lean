/-
  Two logs, as the document reads them: the walk of acreageref32.busy.
-/
import Derived.Test.YteibnignjghedaaAudH
namespace Go.Proofs.Yteibnignjghedaa
open Go.RowKit Go.Sort

noncomputable def rbadL (b : SeenA) (most : Int) (x : EntA) : Bool := decide (x.idx ≤ most) && ((match entryL b x.idx with | some y => !sameE x y | none => false) || (decide (0 < termL b x.idx) && !decide (termL b x.idx = x.term)))
def rbaseL (a b : SeenA) (most : Int) : Bool := decide (0 < a.bidx) && decide (a.bidx ≤ most) && decide (0 < termL b a.bidx) && !decide (termL b a.bidx = a.bterm)
noncomputable def rbusyL (a b : SeenA) : Bool := a.es.any (rbadL b (min a.com b.com)) || rbaseL a b (min a.com b.com)

set_option maxRecDepth 100000 in
set_option maxHeartbeats 8000000 in
theorem rbusy_any (a b : SeenA) (w : World) (ha : a.In w) (hb : b.In w) :
    Calls Try.prog 52 #[a.v, b.v] w fun e w' => e = .returned (.bool (rbusyL a b)) ∧ Below w.heap.size w w' := by
  obtain ⟨R, hR⟩ : ∃ R, R = rbusyL a b := ⟨_, rfl⟩
  rw [← hR]
  obtain ⟨most, hmost⟩ : ∃ most, most = min a.com b.com := ⟨_, rfl⟩
  have HR : Hid (R = (a.es.any (rbadL b most) || rbaseL a b most)) := Lib.hid (by rw [hR, rbusyL, hmost])
  have Ha := Lib.hid ha
  have Hb := Lib.hid hb
  have hc1 := Arr.fits ha.es.arr
  have hc2 := Arr.max ha.es.arr
  unfold maxLen at hc2
  have Hn := Lib.hid ha.es.len
  simp only [SeenA.v]
  clear hR ha hb
  go_enter Try.func52, Try.ntmps52
  go_upto_region 1 with fail
  obtain ⟨W, hW⟩ : ∃ W : World, W = (w.alloc (.cells a.l.toArray 49)).alloc (.cells b.l.toArray 49) := ⟨_, rfl⟩
  have hbW : Below w.heap.size w W := by rw [hW]; exact ((Below.refl _ _).alloc (Nat.le_refl _) _).alloc (by simp) _
  have hzW : W.heap.size = w.heap.size + 2 := by rw [hW]; simp
  have hA0 : SeenAt W w.heap.size 0 a := by
    rw [hW]
    exact (SeenAt.new w a _).below ((Below.refl _ _).alloc (Nat.le_refl _) _)
  have hB0 : SeenAt W (w.heap.size + 1) 0 b := by
    rw [hW]
    have := SeenAt.new (w.alloc (.cells a.l.toArray 49)) b 49
    rw [World.size_alloc] at this
    exact this
  obtain ⟨q, hq⟩ : ∃ q, q = w.heap.size + 1 := ⟨_, rfl⟩
  rw [← hW, ← hq]
  rw [← hq] at hB0
  have HA := Lib.hid hA0
  have HB := Lib.hid hB0
  have hl1 : w.heap.size < W.heap.size := by omega
  have hl2 : q < W.heap.size := by omega
  have x10 := hA0.at_ 10 _ rfl
  have y10 := hB0.at_ 10 _ rfl
  simp only [Nat.zero_add] at x10 y10
  clear hW hq hA0 hB0 hzW
  go_upto_region 2 with fail
  rw [← hmost]
  clear hmost x10 y10
  go_wp2
  go_loopw [6] (fun i wr => ∃ k : Nat, k ≤ a.en ∧ i = .int .i64 k ∧ Hid ((a.es.take k).any (rbadL b most) = false) ∧ Below W.heap.size W wr) (fun i _ => a.en - (intOf i).toNat)
  case atStart => exact ⟨0, by omega, rfl, Lib.hid rfl, Below.refl _ _⟩
  case round =>
    obtain ⟨k, hk, rfl, hF, hBr⟩ := hrel
    have hzr := hBr.size
    have hAr := HA.out.below hBr
    have hBr2 := HB.out.below hBr
    have x9 := hAr.at_ 9 _ rfl
    simp only [Nat.zero_add] at x9
    have hbr : Below w.heap.size w wr := hbW.trans (hBr.mono (by omega))
    by_cases hlt : k < a.en
    · obtain ⟨x, hx⟩ : ∃ x, a.es[k]? = some x := ⟨_, List.getElem?_eq_getElem (by rw [Hn.out]; exact hlt)⟩
      obtain ⟨g, off, e0, hgl, hE, hEI⟩ := (Ha.out.es.below hbr).at_ hx
      have v0 := hE.idx
      have HX := Lib.hid hx
      have HE := Lib.hid hE
      have Htk : Hid ((a.es.take (k + 1)).any (rbadL b most) = rbadL b most x) := Lib.hid (by
        rw [List.take_add_one, hx, List.any_append, hF.out]
        simp)
      have HRt : Hid (rbadL b most x = true → R = true) := Lib.hid (fun h => by
        rw [HR.out, List.any_eq_true.2 ⟨x, List.mem_of_getElem? hx, h⟩]; rfl)
      obtain ⟨y, hy⟩ : ∃ y, y = entryE b x.idx := ⟨_, rfl⟩
      obtain ⟨is, his⟩ : ∃ z, z = (entryL b x.idx).isSome := ⟨_, rfl⟩
      have Hyy : Hid (y = entryE b x.idx ∧ is = (entryL b x.idx).isSome) := Lib.hid ⟨hy, his⟩
      have KE := Lib.hid (rentry_any b x.idx wr (Hb.out.below hbr))
      rw [← hy, ← his] at KE
      simp only [SeenA.v, EntA.v] at KE
      have HLB := Lib.hid hBr2.load
      rw [e0] at x9
      have t0 : decide ((k : Int) < (a.en : Int)) = true := by simpa using hlt
      clear hE hx e0 hEI hAr hBr2 hy his
      go_upto_region 6 with fail
      go_wp2_with (refine wpList_loadK rfl (by rfl) rfl (by exact HLB.out) ?_; simp only [Act.put, List.setIfInBounds_toArray, List.set_cons_succ, List.set_cons_zero])
      refine KE.out.mono ?_
      rintro e V ⟨rfl, hbV⟩
      have hzV := hbV.size
      have HbV := Lib.hid hbV
      clear hbV KE
      go_upto_region 7 with (refine wpList_storeN rfl rfl rfl rfl (by first | rfl | simp) (by kernel_rfl) (by rfl) (EntA.all _) ?_; simp only [Act.put, List.setIfInBounds_toArray, List.set_cons_succ, List.set_cons_zero])
      obtain ⟨wc, hwc⟩ : ∃ wc, wc = V.alloc (.cells y.l.toArray 60) := ⟨_, rfl⟩
      obtain ⟨pb, hpb⟩ : ∃ p, p = V.heap.size := ⟨_, rfl⟩
      have hBc : Below wr.heap.size wr wc := by rw [hwc]; exact HbV.out.alloc (by omega) _
      have hEc : EntAt wc pb 0 y := by rw [hwc, hpb]; exact EntAt.new V y _
      rw [← hwc, ← hpb]
      clear hwc hpb
      have hpl := hEc.lt
      have hzc := hBc.size
      have hbc : Below w.heap.size w wc := hbr.trans (hBc.mono (by omega))
      have HBc := Lib.hid (hBr.trans (hBc.mono hzr))
      have hqr : q < wr.heap.size := by omega
      have hwr : w.heap.size < wr.heap.size := by omega
      have x9 := (hBc.cell (p := ⟨w.heap.size, _, none⟩) hwr).trans x9
      have hgc : g < wc.heap.size := by omega
      have hqc : q < wc.heap.size := by omega
      have hwc : w.heap.size < wc.heap.size := by omega
      have xt := (HE.out.below hBc).term
      have HLx := Lib.hid (HE.out.below hBc).regrown
      have HLy := Lib.hid hEc.regrown
      have HLB := Lib.hid (HB.out.below HBc.out).regrown
      obtain ⟨T, hT⟩ : ∃ T, T = termL b x.idx := ⟨_, rfl⟩
      have KT := Lib.hid fun d os => rterm_any b x.idx (grow (redrawn wc d) os) (Hb.out.below (hbc.trans ((below_regrown wc d os).mono (by omega))))
      rw [← hT] at KT
      simp only [SeenA.v] at KT
      have HT := Lib.hid hT
      clear hT hBr hEc hBc v0
      by_cases d1 : x.idx ≤ most
      · have s1 : decide (x.idx ≤ most) = true := by simpa using d1
        cases is
        · have hent : Hid ((match entryL b x.idx with | some y => !sameE x y | none => false) = false) := Lib.hid (by
            have := Hyy.out.2
            cases h : entryL b x.idx with
            | none => rfl
            | some z => rw [h] at this; cases this)
          by_cases d2 : 0 < T
          · have s2 : decide ((0 : Int) < T) = true := by simpa using d2
            by_cases d3 : T = x.term
            · have s3 : (T != x.term) = false := by simpa using d3
              have hbad : Hid (rbadL b most x = false) := Lib.hid (by rw [rbadL, hent.out, ← HT.out]; simp [d3])
              clear d1 d2 d3
              refine wp_region_below (by kernel_rfl) (by kernel_rfl) (fun hkept => ?_)
              obtain ⟨r0, rf0⟩ := hkept (w.heap.size) (by go_size); obtain ⟨r1, rf1⟩ := hkept (q) (by go_size); obtain ⟨r2, rf2⟩ := hkept (g) (by go_size); obtain ⟨r3, rf3⟩ := hkept (pb) (by go_size); clear hkept
              repeat (any_goals (first | go_big_quiet_skip | (refine wpQuiet_loadR (HLB.out) rfl rfl (by rfl) ?_; simp only [Act.put, List.setIfInBounds_toArray, List.set_cons_succ, List.set_cons_zero]) | go_big_quiet_step (first | (go_at_call 67; exact Calls.regrown_of (KT.out _ _))) | quiet_step (first | (go_at_call 67; exact Calls.regrown_of (KT.out _ _))) | (refine wpQuiet_step (fun K hK => ?_); go_simp; split <;> (refine hK _ ?_; clear hK K))))
              all_goals (refine wpQuiet_nil ?_; intro w8 hb; obtain ⟨hB, hS, hk⟩ := after (B := wc.heap.size) (w := wc) (by go_grown) (by go_size) hb; obtain ⟨c0, f0, z0⟩ := hk (w.heap.size) (by go_size); obtain ⟨c1, f1, z1⟩ := hk (q) (by go_size); obtain ⟨c2, f2, z2⟩ := hk (g) (by go_size); obtain ⟨c3, f3, z3⟩ := hk (pb) (by go_size); clear hk hb r0 rf0 r1 rf1 r2 rf2 r3 rf3)
              have HB8 := Lib.hid (HBc.out.trans (hB.mono HBc.out.size))
              clear hB hS
              go_wp2_with fail
              exact ⟨⟨k + 1, by omega, by go_num, Lib.hid (by rw [Htk.out, hbad.out]), HB8.out⟩, by simp [intOf]; omega⟩
            · have s3 : (T != x.term) = true := by simpa using d3
              have hRf : Hid (R = true) := Lib.hid (HRt.out (by rw [rbadL, hent.out, ← HT.out]; simp [d1, d2, d3]))
              clear d1 d2 d3
              refine wp_region_below (by kernel_rfl) (by kernel_rfl) (fun hkept => ?_)
              obtain ⟨r0, rf0⟩ := hkept (w.heap.size) (by go_size); obtain ⟨r1, rf1⟩ := hkept (q) (by go_size); obtain ⟨r2, rf2⟩ := hkept (g) (by go_size); obtain ⟨r3, rf3⟩ := hkept (pb) (by go_size); clear hkept
              repeat (any_goals (first | go_big_quiet_skip | (refine wpQuiet_loadR (HLB.out) rfl rfl (by rfl) ?_; simp only [Act.put, List.setIfInBounds_toArray, List.set_cons_succ, List.set_cons_zero]) | go_big_quiet_step (first | (go_at_call 67; exact Calls.regrown_of (KT.out _ _))) | quiet_step (first | (go_at_call 67; exact Calls.regrown_of (KT.out _ _))) | (refine wpQuiet_step (fun K hK => ?_); go_simp; split <;> (refine hK _ ?_; clear hK K))))
              all_goals (refine wpQuiet_nil ?_; intro w8 hb; obtain ⟨hB, hS, hk⟩ := after (B := wc.heap.size) (w := wc) (by go_grown) (by go_size) hb; obtain ⟨c0, f0, z0⟩ := hk (w.heap.size) (by go_size); obtain ⟨c1, f1, z1⟩ := hk (q) (by go_size); obtain ⟨c2, f2, z2⟩ := hk (g) (by go_size); obtain ⟨c3, f3, z3⟩ := hk (pb) (by go_size); clear hk hb r0 rf0 r1 rf1 r2 rf2 r3 rf3)
              have HB8 := Lib.hid (HBc.out.trans (hB.mono HBc.out.size))
              clear hB hS
              go_wp2_with fail
              go_returns
              exact ⟨by rw [hRf.out]; rfl, hbW.trans (HB8.out.mono hbW.size)⟩
          · have s2 : decide ((0 : Int) < T) = false := by simpa using d2
            have hbad : Hid (rbadL b most x = false) := Lib.hid (by rw [rbadL, hent.out, ← HT.out]; simp [d2])
            clear d1 d2
            refine wp_region_below (by kernel_rfl) (by kernel_rfl) (fun hkept => ?_)
            obtain ⟨r0, rf0⟩ := hkept (w.heap.size) (by go_size); obtain ⟨r1, rf1⟩ := hkept (q) (by go_size); obtain ⟨r2, rf2⟩ := hkept (g) (by go_size); obtain ⟨r3, rf3⟩ := hkept (pb) (by go_size); clear hkept
            repeat (any_goals (first | go_big_quiet_skip | (refine wpQuiet_loadR (HLB.out) rfl rfl (by rfl) ?_; simp only [Act.put, List.setIfInBounds_toArray, List.set_cons_succ, List.set_cons_zero]) | go_big_quiet_step (first | (go_at_call 67; exact Calls.regrown_of (KT.out _ _))) | quiet_step (first | (go_at_call 67; exact Calls.regrown_of (KT.out _ _))) | (refine wpQuiet_step (fun K hK => ?_); go_simp; split <;> (refine hK _ ?_; clear hK K))))
            all_goals (refine wpQuiet_nil ?_; intro w8 hb; obtain ⟨hB, hS, hk⟩ := after (B := wc.heap.size) (w := wc) (by go_grown) (by go_size) hb; obtain ⟨c0, f0, z0⟩ := hk (w.heap.size) (by go_size); obtain ⟨c1, f1, z1⟩ := hk (q) (by go_size); obtain ⟨c2, f2, z2⟩ := hk (g) (by go_size); obtain ⟨c3, f3, z3⟩ := hk (pb) (by go_size); clear hk hb r0 rf0 r1 rf1 r2 rf2 r3 rf3)
            have HB8 := Lib.hid (HBc.out.trans (hB.mono HBc.out.size))
            clear hB hS
            go_wp2_with fail
            exact ⟨⟨k + 1, by omega, by go_num, Lib.hid (by rw [Htk.out, hbad.out]), HB8.out⟩, by simp [intOf]; omega⟩
        · have Hent : Hid (entryL b x.idx = some y) := Lib.hid (by
            have h1 := Hyy.out.2
            have h2 := Hyy.out.1
            rw [entryE] at h2
            cases h : entryL b x.idx with
            | none => rw [h] at h1; cases h1
            | some z => rw [h] at h2; rw [h2]; rfl)
          have hyb : y ∈ b.es := List.mem_of_find?_eq_some Hent.out
          have KS := Lib.hid fun d os => rssame_any x y (grow (redrawn wc d) os) ((Ha.out.es.mem x (List.mem_of_getElem? HX.out)).below (hbc.trans ((below_regrown wc d os).mono (by omega)))) ((Hb.out.es.mem y hyb).below (hbc.trans ((below_regrown wc d os).mono (by omega))))
          simp only [EntA.v] at KS
          obtain ⟨Q, hQ⟩ : ∃ Q, Q = sameE x y := ⟨_, rfl⟩
          have HQ := Lib.hid hQ
          rw [← hQ] at KS
          clear hQ hyb
          cases Q
          · have hRf : Hid (R = true) := Lib.hid (HRt.out (by rw [rbadL, Hent.out]; simp [d1, ← HQ.out]))
            clear d1
            refine wp_region_below (by kernel_rfl) (by kernel_rfl) (fun hkept => ?_)
            obtain ⟨r0, rf0⟩ := hkept (w.heap.size) (by go_size); obtain ⟨r1, rf1⟩ := hkept (q) (by go_size); obtain ⟨r2, rf2⟩ := hkept (g) (by go_size); obtain ⟨r3, rf3⟩ := hkept (pb) (by go_size); clear hkept
            repeat (any_goals (first | go_big_quiet_skip | (refine wpQuiet_loadR (HLB.out) rfl rfl (by rfl) ?_; simp only [Act.put, List.setIfInBounds_toArray, List.set_cons_succ, List.set_cons_zero]) | (refine wpQuiet_loadR (HLx.out) rfl rfl (by rfl) ?_; simp only [Act.put, List.setIfInBounds_toArray, List.set_cons_succ, List.set_cons_zero]) | (refine wpQuiet_loadR (HLy.out) rfl rfl (by rfl) ?_; simp only [Act.put, List.setIfInBounds_toArray, List.set_cons_succ, List.set_cons_zero]) | go_big_quiet_step (first | (go_at_call 66; exact Calls.regrown_of (KS.out _ _)) | (go_at_call 67; exact Calls.regrown_of (KT.out _ _))) | quiet_step (first | (go_at_call 66; exact Calls.regrown_of (KS.out _ _)) | (go_at_call 67; exact Calls.regrown_of (KT.out _ _))) | (refine wpQuiet_step (fun K hK => ?_); go_simp; split <;> (refine hK _ ?_; clear hK K))))
            all_goals (refine wpQuiet_nil ?_; intro w8 hb; obtain ⟨hB, hS, hk⟩ := after (B := wc.heap.size) (w := wc) (by go_grown) (by go_size) hb; obtain ⟨c0, f0, z0⟩ := hk (w.heap.size) (by go_size); obtain ⟨c1, f1, z1⟩ := hk (q) (by go_size); obtain ⟨c2, f2, z2⟩ := hk (g) (by go_size); obtain ⟨c3, f3, z3⟩ := hk (pb) (by go_size); clear hk hb r0 rf0 r1 rf1 r2 rf2 r3 rf3)
            have HB8 := Lib.hid (HBc.out.trans (hB.mono HBc.out.size))
            clear hB hS
            go_wp2_with fail
            go_returns
            exact ⟨by rw [hRf.out]; rfl, hbW.trans (HB8.out.mono hbW.size)⟩
          · have hent : Hid ((match entryL b x.idx with | some y => !sameE x y | none => false) = false) := Lib.hid (by rw [Hent.out]; simp [← HQ.out])
            by_cases d2 : 0 < T
            · have s2 : decide ((0 : Int) < T) = true := by simpa using d2
              by_cases d3 : T = x.term
              · have s3 : (T != x.term) = false := by simpa using d3
                have hbad : Hid (rbadL b most x = false) := Lib.hid (by rw [rbadL, hent.out, ← HT.out]; simp [d3])
                clear d1 d2 d3
                refine wp_region_below (by kernel_rfl) (by kernel_rfl) (fun hkept => ?_)
                obtain ⟨r0, rf0⟩ := hkept (w.heap.size) (by go_size); obtain ⟨r1, rf1⟩ := hkept (q) (by go_size); obtain ⟨r2, rf2⟩ := hkept (g) (by go_size); obtain ⟨r3, rf3⟩ := hkept (pb) (by go_size); clear hkept
                repeat (any_goals (first | go_big_quiet_skip | (refine wpQuiet_loadR (HLB.out) rfl rfl (by rfl) ?_; simp only [Act.put, List.setIfInBounds_toArray, List.set_cons_succ, List.set_cons_zero]) | (refine wpQuiet_loadR (HLx.out) rfl rfl (by rfl) ?_; simp only [Act.put, List.setIfInBounds_toArray, List.set_cons_succ, List.set_cons_zero]) | (refine wpQuiet_loadR (HLy.out) rfl rfl (by rfl) ?_; simp only [Act.put, List.setIfInBounds_toArray, List.set_cons_succ, List.set_cons_zero]) | go_big_quiet_step (first | (go_at_call 66; exact Calls.regrown_of (KS.out _ _)) | (go_at_call 67; exact Calls.regrown_of (KT.out _ _))) | quiet_step (first | (go_at_call 66; exact Calls.regrown_of (KS.out _ _)) | (go_at_call 67; exact Calls.regrown_of (KT.out _ _))) | (refine wpQuiet_step (fun K hK => ?_); go_simp; split <;> (refine hK _ ?_; clear hK K))))
                all_goals (refine wpQuiet_nil ?_; intro w8 hb; obtain ⟨hB, hS, hk⟩ := after (B := wc.heap.size) (w := wc) (by go_grown) (by go_size) hb; obtain ⟨c0, f0, z0⟩ := hk (w.heap.size) (by go_size); obtain ⟨c1, f1, z1⟩ := hk (q) (by go_size); obtain ⟨c2, f2, z2⟩ := hk (g) (by go_size); obtain ⟨c3, f3, z3⟩ := hk (pb) (by go_size); clear hk hb r0 rf0 r1 rf1 r2 rf2 r3 rf3)
                have HB8 := Lib.hid (HBc.out.trans (hB.mono HBc.out.size))
                clear hB hS
                go_wp2_with fail
                exact ⟨⟨k + 1, by omega, by go_num, Lib.hid (by rw [Htk.out, hbad.out]), HB8.out⟩, by simp [intOf]; omega⟩
              · have s3 : (T != x.term) = true := by simpa using d3
                have hRf : Hid (R = true) := Lib.hid (HRt.out (by rw [rbadL, hent.out, ← HT.out]; simp [d1, d2, d3]))
                clear d1 d2 d3
                refine wp_region_below (by kernel_rfl) (by kernel_rfl) (fun hkept => ?_)
                obtain ⟨r0, rf0⟩ := hkept (w.heap.size) (by go_size); obtain ⟨r1, rf1⟩ := hkept (q) (by go_size); obtain ⟨r2, rf2⟩ := hkept (g) (by go_size); obtain ⟨r3, rf3⟩ := hkept (pb) (by go_size); clear hkept
                repeat (any_goals (first | go_big_quiet_skip | (refine wpQuiet_loadR (HLB.out) rfl rfl (by rfl) ?_; simp only [Act.put, List.setIfInBounds_toArray, List.set_cons_succ, List.set_cons_zero]) | (refine wpQuiet_loadR (HLx.out) rfl rfl (by rfl) ?_; simp only [Act.put, List.setIfInBounds_toArray, List.set_cons_succ, List.set_cons_zero]) | (refine wpQuiet_loadR (HLy.out) rfl rfl (by rfl) ?_; simp only [Act.put, List.setIfInBounds_toArray, List.set_cons_succ, List.set_cons_zero]) | go_big_quiet_step (first | (go_at_call 66; exact Calls.regrown_of (KS.out _ _)) | (go_at_call 67; exact Calls.regrown_of (KT.out _ _))) | quiet_step (first | (go_at_call 66; exact Calls.regrown_of (KS.out _ _)) | (go_at_call 67; exact Calls.regrown_of (KT.out _ _))) | (refine wpQuiet_step (fun K hK => ?_); go_simp; split <;> (refine hK _ ?_; clear hK K))))
                all_goals (refine wpQuiet_nil ?_; intro w8 hb; obtain ⟨hB, hS, hk⟩ := after (B := wc.heap.size) (w := wc) (by go_grown) (by go_size) hb; obtain ⟨c0, f0, z0⟩ := hk (w.heap.size) (by go_size); obtain ⟨c1, f1, z1⟩ := hk (q) (by go_size); obtain ⟨c2, f2, z2⟩ := hk (g) (by go_size); obtain ⟨c3, f3, z3⟩ := hk (pb) (by go_size); clear hk hb r0 rf0 r1 rf1 r2 rf2 r3 rf3)
                have HB8 := Lib.hid (HBc.out.trans (hB.mono HBc.out.size))
                clear hB hS
                go_wp2_with fail
                go_returns
                exact ⟨by rw [hRf.out]; rfl, hbW.trans (HB8.out.mono hbW.size)⟩
            · have s2 : decide ((0 : Int) < T) = false := by simpa using d2
              have hbad : Hid (rbadL b most x = false) := Lib.hid (by rw [rbadL, hent.out, ← HT.out]; simp [d2])
              clear d1 d2
              refine wp_region_below (by kernel_rfl) (by kernel_rfl) (fun hkept => ?_)
              obtain ⟨r0, rf0⟩ := hkept (w.heap.size) (by go_size); obtain ⟨r1, rf1⟩ := hkept (q) (by go_size); obtain ⟨r2, rf2⟩ := hkept (g) (by go_size); obtain ⟨r3, rf3⟩ := hkept (pb) (by go_size); clear hkept
              repeat (any_goals (first | go_big_quiet_skip | (refine wpQuiet_loadR (HLB.out) rfl rfl (by rfl) ?_; simp only [Act.put, List.setIfInBounds_toArray, List.set_cons_succ, List.set_cons_zero]) | (refine wpQuiet_loadR (HLx.out) rfl rfl (by rfl) ?_; simp only [Act.put, List.setIfInBounds_toArray, List.set_cons_succ, List.set_cons_zero]) | (refine wpQuiet_loadR (HLy.out) rfl rfl (by rfl) ?_; simp only [Act.put, List.setIfInBounds_toArray, List.set_cons_succ, List.set_cons_zero]) | go_big_quiet_step (first | (go_at_call 66; exact Calls.regrown_of (KS.out _ _)) | (go_at_call 67; exact Calls.regrown_of (KT.out _ _))) | quiet_step (first | (go_at_call 66; exact Calls.regrown_of (KS.out _ _)) | (go_at_call 67; exact Calls.regrown_of (KT.out _ _))) | (refine wpQuiet_step (fun K hK => ?_); go_simp; split <;> (refine hK _ ?_; clear hK K))))
              all_goals (refine wpQuiet_nil ?_; intro w8 hb; obtain ⟨hB, hS, hk⟩ := after (B := wc.heap.size) (w := wc) (by go_grown) (by go_size) hb; obtain ⟨c0, f0, z0⟩ := hk (w.heap.size) (by go_size); obtain ⟨c1, f1, z1⟩ := hk (q) (by go_size); obtain ⟨c2, f2, z2⟩ := hk (g) (by go_size); obtain ⟨c3, f3, z3⟩ := hk (pb) (by go_size); clear hk hb r0 rf0 r1 rf1 r2 rf2 r3 rf3)
              have HB8 := Lib.hid (HBc.out.trans (hB.mono HBc.out.size))
              clear hB hS
              go_wp2_with fail
              exact ⟨⟨k + 1, by omega, by go_num, Lib.hid (by rw [Htk.out, hbad.out]), HB8.out⟩, by simp [intOf]; omega⟩
      · have s1 : decide (x.idx ≤ most) = false := by simpa using d1
        have hbad : Hid (rbadL b most x = false) := Lib.hid (by rw [rbadL]; simp [d1])
        clear d1
        refine wp_region_below (by kernel_rfl) (by kernel_rfl) (fun hkept => ?_)
        obtain ⟨r0, rf0⟩ := hkept (w.heap.size) (by go_size); obtain ⟨r1, rf1⟩ := hkept (q) (by go_size); obtain ⟨r2, rf2⟩ := hkept (g) (by go_size); obtain ⟨r3, rf3⟩ := hkept (pb) (by go_size); clear hkept
        repeat (any_goals (first | go_big_quiet_skip | (refine wpQuiet_loadR (HLB.out) rfl rfl (by rfl) ?_; simp only [Act.put, List.setIfInBounds_toArray, List.set_cons_succ, List.set_cons_zero]) | go_big_quiet_step (first | (go_at_call 67; exact Calls.regrown_of (KT.out _ _))) | quiet_step (first | (go_at_call 67; exact Calls.regrown_of (KT.out _ _))) | (refine wpQuiet_step (fun K hK => ?_); go_simp; split <;> (refine hK _ ?_; clear hK K))))
        all_goals (refine wpQuiet_nil ?_; intro w8 hb; obtain ⟨hB, hS, hk⟩ := after (B := wc.heap.size) (w := wc) (by go_grown) (by go_size) hb; obtain ⟨c0, f0, z0⟩ := hk (w.heap.size) (by go_size); obtain ⟨c1, f1, z1⟩ := hk (q) (by go_size); obtain ⟨c2, f2, z2⟩ := hk (g) (by go_size); obtain ⟨c3, f3, z3⟩ := hk (pb) (by go_size); clear hk hb r0 rf0 r1 rf1 r2 rf2 r3 rf3)
        have HB8 := Lib.hid (HBc.out.trans (hB.mono HBc.out.size))
        clear hB hS
        go_wp2_with fail
        exact ⟨⟨k + 1, by omega, by go_num, Lib.hid (by rw [Htk.out, hbad.out]), HB8.out⟩, by simp [intOf]; omega⟩
    · obtain rfl : k = a.en := by omega
      have HR2 : Hid (R = rbaseL a b most) := Lib.hid (by
        have := hF.out
        rw [List.take_of_length_le (by rw [Hn.out]; exact Nat.le_refl _)] at this
        rw [HR.out, this, Bool.false_or])
      have x6 := hAr.at_ 6 _ rfl
      have x7 := hAr.at_ 7 _ rfl
      simp only [Nat.zero_add] at x6 x7
      have HLB := Lib.hid hBr2.regrown
      have hqr : q < wr.heap.size := by omega
      have hwr : w.heap.size < wr.heap.size := by omega
      obtain ⟨T, hT⟩ : ∃ T, T = termL b a.bidx := ⟨_, rfl⟩
      have KT := Lib.hid fun d os => rterm_any b a.bidx (grow (redrawn wr d) os) (Hb.out.below (hbr.trans ((below_regrown wr d os).mono (by omega))))
      rw [← hT] at KT
      simp only [SeenA.v] at KT
      have HT := Lib.hid hT
      clear hT hAr hBr2
      go_upto_region 10 with fail
      by_cases d1 : 0 < a.bidx
      · have s1 : decide ((0 : Int) < a.bidx) = true := by simpa using d1
        by_cases d2 : a.bidx ≤ most
        · have s2 : decide (a.bidx ≤ most) = true := by simpa using d2
          by_cases d3 : 0 < T
          · have s3 : decide ((0 : Int) < T) = true := by simpa using d3
            by_cases d4 : T = a.bterm
            · have s4 : (T != a.bterm) = false := by simpa using d4
              have hRf : Hid (R = false) := Lib.hid (by rw [HR2.out, rbaseL, ← HT.out]; simp [d4])
              clear d1 d2 d3 d4
              refine wp_region_below (by kernel_rfl) (by kernel_rfl) (fun hkept => ?_)
              obtain ⟨r0, rf0⟩ := hkept (w.heap.size) (by go_size); obtain ⟨r1, rf1⟩ := hkept (q) (by go_size); clear hkept
              repeat (any_goals (first | go_big_quiet_skip | (refine wpQuiet_loadR (HLB.out) rfl rfl (by rfl) ?_; simp only [Act.put, List.setIfInBounds_toArray, List.set_cons_succ, List.set_cons_zero]) | go_big_quiet_step (first | (go_at_call 67; exact Calls.regrown_of (KT.out _ _))) | quiet_step (first | (go_at_call 67; exact Calls.regrown_of (KT.out _ _))) | (refine wpQuiet_step (fun K hK => ?_); go_simp; split <;> (refine hK _ ?_; clear hK K))))
              all_goals (refine wpQuiet_nil ?_; intro w8 hb; obtain ⟨hB, hS, hk⟩ := after (B := wr.heap.size) (w := wr) (by go_grown) (by go_size) hb; obtain ⟨c0, f0, z0⟩ := hk (w.heap.size) (by go_size); obtain ⟨c1, f1, z1⟩ := hk (q) (by go_size); clear hk hb r0 rf0 r1 rf1)
              have HB8 := Lib.hid (hBr.trans (hB.mono hBr.size))
              clear hB hS
              go_wp2_with fail
              go_returns
              exact ⟨by rw [hRf.out]; rfl, hbW.trans (HB8.out.mono hbW.size)⟩
            · have s4 : (T != a.bterm) = true := by simpa using d4
              have hRf : Hid (R = true) := Lib.hid (by rw [HR2.out, rbaseL, ← HT.out]; simp [d1, d2, d3, d4])
              clear d1 d2 d3 d4
              refine wp_region_below (by kernel_rfl) (by kernel_rfl) (fun hkept => ?_)
              obtain ⟨r0, rf0⟩ := hkept (w.heap.size) (by go_size); obtain ⟨r1, rf1⟩ := hkept (q) (by go_size); clear hkept
              repeat (any_goals (first | go_big_quiet_skip | (refine wpQuiet_loadR (HLB.out) rfl rfl (by rfl) ?_; simp only [Act.put, List.setIfInBounds_toArray, List.set_cons_succ, List.set_cons_zero]) | go_big_quiet_step (first | (go_at_call 67; exact Calls.regrown_of (KT.out _ _))) | quiet_step (first | (go_at_call 67; exact Calls.regrown_of (KT.out _ _))) | (refine wpQuiet_step (fun K hK => ?_); go_simp; split <;> (refine hK _ ?_; clear hK K))))
              all_goals (refine wpQuiet_nil ?_; intro w8 hb; obtain ⟨hB, hS, hk⟩ := after (B := wr.heap.size) (w := wr) (by go_grown) (by go_size) hb; obtain ⟨c0, f0, z0⟩ := hk (w.heap.size) (by go_size); obtain ⟨c1, f1, z1⟩ := hk (q) (by go_size); clear hk hb r0 rf0 r1 rf1)
              have HB8 := Lib.hid (hBr.trans (hB.mono hBr.size))
              clear hB hS
              go_wp2_with fail
              go_returns
              exact ⟨by rw [hRf.out]; rfl, hbW.trans (HB8.out.mono hbW.size)⟩
          · have s3 : decide ((0 : Int) < T) = false := by simpa using d3
            have hRf : Hid (R = false) := Lib.hid (by rw [HR2.out, rbaseL, ← HT.out]; simp [d3])
            clear d1 d2 d3
            refine wp_region_below (by kernel_rfl) (by kernel_rfl) (fun hkept => ?_)
            obtain ⟨r0, rf0⟩ := hkept (w.heap.size) (by go_size); obtain ⟨r1, rf1⟩ := hkept (q) (by go_size); clear hkept
            repeat (any_goals (first | go_big_quiet_skip | (refine wpQuiet_loadR (HLB.out) rfl rfl (by rfl) ?_; simp only [Act.put, List.setIfInBounds_toArray, List.set_cons_succ, List.set_cons_zero]) | go_big_quiet_step (first | (go_at_call 67; exact Calls.regrown_of (KT.out _ _))) | quiet_step (first | (go_at_call 67; exact Calls.regrown_of (KT.out _ _))) | (refine wpQuiet_step (fun K hK => ?_); go_simp; split <;> (refine hK _ ?_; clear hK K))))
            all_goals (refine wpQuiet_nil ?_; intro w8 hb; obtain ⟨hB, hS, hk⟩ := after (B := wr.heap.size) (w := wr) (by go_grown) (by go_size) hb; obtain ⟨c0, f0, z0⟩ := hk (w.heap.size) (by go_size); obtain ⟨c1, f1, z1⟩ := hk (q) (by go_size); clear hk hb r0 rf0 r1 rf1)
            have HB8 := Lib.hid (hBr.trans (hB.mono hBr.size))
            clear hB hS
            go_wp2_with fail
            go_returns
            exact ⟨by rw [hRf.out]; rfl, hbW.trans (HB8.out.mono hbW.size)⟩
        · have s2 : decide (a.bidx ≤ most) = false := by simpa using d2
          have hRf : Hid (R = false) := Lib.hid (by rw [HR2.out, rbaseL, ← HT.out]; simp [d2])
          clear d1 d2
          refine wp_region_below (by kernel_rfl) (by kernel_rfl) (fun hkept => ?_)
          obtain ⟨r0, rf0⟩ := hkept (w.heap.size) (by go_size); obtain ⟨r1, rf1⟩ := hkept (q) (by go_size); clear hkept
          repeat (any_goals (first | go_big_quiet_skip | (refine wpQuiet_loadR (HLB.out) rfl rfl (by rfl) ?_; simp only [Act.put, List.setIfInBounds_toArray, List.set_cons_succ, List.set_cons_zero]) | go_big_quiet_step (first | (go_at_call 67; exact Calls.regrown_of (KT.out _ _))) | quiet_step (first | (go_at_call 67; exact Calls.regrown_of (KT.out _ _))) | (refine wpQuiet_step (fun K hK => ?_); go_simp; split <;> (refine hK _ ?_; clear hK K))))
          all_goals (refine wpQuiet_nil ?_; intro w8 hb; obtain ⟨hB, hS, hk⟩ := after (B := wr.heap.size) (w := wr) (by go_grown) (by go_size) hb; obtain ⟨c0, f0, z0⟩ := hk (w.heap.size) (by go_size); obtain ⟨c1, f1, z1⟩ := hk (q) (by go_size); clear hk hb r0 rf0 r1 rf1)
          have HB8 := Lib.hid (hBr.trans (hB.mono hBr.size))
          clear hB hS
          go_wp2_with fail
          go_returns
          exact ⟨by rw [hRf.out]; rfl, hbW.trans (HB8.out.mono hbW.size)⟩
      · have s1 : decide ((0 : Int) < a.bidx) = false := by simpa using d1
        have hRf : Hid (R = false) := Lib.hid (by rw [HR2.out, rbaseL, ← HT.out]; simp [d1])
        clear d1
        refine wp_region_below (by kernel_rfl) (by kernel_rfl) (fun hkept => ?_)
        obtain ⟨r0, rf0⟩ := hkept (w.heap.size) (by go_size); obtain ⟨r1, rf1⟩ := hkept (q) (by go_size); clear hkept
        repeat (any_goals (first | go_big_quiet_skip | (refine wpQuiet_loadR (HLB.out) rfl rfl (by rfl) ?_; simp only [Act.put, List.setIfInBounds_toArray, List.set_cons_succ, List.set_cons_zero]) | go_big_quiet_step (first | (go_at_call 67; exact Calls.regrown_of (KT.out _ _))) | quiet_step (first | (go_at_call 67; exact Calls.regrown_of (KT.out _ _))) | (refine wpQuiet_step (fun K hK => ?_); go_simp; split <;> (refine hK _ ?_; clear hK K))))
        all_goals (refine wpQuiet_nil ?_; intro w8 hb; obtain ⟨hB, hS, hk⟩ := after (B := wr.heap.size) (w := wr) (by go_grown) (by go_size) hb; obtain ⟨c0, f0, z0⟩ := hk (w.heap.size) (by go_size); obtain ⟨c1, f1, z1⟩ := hk (q) (by go_size); clear hk hb r0 rf0 r1 rf1)
        have HB8 := Lib.hid (hBr.trans (hB.mono hBr.size))
        clear hB hS
        go_wp2_with fail
        go_returns
        exact ⟨by rw [hRf.out]; rfl, hbW.trans (HB8.out.mono hbW.size)⟩
end Go.Proofs.Yteibnignjghedaa
