/-
  May what a replica shows be: the walk of audit.may.
-/
import Derived.Test.YteibnignjghedaaAudS
import Derived.IntWalk
import Derived.Deep.DeepCutAuto
namespace Go.Proofs.Yteibnignjghedaa
open Go.RowKit

theorem u64_wrapS (i : Int) (h0 : 0 ≤ i) (h1 : i ≤ 18446744073709551615) : IntKind.u64.wrap (i + 1) = if i = 18446744073709551615 then 0 else i + 1 := by
  have : IntKind.u64.wrap (i + 1) = (i + 1) % 18446744073709551616 := by simp [IntKind.wrap, IntKind.bits, IntKind.signed]
  rw [this]
  split <;> omega
theorem lastX_take {i : Int} {l : List EntA} {k : Nat} {e : EntA} (he : l[k]? = some e) : lastX i (l.take (k + 1)) = e.idx := by rw [List.take_add_one, he]; exact lastX_snoc i _ e
theorem lastT_take {i : Int} {l : List EntA} {k : Nat} {e : EntA} (he : l[k]? = some e) : lastT i (l.take (k + 1)) = e.term := by rw [List.take_add_one, he]; exact lastT_snoc i _ e
theorem chain_take {i t : Int} {l : List EntA} {k : Nat} {e : EntA} (he : l[k]? = some e) : chainL i t (l.take (k + 1)) = (chainL i t (l.take k) && stepL (lastX i (l.take k)) (lastT t (l.take k)) e) := by
  rw [List.take_add_one, he]; exact chain_snoc
theorem lastX_bound {i : Int} {l : List EntA} (hi : 0 ≤ i ∧ i ≤ 18446744073709551615) (h : ∀ e ∈ l, e.Ok) : 0 ≤ lastX i l ∧ lastX i l ≤ 18446744073709551615 := by
  unfold lastX
  cases hl : l.getLast? with
  | none => exact hi
  | some e => have := h e (List.mem_of_getLast? hl); exact ⟨this.i0, this.i1⟩
theorem lastT_bound {i : Int} {l : List EntA} (hi : 0 ≤ i ∧ i ≤ 18446744073709551615) (h : ∀ e ∈ l, e.Ok) : 0 ≤ lastT i l ∧ lastT i l ≤ 18446744073709551615 := by
  unfold lastT
  cases hl : l.getLast? with
  | none => exact hi
  | some e => have := h e (List.mem_of_getLast? hl); exact ⟨this.t0, this.t1⟩

set_option maxRecDepth 100000 in
set_option maxHeartbeats 8000000 in
theorem may_any (s : SeenA) (w : World) (h : s.In w) (hok : s.Ok) :
    Calls Try.prog 19 #[s.v] w fun e w' => e = .returned (.bool (mayS s)) ∧ Below w.heap.size w w' := by
  obtain ⟨R, hR⟩ : ∃ R, R = mayS s := ⟨_, rfl⟩
  rw [← hR]
  have HR := Lib.hid hR
  have HI := Lib.hid h
  have HOk := Lib.hid hok
  have hc1 := Arr.fits h.es.arr
  have hc2 := Arr.max h.es.arr
  unfold maxLen at hc2
  have Hn := Lib.hid h.es.len
  simp only [SeenA.v]
  clear hR h hok
  go_enter Try.func19, Try.ntmps19
  go_upto_region 1 with fail
  obtain ⟨W, hW⟩ : ∃ W : World, W = w.alloc (.cells s.l.toArray 49) := ⟨_, rfl⟩
  have hA : SeenAt W w.heap.size 0 s := by rw [hW]; exact SeenAt.new w s _
  have hbW : Below w.heap.size w W := by rw [hW]; exact (Below.refl _ _).alloc (Nat.le_refl _) _
  have hzW : W.heap.size = w.heap.size + 1 := by rw [hW]; simp
  have x0 := hA.at_ 0 _ rfl
  have x1 := hA.at_ 1 _ rfl
  have x6 := hA.at_ 6 _ rfl
  have x7 := hA.at_ 7 _ rfl
  have x8 := hA.at_ 8 _ rfl
  have x9 := hA.at_ 9 _ rfl
  have x10 := hA.at_ 10 _ rfl
  have x11 := hA.at_ 11 _ rfl
  have x12 := hA.at_ 12 _ rfl
  have x13 := hA.at_ 13 _ rfl
  simp only [Nat.zero_add] at x0 x1 x6 x7 x8 x9 x10 x11 x12 x13
  rw [← hW]
  clear hW hA
  obtain ⟨W1, hW1⟩ : ∃ W1 : World, W1 = W.alloc (.cells #[.int .u64 s.bidx, .int .u64 s.bterm, .slice s.ba s.bn s.bc] 41) := ⟨_, rfl⟩
  have HW1 := Lib.hid hW1
  clear hW1
  go_upto_region 2 with fail
  obtain ⟨q, hq⟩ : ∃ q, q = w.heap.size + 1 := ⟨_, rfl⟩
  rw [← HW1.out, ← hq]
  have hb1 : Below W.heap.size W W1 := by rw [HW1.out]; exact (Below.refl _ _).alloc (Nat.le_refl _) _
  have hz1 : W1.heap.size = W.heap.size + 1 := by rw [HW1.out]; simp
  have hqW : q = W.heap.size := by omega
  have y0 : W1.cell? ⟨q, 0, none⟩ = some (.int .u64 s.bidx) := by rw [hqW, HW1.out]; go_simp
  have y1 : W1.cell? ⟨q, 1, none⟩ = some (.int .u64 s.bterm) := by rw [hqW, HW1.out]; go_simp
  have y2 : W1.cell? ⟨q, 2, none⟩ = some (.slice s.ba s.bn s.bc) := by rw [hqW, HW1.out]; go_simp
  have hlW : w.heap.size < W.heap.size := by omega
  have k1 := fun o => hb1.cell (p := ⟨w.heap.size, o, none⟩) hlW
  have x0 := (k1 _).trans x0
  have x1 := (k1 _).trans x1
  have x6 := (k1 _).trans x6
  have x7 := (k1 _).trans x7
  have x8 := (k1 _).trans x8
  have x9 := (k1 _).trans x9
  have x10 := (k1 _).trans x10
  have x11 := (k1 _).trans x11
  have x12 := (k1 _).trans x12
  have x13 := (k1 _).trans x13
  have hbw1 : Below w.heap.size w W1 := hbW.trans (hb1.mono (by omega))
  have hl1 : q < W1.heap.size := by omega
  have hl0 : w.heap.size < q := by omega
  clear k1 hb1 HW1 hq hqW hz1 hzW hlW hbW
  go_cut [4] (fun a wx => a = .bool (zeroS s) ∧ W1 = wx)
  case first =>
    cases h0 : (s.bidx == 0) <;> cases h1 : (s.bterm == 0) <;> cases h2 : ((s.bn : Int) == 0)
    all_goals
      go_wp2_with fail
      go_meet
      refine ⟨?_, rfl⟩
      simp only [beq_iff_eq, beq_eq_false_iff_ne, ne_eq] at h0 h1 h2
      simp [zeroS, h0, h1] <;> omega
  case rest =>
    obtain ⟨rfl, rfl⟩ := hcut
    have hd : headS s = true ∨ ((decide (s.node < 0) = true ∨ (decide (s.node < 0) = false ∧ decide (5 ≤ s.node) = true) ∨ (decide (s.node < 0) = false ∧ decide (5 ≤ s.node) = false ∧ decide (s.group < 0) = true) ∨ (decide (s.node < 0) = false ∧ decide (5 ≤ s.node) = false ∧ decide (s.group < 0) = false ∧ decide (12 ≤ s.group) = true)) ∧ headS s = false) := by
      simp only [headS, decide_eq_true_eq, decide_eq_false_iff_not, Bool.and_eq_true, Bool.and_eq_false_iff]
      omega
    rcases hd with hd | ⟨hd, hf⟩
    case inr =>
      have hRf : Hid (R = false) := Lib.hid (by rw [HR.out, mayS, hf]; rfl)
      rcases hd with d1 | ⟨d1, d2⟩ | ⟨d1, d2, d3⟩ | ⟨d1, d2, d3, d4⟩
      all_goals
        go_wp2_with fail
        go_returns
        exact ⟨by rw [hRf.out]; rfl, by go_grown⟩
    have HR : Hid (R = (baseS s && chainL s.bidx s.bterm s.es && tailS s)) := Lib.hid (by rw [HR.out, mayS, hd, Bool.true_and])
    have d1 : decide (s.node < 0) = false := by simp only [headS, Bool.and_eq_true, decide_eq_true_eq] at hd; simp; omega
    have d2 : decide (5 ≤ s.node) = false := by simp only [headS, Bool.and_eq_true, decide_eq_true_eq] at hd; simp; omega
    have d3 : decide (s.group < 0) = false := by simp only [headS, Bool.and_eq_true, decide_eq_true_eq] at hd; simp; omega
    have d4 : decide (12 ≤ s.group) = false := by simp only [headS, Bool.and_eq_true, decide_eq_true_eq] at hd; simp; omega
    clear hd
    go_upto_region 5 with fail
    obtain ⟨Z, hZ⟩ : ∃ Z, Z = zeroS s := ⟨_, rfl⟩
    have HZ := Lib.hid hZ
    rw [← hZ]
    clear hZ
    go_cut [44] (fun a wx => a = .bool (!baseS s) ∧ W1 = wx)
    case first =>
      have KM := Lib.hid (members_any s.ba s.bn s.bc s.bm W1 (HI.out.bm.below hbw1))
      obtain ⟨M, hM⟩ : ∃ M, M = membersL s.bm := ⟨_, rfl⟩
      have HB : Hid (baseS s = (Z || (!decide (s.bidx = 0) && !decide (s.bterm = 0) && M))) := Lib.hid (by rw [HZ.out, hM, baseS])
      rw [← hM] at KM
      clear hM HZ
      cases Z
      · by_cases h0 : s.bidx = 0
        · have e0 : (s.bidx == 0) = true := by simpa using h0
          have e1 : Hid (baseS s = false) := Lib.hid (by rw [HB.out]; simp [h0])
          go_wp2_with fail
          go_meet
          exact ⟨by rw [e1.out]; rfl, rfl⟩
        · have e0 : (s.bidx == 0) = false := by simpa using h0
          by_cases h1 : s.bterm = 0
          · have e2 : (s.bterm == 0) = true := by simpa using h1
            have e1 : Hid (baseS s = false) := Lib.hid (by rw [HB.out]; simp [h1])
            go_wp2_with fail
            go_meet
            exact ⟨by rw [e1.out]; rfl, rfl⟩
          · have e2 : (s.bterm == 0) = false := by simpa using h1
            have e1 : Hid (baseS s = M) := Lib.hid (by rw [HB.out]; simp [h0, h1])
            cases M
            all_goals
              go_wp2_with (go_at_call 37; refine (KM.out).mono ?_; rintro e w' ⟨rfl, rfl⟩)
              go_meet
              exact ⟨by rw [e1.out]; rfl, rfl⟩
      · have e1 : Hid (baseS s = true) := Lib.hid (by rw [HB.out]; rfl)
        go_wp2_with fail
        go_meet
        exact ⟨by rw [e1.out]; rfl, rfl⟩
    case rest =>
      obtain ⟨rfl, rfl⟩ := hcut
      cases hB : baseS s
      · have hRf : Hid (R = false) := Lib.hid (by rw [HR.out, hB]; rfl)
        go_wp2_with fail
        go_returns
        exact ⟨by rw [hRf.out]; rfl, hbw1⟩
      · have HR : Hid (R = (chainL s.bidx s.bterm s.es && tailS s)) := Lib.hid (by rw [HR.out, hB, Bool.true_and])
        clear hB
        simp only [Bool.not_true]
        clear x0 x8 d1 d2 d3 d4
        go_wp2_with fail
        refine wp_region_below (by kernel_rfl) (by kernel_rfl) (fun hkept => ?_)
        obtain ⟨r0, rf0⟩ := hkept (w.heap.size) (by go_size); obtain ⟨r1, rf1⟩ := hkept (q) (by go_size); clear hkept
        repeat (any_goals (first | go_big_quiet_step (fail) | quiet_step (fail) | (refine wpQuiet_step (fun K hK => ?_); go_simp; split <;> (refine hK _ ?_; clear hK K))))
        all_goals (refine wpQuiet_nil ?_; intro w2 hb; obtain ⟨hB, hS, hk⟩ := after (B := W1.heap.size) (w := W1) (by go_grown) (by go_size) hb; obtain ⟨c0, f0, z0⟩ := hk (w.heap.size) (by go_size); obtain ⟨c1, f1, z1⟩ := hk (q) (by go_size); clear hk hb r0 rf0 r1 rf1)
        have x6 := (c0 _).trans x6
        have x7 := (c0 _).trans x7
        have x1 := (c0 _).trans x1
        have x9 := (c0 _).trans x9
        have x10 := (c0 _).trans x10
        have x11 := (c0 _).trans x11
        have x12 := (c0 _).trans x12
        have x13 := (c0 _).trans x13
        have y0 := (c1 _).trans y0
        have y1 := (c1 _).trans y1
        have hbw2 : Below w.heap.size w w2 := hbw1.trans (hB.mono hbw1.size)
        have hl2 : q < w2.heap.size := by omega
        clear c0 f0 z0 c1 f1 z1 hB hbw1 hl1
        go_wp2_with fail
        obtain ⟨n, hn⟩ : ∃ n, n = s.en := ⟨_, rfl⟩
        have HE := Lib.hid HI.out.es
        rw [← hn] at hc1 Hn HE x9 ⊢
        clear hn
        go_loopw [5, 6, 70] (fun ix tm i wr => ∃ k : Nat, k ≤ n ∧ i = .int .i64 k ∧ ix = .int .u64 (lastX s.bidx (s.es.take k)) ∧ tm = .int .u64 (lastT s.bterm (s.es.take k)) ∧ Hid (chainL s.bidx s.bterm (s.es.take k) = true) ∧ Hid (Below w2.heap.size w2 wr)) (fun _ _ i _ => n - (intOf i).toNat)
        case atStart => exact ⟨0, by omega, rfl, rfl, rfl, Lib.hid rfl, Lib.hid (Below.refl _ _)⟩
        case round =>
          obtain ⟨k, hk, rfl, rfl, rfl, hC, hB2⟩ := hrel
          have hz2 := hB2.out.size
          have hbwr : Below w.heap.size w wr := hbw2.trans (hB2.out.mono hbw2.size)
          have k0 := fun o => hB2.out.cell (p := ⟨w.heap.size, o, none⟩) (Nat.lt_trans hl0 hl2)
          have k1 := fun o => hB2.out.cell (p := ⟨q, o, none⟩) hl2
          have hlr : q < wr.heap.size := by omega
          have hlw : w.heap.size < wr.heap.size := by omega
          have hib := lastX_bound (l := s.es.take k) ⟨HOk.out.i0, HOk.out.i1⟩ (fun e he => HOk.out.es e (List.mem_of_mem_take he))
          have htb := lastT_bound (l := s.es.take k) ⟨HOk.out.t0, HOk.out.t1⟩ (fun e he => HOk.out.es e (List.mem_of_mem_take he))
          by_cases hlt : k < n
          · obtain ⟨e, he⟩ : ∃ e, s.es[k]? = some e := ⟨_, List.getElem?_eq_getElem (by rw [Hn.out]; omega)⟩
            obtain ⟨b, off, e0, hbl, hEA, hEI⟩ := HE.out.at_ he
            have hek := HOk.out.es e (List.mem_of_getElem? he)
            have HL := Lib.hid (hEA.below hbwr).load
            have HF := Lib.hid (fun (h : stepL (lastX s.bidx (s.es.take k)) (lastT s.bterm (s.es.take k)) e = false) => chain_fail he h)
            have HS1 := Lib.hid (chain_take (i := s.bidx) (t := s.bterm) he)
            have HX1 := Lib.hid (lastX_take (i := s.bidx) he)
            have HT1 := Lib.hid (lastT_take (i := s.bterm) he)
            rw [e0] at x9 ⊢
            obtain ⟨I, hI⟩ : ∃ I, I = lastX s.bidx (s.es.take k) := ⟨_, rfl⟩
            obtain ⟨T, hT⟩ : ∃ T, T = lastT s.bterm (s.es.take k) := ⟨_, rfl⟩
            rw [← hI] at hib HF HS1 ⊢
            rw [← hT] at htb HF HS1 ⊢
            have g0 : e.l[0]? = some (.int .u64 e.idx) := rfl
            have g1 : e.l[1]? = some (.int .u64 e.term) := rfl
            have g2 : e.l[2]? = some (.int .i64 e.kind) := rfl
            have g3 : e.l[23]? = some (.slice e.ma e.mn e.mc) := rfl
            have KM := Lib.hid fun (W : World) (hW : Below wr.heap.size wr W) => members_any e.ma e.mn e.mc e.mem W (hEI.below (hbwr.trans (hW.mono hbwr.size)))
            clear he hEA hI hT e0
            go_upto_region 11 with (first | (refine wpList_loadK rfl (by rfl) rfl (by exact HL.out) ?_; simp only [Act.put, List.setIfInBounds_toArray, List.set_cons_succ, List.set_cons_zero]) | (refine wpList_storeN rfl rfl rfl rfl (by rfl) (by kernel_rfl) (by rfl) (EntA.all _) ?_; simp only [Act.put, List.setIfInBounds_toArray, List.set_cons_succ, List.set_cons_zero]))
            obtain ⟨W3, hW3⟩ : ∃ W3 : World, W3 = wr.alloc (.cells e.l.toArray 60) := ⟨_, rfl⟩
            have hE3 : EntAt W3 wr.heap.size 0 e := by rw [hW3]; exact EntAt.new wr e _
            have hb3 : Below wr.heap.size wr W3 := by rw [hW3]; exact (Below.refl _ _).alloc (Nat.le_refl _) _
            have hz3 : W3.heap.size = wr.heap.size + 1 := by rw [hW3]; simp
            obtain ⟨p, hp⟩ : ∃ p, p = wr.heap.size := ⟨_, rfl⟩
            rw [← hW3, ← hp]
            rw [← hp] at hE3
            have v0 := hE3.idx
            have v1 := hE3.term
            have v2 := hE3.kind
            have v3 := hE3.mem
            simp only [Nat.zero_add] at v0 v1 v2 v3
            have hpl : p < W3.heap.size := by omega
            have k0 := (fun o => (hb3.cell (p := ⟨w.heap.size, o, none⟩) hlw).trans (k0 o))
            have hbw3 : Below w.heap.size w W3 := hbwr.trans (hb3.mono hbwr.size)
            have hB3 := Lib.hid (hB2.out.trans (hb3.mono hz2))
            have hKM := Lib.hid (KM.out W3 hb3)
            obtain ⟨v, hv⟩ : ∃ v, IntKind.u64.wrap (I + 1) = v := ⟨_, rfl⟩
            have hve : (¬ e.idx = 0 ∧ e.idx = v) ↔ e.idx = I + 1 := by
              rw [u64_wrapS I hib.1 hib.2] at hv
              have := hek.i0
              have := hek.i1
              split at hv <;> omega
            obtain ⟨M, hM⟩ : ∃ M, M = membersL e.mem := ⟨_, rfl⟩
            have HST : Hid (stepL I T e = (decide (e.idx = I + 1) && decide (T ≤ e.term) && decide (1 ≤ e.term) && (!decide (e.kind = 2) || M))) := Lib.hid (by rw [hM, stepL])
            rw [← hM] at hKM
            have hik0 : (0 : Int) ≤ (k : Int) := by omega
            clear hM hE3 hW3 hb3 hp KM g0 g1 g2 g3 HL
            by_cases s0 : e.idx = I + 1
            case neg =>
              have hRf : Hid (R = false) := Lib.hid (by rw [HR.out, HF.out (by rw [HST.out]; simp [s0])]; rfl)
              have hs1 : e.idx = 0 ∨ (¬ e.idx = 0 ∧ ¬ e.idx = v) := by
                by_cases h0 : e.idx = 0
                · exact .inl h0
                · exact .inr ⟨h0, fun h1 => s0 (hve.1 ⟨h0, h1⟩)⟩
              clear s0 hve
              rcases hs1 with h0 | ⟨h0, h1⟩
              · have t0 : (e.idx == 0) = true := by simpa using h0
                clear h0
                go_wp2_with fail
                go_returns
                exact ⟨by rw [hRf.out]; rfl, hbw3⟩
              · have t0 : (e.idx == 0) = false := by simpa using h0
                have t1 : (e.idx != v) = true := by simpa using h1
                clear h0 h1
                go_wp2_with fail
                go_returns
                exact ⟨by rw [hRf.out]; rfl, hbw3⟩
            obtain ⟨h0, h1⟩ := hve.2 s0
            have t0 : (e.idx == 0) = false := by simpa using h0
            have t1 : (e.idx != v) = false := by simpa using h1
            have hS0 := Lib.hid s0
            clear h0 h1 hve s0
            by_cases s1 : e.term < max T 1
            · have hRf : Hid (R = false) := Lib.hid (by rw [HR.out, HF.out (by rw [HST.out]; simp only [Bool.and_eq_false_iff, decide_eq_false_iff_not]; omega)]; rfl)
              have t2 : decide (e.term < max T 1) = true := by simpa using s1
              clear s1
              go_wp2_with fail
              go_returns
              exact ⟨by rw [hRf.out]; rfl, hbw3⟩
            · have t2 : decide (e.term < max T 1) = false := by simpa using s1
              have hT1 : T ≤ e.term := by omega
              have hT2 : 1 ≤ e.term := by omega
              clear s1
              by_cases s2 : e.kind = 2
              · have t3 : (e.kind == 2) = true := by simpa using s2
                cases M
                · have hRf : Hid (R = false) := Lib.hid (by rw [HR.out, HF.out (by rw [HST.out]; simp [s2])]; rfl)
                  clear s2 hT1 hT2
                  go_wp2_with (go_at_call 37; refine (hKM.out).mono ?_; rintro e w' ⟨rfl, rfl⟩)
                  go_returns
                  exact ⟨by rw [hRf.out]; rfl, hbw3⟩
                · have hSt : Hid (chainL s.bidx s.bterm (s.es.take (k + 1)) = true) := Lib.hid (by rw [HS1.out, hC.out, HST.out]; simp [hS0.out, hT1, hT2])
                  clear s2 hT1 hT2
                  go_wp2_with (go_at_call 37; refine (hKM.out).mono ?_; rintro e w' ⟨rfl, rfl⟩)
                  refine wp_region_below (by kernel_rfl) (by kernel_rfl) (fun hkept => ?_)
                  obtain ⟨r0, rf0⟩ := hkept (p) (by go_size); clear hkept
                  repeat (any_goals (first | go_big_quiet_step (fail) | quiet_step (fail) | (refine wpQuiet_step (fun K hK => ?_); go_simp; split <;> (refine hK _ ?_; clear hK K))))
                  all_goals (refine wpQuiet_nil ?_; intro w5 hb; obtain ⟨hB, hS, hk⟩ := after (B := W3.heap.size) (w := W3) (by go_grown) (by go_size) hb; obtain ⟨c0, f0, z0⟩ := hk (p) (by go_size); clear hk hb r0 rf0)
                  have v0 := (c0 _).trans v0
                  have v1 := (c0 _).trans v1
                  clear c0 f0 z0
                  go_wp2_with fail
                  exact ⟨⟨k + 1, by omega, by go_num, by rw [HX1.out], by rw [HT1.out], hSt, Lib.hid (hB3.out.trans (hB.mono hB3.out.size))⟩, by simp [intOf]; omega⟩
              · have t3 : (e.kind == 2) = false := by simpa using s2
                have hSt : Hid (chainL s.bidx s.bterm (s.es.take (k + 1)) = true) := Lib.hid (by rw [HS1.out, hC.out, HST.out]; simp [hS0.out, hT1, hT2, s2])
                clear s2 hT1 hT2
                go_wp2_with fail
                refine wp_region_below (by kernel_rfl) (by kernel_rfl) (fun hkept => ?_)
                obtain ⟨r0, rf0⟩ := hkept (p) (by go_size); clear hkept
                repeat (any_goals (first | go_big_quiet_step (fail) | quiet_step (fail) | (refine wpQuiet_step (fun K hK => ?_); go_simp; split <;> (refine hK _ ?_; clear hK K))))
                all_goals (refine wpQuiet_nil ?_; intro w5 hb; obtain ⟨hB, hS, hk⟩ := after (B := W3.heap.size) (w := W3) (by go_grown) (by go_size) hb; obtain ⟨c0, f0, z0⟩ := hk (p) (by go_size); clear hk hb r0 rf0)
                have v0 := (c0 _).trans v0
                have v1 := (c0 _).trans v1
                clear c0 f0 z0
                go_wp2_with fail
                exact ⟨⟨k + 1, by omega, by go_num, by rw [HX1.out], by rw [HT1.out], hSt, Lib.hid (hB3.out.trans (hB.mono hB3.out.size))⟩, by simp [intOf]; omega⟩
          · obtain rfl : k = n := by omega
            have hall : s.es.take k = s.es := List.take_of_length_le (by rw [Hn.out]; exact Nat.le_refl _)
            have hC1 := hC.out
            rw [hall] at hC1 hib ⊢
            have HR : Hid (R = tailS s) := Lib.hid (by rw [HR.out, hC1, Bool.true_and])
            obtain ⟨I, hI⟩ : ∃ I, I = lastX s.bidx s.es := ⟨_, rfl⟩
            have HT : Hid (tailS s = (decide (s.bidx ≤ s.com) && decide (s.com ≤ I) && (decide (s.app = 0) || decide (s.group = 0) || mayL s.lo.toList s.hi.toList))) := Lib.hid (by rw [hI, tailS])
            rw [← hI] at hib ⊢
            have x1 := (k0 _).trans x1
            have x10 := (k0 _).trans x10
            have x11 := (k0 _).trans x11
            have x12 := (k0 _).trans x12
            have x13 := (k0 _).trans x13
            have y0 := (k1 _).trans y0
            have hrf := Below.refl wr.heap.size wr
            clear hI hall hC1
            by_cases s0 : s.com < s.bidx
            · have t0 : decide (s.com < s.bidx) = true := by simpa using s0
              have hRf : Hid (R = false) := Lib.hid (by rw [HR.out, HT.out]; simp only [Bool.and_eq_false_iff, decide_eq_false_iff_not]; omega)
              clear s0
              go_wp2_with fail
              go_returns
              exact ⟨by rw [hRf.out]; rfl, hbwr⟩
            · have t0 : decide (s.com < s.bidx) = false := by simpa using s0
              by_cases s1 : I < s.com
              · have t1 : decide (I < s.com) = true := by simpa using s1
                have hRf : Hid (R = false) := Lib.hid (by rw [HR.out, HT.out]; simp only [Bool.and_eq_false_iff, decide_eq_false_iff_not]; omega)
                clear s0 s1
                go_wp2_with fail
                go_returns
                exact ⟨by rw [hRf.out]; rfl, hbwr⟩
              · have t1 : decide (I < s.com) = false := by simpa using s1
                have HR2 : Hid (R = (decide (s.app = 0) || decide (s.group = 0) || mayL s.lo.toList s.hi.toList)) := Lib.hid (by
                  rw [HR.out, HT.out, decide_eq_true (show s.bidx ≤ s.com by omega), decide_eq_true (show s.com ≤ I by omega)]; rfl)
                clear s0 s1
                by_cases s2 : s.app = 0
                · have t2 : (s.app == 0) = true := by simpa using s2
                  have hRf : Hid (R = true) := Lib.hid (by rw [HR2.out]; simp [s2])
                  clear s2
                  go_wp2_with fail
                  go_returns
                  exact ⟨by rw [hRf.out]; rfl, hbwr⟩
                · have t2 : (s.app == 0) = false := by simpa using s2
                  by_cases s3 : s.group = 0
                  · have t3 : (s.group == 0) = true := by simpa using s3
                    have hRf : Hid (R = true) := Lib.hid (by rw [HR2.out]; simp [s3])
                    clear s2 s3
                    go_wp2_with fail
                    go_returns
                    exact ⟨by rw [hRf.out]; rfl, hbwr⟩
                  · have t3 : (s.group == 0) = false := by simpa using s3
                    have KC := Lib.hid fun (W : World) => check_any s.lo s.hi W HOk.out.lo HOk.out.hi
                    obtain ⟨M, hM⟩ : ∃ M, M = mayL s.lo.toList s.hi.toList := ⟨_, rfl⟩
                    have hRf : Hid (R = M) := Lib.hid (by rw [HR2.out, ← hM]; simp [s2, s3])
                    rw [← hM] at KC
                    clear s2 s3 hM
                    cases M
                    all_goals
                      simp only [errB] at KC
                      go_wp2_with (go_at_call 38; refine (KC.out _).mono ?_; rintro e w9 ⟨rfl, hb⟩)
                      go_returns
                      exact ⟨by rw [hRf.out]; rfl, hbwr.trans (hb.mono hbwr.size)⟩
end Go.Proofs.Yteibnignjghedaa

/-
  May what a replica shows be: the walk of acreageref32.May.
-/
namespace Go.Proofs.Yteibnignjghedaa
open Go.RowKit

set_option maxRecDepth 100000 in
set_option maxHeartbeats 8000000 in
theorem rmay_any32 (s : SeenA) (w : World) (h : s.In w) (hok : s.Ok) :
    Calls Try.prog 27 #[s.v] w fun e w' => e = .returned (.bool (mayS s)) ∧ Below w.heap.size w w' := by
  obtain ⟨R, hR⟩ : ∃ R, R = mayS s := ⟨_, rfl⟩
  rw [← hR]
  have HR := Lib.hid hR
  have HI := Lib.hid h
  have HOk := Lib.hid hok
  have hc1 := Arr.fits h.es.arr
  have hc2 := Arr.max h.es.arr
  unfold maxLen at hc2
  have Hn := Lib.hid h.es.len
  simp only [SeenA.v]
  clear hR h hok
  go_enter Try.func27, Try.ntmps27
  go_upto_region 1 with fail
  obtain ⟨W, hW⟩ : ∃ W : World, W = w.alloc (.cells s.l.toArray 49) := ⟨_, rfl⟩
  have hA : SeenAt W w.heap.size 0 s := by rw [hW]; exact SeenAt.new w s _
  have hbW : Below w.heap.size w W := by rw [hW]; exact (Below.refl _ _).alloc (Nat.le_refl _) _
  have hzW : W.heap.size = w.heap.size + 1 := by rw [hW]; simp
  have x0 := hA.at_ 0 _ rfl
  have x1 := hA.at_ 1 _ rfl
  have x6 := hA.at_ 6 _ rfl
  have x7 := hA.at_ 7 _ rfl
  have x8 := hA.at_ 8 _ rfl
  have x9 := hA.at_ 9 _ rfl
  have x10 := hA.at_ 10 _ rfl
  have x11 := hA.at_ 11 _ rfl
  have x12 := hA.at_ 12 _ rfl
  have x13 := hA.at_ 13 _ rfl
  simp only [Nat.zero_add] at x0 x1 x6 x7 x8 x9 x10 x11 x12 x13
  rw [← hW]
  clear hW hA
  have hd : headS s = true ∨ ((decide (s.node < 0) = true ∨ (decide (s.node < 0) = false ∧ decide (5 ≤ s.node) = true) ∨ (decide (s.node < 0) = false ∧ decide (5 ≤ s.node) = false ∧ decide (s.group < 0) = true) ∨ (decide (s.node < 0) = false ∧ decide (5 ≤ s.node) = false ∧ decide (s.group < 0) = false ∧ decide (12 ≤ s.group) = true)) ∧ headS s = false) := by
    simp only [headS, decide_eq_true_eq, decide_eq_false_iff_not, Bool.and_eq_true, Bool.and_eq_false_iff]
    omega
  rcases hd with hd | ⟨hd, hf⟩
  case inr =>
    have hRf : Hid (R = false) := Lib.hid (by rw [HR.out, mayS, hf]; rfl)
    rcases hd with d1 | ⟨d1, d2⟩ | ⟨d1, d2, d3⟩ | ⟨d1, d2, d3, d4⟩
    all_goals
      go_wp2_with fail
      go_returns
      exact ⟨by rw [hRf.out]; rfl, hbW⟩
  have HR : Hid (R = (baseS s && chainL s.bidx s.bterm s.es && tailS s)) := Lib.hid (by rw [HR.out, mayS, hd, Bool.true_and])
  have d1 : decide (s.node < 0) = false := by simp only [headS, Bool.and_eq_true, decide_eq_true_eq] at hd; simp; omega
  have d2 : decide (5 ≤ s.node) = false := by simp only [headS, Bool.and_eq_true, decide_eq_true_eq] at hd; simp; omega
  have d3 : decide (s.group < 0) = false := by simp only [headS, Bool.and_eq_true, decide_eq_true_eq] at hd; simp; omega
  have d4 : decide (12 ≤ s.group) = false := by simp only [headS, Bool.and_eq_true, decide_eq_true_eq] at hd; simp; omega
  clear hd
  obtain ⟨W1, hW1⟩ : ∃ W1 : World, W1 = W.alloc (.cells #[.int .u64 s.bidx, .int .u64 s.bterm, .slice s.ba s.bn s.bc] 41) := ⟨_, rfl⟩
  have HW1 := Lib.hid hW1
  clear hW1
  go_upto_region 4 with fail
  obtain ⟨q, hq⟩ : ∃ q, q = w.heap.size + 1 := ⟨_, rfl⟩
  rw [← HW1.out, ← hq]
  have hb1 : Below W.heap.size W W1 := by rw [HW1.out]; exact (Below.refl _ _).alloc (Nat.le_refl _) _
  have hz1 : W1.heap.size = W.heap.size + 1 := by rw [HW1.out]; simp
  have hqW : q = W.heap.size := by omega
  have y0 : W1.cell? ⟨q, 0, none⟩ = some (.int .u64 s.bidx) := by rw [hqW, HW1.out]; go_simp
  have y1 : W1.cell? ⟨q, 1, none⟩ = some (.int .u64 s.bterm) := by rw [hqW, HW1.out]; go_simp
  have y2 : W1.cell? ⟨q, 2, none⟩ = some (.slice s.ba s.bn s.bc) := by rw [hqW, HW1.out]; go_simp
  have hlW : w.heap.size < W.heap.size := by omega
  have k1 := fun o => hb1.cell (p := ⟨w.heap.size, o, none⟩) hlW
  have x1 := (k1 _).trans x1
  have x6 := (k1 _).trans x6
  have x7 := (k1 _).trans x7
  have x8 := (k1 _).trans x8
  have x9 := (k1 _).trans x9
  have x10 := (k1 _).trans x10
  have x11 := (k1 _).trans x11
  have x12 := (k1 _).trans x12
  have x13 := (k1 _).trans x13
  have hbw1 : Below w.heap.size w W1 := hbW.trans (hb1.mono (by omega))
  have hl1 : q < W1.heap.size := by omega
  have hl0 : w.heap.size < q := by omega
  clear k1 hb1 HW1 hq hqW hz1 hzW hlW hbW
  clear x0 d1 d2 d3 d4
  go_cut [4] (fun a wx => a = .bool (zeroS s) ∧ W1 = wx)
  case first =>
    cases h0 : (s.bidx == 0) <;> cases h1 : (s.bterm == 0) <;> cases h2 : ((s.bn : Int) == 0)
    all_goals
      go_wp2_with fail
      go_meet
      refine ⟨?_, rfl⟩
      simp only [beq_iff_eq, beq_eq_false_iff_ne, ne_eq] at h0 h1 h2
      simp [zeroS, h0, h1] <;> omega
  case rest =>
    obtain ⟨rfl, rfl⟩ := hcut
    go_upto_region 5 with fail
    obtain ⟨Z, hZ⟩ : ∃ Z, Z = zeroS s := ⟨_, rfl⟩
    have HZ := Lib.hid hZ
    rw [← hZ]
    clear hZ
    go_cut [60] (fun a wx => a = .bool (!baseS s) ∧ Below W1.heap.size W1 wx)
    case first =>
      have KM := Lib.hid (rmembers_any s.ba s.bn s.bc s.bm W1 (HI.out.bm.below hbw1))
      obtain ⟨M, hM⟩ : ∃ M, M = membersL s.bm := ⟨_, rfl⟩
      have HB : Hid (baseS s = (Z || (!decide (s.bidx = 0) && !decide (s.bterm = 0) && M))) := Lib.hid (by rw [HZ.out, hM, baseS])
      rw [← hM] at KM
      clear hM HZ
      cases Z
      · by_cases h0 : s.bidx = 0
        · have e0 : (s.bidx == 0) = true := by simpa using h0
          have e1 : Hid (baseS s = false) := Lib.hid (by rw [HB.out]; simp [h0])
          go_wp2_with fail
          go_meet
          exact ⟨by rw [e1.out]; rfl, Below.refl _ _⟩
        · have e0 : (s.bidx == 0) = false := by simpa using h0
          by_cases h1 : s.bterm = 0
          · have e2 : (s.bterm == 0) = true := by simpa using h1
            have e1 : Hid (baseS s = false) := Lib.hid (by rw [HB.out]; simp [h1])
            go_wp2_with fail
            go_meet
            exact ⟨by rw [e1.out]; rfl, Below.refl _ _⟩
          · have e2 : (s.bterm == 0) = false := by simpa using h1
            have e1 : Hid (baseS s = M) := Lib.hid (by rw [HB.out]; simp [h0, h1])
            cases M
            all_goals
              simp only [errM] at KM
              go_wp2_with (go_at_call 49; refine KM.out.mono ?_; rintro e w9 ⟨rfl, hb⟩)
              go_meet
              exact ⟨by rw [e1.out]; rfl, hb⟩
      · have e1 : Hid (baseS s = true) := Lib.hid (by rw [HB.out]; rfl)
        go_wp2_with fail
        go_meet
        exact ⟨by rw [e1.out]; rfl, Below.refl _ _⟩
    case rest =>
      obtain ⟨rfl, hbc⟩ := hcut
      have hlc : w.heap.size < W1.heap.size := by omega
      have kc := fun o => hbc.cell (p := ⟨w.heap.size, o, none⟩) hlc
      have kd := fun o => hbc.cell (p := ⟨q, o, none⟩) hl1
      have x1 := (kc _).trans x1
      have x6 := (kc _).trans x6
      have x7 := (kc _).trans x7
      have x9 := (kc _).trans x9
      have x10 := (kc _).trans x10
      have x11 := (kc _).trans x11
      have x12 := (kc _).trans x12
      have x13 := (kc _).trans x13
      have y0 := (kd _).trans y0
      have y1 := (kd _).trans y1
      have hbw2 : Below w.heap.size w wc := hbw1.trans (hbc.mono hbw1.size)
      have hl2 : q < wc.heap.size := Nat.lt_of_lt_of_le hl1 hbc.size
      clear kc kd hbc hlc y2
      obtain ⟨w2, rfl⟩ : ∃ V, V = wc := ⟨_, rfl⟩
      cases hB : baseS s
      · have hRf : Hid (R = false) := Lib.hid (by rw [HR.out, hB]; rfl)
        go_wp2_with fail
        go_returns
        exact ⟨by rw [hRf.out]; rfl, hbw2⟩
      · have HR : Hid (R = (chainL s.bidx s.bterm s.es && tailS s)) := Lib.hid (by rw [HR.out, hB, Bool.true_and])
        clear hB
        simp only [Bool.not_true]
        clear x8 hl1
        go_wp2_with fail
        obtain ⟨n, hn⟩ : ∃ n, n = s.en := ⟨_, rfl⟩
        have HE := Lib.hid HI.out.es
        rw [← hn] at hc1 Hn HE x9
        clear hn
        go_loopw [5, 6, 7] (fun ix tm i wr => ∃ k : Nat, k ≤ n ∧ i = .int .i64 k ∧ ix = .int .u64 (lastX s.bidx (s.es.take k)) ∧ tm = .int .u64 (lastT s.bterm (s.es.take k)) ∧ Hid (chainL s.bidx s.bterm (s.es.take k) = true) ∧ Hid (Below w2.heap.size w2 wr)) (fun _ _ i _ => n - (intOf i).toNat)
        case atStart => exact ⟨0, by omega, rfl, rfl, rfl, Lib.hid rfl, Lib.hid (Below.refl _ _)⟩
        case round =>
          obtain ⟨k, hk, rfl, rfl, rfl, hC, hB2⟩ := hrel
          have hz2 := hB2.out.size
          have hbwr : Below w.heap.size w wr := hbw2.trans (hB2.out.mono hbw2.size)
          have k0 := fun o => hB2.out.cell (p := ⟨w.heap.size, o, none⟩) (Nat.lt_trans hl0 hl2)
          have k1 := fun o => hB2.out.cell (p := ⟨q, o, none⟩) hl2
          have hlr : q < wr.heap.size := by omega
          have hlw : w.heap.size < wr.heap.size := by omega
          have hib := lastX_bound (l := s.es.take k) ⟨HOk.out.i0, HOk.out.i1⟩ (fun e he => HOk.out.es e (List.mem_of_mem_take he))
          have htb := lastT_bound (l := s.es.take k) ⟨HOk.out.t0, HOk.out.t1⟩ (fun e he => HOk.out.es e (List.mem_of_mem_take he))
          by_cases hlt : k < n
          · obtain ⟨e, he⟩ : ∃ e, s.es[k]? = some e := ⟨_, List.getElem?_eq_getElem (by rw [Hn.out]; omega)⟩
            obtain ⟨b, off, e0, hbl, hEA, hEI⟩ := HE.out.at_ he
            have hek := HOk.out.es e (List.mem_of_getElem? he)
            have HL := Lib.hid (hEA.below hbwr).load
            have HF := Lib.hid (fun (h : stepL (lastX s.bidx (s.es.take k)) (lastT s.bterm (s.es.take k)) e = false) => chain_fail he h)
            have HS1 := Lib.hid (chain_take (i := s.bidx) (t := s.bterm) he)
            have HX1 := Lib.hid (lastX_take (i := s.bidx) he)
            have HT1 := Lib.hid (lastT_take (i := s.bterm) he)
            rw [e0] at x9
            obtain ⟨I, hI⟩ : ∃ I, I = lastX s.bidx (s.es.take k) := ⟨_, rfl⟩
            obtain ⟨T, hT⟩ : ∃ T, T = lastT s.bterm (s.es.take k) := ⟨_, rfl⟩
            rw [← hI] at hib HF HS1 ⊢
            rw [← hT] at htb HF HS1 ⊢
            have g0 : e.l[0]? = some (.int .u64 e.idx) := rfl
            have g1 : e.l[1]? = some (.int .u64 e.term) := rfl
            have g2 : e.l[2]? = some (.int .i64 e.kind) := rfl
            have g3 : e.l[23]? = some (.slice e.ma e.mn e.mc) := rfl
            have KM := Lib.hid fun (W : World) (hW : Below wr.heap.size wr W) => rmembers_any e.ma e.mn e.mc e.mem W (hEI.below (hbwr.trans (hW.mono hbwr.size)))
            clear he hEA hI hT e0
            go_upto_region 13 with (first | (refine wpList_loadK rfl (by rfl) rfl (by exact HL.out) ?_; simp only [Act.put, List.setIfInBounds_toArray, List.set_cons_succ, List.set_cons_zero]) | (refine wpList_storeN rfl rfl rfl rfl (by rfl) (by kernel_rfl) (by rfl) (EntA.all _) ?_; simp only [Act.put, List.setIfInBounds_toArray, List.set_cons_succ, List.set_cons_zero]))
            obtain ⟨W3, hW3⟩ : ∃ W3 : World, W3 = wr.alloc (.cells e.l.toArray 60) := ⟨_, rfl⟩
            have hE3 : EntAt W3 wr.heap.size 0 e := by rw [hW3]; exact EntAt.new wr e _
            have hb3 : Below wr.heap.size wr W3 := by rw [hW3]; exact (Below.refl _ _).alloc (Nat.le_refl _) _
            have hz3 : W3.heap.size = wr.heap.size + 1 := by rw [hW3]; simp
            obtain ⟨p, hp⟩ : ∃ p, p = wr.heap.size := ⟨_, rfl⟩
            rw [← hW3, ← hp]
            rw [← hp] at hE3
            have v0 := hE3.idx
            have v1 := hE3.term
            have v2 := hE3.kind
            have v3 := hE3.mem
            simp only [Nat.zero_add] at v0 v1 v2 v3
            have hpl : p < W3.heap.size := by omega
            have k0 := (fun o => (hb3.cell (p := ⟨w.heap.size, o, none⟩) hlw).trans (k0 o))
            have hbw3 : Below w.heap.size w W3 := hbwr.trans (hb3.mono hbwr.size)
            have hB3 := Lib.hid (hB2.out.trans (hb3.mono hz2))
            have hKM := Lib.hid (KM.out W3 hb3)
            have hik1 : IntKind.u64.wrap (e.idx - 1) = (e.idx - 1) % 18446744073709551616 := by simp [IntKind.wrap, IntKind.bits, IntKind.signed]
            obtain ⟨v, hv⟩ : ∃ v, IntKind.u64.wrap (e.idx - 1) = v := ⟨_, rfl⟩
            have hve : (¬ e.idx = 0 ∧ v = I) ↔ e.idx = I + 1 := by
              have := hek.i0
              have := hek.i1
              omega
            clear hik1
            obtain ⟨M, hM⟩ : ∃ M, M = membersL e.mem := ⟨_, rfl⟩
            have HST : Hid (stepL I T e = (decide (e.idx = I + 1) && decide (T ≤ e.term) && decide (1 ≤ e.term) && (!decide (e.kind = 2) || M))) := Lib.hid (by rw [hM, stepL])
            rw [← hM] at hKM
            have hik0 : (0 : Int) ≤ (k : Int) := by omega
            clear hM hE3 hW3 hb3 hp KM g0 g1 g2 g3 HL
            by_cases s0 : e.idx = I + 1
            case neg =>
              have hRf : Hid (R = false) := Lib.hid (by rw [HR.out, HF.out (by rw [HST.out]; simp [s0])]; rfl)
              have hs1 : e.idx = 0 ∨ (¬ e.idx = 0 ∧ ¬ v = I) := by
                by_cases h0 : e.idx = 0
                · exact .inl h0
                · exact .inr ⟨h0, fun h1 => s0 (hve.1 ⟨h0, h1⟩)⟩
              clear s0 hve
              rcases hs1 with h0 | ⟨h0, h1⟩
              · have t0 : (e.idx == 0) = true := by simpa using h0
                clear h0
                go_wp2_with fail
                go_returns
                exact ⟨by rw [hRf.out]; rfl, hbw3⟩
              · have t0 : (e.idx == 0) = false := by simpa using h0
                have t1 : (v != I) = true := by simpa using h1
                clear h0 h1
                go_wp2_with fail
                go_returns
                exact ⟨by rw [hRf.out]; rfl, hbw3⟩
            obtain ⟨h0, h1⟩ := hve.2 s0
            have t0 : (e.idx == 0) = false := by simpa using h0
            have t1 : (v != I) = false := by simpa using h1
            have hS0 := Lib.hid s0
            clear h0 h1 hve s0
            by_cases s1 : e.term < T ∨ e.term = 0
            · have hRf : Hid (R = false) := Lib.hid (by rw [HR.out, HF.out (by rw [HST.out]; simp only [Bool.and_eq_false_iff, decide_eq_false_iff_not]; omega)]; rfl)
              have s3 : e.term < T ∨ (¬ e.term < T ∧ e.term = 0) := by omega
              clear s1
              rcases s3 with s3 | ⟨s3, s4⟩
              · have t2 : decide (e.term < T) = true := by simpa using s3
                clear s3
                go_wp2_with fail
                go_returns
                exact ⟨by rw [hRf.out]; rfl, hbw3⟩
              · have t2 : decide (e.term < T) = false := by simpa using s3
                have t5 : (e.term == 0) = true := by simpa using s4
                clear s3 s4
                go_wp2_with fail
                go_returns
                exact ⟨by rw [hRf.out]; rfl, hbw3⟩
            · have hT1 : T ≤ e.term := by omega
              have hT2 : 1 ≤ e.term := by have := hek.t0; omega
              have t2 : decide (e.term < T) = false := by simp; omega
              have t5 : (e.term == 0) = false := by simp; omega
              clear s1
              by_cases s2 : e.kind = 2
              · have t3 : (e.kind == 2) = true := by simpa using s2
                cases M
                · have hRf : Hid (R = false) := Lib.hid (by rw [HR.out, HF.out (by rw [HST.out]; simp [s2])]; rfl)
                  simp only [errM] at hKM
                  clear s2 hT1 hT2
                  go_wp2_with (go_at_call 49; refine hKM.out.mono ?_; rintro e9 w9 ⟨rfl, hb⟩)
                  go_returns
                  exact ⟨by rw [hRf.out]; rfl, hbw3.trans (hb.mono hbw3.size)⟩
                · have hSt : Hid (chainL s.bidx s.bterm (s.es.take (k + 1)) = true) := Lib.hid (by rw [HS1.out, hC.out, HST.out]; simp [hS0.out, hT1, hT2])
                  simp only [errM] at hKM
                  clear s2 hT1 hT2
                  go_wp2_with (go_at_call 49; refine hKM.out.mono ?_; rintro e9 w9 ⟨rfl, hb⟩; have v0 := (hb.cell (p := ⟨p, _, none⟩) hpl).trans v0; have v1 := (hb.cell (p := ⟨p, _, none⟩) hpl).trans v1)
                  exact ⟨⟨k + 1, by omega, by go_num, by rw [HX1.out], by rw [HT1.out], hSt, Lib.hid (hB3.out.trans (hb.mono hB3.out.size))⟩, by simp [intOf]; omega⟩
              · have t3 : (e.kind == 2) = false := by simpa using s2
                have hSt : Hid (chainL s.bidx s.bterm (s.es.take (k + 1)) = true) := Lib.hid (by rw [HS1.out, hC.out, HST.out]; simp [hS0.out, hT1, hT2, s2])
                clear s2 hT1 hT2
                go_wp2_with fail
                exact ⟨⟨k + 1, by omega, by go_num, by rw [HX1.out], by rw [HT1.out], hSt, hB3⟩, by simp [intOf]; omega⟩
          · obtain rfl : k = n := by omega
            have hall : s.es.take k = s.es := List.take_of_length_le (by rw [Hn.out]; exact Nat.le_refl _)
            have hC1 := hC.out
            rw [hall] at hC1 hib ⊢
            have HR : Hid (R = tailS s) := Lib.hid (by rw [HR.out, hC1, Bool.true_and])
            obtain ⟨I, hI⟩ : ∃ I, I = lastX s.bidx s.es := ⟨_, rfl⟩
            have HT : Hid (tailS s = (decide (s.bidx ≤ s.com) && decide (s.com ≤ I) && (decide (s.app = 0) || decide (s.group = 0) || mayL s.lo.toList s.hi.toList))) := Lib.hid (by rw [hI, tailS])
            rw [← hI] at hib ⊢
            have x1 := (k0 _).trans x1
            have x10 := (k0 _).trans x10
            have x9 := (k0 _).trans x9
            have x11 := (k0 _).trans x11
            have x12 := (k0 _).trans x12
            have x13 := (k0 _).trans x13
            have y0 := (k1 _).trans y0
            have hrf := Below.refl wr.heap.size wr
            clear hI hall hC1
            by_cases s0 : s.com < s.bidx
            · have t0 : decide (s.com < s.bidx) = true := by simpa using s0
              have hRf : Hid (R = false) := Lib.hid (by rw [HR.out, HT.out]; simp only [Bool.and_eq_false_iff, decide_eq_false_iff_not]; omega)
              clear s0
              go_wp2_with fail
              go_returns
              exact ⟨by rw [hRf.out]; rfl, hbwr⟩
            · have t0 : decide (s.com < s.bidx) = false := by simpa using s0
              by_cases s1 : I < s.com
              · have t1 : decide (I < s.com) = true := by simpa using s1
                have hRf : Hid (R = false) := Lib.hid (by rw [HR.out, HT.out]; simp only [Bool.and_eq_false_iff, decide_eq_false_iff_not]; omega)
                clear s0 s1
                go_wp2_with fail
                go_returns
                exact ⟨by rw [hRf.out]; rfl, hbwr⟩
              · have t1 : decide (I < s.com) = false := by simpa using s1
                have HR2 : Hid (R = (decide (s.app = 0) || decide (s.group = 0) || mayL s.lo.toList s.hi.toList)) := Lib.hid (by
                  rw [HR.out, HT.out, decide_eq_true (show s.bidx ≤ s.com by omega), decide_eq_true (show s.com ≤ I by omega)]; rfl)
                clear s0 s1
                by_cases s2 : s.app = 0
                · have t2 : (s.app == 0) = true := by simpa using s2
                  have hRf : Hid (R = true) := Lib.hid (by rw [HR2.out]; simp [s2])
                  clear s2
                  go_wp2_with fail
                  go_returns
                  exact ⟨by rw [hRf.out]; rfl, hbwr⟩
                · have t2 : (s.app == 0) = false := by simpa using s2
                  by_cases s3 : s.group = 0
                  · have t3 : (s.group == 0) = true := by simpa using s3
                    have hRf : Hid (R = true) := Lib.hid (by rw [HR2.out]; simp [s3])
                    clear s2 s3
                    go_wp2_with fail
                    go_returns
                    exact ⟨by rw [hRf.out]; rfl, hbwr⟩
                  · have t3 : (s.group == 0) = false := by simpa using s3
                    have KC := Lib.hid fun (W : World) => rcheck_any s.lo s.hi W HOk.out.lo HOk.out.hi
                    obtain ⟨M, hM⟩ : ∃ M, M = mayL s.lo.toList s.hi.toList := ⟨_, rfl⟩
                    have hRf : Hid (R = M) := Lib.hid (by rw [HR2.out, ← hM]; simp [s2, s3])
                    rw [← hM] at KC
                    clear s2 s3 hM
                    cases M
                    all_goals
                      simp only [errB] at KC
                      go_wp2_with (go_at_call 50; refine (KC.out _).mono ?_; rintro e w9 ⟨rfl, hb⟩)
                      go_returns
                      exact ⟨by rw [hRf.out]; rfl, hbwr.trans (hb.mono hbwr.size)⟩
end Go.Proofs.Yteibnignjghedaa
