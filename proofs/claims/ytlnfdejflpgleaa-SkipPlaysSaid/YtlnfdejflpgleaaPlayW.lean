/-
  The walk of acreagelaw08.SkipPlays (printed by mkplay.py).
-/
import Derived.Test.YtlnfdejflpgleaaPlayL
import Derived.Test.YtlnfdejflpgleaaWorks8W
namespace Go.Proofs.Ytlnfdejflpgleaa
open Go.RowKit Go.Shelf

attribute [local go_sem] Oper.semAt_some readsUpon
set_option maxRecDepth 1000000 in
set_option maxHeartbeats 16000000 in
theorem skipplays_any (ao : Option Addr) (n cap : Nat) (ds : List DoA) (w : World) (hD : Dos w ao n cap ds) (hok : ∀ d ∈ ds, d.c.Ok) :
    Calls Try.prog 4 #[.slice ao n cap] w fun e w' => e = .returned (.bool true) ∧ Below w.heap.size w w' := by
  have H := Lib.hid hD
  have Hok := Lib.hid hok
  clear hD hok
  refine callsIn_wide.1 (callsIn_of_wp_marks (F := Fence.wide) (n := 20) Try.func4 rfl trivial ?_ rfl); refine wpIn_wide.2 ?_; simp only [Try.ntmps4, List.size_toArray, List.length_cons, List.length_nil, Nat.reduceAdd, Nat.reduceSub, Array.replicate_succ, Array.replicate_zero, List.push_toArray, List.append_toArray, List.nil_append, List.cons_append]
  go_wp2_with fail
  refine (new_sl _).mono ?_
  rintro e w1 ⟨rfl, F0, hS0, hF0, hb⟩
  simp only [World.size_alloc] at hS0 hF0
  have hB1 : Below w.heap.size w w1 := ((Below.refl _ _).alloc (Nat.le_refl _) _).trans (hb.mono (by simp))
  have r0 : w1.cell? ⟨w.heap.size, 0, none⟩ = some (.bool false) := (hb.cell (p := ⟨w.heap.size, 0, none⟩) (by simp)).trans (by go_simp)
  have r1 : w1.frozen? ⟨w.heap.size, 0, none⟩ = false := (hb.frozen (p := ⟨w.heap.size, 0, none⟩) (by simp)).trans (by go_simp)
  have z1 := hb.size
  simp only [World.size_alloc] at z1
  have HS0 := Lib.hid hS0
  have HF0 := Lib.hid hF0
  clear hS0 hF0 hb
  go_wp2_with fail
  obtain ⟨W0, hW0⟩ : ∃ W : World, W = w1.alloc (.cells #[.slice none 0 0, .slice none 0 0] 41) := ⟨_, rfl⟩
  obtain ⟨mb, hmb⟩ : ∃ mb, mb = w1.heap.size := ⟨_, rfl⟩
  have b01 : Below w1.heap.size w1 W0 := by rw [hW0]; exact (Below.refl _ _).alloc (Nat.le_refl _) _
  have h0 : PlK w w.heap.size mb (w.heap.size + 1 + 1) 0 [] F0 (.agg #[.slice none 0 0, .slice none 0 0]) W0 := by
    refine ⟨hB1.trans (b01.mono (by omega)), Nat.le_refl _, by omega, by omega, ⟨false, (b01.cell (p := ⟨w.heap.size, 0, none⟩) (by simp only; omega)).trans r0⟩, (b01.frozen (p := ⟨w.heap.size, 0, none⟩) (by simp only; omega)).trans r1, ⟨_, _, rfl, by rw [hW0, hmb]; go_simp, by rw [hW0, hmb]; go_simp⟩, by rw [hW0, hmb]; go_simp, by rw [hW0, hmb]; go_simp, HS0.out.below b01, ⟨fun _ => rfl, none, 0, none, 0, rfl, Arr.nil _ _, Arr.nil _ _⟩, ?_, Nat.le_refl _, fun p hp => (by cases hp), fun q hq => ⟨?_, ?_, ?_⟩⟩
    · intro a n c a2 n2 c2 e
      cases e
      exact ⟨fun x hx => (by cases hx), fun x hx => (by cases hx)⟩
    · have := HF0.out q hq; omega
    · have := HS0.out.inb q hq; omega
    · have := HF0.out q hq; omega
  have H0 := Lib.hid h0
  rw [← hW0, ← hmb]
  clear h0 hW0 hmb b01 r0 r1 z1 hB1 HS0 HF0
  refine sp_loop H.out Hok.out F0 H0.out ?_
  intro k l F v v6 v7 v8 v9 v10 v11 v12 v13 v23 v24 v25 v26 v27 v28 v29 v30 v31 v32 v33 v34 v35 v36 v37 v38 v39 v40 v41 v42 v43 v44 v45 v46 v47 v48 v49 v50 v51 v52 v53 v54 v55 v56 v57 v58 v59 v60 v61 v62 v63 v64 v65 v66 v67 v68 v69 v70 v71 v72 v73 v74 v75 v76 v77 v78 v79 v80 v81 v82 v83 v84 v85 v86 v87 v88 v89 v90 v91 v92 v93 v94 v95 v96 v97 v98 v99 v100 v101 v102 v103 v104 v105 v106 v107 v108 v109 v110 v111 v112 v113 v114 v115 v116 v117 v118 v119 v120 wr hk hP
  clear H0 F0 H Hok
  obtain ⟨a1, c1, a2, c2, rfl, _, _⟩ := hP.lm.ex
  obtain ⟨s1, s2, e3, m0, m1⟩ := hP.m
  cases e3
  obtain ⟨q, hq⟩ : ∃ q, q = l.length := ⟨_, rfl⟩
  have hq2 : q ≤ 200 := by have := hP.len; omega
  have Hq := Lib.hid hq
  rw [← hq] at hP m0 m1
  have HP := Lib.hid hP
  obtain ⟨hrl, hml⟩ := hP.lt
  have hlr := hP.lrb
  have hlm := hP.lmb
  have hne := hP.ne
  clear hq hP
  go_wp2_with fail
  refine (all_any _ _).mono ?_
  rintro e w4 ⟨rfl, hb4, hz4, kA⟩
  simp only [World.size_alloc] at hz4 kA
  have x1 : w4.cell? ⟨wr.heap.size, 0, none⟩ = some (.int .i64 0) := (hb4.cell (p := ⟨wr.heap.size, 0, none⟩) (by simp)).trans (by go_simp)
  have x2 : w4.frozen? ⟨wr.heap.size, 0, none⟩ = false := (hb4.frozen (p := ⟨wr.heap.size, 0, none⟩) (by simp)).trans (by go_simp)
  have hbA : Below wr.heap.size wr w4 := ((Below.refl _ _).alloc (Nat.le_refl _) _).trans (hb4.mono (by simp))
  have HP4 := Lib.hid (HP.out.below hbA)
  obtain ⟨s1, s2, e3, m0, m1⟩ := HP4.out.m
  cases e3
  clear hb4
  go_wp2_with fail
  obtain ⟨hd, ns, q1, q2, _⟩ := HP4.out.sl.ex
  obtain ⟨L, hL⟩ : ∃ L, L = l.map Prod.fst := ⟨_, rfl⟩
  have hLn : L = cellsFrom (hd :: ns) 1 := by rw [cellsFrom_one, ← nd_fst, q2, hL]
  have hns : ns.length < 1000000 := by have := congrArg List.length q2; rw [List.length_map] at this; have := Hq.out; omega
  have Hcf := Lib.hid hLn.symm
  have HSk := Lib.hid q1
  have hlL : L.length = q := by rw [hL, List.length_map]; exact Hq.out.symm
  have HC4 : Hid (Cells w4 a1 q c1 L) := Lib.hid (by
    obtain ⟨ao', cap', _, _, e, hC, _⟩ := HP4.out.lm.ex
    rw [← Hq.out] at e hC
    cases e
    rw [hL]; exact hC)
  have HL := Lib.hid hL
  obtain ⟨u, hu⟩ := HP4.out.rc
  have hrf := HP4.out.rf
  clear hLn q1 q2 hL
  have hbq := HP4.out.bel
  refine (wpIn_wide (n := 20)).1 ?_
  refine range_round (n := 20) (by omega) (gf := 27) (lb := #[.pointer (some ⟨wr.heap.size + 1, 0, none⟩)]) rfl (enters_of Try.func27 (by kernel_rfl) rfl)
    (all1_stops 19 (by omega) _ _ hd ns w4 HSk.out kA hns (SafeT w.heap.size wr.heap.size) (safeT (by omega) (by omega)) (w4.heap.size + 2) (by omega))
    (fun h k => h.trans k) (fun V o o' ho hc => KpS.putObj (safeT (by omega) (by omega)) (Nat.le_succ _) (Nat.lt_succ_self _) ho hc) (fun _ => rfl)
    (fun (pre : List { c : CellA // c ∈ cellsFrom (hd :: ns) 1 }) V' => TellI w w4 wr.heap.size pre.length V' ∧ pre.map Subtype.val = L.take pre.length)
    (fun cd (pre : List { c : CellA // c ∈ cellsFrom (hd :: ns) 1 }) V' => cd = .ret ∧ ¬ (pre.map Subtype.val <+: cellsFrom (hd :: ns) 1))
    ?hI2 (fun _ _ _ _ _ h _ _ => h) ⟨⟨hbq, Nat.le_refl _, fun _ _ h _ _ => h, x1, x2⟩, rfl⟩
    ?hround2 ?done2 ?stop2
  case hI2 =>
    rintro pre A B row ⟨h1, h2⟩ hg hr
    exact ⟨h1.own hbq.size hg hr, h2⟩
  case hround2 =>
    rintro l2 pre x W hl2 ⟨hI, hpre⟩ hlt
    gi_wp2
    refine ⟨keepsFrom_alloc _ _, fun W2 hg2 hz2 hnc => ?_⟩
    rw [World.size_alloc] at hz2
    have hl2W : l2 < W.heap.size + 1 := by
      obtain ⟨o, h, _⟩ := hnc
      have := (Array.getElem?_eq_some_iff.1 h).1
      rwa [World.size_alloc] at this
    have hsz := hI.size
    have hown : OwnFrom w4.heap.size (fun (pre : List { c : CellA // c ∈ cellsFrom (hd :: ns) 1 }) V' => TellI w w4 wr.heap.size pre.length V') := fun pre A B row h hg hr => h.own hbq.size hg hr
    have hI2 : TellI w w4 wr.heap.size pre.length W2 := hown _ _ _ (some l2) (hown.alloc _ hI) hg2 (fun r e => by cases e; exact ⟨by omega, hnc⟩)
    have cell2 : ∀ {p : Addr} {v : Value}, (W.alloc (.cells #[.string x.1.row, .string x.1.col, .int .u64 x.1.ver, .bool x.1.gone, .string x.1.val] 26)).cell? p = some v → W2.cell? p = some v := fun {p v} hv => cell_kept hv hg2 (fun r e => by cases e; exact hnc)
    have hWq : ∀ (q : Nat) (o : Obj), W.heap[q]? = some o → o.isCells = true → W2.heap[q]? = W.heap[q]? := fun q o hq hc => by
      have hql := (Array.getElem?_eq_some_iff.1 hq).1
      rw [hg2.block q (by rw [World.size_alloc]; omega) (fun e => by
        obtain ⟨o2, h1, h2⟩ := hnc
        have e2 : q = l2 := Option.some.inj e
        subst e2
        rw [Below.heap_alloc _ _ _ hql, hq] at h1
        cases h1
        rw [hc] at h2; cases h2)]
      exact Below.heap_alloc _ _ _ hql
    have y0 : W2.cell? ⟨W.heap.size, 0, none⟩ = some (.string x.1.row) := cell2 (by go_simp)
    have y1 : W2.cell? ⟨W.heap.size, 1, none⟩ = some (.string x.1.col) := cell2 (by go_simp)
    have y2 : W2.cell? ⟨W.heap.size, 2, none⟩ = some (.int .u64 x.1.ver) := cell2 (by go_simp)
    have y3 : W2.cell? ⟨W.heap.size, 3, none⟩ = some (.bool x.1.gone) := cell2 (by go_simp)
    have y4 : W2.cell? ⟨W.heap.size, 4, none⟩ = some (.string x.1.val) := cell2 (by go_simp)
    clear cell2 hown
    have kw3 := (hI2.cell m0 (by simp only; omega)).1
    have kr3 := (hI2.cell hu (by simp only; omega)).1
    have krf3 := (hI2.cell hu (by simp only; omega)).2.trans hrf
    have v1 := hI2.n
    have v2 := hI2.nf
    obtain ⟨j, hj⟩ : ∃ j, j = pre.length := ⟨_, rfl⟩
    rw [← hj] at hlt hpre v1 hI2
    rw [Hcf.out] at hlt
    obtain ⟨z, hz⟩ : ∃ z, L[j]? = some z := ⟨_, List.getElem?_eq_getElem hlt⟩
    have hC2 : Cells W2 a1 q c1 L := ⟨HC4.out.elems, Arr.len HC4.out, Arr.fits HC4.out, Arr.max HC4.out, fun h0 => by
      obtain ⟨b, off, e, hb, hc⟩ := Arr.lies HC4.out h0
      have hbw : b < wr.heap.size := (HP.out.lm.on _ _ _ _ _ _ rfl).1 _ e
      refine ⟨b, off, e, by omega, fun i x hx j u hu => (hI2.cell (hc i x hx j u hu) (by simp only; omega)).1⟩⟩
    obtain ⟨b, off, hao, hbl, ⟨u0, u1, u2, u3, u4⟩⟩ := Cells.at_ hC2 hz
    have hkI : (j : Int) < (q : Int) := by omega
    have hkI0 : (0 : Int) ≤ (j : Int) := by omega
    have hkD : decide ((q : Int) ≤ (j : Int)) = false := by simp; omega
    have hkD2 : decide (q ≤ j) = false := by simp; omega
    have hmx : Try.prog.follows .mixedOrders = true := by kernel_rfl
    have Hj := Lib.hid hj
    have Hz := Lib.hid hz
    have Hpre := Lib.hid hpre
    have HI2 := Lib.hid hI2
    have HWq := Lib.hid hWq
    have Hhg := Lib.hid hg2
    have HI3 := Lib.hid hI
    have hle : (pre ++ [x]).length = j + 1 := by rw [List.length_append, hj]; rfl
    subst hao
    clear hj hpre hI2 hWq hg2 hI hnc hC2
    by_cases hxz : x.1 = z
    · subst hxz
      gi_wp2
      refine wpIn_region_reads 182 (fun _ => trivial) hmx (by kernel_rfl) (by kernel_rfl) (by kernel_rfl) rfl ?_
      repeat (refine wpReads_step (fun K hK => ?_); go_simp; refine hK _ ?_; clear hK K)
      refine wpReads_nil ?_
      gi_wp2
      have hT := tell_kps (V := (W2.setCell ⟨wr.heap.size, 0, none⟩ (.int .i64 ((j : Int) + 1))).drew) (br := w.heap.size) (bn := wr.heap.size) (w0 := w4) (by omega) (by rw [← hl2]; exact Hhg.out) HWq.out (fun g n1 n2 => Below.heap_setCell _ _ _ _ (by simp only; omega)) (fun B' => (keepsFrom_setCell _ _ _).trans (keepsFrom_drew _))
      refine ⟨hT, ?_, ?_⟩
      · rw [hle]; exact HI2.out.step (by omega)
      · rw [hle, List.map_append, Hpre.out, List.take_add_one, Hz.out]; rfl
    · have Hxz := Lib.hid hxz
      have hdif := cell_differ hxz
      clear hxz
      rcases hdif with ⟨n1, n2⟩ | ⟨t1, n1, n2⟩ | ⟨t1, t2, n1⟩ | ⟨t1, t2, t3, n1, n2⟩ | ⟨t1, t2, t3, n1, n2⟩ | ⟨t1, t2, t3, t4, n1, n2⟩
      all_goals
        gi_wp2
        refine wpIn_region_reads 182 (fun _ => trivial) hmx (by kernel_rfl) (by kernel_rfl) (by kernel_rfl) rfl ?_
        repeat (refine wpReads_step (fun K hK => ?_); go_simp; refine hK _ ?_; clear hK K)
        refine wpReads_nil ?_
        gi_wp2
        refine ⟨tell_kps (by omega) (by rw [← hl2]; exact Hhg.out) HWq.out (fun g n1 n2 => Below.heap_setCell _ _ _ _ (by simp only; omega)) (fun B' => (keepsFrom_drew _).trans (keepsFrom_setCell _ _ _)), rfl, fun hp => ?_⟩
        obtain ⟨t, ht⟩ := hp
        have hx3 : L[j]? = some x.1 := by
          have e := congrArg (fun l : List CellA => l[j]?) ht
          rw [List.map_append, List.append_assoc, List.getElem?_append_right (by rw [List.length_map, Hj.out]; exact Nat.le_refl _)] at e
          rw [← Hcf.out, ← e]
          simp [Hj.out]
        rw [Hz.out] at hx3
        exact Hxz.out (Option.some.inj hx3).symm
  case stop2 =>
    rintro D1 cd pre V' hD1 hp ⟨rfl, h1⟩ hK
    exact absurd hp h1
  case done2 =>
    rintro D xs V hDD hx ⟨hI, _⟩ hK
    have hxl : xs.length = q := by
      have := congrArg List.length hx
      rw [List.length_map] at this
      have e := congrArg List.length Hcf.out
      omega
    have v1 := hI.n
    rw [hxl] at v1
    have HSV : Hid (SL (w.heap.size + 1 + 1) l F V) := Lib.hid (HP4.out.sl.keep fun g hg => by
      obtain ⟨o, h1, h2⟩ := sl_cells HP4.out.sl g hg
      exact (hI.keep g o h1 h2 (by have := HP.out.sl.inb g hg; omega)).trans h1.symm)
    have HMV : Hid (LM V (.agg #[.slice a1 q c1, .slice a2 q c2]) l) := Lib.hid (HP4.out.lm.keepS (G := fun g => (∃ o, w4.heap[g]? = some o ∧ o.isCells = true) ∧ g < wr.heap.size) (OnS.both HP4.out.lm.onC HP.out.lm.on) (fun g _ ⟨⟨o, h1, h2⟩, h3⟩ => (hI.keep g o h1 h2 (by omega)).trans h1.symm) hI.size)
    have k0 := (hI.cell m0 (by simp only; omega)).1
    have k1 := (hI.cell m1 (by simp only; omega)).1
    have r0 := (hI.cell hu (by simp only; omega)).1
    have r1 := (hI.cell hu (by simp only; omega)).2.trans hrf
    have HBV := Lib.hid hI.bel
    have hVs := hI.size
    have HK := Lib.hid hK
    have hDl := (Array.getElem?_eq_some_iff.1 hK).1
    have hts := Lib.hid HP.out.hts
    have hnq : l.length < 1000000 := by have := Hq.out; omega
    obtain ⟨cnt, hcnt⟩ : ∃ c : Nat → Int, c = fun L => (cntL (l.map Prod.snd) L : Int) := ⟨_, rfl⟩
    have KH := Lib.hid fun (W : World) (h : SL (w.heap.size + 1 + 1) l F W) => heights_sl _ l F W h hnq
    have KC := Lib.hid fun (W : World) (h : LM W (.agg #[.slice a1 q c1, .slice a2 q c2]) l) => rcounts8_any l _ W h hts.out hnq
    rw [← hcnt] at KH KC
    clear hI hx hK hcnt
    go_wp2_with fail
    refine (KH.out _ HSV.out).mono ?_
    rintro e w5 ⟨rfl, hT5, hb5⟩
    have HT5 := Lib.hid hT5
    have HM5 := Lib.hid (HMV.out.below hb5)
    have HS5 := Lib.hid (HSV.out.below hb5)
    have HB5 := Lib.hid hb5
    have hz5 := hb5.size
    have hmV := World.block_lt_of_cell? _ _ k0
    have hrV := World.block_lt_of_cell? _ _ r0
    have hnV := World.block_lt_of_cell? _ _ v1
    simp only at hmV hrV hnV
    have k0 := (hb5.cell (p := ⟨mb, 0, none⟩) hmV).trans k0
    have k1 := (hb5.cell (p := ⟨mb, 1, none⟩) hmV).trans k1
    have r0 := (hb5.cell (p := ⟨w.heap.size, 0, none⟩) hrV).trans r0
    have r1 := (hb5.frozen (p := ⟨w.heap.size, 0, none⟩) hrV).trans r1
    have v1 := (hb5.cell (p := ⟨wr.heap.size, 0, none⟩) hnV).trans v1
    clear hT5 hb5 HMV HSV
    go_wp2_with fail
    refine (KC.out _ HM5.out).mono ?_
    rintro e w6 ⟨gw, rfl, hgw, hTw, hb6⟩
    have HTw := Lib.hid hTw
    have HT6 := Lib.hid (HT5.out.below hb6)
    have HS6 := Lib.hid (HS5.out.below hb6)
    have HB6 := Lib.hid (HB5.out.trans (hb6.mono hz5))
    have hz6 := hb6.size
    have k0 := (hb6.cell (p := ⟨mb, 0, none⟩) (by simp only; omega)).trans k0
    have k1 := (hb6.cell (p := ⟨mb, 1, none⟩) (by simp only; omega)).trans k1
    have r0 := (hb6.cell (p := ⟨w.heap.size, 0, none⟩) (by simp only; omega)).trans r0
    have r1 := (hb6.frozen (p := ⟨w.heap.size, 0, none⟩) (by simp only; omega)).trans r1
    have v1 := (hb6.cell (p := ⟨wr.heap.size, 0, none⟩) (by simp only; omega)).trans v1
    have hgne : V.heap.size ≠ gw := by have := HT5.out.lt; omega
    clear hTw hb6 HT5 HS5 HM5 HB5
    go_wp2_with fail
    refine sp_loop2 HT6.out HTw.out hgne ?_
    intro y154 y155 y156 y157 y158 y159 y160 y161 y162 y163 y164 y165 y166 y167 y168 y169 wz hK7
    have hz7 := hK7.size
    have r0 := (World.cell?_of_block (a := ⟨w.heap.size, 0, none⟩) (hK7.block w.heap.size (by omega) (by omega))).trans r0
    have r1 := (World.frozen?_of_block (a := ⟨w.heap.size, 0, none⟩) (hK7.block w.heap.size (by omega) (by omega))).trans r1
    have HS7 := Lib.hid (HS6.out.keep (w' := wz) fun g hg => hK7.block g (HS6.out.inb g hg) (fun e => by have := HP4.out.sl.inb g hg; omega))
    have HTw7 := Lib.hid (HTw.out.keep hz7 (hK7.block gw HTw.out.lt (fun e => hgne e.symm)))
    have HBz := Lib.hid (HB6.out.trans ((hK7.below (B := V.heap.size) (fun g hg => by omega) (by omega))))
    have hDz : wz.heap[D]? = some (.deferred (some [])) := (HBz.out.block D hDl).trans HK.out
    clear k0 k1 v1 HS6 HB6 hK7 HT6 HTw
    go_wp2_with fail
    refine (KH.out _ HS7.out).mono ?_
    rintro e w8 ⟨rfl, hT8, hb8⟩
    have hz8 := hb8.size
    have hgl := hT8.lt
    have hwl := HTw7.out.lt
    have q0 := hT8.c 0 (by decide)
    have q1 := (hb8.cell (p := ⟨gw, 0, none⟩) hwl).trans (HTw7.out.c 0 (by decide))
    have r0 := (hb8.cell (p := ⟨w.heap.size, 0, none⟩) (by simp only; omega)).trans r0
    have r1 := (hb8.frozen (p := ⟨w.heap.size, 0, none⟩) (by simp only; omega)).trans r1
    have HB8 := Lib.hid hb8
    obtain ⟨zz, hzz⟩ : ∃ z, z = cnt 0 := ⟨_, rfl⟩
    rw [← hzz] at q0 q1
    have hgw8 : gw < w8.heap.size := by omega
    have HS : Hid (∀ W, Below w8.heap.size w8 W → W.cell? ⟨wz.heap.size, 0, none⟩ = some (.int .i64 zz) ∧ W.cell? ⟨gw, 0, none⟩ = some (.int .i64 zz)) := Lib.hid fun W h => ⟨(h.cell (p := ⟨wz.heap.size, 0, none⟩) hgl).trans q0, (h.cell (p := ⟨gw, 0, none⟩) hgw8).trans q1⟩
    have hrf8 := Below.refl w8.heap.size w8
    have hgr1 : (⟨w.heap.size, 0, none⟩ : Addr) ≠ ⟨wz.heap.size, 0, none⟩ := fun e => by have := congrArg Addr.block e; simp only at this; omega
    have hgr2 : (⟨w.heap.size, 0, none⟩ : Addr) ≠ ⟨gw, 0, none⟩ := fun e => by have := congrArg Addr.block e; simp only at this; omega
    have hr8 : w.heap.size < w8.heap.size := by omega
    clear hT8 hb8 hzz HS7 KH KC
    go_wp2_with fail
    go_region_held3 (fun W => W.cell? ⟨wz.heap.size, 0, none⟩ = some (.int .i64 zz) ∧ W.cell? ⟨gw, 0, none⟩ = some (.int .i64 zz)) (first | exact HS.out _ (by assumption) | exact ⟨(World.cell?_setCell_other _ _ _ _ hgr1).trans (HS.out _ (by assumption)).1, (World.cell?_setCell_other _ _ _ _ hgr2).trans (HS.out _ (by assumption)).2⟩ | exact HS.out _ (by go_grown)) (first
      | (go_at_call 8; refine (works8_any _).mono ?_; rintro e w9 ⟨rfl, hb⟩; have hb9 : Below w8.heap.size w8 w9 := Below.trans (by go_grown) (hb.mono (by go_size)); have hz9 := hb9.size; have r0 := (hb9.cell (p := ⟨w.heap.size, 0, none⟩) hr8).trans r0; have r1 := (hb9.frozen (p := ⟨w.heap.size, 0, none⟩) hr8).trans r1; clear hb))
    all_goals
      go_wp2_with fail
      have hB9 : Below V.heap.size V w9 := HBz.out.trans ((HB8.out.trans (hb9.mono hz8)).mono (by omega))
      have hd9 : w9.heap[D]? = some (.deferred (some [])) := (hB9.block D hDl).trans HK.out
      have hKs := (KeepsOthers.setCell w9 ⟨w.heap.size, 0, none⟩ (.bool true)).same D _ hd9 rfl
      have t0 : (w9.setCell ⟨w.heap.size, 0, none⟩ (.bool true)).cell? ⟨w.heap.size, 0, none⟩ = some (.bool true) := World.cell?_setCell_same _ _ _ r0
      have t1 := cell_put (o' := .deferred none) hKs rfl t0
      have hD2 : w.heap.size ≤ D := by have := HBV.out.size; omega
      exact postM_ret1 (v := .bool true) rfl hKs (by simp [results, Try.results4, go_sem, t1]) ⟨rfl, ((HBV.out.trans (hB9.mono HBV.out.size)).setCell (by simp only; omega) _).trans ((below_put hKs hD2))⟩
end Go.Proofs.Ytlnfdejflpgleaa
