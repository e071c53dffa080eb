/-
  The walk of acreagelaw08.SkipStill.
-/
import Derived.Test.YtlnfdejflpgleaaStillP
import Derived.Test.YtlnfdejflpgleaaReads
import Derived.Shelf.RegionOpen
namespace Go.Proofs.Ytlnfdejflpgleaa
open Go.RowKit Go.Shelf

attribute [local go_sem] Oper.semAt_some readsUpon
set_option maxRecDepth 100000 in
set_option maxHeartbeats 4000000 in
theorem skipstill_any (ao ao2 : Option Addr) (n cap m cap2 : Nat) (cs : List CellA) (c : CellA) (w : World) (h : Cells w ao n cap cs) (hok : ∀ c ∈ cs, c.Ok) (hh : Hts w ao2 m cap2) (hc : c.Ok) :
    Calls Try.prog 3 #[.slice ao n cap, .slice ao2 m cap2, .agg #[.string c.row, .string c.col, .int .u64 c.ver, .bool c.gone, .string c.val]] w fun e w' => e = .returned (.bool true) ∧ Below w.heap.size w w' := by
  have H := Lib.hid h
  have Hl := Lib.hid h.len
  have Hok := Lib.hid hok
  have HA := Lib.hid hh
  have Hc := Lib.hid hc
  have hc1 := Arr.fits h
  have hc2 := Arr.max h
  unfold maxLen at hc2
  have KP := Lib.hid fun (q : Nat) (W : World) (hq : q ≤ n) (hq2 : q ≤ 100) (hW : Below w.heap.size w W) => put8g_any ao ao2 q cap m cap2 (cs.take q) W (Arr.below (Cells.short h hq) hW) (fun c hc => hok c (List.mem_of_mem_take hc)) (hh.below hW) (by omega)
  clear h hok hh hc
  refine callsIn_wide.1 (callsIn_of_wp_marks (F := Fence.wide) (n := 20) Try.func3 rfl trivial ?_ rfl); refine wpIn_wide.2 ?_; simp only [Try.ntmps3, List.size_toArray, List.length_cons, List.length_nil, Nat.reduceAdd, Nat.reduceSub, Array.replicate_succ, Array.replicate_zero, List.push_toArray, List.append_toArray, List.nil_append, List.cons_append]
  go_wp2_with fail
  refine (works8_any _).mono ?_
  rintro e w1 ⟨rfl, hb⟩
  obtain ⟨hB, hSz, hk⟩ := after (B := w.heap.size) (w := w) (by go_grown) (by go_size) hb
  obtain ⟨c0, f0, z0⟩ := hk w.heap.size (by go_size)
  obtain ⟨c1, f1, z1⟩ := hk (w.heap.size + 1) (by go_size)
  have e0 : w1.cell? ⟨w.heap.size, 0, none⟩ = some (.string c.row) := (c0 0).trans (by go_simp)
  have e1 : w1.cell? ⟨w.heap.size, 1, none⟩ = some (.string c.col) := (c0 1).trans (by go_simp)
  have e2 : w1.cell? ⟨w.heap.size, 2, none⟩ = some (.int .u64 c.ver) := (c0 2).trans (by go_simp)
  have e3 : w1.cell? ⟨w.heap.size, 3, none⟩ = some (.bool c.gone) := (c0 3).trans (by go_simp)
  have e4 : w1.cell? ⟨w.heap.size, 4, none⟩ = some (.string c.val) := (c0 4).trans (by go_simp)
  have e5 : w1.cell? ⟨w.heap.size + 1, 0, none⟩ = some (.bool false) := (c1 0).trans (by go_simp)
  have e6 : w1.frozen? ⟨w.heap.size + 1, 0, none⟩ = false := (f1 0).trans (by go_simp)
  have HE := Lib.hid (And.intro (show CellAt w1 w.heap.size 0 c from ⟨e0, e1, e2, e3, e4⟩) (And.intro e5 e6))
  have B1 := Lib.hid hB
  clear hB hk hb c0 f0 c1 f1 e0 e1 e2 e3 e4 e5 e6
  go_wp2_with fail
  all_goals
    refine (KP.out _ w1 (by omega) (by omega) B1.out).mono ?_
    rintro e w2 ⟨lb, l, F, rfl, hS, hl, hF, hb2, hlok⟩
    have HLok := Lib.hid hlok
    have HS := Lib.hid hS
    have HF := Lib.hid hF
    have B2 := Lib.hid hb2
    have z2 := hb2.size
    have hl100 : l.length ≤ 100 := by omega
    clear hS hF hb2 hlok
    go_wp2_with fail
    refine (list_sl lb l F _ (HS.out.below ((Below.refl _ _).alloc (Nat.le_refl _) _)) (by omega)).mono ?_
    rintro e w3 ⟨v3, rfl, ho3, hb3⟩
    obtain ⟨L, hL⟩ : ∃ L, L = l.map Prod.fst := ⟨_, rfl⟩
    have HL := Lib.hid hL
    rw [← hL] at ho3
    obtain ⟨ao3, cap3, rfl, hC3⟩ := Own.cells ho3
    have HC3 := Lib.hid hC3
    have HO3 := Lib.hid ho3
    have hz3 := hb3.size
    simp only [World.size_alloc] at hz3
    have hz3b : w2.heap.size < w3.heap.size := by omega
    have hxb : w3.cell? ⟨w2.heap.size, 0, none⟩ = some (.pointer (some ⟨lb, 0, none⟩)) := (hb3.cell (p := ⟨w2.heap.size, 0, none⟩) (by simp)).trans (by go_simp)
    have HB23 := Lib.hid (((Below.refl w2.heap.size w2).alloc (Nat.le_refl _) (.cells #[.pointer (some ⟨lb, 0, none⟩)] 28)).trans (hb3.mono (by simp)))
    clear hb3 ho3 hC3 hL
    go_wp2_with fail
    refine (all_any lb _).mono ?_
    rintro e w4 ⟨rfl, hb4, hz4, kA⟩
    simp only [World.size_alloc] at hz4 kA
    have x0 : w4.cell? ⟨w3.heap.size, 0, none⟩ = some (.slice ao3 L.length cap3) := (hb4.cell (p := ⟨w3.heap.size, 0, none⟩) (by simp; omega)).trans (by go_simp)
    have x1 : w4.cell? ⟨w3.heap.size + 1, 0, none⟩ = some (.int .i64 0) := (hb4.cell (p := ⟨w3.heap.size + 1, 0, none⟩) (by simp)).trans (by go_simp)
    have x2 : w4.frozen? ⟨w3.heap.size + 1, 0, none⟩ = false := (hb4.frozen (p := ⟨w3.heap.size + 1, 0, none⟩) (by simp)).trans (by go_simp)
    have HB34 := Lib.hid (((((Below.refl w3.heap.size w3).alloc (Nat.le_refl _) (.cells #[.slice ao3 L.length cap3] 22)).alloc (by simp) (.cells #[.int .i64 0] 3))).trans (hb4.mono (by simp; omega)))
    clear hb4
    go_wp2
    have HB14 := Lib.hid ((B2.out.trans (HB23.out.mono z2)).trans (HB34.out.mono (by omega)))
    have haol : ∀ a, ao3 = some a → w2.heap.size < a.block ∧ a.block < w3.heap.size := by
      intro a ha
      subst ha
      rcases Row.form HO3.out with ⟨e, _⟩ | ⟨g, cp, e, r1, r2, _⟩
      · cases e
      · cases e
        simp only [World.size_alloc] at r1
        exact ⟨by simp only; omega, r2⟩
    have Haol := Lib.hid haol
    obtain ⟨s, hs⟩ : ∃ s : SV, s = ⟨w2.heap.size, w3.heap.size, w3.heap.size + 1⟩ := ⟨_, rfl⟩
    have hI0 : StillI w c lb s ao3 cap3 L 0 100 w4 := by
      obtain ⟨e0, e5, e6⟩ := HE.out
      subst hs
      refine ⟨B1.out.trans (HB14.out.mono B1.out.size), e0.same (HB14.out.block _ z0), ⟨_, (HB14.out.cell (p := ⟨_, _, none⟩) z1).trans e5⟩, (HB14.out.frozen (p := ⟨_, _, none⟩) z1).trans e6, (HB34.out.cell (p := ⟨_, _, none⟩) hz3b).trans hxb, x0, Arr.below HC3.out HB34.out, fun a ha => by have := (haol a ha).2; omega, x1, x2, ⟨l, F, HS.out.below (HB23.out.trans (HB34.out.mono (by omega))), hl100, fun q hq => ?_⟩⟩
      have r1 := HF.out q hq
      have r2 := HS.out.inb q hq
      exact ⟨by omega, fun hi => by rcases hi with e | e | e | e | e <;> ((try simp only at e); omega), fun a ha e => by have := (haol a ha).1; omega⟩
    have HI0 := Lib.hid hI0
    clear haol hI0 HE x0 x1 x2 hxb
    obtain ⟨hd, ns, q1, q2, _⟩ := HS.out.ex
    have hLn : L = cellsFrom (hd :: ns) 1 := by rw [cellsFrom_one, ← nd_fst, q2, HL.out]
    have HLn := Lib.hid hLn
    have HSk := Lib.hid (q1.below (HB23.out.trans (HB34.out.mono (by omega))))
    have hns : ns.length < 1000000 := by have := congrArg List.length q2; rw [List.length_map] at this; omega
    clear hLn q1 q2
    refine (wpIn_wide (n := 20)).1 ?_
    refine range_round (n := 20) (by omega) (gf := 27) (lb := #[.pointer (some ⟨w3.heap.size + 1 + 1, 0, none⟩)]) rfl (enters_of Try.func27 (by kernel_rfl) rfl)
      (all1_stops 19 (by omega) _ lb hd ns w4 HSk.out kA hns (SafeS w4.heap.size) (safeS w4) (w4.heap.size + 2) (by omega))
      (fun h k => h.trans k) (fun V o o' ho hc => KpS.putObj (safeS w4) (Nat.le_succ _) (Nat.lt_succ_self _) ho hc) (fun _ => rfl)
      (fun (pre : List { c : CellA // c ∈ cellsFrom (hd :: ns) 1 }) V => StillI w c lb s ao3 cap3 L pre.length (100 + 2 * pre.length) V ∧ pre.map Subtype.val = L.take pre.length) (fun cd (pre : List { c : CellA // c ∈ cellsFrom (hd :: ns) 1 }) _ => cd = .ret ∧ ¬ (pre.map Subtype.val <+: cellsFrom (hd :: ns) 1)) ?hI (fun _ _ _ _ _ h _ _ => h) ⟨HI0.out, rfl⟩
      ?hround ?done ?stop
    case hI =>
      rintro pre A B row ⟨h1, h2⟩ hg hr
      exact ⟨StillI.own (fun (p : List { c : CellA // c ∈ cellsFrom (hd :: ns) 1 }) => p.length) (fun p => 100 + 2 * p.length) (w1 := w4) (by have := B1.out.size; have := HB14.out.size; omega) pre A B row h1 hg hr, h2⟩
    case hround =>
      rintro l2 pre x W hl2 ⟨hI, hpre⟩ hlt
      gi_wp2
      refine ⟨keepsFrom_alloc _ _, fun W2 hg2 hz2 hnc => ?_⟩
      have hbA : Below W.heap.size W (W.alloc (.cells #[.string x.1.row, .string x.1.col, .int .u64 x.1.ver, .bool x.1.gone, .string x.1.val] 26)) := (Below.refl _ _).alloc (Nat.le_refl _) _
      have hW4 : w4.heap.size ≤ l2 := by omega
      have hzA := hbA.size
      have cell2 : ∀ {p : Addr} {v : Value}, (W.alloc (.cells #[.string x.1.row, .string x.1.col, .int .u64 x.1.ver, .bool x.1.gone, .string x.1.val] 26)).cell? p = some v → W2.cell? p = some v := fun {p v} hv => cell_kept hv hg2 (fun r e => by cases e; exact hnc)
      have hWq : ∀ (q : Nat) (o : Obj), W.heap[q]? = some o → o.isCells = true → W2.heap[q]? = W.heap[q]? := fun q o hq hc => by
        have hql := (Array.getElem?_eq_some_iff.1 hq).1
        rw [hg2.block q (by rw [World.size_alloc]; omega) (fun e => by
          obtain ⟨o2, h1, h2⟩ := hnc
          have e2 : q = l2 := Option.some.inj e
          subst e2
          rw [Below.heap_alloc _ _ _ hql, hq] at h1
          cases h1
          rw [hc] at h2; cases h2)]
        exact Below.heap_alloc _ _ _ hql
      have hbW2 : Below w.heap.size w W2 := (hI.bel.alloc hI.bel.size _).grown hg2 (by rw [World.size_alloc]; have := hI.bel.size; omega) (fun q e => by cases e; have := B1.out.size; have := HB14.out.size; omega)
      have hI2 : StillI w c lb s ao3 cap3 L pre.length (100 + 2 * pre.length) W2 := hI.keep hbW2 (by rw [hz2]; exact hzA) hWq
      have hI1 : ∀ v, StillI w c lb s ao3 cap3 L pre.length (100 + 2 * pre.length) (W2.drew.setCell ⟨W.heap.size, 2, none⟩ v) := fun v => hI.keep ((hbW2.drew).setCell hI.bel.size _) (by rw [World.size_setCell]; show _ ≤ W2.heap.size; rw [hz2]; exact hzA) (fun q o hq hc => (Below.heap_setCell _ _ _ _ (by have := (Array.getElem?_eq_some_iff.1 hq).1; simp only; omega)).trans (hWq q o hq hc))
      have hxok : x.1.Ok := by
        have hx2 : x.1 ∈ L := by rw [HLn.out]; exact x.2
        rw [HL.out] at hx2
        obtain ⟨p, hp, e⟩ := List.mem_map.1 hx2
        rw [← e]; exact HLok.out p hp
      have Hxok := Lib.hid hxok
      have hl2W : l2 < W.heap.size + 1 := by
        obtain ⟨o, h, _⟩ := hnc
        have := (Array.getElem?_eq_some_iff.1 h).1
        rwa [World.size_alloc] at this
      clear hxok
      have y0 : W2.cell? ⟨W.heap.size, 0, none⟩ = some (.string x.1.row) := cell2 (by go_simp)
      have y1 : W2.cell? ⟨W.heap.size, 1, none⟩ = some (.string x.1.col) := cell2 (by go_simp)
      have y2 : W2.cell? ⟨W.heap.size, 2, none⟩ = some (.int .u64 x.1.ver) := cell2 (by go_simp)
      have y3 : W2.cell? ⟨W.heap.size, 3, none⟩ = some (.bool x.1.gone) := cell2 (by go_simp)
      have y4 : W2.cell? ⟨W.heap.size, 4, none⟩ = some (.string x.1.val) := cell2 (by go_simp)
      have y5 : W2.frozen? ⟨W.heap.size, 2, none⟩ = false := (frozen_kept (v := .int .u64 x.1.ver) (by go_simp) hg2 (fun r e => by cases e; exact hnc)).trans (by go_simp)
      clear cell2
      obtain ⟨k, hk⟩ : ∃ k, k = pre.length := ⟨_, rfl⟩
      rw [← hk] at hI2 hpre hlt hI1
      have hkL : k < L.length := by have := congrArg List.length HLn.out; omega
      obtain ⟨z, hz⟩ : ∃ z, L[k]? = some z := ⟨_, List.getElem?_eq_getElem hkL⟩
      obtain ⟨b, off, hao, hbl, ⟨u0, u1, u2, u3, u4⟩⟩ := Cells.at_ hI2.cells hz
      have v1 := hI2.n
      have v2 := hI2.bf
      have v3 := hI2.x
      have hkI : (k : Int) < (L.length : Int) := by omega
      have hkI0 : (0 : Int) ≤ (k : Int) := by omega
      have hkI1 : (L.length : Int) ≤ 9223372036854775807 := by have := Arr.max hI2.cells; have := Arr.fits hI2.cells; unfold maxLen at *; omega
      have hkD : decide ((L.length : Int) ≤ (k : Int)) = false := by simp; omega
      have hkD2 : decide (L.length ≤ k) = false := by simp; omega
      have hmx : Try.prog.follows .mixedOrders = true := by kernel_rfl
      subst hs hao
      simp only at v1 v2 v3
      have Hk := Lib.hid hk
      clear hk
      have HI2 := Lib.hid hI2
      have HI1 := Lib.hid hI1
      have HWq := Lib.hid hWq
      clear hI1 hWq hbW2
      have Hz := Lib.hid hz
      have Hpre := Lib.hid hpre
      have Hhg := Lib.hid hg2
      have Hnc := Lib.hid hnc
      by_cases hxz : x.1 = z
      · subst hxz
        have HIW := Lib.hid hI
        clear hI2 hz hpre hg2 hnc hI
        have hL100 : L.length ≤ 100 := by rw [HL.out, List.length_map]; exact hl100
        have hlb : lb < w4.heap.size := HSk.out.inb lb (.inl rfl)
        have hk30 : (0 : Int) ≤ (k : Int) % 3 := by omega
        have hk120 : (0 : Int) ≤ (k : Int) % 12 := by omega
        have hk121 : (k : Int) % 12 ≤ 11 := by omega
        by_cases h3 : k % 3 = 0
        · have h3b : (((k : Int) % 3) == 0) = true := by simp; omega
          have H3 := Lib.hid h3
          clear h3
          gi_wp2
          refine wpIn_region_reads 59 (fun _ => trivial) hmx (by kernel_rfl) (by kernel_rfl) (by kernel_rfl) rfl ?_
          repeat (refine wpReads_step (fun K hK => ?_); go_simp; refine hK _ ?_; clear hK K)
          refine wpReads_nil ?_
          gi_wp2_with fail
          all_goals
            refine ⟨trivial, ?_⟩
            gi_at_call 12
            refine (CallsIn.inRound _ (callsIn_wide.2 (still_put ⟨x.1.row, x.1.col, IntKind.u64.wrap (x.1.ver + 1), x.1.gone, x.1.val⟩ ⟨Hxok.out.row, Hxok.out.col, Hxok.out.val, (u64_wrap_ok _).1, (u64_wrap_ok _).2⟩ _ (HI1.out _) (by omega) (B := w4.heap.size) hlb))).mono ?_
            rintro e w5 ⟨rfl, hI5, hS5, hK5⟩
            have g0 := hI5.x
            have g1 := hI5.c.c0
            have g2 := hI5.c.c1
            have g3 := hI5.c.c2
            have g4 := hI5.c.c3
            have g5 := hI5.c.c4
            simp only [Nat.zero_add] at g0 g1 g2 g3 g4 g5
            have HI5 := Lib.hid hI5
            have HS5 := Lib.hid hS5
            have HK5 := Lib.hid hK5
            clear hI5 hS5 hK5
            gi_wp2_with fail
            refine ⟨trivial, ?_⟩
            gi_at_call 12
            refine (CallsIn.inRound _ (callsIn_wide.2 (still_put c Hc.out _ HI5.out (by omega) (B := w4.heap.size) hlb))).mono ?_
            rintro e w6 ⟨rfl, hI6, hS6, hK6⟩
            clear g0 g1 g2 g3 g4 g5
            have g0 := hI6.n
            have g1 := hI6.nf
            simp only at g0 g1
            have HI6 := Lib.hid hI6
            have HS6 := Lib.hid hS6
            have HK6 := Lib.hid hK6
            clear hI6 hS6 hK6
            gi_wp2
            have hcnt := HI6.out.count ⟨by simp only; omega, by simp only; omega, by simp only; omega, by simp only; omega, fun a ha => by have := (Haol.out a ha).2; simp only; omega, by simp only; omega⟩ w4.heap.size (by simp only; omega)
            have hle : (pre ++ [x]).length = k + 1 := by rw [List.length_append, Hk.out]; rfl
            refine ⟨still_kps (by omega) (by rw [← hl2]; exact Hhg.out) (V1 := W2.drew.setCell ⟨W.heap.size, 2, none⟩ (.int .u64 (IntKind.u64.wrap (x.1.ver + 1)))) (V := w6) (fun g hg => Below.heap_setCell _ _ _ _ (by simp only; omega)) HWq.out (fun g hg => (HS6.out g (hg.same (HS5.out g hg))).trans (HS5.out g hg)) (fun g hg => (hcnt.2 g hg).1) (fun B' => (keepsFrom_drew W2).trans ((keepsFrom_setCell _ _ _).trans ((HK5.out _).trans ((HK6.out _).trans (keepsFrom_setCell _ _ _))))), ?_, ?_⟩
            · rw [hle]
              exact hcnt.1.weak (by omega)
            · rw [hle, List.map_append, Hpre.out, List.take_add_one, Hz.out]; rfl
        · have h3b : (((k : Int) % 3) == 0) = false := by simp; omega
          have H3 := Lib.hid h3
          clear h3
          gi_wp2
          refine wpIn_region_reads 59 (fun _ => trivial) hmx (by kernel_rfl) (by kernel_rfl) (by kernel_rfl) rfl ?_
          repeat (refine wpReads_step (fun K hK => ?_); go_simp; refine hK _ ?_; clear hK K)
          refine wpReads_nil ?_
          have g0 := HI2.out.nf
          simp only at g0
          gi_wp2
          all_goals
            have hcnt := (HI2.out.keep (V' := W2.drew) HI2.out.bel.drew (Nat.le_refl _) (fun _ _ _ _ => rfl)).count ⟨by simp only; omega, by simp only; omega, by simp only; omega, by simp only; omega, fun a ha => by have := (Haol.out a ha).2; simp only; omega, by simp only; omega⟩ w4.heap.size (by simp only; omega)
            have hle : (pre ++ [x]).length = k + 1 := by rw [List.length_append, Hk.out]; rfl
            refine ⟨still_kps (by omega) (by rw [← hl2]; exact Hhg.out) (V1 := W2.drew) (V := W2.drew) (fun g hg => rfl) HWq.out (fun g hg => rfl) (fun g hg => (hcnt.2 g hg).1) (fun B' => (keepsFrom_drew W2).trans (keepsFrom_setCell _ _ _)), ?_, ?_⟩
            · rw [hle]
              exact hcnt.1.weak (by omega)
            · rw [hle, List.map_append, Hpre.out, List.take_add_one, Hz.out]; rfl
      · have HIW := Lib.hid hI
        have Hxz := Lib.hid hxz
        have hlW : w4.heap.size ≤ W.heap.size := by omega
        have r0 := HI2.out.res
        have r1 := HI2.out.resf
        obtain ⟨ru, r0⟩ := r0
        try simp only at r0 r1
        have hdif := cell_differ hxz
        clear hI2 hz hpre hg2 hnc hI hxz
        rcases hdif with ⟨n1, n2⟩ | ⟨t1, n1, n2⟩ | ⟨t1, t2, n1⟩ | ⟨t1, t2, t3, n1, n2⟩ | ⟨t1, t2, t3, n1, n2⟩ | ⟨t1, t2, t3, t4, n1, n2⟩
        all_goals
          gi_wp2
          refine wpIn_region_reads 59 (fun _ => trivial) hmx (by kernel_rfl) (by kernel_rfl) (by kernel_rfl) rfl ?_
          repeat (refine wpReads_step (fun K hK => ?_); go_simp; refine hK _ ?_; clear hK K)
          refine wpReads_nil ?_
          gi_wp2
          refine ⟨still_kps hlW (by rw [← hl2]; exact Hhg.out) (V1 := W2.drew) (V := W2.drew) (fun g hg => rfl) HWq.out (fun g hg => rfl) (fun g hg => Below.heap_setCell _ _ _ _ (by have := hg.le; simp only; omega)) (fun B' => (keepsFrom_drew W2).trans (keepsFrom_setCell _ _ _)), rfl, fun hp => ?_⟩
          obtain ⟨t, ht⟩ := hp
          have hx3 : L[k]? = some x.1 := by
            have e := congrArg (fun l : List CellA => l[k]?) ht
            rw [List.map_append, List.append_assoc, List.getElem?_append_right (by rw [List.length_map, Hk.out]; exact Nat.le_refl _)] at e
            rw [HLn.out, ← e]
            simp [Hk.out]
          rw [Hz.out] at hx3
          exact Hxz.out (Option.some.inj hx3).symm
    case done =>
      rintro D xs V hD hx ⟨hI, hpre⟩ hK
      have hxl : xs.length = L.length := by have := congrArg List.length hx; rw [List.length_map] at this; rw [HLn.out]; exact this
      have v1 := hI.n
      have v2 := hI.bf
      obtain ⟨u, v3⟩ := hI.res
      have v4 := hI.resf
      rw [hxl] at v1
      have hbel := hI.bel
      clear hI
      subst hs
      simp only at v1 v2
      go_wp2
      have hKs := (KeepsOthers.setCell V ⟨w.heap.size + 1, 0, none⟩ (.bool true)).same D _ hK rfl
      have t0 : (V.setCell ⟨w.heap.size + 1, 0, none⟩ (.bool true)).cell? ⟨w.heap.size + 1, 0, none⟩ = some (.bool true) := World.cell?_setCell_same _ _ _ v3
      have t1 := cell_put (o' := .deferred none) hKs rfl t0
      have hD2 : w.heap.size ≤ D := by have := B1.out.size; have := HB14.out.size; omega
      exact postM_ret1 (v := .bool true) rfl hKs (by simp [results, Try.results3, go_sem, t1]) ⟨rfl, (hbel.setCell (by simp only; omega) _).trans ((below_put hKs hD2))⟩
    case stop =>
      rintro D cd pre V hD hp ⟨rfl, h1⟩ hK
      exact absurd hp h1
end Go.Proofs.Ytlnfdejflpgleaa
