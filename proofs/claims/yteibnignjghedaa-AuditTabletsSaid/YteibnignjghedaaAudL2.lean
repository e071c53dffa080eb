/-
  The walk of acreagelaw32.AuditTablets.
-/
import Derived.Test.YteibnignjghedaaAudL1
namespace Go.Proofs.Yteibnignjghedaa
open Go.RowKit Go.Sort

/-- a row of numbers, whichever, that a call owns -/
def NumR (w : World) (B : Nat) (c : LocI) : Prop := ∃ xs, Row w B 3 1 (.slice c.na c.nn c.nc) c.nn xs
theorem NumR.set {w : World} {B : Nat} {c : LocI} (h : NumR w B c) (q j : Nat) (u : Value) : NumR (w.setCell ⟨q, j, none⟩ u) B c := by
  obtain ⟨xs, h1, h2⟩ := h
  rcases h2 with ⟨e, h0⟩ | ⟨g, cap, cur, fr, e, hb, hg, hf, hn, hm, hs, ht⟩
  · exact ⟨xs, h1, .inl ⟨e, h0⟩⟩
  · by_cases hq : g = q
    · subst hq
      refine ⟨(cur.setIfInBounds j u).toList.take (c.nn * 1), ?_, .inr ⟨g, cap, cur.setIfInBounds j u, fr, e, hb, ?_, by simpa using hf, hn, hm, by simpa using hs, rfl⟩⟩
      · rw [List.length_take]
        simp only [Array.length_toList, Array.size_setIfInBounds]
        omega
      · rw [setCell_eq_setRow w g j cur 3 fr u hg]
        exact setRow_heap w g cur _ 3 fr hg
    · exact ⟨xs, h1, .inr ⟨g, cap, cur, fr, e, hb, (Below.heap_setCell _ _ _ _ (by simpa using hq)).trans hg, hf, hn, hm, hs, ht⟩⟩
theorem NumR.below {w w' : World} {B : Nat} {c : LocI} (h : NumR w B c) (hb : Below w.heap.size w w') : NumR w' B c := let ⟨xs, h1⟩ := h; ⟨xs, Row.below h1 hb⟩
/-- rows of unlike types lie apart -/
theorem rows_apart {w : World} {B B' : Nat} {T T' : TypeId} {s s' n n' : Nat} {v v' : Value} {xs xs' : List Value} (h : Row w B T s v n xs) (h' : Row w B' T' s' v' n' xs') (hT : T ≠ T') {q : Nat} (hq : v.ownBlock = some q) : v'.ownBlock ≠ some q := fun hq' => by
  rcases h.2 with ⟨e, _⟩ | ⟨g, cap, cur, fr, e, _, hg, _⟩
  · rw [e] at hq; cases hq
  · rcases h'.2 with ⟨e2, _⟩ | ⟨g2, cap2, cur2, fr2, e2, _, hg2, _⟩
    · rw [e2] at hq'; cases hq'
    · rw [e] at hq; rw [e2] at hq'
      cases hq; cases hq'
      rw [hg] at hg2
      cases hg2
      exact hT rfl

set_option maxRecDepth 100000 in
set_option maxHeartbeats 4000000 in
theorem audittablets_any (ao : Option Addr) (n cap : Nat) (l : List SeenA) (w : World) (h : Seens w ao n cap l) (hok : ∀ s ∈ l, s.Ok) (hwt : ∀ s ∈ l, s.bn * 8 ≤ 140737488355328 ∧ s.en * 264 ≤ 140737488355328 ∧ ∀ e ∈ s.es, e.mn * 8 ≤ 140737488355328) :
    Calls Try.prog 4 #[.slice ao n cap] w fun e w' => e = .returned (.bool true) ∧ Below w.heap.size w w' := by
  obtain ⟨m, hm⟩ : ∃ m : Nat, min (n : Int) 12 = m := ⟨min n 12, by omega⟩
  have hm12 : m ≤ 12 := by omega
  have hmn : m ≤ n := by omega
  have hcap := Arr.fits h.arr
  have hmax := Arr.max h.arr
  unfold maxLen at hmax
  have hT := h.take hmn
  have hwt2 : ∀ s ∈ l.take m, s.bn * 8 ≤ 140737488355328 ∧ s.en * 264 ≤ 140737488355328 ∧ ∀ e ∈ s.es, e.mn * 8 ≤ 140737488355328 := fun s hs => hwt s (List.mem_of_mem_take hs)
  generalize l.take m = q at *
  obtain ⟨T, hTd⟩ : ∃ T, T = tabsL q := ⟨_, rfl⟩
  have hT9 : T.length ≤ 9 := by rw [hTd]; exact tabs_len q
  have KO := Lib.hid (own_any ao m cap q w hT hm12 hwt2)
  have KT : Hid (∀ (ra : Option Addr) (rc : Nat) (l' : List SeenA) (V : World), Seens V ra m rc l' → l'.map SeenA.norm = q.map SeenA.norm → Calls Try.prog 13 #[.slice ra m rc] V fun e w' => ∃ a c cs, e = .returned (.slice a T.length c) ∧ Row w' V.heap.size 37 5 (.slice a T.length c) T.length (cs.map LocI.l).flatten ∧ LocsI w' a T.length c cs ∧ (∀ c ∈ cs, NumR w' V.heap.size c) ∧ cs.map LocI.says = T ∧ Below V.heap.size V w') := Lib.hid (fun ra rc l' V h1 h2 => by
    refine (tablets_any ra m rc l' V h1 (fun s hs => by obtain ⟨s0, h3, h4⟩ := norm_mem h2 hs; exact norm_wt h4 ⟨(hwt2 s0 h3).1, (hwt2 s0 h3).2.2⟩)).mono ?_
    rintro e w' ⟨v, cs, rfl, hr, hN, hS, hb⟩
    rw [tabs_same h2, ← hTd] at hS
    have hl : cs.length = T.length := by rw [← hS, List.length_map]
    rw [hl] at hr
    obtain ⟨a, c, rfl⟩ := row_slice hr
    exact ⟨a, c, cs, rfl, hr, ⟨row_arr (by decide) (by rw [List.length_map, hl]) hr (loc_elems cs), fun c hc => row_arr (by decide) (by have := (hN c hc).1; rw [flatten_len (intE_elems _).len, List.length_map] at this; rw [List.length_map]; omega) (hN c hc) (intE_elems _)⟩, fun c hc => ⟨_, hN c hc⟩, hS, hb⟩)
  have KR : Hid (∀ V, Below w.heap.size w V → Calls Try.prog 15 #[.slice ao m cap] V fun e w' => ∃ a c cs, e = .returned (.slice a T.length c) ∧ LocsI w' a T.length c cs ∧ cs.map LocI.says = T ∧ Below V.heap.size V w') := Lib.hid (fun V hV => by
    refine (rtablets_any ao m cap q V (hT.below hV) (fun s hs => ⟨(hwt2 s hs).1, (hwt2 s hs).2.2⟩)).mono ?_
    rintro e w' ⟨v, cs, rfl, hr, hN, hS, hb⟩
    rw [← hTd] at hS
    have hl : cs.length = T.length := by rw [← hS, List.length_map]
    rw [hl] at hr
    obtain ⟨a, c, rfl⟩ := row_slice hr
    exact ⟨a, c, cs, rfl, ⟨row_arr (by decide) (by rw [List.length_map, hl]) hr (loc_elems cs), hN⟩, hS, hb⟩)
  have KS : Hid (∀ a c a2 c2 (cs cs2 : List LocI) (V : World), LocsI V a T.length c cs → LocsI V a2 T.length c2 cs2 → cs.map LocI.says = T → cs2.map LocI.says = T → Calls Try.prog 14 #[.slice a T.length c, .slice a2 T.length c2] V fun e w' => e = .returned (.bool true) ∧ Below V.heap.size V w') := Lib.hid (fun a c a2 c2 cs cs2 V h1 h2 h3 h4 => by
    refine (placesame_any a a2 T.length c T.length c2 cs cs2 V h1 h2).mono ?_
    rintro e w' ⟨rfl, hb⟩
    exact ⟨by rw [sameLs, h3, h4, decide_eq_true rfl], hb⟩)
  obtain ⟨L, hL⟩ : ∃ L, L = T.length := ⟨_, rfl⟩
  rw [← hL] at KT KR KS hT9
  have HL := Lib.hid hL
  clear h hok hwt hT hwt2 hTd hL
  go_enter Try.func4, Try.ntmps4
  go_upto_region 6 with (first
    | (go_at_call 10; refine KO.out.mono ?_; rintro e w1 ⟨ra, rc, l', rfl, hS1, hN1, hb1⟩; have HS1 := Lib.hid hS1; have HN1 := Lib.hid hN1; have Hb1 := Lib.hid hb1; clear hS1 hN1 hb1)
    | (go_at_call 13; refine (KT.out ra rc l' w1 HS1.out HN1.out).mono ?_; rintro e w2 ⟨a2, c2, cs, rfl, hr2, hA2, hM2, hs2, hb2⟩; have HR2 := Lib.hid hr2; have HA2 := Lib.hid hA2; have HM2 := Lib.hid hM2; have Hs2 := Lib.hid hs2; have Hb12 := Lib.hid hb2; have Hb2 := Lib.hid (Hb1.out.trans (hb2.mono Hb1.out.size)); clear hr2 hA2 hM2 hs2 hb2)
    | (go_at_call 15; refine (KR.out w2 Hb2.out).mono ?_; rintro e w3 ⟨a3, c3, cs3, rfl, hA3, hs3, hb3⟩; have HA3 := Lib.hid hA3; have Hs3 := Lib.hid hs3; have HA23 := Lib.hid (HA2.out.below hb3); have Hb23 := Lib.hid hb3; clear hA3 hs3 hb3)
    | (go_at_call 14; refine (KS.out a2 c2 a3 c3 cs cs3 w3 HA23.out HA3.out Hs2.out Hs3.out).mono ?_; rintro e w4 ⟨rfl, hb4⟩; have Hb24 := Lib.hid (Hb23.out.trans (hb4.mono Hb23.out.size)); clear hb4))
  have hcl : Hid (cs.length = L) := Lib.hid (by rw [HL.out, ← Hs2.out, List.length_map])
  have hz1 := Hb12.out.size
  have HV : Hid (Row w4 w1.heap.size 37 5 (.slice a2 L c2) L (cs.map LocI.l).flatten ∧ (∀ c ∈ cs, NumR w4 w1.heap.size c) ∧ Below w1.heap.size w1 w4) := Lib.hid ⟨Row.below HR2.out Hb24.out, fun c hc => (HM2.out c hc).below Hb24.out, Hb12.out.trans (Hb24.out.mono hz1)⟩
  have hL9 : L ≤ 9 := hT9
  have hc2 := Arr.fits HA2.out.arr
  have hc3 := Arr.max HA2.out.arr
  unfold maxLen at hc3
  clear hT9 hz1 HA2 HM2 HR2 HA3 HA23 Hb23 Hb24 Hs3
  go_wp2
  go_loopw [5] (fun i V => ∃ k : Nat, k ≤ L ∧ i = .int .i64 k ∧ Hid (Row V w1.heap.size 37 5 (.slice a2 L c2) L (cs.map LocI.l).flatten ∧ (∀ c ∈ cs, NumR V w1.heap.size c) ∧ Below w1.heap.size w1 V)) (fun i _ => L - (intOf i).toNat)
  case atStart => exact ⟨0, by omega, rfl, HV⟩
  case round =>
    obtain ⟨k, hk, rfl, hV⟩ := hrel
    clear HV
    by_cases hlt : k < L
    · obtain ⟨c, hc⟩ : ∃ c, cs[k]? = some c := ⟨_, List.getElem?_eq_getElem (by rw [hcl.out]; exact hlt)⟩
      have Hc := Lib.hid (List.mem_of_getElem? hc)
      have hA0 := row_arr (by decide) (by rw [List.length_map]; exact hcl.out) hV.out.1 (loc_elems cs)
      obtain ⟨g, off, e0, hg, xx⟩ := Arr.at_ hA0 (i := k) (e := c.l) (by rw [List.getElem?_map, hc]; rfl)
      cases e0
      have Hgk := Lib.hid (show (cs.map LocI.l)[k]? = some c.l from by rw [List.getElem?_map, hc]; rfl)
      have hnm : c.nn ≤ 9223372036854775807 := by
        obtain ⟨xs, hx⟩ := hV.out.2.1 c Hc.out
        rcases hx.form with ⟨_, h0⟩ | ⟨_, _, _, _, _, h1, h2⟩
        · omega
        · unfold maxLen at h2; omega
      have hV0 := hV
      clear hc xx hA0 hV
      go_wp2
      go_loopw [6] (fun i V => ∃ j : Nat, j ≤ c.nn ∧ i = .int .i64 j ∧ Hid (Row V w1.heap.size 37 5 (.slice (some ⟨g, off, none⟩) L c2) L (cs.map LocI.l).flatten ∧ (∀ c ∈ cs, NumR V w1.heap.size c) ∧ Below w1.heap.size w1 V)) (fun i _ => c.nn - (intOf i).toNat)
      case atStart => exact ⟨0, by omega, rfl, hV0⟩
      case round =>
        obtain ⟨j, hj, rfl, hV⟩ := hrel
        clear hV0
        obtain ⟨g2, off2, e2, hg2, yy⟩ := Arr.at_ (row_arr (by decide) (by rw [List.length_map]; exact hcl.out) hV.out.1 (loc_elems cs)) Hgk.out
        cases e2
        have x4 : wr.cell? ⟨g, off + k * 5 + 4, none⟩ = some (.slice c.na c.nn c.nc) := yy 4 _ rfl
        clear yy
        by_cases hlt2 : j < c.nn
        · obtain ⟨xs, hx⟩ := hV.out.2.1 c Hc.out
          rcases hx.form with ⟨_, h0⟩ | ⟨g3, c3, e3, hg3, hg3l, hn3, _⟩
          · omega
          have hna : c.na = some ⟨g3, 0, none⟩ := (Value.slice.inj e3).1
          have hnc : c.nc = c3 := (Value.slice.inj e3).2.2
          rw [hna] at x4
          rw [hna, hnc] at hx
          have f0 := Row.free hx (j := j) (by omega)
          have hxl : xs.length = c.nn * 1 := hx.1
          obtain ⟨u, hu⟩ : ∃ u, xs[j]? = some u := ⟨_, List.getElem?_eq_getElem (by omega)⟩
          have c0 : wr.cell? ⟨g3, j, none⟩ = some u := (Row.cell hx j (by omega)).trans hu
          have hap : (Value.slice (some ⟨g, off, none⟩) L c2).ownBlock ≠ some g3 := rows_apart hx hV.out.1 (by decide) rfl
          have Hap := Lib.hid hap
          have hzw := hV.out.2.2.size
          have Hx := Lib.hid hx
          have Hna := Lib.hid hna
          have HV2 : Hid (Row (wr.setCell ⟨g3, j, none⟩ (.int .i64 77)) w1.heap.size 37 5 (.slice (some ⟨g, off, none⟩) L c2) L (cs.map LocI.l).flatten ∧ (∀ c ∈ cs, NumR (wr.setCell ⟨g3, j, none⟩ (.int .i64 77)) w1.heap.size c) ∧ Below w1.heap.size w1 (wr.setCell ⟨g3, j, none⟩ (.int .i64 77))) :=
            Lib.hid ⟨Row.setCell hV.out.1 (fun q hq e => hap (by rw [hq]; exact congrArg some e)) _, fun c hc => (hV.out.2.1 c hc).set _ _ _, hV.out.2.2.setCell hg3 _⟩
          clear hx hu hxl e3 hap hna hnc hV
          go_wp2
          exact ⟨⟨j + 1, by omega, by go_num, HV2⟩, by simp [intOf]; omega⟩
        · obtain rfl : j = c.nn := by omega
          have hV9 := hV
          clear hV
          go_wp2
          exact ⟨⟨k + 1, by omega, by go_num, hV9⟩, by simp [intOf]; omega⟩
    · obtain rfl : k = L := by omega
      have hV9 := hV.out.2.2
      have HS9 := Lib.hid (HS1.out.below hV9)
      have Hb9 := Lib.hid (Hb1.out.trans (hV9.mono Hb1.out.size))
      clear hV9 hV
      go_wp2_with (first
        | (go_at_call 13; refine (KT.out ra rc l' wr HS9.out HN1.out).mono ?_; rintro e w5 ⟨a5, c5, cs5, rfl, _, hA5, _, hs5, hb5⟩; have HA5 := Lib.hid hA5; have Hs5 := Lib.hid hs5; have Hb5 := Lib.hid (Hb9.out.trans (hb5.mono Hb9.out.size)); clear hA5 hs5 hb5)
        | (go_at_call 15; refine (KR.out w5 Hb5.out).mono ?_; rintro e w6 ⟨a6, c6, cs6, rfl, hA6, hs6, hb6⟩; have HA6 := Lib.hid hA6; have Hs6 := Lib.hid hs6; have HA56 := Lib.hid (HA5.out.below hb6); have Hb6 := Lib.hid (Hb5.out.trans (hb6.mono Hb5.out.size)); clear hA6 hs6 hb6)
        | (go_at_call 14; refine (KS.out a5 c5 a6 c6 cs5 cs6 w6 HA56.out HA6.out Hs5.out Hs6.out).mono ?_; rintro e w7 ⟨rfl, hb7⟩; have Hb7 := Lib.hid (Hb6.out.trans (hb7.mono Hb6.out.size)); clear hb7)
        | (go_at_call 12; refine (works_any w7).mono ?_; rintro e w8 ⟨rfl, hb8⟩; have Hb8 := Lib.hid (Hb7.out.trans (hb8.mono Hb7.out.size)); clear hb8))
      go_returns
      exact ⟨rfl, Hb8.out⟩
end Go.Proofs.Yteibnignjghedaa
