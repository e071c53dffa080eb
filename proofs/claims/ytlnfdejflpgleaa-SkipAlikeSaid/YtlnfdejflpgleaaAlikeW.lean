/-
  The walk of acreagelaw08.SkipAlike.
-/
import Derived.Test.YtlnfdejflpgleaaPutPlain
import Derived.Test.YtlnfdejflpgleaaEnc1W
namespace Go.Proofs.Ytlnfdejflpgleaa
open Go.RowKit

set_option maxRecDepth 100000 in
set_option maxHeartbeats 4000000 in
theorem skipalike_any (ao ao2 ao3 : Option Addr) (n cap m cap2 m3 cap3 : Nat) (cs : List CellA) (w : World) (h : Cells w ao n cap cs) (hok : ∀ c ∈ cs, c.Ok) (hh : Hts w ao2 m cap2) (hh3 : Hts w ao3 m3 cap3) :
    Calls Try.prog 6 #[.slice ao n cap, .slice ao2 m cap2, .slice ao3 m3 cap3] w fun e w' => e = .returned (.bool true) ∧ Below w.heap.size w w' := by
  obtain ⟨i0, hi, iz0, iz1, iz2⟩ := info_parts Try.info_cell
  have Hi := Lib.hid hi
  have H := Lib.hid h
  have Hl := Lib.hid h.len
  have Hok := Lib.hid hok
  have HA := Lib.hid hh
  have HB := Lib.hid hh3
  have hc1 := Arr.fits h
  have hc2 := Arr.max h
  unfold maxLen at hc2
  clear h hok hh hh3 hi
  go_enter Try.func6, Try.ntmps6
  go_wp2_with fail
  refine (works8_any _).mono ?_
  rintro e w1 ⟨rfl, hb⟩
  have B1 := Lib.hid hb
  clear hb
  go_wp2
  go_loopw [7, 8] (fun v i wr => ∃ (k : Nat) (aoM : Option Addr) (capM : Nat), k ≤ n ∧ k ≤ 150 ∧ i = .int .i64 k ∧ v = .slice aoM (mayK cs k).length capM ∧ Hid (Own wr w.heap.size (.slice aoM (mayK cs k).length capM) (mayK cs k)) ∧ Hid (Below w.heap.size w wr)) (fun _ i _ => 150 - (intOf i).toNat)
  case atStart => exact ⟨0, none, 0, by omega, by omega, rfl, rfl, Lib.hid (Row.nil _ _ _ _), B1⟩
  case round =>
    clear B1
    obtain ⟨k, aoM, capM, hk, hk2, rfl, rfl, hO, hB⟩ := hrel
    have hz := hB.out.size
    obtain ⟨q, hq⟩ : ∃ q, q = (mayK cs k).length := ⟨_, rfl⟩
    have hqk : q ≤ k := by rw [hq]; exact mayK_len cs k
    have Hq := Lib.hid hq
    rw [← hq] at hO ⊢
    clear hq
    by_cases hlt : k < n ∧ k < 150
    · obtain ⟨hlt, hlt2⟩ := hlt
      obtain ⟨c, hc⟩ : ∃ c, cs[k]? = some c := ⟨_, List.getElem?_eq_getElem (by rw [Hl.out]; omega)⟩
      obtain ⟨b, off, rfl, hbl, ⟨x0, x1, x2, x3, x4⟩⟩ := Cells.at_ H.out hc
      have KE := Lib.hid fun (W : World) (hW : Below w.heap.size w W) => enc_one _ _ c W (Arr.below (cells_at1 H.out hc) hW) (Hok.out c (List.mem_of_getElem? hc))
      have HX := Lib.hid fun (W : World) (hW : Below w.heap.size w W) => (⟨(hW.cell (p := ⟨b, _, none⟩) hbl).trans x0, (hW.cell (p := ⟨b, _, none⟩) hbl).trans x1, (hW.cell (p := ⟨b, _, none⟩) hbl).trans x2, (hW.cell (p := ⟨b, _, none⟩) hbl).trans x3, (hW.cell (p := ⟨b, _, none⟩) hbl).trans x4⟩ : CellAt W b (off + k * 5) c)
      cases hcl : cellL c with
      | true =>
        have Hy := Lib.hid (mayK_yes hc hcl)
        simp only [hcl, if_true] at KE
        clear hc hcl x0 x1 x2 x3 x4
        go_wp2_with fail
        refine (KE.out wr hB.out).mono ?_
        rintro e w2 ⟨s2, rfl, hb⟩
        have HB2 := Lib.hid (hB.out.trans (hb.mono hz))
        have HO2 := Lib.hid (Row.below hO.out hb)
        have hz2 := HB2.out.size
        obtain ⟨y0, y1, y2, y3, y4⟩ := HX.out w2 HB2.out
        clear hb
        go_wp2_with (at_builtin; go_loud (refine wpList_append_at _ rfl _ _ 22 rfl w.heap.size 26 i0 _ 5 64 Try.underlying22 Hi.out iz0 iz1 iz2 rfl (by decide) (.slice aoM q capM) _ _ rfl (Row.alloc HO2.out _) rfl (cells_one _ _ c _ rfl) (by rw [← Hq.out]; omega) (by rw [← Hq.out]; unfold maxLen; omega) (by go_size) ?_; intro v7 w7 hr7 hg7 ho7; obtain ⟨hB7, ao7, cap7, rfl, hO7⟩ := push_all HO2.out HB2.out Hy.out Hq.out.symm hr7 hg7; have HB7 := Lib.hid hB7; have HO7 := Lib.hid hO7; clear hr7 hg7 ho7 hB7 hO7))
        have hl7 : (mayK cs (k + 1)).length = q + 1 := by rw [Hy.out, List.length_append, ← Hq.out]; rfl
        exact ⟨⟨k + 1, ao7, cap7, by omega, by omega, by go_num, by rw [hl7], by rw [hl7]; exact HO7, HB7⟩, by simp [intOf]; omega⟩
      | false =>
        have Hy := Lib.hid (mayK_no hc hcl)
        simp only [hcl] at KE
        clear hc hcl x0 x1 x2 x3 x4
        go_wp2_with fail
        refine (KE.out wr hB.out).mono ?_
        rintro e w2 ⟨s2, rfl, hb⟩
        have HB2 := Lib.hid (hB.out.trans (hb.mono hz))
        have HO2 := Lib.hid (Row.below hO.out hb)
        clear hb
        go_wp2
        exact ⟨⟨k + 1, aoM, capM, by omega, by omega, by go_num, by rw [Hy.out, ← Hq.out], by rw [Hy.out, ← Hq.out]; exact HO2, HB2⟩, by simp [intOf]; omega⟩
    · have hno : (decide (k < n) = false) ∨ (decide (k < n) = true ∧ decide ((k : Int) < 150) = false) := by
        by_cases h1 : k < n
        · exact .inr ⟨by simpa using h1, by simp; omega⟩
        · exact .inl (by simpa using h1)
      obtain ⟨K, hK⟩ : ∃ K, K = mayK cs k := ⟨_, rfl⟩
      have hKok : Hid (∀ c ∈ K, c.Ok ∧ cellL c = true) := Lib.hid (by rw [hK]; exact mayK_ok Hok.out)
      rw [← hK] at hO Hq
      have hq150 : q ≤ 150 := by omega
      have hOw := hO.out
      have Hs := Lib.hid (sort_strict K)
      have hsl := sortL_len K
      have Hsok : Hid (∀ c ∈ sortL K, c.Ok ∧ cellL c = true) := Lib.hid fun c hc => hKok.out c (sortL_sub K c hc)
      clear hK hlt hOw
      rcases hno with hno | ⟨hno1, hno2⟩
      all_goals
        go_wp2_with fail
        obtain ⟨ao', cap', e', hcK⟩ := Own.cells_n (n := q) hO.out Hq.out.symm
        cases e'
        refine (sort_any aoM q capM K wr hcK (by omega)).mono ?_
        rintro e w2 ⟨v2, rfl, ho2, hb2⟩
        obtain ⟨r, hr⟩ : ∃ r, r = (sortL K).length := ⟨_, rfl⟩
        obtain ⟨ao4, cap4, rfl, hC2⟩ := Own.cells_n (n := r) ho2 hr.symm
        have HC2 := Lib.hid hC2
        have Hr := Lib.hid hr
        have hr150 : r ≤ 150 := by have := Hq.out; omega
        have HB2 := Lib.hid (hB.out.trans (hb2.mono hz))
        have z2 := HB2.out.size
        have HA2 := Lib.hid (HA.out.below HB2.out)
        have HB3 := Lib.hid (HB.out.below HB2.out)
        clear ho2 hb2 hC2 hr hcK
        go_wp2_with fail
        refine (put8_any ao4 ao2 r cap4 m cap2 (sortL K) false w2 HC2.out Hsok.out HA2.out (by omega)).mono ?_
        rintro e w3 ⟨lx, l1, F1, rfl, hS1, hl1, hn1, hF1, hb3⟩
        rw [alike_front Hs.out] at hl1
        have HS1 := Lib.hid hS1
        have Hl1 := Lib.hid hl1
        have HC3 := Lib.hid (Arr.below HC2.out hb3)
        have HB3b := Lib.hid (HB3.out.below hb3)
        have HBB := Lib.hid (HB2.out.trans (hb3.mono z2))
        have z3 := HBB.out.size
        clear hS1 hl1 hF1 hb3
        go_wp2_with fail
        refine (put8_any ao4 ao3 r cap4 m3 cap3 (sortL K) true w3 HC3.out Hsok.out HB3b.out (by omega)).mono ?_
        rintro e w4 ⟨ly, l2, F2, rfl, hS2, hl2, hn2, hF2, hb4⟩
        rw [alike_back Hs.out] at hl2
        have HS2 := Lib.hid hS2
        have Hl2 := Lib.hid hl2
        have HC4 := Lib.hid (Arr.below HC3.out hb4)
        have HS1 := Lib.hid (HS1.out.below hb4)
        have HBB4 := Lib.hid (HBB.out.trans (hb4.mono z3))
        have z4 := HBB4.out.size
        have hlr1 : l1.length = r := by have := congrArg List.length Hl1.out; rw [List.length_map] at this; rw [this, ← Hr.out]
        have hlr2 : l2.length = r := by have := congrArg List.length Hl2.out; rw [List.length_map] at this; rw [this, ← Hr.out]
        have Hlr1 := Lib.hid hlr1
        have Hlr2 := Lib.hid hlr2
        clear hS2 hl2 hF2 hb4 hlr1 hlr2
        go_wp2_with fail
        refine (list_sl _ _ _ _ HS1.out (by omega)).mono ?_
        rintro e w5 ⟨v5, rfl, ho5, hb5⟩
        rw [Hl1.out] at ho5
        obtain ⟨ao5, cap5, rfl, hC5⟩ := Own.cells_n (n := r) ho5 Hr.out.symm
        have K5 := Lib.hid (same8_any _ _ r _ r _ (sortL K) (sortL K) w5 hC5 (Arr.below HC4.out hb5))
        rw [sameC_self] at K5
        have HC5 := Lib.hid (Arr.below HC4.out hb5)
        have HS1 := Lib.hid (HS1.out.below hb5)
        have HS2 := Lib.hid (HS2.out.below hb5)
        have HBB5 := Lib.hid (HBB4.out.trans (hb5.mono z4))
        have z5 := HBB5.out.size
        clear ho5 hC5 hb5
        go_wp2_with fail
        refine K5.out.mono ?_
        rintro e w6 ⟨rfl, hb6⟩
        have HC6 := Lib.hid (Arr.below HC5.out hb6)
        have HS1 := Lib.hid (HS1.out.below hb6)
        have HS2 := Lib.hid (HS2.out.below hb6)
        have HBB6 := Lib.hid (HBB5.out.trans (hb6.mono z5))
        have z6 := HBB6.out.size
        clear hb6
        go_wp2_with fail
        refine (list_sl _ _ _ _ HS2.out (by omega)).mono ?_
        rintro e w7 ⟨v7, rfl, ho7, hb7⟩
        rw [Hl2.out] at ho7
        obtain ⟨ao7, cap7, rfl, hC7⟩ := Own.cells_n (n := r) ho7 Hr.out.symm
        have K7 := Lib.hid (same8_any _ _ r _ r _ (sortL K) (sortL K) w7 hC7 (Arr.below HC6.out hb7))
        rw [sameC_self] at K7
        have HS1 := Lib.hid (HS1.out.below hb7)
        have HS2 := Lib.hid (HS2.out.below hb7)
        have HBB7 := Lib.hid (HBB6.out.trans (hb7.mono z6))
        have z7 := HBB7.out.size
        clear ho7 hC7 hb7
        go_wp2_with fail
        refine K7.out.mono ?_
        rintro e w8 ⟨rfl, hb8⟩
        have HS1 := Lib.hid (HS1.out.below hb8)
        have HS2 := Lib.hid (HS2.out.below hb8)
        have HBB8 := Lib.hid (HBB7.out.trans (hb8.mono z7))
        clear hb8
        go_wp2_with fail
        refine (len_sl _ _ _ _ HS1.out).mono ?_
        rw [Hlr1.out]
        rintro e w' ⟨rfl, rfl⟩
        go_wp2_with fail
        refine (len_sl _ _ _ _ HS2.out).mono ?_
        rw [Hlr2.out]
        rintro e w' ⟨rfl, rfl⟩
        go_wp2
        go_ret
        exact ⟨rfl, HBB8.out⟩
end Go.Proofs.Ytlnfdejflpgleaa
