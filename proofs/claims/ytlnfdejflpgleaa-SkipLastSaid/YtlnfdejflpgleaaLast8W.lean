/-
  The walk of acreagelaw08.SkipLast.
-/
import Derived.Test.YtlnfdejflpgleaaPutPlain
import Derived.Test.YtlnfdejflpgleaaEnc1W
namespace Go.Proofs.Ytlnfdejflpgleaa
open Go.RowKit

set_option maxRecDepth 100000 in
set_option maxHeartbeats 4000000 in
theorem skiplast_any (ao ao2 : Option Addr) (n cap m cap2 : Nat) (cs : List CellA) (w : World) (h : Cells w ao n cap cs) (hok : ∀ c ∈ cs, c.Ok) (hh : Hts w ao2 m cap2) :
    Calls Try.prog 7 #[.slice ao n cap, .slice ao2 m cap2] w fun e w' => e = .returned (.bool true) ∧ Below w.heap.size w w' := by
  obtain ⟨i0, hi, iz0, iz1, iz2⟩ := info_parts Try.info_cell
  have Hi := Lib.hid hi
  have H := Lib.hid h
  have Hl := Lib.hid h.len
  have Hok := Lib.hid hok
  have HA := Lib.hid hh
  have hc1 := Arr.fits h
  have hc2 := Arr.max h
  unfold maxLen at hc2
  clear h hok hh hi
  go_enter Try.func7, Try.ntmps7
  go_wp2_with fail
  refine (works8_any _).mono ?_
  rintro e w1 ⟨rfl, hb⟩
  have B1 := Lib.hid hb
  clear hb
  go_wp2
  go_loopw [5, 6] (fun v i wr => ∃ (k : Nat) (aoM : Option Addr) (capM : Nat), k ≤ n ∧ k ≤ 150 ∧ i = .int .i64 k ∧ v = .slice aoM (mayK cs k).length capM ∧ Hid (Own wr w.heap.size (.slice aoM (mayK cs k).length capM) (mayK cs k)) ∧ Hid (Below w.heap.size w wr)) (fun _ i _ => 150 - (intOf i).toNat)
  case atStart => exact ⟨0, none, 0, by omega, by omega, rfl, rfl, Lib.hid (Row.nil _ _ _ _), B1⟩
  case round =>
    clear B1
    obtain ⟨k, aoM, capM, hk, hk2, rfl, rfl, hO, hB⟩ := hrel
    have hz := hB.out.size
    obtain ⟨q, hq⟩ : ∃ q, q = (mayK cs k).length := ⟨_, rfl⟩
    have hqk : q ≤ k := by rw [hq]; exact mayK_len cs k
    have Hq := Lib.hid hq
    rw [← hq] at hO ⊢
    clear hq
    by_cases hlt : k < n ∧ k < 150
    · obtain ⟨hlt, hlt2⟩ := hlt
      obtain ⟨c, hc⟩ : ∃ c, cs[k]? = some c := ⟨_, List.getElem?_eq_getElem (by rw [Hl.out]; omega)⟩
      obtain ⟨b, off, rfl, hbl, ⟨x0, x1, x2, x3, x4⟩⟩ := Cells.at_ H.out hc
      have KE := Lib.hid fun (W : World) (hW : Below w.heap.size w W) => enc_one _ _ c W (Arr.below (cells_at1 H.out hc) hW) (Hok.out c (List.mem_of_getElem? hc))
      have HX := Lib.hid fun (W : World) (hW : Below w.heap.size w W) => (⟨(hW.cell (p := ⟨b, _, none⟩) hbl).trans x0, (hW.cell (p := ⟨b, _, none⟩) hbl).trans x1, (hW.cell (p := ⟨b, _, none⟩) hbl).trans x2, (hW.cell (p := ⟨b, _, none⟩) hbl).trans x3, (hW.cell (p := ⟨b, _, none⟩) hbl).trans x4⟩ : CellAt W b (off + k * 5) c)
      cases hcl : cellL c with
      | true =>
        have Hy := Lib.hid (mayK_yes hc hcl)
        simp only [hcl, if_true] at KE
        clear hc hcl x0 x1 x2 x3 x4
        go_wp2_with fail
        refine (KE.out wr hB.out).mono ?_
        rintro e w2 ⟨s2, rfl, hb⟩
        have HB2 := Lib.hid (hB.out.trans (hb.mono hz))
        have HO2 := Lib.hid (Row.below hO.out hb)
        have hz2 := HB2.out.size
        obtain ⟨y0, y1, y2, y3, y4⟩ := HX.out w2 HB2.out
        clear hb
        go_wp2_with (at_builtin; go_loud (refine wpList_append_at _ rfl _ _ 22 rfl w.heap.size 26 i0 _ 5 64 Try.underlying22 Hi.out iz0 iz1 iz2 rfl (by decide) (.slice aoM q capM) _ _ rfl (Row.alloc HO2.out _) rfl (cells_one _ _ c _ rfl) (by rw [← Hq.out]; omega) (by rw [← Hq.out]; unfold maxLen; omega) (by go_size) ?_; intro v7 w7 hr7 hg7 ho7; obtain ⟨hB7, ao7, cap7, rfl, hO7⟩ := push_all HO2.out HB2.out Hy.out Hq.out.symm hr7 hg7; have HB7 := Lib.hid hB7; have HO7 := Lib.hid hO7; clear hr7 hg7 ho7 hB7 hO7))
        have hl7 : (mayK cs (k + 1)).length = q + 1 := by rw [Hy.out, List.length_append, ← Hq.out]; rfl
        exact ⟨⟨k + 1, ao7, cap7, by omega, by omega, by go_num, by rw [hl7], by rw [hl7]; exact HO7, HB7⟩, by simp [intOf]; omega⟩
      | false =>
        have Hy := Lib.hid (mayK_no hc hcl)
        simp only [hcl] at KE
        clear hc hcl x0 x1 x2 x3 x4
        go_wp2_with fail
        refine (KE.out wr hB.out).mono ?_
        rintro e w2 ⟨s2, rfl, hb⟩
        have HB2 := Lib.hid (hB.out.trans (hb.mono hz))
        have HO2 := Lib.hid (Row.below hO.out hb)
        clear hb
        go_wp2
        exact ⟨⟨k + 1, aoM, capM, by omega, by omega, by go_num, by rw [Hy.out, ← Hq.out], by rw [Hy.out, ← Hq.out]; exact HO2, HB2⟩, by simp [intOf]; omega⟩
    · have hno : (decide (k < n) = false) ∨ (decide (k < n) = true ∧ decide ((k : Int) < 150) = false) := by
        by_cases h1 : k < n
        · exact .inr ⟨by simpa using h1, by simp; omega⟩
        · exact .inl (by simpa using h1)
      obtain ⟨K, hK⟩ : ∃ K, K = mayK cs k := ⟨_, rfl⟩
      have hKok : Hid (∀ c ∈ K, c.Ok ∧ cellL c = true) := Lib.hid (by rw [hK]; exact mayK_ok Hok.out)
      rw [← hK] at hO Hq
      have hq150 : q ≤ 150 := by omega
      have hOw := hO.out
      have Hs := Lib.hid (sort_strict K)
      have hsl := sortL_len K
      have Hsok : Hid (∀ c ∈ sortL K, c.Ok ∧ cellL c = true) := Lib.hid fun c hc => hKok.out c (sortL_sub K c hc)
      clear hK hlt hOw
      rcases hno with hno | ⟨hno1, hno2⟩
      all_goals
        obtain ⟨ao', cap', e', hcK⟩ := Own.cells_n (n := q) hO.out Hq.out.symm
        cases e'
        have HCK := Lib.hid hcK
        have hqm : q ≤ capM ∧ capM ≤ maxLen := ⟨Arr.fits hcK, Arr.max hcK⟩
        obtain ⟨hq1, hq2⟩ := hqm
        unfold maxLen at hq2
        clear hcK
        go_wp2
        obtain ⟨wo, rfl⟩ : ∃ V : World, V = wr := ⟨_, rfl⟩
        go_loopw [9, 10] (fun v i wr => ∃ (j : Nat) (u : Int) (aoT : Option Addr) (capT : Nat), j ≤ q ∧ i = .int .i64 u ∧ Hid (u + 1 = ((q - j : Nat) : Int)) ∧ v = .slice aoT j capT ∧ Hid (Own wr wo.heap.size (.slice aoT j capT) (K.reverse.take j)) ∧ Hid (Below wo.heap.size wo wr)) (fun _ i _ => (intOf i + 1).toNat)
        case atStart => exact ⟨0, _, none, 0, by omega, rfl, Lib.hid (by omega), rfl, Lib.hid (Row.nil _ _ _ _), Lib.hid (Below.refl _ _)⟩
        case round =>
          obtain ⟨j, u, aoT, capT, hj, rfl, hu, rfl, hOT, hBT⟩ := hrel
          have hzT := hBT.out.size
          by_cases hu0 : 0 ≤ u
          · obtain ⟨p, rfl⟩ := Int.eq_ofNat_of_zero_le hu0
            have hpq : p + 1 + j = q := by have := hu.out; omega
            obtain ⟨c, hc⟩ : ∃ c, K[p]? = some c := ⟨_, List.getElem?_eq_getElem (by rw [← Hq.out]; omega)⟩
            obtain ⟨b, off, rfl, hbl, ⟨x0, x1, x2, x3, x4⟩⟩ := Cells.at_ HCK.out hc
            obtain ⟨y0, y1, y2, y3, y4⟩ : CellAt wr b (off + p * 5) c := ⟨(hBT.out.cell (p := ⟨b, _, none⟩) hbl).trans x0, (hBT.out.cell (p := ⟨b, _, none⟩) hbl).trans x1, (hBT.out.cell (p := ⟨b, _, none⟩) hbl).trans x2, (hBT.out.cell (p := ⟨b, _, none⟩) hbl).trans x3, (hBT.out.cell (p := ⟨b, _, none⟩) hbl).trans x4⟩
            have htk : K.reverse.take (j + 1) = K.reverse.take j ++ [c] := by
              rw [List.take_add_one, List.getElem?_reverse (by rw [← Hq.out]; omega), show K.length - 1 - j = p by rw [← Hq.out]; omega, hc]
              rfl
            have Htk := Lib.hid htk
            have htl : (K.reverse.take j).length = j := by rw [List.length_take, List.length_reverse, ← Hq.out]; omega
            have Htl := Lib.hid htl
            have hj150 : j ≤ 150 := by omega
            have hlt : p < q := by omega
            clear hc x0 x1 x2 x3 x4 htk htl hu
            go_wp2_with (at_builtin; go_loud (refine wpList_append_at _ rfl _ _ 22 rfl wo.heap.size 26 i0 _ 5 64 Try.underlying22 Hi.out iz0 iz1 iz2 rfl (by decide) (.slice aoT j capT) _ _ rfl (Row.alloc hOT.out _) rfl (cells_one _ _ c _ rfl) (by rw [Htl.out]; omega) (by rw [Htl.out]; unfold maxLen; omega) (by go_size) ?_; intro v7 w7 hr7 hg7 ho7; obtain ⟨hB7, ao7, cap7, rfl, hO7⟩ := push_all hOT.out hBT.out Htk.out Htl.out hr7 hg7; have HB7 := Lib.hid hB7; have HO7 := Lib.hid hO7; clear hr7 hg7 ho7 hB7 hO7))
            exact ⟨⟨j + 1, _, ao7, cap7, by omega, rfl, Lib.hid (by omega), rfl, HO7, HB7⟩, by simp [intOf]⟩
          · have hjq : j = q := by have := hu.out; omega
            have hu1 : u = -1 := by have := hu.out; omega
            subst hjq hu1
            have hOr := hOT.out
            rw [List.take_of_length_le (by rw [List.length_reverse, ← Hq.out]; exact Nat.le_refl _)] at hOr
            have HBW := Lib.hid (hB.out.trans (hBT.out.mono hz))
            have zT := HBW.out.size
            obtain ⟨ao', cap', e', hcR⟩ := Own.cells_n (n := j) hOr (by rw [List.length_reverse]; exact Hq.out.symm)
            cases e'
            have HCR := Lib.hid hcR
            have KP := Lib.hid (put8_any _ ao2 j capM m cap2 K false wr (Arr.below HCK.out hBT.out) hKok.out (HA.out.below HBW.out) (by omega))
            clear hOr hOT hcR hu
            go_wp2_with fail
            refine KP.out.mono ?_
            rintro e w3 ⟨lx, l1, F1, rfl, hS1, hl1, hn1, hF1, hb3⟩
            rw [turned, if_neg (by decide), putAll_sort] at hl1
            have HS1 := Lib.hid hS1
            have Hl1 := Lib.hid hl1
            have HC3 := Lib.hid (Arr.below HCR.out hb3)
            have HBB := Lib.hid (HBW.out.trans (hb3.mono zT))
            have z3 := HBB.out.size
            clear hS1 hl1 hF1 hb3
            go_wp2_with fail
            refine (list_sl _ _ _ _ HS1.out (by omega)).mono ?_
            rintro e w5 ⟨v5, rfl, ho5, hb5⟩
            rw [Hl1.out] at ho5
            have HO5 := Lib.hid ho5
            have HC5 := Lib.hid (Arr.below HC3.out hb5)
            have HBB5 := Lib.hid (HBB.out.trans (hb5.mono z3))
            have z5 := HBB5.out.size
            clear ho5 hb5
            go_wp2_with fail
            refine (sort_any _ j _ K.reverse w5 HC5.out (by omega)).mono ?_
            rintro e w6 ⟨v6, rfl, ho6, hb6⟩
            obtain ⟨r, hr⟩ : ∃ r, r = (sortL K.reverse).length := ⟨_, rfl⟩
            obtain ⟨ao6, cap6, rfl, hC6⟩ := Own.cells_n (n := r) ho6 hr.symm
            obtain ⟨ao5, cap5, rfl, hC5⟩ := Own.cells_n (n := r) (Row.below HO5.out hb6) hr.symm
            have K7 := Lib.hid (same8_any _ _ r _ r _ (sortL K.reverse) (sortL K.reverse) w6 hC5 hC6)
            rw [sameC_self] at K7
            have HBB6 := Lib.hid (HBB5.out.trans (hb6.mono z5))
            have z6 := HBB6.out.size
            clear ho6 hb6 hC5 hC6 hr
            go_wp2_with fail
            refine K7.out.mono ?_
            rintro e w7 ⟨rfl, hb7⟩
            have HBB7 := Lib.hid (HBB6.out.trans (hb7.mono z6))
            clear hb7
            go_wp2
            go_ret
            exact ⟨rfl, HBB7.out⟩
end Go.Proofs.Ytlnfdejflpgleaa
