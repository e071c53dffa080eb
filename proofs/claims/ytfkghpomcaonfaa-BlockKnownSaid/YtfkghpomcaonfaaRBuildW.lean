/-
  The document's Build. Printed by mkrbuild.py.
-/
import Derived.Test.YtfkghpomcaonfaaBuildW
namespace Go.Proofs.Ytfkghpomcaonfaa
open Go.RowKit

theorem refcell_any (c : CellA) (w : World) (h : c.Ok) :
    Calls Try.prog 29 #[c.v] w fun e w' => e = .returned (.int .i64 (errB (cellL c))) ∧ Below w.heap.size w w' := rcell_any c w h
theorem refcmp_any (a b : CellA) (w : World) :
    Calls Try.prog 30 #[a.v, b.v] w fun e w' => e = .returned (.int .i64 (cmpC a b)) ∧ Below w.heap.size w w' := rcmp_any a b w
theorem aheadB_max {cs : List CellA} (h : ∀ c ∈ cs, c.Ok) (k : Nat) : (aheadB cs k).size ≤ maxLen := by
  by_cases h8 : k % 8 = 0
  · rw [aheadB_zero h8]; decide
  · rw [aheadB_prev h8]; exact prevB_max h k
theorem placesTo_no {cs : List CellA} {k : Nat} (h : ¬ k % 8 = 0) : placesTo cs (k + 1) = placesTo cs k := by rw [placesTo, if_neg h]
/-- the second loop of the document's Build -/
structure RBuildI (cs : List CellA) (w0 : World) (k : Nat) (sx sy : ByteArray) (wr : World) : Prop where
  x : sx = ofL (bodyTo cs k)
  y : sy = ofL (placesTo cs k)
  le : (bodyTo cs k).length ≤ 32768
  bel : Below w0.heap.size w0 wr

set_option maxRecDepth 100000 in
set_option maxHeartbeats 4000000 in
theorem rbuild_any (ao : Option Addr) (n cap : Nat) (cs : List CellA) (w : World) (h : Cells w ao n cap cs) (hok : ∀ c ∈ cs, c.Ok) :
    Calls Try.prog 12 #[.slice ao n cap] w fun e w' => e = .returned (.tuple #[.string (ofL (buildR cs).1), .int .i64 (buildR cs).2]) ∧ Below w.heap.size w w' := by
  have hl := h.len
  have hc1 := Arr.fits h
  have hc2 := Arr.max h
  unfold maxLen at hc2
  obtain ⟨R1, hR1⟩ : ∃ R, R = ofL (buildR cs).1 := ⟨_, rfl⟩
  obtain ⟨R2, hR2⟩ : ∃ R, R = (buildR cs).2 := ⟨_, rfl⟩
  rw [← hR1, ← hR2]
  have HR1 : Hid (wrongB cs = true → R1 = ⟨#[]⟩ ∧ R2 = 2) := Lib.hid fun h => by rw [hR1, hR2, buildR, if_pos h]; exact ⟨rfl, rfl⟩
  have HR2 : Hid (wrongB cs = false → 32768 < (bodyTo cs n).length → R1 = ⟨#[]⟩ ∧ R2 = 3) := Lib.hid fun h h2 => by rw [hR1, hR2, buildR, if_neg (by rw [h]; decide), hl, if_pos h2]; exact ⟨rfl, rfl⟩
  have HR3 : Hid (wrongB cs = false → (bodyTo cs n).length ≤ 32768 → 32768 < (blockL cs).length → R1 = ⟨#[]⟩ ∧ R2 = 3) := Lib.hid fun h h2 h3 => by rw [hR1, hR2, buildR, if_neg (by rw [h]; decide), hl, if_neg (by omega), if_pos h3]; exact ⟨rfl, rfl⟩
  have HR4 : Hid (wrongB cs = false → (bodyTo cs n).length ≤ 32768 → (blockL cs).length ≤ 32768 → R1 = ofL (blockL cs) ∧ R2 = 0) := Lib.hid fun h h2 h3 => by rw [hR1, hR2, buildR, if_neg (by rw [h]; decide), hl, if_neg (by omega), if_neg (by omega)]; exact ⟨rfl, rfl⟩
  clear hR1 hR2
  have Hl := Lib.hid hl
  have H := Lib.hid h
  have Hok := Lib.hid hok
  clear h hl hok
  go_enter Try.func12, Try.ntmps12
  go_wp2
  go_loopw [4] (fun i wr => ∃ k : Nat, k ≤ n ∧ i = .int .i64 k ∧ Hid (∀ j, j < k → wrongAt cs j = false) ∧ Hid (Below w.heap.size w wr)) (fun i _ => n - (intOf i).toNat)
  case atStart => exact ⟨0, by omega, rfl, Lib.hid (fun j h => by omega), Lib.hid (Below.refl _ _)⟩
  case round =>
    obtain ⟨k, hk, rfl, hW, hD⟩ := hrel
    have hzr := hD.out.size
    by_cases hlt : k < n
    · obtain ⟨x, hx⟩ : ∃ x, cs[k]? = some x := ⟨_, List.getElem?_eq_getElem (by rw [Hl.out]; omega)⟩
      obtain ⟨b, off, rfl, hb, ⟨x0, x1, x2, x3, x4⟩⟩ := Cells.at_ H.out hx
      obtain ⟨k0, k0f⟩ := keep_below hD.out b hb
      have KC := Lib.hid fun W => refcell_any x W (Hok.out x (List.mem_of_getElem? hx))
      have Hwr : Hid (wrongAt cs k = true → R1 = ⟨#[]⟩ ∧ R2 = 2) := Lib.hid fun h => HR1.out (wrongB_true (by rw [Hl.out]; exact hlt) h)
      have Hwn : Hid (wrongAt cs k = false → ∀ j, j < k + 1 → wrongAt cs j = false) := Lib.hid fun h j hj => by
        by_cases e : j = k
        · rw [e]; exact h
        · exact hW.out j (by omega)
      by_cases hcx : cellL x = true
      · rw [hcx] at KC
        have KC : Hid (∀ W, Calls Try.prog 29 #[x.v] W fun e w' => e = .returned (.int .i64 0) ∧ Below W.heap.size W w') := KC
        cases k with
        | zero =>
          have HN := Lib.hid (Hwn.out ((wrongAt_zero hx).trans (by rw [hcx]; rfl)))
          obtain ⟨xr, xc, xv, xg, xl⟩ := x
          simp only [Nat.zero_mul, Nat.add_zero] at x0 x1 x2 x3 x4
          clear Hwr Hwn hx hW hcx
          go_wp2_with fail
          refine wp_region_below (by kernel_rfl) (by kernel_rfl) (fun hkept => ?_)
          obtain ⟨r0, rf0⟩ := hkept (b) (by go_size); clear hkept
          repeat (any_goals (first | go_big_quiet_step (first | (go_at_call 29; exact Calls.regrown_of (KC.out _))) | quiet_step (first | (go_at_call 29; exact Calls.regrown_of (KC.out _))) | (refine wpQuiet_step (fun K hK => ?_); go_simp; split <;> (refine hK _ ?_; clear hK K))))
          all_goals (refine wpQuiet_nil ?_; intro w1 hb; obtain ⟨hB, hS, hk⟩ := after (B := wr.heap.size) (w := wr) (by go_grown) (by go_size) hb; obtain ⟨c0, f0, z0⟩ := hk (b) (by go_size); clear hk hb r0 rf0)
          go_wp2
          exact ⟨⟨1, by omega, by go_num, HN, Lib.hid (hD.out.trans (hB.mono hzr))⟩, by simp [intOf]; omega⟩
        | succ j =>
          obtain ⟨y, hy⟩ : ∃ y, cs[j]? = some y := ⟨_, List.getElem?_eq_getElem (by rw [Hl.out]; omega)⟩
          obtain ⟨b', off', e', hb', ⟨y0, y1, y2, y3, y4⟩⟩ := Cells.at_ H.out hy
          cases e'
          have hcm := Lib.hid fun W => refcmp_any y x W
          obtain ⟨c, hc⟩ : ∃ c, cmpC y x = c := ⟨_, rfl⟩
          have Hxw : Hid (wrongAt cs (j + 1) = decide (0 ≤ c)) := Lib.hid ((wrongAt_succ hx hy).trans (by rw [hcx, hc]; rfl))
          rw [hc] at hcm
          obtain ⟨xr, xc, xv, xg, xl⟩ := x
          obtain ⟨yr, yc, yv, yg, yl⟩ := y
          simp only at x0 x1 x2 x3 x4 y0 y1 y2 y3 y4
          clear hy hb' hc hx hW hcx
          have hbr : b < wr.heap.size := Nat.lt_of_lt_of_le hb hzr
          have hbn : ¬ b = wr.heap.size := by omega
          by_cases hneg : 0 ≤ c
          · have hneg1 : decide (0 ≤ c) = true := by simp; omega
            have HN := Lib.hid (Hwr.out (Hxw.out.trans hneg1))
            clear Hwr Hwn Hxw
            go_wp2_with fail
            refine wp_region_below (by kernel_rfl) (by kernel_rfl) (fun hkept => ?_)
            obtain ⟨r0, rf0⟩ := hkept (b) (by go_size); clear hkept
            repeat (any_goals (first | go_big_quiet_step (first | (go_at_call 29; exact Calls.regrown_of (KC.out _)) | (go_at_call 30; exact Calls.regrown_of (hcm.out _))) | quiet_step (first | (go_at_call 29; exact Calls.regrown_of (KC.out _)) | (go_at_call 30; exact Calls.regrown_of (hcm.out _))) | (refine wpQuiet_step (fun K hK => ?_); go_simp; split <;> (refine hK _ ?_; clear hK K))))
            all_goals (refine wpQuiet_nil ?_; intro w1 hb; obtain ⟨hB, hS, hk⟩ := after (B := wr.heap.size) (w := wr) (by go_grown) (by go_size) hb; obtain ⟨c0, f0, z0⟩ := hk (b) (by go_size); clear hk hb r0 rf0)
            go_wp2
            go_returns
            exact ⟨by rw [HN.out.1, HN.out.2]; rfl, hD.out.trans (hB.mono hzr)⟩
          · have hneg1 : decide (0 ≤ c) = false := by simp; omega
            have HN := Lib.hid (Hwn.out (Hxw.out.trans hneg1))
            clear Hwr Hwn Hxw
            go_wp2_with fail
            refine wp_region_below (by kernel_rfl) (by kernel_rfl) (fun hkept => ?_)
            obtain ⟨r0, rf0⟩ := hkept (b) (by go_size); clear hkept
            repeat (any_goals (first | go_big_quiet_step (first | (go_at_call 29; exact Calls.regrown_of (KC.out _)) | (go_at_call 30; exact Calls.regrown_of (hcm.out _))) | quiet_step (first | (go_at_call 29; exact Calls.regrown_of (KC.out _)) | (go_at_call 30; exact Calls.regrown_of (hcm.out _))) | (refine wpQuiet_step (fun K hK => ?_); go_simp; split <;> (refine hK _ ?_; clear hK K))))
            all_goals (refine wpQuiet_nil ?_; intro w1 hb; obtain ⟨hB, hS, hk⟩ := after (B := wr.heap.size) (w := wr) (by go_grown) (by go_size) hb; obtain ⟨c0, f0, z0⟩ := hk (b) (by go_size); clear hk hb r0 rf0)
            go_wp2
            exact ⟨⟨j + 1 + 1, by omega, by go_num, HN, Lib.hid (hD.out.trans (hB.mono hzr))⟩, by simp [intOf]; omega⟩
      · rw [Bool.not_eq_true] at hcx
        rw [hcx] at KC
        have KC : Hid (∀ W, Calls Try.prog 29 #[x.v] W fun e w' => e = .returned (.int .i64 2) ∧ Below W.heap.size W w') := KC
        have HN := Lib.hid (Hwr.out (wrongAt_bad hx hcx))
        obtain ⟨xr, xc, xv, xg, xl⟩ := x
        simp only at x0 x1 x2 x3 x4
        clear Hwr Hwn hx hW hcx
        go_wp2_with fail
        refine wp_region_below (by kernel_rfl) (by kernel_rfl) (fun hkept => ?_)
        obtain ⟨r0, rf0⟩ := hkept (b) (by go_size); clear hkept
        repeat (any_goals (first | go_big_quiet_step (first | (go_at_call 29; exact Calls.regrown_of (KC.out _))) | quiet_step (first | (go_at_call 29; exact Calls.regrown_of (KC.out _))) | (refine wpQuiet_step (fun K hK => ?_); go_simp; split <;> (refine hK _ ?_; clear hK K))))
        all_goals (refine wpQuiet_nil ?_; intro w1 hb; obtain ⟨hB, hS, hk⟩ := after (B := wr.heap.size) (w := wr) (by go_grown) (by go_size) hb; obtain ⟨c0, f0, z0⟩ := hk (b) (by go_size); clear hk hb r0 rf0)
        go_wp2
        go_returns
        exact ⟨by rw [HN.out.1, HN.out.2]; rfl, hD.out.trans (hB.mono hzr)⟩
    · obtain rfl : n = k := by omega
      have HW : Hid (wrongB cs = false) := Lib.hid (wrongB_of (fun j hj => hW.out j (by rw [← Hl.out]; exact hj)))
      have hin := wrongB_false HW.out
      have HIn := Lib.hid hin
      clear hW hin
      clear hk hlt
      obtain ⟨wo, rfl⟩ : ∃ wo : World, wo = wr := ⟨_, rfl⟩
      go_wp2_with fail
      go_loopw [5, 6, 7] (fun x y i wr => ∃ (k : Nat) (sx sy : ByteArray), k ≤ n ∧ i = .int .i64 k ∧ x = .string sx ∧ y = .string sy ∧ Hid (RBuildI cs w k sx sy wr)) (fun _ _ i _ => n - (intOf i).toNat)
      case atStart => exact ⟨0, ⟨#[]⟩, ⟨#[]⟩, by omega, rfl, rfl, rfl, Lib.hid ⟨rfl, rfl, by simp [bodyTo], hD.out⟩⟩
      case round =>
        obtain ⟨k, sx, sy, hk, rfl, rfl, rfl, hI⟩ := hrel
        have hzr := hI.out.bel.size
        have hle := hI.out.le
        have hps := places_short cs k (by rw [Hl.out]; exact hk) hle
        have hsx : sx.size = (bodyTo cs k).length := by rw [hI.out.x, ofL_size]
        have hsy : sy.size = (placesTo cs k).length := by rw [hI.out.y, ofL_size]
        have hsx1 : sx.size ≤ 32768 := by omega
        have hsy1 : sy.size ≤ 1400 := by omega
        by_cases hlt : k < n
        · obtain ⟨x, hx⟩ : ∃ x, cs[k]? = some x := ⟨_, List.getElem?_eq_getElem (by rw [Hl.out]; omega)⟩
          obtain ⟨b, off, rfl, hb, ⟨x0, x1, x2, x3, x4⟩⟩ := Cells.at_ H.out hx
          obtain ⟨k0, k0f⟩ := keep_below hI.out.bel b hb
          have hsm := cellL_small (HIn.out k x hx).1
          obtain ⟨s1, hs1⟩ : ∃ s, s = ofL (layL (aheadB cs k).toList x) := ⟨_, rfl⟩
          have hz1 : s1.size ≤ 4000000 := by rw [hs1, ofL_size]; exact layL_big hsm
          have K1 := Lib.hid fun W => one_any (aheadB cs k) x W (aheadB_max Hok.out k) hsm
          rw [← hs1] at K1
          have HX : Hid (sx ++ s1 = ofL (bodyTo cs (k + 1))) := Lib.hid (by rw [append_ofL, hI.out.x, hs1, ofL_toList, ofL_toList, bodyTo_succ hx])
          have HXs : Hid (sx.size + s1.size = (bodyTo cs (k + 1)).length) := Lib.hid (by rw [← ofL_size (bodyTo cs (k + 1)), ← HX.out, ByteArray.size_append])
          have HmN : Hid ((bodyTo cs (k + 1)).length ≤ (bodyTo cs n).length) := Lib.hid (bodyTo_le cs (by omega))
          have HBel := Lib.hid hI.out.bel
          have HY := Lib.hid hI.out.y
          have hcat : sx.size + s1.size ≤ 9223372036854775807 := by omega
          by_cases h8 : k % 8 = 0
          · have h8i : ((k : Int) % 8) = 0 := by omega
            have K2 := Lib.hid fun W => rtwo_any sx.size W (by omega)
            obtain ⟨s2, hs2⟩ : ∃ s, s = ofL (twoL sx.size) := ⟨_, rfl⟩
            rw [← hs2] at K2
            have hz2 : s2.size = 2 := by rw [hs2, ofL_size]; rfl
            have HYs : Hid (sy ++ s2 = ofL (placesTo cs (k + 1))) := Lib.hid (by rw [append_ofL, HY.out, hs2, ofL_toList, ofL_toList, placesTo, if_pos h8, hsx])
            have hcat2 : sy.size + s2.size ≤ 9223372036854775807 := by omega
            rw [aheadB_zero h8] at K1
            obtain ⟨xr, xc, xv, xg, xl⟩ := x
            simp only at x0 x1 x2 x3 x4
            clear hx hI hs1 hs2 hsx hsy hle hps hsm
            go_wp2_with fail
            refine (K2.out _).mono ?_
            rintro e w3 ⟨rfl, hb3⟩
            have HB3 := Lib.hid (HBel.out.trans (hb3.mono hzr))
            obtain ⟨k1, k1f⟩ := keep_below HB3.out b hb
            have hz3 := HB3.out.size
            clear hb3 k0 k0f
            have k0 := k1
            have k0f := k1f
            clear k1 k1f
            go_wp2_with fail
            refine (K1.out _).mono ?_
            rintro e w5 ⟨rfl, hb5⟩
            have HB5 := Lib.hid (HB3.out.trans (hb5.mono hz3))
            clear hb5 k0 k0f x0 x1 x2 x3 x4
            by_cases hbig : 32768 < sx.size + s1.size
            · have HR := Lib.hid (HR2.out HW.out (by have := HmN.out; have := HXs.out; omega))
              go_wp2
              go_returns
              exact ⟨by rw [HR.out.1, HR.out.2]; rfl, HB5.out⟩
            · go_wp2
              exact ⟨⟨k + 1, _, _, by omega, by go_num, rfl, rfl, Lib.hid ⟨HX.out, HYs.out, by rw [← HXs.out]; omega, HB5.out⟩⟩, by simp [intOf]; omega⟩
          · have h8i : ¬ ((k : Int) % 8) = 0 := by omega
            obtain ⟨j, rfl⟩ : ∃ j, k = j + 1 := ⟨k - 1, by omega⟩
            obtain ⟨y, hy⟩ : ∃ y, cs[j]? = some y := ⟨_, List.getElem?_eq_getElem (by rw [Hl.out]; omega)⟩
            obtain ⟨b', off', e', hb', ⟨y0, y1, y2, y3, y4⟩⟩ := Cells.at_ H.out hy
            cases e'
            have HYs : Hid (sy = ofL (placesTo cs (j + 1 + 1))) := Lib.hid (by rw [HY.out, placesTo_no h8])
            rw [aheadB_prev h8, prevB_succ hy] at K1
            obtain ⟨xr, xc, xv, xg, xl⟩ := x
            simp only at x0 x1 x2 x3 x4
            clear hx hy hI hs1 hsx hsy hle hps hsm y1 y2 y3 y4 hb'
            go_wp2_with fail
            refine (K1.out _).mono ?_
            rintro e w5 ⟨rfl, hb5⟩
            have HB5 := Lib.hid (HBel.out.trans (hb5.mono hzr))
            clear hb5 k0 k0f x0 x1 x2 x3 x4
            by_cases hbig : 32768 < sx.size + s1.size
            · have HR := Lib.hid (HR2.out HW.out (by have := HmN.out; have := HXs.out; omega))
              go_wp2
              go_returns
              exact ⟨by rw [HR.out.1, HR.out.2]; rfl, HB5.out⟩
            · go_wp2
              exact ⟨⟨j + 1 + 1, _, _, by omega, by go_num, rfl, rfl, Lib.hid ⟨HX.out, HYs.out, by rw [← HXs.out]; omega, HB5.out⟩⟩, by simp [intOf]; omega⟩
        · obtain rfl : k = n := by omega
          have hpl := placesTo_len cs k
          obtain ⟨P, hP⟩ : ∃ P, P = (k + 7) / 8 := ⟨_, rfl⟩
          rw [← hP] at hpl
          have hzy : sy.size = 2 * P := by omega
          obtain ⟨s2, hs2⟩ : ∃ s, s = ofL (twoL P) := ⟨_, rfl⟩
          have hz3 : s2.size = 2 := by rw [hs2, ofL_size]; rfl
          have HS : Hid (sx ++ sy ++ s2 = ofL (blockL cs)) := Lib.hid (by rw [append_ofL, append_ofL, hI.out.x, hI.out.y, hs2, ofL_toList, ofL_toList, ofL_toList, ofL_toList, blockL, Hl.out, ← hP])
          have HSz : Hid (sx.size + sy.size + s2.size = (blockL cs).length) := Lib.hid (by rw [← ofL_size (blockL cs), ← HS.out, ByteArray.size_append, ByteArray.size_append])
          have K2 := Lib.hid fun W => rtwo_any P W (by omega)
          rw [← hs2] at K2
          have HB0 := Lib.hid hI.out.bel
          have Hle := Lib.hid hle
          have hcat : sx.size + sy.size ≤ 9223372036854775807 := by omega
          have hzs : sx.size + sy.size + s2.size ≤ 9223372036854775807 := by omega
          clear hI hs2 hk hlt hP hpl hsx hsy hle hps hsx1 hsy1 hz3
          go_wp2_with fail
          refine (K2.out _).mono ?_
          rintro e w9 ⟨rfl, hb9⟩
          have HB9 := Lib.hid (HB0.out.trans (hb9.mono hzr))
          clear hb9
          by_cases hbig : 32768 < sx.size + sy.size + s2.size
          · have HR := Lib.hid (HR3.out HW.out Hle.out (by rw [← HSz.out]; exact hbig))
            clear hzy
            go_wp2
            go_returns
            exact ⟨by rw [HR.out.1, HR.out.2]; rfl, HB9.out⟩
          · have HR := Lib.hid (HR4.out HW.out Hle.out (by rw [← HSz.out]; omega))
            clear hzy
            go_wp2
            go_returns
            exact ⟨by rw [HR.out.1, HR.out.2, ← HS.out]; rfl, HB9.out⟩
end Go.Proofs.Ytfkghpomcaonfaa
