/-
  The walk of acreagelaw10.BlockShort.
-/
import Derived.Test.YtfkghpomcaonfaaBlkShortW
namespace Go.Proofs.Ytfkghpomcaonfaa
open Go.RowKit

set_option maxRecDepth 100000 in
set_option maxHeartbeats 2000000 in
theorem blockshort_any (ao : Option Addr) (n cap : Nat) (cs : List CellA) (w : World) (h : Cells w ao n cap cs) (hok : ∀ c ∈ cs, c.Ok) :
    Calls Try.prog 8 #[.slice ao n cap] w fun e w' => e = .returned (.bool true) ∧ Below w.heap.size w w' := by
  obtain ⟨m, hm⟩ : ∃ m, m = min n 200 := ⟨_, rfl⟩
  have hmn : m ≤ n := by omega
  have hm2 : m ≤ 200 := by omega
  have hmi : min (n : Int) 200 = (m : Int) := by omega
  have H := Lib.hid (Cells.take h m hmn)
  have hok2 : ∀ c ∈ sortL (cs.take m), c.Ok := fun c hc => hok c (List.mem_of_mem_take (sortL_sub _ c hc))
  have hsl := sortL_len (cs.take m)
  have hcl := h.len
  have hc1 := Arr.fits h
  have hc2 := Arr.max h
  unfold maxLen at hc2
  rw [List.length_take] at hsl
  clear hm
  obtain ⟨ss, hss⟩ : ∃ s, s = sortL (cs.take m) := ⟨_, rfl⟩
  have KS := Lib.hid fun W (h : Cells W ao m cap (cs.take m)) => sort_any ao m cap (cs.take m) W h (by omega)
  rw [← hss] at hok2 hsl KS
  have Hok := Lib.hid hok2
  clear h hok hok2 hss
  have hnc : m ≤ cap := by omega
  go_enter Try.func8, Try.ntmps8
  go_wp2_with (first | (go_at_call 14; refine (works10_any _).mono ?_; rintro e w1 ⟨rfl, hb⟩; obtain ⟨hB, hS, hk⟩ := after (B := w.heap.size) (w := w) (by go_grown) (by go_size) hb; have Hw1 := Lib.hid hb; clear hb; clear hk))
  all_goals
    (first | (have e : m = 200 := (by omega); subst e) | (have e : m = n := (by omega); subst e))
    refine (KS.out _ (Arr.below H.out (by assumption))).mono ?_
    rintro e w2 ⟨v2, rfl, hO, hb2⟩
    have HB2 := Lib.hid (hB.trans (hb2.mono hB.size))
    obtain ⟨ao2, cap2, rfl, hC⟩ := hO.cells
    have HC2 := Lib.hid hC
    have hs2 := HB2.out.size
    obtain ⟨q, hq⟩ : ∃ q, q = ss.length := ⟨_, rfl⟩
    have Hq := Lib.hid hq.symm
    rw [← hq] at HC2 hsl ⊢
    have hq2 : q ≤ 200 := by omega
    clear hO hb2 hC hB hS Hw1 KS H hq hsl
    go_wp2_with fail
    refine (build_any ao2 q cap2 ss w2 HC2.out Hok.out).mono ?_
    rintro e w3 ⟨rfl, hb3⟩
    have HC3 := Lib.hid (Arr.below HC2.out hb3)
    have HB3 := Lib.hid (HB2.out.trans (hb3.mono hs2))
    have hs3 := HB3.out.size
    have hz3 := hb3.size
    obtain ⟨r1, hr1⟩ : ∃ r, r = ofL (buildR ss).1 := ⟨_, rfl⟩
    obtain ⟨r2, hr2⟩ : ∃ r, r = (buildR ss).2 := ⟨_, rfl⟩
    rw [← hr1, ← hr2]
    clear HC2 HB2 hb3
    by_cases h0 : r2 = 0
    · subst h0
      have hbk := (buildR_ok hr2.symm).1
      have hsz : r1.size ≤ sumB ss q := by rw [hr1, ofL_size, (buildR_ok hr2.symm).2, ← Hq.out]; exact block_short hbk
      have Hsz := Lib.hid hsz
      have Hbk := Lib.hid hbk
      have Hle := Lib.hid fun k (hk : k ≤ q) => sumB_le hbk k (by rw [Hq.out]; exact hk)
      have Hgd := Lib.hid (wrongB_false hbk.good)
      have hrb : r1.size ≤ 32768 := by rw [hr1, ofL_size, (buildR_ok hr2.symm).2]; exact hbk.le
      clear hr1 hr2 hsz hbk
      go_wp2_with fail
      go_loopw [6, 7] (fun x i wr => ∃ k : Nat, k ≤ q ∧ i = .int .i64 k ∧ x = .int .i64 (sumB ss k) ∧ Hid (Below w3.heap.size w3 wr)) (fun _ i _ => q - (intOf i).toNat)
      case atStart => exact ⟨0, by omega, rfl, rfl, Lib.hid (Below.refl _ _)⟩
      case round =>
        obtain ⟨k, hk, rfl, rfl, hD⟩ := hrel
        have hzr := hD.out.size
        by_cases hlt : k < q
        · obtain ⟨x, hx⟩ : ∃ x, ss[k]? = some x := ⟨_, List.getElem?_eq_getElem (by rw [Hq.out]; omega)⟩
          obtain ⟨b, off, rfl, hb, ⟨x0, x1, x2, x3, x4⟩⟩ := Cells.at_ HC3.out hx
          obtain ⟨k0, k0f⟩ := keep_below hD.out b hb
          obtain ⟨s1, s2, s3, s4, s5⟩ := cellL_sizesB (Hgd.out k x hx).1
          have Hsu := Lib.hid (sumB_succ hx)
          have hle := Hle.out k hk
          obtain ⟨z, hz⟩ : ∃ z, z = sumB ss k := ⟨_, rfl⟩
          rw [← hz] at Hsu hle ⊢
          obtain ⟨xr, xc, xv, xg, xl⟩ := x
          simp only at x0 x1 x2 x3 x4 s1 s2 s3 s4 s5 Hsu
          clear hx hz
          go_wp2_with fail
          refine wp_region_below (by kernel_rfl) (by kernel_rfl) (fun hkept => ?_)
          obtain ⟨r0, rf0⟩ := hkept (b) (by go_size); clear hkept
          repeat (any_goals (first | go_big_quiet_step (fail) | quiet_step (fail) | (refine wpQuiet_step (fun K hK => ?_); go_simp; split <;> (refine hK _ ?_; clear hK K))))
          all_goals (refine wpQuiet_nil ?_; intro w5 hb; obtain ⟨hB, hS, hk⟩ := after (B := wr.heap.size) (w := wr) (by go_grown) (by go_size) hb; obtain ⟨c0, f0, z0⟩ := hk (b) (by go_size); clear hk hb r0 rf0)
          go_wp2_with fail
          exact ⟨⟨k + 1, by omega, by go_num, by rw [Hsu.out]; go_num, Lib.hid (hD.out.trans (hB.mono hzr))⟩, by simp [intOf]; omega⟩
        · obtain rfl : k = q := by omega
          have hsz := Hsz.out
          have hsi : (r1.size : Int) ≤ (sumB ss k : Int) := by omega
          go_wp2
          go_returns
          exact ⟨rfl, HB3.out.trans (hD.out.mono hs3)⟩
    · clear hr1 hr2
      go_wp2_with fail
      go_loopw [6, 7] (fun x i wr => ∃ (k : Nat) (y : Int), k ≤ q ∧ i = .int .i64 k ∧ x = .int .i64 y ∧ Hid (Below w3.heap.size w3 wr)) (fun _ i _ => q - (intOf i).toNat)
      case atStart => exact ⟨0, 2, by omega, rfl, rfl, Lib.hid (Below.refl _ _)⟩
      case round =>
        obtain ⟨k, y, hk, rfl, rfl, hD⟩ := hrel
        have hzr := hD.out.size
        by_cases hlt : k < q
        · obtain ⟨x, hx⟩ : ∃ x, ss[k]? = some x := ⟨_, List.getElem?_eq_getElem (by rw [Hq.out]; omega)⟩
          obtain ⟨b, off, rfl, hb, ⟨x0, x1, x2, x3, x4⟩⟩ := Cells.at_ HC3.out hx
          obtain ⟨k0, k0f⟩ := keep_below hD.out b hb
          obtain ⟨xr, xc, xv, xg, xl⟩ := x
          simp only at x0 x1 x2 x3 x4
          clear hx
          go_wp2_with fail
          refine wp_region_below (by kernel_rfl) (by kernel_rfl) (fun hkept => ?_)
          obtain ⟨r0, rf0⟩ := hkept (b) (by go_size); clear hkept
          repeat (any_goals (first | go_big_quiet_step (fail) | quiet_step (fail) | (refine wpQuiet_step (fun K hK => ?_); go_simp; split <;> (refine hK _ ?_; clear hK K))))
          all_goals (refine wpQuiet_nil ?_; intro w5 hb; obtain ⟨hB, hS, hk⟩ := after (B := wr.heap.size) (w := wr) (by go_grown) (by go_size) hb; obtain ⟨c0, f0, z0⟩ := hk (b) (by go_size); clear hk hb r0 rf0)
          go_wp2_with fail
          exact ⟨⟨k + 1, _, by omega, by go_num, rfl, Lib.hid (hD.out.trans (hB.mono hzr))⟩, by simp [intOf]; omega⟩
        · go_wp2
          go_returns
          exact ⟨rfl, HB3.out.trans (hD.out.mono hs3)⟩
end Go.Proofs.Ytfkghpomcaonfaa
