/-
  Places: the walk of the law MetaBack.
-/
import Derived.Test.YtelangbockagnaaMetaBackL
namespace Go.Proofs.Ytelangbockagnaa
open Go.RowKit

set_option maxRecDepth 100000 in
set_option maxHeartbeats 8000000 in
theorem metaback_bad (g q : Nat) (sa sb : ByteArray) (w : World) (hg : g < 256) (hq : q < 256) (ha : sa.size ≤ maxLen) (hb : sb.size ≤ maxLen) (hsel : mayL (sa.extract 0 (min sa.size 24)).toList (sb.extract 0 (min sb.size 24)).toList = false) :
    Calls Try.prog 4 #[.int .u8 g, .int .u8 q, .agg #[.string sa, .string sb]] w fun e w' => e = .returned (.bool true) ∧ Below w.heap.size w w' := by
  unfold maxLen at ha hb
  obtain ⟨i0, hi, hz0, hz1x, hz2x⟩ := info_parts Try.info_int
  have Hi := Lib.hid hi
  clear hi
  obtain ⟨ma, hma⟩ : ∃ m : Nat, (if (24 : Int) < (sa.size : Int) then 24 else (sa.size : Int)) = (m : Int) := ⟨min sa.size 24, by split <;> omega⟩
  have hma3 : ma ≤ 24 := by split at hma <;> omega
  have hma4 : ma ≤ sa.size := by split at hma <;> omega
  obtain ⟨mb, hmb⟩ : ∃ m : Nat, (if (24 : Int) < (sb.size : Int) then 24 else (sb.size : Int)) = (m : Int) := ⟨min sb.size 24, by split <;> omega⟩
  have hmb3 : mb ≤ 24 := by split at hmb <;> omega
  have hmb4 : mb ≤ sb.size := by split at hmb <;> omega
  obtain ⟨lo, hlo⟩ : ∃ s2 : ByteArray, sa.extract 0 ma = s2 := ⟨_, rfl⟩
  obtain ⟨hi, hhi⟩ : ∃ s2 : ByteArray, sb.extract 0 mb = s2 := ⟨_, rfl⟩
  have hsel2 : mayL lo.toList hi.toList = false := by
    have e1 : ma = min sa.size 24 := by split at hma <;> omega
    have e2 : mb = min sb.size 24 := by split at hmb <;> omega
    rw [← hlo, ← hhi, e1, e2]; exact hsel
  have Hsel := Lib.hid hsel2
  clear hsel hsel2
  have hlo3 : lo.size ≤ 24 := by rw [← hlo, ByteArray.size_extract]; omega
  have hhi3 : hi.size ≤ 24 := by rw [← hhi, ByteArray.size_extract]; omega
  obtain ⟨gr, hgr⟩ : ∃ gr : Int, (g : Int) % 12 = gr := ⟨_, rfl⟩
  have hgr0 : 0 ≤ gr := by omega
  have hgr1 : gr < 12 := by omega
  obtain ⟨ep, hep⟩ : ∃ ep : Int, (g : Int) * 4294967296 = ep := ⟨_, rfl⟩
  have hep0 : 0 ≤ ep := by omega
  have hep1 : ep ≤ 1099511627776 := by omega
  have Hgr := Lib.hid hgr
  have Hep := Lib.hid hep
  clear hgr hep
  obtain ⟨mm, hmm⟩ : ∃ m : Nat, m = 1 + q % 31 := ⟨_, rfl⟩
  have hbit := Lib.hid (bit_test q)
  rw [← hmm] at hbit
  go_enter Try.func4, Try.ntmps4
  go_wp2_with fail
  go_region
  all_goals go_wp2
  rw [Hgr.out, Hep.out]
  obtain ⟨W0, hW0⟩ : ∃ W0 : World, W0 = ((w.alloc (.cells #[.string sa, .string sb] 37)).alloc (.cells #[.int .i64 gr, .string lo, .string hi, .int .u64 ep, .slice none 0 0] 27)).drew := ⟨_, rfl⟩
  have L0 : LocIn W0 (w.heap.size + 1) gr lo hi ep (.slice none 0 0) := by subst hW0; exact ⟨by go_simp, by go_simp, by go_simp, by go_simp, by go_simp, fun o => by go_simp⟩
  have hs0 : w.heap.size + 1 < W0.heap.size := by subst hW0; go_size
  have hb0 : Below w.heap.size w W0 := by subst hW0; go_grown
  obtain ⟨x0, x1, x2, x3, x4, xf⟩ := L0
  rw [← hW0]
  clear hW0
  refine mb_bits hbit.out ⟨x0, x1, x2, x3, x4, xf⟩ hs0 hb0 ?_
  intro v36 v37 v38 v39 v40 v41 v42 v43 v44 v45 v46 v47 v48 v49 v50 v51 v52 acc v wr hA hD
  have hA := Lib.hid hA
  have hD := Lib.hid hD
  have hzw := hD.out.size
  have kl0 := (hD.out.lo 0 (by decide)).trans x0
  have kl1 := (hD.out.lo 1 (by decide)).trans x1
  have kl2 := (hD.out.lo 2 (by decide)).trans x2
  have kl3 := (hD.out.lo 3 (by decide)).trans x3
  have kl4 := hD.out.nodes
  have klf := fun o => (hD.out.fro o).trans (xf o)
  have hbr := hD.out.bel
  have zrd : w.heap.size + 1 < wr.heap.size := by omega
  have hmem : membersL acc = true := by rw [hA.out]; exact upL_ok mm (by omega) (by omega)
  have hal := upL_len mm 5
  rw [← hA.out] at hal
  obtain ⟨n, hn⟩ : ∃ n, n = acc.length := ⟨_, rfl⟩
  have hrow := hD.out.row
  rw [← hn] at hrow hal
  obtain ⟨ao, cap, rfl, hArr⟩ := Row.arr (es := acc.map intE) (by decide) (by rw [List.length_map, ← hn]; exact hrow) (intE_elems acc)
  rw [List.length_map, ← hn] at hrow kl4
  have hcap1 := Arr.fits hArr
  have hcap2 := Arr.max hArr
  rw [List.length_map, ← hn] at hcap1
  unfold maxLen at hcap2
  have hints := Lib.hid (ints_of_row hrow hn.symm)
  have hok : Hid (LocA.Ok ⟨gr, lo, hi, ep, acc⟩) := Lib.hid ⟨by simp only; unfold maxLen; omega, by simp only; unfold maxLen; omega, hep0, by simp only; omega⟩
  obtain ⟨ob, hob⟩ : ∃ b, b = mayL lo.toList hi.toList := ⟨_, rfl⟩
  obtain rfl : ob = false := hob.trans Hsel.out
  have hokL : okL ⟨gr, lo, hi, ep, acc⟩ = false := by
    unfold okL
    simp only [hmem, ← hob, decide_eq_true hgr0, decide_eq_true hgr1, decide_eq_true hep1, Bool.true_and, Bool.and_true]
  have K2 := fun W => mcheck_any lo hi W (by unfold maxLen; omega) (by unfold maxLen; omega)
  have K4 := Lib.hid fun W => mworks_any W
  rw [← hob] at K2
  have K2 := Lib.hid K2
  clear hrow hArr hob hmem hA hn
  have K1 := Lib.hid fun W (h : Ints W ao n cap acc) => mencode_bad ⟨gr, lo, hi, ep, acc⟩ ao n cap W hok.out h hokL
  have K3 := Lib.hid fun W (h : Ints W ao n cap acc) => metacheck_any ⟨gr, lo, hi, ep, acc⟩ ao n cap W hok.out h
  rw [hokL] at K3
  simp only [LocA.v, errM, Bool.false_eq_true, if_false] at K1 K2 K3
  clear hokL
  go_wp2_with (first
    | (go_at_call 5; refine (K1.out _ hints.out).mono ?_; rintro e w6 ⟨rfl, hb⟩; obtain ⟨hB, hS, hk⟩ := after (B := wr.heap.size) (w := wr) (by go_grown) (by go_size) hb; clear hb; obtain ⟨c0, f0, z0⟩ := hk (w.heap.size + 1) (by go_size); clear hk)
    | (go_at_call 13; refine (K2.out _).mono ?_; rintro e w7 ⟨rfl, hb⟩; obtain ⟨hB, hS, hk⟩ := after (B := wr.heap.size) (w := wr) (by go_grown) (by go_size) hb; clear hb; obtain ⟨c0, f0, z0⟩ := hk (w.heap.size + 1) (by go_size); clear hk)
    | (go_at_call 7; refine (K3.out _ (Ints.below hints.out hB)).mono ?_; rintro e w8 ⟨rfl, hb⟩; obtain ⟨hB, hS, hk⟩ := after (B := wr.heap.size) (w := wr) (by go_grown) (by go_size) hb; clear hb; obtain ⟨c0, f0, z0⟩ := hk (w.heap.size + 1) (by go_size); clear hk)
    | (go_at_call 12; refine (K4.out _).mono ?_; rintro e w9 ⟨rfl, hb⟩; obtain ⟨hB, hS, hk⟩ := after (B := wr.heap.size) (w := wr) (by go_grown) (by go_size) hb; clear hb; clear hk))
  go_returns
  exact ⟨rfl, hbr.trans (hB.mono (by omega))⟩
end Go.Proofs.Ytelangbockagnaa
