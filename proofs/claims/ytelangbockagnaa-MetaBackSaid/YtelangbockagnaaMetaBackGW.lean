/-
  Places: the walk of the law MetaBack.
-/
import Derived.Test.YtelangbockagnaaMetaBackL
namespace Go.Proofs.Ytelangbockagnaa
open Go.RowKit

theorem encM_len {c : LocA} (h : okL c = true) (h0 : 0 ≤ c.ep) : 0 < (encM c).length ∧ (encM c).length ≤ 256 := by
  have g := goodM h
  have g0 := g.g0; have g1 := g.g1; have g2 := g.lo; have g3 := g.hi; have g4 := g.ep; have g5 := g.len
  have n1 := numW_len c.gr ⟨g0, by omega⟩
  have n2 := numL_ten (v := c.lo.size) (by omega)
  have n3 := numL_ten (v := c.hi.size) (by omega)
  have n4 := numW_len c.ep ⟨h0, by omega⟩
  have n5 := numL_ten (v := c.nd.length) (by omega)
  have n6 := nodesB_len g.nd
  have n7 : 0 < (numL c.nd.length).length := by rw [numL_small (by omega)]; simp
  unfold encM
  simp only [List.length_append, size_list]
  omega

theorem decode_good (c : LocA) (h : okL c = true) (h0 : 0 ≤ c.ep) (n : Nat) (hn : c.nd.length = n) (s : ByteArray) (hs : s.toList = encM c) (W : World) :
    Calls Try.prog 10 #[.string s] W fun e w' => (∃ ao cap, e = .returned (.tuple #[.agg #[.int .i64 c.gr, .string c.lo, .string c.hi, .int .u64 c.ep, .slice ao n cap], .int .i64 0]) ∧ Ints w' ao n cap c.nd) ∧ Below W.heap.size W w' := by
  have hl := encM_len h h0
  have hz : s.size ≤ 1000 := by rw [← size_list, hs]; omega
  refine (mdecode_any s W hz).mono ?_
  rw [hs, decM_complete h h0]
  rintro e w' ⟨⟨c2, ao, n2, cap, hc, rfl, hi⟩ | ⟨hc, _⟩, hb⟩
  · cases hc
    have hn2 : n2 = n := by have := hi.len; omega
    subst hn2
    exact ⟨⟨ao, cap, rfl, hi⟩, hb⟩
  · cases hc
theorem decode_none (s : ByteArray) (hz : s.size ≤ 1000) (h : decM s.toList = none) (W : World) :
    Calls Try.prog 10 #[.string s] W fun e w' => e = .returned (.tuple #[.agg #[.int .i64 0, .string ⟨#[]⟩, .string ⟨#[]⟩, .int .u64 0, .slice none 0 0], .int .i64 4]) ∧ Below W.heap.size W w' := by
  refine (mdecode_any s W hz).mono ?_
  rw [h]
  rintro e w' ⟨⟨c2, ao, n2, cap, hc, _⟩ | ⟨_, rfl⟩, hb⟩
  · cases hc
  · exact ⟨rfl, hb⟩
/-- The bytes of a place, shortened by one and lengthened by one, are none's. -/
theorem decode_ends (c : LocA) (h : okL c = true) (h0 : 0 ≤ c.ep) : ∃ s sL sM : ByteArray, s = ofL (encM c) ∧ 0 < s.size ∧ s.size ≤ 256 ∧ s.extract 0 (s.size - 1) = sL ∧ s ++ ⟨#[0]⟩ = sM ∧ s.toList = encM c ∧
    (∀ W, Calls Try.prog 10 #[.string sL] W fun e w' => e = .returned (.tuple #[.agg #[.int .i64 0, .string ⟨#[]⟩, .string ⟨#[]⟩, .int .u64 0, .slice none 0 0], .int .i64 4]) ∧ Below W.heap.size W w') ∧
    (∀ W, Calls Try.prog 10 #[.string sM] W fun e w' => e = .returned (.tuple #[.agg #[.int .i64 0, .string ⟨#[]⟩, .string ⟨#[]⟩, .int .u64 0, .slice none 0 0], .int .i64 4]) ∧ Below W.heap.size W w') := by
  obtain ⟨l1, l2⟩ := encM_len h h0
  have hsz : (ofL (encM c)).size = (encM c).length := ofL_size _
  have hne : encM c ≠ [] := fun e => by rw [e] at l1; simp at l1
  refine ⟨ofL (encM c), _, _, rfl, by omega, by omega, rfl, rfl, ofL_toList _, fun W => decode_none _ ?_ ?_ W, fun W => decode_none _ ?_ ?_ W⟩
  · rw [ByteArray.size_extract]; omega
  · rw [toList_extract, ofL_toList, hsz, List.drop_zero]
    refine decM_less h h0 (d := (encM c).getLast hne) ?_
    rw [← List.dropLast_eq_take, List.dropLast_concat_getLast hne]
  · rw [ByteArray.size_append]
    have : (⟨#[0]⟩ : ByteArray).size = 1 := rfl
    omega
  · rw [append_ofL, ofL_toList, ofL_toList]
    have : (⟨#[0]⟩ : ByteArray).toList = [0] := by simp [Lib.toList_data]
    rw [this]
    exact decM_more h h0 0

set_option maxRecDepth 100000 in
set_option maxHeartbeats 8000000 in
theorem metaback_good (g q : Nat) (sa sb : ByteArray) (w : World) (hg : g < 256) (hq : q < 256) (ha : sa.size ≤ maxLen) (hb : sb.size ≤ maxLen) (hsel : mayL (sa.extract 0 (min sa.size 24)).toList (sb.extract 0 (min sb.size 24)).toList = true) :
    Calls Try.prog 4 #[.int .u8 g, .int .u8 q, .agg #[.string sa, .string sb]] w fun e w' => e = .returned (.bool true) ∧ Below w.heap.size w w' := by
  unfold maxLen at ha hb
  obtain ⟨i0, hi, hz0, hz1x, hz2x⟩ := info_parts Try.info_int
  have Hi := Lib.hid hi
  clear hi
  obtain ⟨ma, hma⟩ : ∃ m : Nat, (if (24 : Int) < (sa.size : Int) then 24 else (sa.size : Int)) = (m : Int) := ⟨min sa.size 24, by split <;> omega⟩
  have hma3 : ma ≤ 24 := by split at hma <;> omega
  have hma4 : ma ≤ sa.size := by split at hma <;> omega
  obtain ⟨mb, hmb⟩ : ∃ m : Nat, (if (24 : Int) < (sb.size : Int) then 24 else (sb.size : Int)) = (m : Int) := ⟨min sb.size 24, by split <;> omega⟩
  have hmb3 : mb ≤ 24 := by split at hmb <;> omega
  have hmb4 : mb ≤ sb.size := by split at hmb <;> omega
  obtain ⟨lo, hlo⟩ : ∃ s2 : ByteArray, sa.extract 0 ma = s2 := ⟨_, rfl⟩
  obtain ⟨hi, hhi⟩ : ∃ s2 : ByteArray, sb.extract 0 mb = s2 := ⟨_, rfl⟩
  have hsel2 : mayL lo.toList hi.toList = true := by
    have e1 : ma = min sa.size 24 := by split at hma <;> omega
    have e2 : mb = min sb.size 24 := by split at hmb <;> omega
    rw [← hlo, ← hhi, e1, e2]; exact hsel
  have Hsel := Lib.hid hsel2
  clear hsel hsel2
  have hlo3 : lo.size ≤ 24 := by rw [← hlo, ByteArray.size_extract]; omega
  have hhi3 : hi.size ≤ 24 := by rw [← hhi, ByteArray.size_extract]; omega
  obtain ⟨gr, hgr⟩ : ∃ gr : Int, (g : Int) % 12 = gr := ⟨_, rfl⟩
  have hgr0 : 0 ≤ gr := by omega
  have hgr1 : gr < 12 := by omega
  obtain ⟨ep, hep⟩ : ∃ ep : Int, (g : Int) * 4294967296 = ep := ⟨_, rfl⟩
  have hep0 : 0 ≤ ep := by omega
  have hep1 : ep ≤ 1099511627776 := by omega
  have Hgr := Lib.hid hgr
  have Hep := Lib.hid hep
  clear hgr hep
  obtain ⟨mm, hmm⟩ : ∃ m : Nat, m = 1 + q % 31 := ⟨_, rfl⟩
  have hbit := Lib.hid (bit_test q)
  rw [← hmm] at hbit
  go_enter Try.func4, Try.ntmps4
  go_wp2_with fail
  go_region
  all_goals go_wp2
  rw [Hgr.out, Hep.out]
  obtain ⟨W0, hW0⟩ : ∃ W0 : World, W0 = ((w.alloc (.cells #[.string sa, .string sb] 37)).alloc (.cells #[.int .i64 gr, .string lo, .string hi, .int .u64 ep, .slice none 0 0] 27)).drew := ⟨_, rfl⟩
  have L0 : LocIn W0 (w.heap.size + 1) gr lo hi ep (.slice none 0 0) := by subst hW0; exact ⟨by go_simp, by go_simp, by go_simp, by go_simp, by go_simp, fun o => by go_simp⟩
  have hs0 : w.heap.size + 1 < W0.heap.size := by subst hW0; go_size
  have hb0 : Below w.heap.size w W0 := by subst hW0; go_grown
  obtain ⟨x0, x1, x2, x3, x4, xf⟩ := L0
  rw [← hW0]
  clear hW0
  refine mb_bits hbit.out ⟨x0, x1, x2, x3, x4, xf⟩ hs0 hb0 ?_
  intro v36 v37 v38 v39 v40 v41 v42 v43 v44 v45 v46 v47 v48 v49 v50 v51 v52 acc v wr hA hD
  have hA := Lib.hid hA
  have hD := Lib.hid hD
  have hzw := hD.out.size
  have kl0 := (hD.out.lo 0 (by decide)).trans x0
  have kl1 := (hD.out.lo 1 (by decide)).trans x1
  have kl2 := (hD.out.lo 2 (by decide)).trans x2
  have kl3 := (hD.out.lo 3 (by decide)).trans x3
  have kl4 := hD.out.nodes
  have klf := fun o => (hD.out.fro o).trans (xf o)
  have hbr := hD.out.bel
  have zrd : w.heap.size + 1 < wr.heap.size := by omega
  have hmem : membersL acc = true := by rw [hA.out]; exact upL_ok mm (by omega) (by omega)
  have hal := upL_len mm 5
  rw [← hA.out] at hal
  obtain ⟨n, hn⟩ : ∃ n, n = acc.length := ⟨_, rfl⟩
  have hrow := hD.out.row
  rw [← hn] at hrow hal
  obtain ⟨ao, cap, rfl, hArr⟩ := Row.arr (es := acc.map intE) (by decide) (by rw [List.length_map, ← hn]; exact hrow) (intE_elems acc)
  rw [List.length_map, ← hn] at hrow kl4
  have hcap1 := Arr.fits hArr
  have hcap2 := Arr.max hArr
  rw [List.length_map, ← hn] at hcap1
  unfold maxLen at hcap2
  have hints := Lib.hid (ints_of_row hrow hn.symm)
  have hok : Hid (LocA.Ok ⟨gr, lo, hi, ep, acc⟩) := Lib.hid ⟨by simp only; unfold maxLen; omega, by simp only; unfold maxLen; omega, hep0, by simp only; omega⟩
  obtain ⟨ob, hob⟩ : ∃ b, b = mayL lo.toList hi.toList := ⟨_, rfl⟩
  obtain rfl : ob = true := hob.trans Hsel.out
  have hokL : okL ⟨gr, lo, hi, ep, acc⟩ = true := by
    unfold okL
    simp only [hmem, ← hob, decide_eq_true hgr0, decide_eq_true hgr1, decide_eq_true hep1, Bool.true_and, Bool.and_true]
  have K2 := fun W => mcheck_any lo hi W (by unfold maxLen; omega) (by unfold maxLen; omega)
  have K4 := Lib.hid fun W => mworks_any W
  rw [← hob] at K2
  have K2 := Lib.hid K2
  clear hrow hArr hob hmem hA hn
  have K1 := Lib.hid fun W (h : Ints W ao n cap acc) => mencode_good ⟨gr, lo, hi, ep, acc⟩ ao n cap W hok.out h hokL
  obtain ⟨S, sL, sM, hS, hS0, hS1, hsL, hsM, hSl, K6, K7⟩ := decode_ends ⟨gr, lo, hi, ep, acc⟩ hokL hep0
  have K5 := decode_good ⟨gr, lo, hi, ep, acc⟩ hokL hep0 n hints.out.len S hSl
  rw [← hS] at K1
  simp only [LocA.v] at K1 K5
  have K5 := Lib.hid K5
  have K6 := Lib.hid K6
  have K7 := Lib.hid K7
  clear hokL hS hSl
  have hd1 : decide (256 < (S.size : Int)) = false := by simp; omega
  have hd2 : decide (256 < S.size) = false := by simp; omega
  have hd3 : ((S.size : Int) == 0) = false := by rw [beq_eq_false_iff_ne]; omega
  have hd4 : (S.size == 0) = false := by rw [beq_eq_false_iff_ne]; omega
  go_upto_region 11 with (first
    | (go_at_call 5; refine (K1.out _ hints.out).mono ?_; rintro e w6 ⟨rfl, hb⟩; obtain ⟨hB, hS, hk⟩ := after (B := wr.heap.size) (w := wr) (by go_grown) (by go_size) hb; clear hb; obtain ⟨c0, f0, z0⟩ := hk (w.heap.size + 1) (by go_size); clear hk)
    | (go_at_call 10; refine (K5.out _).mono ?_; rintro e w7 ⟨⟨ao7, cap7, rfl, hi7⟩, hb⟩; have HI7 := Lib.hid hi7; have hfit7 := Arr.fits hi7; have hmax7 := Arr.max hi7; unfold maxLen at hmax7; obtain ⟨hB, hS, hk⟩ := after (B := wr.heap.size) (w := wr) (by go_grown) (by go_size) hb; clear hb hi7; obtain ⟨c0, f0, z0⟩ := hk (w.heap.size + 1) (by go_size); clear hk))
  obtain ⟨W1, hW1⟩ : ∃ W : World, W = w7.alloc (.cells #[.int .i64 gr, .string lo, .string hi, .int .u64 ep, .slice ao7 n cap7] 27) := ⟨_, rfl⟩
  have p0 : W1.cell? ⟨w.heap.size + 1, 0, none⟩ = some (.int .i64 gr) := by rw [hW1]; go_simp
  have p1 : W1.cell? ⟨w.heap.size + 1, 1, none⟩ = some (.string lo) := by rw [hW1]; go_simp
  have p2 : W1.cell? ⟨w.heap.size + 1, 2, none⟩ = some (.string hi) := by rw [hW1]; go_simp
  have p3 : W1.cell? ⟨w.heap.size + 1, 3, none⟩ = some (.int .u64 ep) := by rw [hW1]; go_simp
  have p4 : W1.cell? ⟨w.heap.size + 1, 4, none⟩ = some (.slice ao n cap) := by rw [hW1]; go_simp
  obtain ⟨y, hy⟩ : ∃ y, w7.heap.size = y := ⟨_, rfl⟩
  have q0 : W1.cell? ⟨y, 0, none⟩ = some (.int .i64 gr) := by rw [hW1, ← hy]; go_simp
  have q1 : W1.cell? ⟨y, 1, none⟩ = some (.string lo) := by rw [hW1, ← hy]; go_simp
  have q2 : W1.cell? ⟨y, 2, none⟩ = some (.string hi) := by rw [hW1, ← hy]; go_simp
  have q3 : W1.cell? ⟨y, 3, none⟩ = some (.int .u64 ep) := by rw [hW1, ← hy]; go_simp
  have q4 : W1.cell? ⟨y, 4, none⟩ = some (.slice ao7 n cap7) := by rw [hW1, ← hy]; go_simp
  have HI1 := Lib.hid (show Ints W1 ao7 n cap7 acc by rw [hW1]; exact ints_alloc HI7.out _)
  have HI2 := Lib.hid (show Ints W1 ao n cap acc by rw [hW1]; exact ints_alloc (Ints.below hints.out hB) _)
  have hB1 : Below w.heap.size w W1 := by rw [hW1]; exact (hbr.trans (hB.mono (by omega))).alloc (by omega) _
  have z1 : w.heap.size + 1 < W1.heap.size := by rw [hW1, World.size_alloc]; omega
  have z2 : y < W1.heap.size := by rw [hW1, World.size_alloc, hy]; omega
  rw [← hW1, hy]
  clear hW1 c0 f0 z0 hy hB HI7 hints hok K1 K2 K5 kl0 kl1 kl2 kl3 kl4 klf hD hbit hzw zrd x0 x1 x2 x3 x4 xf hs0 hb0 hgr0 hgr1 hep0 hep1 hma hma3 hma4 hmb hmb3 hmb4 hlo hhi hlo3 hhi3 Hgr Hep
  go_wp2
  refine mb_loop HI1.out HI2.out p4 q4 z1 z2 ?_
  intro v6 v123 v124 v125 v126 v127 v128 v129 v130 v131 v132 v133 v134 v135 v136 v137 v138 v139 v140 wr2 hB2
  have hz2 := hB2.size
  clear HI1 HI2 p0 p1 p2 p3 p4 q0 q1 q2 q3 q4
  go_wp2_with (first
    | (go_at_call 10; with_reducible refine (K6.out _).mono ?_; rintro e w11 ⟨rfl, hb⟩; obtain ⟨hB, hS, hk⟩ := after (B := wr2.heap.size) (w := wr2) (by go_grown) (by go_size) hb; clear hb; clear hk)
    | (go_at_call 10; with_reducible refine (K7.out _).mono ?_; rintro e w12 ⟨rfl, hb⟩; obtain ⟨hB, hS, hk⟩ := after (B := wr2.heap.size) (w := wr2) (by go_grown) (by go_size) hb; clear hb; clear hk)
    | (go_at_call 12; refine (K4.out _).mono ?_; rintro e w13 ⟨rfl, hb⟩; obtain ⟨hB, hS, hk⟩ := after (B := wr2.heap.size) (w := wr2) (by go_grown) (by go_size) hb; clear hb; clear hk))
  go_returns
  exact ⟨rfl, hB1.trans ((hB2.trans (hB.mono hz2)).mono (by omega))⟩
end Go.Proofs.Ytelangbockagnaa
