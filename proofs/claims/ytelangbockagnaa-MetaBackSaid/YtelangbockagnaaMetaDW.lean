/-
  Places: the walk of meta.Decode.
-/
import Derived.Test.YtelangbockagnaaMetaDP
namespace Go.Proofs.Ytelangbockagnaa
open Go.RowKit

set_option maxRecDepth 100000 in
set_option maxHeartbeats 16000000 in
theorem mdecode_any (s : ByteArray) (w : World) (hs : s.size ≤ 1000) :
    Calls Try.prog 10 #[.string s] w fun e w' => ((∃ c ao n cap, decM s.toList = some c ∧ e = .returned (.tuple #[c.v ao n cap, .int .i64 0]) ∧ Ints w' ao n cap c.nd) ∨ (decM s.toList = none ∧ e = .returned (.tuple #[zeroLoc, .int .i64 4]))) ∧ Below w.heap.size w w' := by
  have Hnew := Lib.hid fun W => new_any s W
  have hsl : s.toList.length = s.size := size_list s
  obtain ⟨l0, hl0⟩ : ∃ l, l = s.toList := ⟨_, rfl⟩
  have n0 : l0.length ≤ 1000 := by rw [hl0, hsl]; exact hs
  have n1 := numR_rest' l0
  obtain ⟨l1, hl1⟩ : ∃ l, l = (numR l0).2.2 := ⟨_, rfl⟩
  rw [← hl1] at n1
  have n2 := textR_rest' 24 l1
  have m2 := textR_len 24 l1
  obtain ⟨⟨tb, wb, l2⟩, hb2⟩ : ∃ x, x = textR 24 l1 := ⟨_, rfl⟩
  rw [← hb2] at n2 m2
  have n3 := textR_rest' 24 l2
  have m3 := textR_len 24 l2
  obtain ⟨⟨tc, wc, l3⟩, hb3⟩ : ∃ x, x = textR 24 l2 := ⟨_, rfl⟩
  rw [← hb3] at n3 m3
  have n4 := numR_rest' l3
  obtain ⟨l4, hl4⟩ : ∃ l, l = (numR l3).2.2 := ⟨_, rfl⟩
  rw [← hl4] at n4
  have n5 := numR_rest' l4
  obtain ⟨l5, hl5⟩ : ∃ l, l = (numR l4).2.2 := ⟨_, rfl⟩
  rw [← hl5] at n5
  simp only at n2 n3 m2 m3
  have K1 := Lib.hid fun W h hr hw hf => numc_z 0 12 0 12 rfl rfl (w.heap.size + 1) (w.heap.size + 1 + 1) (w.heap.size + 1 + 1 + 1) l0 W (by decide) (by unfold maxLen; omega) h hr false hw hf (by omega) (by omega)
  have K2 := Lib.hid fun W h => text_r (w.heap.size + 1) 24 l1 W (by decide) (by unfold maxLen; omega) h
  have K3 := Lib.hid fun W h => text_r (w.heap.size + 1) 24 l2 W (by decide) (by unfold maxLen; omega) h
  have K4 := Lib.hid fun W h hr hw hf => numc_z 3 1099511627776 3 1099511627776 rfl rfl (w.heap.size + 1) (w.heap.size + 1 + 1) (w.heap.size + 1 + 1 + 1) l3 W (by decide) (by unfold maxLen; omega) h hr false hw hf (by omega) (by omega)
  have K5 := Lib.hid fun W h hr hw hf => numc_z 4 5 4 5 rfl rfl (w.heap.size + 1) (w.heap.size + 1 + 1) (w.heap.size + 1 + 1 + 1) l4 W (by decide) (by unfold maxLen; omega) h hr false hw hf (by omega) (by omega)
  rw [← hl1] at K1
  rw [← hb2] at K2
  rw [← hb3] at K3
  rw [← hl4] at K4
  rw [← hl5] at K5
  simp only at K2 K3
  obtain ⟨g0, hg0⟩ : ∃ g : Nat, g = (if mayN l0 12 then (numR l0).1 else 0) := ⟨_, rfl⟩
  obtain ⟨wa, hwa⟩ : ∃ b, b = mayN l0 12 := ⟨_, rfl⟩
  obtain ⟨ep, hep⟩ : ∃ g : Nat, g = (if mayN l3 1099511627776 then (numR l3).1 else 0) := ⟨_, rfl⟩
  obtain ⟨wd, hwd⟩ : ∃ b, b = mayN l3 1099511627776 := ⟨_, rfl⟩
  obtain ⟨nn, hnn⟩ : ∃ g : Nat, g = (if mayN l4 5 then (numR l4).1 else 0) := ⟨_, rfl⟩
  obtain ⟨we, hwe⟩ : ∃ b, b = mayN l4 5 := ⟨_, rfl⟩
  have b0 : g0 ≤ 12 := by rw [hg0]; split <;> (first | omega | (rename_i hh; simp only [mayN, Bool.and_eq_true, decide_eq_true_eq] at hh; exact hh.2))
  have b1 : ep ≤ 1099511627776 := by rw [hep]; split <;> (first | omega | (rename_i hh; simp only [mayN, Bool.and_eq_true, decide_eq_true_eq] at hh; exact hh.2))
  have b2 : nn ≤ 5 := by rw [hnn]; split <;> (first | omega | (rename_i hh; simp only [mayN, Bool.and_eq_true, decide_eq_true_eq] at hh; exact hh.2))
  rw [← hg0, ← hwa] at K1
  rw [← hep, ← hwd] at K4
  rw [← hnn, ← hwe] at K5
  have HP : Hid (metaR s.toList = ⟨g0, wa, tb, wb, tc, wc, ep, wd, nn, we, l5⟩) := Lib.hid (by
    rw [← hl0]
    unfold metaR
    simp only [← hl1, ← hb2, ← hb3, ← hl4, ← hl5]
    rw [← hg0, ← hep, ← hnn, ← hwa, ← hwd, ← hwe])
  obtain ⟨sb, hsb⟩ : ∃ s, s = ofL tb := ⟨_, rfl⟩
  obtain ⟨sc, hsc⟩ : ∃ s, s = ofL tc := ⟨_, rfl⟩
  rw [← hsb] at K2
  rw [← hsc] at K3
  have Hsb := Lib.hid hsb
  have Hsc := Lib.hid hsc
  have z2 : sb.size ≤ 1000 := by rw [hsb, ofL_size]; omega
  have z3 : sc.size ≤ 1000 := by rw [hsc, ofL_size]; omega
  have Hl0 := Lib.hid hl0
  clear hsl hl0 hl1 hb2 hb3 hl4 hl5 hg0 hwa hep hwd hnn hwe hsb hsc m2 m3
  obtain ⟨P, hP⟩ : ∃ P : Ending → World → Prop, P = fun e w' => ((∃ c ao n cap, decM s.toList = some c ∧ e = .returned (.tuple #[c.v ao n cap, .int .i64 0]) ∧ Ints w' ao n cap c.nd) ∨ (decM s.toList = none ∧ e = .returned (.tuple #[zeroLoc, .int .i64 4]))) ∧ Below w.heap.size w w' := ⟨_, rfl⟩
  rw [← hP]
  have HP2 := Lib.hid hP
  clear hP
  obtain ⟨i0, hi, hz0, hz1x, hz2x⟩ := info_parts Try.info_int
  have Hi := Lib.hid hi
  clear hi
  have hwe := were_eq wa wb wc wd we
  go_enter Try.func10, Try.ntmps10
  go_wp2_with (first
    | (go_at_call 20; refine (Hnew.out _).mono ?_; rintro e w' ⟨rfl, rfl⟩)
    | (go_at_call 21; (with_reducible refine (K1.out _ ?_ ?_ ?_ ?_).mono ?_); (exact ⟨by rw [Hl0.out, ofL_self]; go_simp, by go_simp⟩); (go_simp); (go_simp); (go_simp); rintro e w' ⟨rfl, w1, hT, rfl⟩; have hz1 := hT.gb.size; simp only [World.size_alloc, World.size_setCell] at hz1; have HLL := Lib.hid hT.left; have HT1 := Lib.hid hT; have hbel1 : Below w.heap.size w w1 := Below.grown (by go_grown) hT.gb (by go_size) (fun k e => by cases e; omega); obtain ⟨ca1, fa1⟩ := keep_took hT w.heap.size (by go_size) (by omega); obtain ⟨cb1, fb1⟩ := keep_took hT (w.heap.size + 1 + 1) (by go_size) (by omega); obtain ⟨cc1, fc1⟩ := keep_took hT (w.heap.size + 1 + 1 + 1) (by go_size) (by omega); have za1 : w.heap.size < w1.heap.size := (by omega); have ze1 : w.heap.size + 1 < w1.heap.size := (by omega); have zb1 : w.heap.size + 1 + 1 < w1.heap.size := (by omega); have zc1 : w.heap.size + 1 + 1 + 1 < w1.heap.size := (by omega); clear hT)
    | (go_at_call 23; go_loud (with_reducible refine (K2.out _ ?_).mono ?_); (repeat (first | exact HLL.out | refine left_set ?_ (by simp only; omega) | refine left_alloc ?_ _)); rintro e w2 ⟨rfl, hT⟩; have hz2 := hT.gb.size; simp only [World.size_alloc, World.size_setCell] at hz2; clear HLL; have HLL := Lib.hid hT.left; have HT2 := Lib.hid hT; have hbel2 : Below w.heap.size w w2 := Below.grown (by go_grown) hT.gb (by go_size) (fun k e => by cases e; omega); obtain ⟨ca2, fa2⟩ := keep_took hT w.heap.size (by go_size) (by omega); obtain ⟨cb2, fb2⟩ := keep_took hT (w.heap.size + 1 + 1) (by go_size) (by omega); obtain ⟨cc2, fc2⟩ := keep_took hT (w.heap.size + 1 + 1 + 1) (by go_size) (by omega); have za2 : w.heap.size < w2.heap.size := (by omega); have ze2 : w.heap.size + 1 < w2.heap.size := (by omega); have zb2 : w.heap.size + 1 + 1 < w2.heap.size := (by omega); have zc2 : w.heap.size + 1 + 1 + 1 < w2.heap.size := (by omega); have zd2 : w1.heap.size < w2.heap.size := (by omega); obtain ⟨cd2, fd2⟩ := keep_took hT w1.heap.size (by go_size) (by omega); clear hT)
    | (go_at_call 23; (with_reducible refine (K3.out _ ?_).mono ?_); (repeat (first | exact HLL.out | refine left_set ?_ (by simp only; omega) | refine left_alloc ?_ _)); rintro e w3 ⟨rfl, hT⟩; have hz3 := hT.gb.size; simp only [World.size_alloc, World.size_setCell] at hz3; clear HLL; have HLL := Lib.hid hT.left; have HT3 := Lib.hid hT; have hbel3 : Below w.heap.size w w3 := Below.grown (by go_grown) hT.gb (by go_size) (fun k e => by cases e; omega); obtain ⟨ca3, fa3⟩ := keep_took hT w.heap.size (by go_size) (by omega); obtain ⟨cb3, fb3⟩ := keep_took hT (w.heap.size + 1 + 1) (by go_size) (by omega); obtain ⟨cc3, fc3⟩ := keep_took hT (w.heap.size + 1 + 1 + 1) (by go_size) (by omega); have za3 : w.heap.size < w3.heap.size := (by omega); have ze3 : w.heap.size + 1 < w3.heap.size := (by omega); have zb3 : w.heap.size + 1 + 1 < w3.heap.size := (by omega); have zc3 : w.heap.size + 1 + 1 + 1 < w3.heap.size := (by omega); have zd3 : w1.heap.size < w3.heap.size := (by omega); obtain ⟨cd3, fd3⟩ := keep_took hT w1.heap.size (by go_size) (by omega); clear hT)
    | (go_at_call 21; (with_reducible refine (K4.out _ ?_ ?_ ?_ ?_).mono ?_); (repeat (first | exact HLL.out | refine left_set ?_ (by simp only; omega) | refine left_alloc ?_ _)); (go_simp); (go_simp); (go_simp); rintro e w' ⟨rfl, w4, hT, rfl⟩; have hz4 := hT.gb.size; simp only [World.size_alloc, World.size_setCell] at hz4; clear HLL; have HLL := Lib.hid hT.left; have HT4 := Lib.hid hT; have hbel4 : Below w.heap.size w w4 := Below.grown (by go_grown) hT.gb (by go_size) (fun k e => by cases e; omega); obtain ⟨ca4, fa4⟩ := keep_took hT w.heap.size (by go_size) (by omega); obtain ⟨cb4, fb4⟩ := keep_took hT (w.heap.size + 1 + 1) (by go_size) (by omega); obtain ⟨cc4, fc4⟩ := keep_took hT (w.heap.size + 1 + 1 + 1) (by go_size) (by omega); have za4 : w.heap.size < w4.heap.size := (by omega); have ze4 : w.heap.size + 1 < w4.heap.size := (by omega); have zb4 : w.heap.size + 1 + 1 < w4.heap.size := (by omega); have zc4 : w.heap.size + 1 + 1 + 1 < w4.heap.size := (by omega); have zd4 : w1.heap.size < w4.heap.size := (by omega); obtain ⟨cd4, fd4⟩ := keep_took hT w1.heap.size (by go_size) (by omega); clear hT)
    | (go_at_call 21; (with_reducible refine (K5.out _ ?_ ?_ ?_ ?_).mono ?_); (repeat (first | exact HLL.out | refine left_set ?_ (by simp only; omega) | refine left_alloc ?_ _)); (go_simp); (go_simp); (go_simp); rintro e w' ⟨rfl, w5, hT, rfl⟩; have hz5 := hT.gb.size; simp only [World.size_alloc, World.size_setCell] at hz5; clear HLL; have HLL := Lib.hid hT.left; have HT5 := Lib.hid hT; have hbel5 : Below w.heap.size w w5 := Below.grown (by go_grown) hT.gb (by go_size) (fun k e => by cases e; omega); obtain ⟨ca5, fa5⟩ := keep_took hT w.heap.size (by go_size) (by omega); obtain ⟨cb5, fb5⟩ := keep_took hT (w.heap.size + 1 + 1) (by go_size) (by omega); obtain ⟨cc5, fc5⟩ := keep_took hT (w.heap.size + 1 + 1 + 1) (by go_size) (by omega); have za5 : w.heap.size < w5.heap.size := (by omega); have ze5 : w.heap.size + 1 < w5.heap.size := (by omega); have zb5 : w.heap.size + 1 + 1 < w5.heap.size := (by omega); have zc5 : w.heap.size + 1 + 1 + 1 < w5.heap.size := (by omega); have zd5 : w1.heap.size < w5.heap.size := (by omega); obtain ⟨cd5, fd5⟩ := keep_took hT w1.heap.size (by go_size) (by omega); clear hT))
  have n50 : l5.length ≤ 1000 := by omega
  go_loopw [39] (fun i wr => ∃ (k : Nat) (acc : List Int) (rest : List UInt8) (v : Value), k ≤ nn ∧ i = .int .u64 k ∧ Hid (MRel w (w5.setCell ⟨w.heap.size + 1 + 1 + 1, 4, none⟩ (.bool we)) w1.heap.size nn l5 k acc rest v wr)) (fun i _ => nn - (intOf i).toNat)
  case atStart => exact ⟨0, [], l5, .slice none 0 0, by omega, rfl, Lib.hid ⟨by simp, rfl, n50, left_set HLL.out (by simp only; omega), Row.nil _ _ _ _, by go_simp, fun _ _ => rfl, fun _ _ => rfl, fun _ => rfl, Nat.le_refl _, by go_grown⟩⟩
  case round =>
    obtain ⟨k, acc, rest, v, hk, rfl, hD⟩ := hrel
    have hzw := hD.out.size
    simp only [World.size_setCell] at hzw
    have hkb := fun b o hb => World.cell?_of_block (w := w5.setCell ⟨w.heap.size + 1 + 1 + 1, 4, none⟩ (.bool we)) (w' := wr) (a := ⟨b, o, none⟩) (hD.out.keep b hb)
    have hkf := fun b o hb => World.frozen?_of_block (w := w5.setCell ⟨w.heap.size + 1 + 1 + 1, 4, none⟩ (.bool we)) (w' := wr) (a := ⟨b, o, none⟩) (hD.out.keep b hb)
    have kb1 := fun o => hkb w.heap.size o (.inl rfl)
    have kb2 := fun o => hkb (w.heap.size + 1 + 1) o (.inr (.inl rfl))
    have kb3 := fun o => hkb (w.heap.size + 1 + 1 + 1) o (.inr (.inr rfl))
    have kf1 := fun o => hkf w.heap.size o (.inl rfl)
    have kl0 := hD.out.lo 0 (by decide)
    have kl1 := hD.out.lo 1 (by decide)
    have kl2 := hD.out.lo 2 (by decide)
    have kl3 := hD.out.lo 3 (by decide)
    have kl4 := hD.out.nodes
    have klf := hD.out.fro
    have hbr := hD.out.bel
    have zra : w.heap.size < wr.heap.size := by omega
    have zre : w.heap.size + 1 < wr.heap.size := by omega
    have zrb : w.heap.size + 1 + 1 < wr.heap.size := by omega
    have zrc : w.heap.size + 1 + 1 + 1 < wr.heap.size := by omega
    have zrd : w1.heap.size < wr.heap.size := by omega
    clear hkb hkf
    have Hbad : Hid (decM s.toList = none → ∀ w', Below w.heap.size w w' → P (.returned (.tuple #[zeroLoc, .int .i64 4])) w') := Lib.hid fun h w' hb => by rw [HP2.out]; exact ⟨.inr ⟨h, rfl⟩, hb⟩
    by_cases hlt : k < nn
    · have hrl := hD.out.le
      have K6 := Lib.hid fun W h => num_r (w.heap.size + 1) rest W (by unfold maxLen; omega) h
      have n6 := numR_rest' rest
      obtain ⟨⟨v6, is6, r6⟩, h6⟩ : ∃ x, x = numR rest := ⟨_, rfl⟩
      rw [← h6] at K6 n6
      simp only at K6 n6
      have hstep : nodesR (nn - k) rest = if is6 = true ∧ v6 < 5 then (nodesR (nn - (k + 1)) r6).map fun r => ((v6 : Int) :: r.1, r.2) else none := by
        obtain ⟨m, hm⟩ : ∃ m, nn - k = m + 1 := ⟨nn - k - 1, by omega⟩
        rw [hm, nodesR, ← h6, show nn - (k + 1) = m by omega]
      have Hno : Hid (¬ (is6 = true ∧ v6 < 5) → decM s.toList = none) := Lib.hid fun hn => by
        have h1 := hD.out.all
        rw [hstep, if_neg hn, Option.map_none] at h1
        unfold decM
        rw [HP.out]
        simp only [h1]
      have Hst := Lib.hid hstep
      clear h6 hstep
      cases is6
      · have Hend := Lib.hid (Hbad.out (Hno.out (by simp)))
        go_wp2_with (first
          | (go_at_call 22; refine (K6.out _ hD.out.left).mono ?_; rintro e w6 ⟨rfl, hT⟩; have hz6 := hT.gb.size; have hbel6 : Below w.heap.size w w6 := Below.grown hbr hT.gb (by omega) (fun k e => by cases e; omega); obtain ⟨ca6, fa6⟩ := keep_took hT w.heap.size (by omega) (by omega); clear hT))
        have r0 : w6.cell? ⟨w.heap.size, 0, none⟩ = some (.int .i64 0) := by rw [ca6, kb1]; go_simp
        have r1 : w6.cell? ⟨w.heap.size, 1, none⟩ = some (.string ⟨#[]⟩) := by rw [ca6, kb1]; go_simp
        have r2 : w6.cell? ⟨w.heap.size, 2, none⟩ = some (.string ⟨#[]⟩) := by rw [ca6, kb1]; go_simp
        have r3 : w6.cell? ⟨w.heap.size, 3, none⟩ = some (.int .u64 0) := by rw [ca6, kb1]; go_simp
        have r4 : w6.cell? ⟨w.heap.size, 4, none⟩ = some (.slice none 0 0) := by rw [ca6, kb1]; go_simp
        clear ca6 kb1 kb2 kb3 kl0 kl1 kl2 kl3 kl4
        refine bodyPost_ret (v := .tuple #[zeroLoc, .int .i64 4]) (by simp [results, Try.results10, go_sem, zeroLoc, *]) rfl (Hend.out _ (by go_grown))
      · by_cases hv5 : v6 < 5
        · have hall : Hid (nodesR nn l5 = (nodesR (nn - (k + 1)) r6).map fun r => ((acc ++ [(v6 : Int)]) ++ r.1, r.2)) := Lib.hid (by
            rw [hD.out.all, Hst.out, if_pos ⟨rfl, hv5⟩, Option.map_map]
            congr 1; funext r; simp)
          have hd5 : decide (5 ≤ v6) = false := by simp; omega
          go_wp2_with (first
            | (go_at_call 22; refine (K6.out _ hD.out.left).mono ?_; rintro e w6 ⟨rfl, hT⟩; have hz6 := hT.gb.size; have hbel6 : Below w.heap.size w w6 := Below.grown hbr hT.gb (by omega) (fun k e => by cases e; omega); obtain ⟨cd6, fd6⟩ := keep_took hT w1.heap.size (by omega) (by omega); have HT6 := Lib.hid hT; have HRow6 := Lib.hid (row_took hD.out.row hT (by omega)); have zd6 : w1.heap.size < w6.heap.size := (by omega); clear hT)
            | (at_builtin; refine wpList_append_arr _ rfl _ _ 25 rfl (w1.heap.size + 1) 3 i0 _ 1 8 Try.underlying25 Hi.out hz0 hz1x hz2x rfl (by decide) v _ _ rfl (Row.alloc HRow6.out _) rfl (ints_new w6 _ (v6 : Int)) (by omega) (by unfold maxLen; omega) (by rw [World.size_alloc]; omega) ?_; intro v7 w7 hr7 hb7 hg7; obtain ⟨g7, c7, rfl⟩ := row_pos hr7 (Nat.succ_pos _); have HR7 := Lib.hid hr7; have HB7 := Lib.hid hb7; have hk7 := fun o => hb7.cell (p := ⟨w1.heap.size, o, none⟩) (Nat.lt_succ_self _); have hkf7 := fun o => hb7.frozen (p := ⟨w1.heap.size, o, none⟩) (Nat.lt_succ_self _); have hz7 := hb7.size; rw [World.size_alloc] at hz7; clear hr7 hb7 hg7))
          have hcell4 : w7.cell? ⟨w1.heap.size, 4, none⟩ = some v := by rw [hk7]; go_simp
          exact ⟨⟨k + 1, acc ++ [(v6 : Int)], r6, _, by omega, by go_num, Lib.hid (mrel_next hD.out (by omega) zrd HT6.out HB7.out HR7.out hall.out (by omega) hcell4)⟩, by simp [intOf]; omega⟩
        · have Hend := Lib.hid (Hbad.out (Hno.out (fun h => hv5 h.2)))
          have hd5 : decide (5 ≤ v6) = true := by simp; omega
          go_wp2_with (first
            | (go_at_call 22; refine (K6.out _ hD.out.left).mono ?_; rintro e w6 ⟨rfl, hT⟩; have hz6 := hT.gb.size; have hbel6 : Below w.heap.size w w6 := Below.grown hbr hT.gb (by omega) (fun k e => by cases e; omega); obtain ⟨ca6, fa6⟩ := keep_took hT w.heap.size (by omega) (by omega); clear hT))
          have r0 : w6.cell? ⟨w.heap.size, 0, none⟩ = some (.int .i64 0) := by rw [ca6, kb1]; go_simp
          have r1 : w6.cell? ⟨w.heap.size, 1, none⟩ = some (.string ⟨#[]⟩) := by rw [ca6, kb1]; go_simp
          have r2 : w6.cell? ⟨w.heap.size, 2, none⟩ = some (.string ⟨#[]⟩) := by rw [ca6, kb1]; go_simp
          have r3 : w6.cell? ⟨w.heap.size, 3, none⟩ = some (.int .u64 0) := by rw [ca6, kb1]; go_simp
          have r4 : w6.cell? ⟨w.heap.size, 4, none⟩ = some (.slice none 0 0) := by rw [ca6, kb1]; go_simp
          clear ca6 kb1 kb2 kb3 kl0 kl1 kl2 kl3 kl4
          refine bodyPost_ret (v := .tuple #[zeroLoc, .int .i64 4]) (by simp [results, Try.results10, go_sem, zeroLoc, *]) rfl (Hend.out _ (by go_grown))
    · obtain rfl : k = nn := by omega
      have hall := hD.out.all
      rw [Nat.sub_self, nodesR, Option.map_some, List.append_nil] at hall
      have HdM : Hid (decM s.toList = if (wa && wb && wc && wd && we && rest.isEmpty && okL ⟨g0, sb, sc, ep, acc⟩) = true then some ⟨g0, sb, sc, ep, acc⟩ else none) := Lib.hid (by
        unfold decM
        rw [HP.out]
        simp only [hall, ← Hsb.out, ← Hsc.out])
      have hlen := hD.out.len
      have hHLf := Lib.hid fun W (h : Left W (w.heap.size + 1) rest) => left_any (ofL rest) (w.heap.size + 1) W h.cell
      obtain ⟨sz, hsz⟩ : ∃ z, z = (ofL rest).size := ⟨_, rfl⟩
      have Hsz : Hid (sz = rest.length) := Lib.hid (by rw [hsz, ofL_size])
      rw [← hsz] at hHLf
      have hrow := hD.out.row
      obtain ⟨ao, cap, rfl, _⟩ := Row.arr (es := acc.map intE) (by decide) (by rw [List.length_map, hlen]; exact hrow) (intE_elems acc)
      rw [List.length_map, hlen] at hrow kl4
      have Hrow := Lib.hid hrow
      have hints := Lib.hid (ints_of_row hrow hlen)
      have hok : Hid (LocA.Ok ⟨g0, sb, sc, ep, acc⟩) := Lib.hid ⟨by simp only; unfold maxLen; omega, by simp only; unfold maxLen; omega, by simp, by simp only; omega⟩
      have K7 := Lib.hid fun W (h : Ints W ao k cap acc) => metacheck_any ⟨g0, sb, sc, ep, acc⟩ ao k cap W hok.out h
      have Hlen := Lib.hid hlen
      have hszb : sz ≤ 1000 := by have := Hsz.out; have := hD.out.le; omega
      clear hall hsz hrow hlen
      cases wa
      · have Hend := Lib.hid (Hbad.out (by rw [HdM.out]; simp))
        go_wp2_with fail
        have r0 : wr.cell? ⟨w.heap.size, 0, none⟩ = some (.int .i64 0) := by rw [kb1]; go_simp
        have r1 : wr.cell? ⟨w.heap.size, 1, none⟩ = some (.string ⟨#[]⟩) := by rw [kb1]; go_simp
        have r2 : wr.cell? ⟨w.heap.size, 2, none⟩ = some (.string ⟨#[]⟩) := by rw [kb1]; go_simp
        have r3 : wr.cell? ⟨w.heap.size, 3, none⟩ = some (.int .u64 0) := by rw [kb1]; go_simp
        have r4 : wr.cell? ⟨w.heap.size, 4, none⟩ = some (.slice none 0 0) := by rw [kb1]; go_simp
        clear kb1 kb2 kb3 kl0 kl1 kl2 kl3 kl4
        refine bodyPost_ret (v := .tuple #[zeroLoc, .int .i64 4]) (by simp [results, Try.results10, go_sem, zeroLoc, *]) rfl (Hend.out _ (by go_grown))
      · cases wb
        · have Hend := Lib.hid (Hbad.out (by rw [HdM.out]; simp))
          go_wp2_with fail
          have r0 : wr.cell? ⟨w.heap.size, 0, none⟩ = some (.int .i64 0) := by rw [kb1]; go_simp
          have r1 : wr.cell? ⟨w.heap.size, 1, none⟩ = some (.string ⟨#[]⟩) := by rw [kb1]; go_simp
          have r2 : wr.cell? ⟨w.heap.size, 2, none⟩ = some (.string ⟨#[]⟩) := by rw [kb1]; go_simp
          have r3 : wr.cell? ⟨w.heap.size, 3, none⟩ = some (.int .u64 0) := by rw [kb1]; go_simp
          have r4 : wr.cell? ⟨w.heap.size, 4, none⟩ = some (.slice none 0 0) := by rw [kb1]; go_simp
          clear kb1 kb2 kb3 kl0 kl1 kl2 kl3 kl4
          refine bodyPost_ret (v := .tuple #[zeroLoc, .int .i64 4]) (by simp [results, Try.results10, go_sem, zeroLoc, *]) rfl (Hend.out _ (by go_grown))
        · cases wc
          · have Hend := Lib.hid (Hbad.out (by rw [HdM.out]; simp))
            go_wp2_with fail
            have r0 : wr.cell? ⟨w.heap.size, 0, none⟩ = some (.int .i64 0) := by rw [kb1]; go_simp
            have r1 : wr.cell? ⟨w.heap.size, 1, none⟩ = some (.string ⟨#[]⟩) := by rw [kb1]; go_simp
            have r2 : wr.cell? ⟨w.heap.size, 2, none⟩ = some (.string ⟨#[]⟩) := by rw [kb1]; go_simp
            have r3 : wr.cell? ⟨w.heap.size, 3, none⟩ = some (.int .u64 0) := by rw [kb1]; go_simp
            have r4 : wr.cell? ⟨w.heap.size, 4, none⟩ = some (.slice none 0 0) := by rw [kb1]; go_simp
            clear kb1 kb2 kb3 kl0 kl1 kl2 kl3 kl4
            refine bodyPost_ret (v := .tuple #[zeroLoc, .int .i64 4]) (by simp [results, Try.results10, go_sem, zeroLoc, *]) rfl (Hend.out _ (by go_grown))
          · cases wd
            · have Hend := Lib.hid (Hbad.out (by rw [HdM.out]; simp))
              go_wp2_with fail
              have r0 : wr.cell? ⟨w.heap.size, 0, none⟩ = some (.int .i64 0) := by rw [kb1]; go_simp
              have r1 : wr.cell? ⟨w.heap.size, 1, none⟩ = some (.string ⟨#[]⟩) := by rw [kb1]; go_simp
              have r2 : wr.cell? ⟨w.heap.size, 2, none⟩ = some (.string ⟨#[]⟩) := by rw [kb1]; go_simp
              have r3 : wr.cell? ⟨w.heap.size, 3, none⟩ = some (.int .u64 0) := by rw [kb1]; go_simp
              have r4 : wr.cell? ⟨w.heap.size, 4, none⟩ = some (.slice none 0 0) := by rw [kb1]; go_simp
              clear kb1 kb2 kb3 kl0 kl1 kl2 kl3 kl4
              refine bodyPost_ret (v := .tuple #[zeroLoc, .int .i64 4]) (by simp [results, Try.results10, go_sem, zeroLoc, *]) rfl (Hend.out _ (by go_grown))
            · cases we
              · have Hend := Lib.hid (Hbad.out (by rw [HdM.out]; simp))
                go_wp2_with fail
                have r0 : wr.cell? ⟨w.heap.size, 0, none⟩ = some (.int .i64 0) := by rw [kb1]; go_simp
                have r1 : wr.cell? ⟨w.heap.size, 1, none⟩ = some (.string ⟨#[]⟩) := by rw [kb1]; go_simp
                have r2 : wr.cell? ⟨w.heap.size, 2, none⟩ = some (.string ⟨#[]⟩) := by rw [kb1]; go_simp
                have r3 : wr.cell? ⟨w.heap.size, 3, none⟩ = some (.int .u64 0) := by rw [kb1]; go_simp
                have r4 : wr.cell? ⟨w.heap.size, 4, none⟩ = some (.slice none 0 0) := by rw [kb1]; go_simp
                clear kb1 kb2 kb3 kl0 kl1 kl2 kl3 kl4
                refine bodyPost_ret (v := .tuple #[zeroLoc, .int .i64 4]) (by simp [results, Try.results10, go_sem, zeroLoc, *]) rfl (Hend.out _ (by go_grown))
              · by_cases hz : sz = 0
                · subst hz
                  have hr0 : rest = [] := List.eq_nil_of_length_eq_zero Hsz.out.symm
                  have HdM2 : Hid (decM s.toList = if okL ⟨g0, sb, sc, ep, acc⟩ = true then some ⟨g0, sb, sc, ep, acc⟩ else none) := Lib.hid (by rw [HdM.out, hr0]; simp)
                  obtain ⟨ob, hob⟩ : ∃ b, b = okL ⟨g0, sb, sc, ep, acc⟩ := ⟨_, rfl⟩
                  rw [← hob] at HdM2
                  simp only [← hob, LocA.v] at K7
                  clear hob hr0
                  cases ob
                  · have Hend := Lib.hid (Hbad.out (by rw [HdM2.out]; rfl))
                    simp only [errM, Bool.false_eq_true, if_false] at K7
                    go_wp2_with (first
                      | (go_at_call 24; refine (hHLf.out _ hD.out.left).mono ?_; rintro e w' ⟨rfl, rfl⟩)
                      | (go_at_call 7; refine (K7.out _ hints.out).mono ?_; rintro e w9 ⟨rfl, hb⟩; obtain ⟨hB, hS, hk⟩ := after (B := wr.heap.size) (w := wr) (by go_grown) (by go_size) hb; clear hb; obtain ⟨c0, f0, z0⟩ := hk (w.heap.size) (by go_size); obtain ⟨c1, f1, z1⟩ := hk (w1.heap.size) (by go_size); clear hk))
                    have hb9 : Below w.heap.size w w9 := hbr.trans (hB.mono (by omega))
                    have r0 : w9.cell? ⟨w.heap.size, 0, none⟩ = some (.int .i64 0) := by rw [c0, kb1]; go_simp
                    have r1 : w9.cell? ⟨w.heap.size, 1, none⟩ = some (.string ⟨#[]⟩) := by rw [c0, kb1]; go_simp
                    have r2 : w9.cell? ⟨w.heap.size, 2, none⟩ = some (.string ⟨#[]⟩) := by rw [c0, kb1]; go_simp
                    have r3 : w9.cell? ⟨w.heap.size, 3, none⟩ = some (.int .u64 0) := by rw [c0, kb1]; go_simp
                    have r4 : w9.cell? ⟨w.heap.size, 4, none⟩ = some (.slice none 0 0) := by rw [c0, kb1]; go_simp
                    clear c0 c1 kb1 kb2 kb3 kl0 kl1 kl2 kl3 kl4
                    refine bodyPost_ret (v := .tuple #[zeroLoc, .int .i64 4]) (by simp [results, Try.results10, go_sem, zeroLoc, *]) rfl (Hend.out _ (by go_grown))
                  · have Hend : Hid (∀ w', Below w.heap.size w w' → Ints w' ao k cap acc → P (.returned (.tuple #[.agg #[.int .i64 (g0 : Int), .string sb, .string sc, .int .u64 (ep : Int), .slice ao k cap], .int .i64 0])) w') := Lib.hid fun w' hb hi => by
                      rw [HP2.out]
                      exact ⟨.inl ⟨⟨g0, sb, sc, ep, acc⟩, ao, k, cap, by rw [HdM2.out]; rfl, rfl, hi⟩, hb⟩
                    simp only [errM, if_true] at K7
                    go_wp2_with (first
                      | (go_at_call 24; refine (hHLf.out _ hD.out.left).mono ?_; rintro e w' ⟨rfl, rfl⟩)
                      | (go_at_call 7; refine (K7.out _ hints.out).mono ?_; rintro e w9 ⟨rfl, hb⟩; obtain ⟨hB, hS, hk⟩ := after (B := wr.heap.size) (w := wr) (by go_grown) (by go_size) hb; clear hb; obtain ⟨c0, f0, z0⟩ := hk (w.heap.size) (by go_size); obtain ⟨c1, f1, z1⟩ := hk (w1.heap.size) (by go_size); clear hk))
                    have hb9 : Below w.heap.size w w9 := hbr.trans (hB.mono (by omega))
                    have r0 : w9.cell? ⟨w.heap.size, 0, none⟩ = some (.int .i64 0) := by rw [c0, kb1]; go_simp
                    have r1 : w9.cell? ⟨w.heap.size, 1, none⟩ = some (.string ⟨#[]⟩) := by rw [c0, kb1]; go_simp
                    have r2 : w9.cell? ⟨w.heap.size, 2, none⟩ = some (.string ⟨#[]⟩) := by rw [c0, kb1]; go_simp
                    have r3 : w9.cell? ⟨w.heap.size, 3, none⟩ = some (.int .u64 0) := by rw [c0, kb1]; go_simp
                    have r4 : w9.cell? ⟨w.heap.size, 4, none⟩ = some (.slice none 0 0) := by rw [c0, kb1]; go_simp
                    clear c0 c1 kb1 kb2 kb3 kl0 kl1 kl2 kl3 kl4
                    refine bodyPost_ret (v := .tuple #[.agg #[.int .i64 (g0 : Int), .string sb, .string sc, .int .u64 (ep : Int), .slice ao k cap], .int .i64 0]) (by simp [results, Try.results10, go_sem, *]) rfl (Hend.out _ (by go_grown) ?_)
                    exact ints_of_row (row_set (row_set (row_set (row_set (row_set (Row.below Hrow.out hB) (by simp only; omega) _) (by simp only; omega) _) (by simp only; omega) _) (by simp only; omega) _) (by simp only; omega) _) Hlen.out
                · have Hend := Lib.hid (Hbad.out (by
                    rw [HdM.out]
                    have : rest.isEmpty = false := by cases rest with
                      | nil => exact absurd Hsz.out hz
                      | cons a b => rfl
                    rw [this]; simp))
                  have hz1 : ((sz : Int) != 0) = true := by simpa using hz
                  go_wp2_with (first
                    | (go_at_call 24; refine (hHLf.out _ hD.out.left).mono ?_; rintro e w' ⟨rfl, rfl⟩))
                  have r0 : wr.cell? ⟨w.heap.size, 0, none⟩ = some (.int .i64 0) := by rw [kb1]; go_simp
                  have r1 : wr.cell? ⟨w.heap.size, 1, none⟩ = some (.string ⟨#[]⟩) := by rw [kb1]; go_simp
                  have r2 : wr.cell? ⟨w.heap.size, 2, none⟩ = some (.string ⟨#[]⟩) := by rw [kb1]; go_simp
                  have r3 : wr.cell? ⟨w.heap.size, 3, none⟩ = some (.int .u64 0) := by rw [kb1]; go_simp
                  have r4 : wr.cell? ⟨w.heap.size, 4, none⟩ = some (.slice none 0 0) := by rw [kb1]; go_simp
                  clear kb1 kb2 kb3 kl0 kl1 kl2 kl3 kl4
                  refine bodyPost_ret (v := .tuple #[zeroLoc, .int .i64 4]) (by simp [results, Try.results10, go_sem, zeroLoc, *]) rfl (Hend.out _ (by go_grown))
end Go.Proofs.Ytelangbockagnaa
