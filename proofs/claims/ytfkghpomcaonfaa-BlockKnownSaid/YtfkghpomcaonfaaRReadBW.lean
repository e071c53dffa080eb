/-
  acreageref10.Read. Printed by mkrreadb.py.
-/
import Derived.Test.YtfkghpomcaonfaaReadBP
import Derived.Test.YtfkghpomcaonfaaRReadW
namespace Go.Proofs.Ytfkghpomcaonfaa
open Go.RowKit

set_option maxRecDepth 100000 in
set_option maxHeartbeats 4000000 in
theorem rreadb_any (s : ByteArray) (w : World) :
    Calls Try.prog 16 #[.string s] w fun e w' => ((∃ cs v, BlockOf s.toList cs ∧ e = .returned (.tuple #[v, .int .i64 0]) ∧ Own w' w.heap.size v cs) ∨ ((∀ cs, ¬ BlockOf s.toList cs) ∧ e = .returned (.tuple #[.slice none 0 0, .int .i64 4]))) ∧ Below w.heap.size w w' := by
  obtain ⟨i0, hi, hz0, hz1, hz2⟩ := info_parts Try.info_cell
  have Hi := Lib.hid hi
  clear hi
  obtain ⟨P, hP⟩ : ∃ P : Ending → World → Prop, P = fun e w' => ((∃ cs v, BlockOf s.toList cs ∧ e = .returned (.tuple #[v, .int .i64 0]) ∧ Own w' w.heap.size v cs) ∨ ((∀ cs, ¬ BlockOf s.toList cs) ∧ e = .returned (.tuple #[.slice none 0 0, .int .i64 4]))) ∧ Below w.heap.size w w' := ⟨_, rfl⟩
  rw [← hP]
  have Hno : Hid ((∀ cs, ¬ BlockOf s.toList cs) → ∀ w', Below w.heap.size w w' → P (.returned (.tuple #[.slice none 0 0, .int .i64 4])) w') := Lib.hid fun h w' hb => by rw [hP]; exact ⟨.inr ⟨h, rfl⟩, hb⟩
  have Hyes : Hid (∀ cs v w', BlockOf s.toList cs → Own w' w.heap.size v cs → Below w.heap.size w w' → P (.returned (.tuple #[v, .int .i64 0])) w') := Lib.hid fun cs v w' h ho hb => by rw [hP]; exact ⟨.inl ⟨cs, v, h, rfl, ho⟩, hb⟩
  clear hP
  by_cases h0 : s.size < 2 ∨ 32768 < s.size
  · have HN := Lib.hid (Hno.out (fun cs h => by have h3 := parts_block h; unfold partsL at h3; rw [size_list, if_pos h0] at h3; cases h3) w (Below.refl _ _))
    by_cases h1 : s.size < 2
    · skip
      clear h0
      go_enter Try.func16, Try.ntmps16
      go_wp2
      exact HN.out
    · skip
      have h2 : 32768 < s.size := by omega
      clear h0
      go_enter Try.func16, Try.ntmps16
      go_wp2
      exact HN.out
  · obtain ⟨x, y, i1, i2, he⟩ := parts_bytes s (by omega) (by omega)
    have hx := x.toNat_lt
    have hy := y.toNat_lt
    have hor := or_two x.toNat y.toNat hx hy
    obtain ⟨m, hm⟩ : ∃ m, m = x.toNat * 256 + y.toNat := ⟨_, rfl⟩
    have hwr := wrap_two m (by omega)
    have hmb : m < 65536 := by omega
    rw [← hm] at hor he
    have h1 : ¬ s.size < 2 := by omega
    have h2 : ¬ 32768 < s.size := by omega
    clear hm h0
    have HE := Lib.hid he
    clear he
    by_cases h3 : s.size < 2 * m + 2
    · have HN := Lib.hid (Hno.out (fun cs h => by have h4 := parts_block h; rw [HE.out, if_pos h3] at h4; cases h4))
      have h3i : (s.size : Int) < 2 * (m : Int) + 2 := by omega
      go_enter Try.func16, Try.ntmps16
      go_wp2_with fail
      refine wp_region_below (by kernel_rfl) (by kernel_rfl) (fun hkept => ?_)
      clear hkept
      repeat (any_goals (first | go_big_quiet_step (fail) | quiet_step (fail) | (refine wpQuiet_step (fun K hK => ?_); go_simp; split <;> (refine hK _ ?_; clear hK K))))
      all_goals (refine wpQuiet_nil ?_; intro w1 hb; obtain ⟨hB, hS, hk⟩ := after (B := w.heap.size) (w := w) (by go_grown) (by go_size) hb; clear hk hb)
      go_wp2
      exact HN.out _ hB
    · have hpl : partsL s.toList = some (s.toList.take (s.size - 2 - 2 * m), (s.toList.take (s.size - 2)).drop (s.size - 2 - 2 * m)) := by rw [HE.out, if_neg h3]
      have hble := (partsL_le hpl).1
      have HZ0 := Lib.hid (sofar_zero hpl)
      have h3i : 2 * (m : Int) + 2 ≤ (s.size : Int) := by omega
      obtain ⟨bd, hbd⟩ : ∃ bd, bd = s.toList.take (s.size - 2 - 2 * m) := ⟨_, rfl⟩
      rw [← hbd] at hble HZ0
      have Hble := Lib.hid hble
      have Hbd := Lib.hid hbd
      clear hpl hble hbd HE
      have hdd1 : decide ((s.size : Int) < 2) = false := by simp; omega
      have hdd2 : decide (32768 < (s.size : Int)) = false := by simp; omega
      have hdd3 : decide (s.size < 2) = false := by simp; omega
      have hdd4 : decide (32768 < s.size) = false := by simp; omega
      have hdd5 : decide ((s.size : Int) < 2 * (m : Int) + 2) = false := by simp; omega
      go_enter Try.func16, Try.ntmps16
      go_wp2_with fail
      refine wp_region_below (by kernel_rfl) (by kernel_rfl) (fun hkept => ?_)
      clear hkept
      repeat (any_goals (first | go_big_quiet_step (fail) | quiet_step (fail) | (refine wpQuiet_step (fun K hK => ?_); go_simp; split <;> (refine hK _ ?_; clear hK K))))
      all_goals (refine wpQuiet_nil ?_; intro w1 hb; obtain ⟨hB, hS, hk⟩ := after (B := w.heap.size) (w := w) (by go_grown) (by go_size) hb; clear hk hb)
      go_wp2_with fail
      refine (rnew_any _ _).mono ?_
      rintro e w2 ⟨rfl, rfl⟩
      have hsx : s.extract 0 (s.size - (2 * m + 2)) = ofL bd := toList_inj.1 (by rw [toList_extract, ofL_toList, Hbd.out, show s.size - (2 * m + 2) = s.size - 2 - 2 * m by omega]; simp)
      obtain ⟨b, hb⟩ : ∃ b, b = w1.heap.size := ⟨_, rfl⟩
      obtain ⟨w2, hw2⟩ : ∃ W : World, W = w1.alloc (.cells #[.string (s.extract 0 (s.size - (2 * m + 2)))] 90) := ⟨_, rfl⟩
      have HR0 : Hid (RRB w s.toList b [] bd (.slice none 0 0) w2) := Lib.hid ⟨HZ0.out, fun i c h => by simp at h, by have := Hble.out; simp; omega, ⟨by rw [hw2, hb, hsx]; go_simp, by rw [hw2, hb]; go_simp⟩, Row.nil _ _ _ _, by rw [hw2]; exact hB.alloc hB.size _, by rw [hb]; exact hB.size⟩
      rw [← hw2, ← hb]
      clear hw2 hb hsx Hble HZ0 Hbd hB hS hor hwr i1 i2
      go_wp2_with fail
      go_loopw [6, 7] (fun v a wr => ∃ (cs : List CellA) (rest : List UInt8) (ao : Option Addr) (cap : Nat), v = .slice ao cs.length cap ∧ a = .string (prevB cs cs.length) ∧ Hid (RRB w s.toList b cs rest (.slice ao cs.length cap) wr)) (fun _ _ wr => leftN wr b)
      case atStart => exact ⟨[], bd, none, 0, rfl, rfl, HR0⟩
      case round =>
        obtain ⟨cs, rest, ao, cap, rfl, rfl, hR⟩ := hrel
        obtain ⟨k, hk⟩ : ∃ k, k = cs.length := ⟨_, rfl⟩
        have Hk := Lib.hid hk
        obtain ⟨rw0, hrw⟩ : ∃ x, x = prevB cs cs.length := ⟨_, rfl⟩
        have Hrw := Lib.hid hrw
        rw [← hrw, ← hk]
        have hle := hR.out.le
        rw [← hk] at hle
        have hrp := rowsB_prev hR.out.rows
        rw [← hrw, ← hk] at hrp
        have Hbw := Lib.hid hR.out.hb
        have Hms := Lib.hid (leftN_eq hR.out.left)
        clear hk hrw
        by_cases hlt : 0 < rest.length
        · have Hnx := Lib.hid (sofar_next' hR.out.all (fun e => by rw [e] at hlt; simp at hlt))
          have Hrn := Lib.hid (rowsB_next (rest := rest) hR.out.rows)
          have Hpn := Lib.hid (prevB_snoc cs (cellB (aheadB cs cs.length).toList rest).x)
          rw [← Hk.out] at Hnx Hrn Hpn
          have haE : aheadB cs k = if k % 8 = 0 then ⟨#[]⟩ else rw0 := by rw [Hk.out, Hrw.out]; exact aheadB_if cs cs.length
          obtain ⟨aE, hae⟩ : ∃ x, x = aheadB cs k := ⟨_, rfl⟩
          rw [← hae] at haE Hnx Hrn Hpn hrp
          clear hae
          have nN := numR_rest rest
          have hless : (numR rest).2.1 = true → (numR rest).2.2.length < rest.length := numR_less
          obtain ⟨⟨vn, iN, rN⟩, hN⟩ : ∃ x, x = numR rest := ⟨_, rfl⟩
          rw [← hN] at nN hless
          simp only at nN hless
          have nR' := textR_rest 32 rN
          have mR' := textR_most 32 rN (by decide)
          obtain ⟨⟨tr, iR, rR⟩, hR'⟩ : ∃ x, x = textR 32 rN := ⟨_, rfl⟩
          rw [← hR'] at nR' mR'
          simp only at nR' mR'
          have nB' := textR_rest 16 rR
          have mB' := textR_most 16 rR (by decide)
          obtain ⟨⟨tb, iB, rB⟩, hB'⟩ : ∃ x, x = textR 16 rR := ⟨_, rfl⟩
          rw [← hB'] at nB' mB'
          simp only at nB' mB'
          have nC := numR_rest rB
          obtain ⟨⟨vc, iC, rC⟩, hC⟩ : ∃ x, x = numR rB := ⟨_, rfl⟩
          rw [← hC] at nC
          simp only at nC
          have nD := byteR_rest rC
          obtain ⟨⟨gd, iD, rD⟩, hD⟩ : ∃ x, x = byteR rC := ⟨_, rfl⟩
          rw [← hD] at nD
          simp only at nD
          have nE := textR_rest 65536 rD
          have mE := textR_most 65536 rD (by decide)
          obtain ⟨⟨te, iE, rE⟩, hE⟩ : ∃ x, x = textR 65536 rD := ⟨_, rfl⟩
          rw [← hE] at nE mE
          simp only at nE mE
          have K1 := Lib.hid fun W h => rnum_r b rest W (by unfold maxLen; omega) h
          have K2 := Lib.hid fun W h => rtext_r b 32 rN W (by decide) (by unfold maxLen; omega) h
          have K3 := Lib.hid fun W h => rtext_r b 16 rR W (by decide) (by unfold maxLen; omega) h
          have K4 := Lib.hid fun W h => rnum_r b rB W (by unfold maxLen; omega) h
          have K5 := Lib.hid fun W h => rbyte_r b rC W (by unfold maxLen; omega) h
          have K6 := Lib.hid fun W h => rtext_r b 65536 rD W (by decide) (by unfold maxLen; omega) h
          have HCR : Hid (cellB aE.toList rest = ⟨⟨ofL (aE.toList.take vn ++ tr), ofL tb, vc, decide (gd.toNat = 1), ofL te⟩, iN && iR && iB && iC && iD && iE && decide (vn ≤ aE.toList.length) && decide (gd.toNat ≤ 1), rE⟩) := Lib.hid (by unfold cellB; simp only [← hN, ← hR', ← hB', ← hC, ← hD, ← hE])
          rw [← hN] at K1
          rw [← hR'] at K2
          rw [← hB'] at K3
          rw [← hC] at K4
          rw [← hD] at K5
          rw [← hE] at K6
          simp only at K1 K2 K3 K4 K5 K6
          clear hN hR' hB' hC hD hE
          obtain ⟨sr, hsr⟩ : ∃ s, s = ofL tr := ⟨_, rfl⟩
          obtain ⟨sb, hsb⟩ : ∃ s, s = ofL tb := ⟨_, rfl⟩
          obtain ⟨se, hse⟩ : ∃ s, s = ofL te := ⟨_, rfl⟩
          obtain ⟨dn, hdn⟩ : ∃ d, d = gd.toNat := ⟨_, rfl⟩
          have hrow : vn ≤ aE.size → aE.extract 0 vn ++ sr = ofL (aE.toList.take vn ++ tr) := fun _ => by rw [append_ofL, toList_extract, hsr, ofL_toList]; simp
          have Hrow := Lib.hid hrow
          have hzr : sr.size ≤ 100000 := by rw [hsr, ofL_size]; omega
          rw [← hsb, ← hse, ← hdn, size_list] at HCR
          rw [← hsr] at K2
          rw [← hsb] at K3
          rw [← hdn] at K5
          rw [← hse] at K6
          have hdl : dn < 256 := by rw [hdn]; exact gd.toNat_lt
          have haz : aE.size ≤ 1048576 := by omega
          have Hless : Hid (iN = true → rE.length < rest.length) := Lib.hid fun h => by have := hless h; omega
          rw [HCR.out] at Hnx Hrn Hpn
          simp only at Hnx Hrn Hpn
          have HAz := Lib.hid haz
          have HRz := Lib.hid hzr
          have HDl := Lib.hid hdl
          have Hle := Lib.hid hle
          clear hsr hsb hse hdn hrow nN nR' nB' nC nD nE mR' mB' mE hless HCR hrp
          have HL := Lib.hid hR.out.left
          have HO := Lib.hid hR.out.own
          have HB := Lib.hid hR.out.bel
          have hs0 := hR.out.bel.size
          have hbl := hR.out.left.lt
          have KL := Lib.hid (rleft_any rest b wr hR.out.left)
          have HG : Hid (wr.grownBy wr (some b)) := Lib.hid gb_row
          obtain ⟨lr, hlr⟩ : ∃ n, n = rest.length := ⟨_, rfl⟩
          have Hlr := Lib.hid hlr
          rw [← hlr] at KL hlt
          have hlti : (0 : Int) < (lr : Int) := by omega
          have hltd : decide ((0 : Int) < (lr : Int)) = true := by simp; omega
          clear hlr hle hdl haz hzr
          by_cases h8 : k % 8 = 0
          · rw [if_pos h8] at haE
            have h8i : ((k : Int) % 8) = 0 := by omega
            go_wp2_with (go_at_call 37; refine KL.out.mono ?_; rintro e w3 ⟨rfl, rfl⟩)
            rw [← haE]; clear haE
            clear hlt hlti hltd h8 h8i KL
            refine (K1.out _ HL.out).mono ?_
            rintro e w3 ⟨rfl, hT⟩
            have HL' := Lib.hid hT.left
            have HG' := Lib.hid (gb_trans HG.out hT.gb)
            clear hT HL HG
            have HL := HL'
            have HG := HG'
            clear HL' HG'
            go_wp2_with fail
            refine (K2.out _ HL.out).mono ?_
            rintro e w4 ⟨rfl, hT⟩
            have HL' := Lib.hid hT.left
            have HG' := Lib.hid (gb_trans HG.out hT.gb)
            clear hT HL HG
            have HL := HL'
            have HG := HG'
            clear HL' HG'
            go_wp2_with fail
            refine (K3.out _ HL.out).mono ?_
            rintro e w5 ⟨rfl, hT⟩
            have HL' := Lib.hid hT.left
            have HG' := Lib.hid (gb_trans HG.out hT.gb)
            clear hT HL HG
            have HL := HL'
            have HG := HG'
            clear HL' HG'
            go_wp2_with fail
            refine (K4.out _ HL.out).mono ?_
            rintro e w6 ⟨rfl, hT⟩
            have HL' := Lib.hid hT.left
            have HG' := Lib.hid (gb_trans HG.out hT.gb)
            clear hT HL HG
            have HL := HL'
            have HG := HG'
            clear HL' HG'
            go_wp2_with fail
            refine (K5.out _ HL.out).mono ?_
            rintro e w7 ⟨rfl, hT⟩
            have HL' := Lib.hid hT.left
            have HG' := Lib.hid (gb_trans HG.out hT.gb)
            clear hT HL HG
            have HL := HL'
            have HG := HG'
            clear HL' HG'
            go_wp2_with fail
            refine (K6.out _ HL.out).mono ?_
            rintro e w8 ⟨rfl, hT⟩
            have HL' := Lib.hid hT.left
            have HG' := Lib.hid (gb_trans HG.out hT.gb)
            clear hT HL HG
            have HL := HL'
            have HG := HG'
            clear HL' HG'
            have haz := HAz.out
            have hdl := HDl.out
            have HB6 := Lib.hid (HB.out.grown HG.out hs0 (fun k e => by cases e; exact Hbw.out))
            have HO6 := Lib.hid (HO.out.took (Nat.lt_succ_self b) HG.out)
            have hs6 := HB6.out.size
            have hb6 := HL.out.lt
            clear HG HB HO
            cases iN
            · skip
              have HN := Lib.hid (Hno.out fun ds hd => by have := Hnx.out.1 ds hd; simp at this)
              go_wp2
              exact HN.out _ HB6.out
            · skip
              cases iR
              · skip
                have HN := Lib.hid (Hno.out fun ds hd => by have := Hnx.out.1 ds hd; simp at this)
                go_wp2
                exact HN.out _ HB6.out
              · skip
                cases iB
                · skip
                  have HN := Lib.hid (Hno.out fun ds hd => by have := Hnx.out.1 ds hd; simp at this)
                  go_wp2
                  exact HN.out _ HB6.out
                · skip
                  cases iC
                  · skip
                    have HN := Lib.hid (Hno.out fun ds hd => by have := Hnx.out.1 ds hd; simp at this)
                    go_wp2
                    exact HN.out _ HB6.out
                  · skip
                    cases iD
                    · skip
                      have HN := Lib.hid (Hno.out fun ds hd => by have := Hnx.out.1 ds hd; simp at this)
                      go_wp2
                      exact HN.out _ HB6.out
                    · skip
                      cases iE
                      · skip
                        have HN := Lib.hid (Hno.out fun ds hd => by have := Hnx.out.1 ds hd; simp at this)
                        go_wp2
                        exact HN.out _ HB6.out
                      · skip
                        by_cases hn : vn ≤ aE.size
                        · by_cases hg : dn ≤ 1
                          · have hni : (vn : Int) ≤ (aE.size : Int) := by omega
                            have hrz := HRz.out
                            have hgi : ¬ (1 : Int) < (dn : Int) := by omega
                            have hvl : vn < 2 ^ 63 := by omega
                            obtain ⟨d1, hd1⟩ : ∃ d, d = decide (dn = 1) := ⟨_, rfl⟩
                            rw [← hd1, ← Hrow.out hn] at Hnx Hrn Hpn
                            have hd1' : decide ((dn : Int) = 1) = d1 := by rw [hd1]; apply decide_eq_decide.2; omega
                            have hd1b : ((dn : Int) == 1) = d1 := by rw [← hd1']; first | rfl | exact beq_eq_decide | simp
                            clear hd1
                            have HRow : Hid (Row w8 (b + 1) 35 5 (.slice ao k cap) k (cs.map cellE).flatten) := Lib.hid (by have h := HO6.out; unfold Own at h; rw [← Hk.out] at h; exact h)
                            have hkb : Hid ((k + 1) * 64 ≤ 140737488355328) := Lib.hid (by have := Hle.out; omega)
                            go_wp2_with (at_builtin; go_loud (refine wpList_append_arr _ rfl _ _ 22 rfl (b + 1) 35 i0 _ 5 64 Try.underlying22 Hi.out hz0 hz1 hz2 rfl (by decide) (.slice ao k cap) k _ rfl (Row.alloc (Row.alloc HRow.out _) _) rfl (cells_new _ _ [⟨aE.extract 0 vn ++ sr, sb, vc, d1, se⟩] _ 1 _ rfl rfl (by decide) (World.size_alloc _ _).symm) hkb.out (by have := hkb.out; unfold maxLen; omega) (by rw [World.size_alloc, World.size_alloc]; omega) ?_; intro v1 w9 hr7 hb7 hg7; have c9 : w9.cell? ⟨w8.heap.size, 0, none⟩ = some (.string (aE.extract 0 vn ++ sr)) := (World.cell?_of_block (a := ⟨w8.heap.size, 0, none⟩) (hg7.block w8.heap.size (by rw [World.size_alloc, World.size_alloc]; omega) (fun e => by have := (Row.lt HRow.out _ e.symm).2; omega))).trans (by go_simp); have HR7 := Lib.hid (own_snocB Hk.out hr7); have HB7 := Lib.hid hb7; clear hr7 hb7 hg7))
                            obtain ⟨ao1, cap1, e1, hC1⟩ := HR7.out.cells
                            have HW7 := Lib.hid ((((Below.refl (b + 1) w8).alloc (by omega) _).alloc (by rw [World.size_alloc]; omega) _).trans HB7.out)
                            have HL7 := Lib.hid (HL.out.same (HW7.out.block b (by omega)))
                            have HE7 := Lib.hid (HB6.out.trans (HW7.out.mono (by have := Hbw.out; omega)))
                            refine ⟨⟨cs ++ [⟨aE.extract 0 vn ++ sr, sb, vc, d1, se⟩], rE, ao1, cap1, e1, by rw [Hpn.out], Lib.hid ⟨Hnx.out.2, Hrn.out, by have h1 := Hle.out; have h2 := Hless.out (by first | trivial | rfl); rw [List.length_append, ← Hk.out, List.length_singleton]; omega, HL7.out, by rw [← e1]; exact HR7.out, HE7.out, Hbw.out⟩⟩, by rw [Hms.out, leftN_eq HL7.out]; exact Hless.out (by first | trivial | rfl)⟩
                          · skip
                            have HN := Lib.hid (Hno.out fun ds hd => by have := Hnx.out.1 ds hd; simp [hn, hg] at this)
                            go_wp2
                            exact HN.out _ HB6.out
                        · skip
                          have HN := Lib.hid (Hno.out fun ds hd => by have := Hnx.out.1 ds hd; simp [hn] at this)
                          go_wp2
                          exact HN.out _ HB6.out
          · rw [if_neg h8] at haE
            subst haE
            have h8i : ¬ ((k : Int) % 8) = 0 := by omega
            go_wp2_with (go_at_call 37; refine KL.out.mono ?_; rintro e w3 ⟨rfl, rfl⟩)
            clear hlt hlti hltd h8 h8i KL
            refine (K1.out _ HL.out).mono ?_
            rintro e w3 ⟨rfl, hT⟩
            have HL' := Lib.hid hT.left
            have HG' := Lib.hid (gb_trans HG.out hT.gb)
            clear hT HL HG
            have HL := HL'
            have HG := HG'
            clear HL' HG'
            go_wp2_with fail
            refine (K2.out _ HL.out).mono ?_
            rintro e w4 ⟨rfl, hT⟩
            have HL' := Lib.hid hT.left
            have HG' := Lib.hid (gb_trans HG.out hT.gb)
            clear hT HL HG
            have HL := HL'
            have HG := HG'
            clear HL' HG'
            go_wp2_with fail
            refine (K3.out _ HL.out).mono ?_
            rintro e w5 ⟨rfl, hT⟩
            have HL' := Lib.hid hT.left
            have HG' := Lib.hid (gb_trans HG.out hT.gb)
            clear hT HL HG
            have HL := HL'
            have HG := HG'
            clear HL' HG'
            go_wp2_with fail
            refine (K4.out _ HL.out).mono ?_
            rintro e w6 ⟨rfl, hT⟩
            have HL' := Lib.hid hT.left
            have HG' := Lib.hid (gb_trans HG.out hT.gb)
            clear hT HL HG
            have HL := HL'
            have HG := HG'
            clear HL' HG'
            go_wp2_with fail
            refine (K5.out _ HL.out).mono ?_
            rintro e w7 ⟨rfl, hT⟩
            have HL' := Lib.hid hT.left
            have HG' := Lib.hid (gb_trans HG.out hT.gb)
            clear hT HL HG
            have HL := HL'
            have HG := HG'
            clear HL' HG'
            go_wp2_with fail
            refine (K6.out _ HL.out).mono ?_
            rintro e w8 ⟨rfl, hT⟩
            have HL' := Lib.hid hT.left
            have HG' := Lib.hid (gb_trans HG.out hT.gb)
            clear hT HL HG
            have HL := HL'
            have HG := HG'
            clear HL' HG'
            have haz := HAz.out
            have hdl := HDl.out
            have HB6 := Lib.hid (HB.out.grown HG.out hs0 (fun k e => by cases e; exact Hbw.out))
            have HO6 := Lib.hid (HO.out.took (Nat.lt_succ_self b) HG.out)
            have hs6 := HB6.out.size
            have hb6 := HL.out.lt
            clear HG HB HO
            cases iN
            · skip
              have HN := Lib.hid (Hno.out fun ds hd => by have := Hnx.out.1 ds hd; simp at this)
              go_wp2
              exact HN.out _ HB6.out
            · skip
              cases iR
              · skip
                have HN := Lib.hid (Hno.out fun ds hd => by have := Hnx.out.1 ds hd; simp at this)
                go_wp2
                exact HN.out _ HB6.out
              · skip
                cases iB
                · skip
                  have HN := Lib.hid (Hno.out fun ds hd => by have := Hnx.out.1 ds hd; simp at this)
                  go_wp2
                  exact HN.out _ HB6.out
                · skip
                  cases iC
                  · skip
                    have HN := Lib.hid (Hno.out fun ds hd => by have := Hnx.out.1 ds hd; simp at this)
                    go_wp2
                    exact HN.out _ HB6.out
                  · skip
                    cases iD
                    · skip
                      have HN := Lib.hid (Hno.out fun ds hd => by have := Hnx.out.1 ds hd; simp at this)
                      go_wp2
                      exact HN.out _ HB6.out
                    · skip
                      cases iE
                      · skip
                        have HN := Lib.hid (Hno.out fun ds hd => by have := Hnx.out.1 ds hd; simp at this)
                        go_wp2
                        exact HN.out _ HB6.out
                      · skip
                        by_cases hn : vn ≤ aE.size
                        · by_cases hg : dn ≤ 1
                          · have hni : (vn : Int) ≤ (aE.size : Int) := by omega
                            have hrz := HRz.out
                            have hgi : ¬ (1 : Int) < (dn : Int) := by omega
                            have hvl : vn < 2 ^ 63 := by omega
                            obtain ⟨d1, hd1⟩ : ∃ d, d = decide (dn = 1) := ⟨_, rfl⟩
                            rw [← hd1, ← Hrow.out hn] at Hnx Hrn Hpn
                            have hd1' : decide ((dn : Int) = 1) = d1 := by rw [hd1]; apply decide_eq_decide.2; omega
                            have hd1b : ((dn : Int) == 1) = d1 := by rw [← hd1']; first | rfl | exact beq_eq_decide | simp
                            clear hd1
                            have HRow : Hid (Row w8 (b + 1) 35 5 (.slice ao k cap) k (cs.map cellE).flatten) := Lib.hid (by have h := HO6.out; unfold Own at h; rw [← Hk.out] at h; exact h)
                            have hkb : Hid ((k + 1) * 64 ≤ 140737488355328) := Lib.hid (by have := Hle.out; omega)
                            go_wp2_with (at_builtin; go_loud (refine wpList_append_arr _ rfl _ _ 22 rfl (b + 1) 35 i0 _ 5 64 Try.underlying22 Hi.out hz0 hz1 hz2 rfl (by decide) (.slice ao k cap) k _ rfl (Row.alloc (Row.alloc HRow.out _) _) rfl (cells_new _ _ [⟨aE.extract 0 vn ++ sr, sb, vc, d1, se⟩] _ 1 _ rfl rfl (by decide) (World.size_alloc _ _).symm) hkb.out (by have := hkb.out; unfold maxLen; omega) (by rw [World.size_alloc, World.size_alloc]; omega) ?_; intro v1 w9 hr7 hb7 hg7; have c9 : w9.cell? ⟨w8.heap.size, 0, none⟩ = some (.string (aE.extract 0 vn ++ sr)) := (World.cell?_of_block (a := ⟨w8.heap.size, 0, none⟩) (hg7.block w8.heap.size (by rw [World.size_alloc, World.size_alloc]; omega) (fun e => by have := (Row.lt HRow.out _ e.symm).2; omega))).trans (by go_simp); have HR7 := Lib.hid (own_snocB Hk.out hr7); have HB7 := Lib.hid hb7; clear hr7 hb7 hg7))
                            obtain ⟨ao1, cap1, e1, hC1⟩ := HR7.out.cells
                            have HW7 := Lib.hid ((((Below.refl (b + 1) w8).alloc (by omega) _).alloc (by rw [World.size_alloc]; omega) _).trans HB7.out)
                            have HL7 := Lib.hid (HL.out.same (HW7.out.block b (by omega)))
                            have HE7 := Lib.hid (HB6.out.trans (HW7.out.mono (by have := Hbw.out; omega)))
                            refine ⟨⟨cs ++ [⟨aE.extract 0 vn ++ sr, sb, vc, d1, se⟩], rE, ao1, cap1, e1, by rw [Hpn.out], Lib.hid ⟨Hnx.out.2, Hrn.out, by have h1 := Hle.out; have h2 := Hless.out (by first | trivial | rfl); rw [List.length_append, ← Hk.out, List.length_singleton]; omega, HL7.out, by rw [← e1]; exact HR7.out, HE7.out, Hbw.out⟩⟩, by rw [Hms.out, leftN_eq HL7.out]; exact Hless.out (by first | trivial | rfl)⟩
                          · skip
                            have HN := Lib.hid (Hno.out fun ds hd => by have := Hnx.out.1 ds hd; simp [hn, hg] at this)
                            go_wp2
                            exact HN.out _ HB6.out
                        · skip
                          have HN := Lib.hid (Hno.out fun ds hd => by have := Hnx.out.1 ds hd; simp [hn] at this)
                          go_wp2
                          exact HN.out _ HB6.out
        · obtain rfl : rest = [] := List.eq_nil_of_length_eq_zero (by omega)
          have Hend := Lib.hid (sofar_end' hR.out.all)
          have KL := Lib.hid (rleft_any [] b wr hR.out.left)
          obtain ⟨ao', cap', e', hC⟩ := hR.out.own.cells
          cases e'
          have KB := Lib.hid (rbuild_any _ _ _ cs wr hC (rowsB_ok hR.out.rows (by have := Hk.out; omega)))
          have HO := Lib.hid hR.out.own
          have HB := Lib.hid hR.out.bel
          have hs0 := hR.out.bel.size
          clear hC hR hlt hrp hle
          rw [← Hk.out] at KB
          rw [List.length_nil] at KL
          by_cases hB : buildR cs = (s.toList, 0)
          · rw [hB] at KB
            rw [ofL_self] at KB
            have HN := Lib.hid (Hyes.out cs (.slice ao cs.length cap))
            rw [← Hk.out] at HN
            have HBk := Lib.hid (blockOf_iff.2 hB)
            clear hB
            go_wp2_with (first | (go_at_call 37; refine KL.out.mono ?_; rintro e w3 ⟨rfl, rfl⟩) | (go_at_call 12; refine KB.out.mono ?_; rintro e w3 ⟨rfl, hb3⟩))
            exact HN.out _ HBk.out (by have h := (HO.out.below hb3).mono (show w.heap.size ≤ b + 1 by have := Hbw.out; omega); rw [Hk.out]; exact h) (HB.out.trans (hb3.mono hs0))
          · have HN := Lib.hid (Hno.out fun ds hd => hB (by rw [Hend.out ds hd]; exact blockOf_iff.1 hd))
            obtain ⟨r1, hr1⟩ : ∃ r, r = ofL (buildR cs).1 := ⟨_, rfl⟩
            obtain ⟨r2, hr2⟩ : ∃ r, r = (buildR cs).2 := ⟨_, rfl⟩
            rw [← hr1, ← hr2] at KB
            by_cases h2 : r2 = 0
            · subst h2
              have hne : r1 ≠ s := fun e => hB (Prod.ext (by rw [← ofL_toList (buildR cs).1, ← hr1, e]) hr2.symm)
              have hne1 := ne_of hne
              clear hB hr1 hr2
              go_wp2_with (first | (go_at_call 37; refine KL.out.mono ?_; rintro e w3 ⟨rfl, rfl⟩) | (go_at_call 12; refine KB.out.mono ?_; rintro e w3 ⟨rfl, hb3⟩))
              exact HN.out _ (HB.out.trans (hb3.mono hs0))
            · clear hB hr1 hr2
              go_wp2_with (first | (go_at_call 37; refine KL.out.mono ?_; rintro e w3 ⟨rfl, rfl⟩) | (go_at_call 12; refine KB.out.mono ?_; rintro e w3 ⟨rfl, hb3⟩))
              exact HN.out _ (HB.out.trans (hb3.mono hs0))
end Go.Proofs.Ytfkghpomcaonfaa
