/-
  The walk of acreagelaw04.CellsKnown (closed). Printed by mkknown4.py.
-/
import Derived.Test.YtjalccnkfpjchaaKnown4P
import Derived.Deep.DeepCutAuto
import Derived.OwnWalk
namespace Go.Proofs.Ytjalccnkfpjchaa
open Go.RowKit Go.Sort

attribute [local go_sem] gives

theorem all_wide {D : List CellA} {c : CellA} {n : Nat} (h : D.length = n) (ha : ∀ j, j < n → D[j]? = some c) : D = List.replicate n c := by
  refine List.ext_getElem? fun j => ?_
  by_cases hj : j < n
  · rw [ha j hj, List.getElem?_replicate, if_pos hj]
  · rw [List.getElem?_eq_none (by omega), List.getElem?_eq_none (by rw [List.length_replicate]; omega)]
theorem wide_set {D : List CellA} {c : CellA} {k n : Nat} (hl : D.length = n) (hk : k < n) (ha : ∀ j, j < k → D[j]? = some c) : ∀ j, j < k + 1 → (D.set k c)[j]? = some c := by
  intro j hj
  by_cases e : j = k
  · subst e; rw [List.getElem?_set_self (by omega)]
  · rw [List.getElem?_set_ne (by omega)]; exact ha j (by omega)
theorem wide_cut {w : World} {q k : Nat} {c : CellA} (hk : k ≤ 20) (h : Cells w (some ⟨q, 0, none⟩) 20 20 (List.replicate 20 c)) : Cells w (some ⟨q, 0, none⟩) k 20 (List.replicate k c) := by
  have := Cells.short h hk
  rwa [List.take_replicate, Nat.min_eq_left hk] at this
theorem kl12 {w : World} {b : Nat} (h : Cells w (some ⟨b, 0, none⟩) 3 3 klK) : Cells w (some ⟨b, 5, none⟩) 1 2 kbK := cells_mid h 1 1 (by omega)
theorem kl13 {w : World} {b : Nat} (h : Cells w (some ⟨b, 0, none⟩) 3 3 klK) : Cells w (some ⟨b, 5, none⟩) 2 2 (klK.drop 1) := cells_mid h 1 2 (by omega)

theorem wpList_makeK {P : Program} (w : World) {ops : Array Oper} {rest : List Oper} {o : Oper} {a : Act} {Q : Exit → Act → World → Prop}
    (hg : o.guard = none) (l c : Operand) (t : TypeId) (hop : o.op = Op.makeSlice t l c) {x y v : Value} {w' : World} (hl : a.eval l = x) (hc : a.eval c = y)
    (hrun : (Instr.makeSlice t x y).run P w = .ok v w') (hK : wpList P ops Q rest (a.put o.dst v) w') : wpList P ops Q (o :: rest) a w := by
  refine wpList_plain hg fun K hK' => ?_
  subst hl
  subst hc
  unfold Oper.wp
  simp [execOp, hop, hrun, Result.andThen]
  exact hK' _ _ hK

set_option maxRecDepth 100000 in
set_option maxHeartbeats 4000000 in
theorem cellsknown_any (w : World) : Calls Try.prog 12 #[] w fun e w' => e = .returned (.bool true) ∧ Below w.heap.size w w' := by
  have B := Lib.hid (Below.refl w.heap.size w)
  have z : w.heap.size ≤ w.heap.size := Nat.le_refl _
  go_enter Try.func12, Try.ntmps12
  go_wp2_with fail
  refine (at_any _ _ _ _).mono ?_
  rintro e w1 ⟨rfl, hb⟩
  have ha : Below w.heap.size w w1 := Below.trans (by go_grown) (hb.mono (by go_size))
  have B2 := Lib.hid (B.out.trans (ha.mono z))
  clear B z hb ha
  have B := B2
  clear B2
  have z := B.out.size
  go_wp2_with fail
  refine (at_any _ _ _ _).mono ?_
  rintro e w2 ⟨rfl, hb⟩
  have ha : Below w1.heap.size w1 w2 := Below.trans (by go_grown) (hb.mono (by go_size))
  have B2 := Lib.hid (B.out.trans (ha.mono z))
  clear B z hb ha
  have B := B2
  clear B2
  have z := B.out.size
  go_wp2_with fail
  refine (at_any _ _ _ _).mono ?_
  rintro e w3 ⟨rfl, hb⟩
  have ha : Below w2.heap.size w2 w3 := Below.trans (by go_grown) (hb.mono (by go_size))
  have B2 := Lib.hid (B.out.trans (ha.mono z))
  clear B z hb ha
  have B := B2
  clear B2
  have z := B.out.size
  go_upto_region 2 with fail
  have LL := Lib.hid (cells_new w3 32 klK _ 3 _ (by rfl) (by decide) (by decide) rfl)
  obtain ⟨g, hg⟩ : ∃ g, g = w3.heap.size := ⟨_, rfl⟩
  rw [← hg] at LL ⊢
  have B2 := Lib.hid (B.out.alloc z (.cells #[.string ⟨#[97]⟩, .string ⟨#[120]⟩, .int .u64 1, .bool false, .string ⟨#[]⟩, .string ⟨#[98]⟩, .string ⟨#[120]⟩, .int .u64 1, .bool false, .string ⟨#[]⟩, .string ⟨#[99]⟩, .string ⟨#[120]⟩, .int .u64 1, .bool false, .string ⟨#[]⟩] 32))
  obtain ⟨WA, hWA⟩ : ∃ X : World, X = w3.alloc (.cells #[.string ⟨#[97]⟩, .string ⟨#[120]⟩, .int .u64 1, .bool false, .string ⟨#[]⟩, .string ⟨#[98]⟩, .string ⟨#[120]⟩, .int .u64 1, .bool false, .string ⟨#[]⟩, .string ⟨#[99]⟩, .string ⟨#[120]⟩, .int .u64 1, .bool false, .string ⟨#[]⟩] 32) := ⟨_, rfl⟩
  rw [← hWA] at B2 ⊢
  have HLL : Hid (∀ W, Below WA.heap.size WA W → Cells W (some ⟨g, 0, none⟩) 3 3 klK) := Lib.hid fun W h => Arr.below (by rw [hWA]; exact LL.out) h
  clear LL hWA hg B z
  have BW := B2
  clear B2
  have zW := BW.out.size
  have B := Lib.hid (Below.refl WA.heap.size WA)
  have z : WA.heap.size ≤ WA.heap.size := Nat.le_refl _
  go_wp2_with fail
  refine (enc_nilK _).mono ?_
  rintro e w4 ⟨rfl, hb⟩
  have ha : Below WA.heap.size WA w4 := Below.trans (by go_grown) (hb.mono (by go_size))
  have B2 := Lib.hid (B.out.trans (ha.mono z))
  clear B z hb ha
  have B := B2
  clear B2
  have z := B.out.size
  go_wp2_with fail
  refine (at_any _ _ _ _).mono ?_
  rintro e w5 ⟨rfl, hb⟩
  have ha : Below w4.heap.size w4 w5 := Below.trans (by go_grown) (hb.mono (by go_size))
  have B2 := Lib.hid (B.out.trans (ha.mono z))
  clear B z hb ha
  have B := B2
  clear B2
  have z := B.out.size
  go_wp2_with fail
  refine (enc_badK _ _ (atX 97 0 false) _ (cells_new _ _ [atX 97 0 false] _ 1 _ (by rfl) rfl (by decide) rfl) at0_bad).mono ?_
  rintro e w6 ⟨rfl, hb⟩
  have ha : Below w5.heap.size w5 w6 := Below.trans (by go_grown) (hb.mono (by go_size))
  have B2 := Lib.hid (B.out.trans (ha.mono z))
  clear B z hb ha
  have B := B2
  clear B2
  have z := B.out.size
  go_wp2_with fail
  refine (dec_k1 _).mono ?_
  rintro e w7 ⟨rfl, hb⟩
  have ha : Below w6.heap.size w6 w7 := Below.trans (by go_grown) (hb.mono (by go_size))
  have B2 := Lib.hid (B.out.trans (ha.mono z))
  clear B z hb ha
  have B := B2
  clear B2
  have z := B.out.size
  go_wp2_with fail
  refine (dec_k2 _).mono ?_
  rintro e w8 ⟨rfl, hb⟩
  have ha : Below w7.heap.size w7 w8 := Below.trans (by go_grown) (hb.mono (by go_size))
  have B2 := Lib.hid (B.out.trans (ha.mono z))
  clear B z hb ha
  have B := B2
  clear B2
  have z := B.out.size
  go_wp2_with fail
  refine (dec_k3 _).mono ?_
  rintro e w9 ⟨rfl, hb⟩
  have ha : Below w8.heap.size w8 w9 := Below.trans (by go_grown) (hb.mono (by go_size))
  have B2 := Lib.hid (B.out.trans (ha.mono z))
  clear B z hb ha
  have B := B2
  clear B2
  have z := B.out.size
  go_wp2_with fail
  refine (dec_k4 _).mono ?_
  rintro e w10 ⟨ao0, cap0, rfl, hb⟩
  have ha : Below w9.heap.size w9 w10 := Below.trans (by go_grown) (hb.mono (by go_size))
  have B2 := Lib.hid (B.out.trans (ha.mono z))
  clear B z hb ha
  have B := B2
  clear B2
  have z := B.out.size
  obtain ⟨wz, hmz, hbz, hrz, hlz⟩ := cz_make w10
  obtain ⟨q, hq⟩ : ∃ q, q = w10.heap.size := ⟨_, rfl⟩
  have hqx : w10.heap.size = q := hq.symm
  rw [hqx] at hmz hbz hrz hlz
  go_wp2_with (at_make; refine wpList_makeK _ rfl _ _ _ rfl rfl rfl hmz ?_; simp only [Act.put, List.setIfInBounds_toArray, List.set_cons_succ, List.set_cons_zero])
  have zq : WA.heap.size ≤ q := by rw [hq]; exact z
  have B2 := Lib.hid (B.out.trans (hbz.mono zq))
  clear B z hbz hmz hqx hq
  have B := B2
  clear B2
  have z := B.out.size
  have HR := Lib.hid hrz
  clear hrz
  obtain ⟨Z, hZ⟩ : ∃ x, x = zs 65536 := ⟨_, rfl⟩
  have CZ : Hid (∀ v w, ZAt 65536 v w → (convert 44 9 v).run Try.prog w = .ok (.string Z) w) := Lib.hid (by rw [hZ]; exact fun v w h => zs_conv h)
  have HZ := Lib.hid (show Z.size = 65536 by rw [hZ, zs_size])
  clear hZ
  go_loopw [15] (fun i wr => ∃ (k : Nat) (D : List CellA), k ≤ 20 ∧ i = .int .i64 k ∧ Hid (D.length = 20) ∧ Hid (∀ j, j < k → D[j]? = some (wideC Z)) ∧ Hid (Row wr q 32 5 (.slice (some ⟨q, 0, none⟩) 20 20) 20 (D.map cellE).flatten) ∧ Hid (Below q wz wr)) (fun i _ => 20 - (intOf i).toNat)
  case atStart => exact ⟨0, List.replicate 20 zC, by omega, rfl, Lib.hid (List.length_replicate ..), Lib.hid (fun j h => by omega), HR, Lib.hid (Below.refl _ _)⟩
  case round =>
    obtain ⟨k, D, hk, rfl, hDl, hDw, hR, hB⟩ := hrel
    have zr := hB.out.size
    by_cases hlt : k < 20
    · obtain ⟨y, hy⟩ : ∃ y, D[k]? = some y := ⟨_, List.getElem?_eq_getElem (by rw [hDl.out]; omega)⟩
      obtain ⟨vm, wm, hm, hbm, hzm⟩ := zs_make 65536 65536 rfl (by omega) wr
      have hcv := CZ.out _ _ hzm
      have hR1 := Lib.hid (hR.out.below hbm)
      obtain ⟨y0, y1, y2, y3, y4⟩ := hR1.out.cellAt hDl.out hy
      obtain ⟨fy0, fy1, fy2, fy3, fy4⟩ := hR1.out.cellFree hDl.out (i := k) (by omega)
      have HBm := Lib.hid (hB.out.trans (hbm.mono (Nat.le_trans (Nat.le_of_lt hlz) zr)))
      have hsm := hbm.size
      clear hy hzm hbm
      go_wp2_with (at_make; refine wpList_makeK _ rfl _ _ _ rfl rfl rfl hm ?_; simp only [Act.put, List.setIfInBounds_toArray, List.set_cons_succ, List.set_cons_zero])
      have hR6 := hR1.out.storeC hDl.out (i := k) (by omega) (wideC Z)
      have hG6 := gb_setC (gb_row (a := wm) (g := q)) (o := k * 5) (wideC Z)
      simp only [setC, wideC] at hR6 hG6
      exact ⟨⟨k + 1, _, by omega, by go_num, Lib.hid (by rw [List.length_set]; exact hDl.out), Lib.hid (wide_set hDl.out hlt hDw.out), Lib.hid hR6, Lib.hid (HBm.out.grown hG6 (by omega) (fun k e => by cases e; exact Nat.le_refl _))⟩, by simp [intOf]; omega⟩
    · obtain rfl : k = 20 := by omega
      have HW : Hid (∀ W, Below wr.heap.size wr W → Cells W (some ⟨q, 0, none⟩) 20 20 (List.replicate 20 (wideC Z))) := Lib.hid fun W h => Arr.below (by have := all_wide hDl.out hDw.out; subst this; exact row_cells hR.out (by simp)) h
      have HB0 := Lib.hid (B.out.trans (hB.out.mono zq))
      clear hDl hDw hR hB hk hlt HR B z zr CZ
      have zB0 := HB0.out.size
      have B := Lib.hid (Below.refl wr.heap.size wr)
      have z : wr.heap.size ≤ wr.heap.size := Nat.le_refl _
      go_wp2_with fail
      refine (enc_wide Z HZ.out 20 (by omega) (by omega) _ _ _ (HW.out _ (Below.refl _ _))).mono ?_
      rintro e w11 ⟨rfl, hb⟩
      have ha : Below wr.heap.size wr w11 := Below.trans (by go_grown) (hb.mono (by go_size))
      have B2 := Lib.hid (B.out.trans (ha.mono z))
      clear B z hb ha
      have B := B2
      clear B2
      have z := B.out.size
      go_wp2_with fail
      refine (enc_wide15 Z HZ.out _ _ _ (wide_cut (by omega) (HW.out _ B.out))).mono ?_
      rintro e w12 ⟨s15, rfl, hb⟩
      have ha : Below w11.heap.size w11 w12 := Below.trans (by go_grown) (hb.mono (by go_size))
      have B2 := Lib.hid (B.out.trans (ha.mono z))
      clear B z hb ha
      have B := B2
      clear B2
      have z := B.out.size
      go_wp2_with fail
      refine (enc_wide Z HZ.out 16 (by omega) (by omega) _ _ _ (wide_cut (by omega) (HW.out _ B.out))).mono ?_
      rintro e w13 ⟨rfl, hb⟩
      have ha : Below w12.heap.size w12 w13 := Below.trans (by go_grown) (hb.mono (by go_size))
      have B2 := Lib.hid (B.out.trans (ha.mono z))
      clear B z hb ha
      have B := B2
      clear B2
      have z := B.out.size
      go_wp2_with fail
      refine (dec_k5 _).mono ?_
      rintro e w14 ⟨rfl, hb⟩
      have ha : Below w13.heap.size w13 w14 := Below.trans (by go_grown) (hb.mono (by go_size))
      have B2 := Lib.hid (B.out.trans (ha.mono z))
      clear B z hb ha
      have B := B2
      clear B2
      have z := B.out.size
      clear HW HZ
      obtain ⟨x, hx⟩ : ∃ x, x = zs 33 := ⟨_, rfl⟩
      have Cx : Hid (∀ v w, ZAt 33 v w → (convert 44 9 v).run Try.prog w = .ok (.string x) w) := Lib.hid (by rw [hx]; exact fun v w h => zs_conv h)
      obtain ⟨y, hy⟩ : ∃ y, y = zs 17 := ⟨_, rfl⟩
      have Cy : Hid (∀ v w, ZAt 17 v w → (convert 44 9 v).run Try.prog w = .ok (.string y) w) := Lib.hid (by rw [hy]; exact fun v w h => zs_conv h)
      have HBad := Lib.hid (show ∀ c ∈ badsK x y, cellL c = false ∧ c.Ok by rw [hx, hy]; exact badsK_bad)
      clear hx hy
      go_wp2_with fail
      refine wp_region_free [(3, .lay [] (ZAt 33)), (4, .read [3] (.string x)), (6, .lay [] (ZAt 17)), (7, .read [6] (.string y)), (9, .lay [] (LitAt (badsK x y) 5)), (10, .lay [9] (LitAt (badsK x y) 5))] 204 (by kernel_rfl) (by kernel_rfl) (by kernel_rfl) (by kernel_rfl) rfl (plainNoInit.of (by kernel_rfl)) (Keeps.of ?hS) (fun w1 hw1 => ?_)
      case hS =>
        intro p hp
        simp only [List.mem_cons, List.not_mem_nil, or_false] at hp
        rcases hp with rfl | rfl | rfl | rfl | rfl | rfl
        all_goals (intro v w w' h hg; first | exact ZAt.keeps h hg | exact LitAt.keeps h hg | exact trivial)
      refine free_seg 3 rfl ?_
      simp only [List.take_succ_cons, List.take_zero, List.drop_succ_cons, List.drop_zero]
      repeat (any_goals (first | go_big_quiet_step (first | (go_at_call 31; exact Calls.regrown_of (at_any _ _ _ _))) | quiet_step (fail)))
      refine wpQuiet_nil ?_
      refine free_lay [] (ZAt 33) rfl (letter0 rfl (fun w7 hw7 => ?_)) ?_
      · obtain ⟨v7, w8, h1, h2, h3⟩ := zs_make 33 33 rfl (by omega) w7
        go_simp
        first | exact ⟨Grown.of h2, h3⟩ | exact Grown.of h2
      simp only [Act.put, List.setIfInBounds_toArray, List.set_cons_succ, List.set_cons_zero]
      refine free_read [3] (.string x) rfl (letter1 3 rfl (fun v7 w7 hw7 hs => ?_)) ?_
      · have hc := Cx.out v7 w7 hs
        simp only [dstOf, List.getElem?_toArray, List.getElem?_cons_succ, List.getElem?_cons_zero, Option.bind_some, Act.put, List.setIfInBounds_toArray, List.set_cons_succ, List.set_cons_zero]
        go_simp
        first | exact Grown.refl _ | exact ⟨Grown.refl _, rfl⟩
      simp only [Act.put, List.setIfInBounds_toArray, List.set_cons_succ, List.set_cons_zero]
      refine free_seg 1 rfl ?_
      simp only [List.take_succ_cons, List.take_zero, List.drop_succ_cons, List.drop_zero]
      repeat (any_goals (first | go_big_quiet_step (first | (go_at_call 31; exact Calls.regrown_of (at_any _ _ _ _))) | quiet_step (fail)))
      refine wpQuiet_nil ?_
      refine free_lay [] (ZAt 17) rfl (letter0 rfl (fun w7 hw7 => ?_)) ?_
      · obtain ⟨v7, w8, h1, h2, h3⟩ := zs_make 17 17 rfl (by omega) w7
        go_simp
        first | exact ⟨Grown.of h2, h3⟩ | exact Grown.of h2
      simp only [Act.put, List.setIfInBounds_toArray, List.set_cons_succ, List.set_cons_zero]
      refine free_read [6] (.string y) rfl (letter1 6 rfl (fun v7 w7 hw7 hs => ?_)) ?_
      · have hc := Cy.out v7 w7 hs
        simp only [dstOf, List.getElem?_toArray, List.getElem?_cons_succ, List.getElem?_cons_zero, Option.bind_some, Act.put, List.setIfInBounds_toArray, List.set_cons_succ, List.set_cons_zero]
        go_simp
        first | exact Grown.refl _ | exact ⟨Grown.refl _, rfl⟩
      simp only [Act.put, List.setIfInBounds_toArray, List.set_cons_succ, List.set_cons_zero]
      refine free_seg 1 rfl ?_
      simp only [List.take_succ_cons, List.take_zero, List.drop_succ_cons, List.drop_zero]
      repeat (any_goals (first | go_big_quiet_step (first | (go_at_call 31; exact Calls.regrown_of (at_any _ _ _ _))) | quiet_step (fail)))
      refine wpQuiet_nil ?_
      refine free_lay [] (LitAt (badsK x y) 5) rfl (letter0 rfl (fun w7 hw7 => ?_)) ?_
      · go_simp
        exact ⟨Grown.of ((Below.refl _ _).alloc (Nat.le_refl _) _), _, rfl, cells_new w7 _ (badsK x y) _ 5 _ (by rfl) rfl (by decide) rfl⟩
      simp only [Act.put, List.setIfInBounds_toArray, List.set_cons_succ, List.set_cons_zero]
      refine free_lay [9] (LitAt (badsK x y) 5) rfl (letter1 9 rfl (fun v7 w7 hw7 hs => ?_)) ?_
      · simp only [dstOf, List.getElem?_toArray, List.getElem?_cons_succ, List.getElem?_cons_zero, Option.bind_some, Act.put, List.setIfInBounds_toArray, List.set_cons_succ, List.set_cons_zero]
        go_simp
        exact ⟨Grown.refl _, hs⟩
      simp only [Act.put, List.setIfInBounds_toArray, List.set_cons_succ, List.set_cons_zero]
      refine free_nil ?_
      intro vs w88 hb8 hs8
      obtain ⟨bq, hq, hQ⟩ : LitAt (badsK x y) 5 (vs 10) w88 := hs8 10 (by simp [lays, Kd.laid])
      simp only [lays, Kd.laid, Bool.false_eq_true, if_true, if_false, putL, dstOf, List.getElem?_toArray, List.getElem?_cons_succ, List.getElem?_cons_zero, Option.bind_some, Act.put, List.setIfInBounds_toArray, List.set_cons_succ, List.set_cons_zero, hq]
      have B2 := Lib.hid (B.out.trans (hb8.mono z))
      clear B z hb8 hs8 hq
      have B := B2
      clear B2
      have z := B.out.size
      have HQ := Lib.hid hQ
      clear hQ
      go_wp2_with fail
      go_loopw [25] (fun i wr => ∃ k : Nat, k ≤ 5 ∧ i = .int .i64 k ∧ Hid (Below w88.heap.size w88 wr)) (fun i _ => 5 - (intOf i).toNat)
      case atStart => exact ⟨0, by omega, rfl, Lib.hid (Below.refl _ _)⟩
      case round =>
        obtain ⟨k, hk, rfl, hB⟩ := hrel
        have hzr := hB.out.size
        by_cases hlt : k < 5
        · obtain ⟨c, hc⟩ : ∃ c, (badsK x y)[k]? = some c := ⟨_, List.getElem?_eq_getElem (by show k < 5; exact hlt)⟩
          have KC := Lib.hid (HBad.out c (List.mem_of_getElem? hc))
          have HC := Lib.hid (cells_at1 (Arr.below HQ.out hB.out) hc)
          clear hc
          go_wp2_with fail
          refine (enc_badK _ _ c _ (by simpa using HC.out) KC.out).mono ?_
          rintro e w99 ⟨rfl, hb9⟩
          have HB9 := Lib.hid (hB.out.trans (hb9.mono hzr))
          clear hb9
          go_wp2
          exact ⟨⟨k + 1, by omega, by go_num, HB9⟩, by simp [intOf]; omega⟩
        · obtain rfl : k = 5 := by omega
          have B2 := Lib.hid (HB0.out.trans ((B.out.trans (hB.out.mono z)).mono zB0))
          clear B z hB hzr hk hlt HQ HBad
          have B := B2
          clear B2
          have z := B.out.size
          have hBA : Below WA.heap.size WA wr := B.out
          have zA := hBA.size
          clear B z
          have HS : Hid (∀ W, Below WA.heap.size WA W → True) := Lib.hid fun _ _ => trivial
          have mk0 := Lib.hid trivial
          go_wp2_with fail
          simp only [List.append_eq, List.cons_append, List.nil_append]
          go_region_held3 (fun _ => True) (exact HS.out _ (by go_grown)) (first
              | (revert mk0; intro mk0; clear mk0; go_at_call 17; refine (works_any _).mono ?_; rintro e wk0 ⟨rfl, hb⟩; have hBAn : Below WA.heap.size WA wk0 := Below.trans (by go_grown) (hb.mono (by go_size)); clear hBA zA; have hBA := hBAn; have zA := hBA.size; clear hBAn hb; have mk1 := Lib.hid trivial)
              | (revert mk1; intro mk1; clear mk1; go_at_call 31; refine (at_any _ _ _ _).mono ?_; rintro e wk1 ⟨rfl, hb⟩; have hBAn : Below WA.heap.size WA wk1 := Below.trans (by go_grown) (hb.mono (by go_size)); clear hBA zA; have hBA := hBAn; have zA := hBA.size; clear hBAn hb; have mk2 := Lib.hid trivial)
              | (revert mk2; intro mk2; clear mk2; go_at_call 31; refine (at_any _ _ _ _).mono ?_; rintro e wk2 ⟨rfl, hb⟩; have hBAn : Below WA.heap.size WA wk2 := Below.trans (by go_grown) (hb.mono (by go_size)); clear hBA zA; have hBA := hBAn; have zA := hBA.size; clear hBAn hb; have mk3 := Lib.hid trivial)
              | (revert mk3; intro mk3; clear mk3; go_at_call 31; refine (at_any _ _ _ _).mono ?_; rintro e wk3 ⟨rfl, hb⟩; have hBAn : Below WA.heap.size WA wk3 := Below.trans (by go_grown) (hb.mono (by go_size)); clear hBA zA; have hBA := hBAn; have zA := hBA.size; clear hBAn hb; have mk4 := Lib.hid trivial)
              | (revert mk4; intro mk4; clear mk4; go_at_call 22; refine (aliveK _ _ _ (cells_new _ _ kaK _ 3 _ (by rfl) rfl (by decide) rfl)).mono ?_; rintro e wk4 ⟨ao1, cap1, rfl, hc, hb⟩; have hBAn : Below WA.heap.size WA wk4 := Below.trans (by go_grown) (hb.mono (by go_size)); clear hBA zA; have hBA := hBAn; have zA := hBA.size; clear hBAn hb; have HO := Lib.hid hc; clear hc; have mk5 := Lib.hid trivial)
              | (revert mk5; intro mk5; clear mk5; go_at_call 20; refine (same_w _ _ _ _ _ _ kbK _ HO.out (kl12 (HLL.out _ hBA))).mono ?_; rintro e wk5 ⟨rfl, hb⟩; have hBAn : Below WA.heap.size WA wk5 := Below.trans (by go_grown) (hb.mono (by go_size)); clear hBA zA; have hBA := hBAn; have zA := hBA.size; clear hBAn hb; clear HO; have mk6 := Lib.hid trivial)
              | (revert mk6; intro mk6; clear mk6; go_at_call 27; refine (withinK1 _ _ _ (HLL.out _ hBA)).mono ?_; rintro e wk6 ⟨ao2, cap2, rfl, hc, hb⟩; have hBAn : Below WA.heap.size WA wk6 := Below.trans (by go_grown) (hb.mono (by go_size)); clear hBA zA; have hBA := hBAn; have zA := hBA.size; clear hBAn hb; have HO := Lib.hid hc; clear hc; have mk7 := Lib.hid trivial)
              | (revert mk7; intro mk7; clear mk7; go_at_call 20; refine (same_w _ _ _ _ _ _ kbK _ HO.out (kl12 (HLL.out _ hBA))).mono ?_; rintro e wk7 ⟨rfl, hb⟩; have hBAn : Below WA.heap.size WA wk7 := Below.trans (by go_grown) (hb.mono (by go_size)); clear hBA zA; have hBA := hBAn; have zA := hBA.size; clear hBAn hb; clear HO; have mk8 := Lib.hid trivial)
              | (revert mk8; intro mk8; clear mk8; go_at_call 27; refine (withinK2 _ _ _ (HLL.out _ hBA)).mono ?_; rintro e wk8 ⟨ao3, cap3, rfl, hc, hb⟩; have hBAn : Below WA.heap.size WA wk8 := Below.trans (by go_grown) (hb.mono (by go_size)); clear hBA zA; have hBA := hBAn; have zA := hBA.size; clear hBAn hb; have HO := Lib.hid hc; clear hc; have mk9 := Lib.hid trivial)
              | (revert mk9; intro mk9; clear mk9; go_at_call 20; refine (same_w _ _ _ _ _ _ (klK.drop 1) _ HO.out (kl13 (HLL.out _ hBA))).mono ?_; rintro e wk9 ⟨rfl, hb⟩; have hBAn : Below WA.heap.size WA wk9 := Below.trans (by go_grown) (hb.mono (by go_size)); clear hBA zA; have hBA := hBAn; have zA := hBA.size; clear hBAn hb; clear HO; have mk10 := Lib.hid trivial)
              | (revert mk10; intro mk10; clear mk10; go_at_call 27; refine (withinK3 _ _ _ (HLL.out _ hBA)).mono ?_; rintro e wk10 ⟨ao4, cap4, rfl, hb⟩; have hBAn : Below WA.heap.size WA wk10 := Below.trans (by go_grown) (hb.mono (by go_size)); clear hBA zA; have hBA := hBAn; have zA := hBA.size; clear hBAn hb; have mk11 := Lib.hid trivial))
          all_goals (go_wp2_with fail; go_returns; exact ⟨rfl, BW.out.trans (hBA.mono zW)⟩)
end Go.Proofs.Ytjalccnkfpjchaa
