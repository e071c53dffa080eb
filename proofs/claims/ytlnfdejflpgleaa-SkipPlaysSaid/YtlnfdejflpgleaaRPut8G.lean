/-
  acreageref08.Put where it puts. Printed by mkrput8.py.
-/
import Derived.Test.YtlnfdejflpgleaaRPut8W
import Derived.Test.YtlnfdejflpgleaaHeightsW
import Derived.Deep.DeepCutAuto
namespace Go.Proofs.Ytlnfdejflpgleaa
open Go.RowKit

/-- Put's own cells: the list (r), the cell (s), the answer (z) -/
structure PF (r s z : Nat) (va vb : Value) (c : CellA) (W : World) : Prop where
  r0 : W.cell? ⟨r, 0, none⟩ = some va
  r1 : W.cell? ⟨r, 1, none⟩ = some vb
  s0 : W.cell? ⟨s, 0, none⟩ = some (.string c.row)
  s1 : W.cell? ⟨s, 1, none⟩ = some (.string c.col)
  s2 : W.cell? ⟨s, 2, none⟩ = some (.int .u64 c.ver)
  s3 : W.cell? ⟨s, 3, none⟩ = some (.bool c.gone)
  s4 : W.cell? ⟨s, 4, none⟩ = some (.string c.val)
  z0 : W.cell? ⟨z, 0, none⟩ = some (.slice none 0 0)
  z1 : W.cell? ⟨z, 1, none⟩ = some (.slice none 0 0)
  f0 : W.frozen? ⟨z, 0, none⟩ = false
  f1 : W.frozen? ⟨z, 1, none⟩ = false
  lr : r < W.heap.size
  ls : s < W.heap.size
  lz : z < W.heap.size
theorem PF.below {r s z : Nat} {va vb : Value} {c : CellA} {W W' : World} (h : PF r s z va vb c W) (hb : Below W.heap.size W W') : PF r s z va vb c W' :=
  ⟨(hb.cell (p := ⟨r, 0, none⟩) h.lr).trans h.r0, (hb.cell (p := ⟨r, 1, none⟩) h.lr).trans h.r1, (hb.cell (p := ⟨s, 0, none⟩) h.ls).trans h.s0, (hb.cell (p := ⟨s, 1, none⟩) h.ls).trans h.s1, (hb.cell (p := ⟨s, 2, none⟩) h.ls).trans h.s2, (hb.cell (p := ⟨s, 3, none⟩) h.ls).trans h.s3, (hb.cell (p := ⟨s, 4, none⟩) h.ls).trans h.s4,
    (hb.cell (p := ⟨z, 0, none⟩) h.lz).trans h.z0, (hb.cell (p := ⟨z, 1, none⟩) h.lz).trans h.z1, (hb.frozen (p := ⟨z, 0, none⟩) h.lz).trans h.f0, (hb.frozen (p := ⟨z, 1, none⟩) h.lz).trans h.f1,
    Nat.lt_of_lt_of_le h.lr hb.size, Nat.lt_of_lt_of_le h.ls hb.size, Nat.lt_of_lt_of_le h.lz hb.size⟩
set_option maxRecDepth 100000 in
set_option maxHeartbeats 4000000 in
theorem rput_good (c : CellA) (hok : c.Ok) (hcl : cellL c = true) (h : Nat) (h1 : 1 ≤ h) (h12 : h ≤ 12) (l : List CH) (v : Value) (w : World) (hm : LM w v l) (hn : l.length < 1000000) (hl0 : l ≠ []) :
    Calls Try.prog 14 #[v, .agg #[.string c.row, .string c.col, .int .u64 c.ver, .bool c.gone, .string c.val], .int .i64 h] w fun e w' =>
      ∃ v', e = .returned (.tuple #[v', .int .i64 0]) ∧ LM w' v' (putV c h l) ∧ NewS w.heap.size v' ∧ Below w.heap.size w w' := by
  obtain ⟨P, hP⟩ : ∃ P : Ending → World → Prop, P = fun e w' => ∃ v', e = .returned (.tuple #[v', .int .i64 0]) ∧ LM w' v' (putV c h l) ∧ NewS w.heap.size v' ∧ Below w.heap.size w w' := ⟨_, rfl⟩
  rw [← hP]
  have HP := Lib.hid hP
  clear hP
  obtain ⟨i0, hi, iz0, iz1, iz2⟩ := info_parts Try.info_cell
  obtain ⟨i1, hj, jz0, jz1, jz2⟩ := info_parts info_intB
  have Hi := Lib.hid hi
  have Hj := Lib.hid hj
  clear hi hj
  have KC := Lib.hid fun (W : World) => rcell_any c W hok
  have he : errB (cellL c) = 0 := by rw [hcl]; rfl
  simp only [CellA.v] at KC
  rw [he] at KC
  clear he hcl hok
  obtain ⟨ao, cap, ao2, cap2, rfl, hC, hI⟩ := hm.ex
  have HC := Lib.hid hC
  have HI := Lib.hid hI
  obtain ⟨n, hn'⟩ : ∃ n, n = l.length := ⟨_, rfl⟩
  have Hn := Lib.hid hn'
  rw [← hn'] at hn HC HI ⊢
  have hnp : 0 < n := by rw [Hn.out]; exact List.length_pos_iff.2 hl0
  clear hl0
  have hf1 := Arr.fits HC.out
  have hf2 := Arr.max HC.out
  have hf3 := Arr.fits HI.out
  have hf4 := Arr.max HI.out
  unfold maxLen at hf2 hf4
  clear hC hI hn' hm
  have t1 : decide ((h : Int) < 1) = false := by simp; omega
  have t2 : decide ((12 : Int) < (h : Int)) = false := by simp; omega
  have t3 : decide (h < 1) = false := by simp; omega
  have t4 : decide (12 < h) = false := by simp; omega
  go_enter Try.func14, Try.ntmps14
  go_wp2_with (first | (go_at_call 33; refine (KC.out _).mono ?_; rintro e w1 ⟨rfl, hb⟩; obtain ⟨hB, hS, hk⟩ := after (B := w.heap.size) (w := w) (by go_grown) (by go_size) hb; clear hb; obtain ⟨c0, f0, z0⟩ := hk (w.heap.size) (by go_size); obtain ⟨c1, f1, z1⟩ := hk (w.heap.size + 1) (by go_size); obtain ⟨c2, f2, z2⟩ := hk (w.heap.size + 2) (by go_size); clear hk))
  obtain ⟨r, hr⟩ : ∃ r, r = w.heap.size := ⟨_, rfl⟩
  obtain ⟨s, hs⟩ : ∃ s, s = w.heap.size + 1 := ⟨_, rfl⟩
  obtain ⟨z, hz⟩ : ∃ z, z = w.heap.size + 2 := ⟨_, rfl⟩
  have hB0 : Below w.heap.size w w1 := hB
  have HB0 := Lib.hid hB0
  have HF0 : Hid (PF r s z (.slice ao n cap) (.slice ao2 n cap2) c w1) := Lib.hid (by rw [hr, hs, hz]; exact ⟨by go_simp, by go_simp, by go_simp, by go_simp, by go_simp, by go_simp, by go_simp, by go_simp, by go_simp, by go_simp, by go_simp, by go_size, by go_size, by go_size⟩)
  have hz2 : w.heap.size + 1 + 1 = z := by omega
  rw [hz2, ← hs, ← hr]
  have Hr := Lib.hid hr
  have Hs := Lib.hid hs
  have Hz := Lib.hid hz
  have HC0 := Lib.hid (Arr.below HC.out (by have h2 := HB0.out; exact h2))
  have HI0 := Lib.hid (Arr.below HI.out (by have h2 := HB0.out; exact h2))
  clear HC HI KC hr hs hz hz2 hB hB0 hS c0 f0 z0 c1 f1 z1 c2 f2 z2
  go_loopw [8] (fun i wr => ∃ k : Nat, k ≤ n ∧ i = .int .i64 k ∧ Hid (∀ x ∈ l.take k, cmpC x.1 c < 0) ∧ Hid (Below w1.heap.size w1 wr)) (fun i _ => n - (intOf i).toNat)
  case atStart => exact ⟨0, by omega, rfl, Lib.hid (fun x hx => by simp at hx), Lib.hid (Below.refl _ _)⟩
  case round =>
    obtain ⟨k, hk, rfl, hT, hD⟩ := hrel
    have HF := Lib.hid (HF0.out.below hD.out)
    have hzr := hD.out.size
    by_cases hlt : k < n
    · obtain ⟨x, hx⟩ : ∃ x, l[k]? = some x := ⟨_, List.getElem?_eq_getElem (by rw [← Hn.out]; omega)⟩
      obtain ⟨g2, off2, rfl, _⟩ := Arr.lies HI0.out (by omega)
      obtain ⟨g, off, rfl, hg, ⟨x0, x1, x2, x3, x4⟩⟩ := Cells.at_ HC0.out (show (l.map Prod.fst)[k]? = some x.1 by rw [List.getElem?_map, hx]; rfl)
      obtain ⟨j0, j0f⟩ := keep_below hD.out g hg
      have hcm := Lib.hid fun W => rcmp_any x.1 c W
      have hgr : g < wr.heap.size := by omega
      obtain ⟨⟨xr, xc, xv, xg, xl⟩, xh⟩ := x
      obtain ⟨cr, cc, cv, cg, cl⟩ := c
      simp only [CellA.v] at hcm x0 x1 x2 x3 x4
      obtain ⟨cm, hcmv⟩ : ∃ m, m = cmpC ⟨xr, xc, xv, xg, xl⟩ ⟨cr, cc, cv, cg, cl⟩ := ⟨_, rfl⟩
      rw [← hcmv] at hcm
      have Hcm := Lib.hid hcmv
      have Hx := Lib.hid hx
      have kr0 := HF.out.r0
      have kr1 := HF.out.r1
      have ks0 := HF.out.s0
      have ks1 := HF.out.s1
      have ks2 := HF.out.s2
      have ks3 := HF.out.s3
      have ks4 := HF.out.s4
      have klr := HF.out.lr
      have kls := HF.out.ls
      simp only at ks0 ks1 ks2 ks3 ks4
      clear hx hcmv
      by_cases hneg : cm < 0
      · have hnd : decide (cm < 0) = true := by simpa using hneg
        have HT := Lib.hid (show ∀ y ∈ l.take (k + 1), cmpC y.1 ⟨cr, cc, cv, cg, cl⟩ < 0 from fun y hy => by rw [List.take_add_one, Hx.out] at hy; rcases List.mem_append.1 hy with hy | hy; exact hT.out y hy; simp at hy; subst hy; rw [← Hcm.out]; exact hneg)
        go_wp2_with fail
        refine wp_region_below (by kernel_rfl) (by kernel_rfl) (fun hkept => ?_)
        obtain ⟨r0, rf0⟩ := hkept (r) (by go_size); obtain ⟨r1, rf1⟩ := hkept (s) (by go_size); obtain ⟨r2, rf2⟩ := hkept (g) (by go_size); clear hkept
        repeat (any_goals (first | go_big_quiet_step (first | (go_at_call 34; exact Calls.regrown_of (hcm.out _))) | quiet_step (first | (go_at_call 34; exact Calls.regrown_of (hcm.out _))) | (refine wpQuiet_step (fun K hK => ?_); go_simp; split <;> (refine hK _ ?_; clear hK K))))
        all_goals (refine wpQuiet_nil ?_; intro w5 hb; obtain ⟨hB, hS, hk⟩ := after (B := wr.heap.size) (w := wr) (by go_grown) (by go_size) hb; obtain ⟨c0, f0, z0⟩ := hk (r) (by go_size); obtain ⟨c1, f1, z1⟩ := hk (s) (by go_size); obtain ⟨c2, f2, z2⟩ := hk (g) (by go_size); clear hk hb r0 rf0 r1 rf1 r2 rf2)
        go_wp2_with fail
        exact ⟨⟨k + 1, by omega, by go_num, HT, Lib.hid (hD.out.trans (hB.mono hzr))⟩, by simp [intOf]; omega⟩
      · have hnd : decide (cm < 0) = false := by simpa using hneg
        by_cases hz0 : cm = 0
        · have hze : decide (cm = 0) = true := by simpa using hz0
          have hzd : (cm == 0) = true := by simpa using hz0
          have HL := Lib.hid (putV_old (h := h) hT.out Hx.out (by rw [← Hcm.out]; exact hz0))
          obtain ⟨g3, off3, e3, hg3, jh⟩ := Ints.at_ HI0.out (show (l.map Prod.snd)[k]? = some xh by rw [List.getElem?_map, Hx.out]; rfl)
          cases e3
          go_wp2_with fail
          refine wp_region_below (by kernel_rfl) (by kernel_rfl) (fun hkept => ?_)
          obtain ⟨r0, rf0⟩ := hkept (r) (by go_size); obtain ⟨r1, rf1⟩ := hkept (s) (by go_size); obtain ⟨r2, rf2⟩ := hkept (g) (by go_size); clear hkept
          repeat (any_goals (first | go_big_quiet_step (first | (go_at_call 34; exact Calls.regrown_of (hcm.out _))) | quiet_step (first | (go_at_call 34; exact Calls.regrown_of (hcm.out _))) | (refine wpQuiet_step (fun K hK => ?_); go_simp; split <;> (refine hK _ ?_; clear hK K))))
          all_goals (refine wpQuiet_nil ?_; intro w5 hb; obtain ⟨hB, hS, hk⟩ := after (B := wr.heap.size) (w := wr) (by go_grown) (by go_size) hb; obtain ⟨c0, f0, z0⟩ := hk (r) (by go_size); obtain ⟨c1, f1, z1⟩ := hk (s) (by go_size); obtain ⟨c2, f2, z2⟩ := hk (g) (by go_size); clear hk hb r0 rf0 r1 rf1 r2 rf2)
          have HB5 := Lib.hid (hD.out.trans (hB.mono hzr))
          have hgr5 : g < w5.heap.size := Nat.lt_of_lt_of_le hgr hB.size
          have hr5 : r < w5.heap.size := Nat.lt_of_lt_of_le klr hB.size
          have hs5 : s < w5.heap.size := Nat.lt_of_lt_of_le kls hB.size
          clear hB hS
          go_wp2_with fail
          refine wp_region_below (by kernel_rfl) (by kernel_rfl) (fun hkept => ?_)
          obtain ⟨r0, rf0⟩ := hkept (r) (by go_size); obtain ⟨r1, rf1⟩ := hkept (s) (by go_size); obtain ⟨r2, rf2⟩ := hkept (g) (by go_size); clear hkept
          repeat (any_goals (first | go_big_quiet_step (first | (go_at_call 34; exact Calls.regrown_of (hcm.out _))) | quiet_step (first | (go_at_call 34; exact Calls.regrown_of (hcm.out _))) | (refine wpQuiet_step (fun K hK => ?_); go_simp; split <;> (refine hK _ ?_; clear hK K))))
          all_goals (refine wpQuiet_nil ?_; intro w6 hb; obtain ⟨hB, hS, hk⟩ := after (B := w5.heap.size) (w := w5) (by go_grown) (by go_size) hb; obtain ⟨c0, f0, z0⟩ := hk (r) (by go_size); obtain ⟨c1, f1, z1⟩ := hk (s) (by go_size); obtain ⟨c2, f2, z2⟩ := hk (g) (by go_size); clear hk hb r0 rf0 r1 rf1 r2 rf2)
          have HW := Lib.hid (HB5.out.trans (hB.mono HB5.out.size))
          clear hB hS HB5 hgr5 hr5 hs5 c0 f0 z0 c1 f1 z1 c2 f2 z2 hD hT HF hzr hcm x0 x1 x2 x3 x4 j0 j0f hg hgr
          clear kr0 kr1 ks0 ks1 ks2 ks3 ks4 klr kls
          have jr1 := (HF0.out.below HW.out).r1
          have jh6 := (HW.out.cell (p := ⟨g2, off2 + k, none⟩) hg3).trans jh
          have HFt := Lib.hid (HF0.out.below HW.out)
          have HCt := Lib.hid (Arr.below HC0.out HW.out)
          have HIt := Lib.hid (Arr.below HI0.out HW.out)
          have HBt := Lib.hid (HB0.out.trans (HW.out.mono HB0.out.size))
          obtain ⟨p, hp⟩ : ∃ p, p = w6.heap.size := ⟨_, rfl⟩
          have hrp : r < p := by rw [hp]; exact HFt.out.lr
          have hsp : s < p := by rw [hp]; exact HFt.out.ls
          have hzp : z < p := by rw [hp]; exact HFt.out.lz
          have hn1 : ¬ r = p := by omega
          have hn2 : ¬ s = p := by omega
          have hn3 : ¬ p = r := by omega
          have hn4 : ¬ p = s := by omega
          have hn5 : ¬ z = p := by omega
          have hn6 : ¬ p = z := by omega
          go_wp2_with fail
          obtain ⟨V0, hV0⟩ : ∃ X : World, X = w6.alloc (.cells #[.slice none 0 0, .slice none 0 0] 41) := ⟨_, rfl⟩
          have O : Hid (OneR p 26 5 (.slice none 0 0) 0 [] V0) := Lib.hid (by rw [hV0, hp]; exact ⟨by go_simp, by go_simp, by go_simp, by go_simp, Row.nil _ _ _ _, by go_size⟩)
          have E : Hid (Below p w6 V0) := Lib.hid (by rw [hV0]; exact (Below.refl _ _).alloc (by omega) _)
          have hpe : w6.heap.size = p := hp.symm
          rw [← hV0, ← hp]
          have Hpe := Lib.hid hpe
          clear hV0 hp hpe
          have F' := HFt.out.below (by rw [Hpe.out]; exact E.out : Below w6.heap.size w6 V0)
          have kr0 := F'.r0
          have kr1 := F'.r1
          have klr := F'.lr
          have q0 := O.out.c0
          have lp := O.out.lt
          clear F'
          refine wp_region_below_tail 6 (by kernel_rfl) (by kernel_rfl) (fun hkept => ?_)
          obtain ⟨r0, rf0⟩ := hkept (r) (by go_size); obtain ⟨r1, rf1⟩ := hkept (p) (by go_size); clear hkept
          simp only [List.take_succ_cons, List.take_zero, List.drop_succ_cons, List.drop_zero]
          repeat (any_goals (first | go_big_quiet_step (fail) | quiet_step (fail) | (refine wpQuiet_step (fun K hK => ?_); go_simp; split <;> (refine hK _ ?_; clear hK K))))
          all_goals (refine wpQuiet_nil ?_; intro u1 hb; obtain ⟨hB, hS, hk⟩ := after (B := V0.heap.size) (w := V0) (by go_grown) (by go_size) hb; obtain ⟨c0, f0, z0⟩ := hk (r) (by go_size); obtain ⟨c1, f1, z1⟩ := hk (p) (by go_size); clear hk hb r0 rf0 r1 rf1)
          skip
          have E' := Lib.hid (E.out.trans (hB.mono (by have := O.out.lt; omega)))
          have O' := Lib.hid (O.out.below hB)
          clear E O hB hS c0 f0 z0 c1 f1 z1
          have E := E'
          have O := O'
          clear E' O'
          have S1 := Lib.hid (Arr.take (Arr.below HCt.out (by rw [Hpe.out]; exact E.out)) (show k ≤ n by omega))
          go_wp2_with (at_builtin; go_loud (refine wpList_append_arr _ rfl _ _ 22 rfl (p + 1) 26 i0 _ 5 64 Try.underlying22 Hi.out iz0 iz1 iz2 rfl (by decide) (.slice none 0 0) (0) _ rfl (O.out.ra) rfl (S1.out) (by omega) (by unfold maxLen; omega) (O.out.lt) ?_; intro vv1 V1 hr1 hb1 hg1; rw [Nat.zero_add] at hr1; obtain ⟨aa1, ca1, rfl⟩ := row_sl hr1; obtain ⟨y0, y1, y2, y3⟩ := OneR.mid O.out hg1; have O1 := Lib.hid (OneR.put O.out hr1 hg1); have E1 := Lib.hid (OneR.later O.out E.out hg1 (.slice aa1 (k) ca1)); clear hr1 hb1 hg1))
          refine NoPanic.normal ?_
          obtain ⟨W1x, hWx⟩ : ∃ X : World, X = V1.setCell ⟨p, 0, none⟩ (.slice aa1 (k) ca1) := ⟨_, rfl⟩
          rw [← hWx] at O1 E1 ⊢
          clear hWx y0 y1 y2 y3 O E
          have O := O1
          have E := E1
          clear O1 E1
          have F' := HFt.out.below (by rw [Hpe.out]; exact E.out : Below w6.heap.size w6 W1x)
          have ks0 := F'.s0
          have ks1 := F'.s1
          have ks2 := F'.s2
          have ks3 := F'.s3
          have ks4 := F'.s4
          simp only at ks0 ks1 ks2 ks3 ks4
          have q0 := O.out.c0
          have OA := Lib.hid (O.out.below ((Below.refl _ _).alloc (Nat.le_refl _) (.cells #[.string cr, .string cc, .int .u64 cv, .bool cg, .string cl] 26)))
          have EA := Lib.hid (E.out.trans ((Below.refl p W1x).alloc (Nat.le_of_lt O.out.lt) (.cells #[.string cr, .string cc, .int .u64 cv, .bool cg, .string cl] 26)))
          clear F' S1 kr0 kr1 klr lp
          go_wp2_with (at_builtin; go_loud (refine wpList_append_arr _ rfl _ _ 22 rfl (p + 1) 26 i0 _ 5 64 Try.underlying22 Hi.out iz0 iz1 iz2 rfl (by decide) (.slice aa1 (k) ca1) (k) _ rfl (OA.out.ra) rfl (cells_new W1x _ [⟨cr, cc, cv, cg, cl⟩] _ 1 _ rfl rfl (by decide) rfl) (by omega) (by unfold maxLen; omega) (OA.out.lt) ?_; intro vv2 V2 hr2 hb2 hg2; obtain ⟨aa2, ca2, rfl⟩ := row_sl hr2; obtain ⟨y0, y1, y2, y3⟩ := OneR.mid OA.out hg2; have O2 := Lib.hid (OneR.put OA.out hr2 hg2); have E2 := Lib.hid (OneR.later OA.out EA.out hg2 (.slice aa2 (k + 1) ca2)); clear hr2 hb2 hg2))
          clear OA EA q0 ks0 ks1 ks2 ks3 ks4
          obtain ⟨W2x, hWx⟩ : ∃ X : World, X = V2.setCell ⟨p, 0, none⟩ (.slice aa2 (k + 1) ca2) := ⟨_, rfl⟩
          rw [← hWx] at O2 E2 ⊢
          clear hWx y0 y1 y2 y3 O E
          have O := O2
          have E := E2
          clear O2 E2
          obtain ⟨A3, hA3⟩ : ∃ A, (if cap = k + 1 then some (⟨g, off, none⟩ : Addr) else some ⟨g, off + (k + 1) * 5, none⟩) = A := ⟨_, rfl⟩
          obtain ⟨A6, hA6⟩ : ∃ A, (if cap2 = k + 1 then some (⟨g2, off2, none⟩ : Addr) else some ⟨g2, off2 + (k + 1), none⟩) = A := ⟨_, rfl⟩
          have F' := HFt.out.below (by rw [Hpe.out]; exact E.out : Below w6.heap.size w6 W2x)
          have kr0 := F'.r0
          have kr1 := F'.r1
          have klr := F'.lr
          have q0 := O.out.c0
          have lp := O.out.lt
          clear F'
          refine wp_region_below_tail 6 (by kernel_rfl) (by kernel_rfl) (fun hkept => ?_)
          obtain ⟨r0, rf0⟩ := hkept (r) (by go_size); obtain ⟨r1, rf1⟩ := hkept (p) (by go_size); clear hkept
          simp only [List.take_succ_cons, List.take_zero, List.drop_succ_cons, List.drop_zero]
          repeat (any_goals (first | go_big_quiet_step (fail) | quiet_step (fail) | (refine wpQuiet_step (fun K hK => ?_); go_simp; split <;> (refine hK _ ?_; clear hK K))))
          all_goals (refine wpQuiet_nil ?_; intro u3 hb; obtain ⟨hB, hS, hk⟩ := after (B := W2x.heap.size) (w := W2x) (by go_grown) (by go_size) hb; obtain ⟨c0, f0, z0⟩ := hk (r) (by go_size); obtain ⟨c1, f1, z1⟩ := hk (p) (by go_size); clear hk hb r0 rf0 r1 rf1)
          skip
          have E' := Lib.hid (E.out.trans (hB.mono (by have := O.out.lt; omega)))
          have O' := Lib.hid (O.out.below hB)
          clear E O hB hS c0 f0 z0 c1 f1 z1
          have E := E'
          have O := O'
          clear E' O'
          have S3 := Lib.hid (arr_dropI (Arr.below HCt.out (by rw [Hpe.out]; exact E.out)) (k + 1) (show k + 1 ≤ n by omega) rfl)
          rw [hA3] at S3
          clear hA3
          go_wp2_with (at_builtin; go_loud (refine wpList_append_arr _ rfl _ _ 22 rfl (p + 1) 26 i0 _ 5 64 Try.underlying22 Hi.out iz0 iz1 iz2 rfl (by decide) (.slice aa2 (k + 1) ca2) (k + 1) _ rfl (O.out.ra) rfl (S3.out) (by omega) (by unfold maxLen; omega) (O.out.lt) ?_; intro vv3 V3 hr3 hb3 hg3; obtain ⟨aa3, ca3, rfl⟩ := row_sl hr3; obtain ⟨y0, y1, y2, y3⟩ := OneR.mid O.out hg3; have O3 := Lib.hid (OneR.put O.out hr3 hg3); have E3 := Lib.hid (OneR.later O.out E.out hg3 (.slice aa3 (k + 1 + (n - (k + 1))) ca3)); clear hr3 hb3 hg3))
          refine NoPanic.normal ?_
          obtain ⟨W3x, hWx⟩ : ∃ X : World, X = V3.setCell ⟨p, 0, none⟩ (.slice aa3 (k + 1 + (n - (k + 1))) ca3) := ⟨_, rfl⟩
          rw [← hWx] at O3 E3 ⊢
          clear hWx y0 y1 y2 y3 O E
          have O := O3
          have E := E3
          clear O3 E3
          obtain ⟨B3, hB3⟩ : ∃ b, b = W3x.heap.size := ⟨_, rfl⟩
          have O2 := Lib.hid (O.out.two 3)
          rw [← hB3] at O2
          clear O hB3 S3 kr0 kr1 klr q0 lp
          have O := O2
          clear O2
          go_wp2_with fail
          have F' := HFt.out.below (by rw [Hpe.out]; exact E.out : Below w6.heap.size w6 W3x)
          have kr0 := F'.r0
          have kr1 := F'.r1
          have klr := F'.lr
          have q1 := O.out.c1
          have lp := O.out.lt
          clear F'
          refine wp_region_below_tail 6 (by kernel_rfl) (by kernel_rfl) (fun hkept => ?_)
          obtain ⟨r0, rf0⟩ := hkept (r) (by go_size); obtain ⟨r1, rf1⟩ := hkept (p) (by go_size); clear hkept
          simp only [List.take_succ_cons, List.take_zero, List.drop_succ_cons, List.drop_zero]
          repeat (any_goals (first | go_big_quiet_step (fail) | quiet_step (fail) | (refine wpQuiet_step (fun K hK => ?_); go_simp; split <;> (refine hK _ ?_; clear hK K))))
          all_goals (refine wpQuiet_nil ?_; intro u4 hb; obtain ⟨hB, hS, hk⟩ := after (B := W3x.heap.size) (w := W3x) (by go_grown) (by go_size) hb; obtain ⟨c0, f0, z0⟩ := hk (r) (by go_size); obtain ⟨c1, f1, z1⟩ := hk (p) (by go_size); clear hk hb r0 rf0 r1 rf1)
          skip
          have E' := Lib.hid (E.out.trans (hB.mono (by have := O.out.lt; omega)))
          have O' := Lib.hid (O.out.below hB)
          clear E O hB hS c0 f0 z0 c1 f1 z1
          have E := E'
          have O := O'
          clear E' O'
          have S4 := Lib.hid (Arr.take (Arr.below HIt.out (by rw [Hpe.out]; exact E.out)) (show k ≤ n by omega))
          go_wp2_with (at_builtin; go_loud (refine wpList_append_arr _ rfl _ _ 39 rfl (B3) 3 i1 _ 1 8 Try.underlying39 Hj.out jz0 jz1 jz2 rfl (by decide) (.slice none 0 0) (0) _ rfl (O.out.rb) rfl (S4.out) (by omega) (by unfold maxLen; omega) (O.out.bl) ?_; intro vv4 V4 hr4 hb4 hg4; rw [Nat.zero_add] at hr4; obtain ⟨aa4, ca4, rfl⟩ := row_sl hr4; obtain ⟨y0, y1, y2, y3⟩ := TwoR.mid O.out hg4; have O4 := Lib.hid (TwoR.put O.out hr4 hg4); have E4 := Lib.hid (TwoR.later O.out E.out hg4 (.slice aa4 (k) ca4)); clear hr4 hb4 hg4))
          refine NoPanic.normal ?_
          obtain ⟨W4x, hWx⟩ : ∃ X : World, X = V4.setCell ⟨p, 1, none⟩ (.slice aa4 (k) ca4) := ⟨_, rfl⟩
          rw [← hWx] at O4 E4 ⊢
          clear hWx y0 y1 y2 y3 O E
          have O := O4
          have E := E4
          clear O4 E4
          have q1 := O.out.c1
          have OA := Lib.hid (O.out.below ((Below.refl _ _).alloc (Nat.le_refl _) (.cells #[.int .i64 (xh : Int)] 3)))
          have EA := Lib.hid (E.out.trans ((Below.refl p W4x).alloc (Nat.le_of_lt O.out.lt) (.cells #[.int .i64 (xh : Int)] 3)))
          clear S4 kr0 kr1 klr lp
          go_wp2_with (at_builtin; go_loud (refine wpList_append_arr _ rfl _ _ 39 rfl (B3) 3 i1 _ 1 8 Try.underlying39 Hj.out jz0 jz1 jz2 rfl (by decide) (.slice aa4 (k) ca4) (k) _ rfl (OA.out.rb) rfl (ints_new W4x _ xh _ rfl) (by omega) (by unfold maxLen; omega) (OA.out.bl) ?_; intro vv5 V5 hr5 hb5 hg5; obtain ⟨aa5, ca5, rfl⟩ := row_sl hr5; obtain ⟨y0, y1, y2, y3⟩ := TwoR.mid OA.out hg5; have O5 := Lib.hid (TwoR.put OA.out hr5 hg5); have E5 := Lib.hid (TwoR.later OA.out EA.out hg5 (.slice aa5 (k + 1) ca5)); clear hr5 hb5 hg5))
          clear OA EA q1
          obtain ⟨W5x, hWx⟩ : ∃ X : World, X = V5.setCell ⟨p, 1, none⟩ (.slice aa5 (k + 1) ca5) := ⟨_, rfl⟩
          rw [← hWx] at O5 E5 ⊢
          clear hWx y0 y1 y2 y3 O E
          have O := O5
          have E := E5
          clear O5 E5
          have F' := HFt.out.below (by rw [Hpe.out]; exact E.out : Below w6.heap.size w6 W5x)
          have kr0 := F'.r0
          have kr1 := F'.r1
          have klr := F'.lr
          have q1 := O.out.c1
          have lp := O.out.lt
          clear F'
          refine wp_region_below_tail 6 (by kernel_rfl) (by kernel_rfl) (fun hkept => ?_)
          obtain ⟨r0, rf0⟩ := hkept (r) (by go_size); obtain ⟨r1, rf1⟩ := hkept (p) (by go_size); clear hkept
          simp only [List.take_succ_cons, List.take_zero, List.drop_succ_cons, List.drop_zero]
          repeat (any_goals (first | go_big_quiet_step (fail) | quiet_step (fail) | (refine wpQuiet_step (fun K hK => ?_); go_simp; split <;> (refine hK _ ?_; clear hK K))))
          all_goals (refine wpQuiet_nil ?_; intro u6 hb; obtain ⟨hB, hS, hk⟩ := after (B := W5x.heap.size) (w := W5x) (by go_grown) (by go_size) hb; obtain ⟨c0, f0, z0⟩ := hk (r) (by go_size); obtain ⟨c1, f1, z1⟩ := hk (p) (by go_size); clear hk hb r0 rf0 r1 rf1)
          skip
          have E' := Lib.hid (E.out.trans (hB.mono (by have := O.out.lt; omega)))
          have O' := Lib.hid (O.out.below hB)
          clear E O hB hS c0 f0 z0 c1 f1 z1
          have E := E'
          have O := O'
          clear E' O'
          have S6 := Lib.hid (arr_dropI (o := off2 + (k + 1)) (Arr.below HIt.out (by rw [Hpe.out]; exact E.out)) (k + 1) (show k + 1 ≤ n by omega) (by rw [Nat.mul_one]))
          rw [hA6] at S6
          clear hA6
          go_wp2_with (at_builtin; go_loud (refine wpList_append_arr _ rfl _ _ 39 rfl (B3) 3 i1 _ 1 8 Try.underlying39 Hj.out jz0 jz1 jz2 rfl (by decide) (.slice aa5 (k + 1) ca5) (k + 1) _ rfl (O.out.rb) rfl (S6.out) (by omega) (by unfold maxLen; omega) (O.out.bl) ?_; intro vv6 V6 hr6 hb6 hg6; obtain ⟨aa6, ca6, rfl⟩ := row_sl hr6; obtain ⟨y0, y1, y2, y3⟩ := TwoR.mid O.out hg6; have O6 := Lib.hid (TwoR.put O.out hr6 hg6); have E6 := Lib.hid (TwoR.later O.out E.out hg6 (.slice aa6 (k + 1 + (n - (k + 1))) ca6)); clear hr6 hb6 hg6))
          refine NoPanic.normal ?_
          obtain ⟨W6x, hWx⟩ : ∃ X : World, X = V6.setCell ⟨p, 1, none⟩ (.slice aa6 (k + 1 + (n - (k + 1))) ca6) := ⟨_, rfl⟩
          rw [← hWx] at O6 E6 ⊢
          clear hWx y0 y1 y2 y3 O E
          have O := O6
          have E := E6
          clear O6 E6
          have F' := HFt.out.below (by rw [Hpe.out]; exact E.out : Below w6.heap.size w6 W6x)
          have kz0 := F'.z0
          have kz1 := F'.z1
          have kf0 := F'.f0
          have kf1 := F'.f1
          have klz := F'.lz
          have q0 := O.out.c0
          have q1 := O.out.c1
          have hq6 : w.heap.size ≤ z := by rw [Hz.out]; omega
          have hB6 : Below w.heap.size w W6x := HBt.out.trans (E.out.mono (by have := HBt.out.size; have := Hpe.out; omega))
          clear F' S6 kr0 kr1 klr lp
          go_wp2_with (first | (with_reducible refine bodyPost_ret (v := .tuple #[.agg #[.slice aa3 (k + 1 + (n - (k + 1))) ca3, .slice aa6 (k + 1 + (n - (k + 1))) ca6], .int .i64 0]) ?hr ?hd ?hR))
          case hd => rfl
          case hR =>
            rw [HP.out]
            obtain ⟨l1, l2⟩ := lm_lists l (k) (k + 1) ⟨cr, cc, cv, cg, cl⟩ xh
            have hLl : k + 1 + (n - (k + 1)) = (l.take (k) ++ ((⟨cr, cc, cv, cg, cl⟩ : CellA), xh) :: l.drop (k + 1)).length := by rw [List.length_append, List.length_take, List.length_cons, List.length_drop, ← Hn.out]; omega
            have hLM := lm_of hLl (by simp) O.out.ra l1 O.out.rb l2
            rw [← HL.out] at hLM
            have b1 := row_block O.out.ra
            have b2 := row_block O.out.rb
            have ble := O.out.le
            exact ⟨_, rfl, hLM.same (z := z) (fun g _ hg => (Below.heap_setCell _ _ _ _ hg).trans (Below.heap_setCell _ _ _ _ hg)) (by rw [World.size_setCell, World.size_setCell]; exact Nat.le_refl _) (fun _ _ _ _ _ _ e => by cases e; exact ⟨fun x hx => by have := b1 x hx; omega, fun x hx => by have := b2 x hx; omega⟩), (fun _ _ _ _ _ _ e => by cases e; exact ⟨fun x hx => by have := b1 x hx; omega, fun x hx => by have := b2 x hx; omega⟩), by go_grown⟩
          case hr => simp [results, Try.results14, go_sem, *]
        · have hze : decide (cm = 0) = false := by simpa using hz0
          have HL := Lib.hid (putV_new (h := h) hT.out Hx.out (by rw [← Hcm.out]; exact hneg) (by rw [← Hcm.out]; exact hz0))
          go_wp2_with fail
          refine wp_region_below (by kernel_rfl) (by kernel_rfl) (fun hkept => ?_)
          obtain ⟨r0, rf0⟩ := hkept (r) (by go_size); obtain ⟨r1, rf1⟩ := hkept (s) (by go_size); obtain ⟨r2, rf2⟩ := hkept (g) (by go_size); clear hkept
          repeat (any_goals (first | go_big_quiet_step (first | (go_at_call 34; exact Calls.regrown_of (hcm.out _))) | quiet_step (first | (go_at_call 34; exact Calls.regrown_of (hcm.out _))) | (refine wpQuiet_step (fun K hK => ?_); go_simp; split <;> (refine hK _ ?_; clear hK K))))
          all_goals (refine wpQuiet_nil ?_; intro w5 hb; obtain ⟨hB, hS, hk⟩ := after (B := wr.heap.size) (w := wr) (by go_grown) (by go_size) hb; obtain ⟨c0, f0, z0⟩ := hk (r) (by go_size); obtain ⟨c1, f1, z1⟩ := hk (s) (by go_size); obtain ⟨c2, f2, z2⟩ := hk (g) (by go_size); clear hk hb r0 rf0 r1 rf1 r2 rf2)
          have HB5 := Lib.hid (hD.out.trans (hB.mono hzr))
          have hgr5 : g < w5.heap.size := Nat.lt_of_lt_of_le hgr hB.size
          have hr5 : r < w5.heap.size := Nat.lt_of_lt_of_le klr hB.size
          have hs5 : s < w5.heap.size := Nat.lt_of_lt_of_le kls hB.size
          clear hB hS
          go_wp2_with fail
          refine wp_region_below (by kernel_rfl) (by kernel_rfl) (fun hkept => ?_)
          obtain ⟨r0, rf0⟩ := hkept (r) (by go_size); obtain ⟨r1, rf1⟩ := hkept (s) (by go_size); obtain ⟨r2, rf2⟩ := hkept (g) (by go_size); clear hkept
          repeat (any_goals (first | go_big_quiet_step (first | (go_at_call 34; exact Calls.regrown_of (hcm.out _))) | quiet_step (first | (go_at_call 34; exact Calls.regrown_of (hcm.out _))) | (refine wpQuiet_step (fun K hK => ?_); go_simp; split <;> (refine hK _ ?_; clear hK K))))
          all_goals (refine wpQuiet_nil ?_; intro w6 hb; obtain ⟨hB, hS, hk⟩ := after (B := w5.heap.size) (w := w5) (by go_grown) (by go_size) hb; obtain ⟨c0, f0, z0⟩ := hk (r) (by go_size); obtain ⟨c1, f1, z1⟩ := hk (s) (by go_size); obtain ⟨c2, f2, z2⟩ := hk (g) (by go_size); clear hk hb r0 rf0 r1 rf1 r2 rf2)
          have HW := Lib.hid (HB5.out.trans (hB.mono HB5.out.size))
          clear hB hS HB5 hgr5 hr5 hs5 c0 f0 z0 c1 f1 z1 c2 f2 z2 hD hT HF hzr hcm x0 x1 x2 x3 x4 j0 j0f hg hgr
          clear kr0 kr1 ks0 ks1 ks2 ks3 ks4 klr kls
          have HFt := Lib.hid (HF0.out.below HW.out)
          have HCt := Lib.hid (Arr.below HC0.out HW.out)
          have HIt := Lib.hid (Arr.below HI0.out HW.out)
          have HBt := Lib.hid (HB0.out.trans (HW.out.mono HB0.out.size))
          obtain ⟨p, hp⟩ : ∃ p, p = w6.heap.size := ⟨_, rfl⟩
          have hrp : r < p := by rw [hp]; exact HFt.out.lr
          have hsp : s < p := by rw [hp]; exact HFt.out.ls
          have hzp : z < p := by rw [hp]; exact HFt.out.lz
          have hn1 : ¬ r = p := by omega
          have hn2 : ¬ s = p := by omega
          have hn3 : ¬ p = r := by omega
          have hn4 : ¬ p = s := by omega
          have hn5 : ¬ z = p := by omega
          have hn6 : ¬ p = z := by omega
          go_wp2_with fail
          obtain ⟨V0, hV0⟩ : ∃ X : World, X = w6.alloc (.cells #[.slice none 0 0, .slice none 0 0] 41) := ⟨_, rfl⟩
          have O : Hid (OneR p 26 5 (.slice none 0 0) 0 [] V0) := Lib.hid (by rw [hV0, hp]; exact ⟨by go_simp, by go_simp, by go_simp, by go_simp, Row.nil _ _ _ _, by go_size⟩)
          have E : Hid (Below p w6 V0) := Lib.hid (by rw [hV0]; exact (Below.refl _ _).alloc (by omega) _)
          have hpe : w6.heap.size = p := hp.symm
          rw [← hV0, ← hp]
          have Hpe := Lib.hid hpe
          clear hV0 hp hpe
          have F' := HFt.out.below (by rw [Hpe.out]; exact E.out : Below w6.heap.size w6 V0)
          have kr0 := F'.r0
          have kr1 := F'.r1
          have klr := F'.lr
          have q0 := O.out.c0
          have lp := O.out.lt
          clear F'
          refine wp_region_below_tail 6 (by kernel_rfl) (by kernel_rfl) (fun hkept => ?_)
          obtain ⟨r0, rf0⟩ := hkept (r) (by go_size); obtain ⟨r1, rf1⟩ := hkept (p) (by go_size); clear hkept
          simp only [List.take_succ_cons, List.take_zero, List.drop_succ_cons, List.drop_zero]
          repeat (any_goals (first | go_big_quiet_step (fail) | quiet_step (fail) | (refine wpQuiet_step (fun K hK => ?_); go_simp; split <;> (refine hK _ ?_; clear hK K))))
          all_goals (refine wpQuiet_nil ?_; intro u1 hb; obtain ⟨hB, hS, hk⟩ := after (B := V0.heap.size) (w := V0) (by go_grown) (by go_size) hb; obtain ⟨c0, f0, z0⟩ := hk (r) (by go_size); obtain ⟨c1, f1, z1⟩ := hk (p) (by go_size); clear hk hb r0 rf0 r1 rf1)
          skip
          have E' := Lib.hid (E.out.trans (hB.mono (by have := O.out.lt; omega)))
          have O' := Lib.hid (O.out.below hB)
          clear E O hB hS c0 f0 z0 c1 f1 z1
          have E := E'
          have O := O'
          clear E' O'
          have S1 := Lib.hid (Arr.take (Arr.below HCt.out (by rw [Hpe.out]; exact E.out)) (show k ≤ n by omega))
          go_wp2_with (at_builtin; go_loud (refine wpList_append_arr _ rfl _ _ 22 rfl (p + 1) 26 i0 _ 5 64 Try.underlying22 Hi.out iz0 iz1 iz2 rfl (by decide) (.slice none 0 0) (0) _ rfl (O.out.ra) rfl (S1.out) (by omega) (by unfold maxLen; omega) (O.out.lt) ?_; intro vv1 V1 hr1 hb1 hg1; rw [Nat.zero_add] at hr1; obtain ⟨aa1, ca1, rfl⟩ := row_sl hr1; obtain ⟨y0, y1, y2, y3⟩ := OneR.mid O.out hg1; have O1 := Lib.hid (OneR.put O.out hr1 hg1); have E1 := Lib.hid (OneR.later O.out E.out hg1 (.slice aa1 (k) ca1)); clear hr1 hb1 hg1))
          refine NoPanic.normal ?_
          obtain ⟨W1x, hWx⟩ : ∃ X : World, X = V1.setCell ⟨p, 0, none⟩ (.slice aa1 (k) ca1) := ⟨_, rfl⟩
          rw [← hWx] at O1 E1 ⊢
          clear hWx y0 y1 y2 y3 O E
          have O := O1
          have E := E1
          clear O1 E1
          have F' := HFt.out.below (by rw [Hpe.out]; exact E.out : Below w6.heap.size w6 W1x)
          have ks0 := F'.s0
          have ks1 := F'.s1
          have ks2 := F'.s2
          have ks3 := F'.s3
          have ks4 := F'.s4
          simp only at ks0 ks1 ks2 ks3 ks4
          have q0 := O.out.c0
          have OA := Lib.hid (O.out.below ((Below.refl _ _).alloc (Nat.le_refl _) (.cells #[.string cr, .string cc, .int .u64 cv, .bool cg, .string cl] 26)))
          have EA := Lib.hid (E.out.trans ((Below.refl p W1x).alloc (Nat.le_of_lt O.out.lt) (.cells #[.string cr, .string cc, .int .u64 cv, .bool cg, .string cl] 26)))
          clear F' S1 kr0 kr1 klr lp
          go_wp2_with (at_builtin; go_loud (refine wpList_append_arr _ rfl _ _ 22 rfl (p + 1) 26 i0 _ 5 64 Try.underlying22 Hi.out iz0 iz1 iz2 rfl (by decide) (.slice aa1 (k) ca1) (k) _ rfl (OA.out.ra) rfl (cells_new W1x _ [⟨cr, cc, cv, cg, cl⟩] _ 1 _ rfl rfl (by decide) rfl) (by omega) (by unfold maxLen; omega) (OA.out.lt) ?_; intro vv2 V2 hr2 hb2 hg2; obtain ⟨aa2, ca2, rfl⟩ := row_sl hr2; obtain ⟨y0, y1, y2, y3⟩ := OneR.mid OA.out hg2; have O2 := Lib.hid (OneR.put OA.out hr2 hg2); have E2 := Lib.hid (OneR.later OA.out EA.out hg2 (.slice aa2 (k + 1) ca2)); clear hr2 hb2 hg2))
          clear OA EA q0 ks0 ks1 ks2 ks3 ks4
          obtain ⟨W2x, hWx⟩ : ∃ X : World, X = V2.setCell ⟨p, 0, none⟩ (.slice aa2 (k + 1) ca2) := ⟨_, rfl⟩
          rw [← hWx] at O2 E2 ⊢
          clear hWx y0 y1 y2 y3 O E
          have O := O2
          have E := E2
          clear O2 E2
          have F' := HFt.out.below (by rw [Hpe.out]; exact E.out : Below w6.heap.size w6 W2x)
          have kr0 := F'.r0
          have kr1 := F'.r1
          have klr := F'.lr
          have q0 := O.out.c0
          have lp := O.out.lt
          clear F'
          refine wp_region_below_tail 6 (by kernel_rfl) (by kernel_rfl) (fun hkept => ?_)
          obtain ⟨r0, rf0⟩ := hkept (r) (by go_size); obtain ⟨r1, rf1⟩ := hkept (p) (by go_size); clear hkept
          simp only [List.take_succ_cons, List.take_zero, List.drop_succ_cons, List.drop_zero]
          repeat (any_goals (first | go_big_quiet_step (fail) | quiet_step (fail) | (refine wpQuiet_step (fun K hK => ?_); go_simp; split <;> (refine hK _ ?_; clear hK K))))
          all_goals (refine wpQuiet_nil ?_; intro u3 hb; obtain ⟨hB, hS, hk⟩ := after (B := W2x.heap.size) (w := W2x) (by go_grown) (by go_size) hb; obtain ⟨c0, f0, z0⟩ := hk (r) (by go_size); obtain ⟨c1, f1, z1⟩ := hk (p) (by go_size); clear hk hb r0 rf0 r1 rf1)
          skip
          have E' := Lib.hid (E.out.trans (hB.mono (by have := O.out.lt; omega)))
          have O' := Lib.hid (O.out.below hB)
          clear E O hB hS c0 f0 z0 c1 f1 z1
          have E := E'
          have O := O'
          clear E' O'
          have S3 := Lib.hid (arr_drop8 (Arr.below HCt.out (by rw [Hpe.out]; exact E.out)) (k) (show k ≤ n by omega) rfl)
          go_wp2_with (at_builtin; go_loud (refine wpList_append_arr _ rfl _ _ 22 rfl (p + 1) 26 i0 _ 5 64 Try.underlying22 Hi.out iz0 iz1 iz2 rfl (by decide) (.slice aa2 (k + 1) ca2) (k + 1) _ rfl (O.out.ra) rfl (S3.out) (by omega) (by unfold maxLen; omega) (O.out.lt) ?_; intro vv3 V3 hr3 hb3 hg3; obtain ⟨aa3, ca3, rfl⟩ := row_sl hr3; obtain ⟨y0, y1, y2, y3⟩ := OneR.mid O.out hg3; have O3 := Lib.hid (OneR.put O.out hr3 hg3); have E3 := Lib.hid (OneR.later O.out E.out hg3 (.slice aa3 (k + 1 + (n - (k))) ca3)); clear hr3 hb3 hg3))
          refine NoPanic.normal ?_
          obtain ⟨W3x, hWx⟩ : ∃ X : World, X = V3.setCell ⟨p, 0, none⟩ (.slice aa3 (k + 1 + (n - (k))) ca3) := ⟨_, rfl⟩
          rw [← hWx] at O3 E3 ⊢
          clear hWx y0 y1 y2 y3 O E
          have O := O3
          have E := E3
          clear O3 E3
          obtain ⟨B3, hB3⟩ : ∃ b, b = W3x.heap.size := ⟨_, rfl⟩
          have O2 := Lib.hid (O.out.two 3)
          rw [← hB3] at O2
          clear O hB3 S3 kr0 kr1 klr q0 lp
          have O := O2
          clear O2
          go_wp2_with fail
          have F' := HFt.out.below (by rw [Hpe.out]; exact E.out : Below w6.heap.size w6 W3x)
          have kr0 := F'.r0
          have kr1 := F'.r1
          have klr := F'.lr
          have q1 := O.out.c1
          have lp := O.out.lt
          clear F'
          refine wp_region_below_tail 6 (by kernel_rfl) (by kernel_rfl) (fun hkept => ?_)
          obtain ⟨r0, rf0⟩ := hkept (r) (by go_size); obtain ⟨r1, rf1⟩ := hkept (p) (by go_size); clear hkept
          simp only [List.take_succ_cons, List.take_zero, List.drop_succ_cons, List.drop_zero]
          repeat (any_goals (first | go_big_quiet_step (fail) | quiet_step (fail) | (refine wpQuiet_step (fun K hK => ?_); go_simp; split <;> (refine hK _ ?_; clear hK K))))
          all_goals (refine wpQuiet_nil ?_; intro u4 hb; obtain ⟨hB, hS, hk⟩ := after (B := W3x.heap.size) (w := W3x) (by go_grown) (by go_size) hb; obtain ⟨c0, f0, z0⟩ := hk (r) (by go_size); obtain ⟨c1, f1, z1⟩ := hk (p) (by go_size); clear hk hb r0 rf0 r1 rf1)
          skip
          have E' := Lib.hid (E.out.trans (hB.mono (by have := O.out.lt; omega)))
          have O' := Lib.hid (O.out.below hB)
          clear E O hB hS c0 f0 z0 c1 f1 z1
          have E := E'
          have O := O'
          clear E' O'
          have S4 := Lib.hid (Arr.take (Arr.below HIt.out (by rw [Hpe.out]; exact E.out)) (show k ≤ n by omega))
          go_wp2_with (at_builtin; go_loud (refine wpList_append_arr _ rfl _ _ 39 rfl (B3) 3 i1 _ 1 8 Try.underlying39 Hj.out jz0 jz1 jz2 rfl (by decide) (.slice none 0 0) (0) _ rfl (O.out.rb) rfl (S4.out) (by omega) (by unfold maxLen; omega) (O.out.bl) ?_; intro vv4 V4 hr4 hb4 hg4; rw [Nat.zero_add] at hr4; obtain ⟨aa4, ca4, rfl⟩ := row_sl hr4; obtain ⟨y0, y1, y2, y3⟩ := TwoR.mid O.out hg4; have O4 := Lib.hid (TwoR.put O.out hr4 hg4); have E4 := Lib.hid (TwoR.later O.out E.out hg4 (.slice aa4 (k) ca4)); clear hr4 hb4 hg4))
          refine NoPanic.normal ?_
          obtain ⟨W4x, hWx⟩ : ∃ X : World, X = V4.setCell ⟨p, 1, none⟩ (.slice aa4 (k) ca4) := ⟨_, rfl⟩
          rw [← hWx] at O4 E4 ⊢
          clear hWx y0 y1 y2 y3 O E
          have O := O4
          have E := E4
          clear O4 E4
          have q1 := O.out.c1
          have OA := Lib.hid (O.out.below ((Below.refl _ _).alloc (Nat.le_refl _) (.cells #[.int .i64 (h : Int)] 3)))
          have EA := Lib.hid (E.out.trans ((Below.refl p W4x).alloc (Nat.le_of_lt O.out.lt) (.cells #[.int .i64 (h : Int)] 3)))
          clear S4 kr0 kr1 klr lp
          go_wp2_with (at_builtin; go_loud (refine wpList_append_arr _ rfl _ _ 39 rfl (B3) 3 i1 _ 1 8 Try.underlying39 Hj.out jz0 jz1 jz2 rfl (by decide) (.slice aa4 (k) ca4) (k) _ rfl (OA.out.rb) rfl (ints_new W4x _ h _ rfl) (by omega) (by unfold maxLen; omega) (OA.out.bl) ?_; intro vv5 V5 hr5 hb5 hg5; obtain ⟨aa5, ca5, rfl⟩ := row_sl hr5; obtain ⟨y0, y1, y2, y3⟩ := TwoR.mid OA.out hg5; have O5 := Lib.hid (TwoR.put OA.out hr5 hg5); have E5 := Lib.hid (TwoR.later OA.out EA.out hg5 (.slice aa5 (k + 1) ca5)); clear hr5 hb5 hg5))
          clear OA EA q1
          obtain ⟨W5x, hWx⟩ : ∃ X : World, X = V5.setCell ⟨p, 1, none⟩ (.slice aa5 (k + 1) ca5) := ⟨_, rfl⟩
          rw [← hWx] at O5 E5 ⊢
          clear hWx y0 y1 y2 y3 O E
          have O := O5
          have E := E5
          clear O5 E5
          have F' := HFt.out.below (by rw [Hpe.out]; exact E.out : Below w6.heap.size w6 W5x)
          have kr0 := F'.r0
          have kr1 := F'.r1
          have klr := F'.lr
          have q1 := O.out.c1
          have lp := O.out.lt
          clear F'
          refine wp_region_below_tail 6 (by kernel_rfl) (by kernel_rfl) (fun hkept => ?_)
          obtain ⟨r0, rf0⟩ := hkept (r) (by go_size); obtain ⟨r1, rf1⟩ := hkept (p) (by go_size); clear hkept
          simp only [List.take_succ_cons, List.take_zero, List.drop_succ_cons, List.drop_zero]
          repeat (any_goals (first | go_big_quiet_step (fail) | quiet_step (fail) | (refine wpQuiet_step (fun K hK => ?_); go_simp; split <;> (refine hK _ ?_; clear hK K))))
          all_goals (refine wpQuiet_nil ?_; intro u6 hb; obtain ⟨hB, hS, hk⟩ := after (B := W5x.heap.size) (w := W5x) (by go_grown) (by go_size) hb; obtain ⟨c0, f0, z0⟩ := hk (r) (by go_size); obtain ⟨c1, f1, z1⟩ := hk (p) (by go_size); clear hk hb r0 rf0 r1 rf1)
          skip
          have E' := Lib.hid (E.out.trans (hB.mono (by have := O.out.lt; omega)))
          have O' := Lib.hid (O.out.below hB)
          clear E O hB hS c0 f0 z0 c1 f1 z1
          have E := E'
          have O := O'
          clear E' O'
          have S6 := Lib.hid (arr_drop8 (o := off2 + (k)) (Arr.below HIt.out (by rw [Hpe.out]; exact E.out)) (k) (show k ≤ n by omega) (by rw [Nat.mul_one]))
          go_wp2_with (at_builtin; go_loud (refine wpList_append_arr _ rfl _ _ 39 rfl (B3) 3 i1 _ 1 8 Try.underlying39 Hj.out jz0 jz1 jz2 rfl (by decide) (.slice aa5 (k + 1) ca5) (k + 1) _ rfl (O.out.rb) rfl (S6.out) (by omega) (by unfold maxLen; omega) (O.out.bl) ?_; intro vv6 V6 hr6 hb6 hg6; obtain ⟨aa6, ca6, rfl⟩ := row_sl hr6; obtain ⟨y0, y1, y2, y3⟩ := TwoR.mid O.out hg6; have O6 := Lib.hid (TwoR.put O.out hr6 hg6); have E6 := Lib.hid (TwoR.later O.out E.out hg6 (.slice aa6 (k + 1 + (n - (k))) ca6)); clear hr6 hb6 hg6))
          refine NoPanic.normal ?_
          obtain ⟨W6x, hWx⟩ : ∃ X : World, X = V6.setCell ⟨p, 1, none⟩ (.slice aa6 (k + 1 + (n - (k))) ca6) := ⟨_, rfl⟩
          rw [← hWx] at O6 E6 ⊢
          clear hWx y0 y1 y2 y3 O E
          have O := O6
          have E := E6
          clear O6 E6
          have F' := HFt.out.below (by rw [Hpe.out]; exact E.out : Below w6.heap.size w6 W6x)
          have kz0 := F'.z0
          have kz1 := F'.z1
          have kf0 := F'.f0
          have kf1 := F'.f1
          have klz := F'.lz
          have q0 := O.out.c0
          have q1 := O.out.c1
          have hq6 : w.heap.size ≤ z := by rw [Hz.out]; omega
          have hB6 : Below w.heap.size w W6x := HBt.out.trans (E.out.mono (by have := HBt.out.size; have := Hpe.out; omega))
          clear F' S6 kr0 kr1 klr lp
          go_wp2_with (first | (with_reducible refine bodyPost_ret (v := .tuple #[.agg #[.slice aa3 (k + 1 + (n - (k))) ca3, .slice aa6 (k + 1 + (n - (k))) ca6], .int .i64 0]) ?hr ?hd ?hR))
          case hd => rfl
          case hR =>
            rw [HP.out]
            obtain ⟨l1, l2⟩ := lm_lists l (k) (k) ⟨cr, cc, cv, cg, cl⟩ h
            have hLl : k + 1 + (n - (k)) = (l.take (k) ++ ((⟨cr, cc, cv, cg, cl⟩ : CellA), h) :: l.drop (k)).length := by rw [List.length_append, List.length_take, List.length_cons, List.length_drop, ← Hn.out]; omega
            have hLM := lm_of hLl (by simp) O.out.ra l1 O.out.rb l2
            rw [← HL.out] at hLM
            have b1 := row_block O.out.ra
            have b2 := row_block O.out.rb
            have ble := O.out.le
            exact ⟨_, rfl, hLM.same (z := z) (fun g _ hg => (Below.heap_setCell _ _ _ _ hg).trans (Below.heap_setCell _ _ _ _ hg)) (by rw [World.size_setCell, World.size_setCell]; exact Nat.le_refl _) (fun _ _ _ _ _ _ e => by cases e; exact ⟨fun x hx => by have := b1 x hx; omega, fun x hx => by have := b2 x hx; omega⟩), (fun _ _ _ _ _ _ e => by cases e; exact ⟨fun x hx => by have := b1 x hx; omega, fun x hx => by have := b2 x hx; omega⟩), by go_grown⟩
          case hr => simp [results, Try.results14, go_sem, *]
    · obtain rfl : k = n := by omega
      obtain ⟨g2, off2, rfl, _⟩ := Arr.lies HI0.out (by omega)
      obtain ⟨g, off, rfl, _⟩ := Arr.lies HC0.out (by omega)
      obtain ⟨cr, cc, cv, cg, cl⟩ := c
      have HL := Lib.hid (putV_none (h := h) hT.out (List.getElem?_eq_none (by rw [← Hn.out]; exact Nat.le_refl _)))
      have kr0 := HF.out.r0
      have kr1 := HF.out.r1
      have ks0 := HF.out.s0
      have ks1 := HF.out.s1
      have ks2 := HF.out.s2
      have ks3 := HF.out.s3
      have ks4 := HF.out.s4
      have klr := HF.out.lr
      have kls := HF.out.ls
      simp only at ks0 ks1 ks2 ks3 ks4
      go_wp2_with fail
      refine wp_region_below (by kernel_rfl) (by kernel_rfl) (fun hkept => ?_)
      obtain ⟨r0, rf0⟩ := hkept (r) (by go_size); clear hkept
      repeat (any_goals (first | go_big_quiet_step (fail) | quiet_step (fail) | (refine wpQuiet_step (fun K hK => ?_); go_simp; split <;> (refine hK _ ?_; clear hK K))))
      all_goals (refine wpQuiet_nil ?_; intro w5 hb; obtain ⟨hB, hS, hk⟩ := after (B := wr.heap.size) (w := wr) (by go_grown) (by go_size) hb; obtain ⟨c0, f0, z0⟩ := hk (r) (by go_size); clear hk hb r0 rf0)
      have HB5 := Lib.hid (hD.out.trans (hB.mono hzr))
      have hr5 : r < w5.heap.size := Nat.lt_of_lt_of_le klr hB.size
      clear hB hS
      go_wp2_with fail
      refine wp_region_below (by kernel_rfl) (by kernel_rfl) (fun hkept => ?_)
      obtain ⟨r0, rf0⟩ := hkept (r) (by go_size); clear hkept
      repeat (any_goals (first | go_big_quiet_step (fail) | quiet_step (fail) | (refine wpQuiet_step (fun K hK => ?_); go_simp; split <;> (refine hK _ ?_; clear hK K))))
      all_goals (refine wpQuiet_nil ?_; intro w6 hb; obtain ⟨hB, hS, hk⟩ := after (B := w5.heap.size) (w := w5) (by go_grown) (by go_size) hb; obtain ⟨c0, f0, z0⟩ := hk (r) (by go_size); clear hk hb r0 rf0)
      have HW := Lib.hid (HB5.out.trans (hB.mono HB5.out.size))
      clear hB hS HB5 hr5 c0 f0 z0 hD hT HF hzr
      clear kr0 kr1 ks0 ks1 ks2 ks3 ks4 klr kls
      have HFt := Lib.hid (HF0.out.below HW.out)
      have HCt := Lib.hid (Arr.below HC0.out HW.out)
      have HIt := Lib.hid (Arr.below HI0.out HW.out)
      have HBt := Lib.hid (HB0.out.trans (HW.out.mono HB0.out.size))
      obtain ⟨p, hp⟩ : ∃ p, p = w6.heap.size := ⟨_, rfl⟩
      have hrp : r < p := by rw [hp]; exact HFt.out.lr
      have hsp : s < p := by rw [hp]; exact HFt.out.ls
      have hzp : z < p := by rw [hp]; exact HFt.out.lz
      have hn1 : ¬ r = p := by omega
      have hn2 : ¬ s = p := by omega
      have hn3 : ¬ p = r := by omega
      have hn4 : ¬ p = s := by omega
      have hn5 : ¬ z = p := by omega
      have hn6 : ¬ p = z := by omega
      go_wp2_with fail
      obtain ⟨V0, hV0⟩ : ∃ X : World, X = w6.alloc (.cells #[.slice none 0 0, .slice none 0 0] 41) := ⟨_, rfl⟩
      have O : Hid (OneR p 26 5 (.slice none 0 0) 0 [] V0) := Lib.hid (by rw [hV0, hp]; exact ⟨by go_simp, by go_simp, by go_simp, by go_simp, Row.nil _ _ _ _, by go_size⟩)
      have E : Hid (Below p w6 V0) := Lib.hid (by rw [hV0]; exact (Below.refl _ _).alloc (by omega) _)
      have hpe : w6.heap.size = p := hp.symm
      rw [← hV0, ← hp]
      have Hpe := Lib.hid hpe
      clear hV0 hp hpe
      have F' := HFt.out.below (by rw [Hpe.out]; exact E.out : Below w6.heap.size w6 V0)
      have kr0 := F'.r0
      have kr1 := F'.r1
      have klr := F'.lr
      have q0 := O.out.c0
      have lp := O.out.lt
      clear F'
      refine wp_region_below_tail 6 (by kernel_rfl) (by kernel_rfl) (fun hkept => ?_)
      obtain ⟨r0, rf0⟩ := hkept (r) (by go_size); obtain ⟨r1, rf1⟩ := hkept (p) (by go_size); clear hkept
      simp only [List.take_succ_cons, List.take_zero, List.drop_succ_cons, List.drop_zero]
      repeat (any_goals (first | go_big_quiet_step (fail) | quiet_step (fail) | (refine wpQuiet_step (fun K hK => ?_); go_simp; split <;> (refine hK _ ?_; clear hK K))))
      all_goals (refine wpQuiet_nil ?_; intro u1 hb; obtain ⟨hB, hS, hk⟩ := after (B := V0.heap.size) (w := V0) (by go_grown) (by go_size) hb; obtain ⟨c0, f0, z0⟩ := hk (r) (by go_size); obtain ⟨c1, f1, z1⟩ := hk (p) (by go_size); clear hk hb r0 rf0 r1 rf1)
      skip
      have E' := Lib.hid (E.out.trans (hB.mono (by have := O.out.lt; omega)))
      have O' := Lib.hid (O.out.below hB)
      clear E O hB hS c0 f0 z0 c1 f1 z1
      have E := E'
      have O := O'
      clear E' O'
      have S1 := Lib.hid (Arr.take (Arr.below HCt.out (by rw [Hpe.out]; exact E.out)) (show k ≤ k by omega))
      go_wp2_with (at_builtin; go_loud (refine wpList_append_arr _ rfl _ _ 22 rfl (p + 1) 26 i0 _ 5 64 Try.underlying22 Hi.out iz0 iz1 iz2 rfl (by decide) (.slice none 0 0) (0) _ rfl (O.out.ra) rfl (S1.out) (by omega) (by unfold maxLen; omega) (O.out.lt) ?_; intro vv1 V1 hr1 hb1 hg1; rw [Nat.zero_add] at hr1; obtain ⟨aa1, ca1, rfl⟩ := row_sl hr1; obtain ⟨y0, y1, y2, y3⟩ := OneR.mid O.out hg1; have O1 := Lib.hid (OneR.put O.out hr1 hg1); have E1 := Lib.hid (OneR.later O.out E.out hg1 (.slice aa1 (k) ca1)); clear hr1 hb1 hg1))
      refine NoPanic.normal ?_
      obtain ⟨W1x, hWx⟩ : ∃ X : World, X = V1.setCell ⟨p, 0, none⟩ (.slice aa1 (k) ca1) := ⟨_, rfl⟩
      rw [← hWx] at O1 E1 ⊢
      clear hWx y0 y1 y2 y3 O E
      have O := O1
      have E := E1
      clear O1 E1
      have F' := HFt.out.below (by rw [Hpe.out]; exact E.out : Below w6.heap.size w6 W1x)
      have ks0 := F'.s0
      have ks1 := F'.s1
      have ks2 := F'.s2
      have ks3 := F'.s3
      have ks4 := F'.s4
      simp only at ks0 ks1 ks2 ks3 ks4
      have q0 := O.out.c0
      have OA := Lib.hid (O.out.below ((Below.refl _ _).alloc (Nat.le_refl _) (.cells #[.string cr, .string cc, .int .u64 cv, .bool cg, .string cl] 26)))
      have EA := Lib.hid (E.out.trans ((Below.refl p W1x).alloc (Nat.le_of_lt O.out.lt) (.cells #[.string cr, .string cc, .int .u64 cv, .bool cg, .string cl] 26)))
      clear F' S1 kr0 kr1 klr lp
      go_wp2_with (at_builtin; go_loud (refine wpList_append_arr _ rfl _ _ 22 rfl (p + 1) 26 i0 _ 5 64 Try.underlying22 Hi.out iz0 iz1 iz2 rfl (by decide) (.slice aa1 (k) ca1) (k) _ rfl (OA.out.ra) rfl (cells_new W1x _ [⟨cr, cc, cv, cg, cl⟩] _ 1 _ rfl rfl (by decide) rfl) (by omega) (by unfold maxLen; omega) (OA.out.lt) ?_; intro vv2 V2 hr2 hb2 hg2; obtain ⟨aa2, ca2, rfl⟩ := row_sl hr2; obtain ⟨y0, y1, y2, y3⟩ := OneR.mid OA.out hg2; have O2 := Lib.hid (OneR.put OA.out hr2 hg2); have E2 := Lib.hid (OneR.later OA.out EA.out hg2 (.slice aa2 (k + 1) ca2)); clear hr2 hb2 hg2))
      clear OA EA q0 ks0 ks1 ks2 ks3 ks4
      obtain ⟨W2x, hWx⟩ : ∃ X : World, X = V2.setCell ⟨p, 0, none⟩ (.slice aa2 (k + 1) ca2) := ⟨_, rfl⟩
      rw [← hWx] at O2 E2 ⊢
      clear hWx y0 y1 y2 y3 O E
      have O := O2
      have E := E2
      clear O2 E2
      obtain ⟨A3, hA3⟩ : ∃ A, (if cap = k then some (⟨g, off, none⟩ : Addr) else some ⟨g, off + (k) * 5, none⟩) = A := ⟨_, rfl⟩
      obtain ⟨A6, hA6⟩ : ∃ A, (if cap2 = k then some (⟨g2, off2, none⟩ : Addr) else some ⟨g2, off2 + (k), none⟩) = A := ⟨_, rfl⟩
      have F' := HFt.out.below (by rw [Hpe.out]; exact E.out : Below w6.heap.size w6 W2x)
      have kr0 := F'.r0
      have kr1 := F'.r1
      have klr := F'.lr
      have q0 := O.out.c0
      have lp := O.out.lt
      clear F'
      refine wp_region_below_tail 6 (by kernel_rfl) (by kernel_rfl) (fun hkept => ?_)
      obtain ⟨r0, rf0⟩ := hkept (r) (by go_size); obtain ⟨r1, rf1⟩ := hkept (p) (by go_size); clear hkept
      simp only [List.take_succ_cons, List.take_zero, List.drop_succ_cons, List.drop_zero]
      repeat (any_goals (first | go_big_quiet_step (fail) | quiet_step (fail) | (refine wpQuiet_step (fun K hK => ?_); go_simp; split <;> (refine hK _ ?_; clear hK K))))
      all_goals (refine wpQuiet_nil ?_; intro u3 hb; obtain ⟨hB, hS, hk⟩ := after (B := W2x.heap.size) (w := W2x) (by go_grown) (by go_size) hb; obtain ⟨c0, f0, z0⟩ := hk (r) (by go_size); obtain ⟨c1, f1, z1⟩ := hk (p) (by go_size); clear hk hb r0 rf0 r1 rf1)
      skip
      have E' := Lib.hid (E.out.trans (hB.mono (by have := O.out.lt; omega)))
      have O' := Lib.hid (O.out.below hB)
      clear E O hB hS c0 f0 z0 c1 f1 z1
      have E := E'
      have O := O'
      clear E' O'
      have S3 := Lib.hid (arr_dropI (Arr.below HCt.out (by rw [Hpe.out]; exact E.out)) (k) (show k ≤ k by omega) rfl)
      rw [Nat.sub_self] at S3
      rw [hA3] at S3
      clear hA3
      go_wp2_with (at_builtin; go_loud (refine wpList_append_arr _ rfl _ _ 22 rfl (p + 1) 26 i0 _ 5 64 Try.underlying22 Hi.out iz0 iz1 iz2 rfl (by decide) (.slice aa2 (k + 1) ca2) (k + 1) _ rfl (O.out.ra) rfl (S3.out) (by omega) (by unfold maxLen; omega) (O.out.lt) ?_; intro vv3 V3 hr3 hb3 hg3; rw [Nat.add_zero] at hr3; obtain ⟨aa3, ca3, rfl⟩ := row_sl hr3; obtain ⟨y0, y1, y2, y3⟩ := OneR.mid O.out hg3; have O3 := Lib.hid (OneR.put O.out hr3 hg3); have E3 := Lib.hid (OneR.later O.out E.out hg3 (.slice aa3 (k + 1) ca3)); clear hr3 hb3 hg3))
      refine NoPanic.normal ?_
      obtain ⟨W3x, hWx⟩ : ∃ X : World, X = V3.setCell ⟨p, 0, none⟩ (.slice aa3 (k + 1) ca3) := ⟨_, rfl⟩
      rw [← hWx] at O3 E3 ⊢
      clear hWx y0 y1 y2 y3 O E
      have O := O3
      have E := E3
      clear O3 E3
      obtain ⟨B3, hB3⟩ : ∃ b, b = W3x.heap.size := ⟨_, rfl⟩
      have O2 := Lib.hid (O.out.two 3)
      rw [← hB3] at O2
      clear O hB3 S3 kr0 kr1 klr q0 lp
      have O := O2
      clear O2
      go_wp2_with fail
      have F' := HFt.out.below (by rw [Hpe.out]; exact E.out : Below w6.heap.size w6 W3x)
      have kr0 := F'.r0
      have kr1 := F'.r1
      have klr := F'.lr
      have q1 := O.out.c1
      have lp := O.out.lt
      clear F'
      refine wp_region_below_tail 6 (by kernel_rfl) (by kernel_rfl) (fun hkept => ?_)
      obtain ⟨r0, rf0⟩ := hkept (r) (by go_size); obtain ⟨r1, rf1⟩ := hkept (p) (by go_size); clear hkept
      simp only [List.take_succ_cons, List.take_zero, List.drop_succ_cons, List.drop_zero]
      repeat (any_goals (first | go_big_quiet_step (fail) | quiet_step (fail) | (refine wpQuiet_step (fun K hK => ?_); go_simp; split <;> (refine hK _ ?_; clear hK K))))
      all_goals (refine wpQuiet_nil ?_; intro u4 hb; obtain ⟨hB, hS, hk⟩ := after (B := W3x.heap.size) (w := W3x) (by go_grown) (by go_size) hb; obtain ⟨c0, f0, z0⟩ := hk (r) (by go_size); obtain ⟨c1, f1, z1⟩ := hk (p) (by go_size); clear hk hb r0 rf0 r1 rf1)
      skip
      have E' := Lib.hid (E.out.trans (hB.mono (by have := O.out.lt; omega)))
      have O' := Lib.hid (O.out.below hB)
      clear E O hB hS c0 f0 z0 c1 f1 z1
      have E := E'
      have O := O'
      clear E' O'
      have S4 := Lib.hid (Arr.take (Arr.below HIt.out (by rw [Hpe.out]; exact E.out)) (show k ≤ k by omega))
      go_wp2_with (at_builtin; go_loud (refine wpList_append_arr _ rfl _ _ 39 rfl (B3) 3 i1 _ 1 8 Try.underlying39 Hj.out jz0 jz1 jz2 rfl (by decide) (.slice none 0 0) (0) _ rfl (O.out.rb) rfl (S4.out) (by omega) (by unfold maxLen; omega) (O.out.bl) ?_; intro vv4 V4 hr4 hb4 hg4; rw [Nat.zero_add] at hr4; obtain ⟨aa4, ca4, rfl⟩ := row_sl hr4; obtain ⟨y0, y1, y2, y3⟩ := TwoR.mid O.out hg4; have O4 := Lib.hid (TwoR.put O.out hr4 hg4); have E4 := Lib.hid (TwoR.later O.out E.out hg4 (.slice aa4 (k) ca4)); clear hr4 hb4 hg4))
      refine NoPanic.normal ?_
      obtain ⟨W4x, hWx⟩ : ∃ X : World, X = V4.setCell ⟨p, 1, none⟩ (.slice aa4 (k) ca4) := ⟨_, rfl⟩
      rw [← hWx] at O4 E4 ⊢
      clear hWx y0 y1 y2 y3 O E
      have O := O4
      have E := E4
      clear O4 E4
      have q1 := O.out.c1
      have OA := Lib.hid (O.out.below ((Below.refl _ _).alloc (Nat.le_refl _) (.cells #[.int .i64 (h : Int)] 3)))
      have EA := Lib.hid (E.out.trans ((Below.refl p W4x).alloc (Nat.le_of_lt O.out.lt) (.cells #[.int .i64 (h : Int)] 3)))
      clear S4 kr0 kr1 klr lp
      go_wp2_with (at_builtin; go_loud (refine wpList_append_arr _ rfl _ _ 39 rfl (B3) 3 i1 _ 1 8 Try.underlying39 Hj.out jz0 jz1 jz2 rfl (by decide) (.slice aa4 (k) ca4) (k) _ rfl (OA.out.rb) rfl (ints_new W4x _ h _ rfl) (by omega) (by unfold maxLen; omega) (OA.out.bl) ?_; intro vv5 V5 hr5 hb5 hg5; obtain ⟨aa5, ca5, rfl⟩ := row_sl hr5; obtain ⟨y0, y1, y2, y3⟩ := TwoR.mid OA.out hg5; have O5 := Lib.hid (TwoR.put OA.out hr5 hg5); have E5 := Lib.hid (TwoR.later OA.out EA.out hg5 (.slice aa5 (k + 1) ca5)); clear hr5 hb5 hg5))
      clear OA EA q1
      obtain ⟨W5x, hWx⟩ : ∃ X : World, X = V5.setCell ⟨p, 1, none⟩ (.slice aa5 (k + 1) ca5) := ⟨_, rfl⟩
      rw [← hWx] at O5 E5 ⊢
      clear hWx y0 y1 y2 y3 O E
      have O := O5
      have E := E5
      clear O5 E5
      have F' := HFt.out.below (by rw [Hpe.out]; exact E.out : Below w6.heap.size w6 W5x)
      have kr0 := F'.r0
      have kr1 := F'.r1
      have klr := F'.lr
      have q1 := O.out.c1
      have lp := O.out.lt
      clear F'
      refine wp_region_below_tail 6 (by kernel_rfl) (by kernel_rfl) (fun hkept => ?_)
      obtain ⟨r0, rf0⟩ := hkept (r) (by go_size); obtain ⟨r1, rf1⟩ := hkept (p) (by go_size); clear hkept
      simp only [List.take_succ_cons, List.take_zero, List.drop_succ_cons, List.drop_zero]
      repeat (any_goals (first | go_big_quiet_step (fail) | quiet_step (fail) | (refine wpQuiet_step (fun K hK => ?_); go_simp; split <;> (refine hK _ ?_; clear hK K))))
      all_goals (refine wpQuiet_nil ?_; intro u6 hb; obtain ⟨hB, hS, hk⟩ := after (B := W5x.heap.size) (w := W5x) (by go_grown) (by go_size) hb; obtain ⟨c0, f0, z0⟩ := hk (r) (by go_size); obtain ⟨c1, f1, z1⟩ := hk (p) (by go_size); clear hk hb r0 rf0 r1 rf1)
      skip
      have E' := Lib.hid (E.out.trans (hB.mono (by have := O.out.lt; omega)))
      have O' := Lib.hid (O.out.below hB)
      clear E O hB hS c0 f0 z0 c1 f1 z1
      have E := E'
      have O := O'
      clear E' O'
      have S6 := Lib.hid (arr_dropI (o := off2 + (k)) (Arr.below HIt.out (by rw [Hpe.out]; exact E.out)) (k) (show k ≤ k by omega) (by rw [Nat.mul_one]))
      rw [Nat.sub_self] at S6
      rw [hA6] at S6
      clear hA6
      go_wp2_with (at_builtin; go_loud (refine wpList_append_arr _ rfl _ _ 39 rfl (B3) 3 i1 _ 1 8 Try.underlying39 Hj.out jz0 jz1 jz2 rfl (by decide) (.slice aa5 (k + 1) ca5) (k + 1) _ rfl (O.out.rb) rfl (S6.out) (by omega) (by unfold maxLen; omega) (O.out.bl) ?_; intro vv6 V6 hr6 hb6 hg6; rw [Nat.add_zero] at hr6; obtain ⟨aa6, ca6, rfl⟩ := row_sl hr6; obtain ⟨y0, y1, y2, y3⟩ := TwoR.mid O.out hg6; have O6 := Lib.hid (TwoR.put O.out hr6 hg6); have E6 := Lib.hid (TwoR.later O.out E.out hg6 (.slice aa6 (k + 1) ca6)); clear hr6 hb6 hg6))
      refine NoPanic.normal ?_
      obtain ⟨W6x, hWx⟩ : ∃ X : World, X = V6.setCell ⟨p, 1, none⟩ (.slice aa6 (k + 1) ca6) := ⟨_, rfl⟩
      rw [← hWx] at O6 E6 ⊢
      clear hWx y0 y1 y2 y3 O E
      have O := O6
      have E := E6
      clear O6 E6
      have F' := HFt.out.below (by rw [Hpe.out]; exact E.out : Below w6.heap.size w6 W6x)
      have kz0 := F'.z0
      have kz1 := F'.z1
      have kf0 := F'.f0
      have kf1 := F'.f1
      have klz := F'.lz
      have q0 := O.out.c0
      have q1 := O.out.c1
      have hq6 : w.heap.size ≤ z := by rw [Hz.out]; omega
      have hB6 : Below w.heap.size w W6x := HBt.out.trans (E.out.mono (by have := HBt.out.size; have := Hpe.out; omega))
      clear F' S6 kr0 kr1 klr lp
      go_wp2_with (first | (with_reducible refine bodyPost_ret (v := .tuple #[.agg #[.slice aa3 (k + 1) ca3, .slice aa6 (k + 1) ca6], .int .i64 0]) ?hr ?hd ?hR))
      case hd => rfl
      case hR =>
        rw [HP.out]
        obtain ⟨l1, l2⟩ := lm_lists l (k) (k) ⟨cr, cc, cv, cg, cl⟩ h
        have hLl : k + 1 = (l.take (k) ++ ((⟨cr, cc, cv, cg, cl⟩ : CellA), h) :: l.drop (k)).length := by rw [List.length_append, List.length_take, List.length_cons, List.length_drop, ← Hn.out]; omega
        have hLM := lm_of hLl (by simp) O.out.ra l1 O.out.rb l2
        rw [← HL.out] at hLM
        have b1 := row_block O.out.ra
        have b2 := row_block O.out.rb
        have ble := O.out.le
        exact ⟨_, rfl, hLM.same (z := z) (fun g _ hg => (Below.heap_setCell _ _ _ _ hg).trans (Below.heap_setCell _ _ _ _ hg)) (by rw [World.size_setCell, World.size_setCell]; exact Nat.le_refl _) (fun _ _ _ _ _ _ e => by cases e; exact ⟨fun x hx => by have := b1 x hx; omega, fun x hx => by have := b2 x hx; omega⟩), (fun _ _ _ _ _ _ e => by cases e; exact ⟨fun x hx => by have := b1 x hx; omega, fun x hx => by have := b2 x hx; omega⟩), by go_grown⟩
      case hr => simp [results, Try.results14, go_sem, *]
set_option maxRecDepth 100000 in
set_option maxHeartbeats 4000000 in
theorem rput_nil (c : CellA) (hok : c.Ok) (hcl : cellL c = true) (h : Nat) (h1 : 1 ≤ h) (h12 : h ≤ 12) (w : World) :
    Calls Try.prog 14 #[.agg #[.slice none 0 0, .slice none 0 0], .agg #[.string c.row, .string c.col, .int .u64 c.ver, .bool c.gone, .string c.val], .int .i64 h] w fun e w' =>
      ∃ v', e = .returned (.tuple #[v', .int .i64 0]) ∧ LM w' v' (putV c h []) ∧ NewS w.heap.size v' ∧ Below w.heap.size w w' := by
  obtain ⟨P, hP⟩ : ∃ P : Ending → World → Prop, P = fun e w' => ∃ v', e = .returned (.tuple #[v', .int .i64 0]) ∧ LM w' v' (putV c h []) ∧ NewS w.heap.size v' ∧ Below w.heap.size w w' := ⟨_, rfl⟩
  rw [← hP]
  have HP := Lib.hid hP
  clear hP
  obtain ⟨i0, hi, iz0, iz1, iz2⟩ := info_parts Try.info_cell
  obtain ⟨i1, hj, jz0, jz1, jz2⟩ := info_parts info_intB
  have Hi := Lib.hid hi
  have Hj := Lib.hid hj
  clear hi hj
  have KC := Lib.hid fun (W : World) => rcell_any c W hok
  have he : errB (cellL c) = 0 := by rw [hcl]; rfl
  simp only [CellA.v] at KC
  rw [he] at KC
  clear he hcl hok
  have HL : Hid (putV c h [] = ([] : List CH).take 0 ++ (c, h) :: ([] : List CH).drop 0) := Lib.hid rfl
  obtain ⟨l, hl⟩ : ∃ l : List CH, l = [] := ⟨_, rfl⟩
  rw [← hl] at HL HP
  have Hln := Lib.hid hl
  clear hl
  have t1 : decide ((h : Int) < 1) = false := by simp; omega
  have t2 : decide ((12 : Int) < (h : Int)) = false := by simp; omega
  have t3 : decide (h < 1) = false := by simp; omega
  have t4 : decide (12 < h) = false := by simp; omega
  go_enter Try.func14, Try.ntmps14
  go_wp2_with (first | (go_at_call 33; refine (KC.out _).mono ?_; rintro e w1 ⟨rfl, hb⟩; obtain ⟨hB, hS, hk⟩ := after (B := w.heap.size) (w := w) (by go_grown) (by go_size) hb; clear hb; obtain ⟨c0, f0, z0⟩ := hk (w.heap.size) (by go_size); obtain ⟨c1, f1, z1⟩ := hk (w.heap.size + 1) (by go_size); obtain ⟨c2, f2, z2⟩ := hk (w.heap.size + 2) (by go_size); clear hk))
  obtain ⟨r, hr⟩ : ∃ r, r = w.heap.size := ⟨_, rfl⟩
  obtain ⟨s, hs⟩ : ∃ s, s = w.heap.size + 1 := ⟨_, rfl⟩
  obtain ⟨z, hz⟩ : ∃ z, z = w.heap.size + 2 := ⟨_, rfl⟩
  have hB0 : Below w.heap.size w w1 := hB
  have HB0 := Lib.hid hB0
  have HF0 : Hid (PF r s z (.slice none 0 0) (.slice none 0 0) c w1) := Lib.hid (by rw [hr, hs, hz]; exact ⟨by go_simp, by go_simp, by go_simp, by go_simp, by go_simp, by go_simp, by go_simp, by go_simp, by go_simp, by go_simp, by go_simp, by go_size, by go_size, by go_size⟩)
  have hz2 : w.heap.size + 1 + 1 = z := by omega
  rw [hz2, ← hs, ← hr]
  have Hr := Lib.hid hr
  have Hs := Lib.hid hs
  have Hz := Lib.hid hz
  clear KC hr hs hz hz2 hB hB0 hS c0 f0 z0 c1 f1 z1 c2 f2 z2
  go_loopw [8] (fun i wr => i = .int .i64 0 ∧ w1 = wr) (fun _ _ => 0)
  case atStart => exact ⟨rfl, rfl⟩
  case round =>
    obtain ⟨rfl, rfl⟩ := hrel
    have HF := HF0
    obtain ⟨cr, cc, cv, cg, cl⟩ := c
    have kr0 := HF.out.r0
    have kr1 := HF.out.r1
    have ks0 := HF.out.s0
    have ks1 := HF.out.s1
    have ks2 := HF.out.s2
    have ks3 := HF.out.s3
    have ks4 := HF.out.s4
    have klr := HF.out.lr
    have kls := HF.out.ls
    simp only at ks0 ks1 ks2 ks3 ks4
    go_wp2_with fail
    refine wp_region_below (by kernel_rfl) (by kernel_rfl) (fun hkept => ?_)
    obtain ⟨r0, rf0⟩ := hkept (r) (by go_size); clear hkept
    repeat (any_goals (first | go_big_quiet_step (fail) | quiet_step (fail) | (refine wpQuiet_step (fun K hK => ?_); go_simp; split <;> (refine hK _ ?_; clear hK K))))
    all_goals (refine wpQuiet_nil ?_; intro w5 hb; obtain ⟨hB, hS, hk⟩ := after (B := w1.heap.size) (w := w1) (by go_grown) (by go_size) hb; obtain ⟨c0, f0, z0⟩ := hk (r) (by go_size); clear hk hb r0 rf0)
    have HB5 := Lib.hid hB
    have hr5 : r < w5.heap.size := Nat.lt_of_lt_of_le klr hB.size
    clear hB hS
    go_wp2_with fail
    refine wp_region_below (by kernel_rfl) (by kernel_rfl) (fun hkept => ?_)
    obtain ⟨r0, rf0⟩ := hkept (r) (by go_size); clear hkept
    repeat (any_goals (first | go_big_quiet_step (fail) | quiet_step (fail) | (refine wpQuiet_step (fun K hK => ?_); go_simp; split <;> (refine hK _ ?_; clear hK K))))
    all_goals (refine wpQuiet_nil ?_; intro w6 hb; obtain ⟨hB, hS, hk⟩ := after (B := w5.heap.size) (w := w5) (by go_grown) (by go_size) hb; obtain ⟨c0, f0, z0⟩ := hk (r) (by go_size); clear hk hb r0 rf0)
    have HW := Lib.hid (HB5.out.trans (hB.mono HB5.out.size))
    clear hB hS HB5 hr5 c0 f0 z0 HF
    clear kr0 kr1 ks0 ks1 ks2 ks3 ks4 klr kls
    have HFt := Lib.hid (HF0.out.below HW.out)
    have HBt := Lib.hid (HB0.out.trans (HW.out.mono HB0.out.size))
    obtain ⟨p, hp⟩ : ∃ p, p = w6.heap.size := ⟨_, rfl⟩
    have hrp : r < p := by rw [hp]; exact HFt.out.lr
    have hsp : s < p := by rw [hp]; exact HFt.out.ls
    have hzp : z < p := by rw [hp]; exact HFt.out.lz
    have hn1 : ¬ r = p := by omega
    have hn2 : ¬ s = p := by omega
    have hn3 : ¬ p = r := by omega
    have hn4 : ¬ p = s := by omega
    have hn5 : ¬ z = p := by omega
    have hn6 : ¬ p = z := by omega
    go_wp2_with fail
    obtain ⟨V0, hV0⟩ : ∃ X : World, X = w6.alloc (.cells #[.slice none 0 0, .slice none 0 0] 41) := ⟨_, rfl⟩
    have O : Hid (OneR p 26 5 (.slice none 0 0) 0 [] V0) := Lib.hid (by rw [hV0, hp]; exact ⟨by go_simp, by go_simp, by go_simp, by go_simp, Row.nil _ _ _ _, by go_size⟩)
    have E : Hid (Below p w6 V0) := Lib.hid (by rw [hV0]; exact (Below.refl _ _).alloc (by omega) _)
    have hpe : w6.heap.size = p := hp.symm
    rw [← hV0, ← hp]
    have Hpe := Lib.hid hpe
    clear hV0 hp hpe
    have F' := HFt.out.below (by rw [Hpe.out]; exact E.out : Below w6.heap.size w6 V0)
    have kr0 := F'.r0
    have kr1 := F'.r1
    have klr := F'.lr
    have q0 := O.out.c0
    have lp := O.out.lt
    clear F'
    refine wp_region_below_tail 6 (by kernel_rfl) (by kernel_rfl) (fun hkept => ?_)
    obtain ⟨r0, rf0⟩ := hkept (r) (by go_size); obtain ⟨r1, rf1⟩ := hkept (p) (by go_size); clear hkept
    simp only [List.take_succ_cons, List.take_zero, List.drop_succ_cons, List.drop_zero]
    repeat (any_goals (first | go_big_quiet_step (fail) | quiet_step (fail) | (refine wpQuiet_step (fun K hK => ?_); go_simp; split <;> (refine hK _ ?_; clear hK K))))
    all_goals (refine wpQuiet_nil ?_; intro u1 hb; obtain ⟨hB, hS, hk⟩ := after (B := V0.heap.size) (w := V0) (by go_grown) (by go_size) hb; obtain ⟨c0, f0, z0⟩ := hk (r) (by go_size); obtain ⟨c1, f1, z1⟩ := hk (p) (by go_size); clear hk hb r0 rf0 r1 rf1)
    skip
    have E' := Lib.hid (E.out.trans (hB.mono (by have := O.out.lt; omega)))
    have O' := Lib.hid (O.out.below hB)
    clear E O hB hS c0 f0 z0 c1 f1 z1
    have E := E'
    have O := O'
    clear E' O'
    have S1 := Lib.hid (Arr.nil u1 5)
    go_wp2_with (at_builtin; go_loud (refine wpList_append_arr _ rfl _ _ 22 rfl (p + 1) 26 i0 _ 5 64 Try.underlying22 Hi.out iz0 iz1 iz2 rfl (by decide) (.slice none 0 0) (0) _ rfl (O.out.ra) rfl (S1.out) (by omega) (by unfold maxLen; omega) (O.out.lt) ?_; intro vv1 V1 hr1 hb1 hg1; rw [Nat.zero_add] at hr1; obtain ⟨aa1, ca1, rfl⟩ := row_sl hr1; obtain ⟨y0, y1, y2, y3⟩ := OneR.mid O.out hg1; have O1 := Lib.hid (OneR.put O.out hr1 hg1); have E1 := Lib.hid (OneR.later O.out E.out hg1 (.slice aa1 (0) ca1)); clear hr1 hb1 hg1))
    refine NoPanic.normal ?_
    obtain ⟨W1x, hWx⟩ : ∃ X : World, X = V1.setCell ⟨p, 0, none⟩ (.slice aa1 (0) ca1) := ⟨_, rfl⟩
    rw [← hWx] at O1 E1 ⊢
    clear hWx y0 y1 y2 y3 O E
    have O := O1
    have E := E1
    clear O1 E1
    have F' := HFt.out.below (by rw [Hpe.out]; exact E.out : Below w6.heap.size w6 W1x)
    have ks0 := F'.s0
    have ks1 := F'.s1
    have ks2 := F'.s2
    have ks3 := F'.s3
    have ks4 := F'.s4
    simp only at ks0 ks1 ks2 ks3 ks4
    have q0 := O.out.c0
    have OA := Lib.hid (O.out.below ((Below.refl _ _).alloc (Nat.le_refl _) (.cells #[.string cr, .string cc, .int .u64 cv, .bool cg, .string cl] 26)))
    have EA := Lib.hid (E.out.trans ((Below.refl p W1x).alloc (Nat.le_of_lt O.out.lt) (.cells #[.string cr, .string cc, .int .u64 cv, .bool cg, .string cl] 26)))
    clear F' S1 kr0 kr1 klr lp
    go_wp2_with (at_builtin; go_loud (refine wpList_append_arr _ rfl _ _ 22 rfl (p + 1) 26 i0 _ 5 64 Try.underlying22 Hi.out iz0 iz1 iz2 rfl (by decide) (.slice aa1 (0) ca1) (0) _ rfl (OA.out.ra) rfl (cells_new W1x _ [⟨cr, cc, cv, cg, cl⟩] _ 1 _ rfl rfl (by decide) rfl) (by omega) (by unfold maxLen; omega) (OA.out.lt) ?_; intro vv2 V2 hr2 hb2 hg2; obtain ⟨aa2, ca2, rfl⟩ := row_sl hr2; obtain ⟨y0, y1, y2, y3⟩ := OneR.mid OA.out hg2; have O2 := Lib.hid (OneR.put OA.out hr2 hg2); have E2 := Lib.hid (OneR.later OA.out EA.out hg2 (.slice aa2 (0 + 1) ca2)); clear hr2 hb2 hg2))
    clear OA EA q0 ks0 ks1 ks2 ks3 ks4
    obtain ⟨W2x, hWx⟩ : ∃ X : World, X = V2.setCell ⟨p, 0, none⟩ (.slice aa2 (0 + 1) ca2) := ⟨_, rfl⟩
    rw [← hWx] at O2 E2 ⊢
    clear hWx y0 y1 y2 y3 O E
    have O := O2
    have E := E2
    clear O2 E2
    have F' := HFt.out.below (by rw [Hpe.out]; exact E.out : Below w6.heap.size w6 W2x)
    have kr0 := F'.r0
    have kr1 := F'.r1
    have klr := F'.lr
    have q0 := O.out.c0
    have lp := O.out.lt
    clear F'
    refine wp_region_below_tail 6 (by kernel_rfl) (by kernel_rfl) (fun hkept => ?_)
    obtain ⟨r0, rf0⟩ := hkept (r) (by go_size); obtain ⟨r1, rf1⟩ := hkept (p) (by go_size); clear hkept
    simp only [List.take_succ_cons, List.take_zero, List.drop_succ_cons, List.drop_zero]
    repeat (any_goals (first | go_big_quiet_step (fail) | quiet_step (fail) | (refine wpQuiet_step (fun K hK => ?_); go_simp; split <;> (refine hK _ ?_; clear hK K))))
    all_goals (refine wpQuiet_nil ?_; intro u3 hb; obtain ⟨hB, hS, hk⟩ := after (B := W2x.heap.size) (w := W2x) (by go_grown) (by go_size) hb; obtain ⟨c0, f0, z0⟩ := hk (r) (by go_size); obtain ⟨c1, f1, z1⟩ := hk (p) (by go_size); clear hk hb r0 rf0 r1 rf1)
    skip
    have E' := Lib.hid (E.out.trans (hB.mono (by have := O.out.lt; omega)))
    have O' := Lib.hid (O.out.below hB)
    clear E O hB hS c0 f0 z0 c1 f1 z1
    have E := E'
    have O := O'
    clear E' O'
    have S3 := Lib.hid (Arr.nil u3 5)
    go_wp2_with (at_builtin; go_loud (refine wpList_append_arr _ rfl _ _ 22 rfl (p + 1) 26 i0 _ 5 64 Try.underlying22 Hi.out iz0 iz1 iz2 rfl (by decide) (.slice aa2 (0 + 1) ca2) (0 + 1) _ rfl (O.out.ra) rfl (S3.out) (by omega) (by unfold maxLen; omega) (O.out.lt) ?_; intro vv3 V3 hr3 hb3 hg3; rw [Nat.add_zero] at hr3; obtain ⟨aa3, ca3, rfl⟩ := row_sl hr3; obtain ⟨y0, y1, y2, y3⟩ := OneR.mid O.out hg3; have O3 := Lib.hid (OneR.put O.out hr3 hg3); have E3 := Lib.hid (OneR.later O.out E.out hg3 (.slice aa3 (0 + 1) ca3)); clear hr3 hb3 hg3))
    refine NoPanic.normal ?_
    obtain ⟨W3x, hWx⟩ : ∃ X : World, X = V3.setCell ⟨p, 0, none⟩ (.slice aa3 (0 + 1) ca3) := ⟨_, rfl⟩
    rw [← hWx] at O3 E3 ⊢
    clear hWx y0 y1 y2 y3 O E
    have O := O3
    have E := E3
    clear O3 E3
    obtain ⟨B3, hB3⟩ : ∃ b, b = W3x.heap.size := ⟨_, rfl⟩
    have O2 := Lib.hid (O.out.two 3)
    rw [← hB3] at O2
    clear O hB3 S3 kr0 kr1 klr q0 lp
    have O := O2
    clear O2
    go_wp2_with fail
    have F' := HFt.out.below (by rw [Hpe.out]; exact E.out : Below w6.heap.size w6 W3x)
    have kr0 := F'.r0
    have kr1 := F'.r1
    have klr := F'.lr
    have q1 := O.out.c1
    have lp := O.out.lt
    clear F'
    refine wp_region_below_tail 6 (by kernel_rfl) (by kernel_rfl) (fun hkept => ?_)
    obtain ⟨r0, rf0⟩ := hkept (r) (by go_size); obtain ⟨r1, rf1⟩ := hkept (p) (by go_size); clear hkept
    simp only [List.take_succ_cons, List.take_zero, List.drop_succ_cons, List.drop_zero]
    repeat (any_goals (first | go_big_quiet_step (fail) | quiet_step (fail) | (refine wpQuiet_step (fun K hK => ?_); go_simp; split <;> (refine hK _ ?_; clear hK K))))
    all_goals (refine wpQuiet_nil ?_; intro u4 hb; obtain ⟨hB, hS, hk⟩ := after (B := W3x.heap.size) (w := W3x) (by go_grown) (by go_size) hb; obtain ⟨c0, f0, z0⟩ := hk (r) (by go_size); obtain ⟨c1, f1, z1⟩ := hk (p) (by go_size); clear hk hb r0 rf0 r1 rf1)
    skip
    have E' := Lib.hid (E.out.trans (hB.mono (by have := O.out.lt; omega)))
    have O' := Lib.hid (O.out.below hB)
    clear E O hB hS c0 f0 z0 c1 f1 z1
    have E := E'
    have O := O'
    clear E' O'
    have S4 := Lib.hid (Arr.nil u4 1)
    go_wp2_with (at_builtin; go_loud (refine wpList_append_arr _ rfl _ _ 39 rfl (B3) 3 i1 _ 1 8 Try.underlying39 Hj.out jz0 jz1 jz2 rfl (by decide) (.slice none 0 0) (0) _ rfl (O.out.rb) rfl (S4.out) (by omega) (by unfold maxLen; omega) (O.out.bl) ?_; intro vv4 V4 hr4 hb4 hg4; rw [Nat.zero_add] at hr4; obtain ⟨aa4, ca4, rfl⟩ := row_sl hr4; obtain ⟨y0, y1, y2, y3⟩ := TwoR.mid O.out hg4; have O4 := Lib.hid (TwoR.put O.out hr4 hg4); have E4 := Lib.hid (TwoR.later O.out E.out hg4 (.slice aa4 (0) ca4)); clear hr4 hb4 hg4))
    refine NoPanic.normal ?_
    obtain ⟨W4x, hWx⟩ : ∃ X : World, X = V4.setCell ⟨p, 1, none⟩ (.slice aa4 (0) ca4) := ⟨_, rfl⟩
    rw [← hWx] at O4 E4 ⊢
    clear hWx y0 y1 y2 y3 O E
    have O := O4
    have E := E4
    clear O4 E4
    have q1 := O.out.c1
    have OA := Lib.hid (O.out.below ((Below.refl _ _).alloc (Nat.le_refl _) (.cells #[.int .i64 (h : Int)] 3)))
    have EA := Lib.hid (E.out.trans ((Below.refl p W4x).alloc (Nat.le_of_lt O.out.lt) (.cells #[.int .i64 (h : Int)] 3)))
    clear S4 kr0 kr1 klr lp
    go_wp2_with (at_builtin; go_loud (refine wpList_append_arr _ rfl _ _ 39 rfl (B3) 3 i1 _ 1 8 Try.underlying39 Hj.out jz0 jz1 jz2 rfl (by decide) (.slice aa4 (0) ca4) (0) _ rfl (OA.out.rb) rfl (ints_new W4x _ h _ rfl) (by omega) (by unfold maxLen; omega) (OA.out.bl) ?_; intro vv5 V5 hr5 hb5 hg5; obtain ⟨aa5, ca5, rfl⟩ := row_sl hr5; obtain ⟨y0, y1, y2, y3⟩ := TwoR.mid OA.out hg5; have O5 := Lib.hid (TwoR.put OA.out hr5 hg5); have E5 := Lib.hid (TwoR.later OA.out EA.out hg5 (.slice aa5 (0 + 1) ca5)); clear hr5 hb5 hg5))
    clear OA EA q1
    obtain ⟨W5x, hWx⟩ : ∃ X : World, X = V5.setCell ⟨p, 1, none⟩ (.slice aa5 (0 + 1) ca5) := ⟨_, rfl⟩
    rw [← hWx] at O5 E5 ⊢
    clear hWx y0 y1 y2 y3 O E
    have O := O5
    have E := E5
    clear O5 E5
    have F' := HFt.out.below (by rw [Hpe.out]; exact E.out : Below w6.heap.size w6 W5x)
    have kr0 := F'.r0
    have kr1 := F'.r1
    have klr := F'.lr
    have q1 := O.out.c1
    have lp := O.out.lt
    clear F'
    refine wp_region_below_tail 6 (by kernel_rfl) (by kernel_rfl) (fun hkept => ?_)
    obtain ⟨r0, rf0⟩ := hkept (r) (by go_size); obtain ⟨r1, rf1⟩ := hkept (p) (by go_size); clear hkept
    simp only [List.take_succ_cons, List.take_zero, List.drop_succ_cons, List.drop_zero]
    repeat (any_goals (first | go_big_quiet_step (fail) | quiet_step (fail) | (refine wpQuiet_step (fun K hK => ?_); go_simp; split <;> (refine hK _ ?_; clear hK K))))
    all_goals (refine wpQuiet_nil ?_; intro u6 hb; obtain ⟨hB, hS, hk⟩ := after (B := W5x.heap.size) (w := W5x) (by go_grown) (by go_size) hb; obtain ⟨c0, f0, z0⟩ := hk (r) (by go_size); obtain ⟨c1, f1, z1⟩ := hk (p) (by go_size); clear hk hb r0 rf0 r1 rf1)
    skip
    have E' := Lib.hid (E.out.trans (hB.mono (by have := O.out.lt; omega)))
    have O' := Lib.hid (O.out.below hB)
    clear E O hB hS c0 f0 z0 c1 f1 z1
    have E := E'
    have O := O'
    clear E' O'
    have S6 := Lib.hid (Arr.nil u6 1)
    go_wp2_with (at_builtin; go_loud (refine wpList_append_arr _ rfl _ _ 39 rfl (B3) 3 i1 _ 1 8 Try.underlying39 Hj.out jz0 jz1 jz2 rfl (by decide) (.slice aa5 (0 + 1) ca5) (0 + 1) _ rfl (O.out.rb) rfl (S6.out) (by omega) (by unfold maxLen; omega) (O.out.bl) ?_; intro vv6 V6 hr6 hb6 hg6; rw [Nat.add_zero] at hr6; obtain ⟨aa6, ca6, rfl⟩ := row_sl hr6; obtain ⟨y0, y1, y2, y3⟩ := TwoR.mid O.out hg6; have O6 := Lib.hid (TwoR.put O.out hr6 hg6); have E6 := Lib.hid (TwoR.later O.out E.out hg6 (.slice aa6 (0 + 1) ca6)); clear hr6 hb6 hg6))
    refine NoPanic.normal ?_
    obtain ⟨W6x, hWx⟩ : ∃ X : World, X = V6.setCell ⟨p, 1, none⟩ (.slice aa6 (0 + 1) ca6) := ⟨_, rfl⟩
    rw [← hWx] at O6 E6 ⊢
    clear hWx y0 y1 y2 y3 O E
    have O := O6
    have E := E6
    clear O6 E6
    have F' := HFt.out.below (by rw [Hpe.out]; exact E.out : Below w6.heap.size w6 W6x)
    have kz0 := F'.z0
    have kz1 := F'.z1
    have kf0 := F'.f0
    have kf1 := F'.f1
    have klz := F'.lz
    have q0 := O.out.c0
    have q1 := O.out.c1
    have hq6 : w.heap.size ≤ z := by rw [Hz.out]; omega
    have hB6 : Below w.heap.size w W6x := HBt.out.trans (E.out.mono (by have := HBt.out.size; have := Hpe.out; omega))
    clear F' S6 kr0 kr1 klr lp
    go_wp2_with (first | (with_reducible refine bodyPost_ret (v := .tuple #[.agg #[.slice aa3 (0 + 1) ca3, .slice aa6 (0 + 1) ca6], .int .i64 0]) ?hr ?hd ?hR))
    case hd => rfl
    case hR =>
      rw [HP.out]
      have hle := Hln.out
      subst hle
      obtain ⟨l1, l2⟩ := lm_lists ([] : List CH) (0) (0) ⟨cr, cc, cv, cg, cl⟩ h
      have hLl : 0 + 1 = (([] : List CH).take (0) ++ ((⟨cr, cc, cv, cg, cl⟩ : CellA), h) :: ([] : List CH).drop (0)).length := by rfl
      have hLM := lm_of hLl (by simp) O.out.ra l1 O.out.rb l2
      rw [← HL.out] at hLM
      have b1 := row_block O.out.ra
      have b2 := row_block O.out.rb
      have ble := O.out.le
      exact ⟨_, rfl, hLM.same (z := z) (fun g _ hg => (Below.heap_setCell _ _ _ _ hg).trans (Below.heap_setCell _ _ _ _ hg)) (by rw [World.size_setCell, World.size_setCell]; exact Nat.le_refl _) (fun _ _ _ _ _ _ e => by cases e; exact ⟨fun x hx => by have := b1 x hx; omega, fun x hx => by have := b2 x hx; omega⟩), (fun _ _ _ _ _ _ e => by cases e; exact ⟨fun x hx => by have := b1 x hx; omega, fun x hx => by have := b2 x hx; omega⟩), by go_grown⟩
    case hr => simp [results, Try.results14, go_sem, *]
theorem putE_bad {c : CellA} {h : Int} (hg : ¬ (cellL c = true ∧ 1 ≤ h ∧ h ≤ 12)) : cellL c = false ∨ h < 1 ∨ 12 < h := by
  cases hcl : cellL c with
  | false => exact .inl rfl
  | true => right; have h3 : ¬ (1 ≤ h ∧ h ≤ 12) := fun h4 => hg ⟨hcl, h4⟩; omega
/-- the document's Put, whatever comes -/
theorem rput_any (c : CellA) (hok : c.Ok) (h : Int) (l : List CH) (v : Value) (w : World) (hm : LM w v l) (hn : l.length < 1000000) :
    Calls Try.prog 14 #[v, .agg #[.string c.row, .string c.col, .int .u64 c.ver, .bool c.gone, .string c.val], .int .i64 h] w fun e w' =>
      ∃ v', e = .returned (.tuple #[v', .int .i64 (putE c h)]) ∧ LM w' v' (putX c h l) ∧ (NewS w.heap.size v' ∨ v' = v) ∧ Below w.heap.size w w' := by
  by_cases hg : cellL c = true ∧ 1 ≤ h ∧ h ≤ 12
  · rw [putE, if_pos hg, putX, if_pos hg]
    have e : ((h.toNat : Nat) : Int) = h := by omega
    by_cases hl : l = []
    · subst hl
      rw [hm.nil rfl]
      have := rput_nil c hok hg.1 h.toNat (by omega) (by omega) w
      rw [e] at this
      exact this.mono fun _ _ ⟨v', h1, h2, h3, h4⟩ => ⟨v', h1, h2, .inl h3, h4⟩
    · have := rput_good c hok hg.1 h.toNat (by omega) (by omega) l v w hm hn hl
      rw [e] at this
      exact this.mono fun _ _ ⟨v', h1, h2, h3, h4⟩ => ⟨v', h1, h2, .inl h3, h4⟩
  · rw [putE, if_neg hg, putX, if_neg hg]
    obtain ⟨ao, cap, ao2, cap2, rfl, _, _⟩ := hm.ex
    refine (rput_bad c hok h (putE_bad hg) ao ao2 _ _ _ _ w).mono ?_
    rintro e w' ⟨rfl, hb⟩
    exact ⟨_, rfl, hm.below hb, .inr rfl, hb⟩

end Go.Proofs.Ytlnfdejflpgleaa
