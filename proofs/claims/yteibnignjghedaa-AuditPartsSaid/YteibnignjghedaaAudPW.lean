/-
  The walk of acreagelaw32.AuditParts.
-/
import Derived.Test.YteibnignjghedaaAudPL
import Derived.Test.YteibnignjghedaaAudWO
import Derived.Deep.CutBlock
namespace Go.Proofs.Yteibnignjghedaa
open Go.RowKit Go.Sort

set_option maxRecDepth 100000 in
set_option maxHeartbeats 16000000 in
theorem auditparts_any (ga : Option Addr) (gn gc : Nat) (gs : List Int) (pa : Option Addr) (pn pc : Nat) (ps : List PartA) (w : World) (hg : Arr w 1 ga gn gc (gs.map u8E)) (hg0 : ∀ x ∈ gs, 0 ≤ x ∧ x ≤ 255) (hp : Arr w 3 pa pn pc (ps.map PartA.l)) (hp0 : ∀ p ∈ ps, p.Ok) :
    Calls Try.prog 6 #[.slice ga gn gc, .slice pa pn pc] w fun e w' => e = .returned (.bool true) ∧ Below w.heap.size w w' := by
  obtain ⟨m, hm⟩ : ∃ m : Nat, m = min gn 40 := ⟨_, rfl⟩
  obtain ⟨q, hq⟩ : ∃ q : Nat, q = min pn 5 := ⟨_, rfl⟩
  have hm40 : m ≤ 40 := by omega
  have hmn : m ≤ gn := by omega
  have hq5 : q ≤ 5 := by omega
  have hqn : q ≤ pn := by omega
  have hgm := Arr.max hg
  have hpm := Arr.max hp
  have hgf := Arr.fits hg
  have hpf := Arr.fits hp
  unfold maxLen at hgm hpm
  have Hg := Lib.hid hg
  have Hg0 := Lib.hid hg0
  have Hp := Lib.hid hp
  have Hp0 := Lib.hid hp0
  have Hgl : Hid (gs.length = gn) := Lib.hid (by have := Arr.len hg; rwa [List.length_map] at this)
  have Hpl : Hid (ps.length = pn) := Lib.hid (by have := Arr.len hp; rwa [List.length_map] at this)
  obtain ⟨i0, hi, iz0, iz1, iz2⟩ := info_parts Try.info_seen
  have Hi := Lib.hid hi
  obtain ⟨j0, hj, jz0, jz1, jz2⟩ := info_parts Try.info_ent
  have Hj := Lib.hid hj
  have Hm := Lib.hid hm
  have Hq := Lib.hid hq
  clear hg hg0 hp hp0 hi hj hm hq
  go_enter Try.func6, Try.ntmps6
  go_upto_region 4 with (first
    | (go_at_call 12; refine (works_any w).mono ?_; rintro e w1 ⟨rfl, hb1⟩; have Hb1 := Lib.hid hb1; clear hb1)
    | (refine wpList_build1 (by rfl) 42 60 _ rfl (logE0 w1.heap.size).l rfl 24 j0 _ Try.underlying42 Hj.out jz0 jz1 (by decide) (by decide) (EntA.len _) ?_; simp only [Act.put, List.setIfInBounds_toArray, List.set_cons_succ, List.set_cons_zero]))
  obtain ⟨g3, hg3⟩ : ∃ g, g = w1.heap.size + 1 := ⟨_, rfl⟩
  obtain ⟨V3, hV3⟩ : ∃ V : World, V = w1.alloc (.cells #[.int .i64 0, .int .i64 1, .int .i64 2] 3) := ⟨_, rfl⟩
  obtain ⟨W3, hW3⟩ : ∃ V : World, V = V3.alloc (.cells (logE0 w1.heap.size).l.toArray 60) := ⟨_, rfl⟩
  have hz1 := Hb1.out.size
  have hzV : V3.heap.size = g3 := by rw [hV3, World.size_alloc, hg3]
  have hbV : Below w.heap.size w V3 := by rw [hV3]; exact Hb1.out.alloc hz1 _
  have hbW : Below w.heap.size w W3 := by rw [hW3]; exact hbV.alloc (by omega) _
  have hR3 : Row W3 w.heap.size 60 24 (.slice (some ⟨g3, 0, none⟩) 1 1) 1 (([logE0 w1.heap.size]).map EntA.l).flatten := by
    rw [hW3]
    have := Row.fresh V3 w.heap.size 60 24 1 (logE0 w1.heap.size).l.toArray g3 hzV.symm (by omega) (by rfl) (by unfold maxLen; omega)
    simpa using this
  rw [← hV3, ← hW3, hzV]
  have HR3 := Lib.hid hR3
  have HbW := Lib.hid hbW
  clear hV3 hW3 hg3 hzV hbV hbW hR3
  go_upto_block 0 with fail
  go_cut [5, 6] from 24 to 55 (fun v i V => ∃ (ra : Option Addr) (rc : Nat) (es : List EntA), i = .int .i64 m ∧ v = .slice ra (m + 1 : Nat) rc ∧ Hid (LogB es ∧ es.length = m + 1) ∧ Hid (Row V w.heap.size 60 24 (.slice ra (m + 1) rc) (m + 1) (es.map EntA.l).flatten) ∧ Hid (Below w.heap.size w V))
  case first =>
    go_wp2_with fail
    go_loopw [5, 6] (fun v i V => ∃ (k : Nat) (ra : Option Addr) (rc : Nat) (es : List EntA), k ≤ m ∧ i = .int .i64 k ∧ v = .slice ra (k + 1 : Nat) rc ∧ Hid (LogB es ∧ es.length = k + 1) ∧ Hid (Row V w.heap.size 60 24 (.slice ra (k + 1) rc) (k + 1) (es.map EntA.l).flatten) ∧ Hid (Below w.heap.size w V)) (fun _ i _ => m - (intOf i).toNat)
    case atStart => exact ⟨0, _, 1, [logE0 w1.heap.size], by omega, rfl, rfl, Lib.hid ⟨LogB.one _, rfl⟩, HR3, HbW⟩
    case round =>
      obtain ⟨k, ra, rc, es, hk, rfl, rfl, hL, hR, hB0⟩ := hrel
      have hzw := hB0.out.size
      by_cases hlt : k < m
      · have hkn : k < gn := by omega
        have hk40 : k < 40 := by omega
        obtain ⟨x, hx⟩ : ∃ x, gs[k]? = some x := ⟨_, List.getElem?_eq_getElem (by rw [Hgl.out]; exact hkn)⟩
        have hxb := Hg0.out x (List.mem_of_getElem? hx)
        obtain ⟨e, he⟩ : ∃ e, es[k]? = some e := ⟨_, List.getElem?_eq_getElem (by rw [hL.out.2]; omega)⟩
        have htm := hL.out.1.log.term _ _ he
        have hA := row_arr (by decide) (by rw [List.length_map]; exact hL.out.2) hR.out (ent_elems es)
        obtain ⟨eb, eo, e0, heb, hE⟩ := Arr.at_ hA (i := k) (e := e.l) (by rw [List.getElem?_map, he]; rfl)
        have x1 := hE 1 _ rfl
        obtain ⟨xb, xo, x0, hxl, hX⟩ := Arr.at_ (Hg.out.below hB0.out) (i := k) (e := u8E x) (by rw [List.getElem?_map, hx]; rfl)
        have y0 := hX 0 _ rfl
        have He := Lib.hid he
        cases e0
        cases x0
        simp only [Nat.mul_one, Nat.add_zero] at y0
        clear hA hE hX hx he
        go_upto_region 7 with fail
        refine wp_region_below_mix 1 20 (by kernel_rfl) (by kernel_rfl) (fun hkept => ?_)
        obtain ⟨r0, rf0⟩ := hkept (eb) (by go_size); obtain ⟨r1, rf1⟩ := hkept (xb) (by go_size); clear hkept
        simp only [List.take_succ_cons, List.take_zero, List.drop_succ_cons, List.drop_zero]
        refine wpPure_move _ rfl rfl (fun K' hK' => ?_); go_simp; refine hK' _ ?_; clear hK' K'
        refine wpPure_nil ?_
        repeat (any_goals (first | go_big_quiet_step (fail) | quiet_step (fail) | (refine wpQuiet_step (fun K hK => ?_); go_simp; split <;> (refine hK _ ?_; clear hK K))))
        all_goals (refine wpQuiet_nil ?_; intro w7 hb; obtain ⟨hB, hS, hk⟩ := after (B := wr.heap.size) (w := wr) (by go_grown) (by go_size) hb; obtain ⟨c0, f0, z0⟩ := hk (eb) (by go_size); obtain ⟨c1, f1, z1⟩ := hk (xb) (by go_size); clear hk hb r0 rf0 r1 rf1)
        have HL2 := Lib.hid (hL.out.1.snoc hL.out.2 He.out (t := e.term + x % 3) (by omega) (by omega))
        go_wp2_with (first
          | (refine wpList_build1 (by rfl) 42 60 _ rfl (logE k (e.term + x % 3)).l rfl 24 j0 _ Try.underlying42 Hj.out jz0 jz1 (by decide) (by decide) (EntA.len _) ?_; simp only [Act.put, List.setIfInBounds_toArray, List.set_cons_succ, List.set_cons_zero])
          | (at_builtin; refine wpList_append_at _ rfl _ _ 42 rfl w.heap.size 60 j0 _ 24 264 Try.underlying42 Hj.out jz0 jz1 jz2 rfl (by decide) (.slice (some ⟨eb, eo, none⟩) (k + 1) rc) _ _ rfl (Row.alloc (Row.below hR.out hB) _) rfl (ents_one w7 _ (logE k (e.term + x % 3)) _ rfl) (by omega) (by unfold maxLen; omega) (by rw [World.size_alloc]; omega) ?_; intro v9 w9 hr9 hg9 ho9; obtain ⟨a9, k9, rfl⟩ := row_slice hr9; have HR9 := Lib.hid hr9; have HB9 := Lib.hid (((hB0.out.trans (hB.mono hzw)).alloc (by omega) _).grown hg9 (by rw [World.size_alloc]; omega) (fun q hq => (Row.lt hR.out q hq).1)); clear hr9 hg9 ho9))
        refine NoPanic.normal ?_
        go_wp2
        exact ⟨⟨k + 1, a9, k9, es ++ [logE k (e.term + x % 3)], by omega, by go_num, rfl, Lib.hid ⟨HL2.out, by rw [List.length_append, hL.out.2]; rfl⟩, Lib.hid (by rw [List.map_append, List.flatten_append]; exact HR9.out), HB9⟩, by simp [intOf]; omega⟩
      · obtain rfl : k = m := by omega
        have hend : gn ≤ k ∨ 40 ≤ k := by have := Hm.out; omega
        go_wp2_with fail
        all_goals (go_meet; exact ⟨ra, rc, es, rfl, rfl, hL, hR, hB0⟩)
  case rest =>
    obtain ⟨ra, rc, es, rfl, rfl, hL, hR, hB⟩ := hcut
    obtain ⟨W5, rfl⟩ : ∃ W : World, W = wc := ⟨_, rfl⟩
    obtain ⟨eb, er, e0, heb0, heb, hmr, hrm⟩ : ∃ eb er, Value.slice ra (m + 1) rc = .slice (some ⟨eb, 0, none⟩) (m + 1) er ∧ w.heap.size ≤ eb ∧ eb < W5.heap.size ∧ m + 1 ≤ er ∧ er ≤ maxLen := by
      rcases hR.out.form with ⟨_, h0⟩ | h
      · omega
      · exact h
    cases e0
    have HA := Lib.hid (row_arr (by decide) (by rw [List.length_map]; exact hL.out.2) hR.out (ent_elems es))
    have hzc := hB.out.size
    go_upto_block 2 with fail
    go_cut [7, 8] from 56 to 121 (fun v i V => ∃ (sa : Option Addr) (sc : Nat) (l : List SeenA), i = .int .i64 q ∧ v = .slice sa q sc ∧ Hid (Row V W5.heap.size 49 19 (.slice sa q sc) q (l.map SeenA.l).flatten) ∧ Hid (l.length = q) ∧ Hid (∀ s ∈ l, s.In V) ∧ Hid (∀ s ∈ l, PartX es s) ∧ Hid (Below W5.heap.size W5 V))
    case first =>
      go_wp2_with fail
      go_loopw [7, 8] (fun v i V => ∃ (k : Nat) (sa : Option Addr) (sc : Nat) (l : List SeenA), k ≤ q ∧ i = .int .i64 k ∧ v = .slice sa k sc ∧ Hid (Row V W5.heap.size 49 19 (.slice sa k sc) k (l.map SeenA.l).flatten) ∧ Hid (l.length = k) ∧ Hid (∀ s ∈ l, Safe V (.slice sa k sc) s) ∧ Hid (∀ s ∈ l, PartX es s) ∧ Hid (Below W5.heap.size W5 V)) (fun _ i _ => q - (intOf i).toNat)
      case atStart => exact ⟨0, none, 0, [], by omega, rfl, rfl, Lib.hid (Row.nil _ _ _ _), Lib.hid rfl, Lib.hid (fun s hs => by cases hs), Lib.hid (fun s hs => by cases hs), Lib.hid (Below.refl _ _)⟩
      case round =>
        obtain ⟨k, sa, sc, l, hk, rfl, rfl, hS, hSl, hSs, hSp, hV0⟩ := hrel
        have hzr := hV0.out.size
        by_cases hlt : k < q
        · have hkn : k < pn := by omega
          have hk5 : k < 5 := by omega
          have hk5d : decide ((k : Int) < 5) = true := decide_eq_true (by omega)
          obtain ⟨p, hp⟩ : ∃ p, ps[k]? = some p := ⟨_, List.getElem?_eq_getElem (by rw [Hpl.out]; exact hkn)⟩
          obtain ⟨pl0, pl1, pb0, pb1, pc0, pc1⟩ := Hp0.out p (List.mem_of_getElem? hp)
          obtain ⟨pb, po, p0, hpl, hP⟩ := Arr.at_ ((Hp.out.below hB.out).below hV0.out) (i := k) (e := p.l) (by rw [List.getElem?_map, hp]; rfl)
          have y0 := hP 0 _ rfl
          have y1 := hP 1 _ rfl
          have y2 := hP 2 _ rfl
          simp only [Nat.add_zero] at y0
          cases p0
          obtain ⟨Ls, Bs, hw9, hL1, hL2, hw10, hB1, hB2⟩ := part_nums m hm40 p
          have hLd : ((Ls : Int) == 0) = false := by rw [beq_eq_false_iff_ne]; omega
          clear hP hp
          go_upto_region 14 with fail
          rw [hw9, hw10]
          obtain ⟨bb, rfl⟩ : ∃ bb, Bs = bb + 1 := ⟨Bs - 1, by omega⟩
          have hbc : ((bb + 1 : Nat) : Int) = (bb : Int) + 1 := by omega
          rw [hbc] at hw10 ⊢
          clear hbc
          obtain ⟨e, he⟩ : ∃ e, es[bb]? = some e := ⟨_, List.getElem?_eq_getElem (by rw [hL.out.2]; omega)⟩
          obtain ⟨eb', eo', e0, _, hE⟩ := Arr.at_ (HA.out.below hV0.out) (i := bb) (e := e.l) (by rw [List.getElem?_map, he]; rfl)
          cases e0
          have x1 := hE 1 _ rfl
          rw [Nat.zero_add] at x1
          have htm := hL.out.1.log.term _ _ he
          have He := Lib.hid he
          have hebr : eb < wr.heap.size := by omega
          have HS : Hid (∀ V, Below wr.heap.size wr V → V.cell? ⟨eb, bb * 24 + 1, none⟩ = some (.int .u64 e.term)) := Lib.hid fun V h => (h.cell (p := ⟨eb, _, none⟩) hebr).trans x1
          obtain ⟨ea, hea⟩ : ∃ ea, ea = partAt eb rc (bb + 1) := ⟨_, rfl⟩
          have HU1 : Hid (IntKind.u64.wrap ((bb : Int) + 1) = (bb : Int) + 1) := Lib.hid (by simp [IntKind.wrap, IntKind.bits, IntKind.signed]; omega)
          have HU2 : Hid (IntKind.i64.wrap (bb : Int) = (bb : Int)) := Lib.hid (by simp [IntKind.wrap, IntKind.bits, IntKind.signed]; omega)
          have HSl : Hid (∀ V : World, (Instr.sliceAt 42 (.slice (some ⟨eb, 0, none⟩) (m + 1) rc) (some (.int .i64 ((bb : Int) + 1))) (some (.int .i64 (Ls : Int))) none).run Try.prog V = .ok (.slice ea (Ls - (bb + 1)) (rc - (bb + 1))) V) := Lib.hid fun V => by
            rw [hea]
            exact run_part V eb (m + 1) rc (bb + 1) Ls hB2 (by omega) hrm
          have HEn : Hid (Ents W5 ea (Ls - (bb + 1)) (rc - (bb + 1)) ((es.drop (bb + 1)).take (Ls - (bb + 1)))) := Lib.hid (by rw [hea]; exact ents_at HA.out hL.out.1 hB1 hB2 (by omega))
          clear hE he x1 hea
          go_cut [11] from 85 to 100 (fun v wx => ∃ (pv : Nat) (g : Nat), v = .pointer (some ⟨pv, 0, none⟩) ∧ wr.heap.size ≤ pv ∧ pv < (wx : World).heap.size ∧ wr.heap.size ≤ g ∧ g < (wx : World).heap.size ∧ g ≠ pv ∧ Hid (Below wr.heap.size wr (wx : World)) ∧ Hid (Ints (wx : World) (some ⟨g, 0, none⟩) 3 3 [0, 1, 2]) ∧ Hid ((wx : World).there pv 0 19) ∧ Hid (SeenAt (wx : World) pv 0 (partS k (bb + 1) Ls e.term 0 g ea (rc - (bb + 1)) ((es.drop (bb + 1)).take (Ls - (bb + 1))))))
          case first =>
              --@14
              refine wp_region_held_drew (S := fun V => Below wr.heap.size wr V) (by kernel_rfl) (by go_grown) (fun hHeld => ?_)
              refine wpAnyH_take (i := 0) (v := .int .i64 (k : Int)) rfl (by kernel_rfl) (by kernel_rfl) (by kernel_rfl) (fun _ _ _ h => h) (.inl ⟨by rfl, fun V hV => by go_simp⟩) (by assumption) ?_
              simp only [Act.put, List.getElem_toArray, List.getElem_cons_succ, List.getElem_cons_zero, List.setIfInBounds_toArray, List.set_cons_succ, List.set_cons_zero]
              refine wpAnyH_take (i := 1) (v := .int .i64 ((bb : Int) + 1)) rfl (by kernel_rfl) (by kernel_rfl) (by kernel_rfl) (fun _ _ _ h => h) (.inl ⟨by rfl, fun V hV => by go_simp⟩) (by assumption) ?_
              simp only [Act.put, List.getElem_toArray, List.getElem_cons_succ, List.getElem_cons_zero, List.setIfInBounds_toArray, List.set_cons_succ, List.set_cons_zero]
              refine wpAnyH_take (i := 2) (v := .int .u64 ((bb : Int) + 1)) rfl (by kernel_rfl) (by kernel_rfl) (by kernel_rfl) (fun _ _ _ h => h) (.inl ⟨by rfl, fun V hV => by have h9 := HU1.out; go_simp⟩) (by assumption) ?_
              simp only [Act.put, List.getElem_toArray, List.getElem_cons_succ, List.getElem_cons_zero, List.setIfInBounds_toArray, List.set_cons_succ, List.set_cons_zero]
              refine wpAnyH_take (i := 3) (v := .slice (some ⟨eb, 0, none⟩) (m + 1) rc) rfl (by kernel_rfl) (by kernel_rfl) (by kernel_rfl) (fun _ _ _ h => h) (.inl ⟨by rfl, fun V hV => by go_simp⟩) (by assumption) ?_
              simp only [Act.put, List.getElem_toArray, List.getElem_cons_succ, List.getElem_cons_zero, List.setIfInBounds_toArray, List.set_cons_succ, List.set_cons_zero]
              refine wpAnyH_take (i := 4) (v := .int .i64 ((bb : Int) + 1)) rfl (by kernel_rfl) (by kernel_rfl) (by kernel_rfl) (fun _ _ _ h => h) (.inl ⟨by rfl, fun V hV => by go_simp⟩) (by assumption) ?_
              simp only [Act.put, List.getElem_toArray, List.getElem_cons_succ, List.getElem_cons_zero, List.setIfInBounds_toArray, List.set_cons_succ, List.set_cons_zero]
              refine wpAnyH_take (i := 5) (v := .int .i64 (bb : Int)) rfl (by kernel_rfl) (by kernel_rfl) (by kernel_rfl) (fun _ _ _ h => h) (.inl ⟨by rfl, fun V hV => by have h9 := HU2.out; go_simp⟩) (by assumption) ?_
              simp only [Act.put, List.getElem_toArray, List.getElem_cons_succ, List.getElem_cons_zero, List.setIfInBounds_toArray, List.set_cons_succ, List.set_cons_zero]
              refine wpAnyH_take (i := 6) (v := .pointer (some ⟨eb, bb * 24, none⟩)) rfl (by kernel_rfl) (by kernel_rfl) (by kernel_rfl) (fun _ _ _ h => h) (.inl ⟨by rfl, fun V hV => by go_simp; intro hx; omega⟩) (by assumption) ?_
              simp only [Act.put, List.getElem_toArray, List.getElem_cons_succ, List.getElem_cons_zero, List.setIfInBounds_toArray, List.set_cons_succ, List.set_cons_zero]
              refine wpAnyH_take (i := 7) (v := .pointer (some ⟨eb, bb * 24 + 1, none⟩)) rfl (by kernel_rfl) (by kernel_rfl) (by kernel_rfl) (fun _ _ _ h => h) (.inl ⟨by rfl, fun V hV => by go_simp⟩) (by assumption) ?_
              simp only [Act.put, List.getElem_toArray, List.getElem_cons_succ, List.getElem_cons_zero, List.setIfInBounds_toArray, List.set_cons_succ, List.set_cons_zero]
              refine wpAnyH_take (i := 8) (v := .int .u64 e.term) rfl (by kernel_rfl) (by kernel_rfl) (by kernel_rfl) (fun _ _ _ h => h) (.inl ⟨by rfl, fun V hV => by have h9 := HS.out V hV; go_simp⟩) (by assumption) ?_
              simp only [Act.put, List.getElem_toArray, List.getElem_cons_succ, List.getElem_cons_zero, List.setIfInBounds_toArray, List.set_cons_succ, List.set_cons_zero]
              refine wpAnyH_take (i := 11) (v := .slice (some ⟨eb, 0, none⟩) (m + 1) rc) rfl (by kernel_rfl) (by kernel_rfl) (by kernel_rfl) (fun _ _ _ h => h) (.inl ⟨by rfl, fun V hV => by go_simp⟩) (by assumption) ?_
              simp only [Act.put, List.getElem_toArray, List.getElem_cons_succ, List.getElem_cons_zero, List.setIfInBounds_toArray, List.set_cons_succ, List.set_cons_zero]
              refine wpAnyH_take (i := 12) (v := .int .i64 ((bb : Int) + 1)) rfl (by kernel_rfl) (by kernel_rfl) (by kernel_rfl) (fun _ _ _ h => h) (.inl ⟨by rfl, fun V hV => by go_simp⟩) (by assumption) ?_
              simp only [Act.put, List.getElem_toArray, List.getElem_cons_succ, List.getElem_cons_zero, List.setIfInBounds_toArray, List.set_cons_succ, List.set_cons_zero]
              refine wpAnyH_take (i := 13) (v := .int .i64 (Ls : Int)) rfl (by kernel_rfl) (by kernel_rfl) (by kernel_rfl) (fun _ _ _ h => h) (.inl ⟨by rfl, fun V hV => by go_simp⟩) (by assumption) ?_
              simp only [Act.put, List.getElem_toArray, List.getElem_cons_succ, List.getElem_cons_zero, List.setIfInBounds_toArray, List.set_cons_succ, List.set_cons_zero]
              refine wpAnyH_take (i := 14) (v := .slice ea (Ls - (bb + 1)) (rc - (bb + 1))) rfl (by kernel_rfl) (by kernel_rfl) (by kernel_rfl) (fun _ _ _ h => h) (.inl ⟨by rfl, fun V hV => by have h9 := HSl.out V; go_simp⟩) (by assumption) ?_
              simp only [Act.put, List.getElem_toArray, List.getElem_cons_succ, List.getElem_cons_zero, List.setIfInBounds_toArray, List.set_cons_succ, List.set_cons_zero]
              refine wpAnyH_ready (rs := [9, 16]) (by kernel_rfl) (by simp) ?_
              refine AllReadyH.cons rfl ?_ ?_
              · intro K hK
                rw [if_pos (by rfl)]
                go_simp
                obtain ⟨VA, hVA⟩ : ∃ V : World, V = (wr.alloc (.cells #[.int .i64 0, .int .i64 1, .int .i64 2] 3)).drew := ⟨_, rfl⟩
                have hzA : VA.heap.size = wr.heap.size + 1 := by rw [hVA]; go_size
                have hBA : Below wr.heap.size wr VA := by rw [hVA]; go_grown
                have hIA : Ints VA (some ⟨wr.heap.size, 0, none⟩) 3 3 [0, 1, 2] := by rw [hVA]; exact Arr.sameBlk (ints3_new wr 3 wr.heap.size rfl) rfl
                rw [← hVA]
                clear hVA
                refine hK.out _ _ hBA (fun hHeld => ?_)
                clear hK K
                obtain ⟨R, hRd⟩ : ∃ R : SeenA, R = (partS k (bb + 1) Ls e.term 0 wr.heap.size ea (rc - (bb + 1)) ((es.drop (bb + 1)).take (Ls - (bb + 1)))) := ⟨_, rfl⟩
                have HRd := Lib.hid hRd
                clear hRd
                refine wpAnyH_take (i := 10) (v := .agg #[.int .u64 ((bb : Int) + 1), .int .u64 e.term, .slice (some ⟨wr.heap.size, 0, none⟩) 3 3]) rfl (by kernel_rfl) (by kernel_rfl) (by kernel_rfl) (fun _ _ _ h => h) (.inl ⟨by rfl, fun V hV => by go_simp⟩) (by assumption) ?_
                simp only [Act.put, List.getElem_toArray, List.getElem_cons_succ, List.getElem_cons_zero, List.setIfInBounds_toArray, List.set_cons_succ, List.set_cons_zero]
                refine wpAnyH_take (i := 15) (v := .agg R.l.toArray) rfl (by kernel_rfl) (by kernel_rfl) (by kernel_rfl) (fun _ _ _ h => h) (.inl ⟨by rfl, fun V hV => by go_simp; rw [HRd.out]; rfl⟩) (by assumption) ?_
                simp only [Act.put, List.getElem_toArray, List.getElem_cons_succ, List.getElem_cons_zero, List.setIfInBounds_toArray, List.set_cons_succ, List.set_cons_zero]
                refine wpAnyH_ready (rs := [16]) (by kernel_rfl) (by simp) ?_
                refine AllReadyH.cons rfl ?_ AllReadyH.nil
                intro K hK
                rw [if_pos (by rfl)]
                go_simp
                obtain ⟨VB, hVB⟩ : ∃ V : World, V = VA.alloc (.cells seenZ 49) := ⟨_, rfl⟩
                have hzB : VB.heap.size = wr.heap.size + 2 := by rw [hVB, World.size_alloc, hzA]
                have hBB : Below wr.heap.size wr VB := by rw [hVB]; exact hBA.alloc (by omega) _
                have hTB : VB.there (wr.heap.size + 1) 0 19 := by rw [hVB, ← hzA]; exact there_of (heap_alloc_new VA (.cells seenZ 49))
                have hIB : Ints VB (some ⟨wr.heap.size, 0, none⟩) 3 3 [0, 1, 2] := by rw [hVB]; exact hIA.below ((Below.refl _ _).alloc (Nat.le_refl _) _)
                unfold seenZ at hVB
                rw [← hVB]
                clear hVB
                refine hK.out _ _ hBB (fun hHeld => ?_)
                clear hK K
                refine wpAnyH_ready (rs := [17]) (by kernel_rfl) (by simp) ?_
                refine AllReadyH.cons rfl ?_ AllReadyH.nil
                intro K hK
                rw [if_pos (by rfl)]
                obtain ⟨hBC, hIC, hTC, hSC, hzC⟩ := part_end (s := R) hBB hTB hIB (by omega) (by omega)
                refine wp_store_mid _ _ _ rfl (wr.heap.size + 1) 0 R.l.toArray rfl rfl hTB (by kernel_rfl) (SeenA.all _) ?_
                simp only [Act.put, List.getElem_toArray, List.getElem_cons_succ, List.getElem_cons_zero, List.setIfInBounds_toArray, List.set_cons_succ, List.set_cons_zero]
                change K _ (VB.setCells (wr.heap.size + 1) 0 R.l)
                refine hK.out _ _ hBC (fun hHeld => ?_)
                clear hK K
                obtain ⟨VC, hVC⟩ : ∃ V : World, V = VB.setCells (wr.heap.size + 1) 0 R.l := ⟨_, rfl⟩
                rw [← hVC] at hBC hIC hTC hSC hzC ⊢
                rw [HRd.out] at hSC
                have HBC := Lib.hid hBC
                have HIC := Lib.hid hIC
                have HTC := Lib.hid hTC
                have HSC := Lib.hid hSC
                clear hVC hBC hIC hTC hSC hBB hTB hIB hBA hIA
                refine wpAnyH_done (by kernel_rfl) ?_ _
                go_wp2_with fail
                go_meet
                exact ⟨wr.heap.size + 1, wr.heap.size, rfl, by omega, by omega, by omega, by omega, by omega, HBC, HIC, HTC, HSC⟩
              refine AllReadyH.cons rfl ?_ AllReadyH.nil
              · intro K hK
                rw [if_pos (by rfl)]
                go_simp
                obtain ⟨VA, hVA⟩ : ∃ V : World, V = (wr.alloc (.cells seenZ 49)).drew := ⟨_, rfl⟩
                have hzA : VA.heap.size = wr.heap.size + 1 := by rw [hVA]; go_size
                have hBA : Below wr.heap.size wr VA := by rw [hVA]; go_grown
                have hTA : VA.there wr.heap.size 0 19 := by rw [hVA]; exact there_of (heap_alloc_new wr (.cells seenZ 49))
                unfold seenZ at hVA
                rw [← hVA]
                clear hVA
                refine hK.out _ _ hBA (fun hHeld => ?_)
                clear hK K
                refine wpAnyH_ready (rs := [9]) (by kernel_rfl) (by simp) ?_
                refine AllReadyH.cons rfl ?_ AllReadyH.nil
                intro K hK
                rw [if_pos (by rfl)]
                go_simp
                obtain ⟨VB, hVB⟩ : ∃ V : World, V = VA.alloc (.cells #[.int .i64 0, .int .i64 1, .int .i64 2] 3) := ⟨_, rfl⟩
                have hzB : VB.heap.size = wr.heap.size + 2 := by rw [hVB, World.size_alloc, hzA]
                have hBB : Below wr.heap.size wr VB := by rw [hVB]; exact hBA.alloc (by omega) _
                have hTB : VB.there wr.heap.size 0 19 := by rw [hVB]; exact there_below hTA ((Below.refl _ _).alloc (Nat.le_refl _) _)
                have hIB : Ints VB (some ⟨wr.heap.size + 1, 0, none⟩) 3 3 [0, 1, 2] := by rw [hVB, ← hzA]; exact ints3_new VA 3 VA.heap.size rfl
                rw [← hVB]
                clear hVB
                refine hK.out _ _ hBB (fun hHeld => ?_)
                clear hK K
                obtain ⟨R, hRd⟩ : ∃ R : SeenA, R = (partS k (bb + 1) Ls e.term 0 (wr.heap.size + 1) ea (rc - (bb + 1)) ((es.drop (bb + 1)).take (Ls - (bb + 1)))) := ⟨_, rfl⟩
                have HRd := Lib.hid hRd
                clear hRd
                refine wpAnyH_take (i := 10) (v := .agg #[.int .u64 ((bb : Int) + 1), .int .u64 e.term, .slice (some ⟨(wr.heap.size + 1), 0, none⟩) 3 3]) rfl (by kernel_rfl) (by kernel_rfl) (by kernel_rfl) (fun _ _ _ h => h) (.inl ⟨by rfl, fun V hV => by go_simp⟩) (by assumption) ?_
                simp only [Act.put, List.getElem_toArray, List.getElem_cons_succ, List.getElem_cons_zero, List.setIfInBounds_toArray, List.set_cons_succ, List.set_cons_zero]
                refine wpAnyH_take (i := 15) (v := .agg R.l.toArray) rfl (by kernel_rfl) (by kernel_rfl) (by kernel_rfl) (fun _ _ _ h => h) (.inl ⟨by rfl, fun V hV => by go_simp; rw [HRd.out]; rfl⟩) (by assumption) ?_
                simp only [Act.put, List.getElem_toArray, List.getElem_cons_succ, List.getElem_cons_zero, List.setIfInBounds_toArray, List.set_cons_succ, List.set_cons_zero]
                refine wpAnyH_ready (rs := [17]) (by kernel_rfl) (by simp) ?_
                refine AllReadyH.cons rfl ?_ AllReadyH.nil
                intro K hK
                rw [if_pos (by rfl)]
                obtain ⟨hBC, hIC, hTC, hSC, hzC⟩ := part_end (s := R) hBB hTB hIB (by omega) (by omega)
                refine wp_store_mid _ _ _ rfl (wr.heap.size) 0 R.l.toArray rfl rfl hTB (by kernel_rfl) (SeenA.all _) ?_
                simp only [Act.put, List.getElem_toArray, List.getElem_cons_succ, List.getElem_cons_zero, List.setIfInBounds_toArray, List.set_cons_succ, List.set_cons_zero]
                change K _ (VB.setCells (wr.heap.size) 0 R.l)
                refine hK.out _ _ hBC (fun hHeld => ?_)
                clear hK K
                obtain ⟨VC, hVC⟩ : ∃ V : World, V = VB.setCells (wr.heap.size) 0 R.l := ⟨_, rfl⟩
                rw [← hVC] at hBC hIC hTC hSC hzC ⊢
                rw [HRd.out] at hSC
                have HBC := Lib.hid hBC
                have HIC := Lib.hid hIC
                have HTC := Lib.hid hTC
                have HSC := Lib.hid hSC
                clear hVC hBC hIC hTC hSC hBB hTB hIB hBA hTA
                refine wpAnyH_done (by kernel_rfl) ?_ _
                go_wp2_with fail
                go_meet
                exact ⟨wr.heap.size, (wr.heap.size + 1), rfl, by omega, by omega, by omega, by omega, by omega, HBC, HIC, HTC, HSC⟩
              --@/14
          case rest =>
            obtain ⟨pv, g, rfl, hpv0, hpv, hg0, hg, hgp, hb14, hI14, hT14, hS14⟩ := hcut
            have z6 : wc.cell? ⟨pv, 6, none⟩ = some (.int .u64 ((bb : Int) + 1)) := by
              have := hS14.out.at_ 6 _ rfl
              rw [Nat.zero_add] at this
              exact this
            have z2 := (hb14.out.cell (p := ⟨pb, _, none⟩) hpl).trans y2
            have hpbc : pb < wc.heap.size := Nat.lt_of_lt_of_le hpl hb14.out.size
            have hpc : 0 ≤ p.com := pc0
            obtain ⟨C, hC, hC0, hC1⟩ := part_com bb Ls hB2 (by omega) p.com
            go_upto_region 15 with fail
            refine wp_region_below_tail 17 (by kernel_rfl) (by kernel_rfl) (fun hkept => ?_)
            obtain ⟨r0, rf0⟩ := hkept (pv) (by go_size); obtain ⟨r1, rf1⟩ := hkept (pb) (by go_size); clear hkept
            simp only [List.take_succ_cons, List.take_zero, List.drop_succ_cons, List.drop_zero]
            repeat (any_goals (first | go_big_quiet_step (fail) | quiet_step (fail) | (refine wpQuiet_step (fun K hK => ?_); go_simp; split <;> (refine hK _ ?_; clear hK K))))
            all_goals (refine wpQuiet_nil ?_; intro w15 hb; obtain ⟨hB, hS, hk⟩ := after (B := wc.heap.size) (w := wc) (by go_grown) (by go_size) hb; obtain ⟨c0, f0, z0⟩ := hk (pv) (by go_size); obtain ⟨c1, f1, z1⟩ := hk (pb) (by go_size); clear hk hb r0 rf0 r1 rf1)
            clear hC
            have HT15 := Lib.hid (there_one (there_below hT14.out hB) 10 (by decide))
            have HB15 := Lib.hid hB
            have hS15 := SeenAt.below hS14.out hB
            have HR15 := Lib.hid (SeenAt.set1 hS15 10 (show 10 < 19 by decide) (.int .u64 C))
            have HI15 := Lib.hid (Ints.below hI14.out hB)
            clear c0 f0 z0 c1 f1 z1 hS hB hS15 z6 z2
            go_wp2_with (refine wpList_store_one pv 10 (.int .u64 C) rfl rfl rfl rfl ?ht (by kernel_rfl) rfl ?_; (case ht => exact HT15.out); simp only [Act.put, List.setIfInBounds_toArray, List.set_cons_succ, List.set_cons_zero])
            refine NoPanic.normal ?_
            obtain ⟨W16, hW16⟩ : ∃ V, V = w15.setCell ⟨pv, 10, none⟩ (.int .u64 C) := ⟨_, rfl⟩
            obtain ⟨R, hRd⟩ : ∃ R, R = partS k (bb + 1) Ls e.term C g ea (rc - (bb + 1)) ((es.drop (bb + 1)).take (Ls - (bb + 1))) := ⟨_, rfl⟩
            have hE16 : SeenAt W16 pv 0 R := by rw [hW16, hRd]; exact HR15.out
            have hb16 : Below wr.heap.size wr W16 := by rw [hW16]; exact (hb14.out.trans (HB15.out.mono hb14.out.size)).setCell hpv0 _
            have hI16 : Ints W16 (some ⟨g, 0, none⟩) 3 3 [0, 1, 2] := by rw [hW16]; exact Arr.sameBlk HI15.out (Below.heap_setCell _ _ _ _ (by simp only; omega))
            have hs16 : Safe W16 (.slice sa k sc) R := by
              rw [hRd]
              exact Safe.part HEn.out (hV0.out.trans (hb16.mono hzr)) (fun q hq => (Row.lt hS.out q hq).1) hI16 (ints_lt hI16) (fun e => by have := (Row.lt hS.out _ e).2; omega)
            have hx16 : PartX es R := by
              rw [hRd]
              exact ⟨bb + 1, Ls, partS_of hB1 hB2 (by rw [hL.out.2]; omega) (e := e) He.out rfl (by omega) hC1 hk5, rfl, rfl, rfl⟩
            rw [← hW16]
            have hz16 := hb16.size
            have HL16 := Lib.hid hE16.load
            have HR16 := Lib.hid (Row.below hS.out hb16)
            have Hb16 := Lib.hid hb16
            have Hs16 := Lib.hid hs16
            have Hx16 := Lib.hid hx16
            clear hW16 hRd hE16 hb16 hI16 hs16 hx16 hC0 hC1
            go_wp2_with (first
              | (refine wpList_loadK rfl (by rfl) rfl (by exact HL16.out) ?_; simp only [Act.put, List.setIfInBounds_toArray, List.set_cons_succ, List.set_cons_zero])
              | (refine wpList_build1 (by rfl) 22 49 _ rfl R.l rfl 19 i0 _ Try.underlying22 Hi.out iz0 iz1 (by decide) (by decide) rfl ?_; simp only [Act.put, List.setIfInBounds_toArray, List.set_cons_succ, List.set_cons_zero])
              | (at_builtin; refine wpList_append_at _ rfl _ _ 22 rfl W5.heap.size 49 i0 _ 19 224 Try.underlying22 Hi.out iz0 iz1 iz2 rfl (by decide) (.slice sa k sc) _ _ rfl (Row.alloc HR16.out _) rfl (seens_one W16 _ R _ rfl) (by omega) (by unfold maxLen; omega) (by rw [World.size_alloc]; omega) ?_; intro v9 w9 hr9 hg9 ho9; obtain ⟨a9, k9, rfl⟩ := row_slice hr9; have HR9 := Lib.hid hr9; have HS9 := Lib.hid (show ∀ x ∈ l ++ [R], Safe w9 (.slice a9 (k + 1) k9) x from fun x hx => (List.mem_append.1 hx).elim (fun h => ((hSs.out x h).below Hb16.out).app hg9 ho9) (fun h => by rw [List.mem_singleton.1 h]; exact Hs16.out.app hg9 ho9)); have HB9 := Lib.hid (((hV0.out.trans (Hb16.out.mono hzr)).alloc (by omega) _).grown hg9 (by rw [World.size_alloc]; omega) (fun q hq => (Row.lt hS.out q hq).1)); clear hr9 hg9 ho9))
            exact ⟨⟨k + 1, a9, k9, l ++ [R], by omega, by go_num, rfl, Lib.hid (by rw [List.map_append, List.flatten_append]; exact HR9.out), Lib.hid (by rw [List.length_append, hSl.out]; rfl), HS9, Lib.hid (fun x hx => (List.mem_append.1 hx).elim (hSp.out x) (fun h => by rw [List.mem_singleton.1 h]; exact Hx16.out)), HB9⟩, by simp [intOf]; omega⟩
        · obtain rfl : k = q := by omega
          have hend : pn ≤ k ∨ 5 ≤ k := by have := Hq.out; omega
          go_wp2_with fail
          all_goals (go_meet; exact ⟨sa, sc, l, rfl, rfl, hS, hSl, Lib.hid (fun s hs => (hSs.out s hs).in_), hSp, hV0⟩)
    case rest =>
      obtain ⟨sa, sc, l, rfl, rfl, hS, hSl, hSi, hSp, hV⟩ := hcut
      obtain ⟨W6, rfl⟩ : ∃ W : World, W = wc := ⟨_, rfl⟩
      have HSn : Hid (Seens W6 sa q sc l) := Lib.hid ⟨row_arr (by decide) (by rw [List.length_map]; exact hSl.out) hS.out (seen_elems l), hSi.out⟩
      have Hlok : Hid (∀ s ∈ l, s.Ok ∧ s.bn * 8 ≤ 140737488355328 ∧ ∀ e ∈ s.es, e.mn * 8 ≤ 140737488355328) := Lib.hid fun s hs => (hSp.out s hs).ok hL.out.1 (by rw [hL.out.2]; omega)
      have hV6 : Below w.heap.size w W6 := hB.out.trans (hV.out.mono hzc)
      have HV6 := Lib.hid hV6
      have KC1 : Hid (Calls Try.prog 9 #[.slice sa q sc] W6 fun e w' => ∃ a c, e = .returned (.slice a 0 c) ∧ Below W6.heap.size W6 w') := Lib.hid (by
        refine (acheck_any sa q sc l W6 HSn.out (fun s hs => (Hlok.out s hs).1) (fun s hs => (Hlok.out s hs).2) (by omega)).mono ?_
        rintro e w' ⟨v, rfl, hr, hb⟩
        rw [partx_check hL.out.1 hSp.out] at hr
        obtain ⟨a, c, rfl⟩ := row_slice hr
        exact ⟨a, c, rfl, hb⟩)
      have hz6 := hV6.size
      clear hV6 hR HA hS
      by_cases hq2 : q < 2
      · have hq2d : decide ((q : Int) < 2) = true := decide_eq_true (by omega)
        go_wp2_with (go_at_call 9; refine KC1.out.mono ?_; rintro e w7 ⟨a7, c7, rfl, hb7⟩; have Hb7 := Lib.hid (HV6.out.trans (hb7.mono hz6)); clear hb7)
        go_returns
        exact ⟨rfl, Hb7.out⟩
      · have hq2d : decide ((q : Int) < 2) = false := decide_eq_false (by omega)
        obtain ⟨a, ha⟩ : ∃ a, l[0]? = some a := ⟨_, List.getElem?_eq_getElem (by rw [hSl.out]; omega)⟩
        obtain ⟨b, hb⟩ : ∃ b, l[1]? = some b := ⟨_, List.getElem?_eq_getElem (by rw [hSl.out]; omega)⟩
        obtain ⟨sb, so, e0, hsb, hA0⟩ := HSn.out.at_ ha
        obtain ⟨sb', so', e1, _, hB0⟩ := HSn.out.at_ hb
        cases e0
        cases e1
        rw [Nat.zero_mul, Nat.add_zero] at hA0
        rw [Nat.one_mul] at hB0
        have HA0 := Lib.hid hA0
        have HB0 := Lib.hid hB0
        have Ha := Lib.hid ha
        have Hb := Lib.hid hb
        clear hA0 hB0 ha hb
        go_upto_region 21 with (go_at_call 9; refine KC1.out.mono ?_; rintro e w7 ⟨a7, c7, rfl, hb7⟩; have Hb7 := Lib.hid hb7; clear hb7)
        have hz7 := Hb7.out.size
        have HLa : Hid (∀ V, Below w7.heap.size w7 V → (Instr.loadAt 49 (.pointer (some ⟨sb, so, none⟩))).run Try.prog V = .ok (.agg a.l.toArray) V) := Lib.hid fun V h => ((HA0.out.below Hb7.out).below h).load
        have HLb : Hid (∀ V, Below w7.heap.size w7 V → (Instr.loadAt 49 (.pointer (some ⟨sb, so + 19, none⟩))).run Try.prog V = .ok (.agg b.l.toArray) V) := Lib.hid fun V h => ((HB0.out.below Hb7.out).below h).load
        go_cut [12, 13] from 129 to 134 (fun u v wx => ∃ p1 p2 : Nat, u = .pointer (some ⟨p1, 0, none⟩) ∧ v = .pointer (some ⟨p2, 0, none⟩) ∧ w7.heap.size ≤ p1 ∧ w7.heap.size ≤ p2 ∧ p1 ≠ p2 ∧ Hid (Below w7.heap.size w7 (wx : World)) ∧ Hid ((wx : World).there p1 0 19) ∧ Hid ((wx : World).there p2 0 19) ∧ Hid (SeenAt (wx : World) p1 0 a) ∧ Hid (SeenAt (wx : World) p2 0 b))
        case first =>
            --@21
            refine wp_region_held_drew (S := fun V => Below w7.heap.size w7 V) (by kernel_rfl) (by go_grown) (fun hHeld => ?_)
            refine wpAnyH_take (i := 0) (v := .slice (some ⟨sb, so, none⟩) q sc) rfl (by kernel_rfl) (by kernel_rfl) (by kernel_rfl) (fun _ _ _ h => h) (.inl ⟨by rfl, fun V hV => by go_simp⟩) (by assumption) ?_
            simp only [Act.put, List.getElem_toArray, List.getElem_cons_succ, List.getElem_cons_zero, List.setIfInBounds_toArray, List.set_cons_succ, List.set_cons_zero]
            refine wpAnyH_take (i := 1) (v := .pointer (some ⟨sb, so, none⟩)) rfl (by kernel_rfl) (by kernel_rfl) (by kernel_rfl) (fun _ _ _ h => h) (.inl ⟨by rfl, fun V hV => by go_simp; intro hx; omega⟩) (by assumption) ?_
            simp only [Act.put, List.getElem_toArray, List.getElem_cons_succ, List.getElem_cons_zero, List.setIfInBounds_toArray, List.set_cons_succ, List.set_cons_zero]
            refine wpAnyH_take (i := 2) (v := .agg a.l.toArray) rfl (by kernel_rfl) (by kernel_rfl) (by kernel_rfl) (fun _ _ _ h => h) (yieldsIf_loadK rfl (by rfl) (fun V hV => HLa.out V hV)) (by assumption) ?_
            simp only [Act.put, List.getElem_toArray, List.getElem_cons_succ, List.getElem_cons_zero, List.setIfInBounds_toArray, List.set_cons_succ, List.set_cons_zero]
            refine wpAnyH_take (i := 3) (v := .slice (some ⟨sb, so, none⟩) q sc) rfl (by kernel_rfl) (by kernel_rfl) (by kernel_rfl) (fun _ _ _ h => h) (.inl ⟨by rfl, fun V hV => by go_simp⟩) (by assumption) ?_
            simp only [Act.put, List.getElem_toArray, List.getElem_cons_succ, List.getElem_cons_zero, List.setIfInBounds_toArray, List.set_cons_succ, List.set_cons_zero]
            refine wpAnyH_take (i := 4) (v := .pointer (some ⟨sb, so + 19, none⟩)) rfl (by kernel_rfl) (by kernel_rfl) (by kernel_rfl) (fun _ _ _ h => h) (.inl ⟨by rfl, fun V hV => by go_simp; intro hx; omega⟩) (by assumption) ?_
            simp only [Act.put, List.getElem_toArray, List.getElem_cons_succ, List.getElem_cons_zero, List.setIfInBounds_toArray, List.set_cons_succ, List.set_cons_zero]
            refine wpAnyH_take (i := 5) (v := .agg b.l.toArray) rfl (by kernel_rfl) (by kernel_rfl) (by kernel_rfl) (fun _ _ _ h => h) (yieldsIf_loadK rfl (by rfl) (fun V hV => HLb.out V hV)) (by assumption) ?_
            simp only [Act.put, List.getElem_toArray, List.getElem_cons_succ, List.getElem_cons_zero, List.setIfInBounds_toArray, List.set_cons_succ, List.set_cons_zero]
            refine wpAnyH_ready (rs := [6, 7]) (by kernel_rfl) (by simp) ?_
            refine AllReadyH.cons rfl ?_ ?_
            · intro K hK
              rw [if_pos (by rfl)]
              go_simp
              obtain ⟨VA, hVA⟩ : ∃ V : World, V = (w7.alloc (.cells seenZ 49)).drew := ⟨_, rfl⟩
              have hzA : VA.heap.size = w7.heap.size + 1 := by rw [hVA]; go_size
              have hBA : Below w7.heap.size w7 VA := by rw [hVA]; go_grown
              have hTA : VA.there w7.heap.size 0 19 := by rw [hVA]; exact there_of (heap_alloc_new w7 (.cells seenZ 49))
              unfold seenZ at hVA
              rw [← hVA]
              clear hVA
              refine hK.out _ _ hBA (fun hHeld => ?_)
              clear hK K
              refine wpAnyH_ready (rs := [7]) (by kernel_rfl) (by simp) ?_
              refine AllReadyH.cons rfl ?_ AllReadyH.nil
              intro K hK
              rw [if_pos (by rfl)]
              go_simp
              obtain ⟨VB, hVB⟩ : ∃ V : World, V = VA.alloc (.cells seenZ 49) := ⟨_, rfl⟩
              have hzB : VB.heap.size = w7.heap.size + 2 := by rw [hVB, World.size_alloc, hzA]
              have hBB : Below w7.heap.size w7 VB := by rw [hVB]; exact hBA.alloc (by omega) _
              have hTB : VB.there (w7.heap.size + 1) 0 19 := by rw [hVB, ← hzA]; exact there_of (heap_alloc_new VA (.cells seenZ 49))
              have hTC : VB.there w7.heap.size 0 19 := by rw [hVB]; exact there_below hTA ((Below.refl _ _).alloc (Nat.le_refl _) _)
              unfold seenZ at hVB
              rw [← hVB]
              clear hVB
              refine hK.out _ _ hBB (fun hHeld => ?_)
              clear hK K
              refine wpAnyH_ready (rs := [8]) (by kernel_rfl) (by simp) ?_
              refine AllReadyH.cons rfl ?_ AllReadyH.nil
              intro K hK
              rw [if_pos (by rfl)]
              refine wp_store_mid _ _ _ rfl (w7.heap.size) 0 a.l.toArray rfl rfl hTC (by kernel_rfl) (SeenA.all _) ?_
              simp only [Act.put, List.getElem_toArray, List.getElem_cons_succ, List.getElem_cons_zero, List.setIfInBounds_toArray, List.set_cons_succ, List.set_cons_zero]
              change K _ (VB.setCells (w7.heap.size) 0 a.l)
              obtain ⟨VC, hVC⟩ : ∃ V : World, V = VB.setCells (w7.heap.size) 0 a.l := ⟨_, rfl⟩
              rw [← hVC]
              have HVC := Lib.hid hVC
              have hbVC : Below w7.heap.size w7 VC := by rw [hVC]; exact Below.setCells (by omega) _ _ hBB
              clear hVC
              refine hK.out _ _ hbVC (fun hHeld => ?_)
              clear hK K
              refine wpAnyH_ready (rs := [9]) (by kernel_rfl) (by simp) ?_
              refine AllReadyH.cons rfl ?_ AllReadyH.nil
              intro K hK
              rw [if_pos (by rfl)]
              have hT9 : VC.there (w7.heap.size + 1) 0 19 := by rw [HVC.out]; exact there_set (by omega) hTB
              refine wp_store_mid _ _ _ rfl (w7.heap.size + 1) 0 b.l.toArray rfl rfl hT9 (by kernel_rfl) (SeenA.all _) ?_
              simp only [Act.put, List.getElem_toArray, List.getElem_cons_succ, List.getElem_cons_zero, List.setIfInBounds_toArray, List.set_cons_succ, List.set_cons_zero]
              change K _ (VC.setCells (w7.heap.size + 1) 0 b.l)
              obtain ⟨VD, hVD⟩ : ∃ V : World, V = VC.setCells (w7.heap.size + 1) 0 b.l := ⟨_, rfl⟩
              rw [← hVD]
              have HVD := Lib.hid hVD
              have hbVD : Below w7.heap.size w7 VD := by rw [hVD]; exact Below.setCells (by omega) _ _ hbVC
              clear hVD
              refine hK.out _ _ hbVD (fun hHeld => ?_)
              clear hK K
              have HX1 : Hid (SeenAt VD (w7.heap.size) 0 a) := Lib.hid (by rw [HVD.out, HVC.out]; exact SeenAt.same (World.rangeAt_setCells_same _ _ _ _ hTC) (heap_setCells (by omega) _ _ _))
              have HX2 : Hid (SeenAt VD (w7.heap.size + 1) 0 b) := Lib.hid (by rw [HVD.out]; exact World.rangeAt_setCells_same _ _ _ _ hT9)
              have HX3 : Hid (VD.there (w7.heap.size) 0 19) := Lib.hid (by rw [HVD.out, HVC.out]; exact there_set (by omega) (there_whole hTC))
              have HX4 : Hid (VD.there (w7.heap.size + 1) 0 19) := Lib.hid (by rw [HVD.out]; exact there_whole hT9)
              have HbD := Lib.hid hbVD
              clear hbVC hbVD hBB hTB hTC hBA hTA hT9 HVC HVD
              refine wpAnyH_done (by kernel_rfl) ?_ _
              go_wp2_with fail
              go_meet
              exact ⟨w7.heap.size, w7.heap.size + 1, rfl, rfl, by omega, by omega, by omega, HbD, HX3, HX4, HX1, HX2⟩
            refine AllReadyH.cons rfl ?_ AllReadyH.nil
            · intro K hK
              rw [if_pos (by rfl)]
              go_simp
              obtain ⟨VA, hVA⟩ : ∃ V : World, V = (w7.alloc (.cells seenZ 49)).drew := ⟨_, rfl⟩
              have hzA : VA.heap.size = w7.heap.size + 1 := by rw [hVA]; go_size
              have hBA : Below w7.heap.size w7 VA := by rw [hVA]; go_grown
              have hTA : VA.there w7.heap.size 0 19 := by rw [hVA]; exact there_of (heap_alloc_new w7 (.cells seenZ 49))
              unfold seenZ at hVA
              rw [← hVA]
              clear hVA
              refine hK.out _ _ hBA (fun hHeld => ?_)
              clear hK K
              refine wpAnyH_ready (rs := [6]) (by kernel_rfl) (by simp) ?_
              refine AllReadyH.cons rfl ?_ AllReadyH.nil
              intro K hK
              rw [if_pos (by rfl)]
              go_simp
              obtain ⟨VB, hVB⟩ : ∃ V : World, V = VA.alloc (.cells seenZ 49) := ⟨_, rfl⟩
              have hzB : VB.heap.size = w7.heap.size + 2 := by rw [hVB, World.size_alloc, hzA]
              have hBB : Below w7.heap.size w7 VB := by rw [hVB]; exact hBA.alloc (by omega) _
              have hTB : VB.there (w7.heap.size + 1) 0 19 := by rw [hVB, ← hzA]; exact there_of (heap_alloc_new VA (.cells seenZ 49))
              have hTC : VB.there w7.heap.size 0 19 := by rw [hVB]; exact there_below hTA ((Below.refl _ _).alloc (Nat.le_refl _) _)
              unfold seenZ at hVB
              rw [← hVB]
              clear hVB
              refine hK.out _ _ hBB (fun hHeld => ?_)
              clear hK K
              refine wpAnyH_ready (rs := [8]) (by kernel_rfl) (by simp) ?_
              refine AllReadyH.cons rfl ?_ AllReadyH.nil
              intro K hK
              rw [if_pos (by rfl)]
              refine wp_store_mid _ _ _ rfl (w7.heap.size + 1) 0 a.l.toArray rfl rfl hTB (by kernel_rfl) (SeenA.all _) ?_
              simp only [Act.put, List.getElem_toArray, List.getElem_cons_succ, List.getElem_cons_zero, List.setIfInBounds_toArray, List.set_cons_succ, List.set_cons_zero]
              change K _ (VB.setCells (w7.heap.size + 1) 0 a.l)
              obtain ⟨VC, hVC⟩ : ∃ V : World, V = VB.setCells (w7.heap.size + 1) 0 a.l := ⟨_, rfl⟩
              rw [← hVC]
              have HVC := Lib.hid hVC
              have hbVC : Below w7.heap.size w7 VC := by rw [hVC]; exact Below.setCells (by omega) _ _ hBB
              clear hVC
              refine hK.out _ _ hbVC (fun hHeld => ?_)
              clear hK K
              refine wpAnyH_ready (rs := [9]) (by kernel_rfl) (by simp) ?_
              refine AllReadyH.cons rfl ?_ AllReadyH.nil
              intro K hK
              rw [if_pos (by rfl)]
              have hT9 : VC.there (w7.heap.size) 0 19 := by rw [HVC.out]; exact there_set (by omega) hTC
              refine wp_store_mid _ _ _ rfl (w7.heap.size) 0 b.l.toArray rfl rfl hT9 (by kernel_rfl) (SeenA.all _) ?_
              simp only [Act.put, List.getElem_toArray, List.getElem_cons_succ, List.getElem_cons_zero, List.setIfInBounds_toArray, List.set_cons_succ, List.set_cons_zero]
              change K _ (VC.setCells (w7.heap.size) 0 b.l)
              obtain ⟨VD, hVD⟩ : ∃ V : World, V = VC.setCells (w7.heap.size) 0 b.l := ⟨_, rfl⟩
              rw [← hVD]
              have HVD := Lib.hid hVD
              have hbVD : Below w7.heap.size w7 VD := by rw [hVD]; exact Below.setCells (by omega) _ _ hbVC
              clear hVD
              refine hK.out _ _ hbVD (fun hHeld => ?_)
              clear hK K
              have HX1 : Hid (SeenAt VD (w7.heap.size + 1) 0 a) := Lib.hid (by rw [HVD.out, HVC.out]; exact SeenAt.same (World.rangeAt_setCells_same _ _ _ _ hTB) (heap_setCells (by omega) _ _ _))
              have HX2 : Hid (SeenAt VD (w7.heap.size) 0 b) := Lib.hid (by rw [HVD.out]; exact World.rangeAt_setCells_same _ _ _ _ hT9)
              have HX3 : Hid (VD.there (w7.heap.size + 1) 0 19) := Lib.hid (by rw [HVD.out, HVC.out]; exact there_set (by omega) (there_whole hTB))
              have HX4 : Hid (VD.there (w7.heap.size) 0 19) := Lib.hid (by rw [HVD.out]; exact there_whole hT9)
              have HbD := Lib.hid hbVD
              clear hbVC hbVD hBB hTB hTC hBA hTA hT9 HVC HVD
              refine wpAnyH_done (by kernel_rfl) ?_ _
              go_wp2_with fail
              go_meet
              exact ⟨w7.heap.size + 1, w7.heap.size, rfl, rfl, by omega, by omega, by omega, HbD, HX3, HX4, HX1, HX2⟩
            --@/21
        case rest =>
          obtain ⟨p1, p2, rfl, rfl, hp1, hp2, hp12, hb21, hT1, hT2, hS1, hS2⟩ := hcut
          obtain ⟨W7, rfl⟩ : ∃ W : World, W = wc := ⟨_, rfl⟩
          have hmA := List.mem_of_getElem? Ha.out
          have hmB := List.mem_of_getElem? Hb.out
          obtain ⟨b1, l1, hPa, _⟩ := hSp.out a hmA
          obtain ⟨b2, l2, hPb, _⟩ := hSp.out b hmB
          have HPa := Lib.hid hPa
          have HPb := Lib.hid hPb
          have HXb := Lib.hid (hSp.out b hmB)
          have Hoka := Lib.hid (Hlok.out a hmA)
          have Hokb := Lib.hid (Hlok.out b hmB)
          have HIa := Lib.hid ((hSi.out a hmA).below Hb7.out)
          have HIb := Lib.hid ((hSi.out b hmB).below Hb7.out)
          obtain ⟨ca, hca⟩ : ∃ ca : Nat, a.com = ca := ⟨a.com.toNat, by have := hPa.com0; omega⟩
          obtain ⟨cb, hcb⟩ : ∃ cb : Nat, b.com = cb := ⟨b.com.toNat, by have := hPb.com0; omega⟩
          have hca1 : ca ≤ 41 := by have := hPa.com1; have := hPa.ll; have := hL.out.2; omega
          have hcb1 : cb ≤ l2 := by have := hPb.com1; omega
          have hl2 : l2 ≤ 41 := by have := hPb.ll; have := hL.out.2; omega
          have hb1l : b1 ≤ 41 := by have := hPa.bl; have := hPa.ll; have := hL.out.2; omega
          have hb2l : b2 ≤ l2 := hPb.bl
          have x6 : W7.cell? ⟨p1, 6, none⟩ = some (.int .u64 (b1 : Int)) := by
            have := hS1.out.at_ 6 _ rfl
            rw [Nat.zero_add, hPa.bidx] at this
            exact this
          have x10 : W7.cell? ⟨p1, 10, none⟩ = some (.int .u64 (ca : Int)) := by
            have := hS1.out.at_ 10 _ rfl
            rw [Nat.zero_add, hca] at this
            exact this
          have y6 : W7.cell? ⟨p2, 6, none⟩ = some (.int .u64 (b2 : Int)) := by
            have := hS2.out.at_ 6 _ rfl
            rw [Nat.zero_add, hPb.bidx] at this
            exact this
          have y10 : W7.cell? ⟨p2, 10, none⟩ = some (.int .u64 (cb : Int)) := by
            have := hS2.out.at_ 10 _ rfl
            rw [Nat.zero_add, hcb] at this
            exact this
          have y9 : W7.cell? ⟨p2, 9, none⟩ = some (.slice b.ea b.en b.ec) := by
            have := hS2.out.at_ 9 _ rfl
            rw [Nat.zero_add] at this
            exact this
          have Hben : Hid (b.en = l2 - b2) := Lib.hid (by rw [← HIb.out.es.len]; exact hPb.len)
          have hbe41 : b.en ≤ 41 := by have := Hben.out; omega
          obtain ⟨N, hN⟩ : ∃ N : Nat, N = min ca cb := ⟨_, rfl⟩
          have HNm : Hid ((N : Int) = min a.com b.com) := Lib.hid (by rw [hca, hcb, hN]; omega)
          have hNa : N ≤ ca := by omega
          have hNb : N ≤ cb := by omega
          have HN := Lib.hid hN
          have hz21 := hb21.out.size
          have HV7 := Lib.hid (HV6.out.trans (Hb7.out.mono hz6))
          have hzw7 := HV7.out.size
          have hp1l := there_lt hT1.out
          have hp2l := there_lt hT2.out
          clear hN hca hcb hPa hPb hmA hmB
          go_upto_region 22 with fail
          go_cut [14] from 135 to 139 (fun v wx => v = .int .u64 (N : Int) ∧ W7 = wx)
          case first =>
            go_wp2_with fail
            all_goals (go_meet; exact ⟨by have := HN.out; congr 1; omega, rfl⟩)
          case rest =>
            obtain ⟨rfl, rfl⟩ := hcut
            by_cases hn1 : N ≤ b1
            · have hd1 : decide ((N : Int) ≤ (b1 : Int)) = true := decide_eq_true (by omega)
              go_wp2_with fail
              go_returns
              exact ⟨rfl, HV7.out.trans (hb21.out.mono hzw7)⟩
            have hd1 : decide ((N : Int) ≤ (b1 : Int)) = false := decide_eq_false (by omega)
            by_cases hn2 : N ≤ b2
            · have hd2 : decide ((N : Int) ≤ (b2 : Int)) = true := decide_eq_true (by omega)
              go_wp2_with fail
              go_returns
              exact ⟨rfl, HV7.out.trans (hb21.out.mono hzw7)⟩
            have hd2 : decide ((N : Int) ≤ (b2 : Int)) = false := decide_eq_false (by omega)
            have HEb := Lib.hid (HIb.out.es.arr.below hb21.out)
            have hbecap := Arr.max HEb.out
            have hbef := Arr.fits HEb.out
            go_upto_region 27 with (at_builtin; refine wpList_append_arr _ rfl _ _ 42 rfl W7.heap.size 60 j0 _ 24 264 Try.underlying42 Hj.out jz0 jz1 jz2 rfl (by decide) _ 0 [] rfl (Row.nil _ _ _ _) rfl HEb.out (by omega) (by unfold maxLen; omega) (by go_size) ?_; intro v8 w8 hr8 hb8 hg8; have Hr8 := Lib.hid hr8; have Hb8 := Lib.hid hb8; clear hr8 hb8 hg8)
            have hz8 := Hb8.out.size
            obtain ⟨gt, ct, hv8, hgt0, hgt⟩ : ∃ gt ct, v8 = .slice (some ⟨gt, 0, none⟩) b.en ct ∧ W7.heap.size ≤ gt ∧ gt < w8.heap.size := by
              rcases Hr8.out.form with ⟨_, h0⟩ | ⟨gt, ct, h1, h2, h3, _⟩
              · have := Hben.out; omega
              · rw [Nat.zero_add] at h1
                exact ⟨gt, ct, h1, h2, h3⟩
            subst hv8
            have hr8 : Row w8 W7.heap.size 60 24 (.slice (some ⟨gt, 0, none⟩) b.en ct) b.en (b.es.map EntA.l).flatten := by
              have := Hr8.out
              rw [Nat.zero_add, List.nil_append] at this
              exact this
            have HR8 := Lib.hid hr8
            obtain ⟨j, rfl⟩ : ∃ j, N = b2 + 1 + j := ⟨N - b2 - 1, by omega⟩
            have hjn : j < b.en := by have := Hben.out; omega
            obtain ⟨e, he⟩ : ∃ e, b.es[j]? = some e := ⟨_, List.getElem?_eq_getElem (by rw [HIb.out.es.len]; exact hjn)⟩
            have He := Lib.hid he
            have z6 := (Hb8.out.cell (p := ⟨p2, 6, none⟩) hp2l).trans y6
            have HT8 := Lib.hid (row_one hr8 (j := j * 24 + 6) (by omega))
            have hNc : ((b2 + 1 + j : Nat) : Int) = (b2 : Int) + 1 + (j : Int) := by omega
            rw [hNc]
            have hix1 : (b2 : Int) + 1 + (j : Int) - (b2 : Int) = (j : Int) + 1 := by omega
            have hben := Hben.out
            have hjl : j < 41 := by omega
            clear hr8 Hr8 he hNc x6 x10 y6 y10 hben
            go_upto_region 28 with (refine wpList_store_one gt (j * 24 + 6) (.int .u64 9) rfl rfl rfl rfl ?ht2 (by kernel_rfl) rfl ?_; (case ht2 => exact HT8.out); simp only [Act.put, List.setIfInBounds_toArray, List.set_cons_succ, List.set_cons_zero])
            clear hix1 z6
            obtain ⟨W27, hW27⟩ : ∃ V, V = w8.setCell ⟨gt, j * 24 + 6, none⟩ (.int .u64 9) := ⟨_, rfl⟩
            have hb27 : Below W7.heap.size W7 W27 := by rw [hW27]; exact Hb8.out.setCell hgt0 _
            have hr27 : Row W27 W7.heap.size 60 24 (.slice (some ⟨gt, 0, none⟩) b.en ct) b.en ((b.es.set j (turnE e)).map EntA.l).flatten := by
              rw [hW27]
              have := HR8.out.store (k := 0) (j := j * 24 + 6) (by omega) (.int .u64 9)
              rw [turn_flat He.out] at this
              exact this
            have hgt27 : gt < W27.heap.size := by rw [hW27, World.size_setCell]; exact hgt
            rw [← hW27]
            have HT27 := Lib.hid (there_one (there_below hT2.out hb27) 9 (by decide))
            have HR27 := Lib.hid hr27
            have Hb27 := Lib.hid hb27
            clear hW27 hb27 hr27 HT8 HR8
            go_upto_region 29 with (refine wpList_store_one p2 9 (.slice (some ⟨gt, 0, none⟩) b.en ct) rfl rfl rfl rfl ?ht3 (by kernel_rfl) rfl ?_; (case ht3 => exact HT27.out); simp only [Act.put, List.setIfInBounds_toArray, List.set_cons_succ, List.set_cons_zero])
            obtain ⟨W28, hW28⟩ : ∃ V, V = W27.setCell ⟨p2, 9, none⟩ (.slice (some ⟨gt, 0, none⟩) b.en ct) := ⟨_, rfl⟩
            obtain ⟨c, hc⟩ : ∃ c, c = turnS b j e (some ⟨gt, 0, none⟩) ct := ⟨_, rfl⟩
            have hb28 : Below w7.heap.size w7 W28 := by rw [hW28]; exact (hb21.out.trans (Hb27.out.mono hz21)).setCell hp2 _
            have hA28 : SeenAt W28 p1 0 a := (SeenAt.below hS1.out Hb27.out).same (by rw [hW28]; exact Below.heap_setCell _ _ _ _ (by simp only; omega))
            have hB28 : SeenAt W28 p2 0 c := by rw [hW28, hc]; exact SeenAt.set1 (SeenAt.below hS2.out Hb27.out) 9 (show 9 < 19 by decide) _
            have hr28 : Row W28 W7.heap.size 60 24 (.slice (some ⟨gt, 0, none⟩) b.en ct) b.en ((b.es.set j (turnE e)).map EntA.l).flatten := by
              rw [hW28]
              exact Row.setCell HR27.out (fun k hk => by cases hk; simp only; omega) _
            have hIa : a.In W28 := HIa.out.below hb28
            have hIc : c.In W28 := by rw [hc]; exact turn_in (HIb.out.below hb28) He.out (partx_mem hL.out.1 HXb.out e (List.mem_of_getElem? He.out)) hr28
            have hmem : ((6 : Int), (1 : Int)) ∈ checkL [a, c] := by
              have hj : j = b2 + 1 + j - b2 - 1 := by omega
              have := check_turned hL.out.1.log HPa.out HPb.out (b2 + 1 + j) HNm.out (by omega) (by omega) (e := e) (by rw [← hj]; exact He.out) (some ⟨gt, 0, none⟩) ct
              rw [← hj, ← hc] at this
              exact this
            have KC2 := Lib.hid (turned_any hL.out.1 (by rw [hL.out.2]; omega) W28 hIa hIc Hoka.out (by rw [hc]; exact turn_ok He.out Hokb.out _ _) hmem)
            rw [← hW28]
            have LA := Lib.hid hA28.load
            have LB := Lib.hid hB28.load
            have Hb28 := Lib.hid (HV7.out.trans (hb28.mono hzw7))
            have hz28 := Hb28.out.size
            clear hW28 hb28 hA28 hB28 hr28 hIa hIc hmem HT27 HR27 hc
            go_upto_region 30 with (first
              | (refine wpList_loadK rfl (by rfl) rfl (by first | exact LA.out | exact LB.out) ?_; simp only [Act.put, List.setIfInBounds_toArray, List.set_cons_succ, List.set_cons_zero])
              | (refine wpList_build2 (by rfl) 22 49 _ _ rfl a.l c.l rfl rfl 19 i0 _ Try.underlying22 Hi.out iz0 iz1 (by decide) (by decide) rfl rfl ?_; simp only [Act.put, List.setIfInBounds_toArray, List.set_cons_succ, List.set_cons_zero])
              | (go_at_call 9; with_reducible refine KC2.out.mono ?_; rintro x w9 ⟨g9, n9, c9, fs, rfl, hmem, hA9, hb9⟩; have HM := Lib.hid hmem; have HA9 := Lib.hid hA9; have Hb9 := Lib.hid (Hb28.out.trans (hb9.mono hz28)); clear hmem hA9 hb9))
            have hl9 : Hid (fs.length = n9) := Lib.hid (by have := Arr.len HA9.out; rwa [List.length_map] at this)
            have hm9 := Arr.max HA9.out
            have hf9 := Arr.fits HA9.out
            unfold maxLen at hm9
            clear KC2 LA LB
            go_wp2_with fail
            go_loopw [17, 18] (fun u i V => ∃ k : Nat, k ≤ n9 ∧ i = .int .i64 k ∧ u = .bool (decide (((6 : Int), (1 : Int)) ∈ fs.take k)) ∧ w9 = V) (fun _ i _ => n9 - (intOf i).toNat)
            case atStart => exact ⟨0, by omega, rfl, rfl, rfl⟩
            case round =>
              obtain ⟨k, hk, rfl, rfl, rfl⟩ := hrel
              by_cases hlt : k < n9
              · obtain ⟨f, hf⟩ : ∃ f, fs[k]? = some f := ⟨_, List.getElem?_eq_getElem (by rw [hl9.out]; exact hlt)⟩
                obtain ⟨g', o', e0, hgl, hF⟩ := Arr.at_ HA9.out (i := k) (e := faultE f) (by rw [List.getElem?_map, hf]; rfl)
                cases e0
                have x0 := hF 0 _ rfl
                have x1 := hF 1 _ rfl
                simp only [Nat.zero_add, Nat.add_zero] at x0 x1
                have Htk : Hid (fs.take (k + 1) = fs.take k ++ [f]) := Lib.hid (by rw [List.take_add_one, hf]; rfl)
                have hkd : decide ((k : Int) < (n9 : Int)) = true := decide_eq_true (by omega)
                clear hF hf
                by_cases hin : ((6 : Int), (1 : Int)) ∈ fs.take k
                · have hin2 : decide (((6 : Int), (1 : Int)) ∈ fs.take (k + 1)) = true := decide_eq_true (by rw [Htk.out]; exact List.mem_append_left _ hin)
                  have Hin2 := Lib.hid hin2
                  rw [decide_eq_true hin]
                  clear hin hin2
                  go_wp2_with fail
                  exact ⟨⟨k + 1, by omega, by go_num, by rw [Hin2.out], by first | trivial | rfl⟩, by simp [intOf]; omega⟩
                · have Hin2 : Hid (decide (((6 : Int), (1 : Int)) ∈ fs.take (k + 1)) = decide (f = (6, 1))) := Lib.hid (by
                    rw [Htk.out]
                    have : (((6 : Int), (1 : Int)) ∈ fs.take k ++ [f]) ↔ f = (6, 1) := by
                      rw [List.mem_append, List.mem_singleton]
                      exact ⟨fun h => h.elim (fun h => absurd h hin) Eq.symm, fun h => .inr h.symm⟩
                    simp only [this])
                  rw [decide_eq_false hin]
                  clear hin
                  obtain ⟨f1, f2⟩ := f
                  by_cases h1 : f1 = 6
                  · by_cases h2 : f2 = 1
                    · subst h1 h2
                      go_wp2_with fail
                      exact ⟨⟨k + 1, by omega, by go_num, by rw [Hin2.out]; rfl, by first | trivial | rfl⟩, by simp [intOf]; omega⟩
                    · have t1 : (f2 == 1) = false := by simpa using h2
                      have t2 : decide (f2 = 1) = false := by simpa using h2
                      have Hf : Hid (decide ((f1, f2) = ((6 : Int), (1 : Int))) = false) := Lib.hid (decide_eq_false (fun e => h2 (congrArg Prod.snd e)))
                      go_wp2_with fail
                      exact ⟨⟨k + 1, by omega, by go_num, by rw [Hin2.out, Hf.out], by first | trivial | rfl⟩, by simp [intOf]; omega⟩
                  · have t1 : (f1 == 6) = false := by simpa using h1
                    have t2 : decide (f1 = 6) = false := by simpa using h1
                    have Hf : Hid (decide ((f1, f2) = ((6 : Int), (1 : Int))) = false) := Lib.hid (decide_eq_false (fun e => h1 (congrArg Prod.fst e)))
                    go_wp2_with fail
                    exact ⟨⟨k + 1, by omega, by go_num, by rw [Hin2.out, Hf.out], by first | trivial | rfl⟩, by simp [intOf]; omega⟩
              · obtain rfl : k = n9 := by omega
                have hall : decide (((6 : Int), (1 : Int)) ∈ fs.take k) = true := decide_eq_true (by rw [List.take_of_length_le (by rw [hl9.out]; exact Nat.le_refl _)]; exact HM.out)
                rw [hall]
                clear hall
                go_wp2_with fail
                go_returns
                exact ⟨rfl, Hb9.out⟩
end Go.Proofs.Yteibnignjghedaa
