/-
  Lists of places, of faults compared: the walks of acreageref28.same, acreageref28.Same, acreageref32.Same.
-/
import Derived.Test.YteibnignjghedaaAudA
import Derived.Test.YteibnignjghedaaAudQ
namespace Go.Proofs.Yteibnignjghedaa
open Go.RowKit Go.Sort

set_option maxRecDepth 100000 in
set_option maxHeartbeats 4000000 in
theorem psame_any (a b : LocI) (w : World) (h : Ints w a.na a.nn a.nc a.nd) (h2 : Ints w b.na b.nn b.nc b.nd) :
    Calls Try.prog 35 #[a.v, b.v] w fun e w' => e = .returned (.bool (sameLc a b)) ∧ Below w.heap.size w w' := by
  obtain ⟨R, hR⟩ : ∃ R, R = sameLc a b := ⟨_, rfl⟩
  rw [← hR]
  have KI := Lib.hid fun (W : World) (hb : Below w.heap.size w W) => reqints_any a.na b.na a.nn a.nc b.nn b.nc a.nd b.nd W (h.below hb) (h2.below hb)
  obtain ⟨M, hM⟩ : ∃ M : Bool, M = decide (a.nd = b.nd) := ⟨_, rfl⟩
  have HR : Hid (R = (decide (a.gr = b.gr) && decide (a.lo = b.lo) && decide (a.hi = b.hi) && decide (a.ep = b.ep) && M)) := Lib.hid (by rw [hR, hM, sameLc])
  rw [← hM] at KI
  clear hR hM h h2
  obtain ⟨g1, l1, u1, e1, n1, m1, k1, d1⟩ := a
  obtain ⟨g2, l2, u2, e2, n2, m2, k2, d2⟩ := b
  simp only [LocI.v, LocI.l]
  simp only at KI HR
  go_enter Try.func35, Try.ntmps35
  by_cases h1 : g1 = g2
  · subst h1
    by_cases h2 : l1 = l2
    · subst h2
      by_cases h3 : u1 = u2
      · subst h3
        by_cases h4 : e1 = e2
        · subst h4
          have hRf : Hid (R = M) := Lib.hid (by rw [HR.out]; simp)
          clear HR
          go_wp2_with (go_at_call 58; refine (KI.out _ (by go_grown)).mono ?_; rintro e w1 ⟨rfl, hb⟩)
          go_returns
          exact ⟨by rw [hRf.out]; rfl, Below.trans (by go_grown) (hb.mono (by go_size))⟩
        · have hRf : Hid (R = false) := Lib.hid (by rw [HR.out]; simp [h4])
          have t4 : (e1 == e2) = false := by simpa using h4
          clear h4
          go_wp2_with fail
          go_returns
          exact ⟨by rw [hRf.out]; rfl, by go_grown⟩
      · have hRf : Hid (R = false) := Lib.hid (by rw [HR.out]; simp [h3])
        have t3 := str_ne h3
        obtain ⟨t3, t4⟩ := t3
        go_wp2_with fail
        go_returns
        exact ⟨by rw [hRf.out]; rfl, by go_grown⟩
    · have hRf : Hid (R = false) := Lib.hid (by rw [HR.out]; simp [h2])
      have t3 := str_ne h2
      obtain ⟨t3, t4⟩ := t3
      go_wp2_with fail
      go_returns
      exact ⟨by rw [hRf.out]; rfl, by go_grown⟩
  · have hRf : Hid (R = false) := Lib.hid (by rw [HR.out]; simp [h1])
    have t4 : (g1 == g2) = false := by simpa using h1
    clear h1
    go_wp2_with fail
    go_returns
    exact ⟨by rw [hRf.out]; rfl, by go_grown⟩


set_option maxRecDepth 100000 in
set_option maxHeartbeats 4000000 in
theorem placesame_any (ao ao2 : Option Addr) (n cap n2 cap2 : Nat) (l l2 : List LocI) (w : World) (h : LocsI w ao n cap l) (h2 : LocsI w ao2 n2 cap2 l2) :
    Calls Try.prog 14 #[.slice ao n cap, .slice ao2 n2 cap2] w fun e w' => e = .returned (.bool (sameLs l l2)) ∧ Below w.heap.size w w' := by
  obtain ⟨R, hR⟩ : ∃ R, R = sameLs l l2 := ⟨_, rfl⟩
  rw [← hR]
  have HR := Lib.hid hR
  have HL := Lib.hid h
  have HL2 := Lib.hid h2
  have hc1 := Arr.fits h.arr
  have hc2 := Arr.max h.arr
  have hc3 := Arr.fits h2.arr
  unfold maxLen at hc2
  have N1 := Lib.hid (locs_len h)
  have N2 := Lib.hid (locs_len h2)
  clear hR h h2
  by_cases hne : n = n2
  · subst hne
    have t1 : ((n : Int) != (n : Int)) = false := by simp
    go_enter Try.func14, Try.ntmps14
    go_wp2
    go_loopw [5] (fun i wr => ∃ k : Nat, k ≤ n ∧ i = .int .i64 k ∧ Hid ((l.map LocI.says).take k = (l2.map LocI.says).take k) ∧ Below w.heap.size w wr) (fun i _ => n - (intOf i).toNat)
    case atStart => exact ⟨0, by omega, rfl, Lib.hid rfl, Below.refl _ _⟩
    case round =>
      obtain ⟨k, hk, rfl, hT, hB0⟩ := hrel
      have hzr := hB0.size
      by_cases hlt : k < n
      · obtain ⟨x, hx⟩ : ∃ x, l[k]? = some x := ⟨_, List.getElem?_eq_getElem (by rw [N1.out]; omega)⟩
        obtain ⟨y, hy⟩ : ∃ y, l2[k]? = some y := ⟨_, List.getElem?_eq_getElem (by rw [N2.out]; omega)⟩
        obtain ⟨g, off, e0, hgb, xx⟩ := locs_at (HL.out.below hB0) hx
        obtain ⟨g2, off2, e2, hgb2, yy⟩ := locs_at (HL2.out.below hB0) hy
        have hxs : (l.map LocI.says)[k]? = some x.says := by rw [List.getElem?_map, hx]; rfl
        have hys : (l2.map LocI.says)[k]? = some y.says := by rw [List.getElem?_map, hy]; rfl
        have Hx := Lib.hid hxs
        have Hy := Lib.hid hys
        have HLx := Lib.hid xx.regrown
        have HLy := Lib.hid yy.regrown
        have KL0 := fun (d : Nat) (os : Array Obj) => psame_any x y (grow (redrawn wr d) os) (((HL.out.below hB0).nd x (List.mem_of_getElem? hx)).below (below_regrown wr d os)) (((HL2.out.below hB0).nd y (List.mem_of_getElem? hy)).below (below_regrown wr d os))
        rw [sameLc_says] at KL0
        obtain ⟨N, hN⟩ : ∃ N, N = decide (x.says = y.says) := ⟨_, rfl⟩
        rw [← hN] at KL0
        simp only [LocI.v] at KL0
        have KL := Lib.hid KL0
        have HN := Lib.hid hN
        cases e0
        cases e2
        clear hx hy xx yy hxs hys KL0 hN
        go_wp2
        refine wp_region_below (by kernel_rfl) (by kernel_rfl) (fun hkept => ?_)
        obtain ⟨r0, rf0⟩ := hkept (g) (by go_size); obtain ⟨r1, rf1⟩ := hkept (g2) (by go_size); clear hkept
        repeat (any_goals (first | go_big_quiet_skip | (refine wpQuiet_loadR (HLx.out) rfl rfl (by rfl) ?_; simp only [Act.put, List.setIfInBounds_toArray, List.set_cons_succ, List.set_cons_zero]) | (refine wpQuiet_loadR (HLy.out) rfl rfl (by rfl) ?_; simp only [Act.put, List.setIfInBounds_toArray, List.set_cons_succ, List.set_cons_zero]) | go_big_quiet_step (first | (go_at_call 35; exact Calls.regrown_of (KL.out _ _))) | quiet_step (first | (go_at_call 35; exact Calls.regrown_of (KL.out _ _))) | (refine wpQuiet_step (fun K hK => ?_); go_simp; split <;> (refine hK _ ?_; clear hK K))))
        all_goals (refine wpQuiet_nil ?_; intro w5 hb; obtain ⟨hB, hS, hk⟩ := after (B := wr.heap.size) (w := wr) (by go_grown) (by go_size) hb; obtain ⟨c0, f0, z0⟩ := hk (g) (by go_size); obtain ⟨c1, f1, z1⟩ := hk (g2) (by go_size); clear hk hb r0 rf0 r1 rf1)
        cases N
        · have hRf : Hid (R = false) := Lib.hid (by
            rw [HR.out, sameLs, decide_eq_false_iff_not]
            intro e
            have h9 := Hx.out
            rw [e, Hy.out] at h9
            have hxy := HN.out
            rw [eq_comm, decide_eq_false_iff_not] at hxy
            exact hxy (Option.some.inj h9).symm)
          simp only [Bool.not_false]
          go_wp2
          go_returns
          exact ⟨by rw [hRf.out]; rfl, hB0.trans (hB.mono hzr)⟩
        · have hT2 : Hid ((l.map LocI.says).take (k + 1) = (l2.map LocI.says).take (k + 1)) := Lib.hid (by
            have hxy := HN.out
            rw [eq_comm, decide_eq_true_eq] at hxy
            rw [List.take_add_one, List.take_add_one, hT.out, Hx.out, Hy.out, hxy])
          simp only [Bool.not_true]
          go_wp2
          exact ⟨⟨k + 1, by omega, by go_num, hT2, hB0.trans (hB.mono hzr)⟩, by simp [intOf]; omega⟩
      · obtain rfl : k = n := by omega
        have hRt : Hid (R = true) := Lib.hid (by
          have := hT.out
          rw [List.take_of_length_le (by rw [List.length_map, N1.out]; exact Nat.le_refl _), List.take_of_length_le (by rw [List.length_map, N2.out]; exact Nat.le_refl _)] at this
          rw [HR.out, sameLs, this]; simp)
        go_wp2
        go_returns
        exact ⟨by rw [hRt.out]; rfl, hB0⟩
  · have t1 : ((n : Int) != (n2 : Int)) = true := by rw [bne_iff_ne]; omega
    have hRf : Hid (R = false) := Lib.hid (by
      rw [HR.out, sameLs, decide_eq_false_iff_not]
      intro e
      have h1 := congrArg List.length e
      rw [List.length_map, List.length_map, N1.out, N2.out] at h1
      exact hne h1)
    go_enter Try.func14, Try.ntmps14
    go_wp2
    go_returns
    exact ⟨by rw [hRf.out]; rfl, by go_grown⟩

/-- faults in a slice -/
abbrev FaultsA (w : World) (ao : Option Addr) (n cap : Nat) (fs : List (Int × Int)) : Prop := Arr w 2 ao n cap (fs.map faultE)
set_option maxRecDepth 100000 in
set_option maxHeartbeats 4000000 in
theorem faultsame_any (ao ao2 : Option Addr) (n cap n2 cap2 : Nat) (l l2 : List (Int × Int)) (w : World) (h : FaultsA w ao n cap l) (h2 : FaultsA w ao2 n2 cap2 l2) :
    Calls Try.prog 8 #[.slice ao n cap, .slice ao2 n2 cap2] w fun e w' => e = .returned (.bool (decide (l = l2))) ∧ Below w.heap.size w w' := by
  obtain ⟨R, hR⟩ : ∃ R, R = decide (l = l2) := ⟨_, rfl⟩
  rw [← hR]
  have HR := Lib.hid hR
  have HL := Lib.hid h
  have HL2 := Lib.hid h2
  have hc1 := Arr.fits h
  have hc2 := Arr.max h
  have hc3 := Arr.fits h2
  unfold maxLen at hc2
  have N1 : Hid (l.length = n) := Lib.hid (by have := Arr.len h; rwa [List.length_map] at this)
  have N2 : Hid (l2.length = n2) := Lib.hid (by have := Arr.len h2; rwa [List.length_map] at this)
  clear hR h h2
  by_cases hne : n = n2
  · subst hne
    have t1 : ((n : Int) != (n : Int)) = false := by simp
    go_enter Try.func8, Try.ntmps8
    go_wp2
    go_loopw [5] (fun i wr => ∃ k : Nat, k ≤ n ∧ i = .int .i64 k ∧ Hid (l.take k = l2.take k) ∧ Below w.heap.size w wr) (fun i _ => n - (intOf i).toNat)
    case atStart => exact ⟨0, by omega, rfl, Lib.hid rfl, Below.refl _ _⟩
    case round =>
      obtain ⟨k, hk, rfl, hT, hB0⟩ := hrel
      have hzr := hB0.size
      by_cases hlt : k < n
      · obtain ⟨x, hx⟩ : ∃ x, l[k]? = some x := ⟨_, List.getElem?_eq_getElem (by rw [N1.out]; omega)⟩
        obtain ⟨y, hy⟩ : ∃ y, l2[k]? = some y := ⟨_, List.getElem?_eq_getElem (by rw [N2.out]; omega)⟩
        obtain ⟨g, off, e0, hgb, xx⟩ := Arr.at_ (HL.out.below hB0) (i := k) (e := faultE x) (by rw [List.getElem?_map, hx]; rfl)
        obtain ⟨g2, off2, e2, hgb2, yy⟩ := Arr.at_ (HL2.out.below hB0) (i := k) (e := faultE y) (by rw [List.getElem?_map, hy]; rfl)
        have Hx := Lib.hid hx
        have Hy := Lib.hid hy
        obtain ⟨x1, x2⟩ := x
        obtain ⟨y1, y2⟩ := y
        have p0 : wr.cell? ⟨g, off + k * 2, none⟩ = some (.int .i64 x1) := xx 0 _ rfl
        have p1 : wr.cell? ⟨g, off + k * 2 + 1, none⟩ = some (.int .i64 x2) := xx 1 _ rfl
        have q0 : wr.cell? ⟨g2, off2 + k * 2, none⟩ = some (.int .i64 y1) := yy 0 _ rfl
        have q1 : wr.cell? ⟨g2, off2 + k * 2 + 1, none⟩ = some (.int .i64 y2) := yy 1 _ rfl
        cases e0
        cases e2
        clear hx hy xx yy
        by_cases h1 : x1 = y1
        · subst h1
          by_cases h2 : x2 = y2
          · subst h2
            have hT2 : Hid (l.take (k + 1) = l2.take (k + 1)) := Lib.hid (by rw [List.take_add_one, List.take_add_one, hT.out, Hx.out, Hy.out])
            go_wp2
            refine wp_region_below (by kernel_rfl) (by kernel_rfl) (fun hkept => ?_)
            obtain ⟨r0, rf0⟩ := hkept (g) (by go_size); obtain ⟨r1, rf1⟩ := hkept (g2) (by go_size); clear hkept
            repeat (any_goals (first | go_big_quiet_step (fail) | quiet_step (fail) | (refine wpQuiet_step (fun K hK => ?_); go_simp; split <;> (refine hK _ ?_; clear hK K))))
            all_goals (refine wpQuiet_nil ?_; intro w5 hb; obtain ⟨hB, hS, hk⟩ := after (B := wr.heap.size) (w := wr) (by go_grown) (by go_size) hb; obtain ⟨c0, f0, z0⟩ := hk (g) (by go_size); obtain ⟨c1, f1, z1⟩ := hk (g2) (by go_size); clear hk hb r0 rf0 r1 rf1)
            go_wp2
            exact ⟨⟨k + 1, by omega, by go_num, hT2, hB0.trans (hB.mono hzr)⟩, by simp [intOf]; omega⟩
          · have t2 : (x2 == y2) = false := by simpa using h2
            have hRf : Hid (R = false) := Lib.hid (by
              rw [HR.out, decide_eq_false_iff_not]
              intro e
              have h9 := Hx.out
              rw [e, Hy.out] at h9
              exact h2 (by cases h9; rfl))
            go_wp2
            refine wp_region_below (by kernel_rfl) (by kernel_rfl) (fun hkept => ?_)
            obtain ⟨r0, rf0⟩ := hkept (g) (by go_size); obtain ⟨r1, rf1⟩ := hkept (g2) (by go_size); clear hkept
            repeat (any_goals (first | go_big_quiet_step (fail) | quiet_step (fail) | (refine wpQuiet_step (fun K hK => ?_); go_simp; split <;> (refine hK _ ?_; clear hK K))))
            all_goals (refine wpQuiet_nil ?_; intro w5 hb; obtain ⟨hB, hS, hk⟩ := after (B := wr.heap.size) (w := wr) (by go_grown) (by go_size) hb; obtain ⟨c0, f0, z0⟩ := hk (g) (by go_size); obtain ⟨c1, f1, z1⟩ := hk (g2) (by go_size); clear hk hb r0 rf0 r1 rf1)
            go_wp2
            go_returns
            exact ⟨by rw [hRf.out]; rfl, hB0.trans (hB.mono hzr)⟩
        · have t2 : (x1 == y1) = false := by simpa using h1
          have hRf : Hid (R = false) := Lib.hid (by
            rw [HR.out, decide_eq_false_iff_not]
            intro e
            have h9 := Hx.out
            rw [e, Hy.out] at h9
            exact h1 (by cases h9; rfl))
          go_wp2
          refine wp_region_below (by kernel_rfl) (by kernel_rfl) (fun hkept => ?_)
          obtain ⟨r0, rf0⟩ := hkept (g) (by go_size); obtain ⟨r1, rf1⟩ := hkept (g2) (by go_size); clear hkept
          repeat (any_goals (first | go_big_quiet_step (fail) | quiet_step (fail) | (refine wpQuiet_step (fun K hK => ?_); go_simp; split <;> (refine hK _ ?_; clear hK K))))
          all_goals (refine wpQuiet_nil ?_; intro w5 hb; obtain ⟨hB, hS, hk⟩ := after (B := wr.heap.size) (w := wr) (by go_grown) (by go_size) hb; obtain ⟨c0, f0, z0⟩ := hk (g) (by go_size); obtain ⟨c1, f1, z1⟩ := hk (g2) (by go_size); clear hk hb r0 rf0 r1 rf1)
          go_wp2
          go_returns
          exact ⟨by rw [hRf.out]; rfl, hB0.trans (hB.mono hzr)⟩
      · obtain rfl : k = n := by omega
        have hRt : Hid (R = true) := Lib.hid (by
          have := hT.out
          rw [List.take_of_length_le (by rw [N1.out]; exact Nat.le_refl _), List.take_of_length_le (by rw [N2.out]; exact Nat.le_refl _)] at this
          rw [HR.out, this]; simp)
        go_wp2
        go_returns
        exact ⟨by rw [hRt.out]; rfl, hB0⟩
  · have t1 : ((n : Int) != (n2 : Int)) = true := by rw [bne_iff_ne]; omega
    have hRf : Hid (R = false) := Lib.hid (by
      rw [HR.out, decide_eq_false_iff_not]
      intro e
      have h1 := N1.out
      rw [e, N2.out] at h1
      exact hne h1.symm)
    go_enter Try.func8, Try.ntmps8
    go_wp2
    go_returns
    exact ⟨by rw [hRf.out]; rfl, by go_grown⟩
end Go.Proofs.Yteibnignjghedaa
