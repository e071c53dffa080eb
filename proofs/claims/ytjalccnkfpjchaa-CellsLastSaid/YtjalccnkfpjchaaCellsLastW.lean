/-
  The walk of acreagelaw04.CellsLast.
-/
import Derived.Test.YtjalccnkfpjchaaLastPlain
namespace Go.Proofs.Ytjalccnkfpjchaa
open Go.RowKit Go.Sort

theorem own_app {w : World} {B n m : Nat} {v : Value} {xs : List Value} {l1 l2 : List CellA} (h : Row w B 32 5 v (n + m) (xs ++ (l2.map cellE).flatten)) (hx : xs = (l1.map cellE).flatten) : Own w B v (l1 ++ l2) := by
  subst hx
  have h1 := h.1
  rw [List.length_append, flatten_len (cellE_elems _).len, flatten_len (cellE_elems _).len, List.length_map, List.length_map] at h1
  have e : n + m = (l1 ++ l2).length := by rw [List.length_append]; omega
  rw [e] at h
  unfold Own
  rw [List.map_append, List.flatten_append]
  exact h
theorem placeN_yes {c z : CellA} {l : List CellA} {k : Nat} (h : l[k]? = some z) (hp : samePl z c = true) : placeN c (l.take (k + 1)) = placeN c (l.take k) + 1 := by
  simp [placeN, List.take_add_one, h, List.filter_append, hp]
theorem placeN_no {c z : CellA} {l : List CellA} {k : Nat} (h : l[k]? = some z) (hp : samePl z c = false) : placeN c (l.take (k + 1)) = placeN c (l.take k) := by
  simp [placeN, List.take_add_one, h, List.filter_append, hp]
theorem placeN_le (c : CellA) (l : List CellA) (k : Nat) : placeN c (l.take k) ≤ k := by
  have := List.length_filter_le (fun z => samePl z c) (l.take k)
  rw [List.length_take] at this
  unfold placeN; omega

set_option maxRecDepth 100000 in
set_option maxHeartbeats 16000000 in
theorem cellslast_ll (aoa aob : Option Addr) (na nb capa capb : Nat) (cs ds : List CellA) (w : World) (ha : Cells w aoa na capa cs) (hb : Cells w aob nb capb ds) (hna : na ≤ 150) (hnb : nb ≤ 150) :
    Calls Try.prog 5 #[.slice aoa na capa, .slice aob nb capb] w fun e w' => e = .returned (.bool true) ∧ Below w.heap.size w w' := by
  obtain ⟨i0, hi, hz0, hz1, hz2⟩ := info_parts Try.info_cell
  have Hi := Lib.hid hi
  have hca := Arr.max ha
  have hcb := Arr.max hb
  have hfa := Arr.fits ha
  have hfb := Arr.fits hb
  unfold maxLen at hca hcb
  have HA := Lib.hid ha
  have HB := Lib.hid hb
  have hla := ha.len
  have hlb := hb.len
  have KA := Lib.hid fun W ao cap (h : Cells W ao na cap cs) => newest_any ao na cap cs W h (by omega)
  have KB := Lib.hid fun W ao cap (h : Cells W ao nb cap ds) => newest_any ao nb cap ds W h (by omega)
  obtain ⟨N, hN⟩ : ∃ N, N = (cs ++ ds).length := ⟨_, rfl⟩
  have hNl : N ≤ 300 := by rw [hN, List.length_append]; omega
  have KC := Lib.hid fun W ao cap (h : Cells W ao N cap (cs ++ ds)) => newest_any ao N cap (cs ++ ds) W h (by omega)
  obtain ⟨M, hM⟩ : ∃ M, M = (newestL cs ++ newestL ds).length := ⟨_, rfl⟩
  have hMl : M ≤ 300 := by
    have h1 := newestL_len cs
    have h2 := newestL_len ds
    rw [hM, List.length_append]; omega
  have KP := Lib.hid fun W ao cap (h : Cells W ao M cap (newestL cs ++ newestL ds)) => newest_any ao M cap (newestL cs ++ newestL ds) W h (by omega)
  rw [newest_join] at KP
  have hnl := newestL_len (cs ++ ds)
  rw [← hN] at hnl
  have HN1 := Lib.hid fun c (hc : c ∈ cs ++ ds) => place_one (cs ++ ds) hc
  have HG1 := Lib.hid fun c (hc : c ∈ cs ++ ds) z => place_great (cs ++ ds) (z := z) hc
  have hla2 := newestL_len cs
  have hlb2 := newestL_len ds
  obtain ⟨pa, hpa⟩ : ∃ l, l = newestL cs := ⟨_, rfl⟩
  obtain ⟨pb, hpb⟩ : ∃ l, l = newestL ds := ⟨_, rfl⟩
  obtain ⟨nw, hnw⟩ : ∃ l, l = newestL (cs ++ ds) := ⟨_, rfl⟩
  rw [← hpa] at KA hM KP hla2
  rw [← hpb] at KB hM KP hlb2
  rw [← hnw] at KC KP hnl HN1 HG1
  obtain ⟨ma, hma⟩ : ∃ m, m = pa.length := ⟨_, rfl⟩
  obtain ⟨mb, hmb⟩ : ∃ m, m = pb.length := ⟨_, rfl⟩
  obtain ⟨mn, hmn⟩ : ∃ m, m = nw.length := ⟨_, rfl⟩
  rw [← hma, hla] at hla2
  rw [← hmb, hlb] at hlb2
  rw [← hmn] at hnl
  have Hma := Lib.hid hma.symm
  have Hmb := Lib.hid hmb.symm
  have Hmn := Lib.hid hmn.symm
  have HNN := Lib.hid hN.symm
  have HMM := Lib.hid hM.symm
  have Hla := Lib.hid hla
  have Hlb := Lib.hid hlb
  have S := Lib.hid fun W (ds : List CellA) ao ao2 n cap n2 cap2 (h : Cells W ao n cap ds) (h2 : Cells W ao2 n2 cap2 ds) => same_w ao ao2 n cap n2 cap2 ds W h h2
  clear ha hb hi hla hlb hN hM hpa hpb hnw hma hmb hmn
  go_enter Try.func5, Try.ntmps5
  go_wp2_with (first
    | (go_at_call 17; refine (works_any _).mono ?_; rintro e w1 ⟨rfl, hb⟩; have HB1 := Lib.hid hb; have hz1' := hb.size; have HA1 := Lib.hid (Cells.below HA.out hb); have HC1 := Lib.hid (Cells.below HB.out hb); clear hb)
    | (at_builtin; refine wpList_append_arr _ rfl _ _ 22 rfl w3.heap.size 32 i0 _ 5 64 Try.underlying22 Hi.out hz0 hz1 hz2 rfl (by decide) _ _ _ rfl HP6.out rfl HQ6.out (by omega) (by unfold maxLen; omega) (by omega) ?_; intro v7 w7 hr7 hb7 hg7; have HP7 := Lib.hid (own_app (l1 := pa) hr7 (by simp)); have HB7 := Lib.hid (HB6.out.trans hb7); have hz7 := hb7.size; clear hr7 hb7 hg7)
    | (at_builtin; refine wpList_append_arr _ rfl _ _ 22 rfl w3.heap.size 32 i0 _ 5 64 Try.underlying22 Hi.out hz0 hz1 hz2 rfl (by decide) (.slice none 0 0) 0 [] rfl (Row.nil _ _ _ _) rfl HQ4.out (by omega) (by unfold maxLen; omega) (by omega) ?_; intro v5 w5 hr5 hb5 hg5; have HP5 := Lib.hid hr5; have HB5 := Lib.hid (HB4.out.trans hb5); have hz5 := hb5.size; clear hr5 hb5 hg5)
    | (at_builtin; refine wpList_append_arr _ rfl _ _ 22 rfl w1.heap.size 32 i0 _ 5 64 Try.underlying22 Hi.out hz0 hz1 hz2 rfl (by decide) _ _ _ rfl HV2.out rfl (Arr.below HC1.out HB2.out) (by omega) (by unfold maxLen; omega) (by omega) ?_; intro v3 w3 hr3 hb3 hg3; have HV3 := Lib.hid (own_app (l1 := cs) hr3 (by simp)); have HB3 := Lib.hid (HB2.out.trans hb3); have hz3 := hb3.size; have HA3 := Lib.hid (Cells.below HA1.out HB3.out); have HC3 := Lib.hid (Cells.below HC1.out HB3.out); clear hr3 hb3 hg3)
    | (at_builtin; refine wpList_append_arr _ rfl _ _ 22 rfl w1.heap.size 32 i0 _ 5 64 Try.underlying22 Hi.out hz0 hz1 hz2 rfl (by decide) (.slice none 0 0) 0 [] rfl (Row.nil _ _ _ _) rfl HA1.out (by omega) (by unfold maxLen; omega) (Nat.le_refl _) ?_; intro v2 w2 hr2 hb2 hg2; have HV2 := Lib.hid hr2; have HB2 := Lib.hid hb2; have hz2' := hb2.size; clear hr2 hb2 hg2)
    | (go_at_call 21; (with_reducible refine (KA.out _ _ _ HA3.out).mono ?_); rintro e w4 ⟨v, rfl, hO, hb⟩; obtain ⟨ao4, cap4, rfl, hc⟩ := hO.cells_n Hma.out; have HQ4 := Lib.hid hc; have HB4 := Lib.hid hb; have hz4 := hb.size; clear hO hc hb)
    | (go_at_call 21; (with_reducible refine (KB.out _ _ _ (Cells.below HC3.out HB5.out)).mono ?_); rintro e w6 ⟨v, rfl, hO, hb⟩; obtain ⟨ao6, cap6, rfl, hc⟩ := hO.cells_n Hmb.out; have HQ6 := Lib.hid hc; have HP6 := Lib.hid (Row.below HP5.out hb); have HB6 := Lib.hid (HB5.out.trans (hb.mono (by omega))); have hz6 := hb.size; obtain ⟨ao3, cap3, rfl, hc3⟩ := Own.cells_n HV3.out HNN.out; have HD3 := Lib.hid hc3; clear hO hc hb hc3)
    | (go_at_call 21; (with_reducible refine (KC.out _ _ _ (Cells.below HD3.out HB7.out)).mono ?_); rintro e w8 ⟨v, rfl, hO, hb⟩; obtain ⟨ao8, cap8, rfl, hc⟩ := hO.cells_n Hmn.out; obtain ⟨ao7, cap7, rfl, hc7⟩ := Own.cells_n (Own.below HP7.out hb) HMM.out; have HP8 := Lib.hid hc7; have HN8 := Lib.hid hc; have HB8 := Lib.hid (HB7.out.trans (hb.mono (by omega))); have hz8 := hb.size; have hcf := Arr.fits hc; have hcx := Arr.max hc; unfold maxLen at hcx; clear hO hc hb hc7))
  have HD8 := Lib.hid (Cells.below HD3.out HB8.out)
  have hdf := Arr.fits HD8.out
  have hdx := Arr.max HD8.out
  unfold maxLen at hdx
  have HBw : Hid (Below w.heap.size w w8) := Lib.hid (HB1.out.trans ((HB3.out.trans (HB8.out.mono (by omega))).mono hz1'))
  have hzw := HBw.out.size
  go_loopw [8] (fun i wr => ∃ k : Nat, k ≤ N ∧ i = .int .i64 k ∧ Below w8.heap.size w8 wr) (fun i _ => N - (intOf i).toNat)
  case atStart => exact ⟨0, by omega, rfl, Below.refl _ _⟩
  case round =>
    obtain ⟨i, hi, rfl, hB0⟩ := hrel
    have hzr := hB0.size
    by_cases hlt : i < N
    · obtain ⟨x, hx⟩ : ∃ x, (cs ++ ds)[i]? = some x := ⟨_, List.getElem?_eq_getElem (by rw [HNN.out]; omega)⟩
      obtain ⟨b, off, e0, hb, ⟨x0, x1, x2, x3, x4⟩⟩ := Cells.at_ HD8.out hx
      subst e0
      have Hone := Lib.hid (HN1.out x (List.mem_of_getElem? hx))
      have Hgr := Lib.hid fun z => HG1.out x (List.mem_of_getElem? hx) z
      obtain ⟨k0, k0f⟩ := keep_below hB0 b hb
      clear hx
      obtain ⟨wo, rfl⟩ : ∃ wo : World, wo = wr := ⟨_, rfl⟩
      go_wp2
      go_loopw [9, 10] (fun t j wr => ∃ (k f : Nat), k ≤ mn ∧ j = .int .i64 k ∧ t = .int .i64 f ∧ f ≤ k ∧ Hid (placeN x (nw.take k) = f) ∧ Below w8.heap.size w8 wr) (fun _ j _ => mn - (intOf j).toNat)
      case atStart => exact ⟨0, 0, by omega, rfl, rfl, by omega, Lib.hid (by simp [placeN]), hB0⟩
      case round =>
        obtain ⟨k, f, hk, rfl, rfl, hfk, hQ, hB1⟩ := hrel
        have hzq := hB1.size
        obtain ⟨k1, k1f⟩ := keep_below hB1 b hb
        by_cases hlt2 : k < mn
        · obtain ⟨y, hy⟩ : ∃ y, nw[k]? = some y := ⟨_, List.getElem?_eq_getElem (by rw [Hmn.out]; omega)⟩
          obtain ⟨b2, off2, e0, hb2, ⟨y0, y1, y2, y3, y4⟩⟩ := Cells.at_ HN8.out hy
          subst e0
          obtain ⟨k2, k2f⟩ := keep_below hB1 b2 hb2
          have hyes := Lib.hid (fun hp => placeN_yes (c := x) hy hp)
          have hno := Lib.hid (fun hp => placeN_no (c := x) hy hp)
          have hgt := Lib.hid (Hgr.out y (List.mem_of_getElem? hy))
          clear hy k0 k0f
          obtain ⟨xr, xc, xv, xg, xl⟩ := x
          obtain ⟨yr, yc, yv, yg, yl⟩ := y
          simp only at x0 x1 x2 x3 x4 y0 y1 y2 y3 y4
          by_cases e1 : yr = xr
          · by_cases e2 : yc = xc
            · subst e1 e2
              have hnx := Lib.hid (hyes.out ((samePl_iff _ _).2 ⟨rfl, rfl⟩))
              have hv := hgt.out ((samePl_iff _ _).2 ⟨rfl, rfl⟩)
              simp only at hv
              have hv1 : decide (yv < xv) = false := by simp; omega
              clear hyes hno hgt
              go_wp2
              refine wp_region_below (by kernel_rfl) (by kernel_rfl) (fun hkept => ?_)
              obtain ⟨r0, rf0⟩ := hkept (b) (by go_size); obtain ⟨r1, rf1⟩ := hkept (b2) (by go_size); clear hkept
              repeat (any_goals (first | go_big_quiet_step (fail) | quiet_step (fail) | (refine wpQuiet_step (fun K hK => ?_); go_simp; split <;> (refine hK _ ?_; clear hK K))))
              all_goals (refine wpQuiet_nil ?_; intro w9 hb; obtain ⟨hB, hS, hk⟩ := after (B := wr.heap.size) (w := wr) (by go_grown) (by go_size) hb; obtain ⟨c0, f0, z0⟩ := hk (b) (by go_size); obtain ⟨c1, f1, z1⟩ := hk (b2) (by go_size); clear hk hb r0 rf0 r1 rf1)
              go_wp2
              refine wp_region_below (by kernel_rfl) (by kernel_rfl) (fun hkept => ?_)
              obtain ⟨r0, rf0⟩ := hkept (b) (by go_size); obtain ⟨r1, rf1⟩ := hkept (b2) (by go_size); clear hkept
              repeat (any_goals (first | go_big_quiet_step (fail) | quiet_step (fail) | (refine wpQuiet_step (fun K hK => ?_); go_simp; split <;> (refine hK _ ?_; clear hK K))))
              all_goals (refine wpQuiet_nil ?_; intro w10 hb; obtain ⟨hB, hS, hk⟩ := after (B := wr.heap.size) (w := wr) (by go_grown) (by go_size) hb; obtain ⟨c0, f0, z0⟩ := hk (b) (by go_size); obtain ⟨c1, f1, z1⟩ := hk (b2) (by go_size); clear hk hb r0 rf0 r1 rf1)
              go_wp2
              exact ⟨⟨k + 1, f + 1, by omega, by go_num, by go_num, by omega, Lib.hid (by rw [hnx.out, hQ.out]), hB1.trans (hB.mono hzq)⟩, by simp [intOf]; omega⟩
            · obtain ⟨n1, n2⟩ := ne_of e2
              have hnx := Lib.hid (hno.out (by cases hq : samePl ⟨yr, yc, yv, yg, yl⟩ ⟨xr, xc, xv, xg, xl⟩ with
                | false => rfl
                | true => exact absurd ((samePl_iff _ _).1 hq).2 n2))
              subst e1
              clear e2 hyes hno hgt
              go_wp2
              refine wp_region_below (by kernel_rfl) (by kernel_rfl) (fun hkept => ?_)
              obtain ⟨r0, rf0⟩ := hkept (b) (by go_size); obtain ⟨r1, rf1⟩ := hkept (b2) (by go_size); clear hkept
              repeat (any_goals (first | go_big_quiet_step (fail) | quiet_step (fail) | (refine wpQuiet_step (fun K hK => ?_); go_simp; split <;> (refine hK _ ?_; clear hK K))))
              all_goals (refine wpQuiet_nil ?_; intro w9 hb; obtain ⟨hB, hS, hk⟩ := after (B := wr.heap.size) (w := wr) (by go_grown) (by go_size) hb; obtain ⟨c0, f0, z0⟩ := hk (b) (by go_size); obtain ⟨c1, f1, z1⟩ := hk (b2) (by go_size); clear hk hb r0 rf0 r1 rf1)
              go_wp2
              exact ⟨⟨k + 1, f, by omega, by go_num, rfl, by omega, Lib.hid (by rw [hnx.out, hQ.out]), hB1.trans (hB.mono hzq)⟩, by simp [intOf]; omega⟩
          · obtain ⟨n1, n2⟩ := ne_of e1
            have hnx := Lib.hid (hno.out (by cases hq : samePl ⟨yr, yc, yv, yg, yl⟩ ⟨xr, xc, xv, xg, xl⟩ with
              | false => rfl
              | true => exact absurd ((samePl_iff _ _).1 hq).1 n2))
            clear e1 hyes hno hgt
            go_wp2
            refine wp_region_below (by kernel_rfl) (by kernel_rfl) (fun hkept => ?_)
            obtain ⟨r0, rf0⟩ := hkept (b) (by go_size); obtain ⟨r1, rf1⟩ := hkept (b2) (by go_size); clear hkept
            repeat (any_goals (first | go_big_quiet_step (fail) | quiet_step (fail) | (refine wpQuiet_step (fun K hK => ?_); go_simp; split <;> (refine hK _ ?_; clear hK K))))
            all_goals (refine wpQuiet_nil ?_; intro w9 hb; obtain ⟨hB, hS, hk⟩ := after (B := wr.heap.size) (w := wr) (by go_grown) (by go_size) hb; obtain ⟨c0, f0, z0⟩ := hk (b) (by go_size); obtain ⟨c1, f1, z1⟩ := hk (b2) (by go_size); clear hk hb r0 rf0 r1 rf1)
            go_wp2
            exact ⟨⟨k + 1, f, by omega, by go_num, rfl, by omega, Lib.hid (by rw [hnx.out, hQ.out]), hB1.trans (hB.mono hzq)⟩, by simp [intOf]; omega⟩
        · obtain rfl : k = mn := by omega
          obtain rfl : f = 1 := by rw [← hQ.out, List.take_of_length_le (by rw [Hmn.out]; exact Nat.le_refl _)]; exact Hone.out
          go_wp2
          exact ⟨⟨i + 1, by omega, by go_num, hB1⟩, by simp [intOf]; omega⟩
    · have HPr := Lib.hid (Cells.below HP8.out hB0)
      have HNr := Lib.hid (Cells.below HN8.out hB0)
      have HBr := Lib.hid (HBw.out.trans (hB0.mono hzw))
      have hzb := HBr.out.size
      go_wp2_with (first
        | (go_at_call 21; refine (KP.out _ _ _ HPr.out).mono ?_; rintro e w11 ⟨v, rfl, hO, hb⟩; obtain ⟨ao11, cap11, rfl, hc⟩ := hO.cells_n Hmn.out; have HR11 := Lib.hid hc; have HB11 := Lib.hid hb; clear hO hc hb)
        | (go_at_call 20; refine (S.out _ nw _ _ _ _ _ _ (Cells.below HNr.out HB11.out) HR11.out).mono ?_; rintro e w12 ⟨rfl, hb⟩; have HB12 := Lib.hid (HB11.out.trans (hb.mono HB11.out.size)); clear hb))
      go_returns
      exact ⟨rfl, HBr.out.trans (HB12.out.mono hzb)⟩

set_option maxRecDepth 100000 in
set_option maxHeartbeats 16000000 in
theorem cellslast_gl (aoa aob : Option Addr) (na0 nb capa capb : Nat) (cs ds : List CellA) (w : World) (ha : Cells w aoa 150 capa cs) (hb : Cells w aob nb capb ds) (hna : 150 < na0) (hnc : na0 ≤ capa) (hnb : nb ≤ 150) :
    Calls Try.prog 5 #[.slice aoa na0 capa, .slice aob nb capb] w fun e w' => e = .returned (.bool true) ∧ Below w.heap.size w w' := by
  obtain ⟨i0, hi, hz0, hz1, hz2⟩ := info_parts Try.info_cell
  have Hi := Lib.hid hi
  have hca := Arr.max ha
  have hcb := Arr.max hb
  have hfa := Arr.fits ha
  have hfb := Arr.fits hb
  unfold maxLen at hca hcb
  have HA := Lib.hid ha
  have HB := Lib.hid hb
  have hla := ha.len
  have hlb := hb.len
  have KA := Lib.hid fun W ao cap (h : Cells W ao 150 cap cs) => newest_any ao 150 cap cs W h (by omega)
  have KB := Lib.hid fun W ao cap (h : Cells W ao nb cap ds) => newest_any ao nb cap ds W h (by omega)
  obtain ⟨N, hN⟩ : ∃ N, N = (cs ++ ds).length := ⟨_, rfl⟩
  have hNl : N ≤ 300 := by rw [hN, List.length_append]; omega
  have KC := Lib.hid fun W ao cap (h : Cells W ao N cap (cs ++ ds)) => newest_any ao N cap (cs ++ ds) W h (by omega)
  obtain ⟨M, hM⟩ : ∃ M, M = (newestL cs ++ newestL ds).length := ⟨_, rfl⟩
  have hMl : M ≤ 300 := by
    have h1 := newestL_len cs
    have h2 := newestL_len ds
    rw [hM, List.length_append]; omega
  have KP := Lib.hid fun W ao cap (h : Cells W ao M cap (newestL cs ++ newestL ds)) => newest_any ao M cap (newestL cs ++ newestL ds) W h (by omega)
  rw [newest_join] at KP
  have hnl := newestL_len (cs ++ ds)
  rw [← hN] at hnl
  have HN1 := Lib.hid fun c (hc : c ∈ cs ++ ds) => place_one (cs ++ ds) hc
  have HG1 := Lib.hid fun c (hc : c ∈ cs ++ ds) z => place_great (cs ++ ds) (z := z) hc
  have hla2 := newestL_len cs
  have hlb2 := newestL_len ds
  obtain ⟨pa, hpa⟩ : ∃ l, l = newestL cs := ⟨_, rfl⟩
  obtain ⟨pb, hpb⟩ : ∃ l, l = newestL ds := ⟨_, rfl⟩
  obtain ⟨nw, hnw⟩ : ∃ l, l = newestL (cs ++ ds) := ⟨_, rfl⟩
  rw [← hpa] at KA hM KP hla2
  rw [← hpb] at KB hM KP hlb2
  rw [← hnw] at KC KP hnl HN1 HG1
  obtain ⟨ma, hma⟩ : ∃ m, m = pa.length := ⟨_, rfl⟩
  obtain ⟨mb, hmb⟩ : ∃ m, m = pb.length := ⟨_, rfl⟩
  obtain ⟨mn, hmn⟩ : ∃ m, m = nw.length := ⟨_, rfl⟩
  rw [← hma, hla] at hla2
  rw [← hmb, hlb] at hlb2
  rw [← hmn] at hnl
  have Hma := Lib.hid hma.symm
  have Hmb := Lib.hid hmb.symm
  have Hmn := Lib.hid hmn.symm
  have HNN := Lib.hid hN.symm
  have HMM := Lib.hid hM.symm
  have Hla := Lib.hid hla
  have Hlb := Lib.hid hlb
  have S := Lib.hid fun W (ds : List CellA) ao ao2 n cap n2 cap2 (h : Cells W ao n cap ds) (h2 : Cells W ao2 n2 cap2 ds) => same_w ao ao2 n cap n2 cap2 ds W h h2
  clear ha hb hi hla hlb hN hM hpa hpb hnw hma hmb hmn
  go_enter Try.func5, Try.ntmps5
  go_wp2_with (first
    | (go_at_call 17; refine (works_any _).mono ?_; rintro e w1 ⟨rfl, hb⟩; have HB1 := Lib.hid hb; have hz1' := hb.size; have HA1 := Lib.hid (Cells.below HA.out hb); have HC1 := Lib.hid (Cells.below HB.out hb); clear hb)
    | (at_builtin; refine wpList_append_arr _ rfl _ _ 22 rfl w3.heap.size 32 i0 _ 5 64 Try.underlying22 Hi.out hz0 hz1 hz2 rfl (by decide) _ _ _ rfl HP6.out rfl HQ6.out (by omega) (by unfold maxLen; omega) (by omega) ?_; intro v7 w7 hr7 hb7 hg7; have HP7 := Lib.hid (own_app (l1 := pa) hr7 (by simp)); have HB7 := Lib.hid (HB6.out.trans hb7); have hz7 := hb7.size; clear hr7 hb7 hg7)
    | (at_builtin; refine wpList_append_arr _ rfl _ _ 22 rfl w3.heap.size 32 i0 _ 5 64 Try.underlying22 Hi.out hz0 hz1 hz2 rfl (by decide) (.slice none 0 0) 0 [] rfl (Row.nil _ _ _ _) rfl HQ4.out (by omega) (by unfold maxLen; omega) (by omega) ?_; intro v5 w5 hr5 hb5 hg5; have HP5 := Lib.hid hr5; have HB5 := Lib.hid (HB4.out.trans hb5); have hz5 := hb5.size; clear hr5 hb5 hg5)
    | (at_builtin; refine wpList_append_arr _ rfl _ _ 22 rfl w1.heap.size 32 i0 _ 5 64 Try.underlying22 Hi.out hz0 hz1 hz2 rfl (by decide) _ _ _ rfl HV2.out rfl (Arr.below HC1.out HB2.out) (by omega) (by unfold maxLen; omega) (by omega) ?_; intro v3 w3 hr3 hb3 hg3; have HV3 := Lib.hid (own_app (l1 := cs) hr3 (by simp)); have HB3 := Lib.hid (HB2.out.trans hb3); have hz3 := hb3.size; have HA3 := Lib.hid (Cells.below HA1.out HB3.out); have HC3 := Lib.hid (Cells.below HC1.out HB3.out); clear hr3 hb3 hg3)
    | (at_builtin; refine wpList_append_arr _ rfl _ _ 22 rfl w1.heap.size 32 i0 _ 5 64 Try.underlying22 Hi.out hz0 hz1 hz2 rfl (by decide) (.slice none 0 0) 0 [] rfl (Row.nil _ _ _ _) rfl HA1.out (by omega) (by unfold maxLen; omega) (Nat.le_refl _) ?_; intro v2 w2 hr2 hb2 hg2; have HV2 := Lib.hid hr2; have HB2 := Lib.hid hb2; have hz2' := hb2.size; clear hr2 hb2 hg2)
    | (go_at_call 21; (with_reducible refine (KA.out _ _ _ HA3.out).mono ?_); rintro e w4 ⟨v, rfl, hO, hb⟩; obtain ⟨ao4, cap4, rfl, hc⟩ := hO.cells_n Hma.out; have HQ4 := Lib.hid hc; have HB4 := Lib.hid hb; have hz4 := hb.size; clear hO hc hb)
    | (go_at_call 21; (with_reducible refine (KB.out _ _ _ (Cells.below HC3.out HB5.out)).mono ?_); rintro e w6 ⟨v, rfl, hO, hb⟩; obtain ⟨ao6, cap6, rfl, hc⟩ := hO.cells_n Hmb.out; have HQ6 := Lib.hid hc; have HP6 := Lib.hid (Row.below HP5.out hb); have HB6 := Lib.hid (HB5.out.trans (hb.mono (by omega))); have hz6 := hb.size; obtain ⟨ao3, cap3, rfl, hc3⟩ := Own.cells_n HV3.out HNN.out; have HD3 := Lib.hid hc3; clear hO hc hb hc3)
    | (go_at_call 21; (with_reducible refine (KC.out _ _ _ (Cells.below HD3.out HB7.out)).mono ?_); rintro e w8 ⟨v, rfl, hO, hb⟩; obtain ⟨ao8, cap8, rfl, hc⟩ := hO.cells_n Hmn.out; obtain ⟨ao7, cap7, rfl, hc7⟩ := Own.cells_n (Own.below HP7.out hb) HMM.out; have HP8 := Lib.hid hc7; have HN8 := Lib.hid hc; have HB8 := Lib.hid (HB7.out.trans (hb.mono (by omega))); have hz8 := hb.size; have hcf := Arr.fits hc; have hcx := Arr.max hc; unfold maxLen at hcx; clear hO hc hb hc7))
  have HD8 := Lib.hid (Cells.below HD3.out HB8.out)
  have hdf := Arr.fits HD8.out
  have hdx := Arr.max HD8.out
  unfold maxLen at hdx
  have HBw : Hid (Below w.heap.size w w8) := Lib.hid (HB1.out.trans ((HB3.out.trans (HB8.out.mono (by omega))).mono hz1'))
  have hzw := HBw.out.size
  go_loopw [8] (fun i wr => ∃ k : Nat, k ≤ N ∧ i = .int .i64 k ∧ Below w8.heap.size w8 wr) (fun i _ => N - (intOf i).toNat)
  case atStart => exact ⟨0, by omega, rfl, Below.refl _ _⟩
  case round =>
    obtain ⟨i, hi, rfl, hB0⟩ := hrel
    have hzr := hB0.size
    by_cases hlt : i < N
    · obtain ⟨x, hx⟩ : ∃ x, (cs ++ ds)[i]? = some x := ⟨_, List.getElem?_eq_getElem (by rw [HNN.out]; omega)⟩
      obtain ⟨b, off, e0, hb, ⟨x0, x1, x2, x3, x4⟩⟩ := Cells.at_ HD8.out hx
      subst e0
      have Hone := Lib.hid (HN1.out x (List.mem_of_getElem? hx))
      have Hgr := Lib.hid fun z => HG1.out x (List.mem_of_getElem? hx) z
      obtain ⟨k0, k0f⟩ := keep_below hB0 b hb
      clear hx
      obtain ⟨wo, rfl⟩ : ∃ wo : World, wo = wr := ⟨_, rfl⟩
      go_wp2
      go_loopw [9, 10] (fun t j wr => ∃ (k f : Nat), k ≤ mn ∧ j = .int .i64 k ∧ t = .int .i64 f ∧ f ≤ k ∧ Hid (placeN x (nw.take k) = f) ∧ Below w8.heap.size w8 wr) (fun _ j _ => mn - (intOf j).toNat)
      case atStart => exact ⟨0, 0, by omega, rfl, rfl, by omega, Lib.hid (by simp [placeN]), hB0⟩
      case round =>
        obtain ⟨k, f, hk, rfl, rfl, hfk, hQ, hB1⟩ := hrel
        have hzq := hB1.size
        obtain ⟨k1, k1f⟩ := keep_below hB1 b hb
        by_cases hlt2 : k < mn
        · obtain ⟨y, hy⟩ : ∃ y, nw[k]? = some y := ⟨_, List.getElem?_eq_getElem (by rw [Hmn.out]; omega)⟩
          obtain ⟨b2, off2, e0, hb2, ⟨y0, y1, y2, y3, y4⟩⟩ := Cells.at_ HN8.out hy
          subst e0
          obtain ⟨k2, k2f⟩ := keep_below hB1 b2 hb2
          have hyes := Lib.hid (fun hp => placeN_yes (c := x) hy hp)
          have hno := Lib.hid (fun hp => placeN_no (c := x) hy hp)
          have hgt := Lib.hid (Hgr.out y (List.mem_of_getElem? hy))
          clear hy k0 k0f
          obtain ⟨xr, xc, xv, xg, xl⟩ := x
          obtain ⟨yr, yc, yv, yg, yl⟩ := y
          simp only at x0 x1 x2 x3 x4 y0 y1 y2 y3 y4
          by_cases e1 : yr = xr
          · by_cases e2 : yc = xc
            · subst e1 e2
              have hnx := Lib.hid (hyes.out ((samePl_iff _ _).2 ⟨rfl, rfl⟩))
              have hv := hgt.out ((samePl_iff _ _).2 ⟨rfl, rfl⟩)
              simp only at hv
              have hv1 : decide (yv < xv) = false := by simp; omega
              clear hyes hno hgt
              go_wp2
              refine wp_region_below (by kernel_rfl) (by kernel_rfl) (fun hkept => ?_)
              obtain ⟨r0, rf0⟩ := hkept (b) (by go_size); obtain ⟨r1, rf1⟩ := hkept (b2) (by go_size); clear hkept
              repeat (any_goals (first | go_big_quiet_step (fail) | quiet_step (fail) | (refine wpQuiet_step (fun K hK => ?_); go_simp; split <;> (refine hK _ ?_; clear hK K))))
              all_goals (refine wpQuiet_nil ?_; intro w9 hb; obtain ⟨hB, hS, hk⟩ := after (B := wr.heap.size) (w := wr) (by go_grown) (by go_size) hb; obtain ⟨c0, f0, z0⟩ := hk (b) (by go_size); obtain ⟨c1, f1, z1⟩ := hk (b2) (by go_size); clear hk hb r0 rf0 r1 rf1)
              go_wp2
              refine wp_region_below (by kernel_rfl) (by kernel_rfl) (fun hkept => ?_)
              obtain ⟨r0, rf0⟩ := hkept (b) (by go_size); obtain ⟨r1, rf1⟩ := hkept (b2) (by go_size); clear hkept
              repeat (any_goals (first | go_big_quiet_step (fail) | quiet_step (fail) | (refine wpQuiet_step (fun K hK => ?_); go_simp; split <;> (refine hK _ ?_; clear hK K))))
              all_goals (refine wpQuiet_nil ?_; intro w10 hb; obtain ⟨hB, hS, hk⟩ := after (B := wr.heap.size) (w := wr) (by go_grown) (by go_size) hb; obtain ⟨c0, f0, z0⟩ := hk (b) (by go_size); obtain ⟨c1, f1, z1⟩ := hk (b2) (by go_size); clear hk hb r0 rf0 r1 rf1)
              go_wp2
              exact ⟨⟨k + 1, f + 1, by omega, by go_num, by go_num, by omega, Lib.hid (by rw [hnx.out, hQ.out]), hB1.trans (hB.mono hzq)⟩, by simp [intOf]; omega⟩
            · obtain ⟨n1, n2⟩ := ne_of e2
              have hnx := Lib.hid (hno.out (by cases hq : samePl ⟨yr, yc, yv, yg, yl⟩ ⟨xr, xc, xv, xg, xl⟩ with
                | false => rfl
                | true => exact absurd ((samePl_iff _ _).1 hq).2 n2))
              subst e1
              clear e2 hyes hno hgt
              go_wp2
              refine wp_region_below (by kernel_rfl) (by kernel_rfl) (fun hkept => ?_)
              obtain ⟨r0, rf0⟩ := hkept (b) (by go_size); obtain ⟨r1, rf1⟩ := hkept (b2) (by go_size); clear hkept
              repeat (any_goals (first | go_big_quiet_step (fail) | quiet_step (fail) | (refine wpQuiet_step (fun K hK => ?_); go_simp; split <;> (refine hK _ ?_; clear hK K))))
              all_goals (refine wpQuiet_nil ?_; intro w9 hb; obtain ⟨hB, hS, hk⟩ := after (B := wr.heap.size) (w := wr) (by go_grown) (by go_size) hb; obtain ⟨c0, f0, z0⟩ := hk (b) (by go_size); obtain ⟨c1, f1, z1⟩ := hk (b2) (by go_size); clear hk hb r0 rf0 r1 rf1)
              go_wp2
              exact ⟨⟨k + 1, f, by omega, by go_num, rfl, by omega, Lib.hid (by rw [hnx.out, hQ.out]), hB1.trans (hB.mono hzq)⟩, by simp [intOf]; omega⟩
          · obtain ⟨n1, n2⟩ := ne_of e1
            have hnx := Lib.hid (hno.out (by cases hq : samePl ⟨yr, yc, yv, yg, yl⟩ ⟨xr, xc, xv, xg, xl⟩ with
              | false => rfl
              | true => exact absurd ((samePl_iff _ _).1 hq).1 n2))
            clear e1 hyes hno hgt
            go_wp2
            refine wp_region_below (by kernel_rfl) (by kernel_rfl) (fun hkept => ?_)
            obtain ⟨r0, rf0⟩ := hkept (b) (by go_size); obtain ⟨r1, rf1⟩ := hkept (b2) (by go_size); clear hkept
            repeat (any_goals (first | go_big_quiet_step (fail) | quiet_step (fail) | (refine wpQuiet_step (fun K hK => ?_); go_simp; split <;> (refine hK _ ?_; clear hK K))))
            all_goals (refine wpQuiet_nil ?_; intro w9 hb; obtain ⟨hB, hS, hk⟩ := after (B := wr.heap.size) (w := wr) (by go_grown) (by go_size) hb; obtain ⟨c0, f0, z0⟩ := hk (b) (by go_size); obtain ⟨c1, f1, z1⟩ := hk (b2) (by go_size); clear hk hb r0 rf0 r1 rf1)
            go_wp2
            exact ⟨⟨k + 1, f, by omega, by go_num, rfl, by omega, Lib.hid (by rw [hnx.out, hQ.out]), hB1.trans (hB.mono hzq)⟩, by simp [intOf]; omega⟩
        · obtain rfl : k = mn := by omega
          obtain rfl : f = 1 := by rw [← hQ.out, List.take_of_length_le (by rw [Hmn.out]; exact Nat.le_refl _)]; exact Hone.out
          go_wp2
          exact ⟨⟨i + 1, by omega, by go_num, hB1⟩, by simp [intOf]; omega⟩
    · have HPr := Lib.hid (Cells.below HP8.out hB0)
      have HNr := Lib.hid (Cells.below HN8.out hB0)
      have HBr := Lib.hid (HBw.out.trans (hB0.mono hzw))
      have hzb := HBr.out.size
      go_wp2_with (first
        | (go_at_call 21; refine (KP.out _ _ _ HPr.out).mono ?_; rintro e w11 ⟨v, rfl, hO, hb⟩; obtain ⟨ao11, cap11, rfl, hc⟩ := hO.cells_n Hmn.out; have HR11 := Lib.hid hc; have HB11 := Lib.hid hb; clear hO hc hb)
        | (go_at_call 20; refine (S.out _ nw _ _ _ _ _ _ (Cells.below HNr.out HB11.out) HR11.out).mono ?_; rintro e w12 ⟨rfl, hb⟩; have HB12 := Lib.hid (HB11.out.trans (hb.mono HB11.out.size)); clear hb))
      go_returns
      exact ⟨rfl, HBr.out.trans (HB12.out.mono hzb)⟩

set_option maxRecDepth 100000 in
set_option maxHeartbeats 16000000 in
theorem cellslast_lg (aoa aob : Option Addr) (na nb0 capa capb : Nat) (cs ds : List CellA) (w : World) (ha : Cells w aoa na capa cs) (hb : Cells w aob 150 capb ds) (hna : na ≤ 150) (hnb : 150 < nb0) (hnd : nb0 ≤ capb) :
    Calls Try.prog 5 #[.slice aoa na capa, .slice aob nb0 capb] w fun e w' => e = .returned (.bool true) ∧ Below w.heap.size w w' := by
  obtain ⟨i0, hi, hz0, hz1, hz2⟩ := info_parts Try.info_cell
  have Hi := Lib.hid hi
  have hca := Arr.max ha
  have hcb := Arr.max hb
  have hfa := Arr.fits ha
  have hfb := Arr.fits hb
  unfold maxLen at hca hcb
  have HA := Lib.hid ha
  have HB := Lib.hid hb
  have hla := ha.len
  have hlb := hb.len
  have KA := Lib.hid fun W ao cap (h : Cells W ao na cap cs) => newest_any ao na cap cs W h (by omega)
  have KB := Lib.hid fun W ao cap (h : Cells W ao 150 cap ds) => newest_any ao 150 cap ds W h (by omega)
  obtain ⟨N, hN⟩ : ∃ N, N = (cs ++ ds).length := ⟨_, rfl⟩
  have hNl : N ≤ 300 := by rw [hN, List.length_append]; omega
  have KC := Lib.hid fun W ao cap (h : Cells W ao N cap (cs ++ ds)) => newest_any ao N cap (cs ++ ds) W h (by omega)
  obtain ⟨M, hM⟩ : ∃ M, M = (newestL cs ++ newestL ds).length := ⟨_, rfl⟩
  have hMl : M ≤ 300 := by
    have h1 := newestL_len cs
    have h2 := newestL_len ds
    rw [hM, List.length_append]; omega
  have KP := Lib.hid fun W ao cap (h : Cells W ao M cap (newestL cs ++ newestL ds)) => newest_any ao M cap (newestL cs ++ newestL ds) W h (by omega)
  rw [newest_join] at KP
  have hnl := newestL_len (cs ++ ds)
  rw [← hN] at hnl
  have HN1 := Lib.hid fun c (hc : c ∈ cs ++ ds) => place_one (cs ++ ds) hc
  have HG1 := Lib.hid fun c (hc : c ∈ cs ++ ds) z => place_great (cs ++ ds) (z := z) hc
  have hla2 := newestL_len cs
  have hlb2 := newestL_len ds
  obtain ⟨pa, hpa⟩ : ∃ l, l = newestL cs := ⟨_, rfl⟩
  obtain ⟨pb, hpb⟩ : ∃ l, l = newestL ds := ⟨_, rfl⟩
  obtain ⟨nw, hnw⟩ : ∃ l, l = newestL (cs ++ ds) := ⟨_, rfl⟩
  rw [← hpa] at KA hM KP hla2
  rw [← hpb] at KB hM KP hlb2
  rw [← hnw] at KC KP hnl HN1 HG1
  obtain ⟨ma, hma⟩ : ∃ m, m = pa.length := ⟨_, rfl⟩
  obtain ⟨mb, hmb⟩ : ∃ m, m = pb.length := ⟨_, rfl⟩
  obtain ⟨mn, hmn⟩ : ∃ m, m = nw.length := ⟨_, rfl⟩
  rw [← hma, hla] at hla2
  rw [← hmb, hlb] at hlb2
  rw [← hmn] at hnl
  have Hma := Lib.hid hma.symm
  have Hmb := Lib.hid hmb.symm
  have Hmn := Lib.hid hmn.symm
  have HNN := Lib.hid hN.symm
  have HMM := Lib.hid hM.symm
  have Hla := Lib.hid hla
  have Hlb := Lib.hid hlb
  have S := Lib.hid fun W (ds : List CellA) ao ao2 n cap n2 cap2 (h : Cells W ao n cap ds) (h2 : Cells W ao2 n2 cap2 ds) => same_w ao ao2 n cap n2 cap2 ds W h h2
  clear ha hb hi hla hlb hN hM hpa hpb hnw hma hmb hmn
  go_enter Try.func5, Try.ntmps5
  go_wp2_with (first
    | (go_at_call 17; refine (works_any _).mono ?_; rintro e w1 ⟨rfl, hb⟩; have HB1 := Lib.hid hb; have hz1' := hb.size; have HA1 := Lib.hid (Cells.below HA.out hb); have HC1 := Lib.hid (Cells.below HB.out hb); clear hb)
    | (at_builtin; refine wpList_append_arr _ rfl _ _ 22 rfl w3.heap.size 32 i0 _ 5 64 Try.underlying22 Hi.out hz0 hz1 hz2 rfl (by decide) _ _ _ rfl HP6.out rfl HQ6.out (by omega) (by unfold maxLen; omega) (by omega) ?_; intro v7 w7 hr7 hb7 hg7; have HP7 := Lib.hid (own_app (l1 := pa) hr7 (by simp)); have HB7 := Lib.hid (HB6.out.trans hb7); have hz7 := hb7.size; clear hr7 hb7 hg7)
    | (at_builtin; refine wpList_append_arr _ rfl _ _ 22 rfl w3.heap.size 32 i0 _ 5 64 Try.underlying22 Hi.out hz0 hz1 hz2 rfl (by decide) (.slice none 0 0) 0 [] rfl (Row.nil _ _ _ _) rfl HQ4.out (by omega) (by unfold maxLen; omega) (by omega) ?_; intro v5 w5 hr5 hb5 hg5; have HP5 := Lib.hid hr5; have HB5 := Lib.hid (HB4.out.trans hb5); have hz5 := hb5.size; clear hr5 hb5 hg5)
    | (at_builtin; refine wpList_append_arr _ rfl _ _ 22 rfl w1.heap.size 32 i0 _ 5 64 Try.underlying22 Hi.out hz0 hz1 hz2 rfl (by decide) _ _ _ rfl HV2.out rfl (Arr.below HC1.out HB2.out) (by omega) (by unfold maxLen; omega) (by omega) ?_; intro v3 w3 hr3 hb3 hg3; have HV3 := Lib.hid (own_app (l1 := cs) hr3 (by simp)); have HB3 := Lib.hid (HB2.out.trans hb3); have hz3 := hb3.size; have HA3 := Lib.hid (Cells.below HA1.out HB3.out); have HC3 := Lib.hid (Cells.below HC1.out HB3.out); clear hr3 hb3 hg3)
    | (at_builtin; refine wpList_append_arr _ rfl _ _ 22 rfl w1.heap.size 32 i0 _ 5 64 Try.underlying22 Hi.out hz0 hz1 hz2 rfl (by decide) (.slice none 0 0) 0 [] rfl (Row.nil _ _ _ _) rfl HA1.out (by omega) (by unfold maxLen; omega) (Nat.le_refl _) ?_; intro v2 w2 hr2 hb2 hg2; have HV2 := Lib.hid hr2; have HB2 := Lib.hid hb2; have hz2' := hb2.size; clear hr2 hb2 hg2)
    | (go_at_call 21; (with_reducible refine (KA.out _ _ _ HA3.out).mono ?_); rintro e w4 ⟨v, rfl, hO, hb⟩; obtain ⟨ao4, cap4, rfl, hc⟩ := hO.cells_n Hma.out; have HQ4 := Lib.hid hc; have HB4 := Lib.hid hb; have hz4 := hb.size; clear hO hc hb)
    | (go_at_call 21; (with_reducible refine (KB.out _ _ _ (Cells.below HC3.out HB5.out)).mono ?_); rintro e w6 ⟨v, rfl, hO, hb⟩; obtain ⟨ao6, cap6, rfl, hc⟩ := hO.cells_n Hmb.out; have HQ6 := Lib.hid hc; have HP6 := Lib.hid (Row.below HP5.out hb); have HB6 := Lib.hid (HB5.out.trans (hb.mono (by omega))); have hz6 := hb.size; obtain ⟨ao3, cap3, rfl, hc3⟩ := Own.cells_n HV3.out HNN.out; have HD3 := Lib.hid hc3; clear hO hc hb hc3)
    | (go_at_call 21; (with_reducible refine (KC.out _ _ _ (Cells.below HD3.out HB7.out)).mono ?_); rintro e w8 ⟨v, rfl, hO, hb⟩; obtain ⟨ao8, cap8, rfl, hc⟩ := hO.cells_n Hmn.out; obtain ⟨ao7, cap7, rfl, hc7⟩ := Own.cells_n (Own.below HP7.out hb) HMM.out; have HP8 := Lib.hid hc7; have HN8 := Lib.hid hc; have HB8 := Lib.hid (HB7.out.trans (hb.mono (by omega))); have hz8 := hb.size; have hcf := Arr.fits hc; have hcx := Arr.max hc; unfold maxLen at hcx; clear hO hc hb hc7))
  have HD8 := Lib.hid (Cells.below HD3.out HB8.out)
  have hdf := Arr.fits HD8.out
  have hdx := Arr.max HD8.out
  unfold maxLen at hdx
  have HBw : Hid (Below w.heap.size w w8) := Lib.hid (HB1.out.trans ((HB3.out.trans (HB8.out.mono (by omega))).mono hz1'))
  have hzw := HBw.out.size
  go_loopw [8] (fun i wr => ∃ k : Nat, k ≤ N ∧ i = .int .i64 k ∧ Below w8.heap.size w8 wr) (fun i _ => N - (intOf i).toNat)
  case atStart => exact ⟨0, by omega, rfl, Below.refl _ _⟩
  case round =>
    obtain ⟨i, hi, rfl, hB0⟩ := hrel
    have hzr := hB0.size
    by_cases hlt : i < N
    · obtain ⟨x, hx⟩ : ∃ x, (cs ++ ds)[i]? = some x := ⟨_, List.getElem?_eq_getElem (by rw [HNN.out]; omega)⟩
      obtain ⟨b, off, e0, hb, ⟨x0, x1, x2, x3, x4⟩⟩ := Cells.at_ HD8.out hx
      subst e0
      have Hone := Lib.hid (HN1.out x (List.mem_of_getElem? hx))
      have Hgr := Lib.hid fun z => HG1.out x (List.mem_of_getElem? hx) z
      obtain ⟨k0, k0f⟩ := keep_below hB0 b hb
      clear hx
      obtain ⟨wo, rfl⟩ : ∃ wo : World, wo = wr := ⟨_, rfl⟩
      go_wp2
      go_loopw [9, 10] (fun t j wr => ∃ (k f : Nat), k ≤ mn ∧ j = .int .i64 k ∧ t = .int .i64 f ∧ f ≤ k ∧ Hid (placeN x (nw.take k) = f) ∧ Below w8.heap.size w8 wr) (fun _ j _ => mn - (intOf j).toNat)
      case atStart => exact ⟨0, 0, by omega, rfl, rfl, by omega, Lib.hid (by simp [placeN]), hB0⟩
      case round =>
        obtain ⟨k, f, hk, rfl, rfl, hfk, hQ, hB1⟩ := hrel
        have hzq := hB1.size
        obtain ⟨k1, k1f⟩ := keep_below hB1 b hb
        by_cases hlt2 : k < mn
        · obtain ⟨y, hy⟩ : ∃ y, nw[k]? = some y := ⟨_, List.getElem?_eq_getElem (by rw [Hmn.out]; omega)⟩
          obtain ⟨b2, off2, e0, hb2, ⟨y0, y1, y2, y3, y4⟩⟩ := Cells.at_ HN8.out hy
          subst e0
          obtain ⟨k2, k2f⟩ := keep_below hB1 b2 hb2
          have hyes := Lib.hid (fun hp => placeN_yes (c := x) hy hp)
          have hno := Lib.hid (fun hp => placeN_no (c := x) hy hp)
          have hgt := Lib.hid (Hgr.out y (List.mem_of_getElem? hy))
          clear hy k0 k0f
          obtain ⟨xr, xc, xv, xg, xl⟩ := x
          obtain ⟨yr, yc, yv, yg, yl⟩ := y
          simp only at x0 x1 x2 x3 x4 y0 y1 y2 y3 y4
          by_cases e1 : yr = xr
          · by_cases e2 : yc = xc
            · subst e1 e2
              have hnx := Lib.hid (hyes.out ((samePl_iff _ _).2 ⟨rfl, rfl⟩))
              have hv := hgt.out ((samePl_iff _ _).2 ⟨rfl, rfl⟩)
              simp only at hv
              have hv1 : decide (yv < xv) = false := by simp; omega
              clear hyes hno hgt
              go_wp2
              refine wp_region_below (by kernel_rfl) (by kernel_rfl) (fun hkept => ?_)
              obtain ⟨r0, rf0⟩ := hkept (b) (by go_size); obtain ⟨r1, rf1⟩ := hkept (b2) (by go_size); clear hkept
              repeat (any_goals (first | go_big_quiet_step (fail) | quiet_step (fail) | (refine wpQuiet_step (fun K hK => ?_); go_simp; split <;> (refine hK _ ?_; clear hK K))))
              all_goals (refine wpQuiet_nil ?_; intro w9 hb; obtain ⟨hB, hS, hk⟩ := after (B := wr.heap.size) (w := wr) (by go_grown) (by go_size) hb; obtain ⟨c0, f0, z0⟩ := hk (b) (by go_size); obtain ⟨c1, f1, z1⟩ := hk (b2) (by go_size); clear hk hb r0 rf0 r1 rf1)
              go_wp2
              refine wp_region_below (by kernel_rfl) (by kernel_rfl) (fun hkept => ?_)
              obtain ⟨r0, rf0⟩ := hkept (b) (by go_size); obtain ⟨r1, rf1⟩ := hkept (b2) (by go_size); clear hkept
              repeat (any_goals (first | go_big_quiet_step (fail) | quiet_step (fail) | (refine wpQuiet_step (fun K hK => ?_); go_simp; split <;> (refine hK _ ?_; clear hK K))))
              all_goals (refine wpQuiet_nil ?_; intro w10 hb; obtain ⟨hB, hS, hk⟩ := after (B := wr.heap.size) (w := wr) (by go_grown) (by go_size) hb; obtain ⟨c0, f0, z0⟩ := hk (b) (by go_size); obtain ⟨c1, f1, z1⟩ := hk (b2) (by go_size); clear hk hb r0 rf0 r1 rf1)
              go_wp2
              exact ⟨⟨k + 1, f + 1, by omega, by go_num, by go_num, by omega, Lib.hid (by rw [hnx.out, hQ.out]), hB1.trans (hB.mono hzq)⟩, by simp [intOf]; omega⟩
            · obtain ⟨n1, n2⟩ := ne_of e2
              have hnx := Lib.hid (hno.out (by cases hq : samePl ⟨yr, yc, yv, yg, yl⟩ ⟨xr, xc, xv, xg, xl⟩ with
                | false => rfl
                | true => exact absurd ((samePl_iff _ _).1 hq).2 n2))
              subst e1
              clear e2 hyes hno hgt
              go_wp2
              refine wp_region_below (by kernel_rfl) (by kernel_rfl) (fun hkept => ?_)
              obtain ⟨r0, rf0⟩ := hkept (b) (by go_size); obtain ⟨r1, rf1⟩ := hkept (b2) (by go_size); clear hkept
              repeat (any_goals (first | go_big_quiet_step (fail) | quiet_step (fail) | (refine wpQuiet_step (fun K hK => ?_); go_simp; split <;> (refine hK _ ?_; clear hK K))))
              all_goals (refine wpQuiet_nil ?_; intro w9 hb; obtain ⟨hB, hS, hk⟩ := after (B := wr.heap.size) (w := wr) (by go_grown) (by go_size) hb; obtain ⟨c0, f0, z0⟩ := hk (b) (by go_size); obtain ⟨c1, f1, z1⟩ := hk (b2) (by go_size); clear hk hb r0 rf0 r1 rf1)
              go_wp2
              exact ⟨⟨k + 1, f, by omega, by go_num, rfl, by omega, Lib.hid (by rw [hnx.out, hQ.out]), hB1.trans (hB.mono hzq)⟩, by simp [intOf]; omega⟩
          · obtain ⟨n1, n2⟩ := ne_of e1
            have hnx := Lib.hid (hno.out (by cases hq : samePl ⟨yr, yc, yv, yg, yl⟩ ⟨xr, xc, xv, xg, xl⟩ with
              | false => rfl
              | true => exact absurd ((samePl_iff _ _).1 hq).1 n2))
            clear e1 hyes hno hgt
            go_wp2
            refine wp_region_below (by kernel_rfl) (by kernel_rfl) (fun hkept => ?_)
            obtain ⟨r0, rf0⟩ := hkept (b) (by go_size); obtain ⟨r1, rf1⟩ := hkept (b2) (by go_size); clear hkept
            repeat (any_goals (first | go_big_quiet_step (fail) | quiet_step (fail) | (refine wpQuiet_step (fun K hK => ?_); go_simp; split <;> (refine hK _ ?_; clear hK K))))
            all_goals (refine wpQuiet_nil ?_; intro w9 hb; obtain ⟨hB, hS, hk⟩ := after (B := wr.heap.size) (w := wr) (by go_grown) (by go_size) hb; obtain ⟨c0, f0, z0⟩ := hk (b) (by go_size); obtain ⟨c1, f1, z1⟩ := hk (b2) (by go_size); clear hk hb r0 rf0 r1 rf1)
            go_wp2
            exact ⟨⟨k + 1, f, by omega, by go_num, rfl, by omega, Lib.hid (by rw [hnx.out, hQ.out]), hB1.trans (hB.mono hzq)⟩, by simp [intOf]; omega⟩
        · obtain rfl : k = mn := by omega
          obtain rfl : f = 1 := by rw [← hQ.out, List.take_of_length_le (by rw [Hmn.out]; exact Nat.le_refl _)]; exact Hone.out
          go_wp2
          exact ⟨⟨i + 1, by omega, by go_num, hB1⟩, by simp [intOf]; omega⟩
    · have HPr := Lib.hid (Cells.below HP8.out hB0)
      have HNr := Lib.hid (Cells.below HN8.out hB0)
      have HBr := Lib.hid (HBw.out.trans (hB0.mono hzw))
      have hzb := HBr.out.size
      go_wp2_with (first
        | (go_at_call 21; refine (KP.out _ _ _ HPr.out).mono ?_; rintro e w11 ⟨v, rfl, hO, hb⟩; obtain ⟨ao11, cap11, rfl, hc⟩ := hO.cells_n Hmn.out; have HR11 := Lib.hid hc; have HB11 := Lib.hid hb; clear hO hc hb)
        | (go_at_call 20; refine (S.out _ nw _ _ _ _ _ _ (Cells.below HNr.out HB11.out) HR11.out).mono ?_; rintro e w12 ⟨rfl, hb⟩; have HB12 := Lib.hid (HB11.out.trans (hb.mono HB11.out.size)); clear hb))
      go_returns
      exact ⟨rfl, HBr.out.trans (HB12.out.mono hzb)⟩

set_option maxRecDepth 100000 in
set_option maxHeartbeats 16000000 in
theorem cellslast_gg (aoa aob : Option Addr) (na0 nb0 capa capb : Nat) (cs ds : List CellA) (w : World) (ha : Cells w aoa 150 capa cs) (hb : Cells w aob 150 capb ds) (hna : 150 < na0) (hnc : na0 ≤ capa) (hnb : 150 < nb0) (hnd : nb0 ≤ capb) :
    Calls Try.prog 5 #[.slice aoa na0 capa, .slice aob nb0 capb] w fun e w' => e = .returned (.bool true) ∧ Below w.heap.size w w' := by
  obtain ⟨i0, hi, hz0, hz1, hz2⟩ := info_parts Try.info_cell
  have Hi := Lib.hid hi
  have hca := Arr.max ha
  have hcb := Arr.max hb
  have hfa := Arr.fits ha
  have hfb := Arr.fits hb
  unfold maxLen at hca hcb
  have HA := Lib.hid ha
  have HB := Lib.hid hb
  have hla := ha.len
  have hlb := hb.len
  have KA := Lib.hid fun W ao cap (h : Cells W ao 150 cap cs) => newest_any ao 150 cap cs W h (by omega)
  have KB := Lib.hid fun W ao cap (h : Cells W ao 150 cap ds) => newest_any ao 150 cap ds W h (by omega)
  obtain ⟨N, hN⟩ : ∃ N, N = (cs ++ ds).length := ⟨_, rfl⟩
  have hNl : N ≤ 300 := by rw [hN, List.length_append]; omega
  have KC := Lib.hid fun W ao cap (h : Cells W ao N cap (cs ++ ds)) => newest_any ao N cap (cs ++ ds) W h (by omega)
  obtain ⟨M, hM⟩ : ∃ M, M = (newestL cs ++ newestL ds).length := ⟨_, rfl⟩
  have hMl : M ≤ 300 := by
    have h1 := newestL_len cs
    have h2 := newestL_len ds
    rw [hM, List.length_append]; omega
  have KP := Lib.hid fun W ao cap (h : Cells W ao M cap (newestL cs ++ newestL ds)) => newest_any ao M cap (newestL cs ++ newestL ds) W h (by omega)
  rw [newest_join] at KP
  have hnl := newestL_len (cs ++ ds)
  rw [← hN] at hnl
  have HN1 := Lib.hid fun c (hc : c ∈ cs ++ ds) => place_one (cs ++ ds) hc
  have HG1 := Lib.hid fun c (hc : c ∈ cs ++ ds) z => place_great (cs ++ ds) (z := z) hc
  have hla2 := newestL_len cs
  have hlb2 := newestL_len ds
  obtain ⟨pa, hpa⟩ : ∃ l, l = newestL cs := ⟨_, rfl⟩
  obtain ⟨pb, hpb⟩ : ∃ l, l = newestL ds := ⟨_, rfl⟩
  obtain ⟨nw, hnw⟩ : ∃ l, l = newestL (cs ++ ds) := ⟨_, rfl⟩
  rw [← hpa] at KA hM KP hla2
  rw [← hpb] at KB hM KP hlb2
  rw [← hnw] at KC KP hnl HN1 HG1
  obtain ⟨ma, hma⟩ : ∃ m, m = pa.length := ⟨_, rfl⟩
  obtain ⟨mb, hmb⟩ : ∃ m, m = pb.length := ⟨_, rfl⟩
  obtain ⟨mn, hmn⟩ : ∃ m, m = nw.length := ⟨_, rfl⟩
  rw [← hma, hla] at hla2
  rw [← hmb, hlb] at hlb2
  rw [← hmn] at hnl
  have Hma := Lib.hid hma.symm
  have Hmb := Lib.hid hmb.symm
  have Hmn := Lib.hid hmn.symm
  have HNN := Lib.hid hN.symm
  have HMM := Lib.hid hM.symm
  have Hla := Lib.hid hla
  have Hlb := Lib.hid hlb
  have S := Lib.hid fun W (ds : List CellA) ao ao2 n cap n2 cap2 (h : Cells W ao n cap ds) (h2 : Cells W ao2 n2 cap2 ds) => same_w ao ao2 n cap n2 cap2 ds W h h2
  clear ha hb hi hla hlb hN hM hpa hpb hnw hma hmb hmn
  go_enter Try.func5, Try.ntmps5
  go_wp2_with (first
    | (go_at_call 17; refine (works_any _).mono ?_; rintro e w1 ⟨rfl, hb⟩; have HB1 := Lib.hid hb; have hz1' := hb.size; have HA1 := Lib.hid (Cells.below HA.out hb); have HC1 := Lib.hid (Cells.below HB.out hb); clear hb)
    | (at_builtin; refine wpList_append_arr _ rfl _ _ 22 rfl w3.heap.size 32 i0 _ 5 64 Try.underlying22 Hi.out hz0 hz1 hz2 rfl (by decide) _ _ _ rfl HP6.out rfl HQ6.out (by omega) (by unfold maxLen; omega) (by omega) ?_; intro v7 w7 hr7 hb7 hg7; have HP7 := Lib.hid (own_app (l1 := pa) hr7 (by simp)); have HB7 := Lib.hid (HB6.out.trans hb7); have hz7 := hb7.size; clear hr7 hb7 hg7)
    | (at_builtin; refine wpList_append_arr _ rfl _ _ 22 rfl w3.heap.size 32 i0 _ 5 64 Try.underlying22 Hi.out hz0 hz1 hz2 rfl (by decide) (.slice none 0 0) 0 [] rfl (Row.nil _ _ _ _) rfl HQ4.out (by omega) (by unfold maxLen; omega) (by omega) ?_; intro v5 w5 hr5 hb5 hg5; have HP5 := Lib.hid hr5; have HB5 := Lib.hid (HB4.out.trans hb5); have hz5 := hb5.size; clear hr5 hb5 hg5)
    | (at_builtin; refine wpList_append_arr _ rfl _ _ 22 rfl w1.heap.size 32 i0 _ 5 64 Try.underlying22 Hi.out hz0 hz1 hz2 rfl (by decide) _ _ _ rfl HV2.out rfl (Arr.below HC1.out HB2.out) (by omega) (by unfold maxLen; omega) (by omega) ?_; intro v3 w3 hr3 hb3 hg3; have HV3 := Lib.hid (own_app (l1 := cs) hr3 (by simp)); have HB3 := Lib.hid (HB2.out.trans hb3); have hz3 := hb3.size; have HA3 := Lib.hid (Cells.below HA1.out HB3.out); have HC3 := Lib.hid (Cells.below HC1.out HB3.out); clear hr3 hb3 hg3)
    | (at_builtin; refine wpList_append_arr _ rfl _ _ 22 rfl w1.heap.size 32 i0 _ 5 64 Try.underlying22 Hi.out hz0 hz1 hz2 rfl (by decide) (.slice none 0 0) 0 [] rfl (Row.nil _ _ _ _) rfl HA1.out (by omega) (by unfold maxLen; omega) (Nat.le_refl _) ?_; intro v2 w2 hr2 hb2 hg2; have HV2 := Lib.hid hr2; have HB2 := Lib.hid hb2; have hz2' := hb2.size; clear hr2 hb2 hg2)
    | (go_at_call 21; (with_reducible refine (KA.out _ _ _ HA3.out).mono ?_); rintro e w4 ⟨v, rfl, hO, hb⟩; obtain ⟨ao4, cap4, rfl, hc⟩ := hO.cells_n Hma.out; have HQ4 := Lib.hid hc; have HB4 := Lib.hid hb; have hz4 := hb.size; clear hO hc hb)
    | (go_at_call 21; (with_reducible refine (KB.out _ _ _ (Cells.below HC3.out HB5.out)).mono ?_); rintro e w6 ⟨v, rfl, hO, hb⟩; obtain ⟨ao6, cap6, rfl, hc⟩ := hO.cells_n Hmb.out; have HQ6 := Lib.hid hc; have HP6 := Lib.hid (Row.below HP5.out hb); have HB6 := Lib.hid (HB5.out.trans (hb.mono (by omega))); have hz6 := hb.size; obtain ⟨ao3, cap3, rfl, hc3⟩ := Own.cells_n HV3.out HNN.out; have HD3 := Lib.hid hc3; clear hO hc hb hc3)
    | (go_at_call 21; (with_reducible refine (KC.out _ _ _ (Cells.below HD3.out HB7.out)).mono ?_); rintro e w8 ⟨v, rfl, hO, hb⟩; obtain ⟨ao8, cap8, rfl, hc⟩ := hO.cells_n Hmn.out; obtain ⟨ao7, cap7, rfl, hc7⟩ := Own.cells_n (Own.below HP7.out hb) HMM.out; have HP8 := Lib.hid hc7; have HN8 := Lib.hid hc; have HB8 := Lib.hid (HB7.out.trans (hb.mono (by omega))); have hz8 := hb.size; have hcf := Arr.fits hc; have hcx := Arr.max hc; unfold maxLen at hcx; clear hO hc hb hc7))
  have HD8 := Lib.hid (Cells.below HD3.out HB8.out)
  have hdf := Arr.fits HD8.out
  have hdx := Arr.max HD8.out
  unfold maxLen at hdx
  have HBw : Hid (Below w.heap.size w w8) := Lib.hid (HB1.out.trans ((HB3.out.trans (HB8.out.mono (by omega))).mono hz1'))
  have hzw := HBw.out.size
  go_loopw [8] (fun i wr => ∃ k : Nat, k ≤ N ∧ i = .int .i64 k ∧ Below w8.heap.size w8 wr) (fun i _ => N - (intOf i).toNat)
  case atStart => exact ⟨0, by omega, rfl, Below.refl _ _⟩
  case round =>
    obtain ⟨i, hi, rfl, hB0⟩ := hrel
    have hzr := hB0.size
    by_cases hlt : i < N
    · obtain ⟨x, hx⟩ : ∃ x, (cs ++ ds)[i]? = some x := ⟨_, List.getElem?_eq_getElem (by rw [HNN.out]; omega)⟩
      obtain ⟨b, off, e0, hb, ⟨x0, x1, x2, x3, x4⟩⟩ := Cells.at_ HD8.out hx
      subst e0
      have Hone := Lib.hid (HN1.out x (List.mem_of_getElem? hx))
      have Hgr := Lib.hid fun z => HG1.out x (List.mem_of_getElem? hx) z
      obtain ⟨k0, k0f⟩ := keep_below hB0 b hb
      clear hx
      obtain ⟨wo, rfl⟩ : ∃ wo : World, wo = wr := ⟨_, rfl⟩
      go_wp2
      go_loopw [9, 10] (fun t j wr => ∃ (k f : Nat), k ≤ mn ∧ j = .int .i64 k ∧ t = .int .i64 f ∧ f ≤ k ∧ Hid (placeN x (nw.take k) = f) ∧ Below w8.heap.size w8 wr) (fun _ j _ => mn - (intOf j).toNat)
      case atStart => exact ⟨0, 0, by omega, rfl, rfl, by omega, Lib.hid (by simp [placeN]), hB0⟩
      case round =>
        obtain ⟨k, f, hk, rfl, rfl, hfk, hQ, hB1⟩ := hrel
        have hzq := hB1.size
        obtain ⟨k1, k1f⟩ := keep_below hB1 b hb
        by_cases hlt2 : k < mn
        · obtain ⟨y, hy⟩ : ∃ y, nw[k]? = some y := ⟨_, List.getElem?_eq_getElem (by rw [Hmn.out]; omega)⟩
          obtain ⟨b2, off2, e0, hb2, ⟨y0, y1, y2, y3, y4⟩⟩ := Cells.at_ HN8.out hy
          subst e0
          obtain ⟨k2, k2f⟩ := keep_below hB1 b2 hb2
          have hyes := Lib.hid (fun hp => placeN_yes (c := x) hy hp)
          have hno := Lib.hid (fun hp => placeN_no (c := x) hy hp)
          have hgt := Lib.hid (Hgr.out y (List.mem_of_getElem? hy))
          clear hy k0 k0f
          obtain ⟨xr, xc, xv, xg, xl⟩ := x
          obtain ⟨yr, yc, yv, yg, yl⟩ := y
          simp only at x0 x1 x2 x3 x4 y0 y1 y2 y3 y4
          by_cases e1 : yr = xr
          · by_cases e2 : yc = xc
            · subst e1 e2
              have hnx := Lib.hid (hyes.out ((samePl_iff _ _).2 ⟨rfl, rfl⟩))
              have hv := hgt.out ((samePl_iff _ _).2 ⟨rfl, rfl⟩)
              simp only at hv
              have hv1 : decide (yv < xv) = false := by simp; omega
              clear hyes hno hgt
              go_wp2
              refine wp_region_below (by kernel_rfl) (by kernel_rfl) (fun hkept => ?_)
              obtain ⟨r0, rf0⟩ := hkept (b) (by go_size); obtain ⟨r1, rf1⟩ := hkept (b2) (by go_size); clear hkept
              repeat (any_goals (first | go_big_quiet_step (fail) | quiet_step (fail) | (refine wpQuiet_step (fun K hK => ?_); go_simp; split <;> (refine hK _ ?_; clear hK K))))
              all_goals (refine wpQuiet_nil ?_; intro w9 hb; obtain ⟨hB, hS, hk⟩ := after (B := wr.heap.size) (w := wr) (by go_grown) (by go_size) hb; obtain ⟨c0, f0, z0⟩ := hk (b) (by go_size); obtain ⟨c1, f1, z1⟩ := hk (b2) (by go_size); clear hk hb r0 rf0 r1 rf1)
              go_wp2
              refine wp_region_below (by kernel_rfl) (by kernel_rfl) (fun hkept => ?_)
              obtain ⟨r0, rf0⟩ := hkept (b) (by go_size); obtain ⟨r1, rf1⟩ := hkept (b2) (by go_size); clear hkept
              repeat (any_goals (first | go_big_quiet_step (fail) | quiet_step (fail) | (refine wpQuiet_step (fun K hK => ?_); go_simp; split <;> (refine hK _ ?_; clear hK K))))
              all_goals (refine wpQuiet_nil ?_; intro w10 hb; obtain ⟨hB, hS, hk⟩ := after (B := wr.heap.size) (w := wr) (by go_grown) (by go_size) hb; obtain ⟨c0, f0, z0⟩ := hk (b) (by go_size); obtain ⟨c1, f1, z1⟩ := hk (b2) (by go_size); clear hk hb r0 rf0 r1 rf1)
              go_wp2
              exact ⟨⟨k + 1, f + 1, by omega, by go_num, by go_num, by omega, Lib.hid (by rw [hnx.out, hQ.out]), hB1.trans (hB.mono hzq)⟩, by simp [intOf]; omega⟩
            · obtain ⟨n1, n2⟩ := ne_of e2
              have hnx := Lib.hid (hno.out (by cases hq : samePl ⟨yr, yc, yv, yg, yl⟩ ⟨xr, xc, xv, xg, xl⟩ with
                | false => rfl
                | true => exact absurd ((samePl_iff _ _).1 hq).2 n2))
              subst e1
              clear e2 hyes hno hgt
              go_wp2
              refine wp_region_below (by kernel_rfl) (by kernel_rfl) (fun hkept => ?_)
              obtain ⟨r0, rf0⟩ := hkept (b) (by go_size); obtain ⟨r1, rf1⟩ := hkept (b2) (by go_size); clear hkept
              repeat (any_goals (first | go_big_quiet_step (fail) | quiet_step (fail) | (refine wpQuiet_step (fun K hK => ?_); go_simp; split <;> (refine hK _ ?_; clear hK K))))
              all_goals (refine wpQuiet_nil ?_; intro w9 hb; obtain ⟨hB, hS, hk⟩ := after (B := wr.heap.size) (w := wr) (by go_grown) (by go_size) hb; obtain ⟨c0, f0, z0⟩ := hk (b) (by go_size); obtain ⟨c1, f1, z1⟩ := hk (b2) (by go_size); clear hk hb r0 rf0 r1 rf1)
              go_wp2
              exact ⟨⟨k + 1, f, by omega, by go_num, rfl, by omega, Lib.hid (by rw [hnx.out, hQ.out]), hB1.trans (hB.mono hzq)⟩, by simp [intOf]; omega⟩
          · obtain ⟨n1, n2⟩ := ne_of e1
            have hnx := Lib.hid (hno.out (by cases hq : samePl ⟨yr, yc, yv, yg, yl⟩ ⟨xr, xc, xv, xg, xl⟩ with
              | false => rfl
              | true => exact absurd ((samePl_iff _ _).1 hq).1 n2))
            clear e1 hyes hno hgt
            go_wp2
            refine wp_region_below (by kernel_rfl) (by kernel_rfl) (fun hkept => ?_)
            obtain ⟨r0, rf0⟩ := hkept (b) (by go_size); obtain ⟨r1, rf1⟩ := hkept (b2) (by go_size); clear hkept
            repeat (any_goals (first | go_big_quiet_step (fail) | quiet_step (fail) | (refine wpQuiet_step (fun K hK => ?_); go_simp; split <;> (refine hK _ ?_; clear hK K))))
            all_goals (refine wpQuiet_nil ?_; intro w9 hb; obtain ⟨hB, hS, hk⟩ := after (B := wr.heap.size) (w := wr) (by go_grown) (by go_size) hb; obtain ⟨c0, f0, z0⟩ := hk (b) (by go_size); obtain ⟨c1, f1, z1⟩ := hk (b2) (by go_size); clear hk hb r0 rf0 r1 rf1)
            go_wp2
            exact ⟨⟨k + 1, f, by omega, by go_num, rfl, by omega, Lib.hid (by rw [hnx.out, hQ.out]), hB1.trans (hB.mono hzq)⟩, by simp [intOf]; omega⟩
        · obtain rfl : k = mn := by omega
          obtain rfl : f = 1 := by rw [← hQ.out, List.take_of_length_le (by rw [Hmn.out]; exact Nat.le_refl _)]; exact Hone.out
          go_wp2
          exact ⟨⟨i + 1, by omega, by go_num, hB1⟩, by simp [intOf]; omega⟩
    · have HPr := Lib.hid (Cells.below HP8.out hB0)
      have HNr := Lib.hid (Cells.below HN8.out hB0)
      have HBr := Lib.hid (HBw.out.trans (hB0.mono hzw))
      have hzb := HBr.out.size
      go_wp2_with (first
        | (go_at_call 21; refine (KP.out _ _ _ HPr.out).mono ?_; rintro e w11 ⟨v, rfl, hO, hb⟩; obtain ⟨ao11, cap11, rfl, hc⟩ := hO.cells_n Hmn.out; have HR11 := Lib.hid hc; have HB11 := Lib.hid hb; clear hO hc hb)
        | (go_at_call 20; refine (S.out _ nw _ _ _ _ _ _ (Cells.below HNr.out HB11.out) HR11.out).mono ?_; rintro e w12 ⟨rfl, hb⟩; have HB12 := Lib.hid (HB11.out.trans (hb.mono HB11.out.size)); clear hb))
      go_returns
      exact ⟨rfl, HBr.out.trans (HB12.out.mono hzb)⟩

end Go.Proofs.Ytjalccnkfpjchaa
