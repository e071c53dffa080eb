/-
  The walk of acreagelaw04.CellsOrder.
-/
import Derived.Test.YtjalccnkfpjchaaCellsSortsW
namespace Go.Proofs.Ytjalccnkfpjchaa
open Go.RowKit Go.Sort

theorem sortL_again (cs : List CellA) : sortL (sortL cs) = sortL cs := by
  have h := sort_first cs
  refine first_unique (sort_first (sortL cs)) ⟨h.strict, fun x => ?_⟩
  rw [h.flt x, List.take_take]
  rfl
theorem sortL_has (cs : List CellA) {c : CellA} (hc : c ∈ cs) : ∃ y ∈ sortL cs, cmpC c y = 0 := by
  have h := (sort_first cs).flt c
  have hm : c ∈ cs.filter (eqvC c) := List.mem_filter.2 ⟨hc, eqvC_self c⟩
  cases hf : cs.filter (eqvC c) with
  | nil => rw [hf] at hm; cases hm
  | cons y r =>
    rw [hf] at h
    have hy : y ∈ (sortL cs).filter (eqvC c) := by rw [h]; simp
    obtain ⟨h1, h2⟩ := List.mem_filter.1 hy
    exact ⟨y, h1, by simpa [eqvC] using h2⟩
theorem strict_at {l : List CellA} (h : Strict l) {i : Nat} {x y : CellA} (hx : l[i]? = some x) (hy : l[i + 1]? = some y) : cmpC x y < 0 := by
  obtain ⟨a, rfl⟩ := List.getElem?_eq_some_iff.1 hx
  obtain ⟨b, rfl⟩ := List.getElem?_eq_some_iff.1 hy
  exact List.pairwise_iff_getElem.1 h i (i + 1) a b (by omega)
/-- seen so far -/
def Seen (t : Bool) (P : CellA → Prop) (l : List CellA) : Prop := t = true ↔ ∃ y ∈ l, P y
theorem seen_zero (P : CellA → Prop) : Seen false P [] := by simp [Seen]
theorem seen_yes {P : CellA → Prop} {l : List CellA} {k : Nat} (h : Seen true P (l.take k)) : Seen true P (l.take (k + 1)) := by
  obtain ⟨y, hy, hp⟩ := h.1 rfl
  refine ⟨fun _ => ⟨y, ?_, hp⟩, fun _ => rfl⟩
  rw [List.take_add_one]
  exact List.mem_append_left _ hy
theorem seen_new {P : CellA → Prop} {l : List CellA} {k : Nat} {x : CellA} (hx : l[k]? = some x) (hp : P x) : Seen true P (l.take (k + 1)) :=
  ⟨fun _ => ⟨x, by rw [List.take_add_one, hx]; simp, hp⟩, fun _ => rfl⟩
theorem seen_no {P : CellA → Prop} {l : List CellA} {k : Nat} {x : CellA} (h : Seen false P (l.take k)) (hx : l[k]? = some x) (hp : ¬ P x) : Seen false P (l.take (k + 1)) := by
  refine ⟨fun h => (by cases h), fun ⟨y, hy, hq⟩ => ?_⟩
  rw [List.take_add_one, hx] at hy
  rcases List.mem_append.1 hy with hy | hy
  · exact h.2 ⟨y, hy, hq⟩
  · have := List.mem_singleton.1 hy; subst this; exact absurd hq hp
theorem seen_all {t : Bool} {P : CellA → Prop} {l : List CellA} {k : Nat} (h : Seen t P (l.take k)) (hk : l.length ≤ k) (he : ∃ y ∈ l, P y) : t = true := by
  rw [List.take_of_length_le hk] at h
  exact h.2 he

set_option maxRecDepth 100000 in
set_option maxHeartbeats 16000000 in
theorem cellsorder_any (ao : Option Addr) (n0 n cap : Nat) (cs : List CellA) (w : World) (h : Cells w ao n cap cs) (hn : n ≤ 300) (hmin : (if n0 ≤ 300 then n0 else 300) = n) (hcap : n0 ≤ cap) (hcm : cap ≤ maxLen) :
    Calls Try.prog 4 #[.slice ao n0 cap] w fun e w' => e = .returned (.bool true) ∧ Below w.heap.size w w' := by
  unfold maxLen at hcm
  have Hl := Lib.hid h.len
  have H := Lib.hid h
  have hncap := Arr.fits h
  have K1 := Lib.hid fun W ao cap (h : Cells W ao n cap cs) => sort_any ao n cap cs W h (by omega)
  have S := Lib.hid fun W (ds : List CellA) ao ao2 n cap n2 cap2 (h : Cells W ao n cap ds) (h2 : Cells W ao2 n2 cap2 ds) => same_w ao ao2 n cap n2 cap2 ds W h h2
  have hag := sortL_again cs
  have Hhas := Lib.hid fun c (hc : c ∈ cs) => sortL_has cs hc
  have Hsub := Lib.hid (sortL_sub cs)
  have Hstr := Lib.hid (sort_first cs).strict
  have hsl := sortL_len cs
  rw [h.len] at hsl
  obtain ⟨s, hs⟩ : ∃ l, l = sortL cs := ⟨_, rfl⟩
  rw [← hs] at K1 hag Hhas Hsub Hstr hsl
  obtain ⟨m, hm⟩ : ∃ m, m = s.length := ⟨_, rfl⟩
  rw [← hm] at hsl
  have Hm := Lib.hid hm.symm
  have K2 := Lib.hid fun W ao cap (h : Cells W ao m cap s) => sort_any ao m cap s W h (by omega)
  rw [hag] at K2
  have Hmin := Lib.hid hmin
  clear h hs hm hag hmin
  rcases Nat.lt_or_ge 300 n0 with hlt | hge
  · obtain rfl : n = 300 := by have := Hmin.out; rw [if_neg (by omega)] at this; exact this.symm
    go_enter Try.func4, Try.ntmps4
    go_wp2_with (first
      | (go_at_call 17; refine (works_any _).mono ?_; rintro e w1 ⟨rfl, hb⟩; obtain ⟨hB, hS, hk⟩ := after (B := w.heap.size) (w := w) (by go_grown) (by go_size) hb; clear hb; clear hk)
      | (go_at_call 18; refine (K1.out _ _ _ (Cells.below H.out hB)).mono ?_; rintro e w2 ⟨v, rfl, hO, hb⟩; obtain ⟨hB, hS, hk⟩ := after (B := w.heap.size) (w := w) (by go_grown) (by go_size) hb; obtain ⟨aoS, capS, rfl, hc⟩ := hO.cells_n Hm.out; have HS2 := Lib.hid hc; have HL2 := Lib.hid (Cells.below H.out hB); have HB2 := Lib.hid hB; have hcf := Arr.fits hc; have hcx := Arr.max hc; unfold maxLen at hcx; clear hO hc hb hk))
    have hz2 := HB2.out.size
    clear hB hS
    go_loopw [4] (fun i wr => ∃ k : Nat, k ≤ m ∧ i = .int .i64 k ∧ Below w2.heap.size w2 wr) (fun i _ => m - (intOf i).toNat)
    case atStart => exact ⟨0, by omega, rfl, Below.refl _ _⟩
    case round =>
      obtain ⟨i, hi, rfl, hB0⟩ := hrel
      have hzr := hB0.size
      by_cases hlt : i < m
      · obtain ⟨x, hx⟩ : ∃ x, s[i]? = some x := ⟨_, List.getElem?_eq_getElem (by rw [Hm.out]; omega)⟩
        obtain ⟨b, off, e0, hb, ⟨x0, x1, x2, x3, x4⟩⟩ := Cells.at_ HS2.out hx
        subst e0
        obtain ⟨k0, k0f⟩ := keep_below hB0 b hb
        have Hx := Lib.hid hx
        have Hxin : Hid (∃ y ∈ cs, y = x) := Lib.hid ⟨x, Hsub.out x (List.mem_of_getElem? hx), rfl⟩
        clear hx
        obtain ⟨wo, rfl⟩ : ∃ wo : World, wo = wr := ⟨_, rfl⟩
        go_wp2
        go_loopw [5, 6] (fun t j wr => ∃ (k : Nat) (q : Bool), k ≤ 300 ∧ j = .int .i64 k ∧ t = .bool q ∧ Hid (Seen q (fun y => y = x) (cs.take k)) ∧ Below w2.heap.size w2 wr) (fun _ j _ => 300 - (intOf j).toNat)
        case atStart => exact ⟨0, false, by omega, rfl, rfl, Lib.hid (seen_zero _), hB0⟩
        case round =>
          obtain ⟨k, q, hk, rfl, rfl, hQ, hB1⟩ := hrel
          have hzq := hB1.size
          obtain ⟨k1, k1f⟩ := keep_below hB1 b hb
          by_cases hlt2 : k < 300
          · cases q
            · obtain ⟨y, hy⟩ : ∃ y, cs[k]? = some y := ⟨_, List.getElem?_eq_getElem (by rw [Hl.out]; omega)⟩
              obtain ⟨b2, off2, e0, hb2, ⟨y0, y1, y2, y3, y4⟩⟩ := Cells.at_ HL2.out hy
              subst e0
              obtain ⟨k2, k2f⟩ := keep_below hB1 b2 hb2
              have hno := Lib.hid (fun hp => seen_no hQ.out hy hp)
              have hyes := Lib.hid (fun hp => seen_new (P := fun y => y = x) hy hp)
              clear hy k0 k0f
              obtain ⟨xr, xc, xv, xg, xl⟩ := x
              obtain ⟨yr, yc, yv, yg, yl⟩ := y
              simp only at x0 x1 x2 x3 x4 y0 y1 y2 y3 y4
              by_cases e1 : yr = xr
              · by_cases e2 : yc = xc
                · by_cases e3 : yv = xv
                  · by_cases e4 : yg = xg
                    · by_cases e5 : yl = xl
                      · have hnx := Lib.hid (hyes.out (CellA.ext' e1 e2 e3 e4 e5))
                        subst e1 e2 e3 e4 e5
                        clear hno hyes
                        go_wp2
                        refine wp_region_below (by kernel_rfl) (by kernel_rfl) (fun hkept => ?_)
                        obtain ⟨r0, rf0⟩ := hkept (b) (by go_size); obtain ⟨r1, rf1⟩ := hkept (b2) (by go_size); clear hkept
                        repeat (any_goals (first | go_big_quiet_step (fail) | quiet_step (fail) | (refine wpQuiet_step (fun K hK => ?_); go_simp; split <;> (refine hK _ ?_; clear hK K))))
                        all_goals (refine wpQuiet_nil ?_; intro w5 hb; obtain ⟨hB, hS, hk⟩ := after (B := wr.heap.size) (w := wr) (by go_grown) (by go_size) hb; obtain ⟨c0, f0, z0⟩ := hk (b) (by go_size); obtain ⟨c1, f1, z1⟩ := hk (b2) (by go_size); clear hk hb r0 rf0 r1 rf1)
                        go_wp2
                        exact ⟨⟨k + 1, true, by omega, by go_num, rfl, hnx, hB1.trans (hB.mono hzq)⟩, by simp [intOf]; omega⟩
                      · obtain ⟨n1, n2⟩ := ne_of e5
                        have hnx := Lib.hid (hno.out (fun e => e5 (congrArg CellA.val e)))
                        subst e1 e2 e3 e4
                        clear e5 hno hyes
                        go_wp2
                        refine wp_region_below (by kernel_rfl) (by kernel_rfl) (fun hkept => ?_)
                        obtain ⟨r0, rf0⟩ := hkept (b) (by go_size); obtain ⟨r1, rf1⟩ := hkept (b2) (by go_size); clear hkept
                        repeat (any_goals (first | go_big_quiet_step (fail) | quiet_step (fail) | (refine wpQuiet_step (fun K hK => ?_); go_simp; split <;> (refine hK _ ?_; clear hK K))))
                        all_goals (refine wpQuiet_nil ?_; intro w5 hb; obtain ⟨hB, hS, hk⟩ := after (B := wr.heap.size) (w := wr) (by go_grown) (by go_size) hb; obtain ⟨c0, f0, z0⟩ := hk (b) (by go_size); obtain ⟨c1, f1, z1⟩ := hk (b2) (by go_size); clear hk hb r0 rf0 r1 rf1)
                        go_wp2
                        exact ⟨⟨k + 1, false, by omega, by go_num, rfl, hnx, hB1.trans (hB.mono hzq)⟩, by simp [intOf]; omega⟩
                    · have hnx := Lib.hid (hno.out (fun e => e4 (congrArg CellA.gone e)))
                      subst e1 e2 e3
                      clear hno hyes
                      cases xg <;> cases yg
                      · exact absurd rfl e4
                      · clear e4
                        go_wp2
                        refine wp_region_below (by kernel_rfl) (by kernel_rfl) (fun hkept => ?_)
                        obtain ⟨r0, rf0⟩ := hkept (b) (by go_size); obtain ⟨r1, rf1⟩ := hkept (b2) (by go_size); clear hkept
                        repeat (any_goals (first | go_big_quiet_step (fail) | quiet_step (fail) | (refine wpQuiet_step (fun K hK => ?_); go_simp; split <;> (refine hK _ ?_; clear hK K))))
                        all_goals (refine wpQuiet_nil ?_; intro w5 hb; obtain ⟨hB, hS, hk⟩ := after (B := wr.heap.size) (w := wr) (by go_grown) (by go_size) hb; obtain ⟨c0, f0, z0⟩ := hk (b) (by go_size); obtain ⟨c1, f1, z1⟩ := hk (b2) (by go_size); clear hk hb r0 rf0 r1 rf1)
                        go_wp2
                        exact ⟨⟨k + 1, false, by omega, by go_num, rfl, hnx, hB1.trans (hB.mono hzq)⟩, by simp [intOf]; omega⟩
                      · clear e4
                        go_wp2
                        refine wp_region_below (by kernel_rfl) (by kernel_rfl) (fun hkept => ?_)
                        obtain ⟨r0, rf0⟩ := hkept (b) (by go_size); obtain ⟨r1, rf1⟩ := hkept (b2) (by go_size); clear hkept
                        repeat (any_goals (first | go_big_quiet_step (fail) | quiet_step (fail) | (refine wpQuiet_step (fun K hK => ?_); go_simp; split <;> (refine hK _ ?_; clear hK K))))
                        all_goals (refine wpQuiet_nil ?_; intro w5 hb; obtain ⟨hB, hS, hk⟩ := after (B := wr.heap.size) (w := wr) (by go_grown) (by go_size) hb; obtain ⟨c0, f0, z0⟩ := hk (b) (by go_size); obtain ⟨c1, f1, z1⟩ := hk (b2) (by go_size); clear hk hb r0 rf0 r1 rf1)
                        go_wp2
                        exact ⟨⟨k + 1, false, by omega, by go_num, rfl, hnx, hB1.trans (hB.mono hzq)⟩, by simp [intOf]; omega⟩
                      · exact absurd rfl e4
                  · have n1 : (yv == xv) = false := by simpa using e3
                    have hnx := Lib.hid (hno.out (fun e => e3 (congrArg CellA.ver e)))
                    subst e1 e2
                    clear hno hyes
                    go_wp2
                    refine wp_region_below (by kernel_rfl) (by kernel_rfl) (fun hkept => ?_)
                    obtain ⟨r0, rf0⟩ := hkept (b) (by go_size); obtain ⟨r1, rf1⟩ := hkept (b2) (by go_size); clear hkept
                    repeat (any_goals (first | go_big_quiet_step (fail) | quiet_step (fail) | (refine wpQuiet_step (fun K hK => ?_); go_simp; split <;> (refine hK _ ?_; clear hK K))))
                    all_goals (refine wpQuiet_nil ?_; intro w5 hb; obtain ⟨hB, hS, hk⟩ := after (B := wr.heap.size) (w := wr) (by go_grown) (by go_size) hb; obtain ⟨c0, f0, z0⟩ := hk (b) (by go_size); obtain ⟨c1, f1, z1⟩ := hk (b2) (by go_size); clear hk hb r0 rf0 r1 rf1)
                    go_wp2
                    exact ⟨⟨k + 1, false, by omega, by go_num, rfl, hnx, hB1.trans (hB.mono hzq)⟩, by simp [intOf]; omega⟩
                · obtain ⟨n1, n2⟩ := ne_of e2
                  have hnx := Lib.hid (hno.out (fun e => e2 (congrArg CellA.col e)))
                  subst e1
                  clear e2 hno hyes
                  go_wp2
                  refine wp_region_below (by kernel_rfl) (by kernel_rfl) (fun hkept => ?_)
                  obtain ⟨r0, rf0⟩ := hkept (b) (by go_size); obtain ⟨r1, rf1⟩ := hkept (b2) (by go_size); clear hkept
                  repeat (any_goals (first | go_big_quiet_step (fail) | quiet_step (fail) | (refine wpQuiet_step (fun K hK => ?_); go_simp; split <;> (refine hK _ ?_; clear hK K))))
                  all_goals (refine wpQuiet_nil ?_; intro w5 hb; obtain ⟨hB, hS, hk⟩ := after (B := wr.heap.size) (w := wr) (by go_grown) (by go_size) hb; obtain ⟨c0, f0, z0⟩ := hk (b) (by go_size); obtain ⟨c1, f1, z1⟩ := hk (b2) (by go_size); clear hk hb r0 rf0 r1 rf1)
                  go_wp2
                  exact ⟨⟨k + 1, false, by omega, by go_num, rfl, hnx, hB1.trans (hB.mono hzq)⟩, by simp [intOf]; omega⟩
              · obtain ⟨n1, n2⟩ := ne_of e1
                have hnx := Lib.hid (hno.out (fun e => e1 (congrArg CellA.row e)))
                clear e1 hno hyes
                go_wp2
                refine wp_region_below (by kernel_rfl) (by kernel_rfl) (fun hkept => ?_)
                obtain ⟨r0, rf0⟩ := hkept (b) (by go_size); obtain ⟨r1, rf1⟩ := hkept (b2) (by go_size); clear hkept
                repeat (any_goals (first | go_big_quiet_step (fail) | quiet_step (fail) | (refine wpQuiet_step (fun K hK => ?_); go_simp; split <;> (refine hK _ ?_; clear hK K))))
                all_goals (refine wpQuiet_nil ?_; intro w5 hb; obtain ⟨hB, hS, hk⟩ := after (B := wr.heap.size) (w := wr) (by go_grown) (by go_size) hb; obtain ⟨c0, f0, z0⟩ := hk (b) (by go_size); obtain ⟨c1, f1, z1⟩ := hk (b2) (by go_size); clear hk hb r0 rf0 r1 rf1)
                go_wp2
                exact ⟨⟨k + 1, false, by omega, by go_num, rfl, hnx, hB1.trans (hB.mono hzq)⟩, by simp [intOf]; omega⟩
            · go_wp2
              refine wp_region_below (by kernel_rfl) (by kernel_rfl) (fun hkept => ?_)
              clear hkept
              repeat (any_goals (first | go_big_quiet_step (fail) | quiet_step (fail) | (refine wpQuiet_step (fun K hK => ?_); go_simp; split <;> (refine hK _ ?_; clear hK K))))
              all_goals (refine wpQuiet_nil ?_; intro w5 hb; obtain ⟨hB, hS, hk⟩ := after (B := wr.heap.size) (w := wr) (by go_grown) (by go_size) hb; clear hk hb)
              go_wp2
              exact ⟨⟨k + 1, true, by omega, by go_num, rfl, Lib.hid (seen_yes hQ.out), hB1.trans (hB.mono hzq)⟩, by simp [intOf]; omega⟩
          · obtain rfl : k = 300 := by omega
            obtain rfl : q = true := seen_all hQ.out (by rw [Hl.out]; exact Nat.le_refl _) Hxin.out
            cases i with
            | zero =>
              go_wp2
              refine wp_region_below (by kernel_rfl) (by kernel_rfl) (fun hkept => ?_)
              clear hkept
              repeat (any_goals (first | go_big_quiet_step (fail) | quiet_step (fail) | (refine wpQuiet_step (fun K hK => ?_); go_simp; split <;> (refine hK _ ?_; clear hK K))))
              all_goals (refine wpQuiet_nil ?_; intro w5 hb; obtain ⟨hB, hS, hk⟩ := after (B := wr.heap.size) (w := wr) (by go_grown) (by go_size) hb; clear hk hb)
              go_wp2
              exact ⟨⟨1, by omega, by go_num, hB1.trans (hB.mono hzq)⟩, by simp [intOf]; omega⟩
            | succ j =>
              obtain ⟨z, hz⟩ : ∃ z, s[j]? = some z := ⟨_, List.getElem?_eq_getElem (by rw [Hm.out]; omega)⟩
              obtain ⟨b', off', e', hb', ⟨z0, z1, z2, z3, z4⟩⟩ := Cells.at_ HS2.out hz
              cases e'
              have hneg := strict_at Hstr.out hz Hx.out
              have hcm := Lib.hid fun W => cmp_any z x W
              obtain ⟨c, hc⟩ : ∃ c, cmpC z x = c := ⟨_, rfl⟩
              rw [hc] at hcm hneg
              have hneg1 : decide (0 ≤ c) = false := by simp; omega
              clear hz hb' hc
              go_wp2
              refine wp_region_below (by kernel_rfl) (by kernel_rfl) (fun hkept => ?_)
              obtain ⟨r0, rf0⟩ := hkept (b) (by go_size); clear hkept
              repeat (any_goals (first | go_big_quiet_step (first | (go_at_call 19; exact Calls.regrown_of (hcm.out _))) | quiet_step (first | (go_at_call 19; exact Calls.regrown_of (hcm.out _))) | (refine wpQuiet_step (fun K hK => ?_); go_simp; split <;> (refine hK _ ?_; clear hK K))))
              all_goals (refine wpQuiet_nil ?_; intro w5 hb; obtain ⟨hB, hS, hk⟩ := after (B := wr.heap.size) (w := wr) (by go_grown) (by go_size) hb; obtain ⟨c0, f0, z0⟩ := hk (b) (by go_size); clear hk hb r0 rf0)
              go_wp2
              exact ⟨⟨j + 1 + 1, by omega, by go_num, hB1.trans (hB.mono hzq)⟩, by simp [intOf]; omega⟩
      · obtain rfl : i = m := by omega
        obtain ⟨wo, rfl⟩ : ∃ wo : World, wo = wr := ⟨_, rfl⟩
        go_wp2
        go_loopw [7] (fun i wr => ∃ k : Nat, k ≤ 300 ∧ i = .int .i64 k ∧ Below w2.heap.size w2 wr) (fun i _ => 300 - (intOf i).toNat)
        case atStart => exact ⟨0, by omega, rfl, hB0⟩
        case round =>
          obtain ⟨k, hk, rfl, hB1⟩ := hrel
          have hzq := hB1.size
          by_cases hlt2 : k < 300
          · obtain ⟨y, hy⟩ : ∃ y, cs[k]? = some y := ⟨_, List.getElem?_eq_getElem (by rw [Hl.out]; omega)⟩
            obtain ⟨b2, off2, e0, hb2, ⟨y0, y1, y2, y3, y4⟩⟩ := Cells.at_ HL2.out hy
            subst e0
            obtain ⟨k2, k2f⟩ := keep_below hB1 b2 hb2
            have Hyin : Hid (∃ z ∈ s, cmpC y z = 0) := Lib.hid (Hhas.out y (List.mem_of_getElem? hy))
            clear hy
            obtain ⟨wp, rfl⟩ : ∃ wp : World, wp = wr := ⟨_, rfl⟩
            go_wp2
            go_loopw [8, 9] (fun t j wr => ∃ (k : Nat) (q : Bool), k ≤ i ∧ j = .int .i64 k ∧ t = .bool q ∧ Hid (Seen q (fun z => cmpC y z = 0) (s.take k)) ∧ Below w2.heap.size w2 wr) (fun _ j _ => i - (intOf j).toNat)
            case atStart => exact ⟨0, false, by omega, rfl, rfl, Lib.hid (seen_zero _), hB1⟩
            case round =>
              obtain ⟨p, q, hp, rfl, rfl, hQ, hB2⟩ := hrel
              have hzp := hB2.size
              obtain ⟨k3, k3f⟩ := keep_below hB2 b2 hb2
              by_cases hlt3 : p < i
              · cases q
                · obtain ⟨z, hz⟩ : ∃ z, s[p]? = some z := ⟨_, List.getElem?_eq_getElem (by rw [Hm.out]; omega)⟩
                  obtain ⟨b', off', e', hb', ⟨z0, z1, z2, z3, z4⟩⟩ := Cells.at_ HS2.out hz
                  subst e'
                  obtain ⟨k4, k4f⟩ := keep_below hB2 b' hb'
                  have hcm := Lib.hid fun W => cmp_any y z W
                  have hno := Lib.hid (fun hp => seen_no hQ.out hz hp)
                  have hyes := Lib.hid (fun hp => seen_new (P := fun z => cmpC y z = 0) hz hp)
                  obtain ⟨c, hc⟩ : ∃ c, cmpC y z = c := ⟨_, rfl⟩
                  rw [hc] at hcm hno hyes
                  clear hz hc
                  by_cases hc0 : c = 0
                  · have hnx := Lib.hid (hyes.out hc0)
                    subst hc0
                    clear hno hyes
                    go_wp2
                    refine wp_region_below (by kernel_rfl) (by kernel_rfl) (fun hkept => ?_)
                    obtain ⟨r0, rf0⟩ := hkept (b2) (by go_size); obtain ⟨r1, rf1⟩ := hkept (b') (by go_size); clear hkept
                    repeat (any_goals (first | go_big_quiet_step (first | (go_at_call 19; exact Calls.regrown_of (hcm.out _))) | quiet_step (first | (go_at_call 19; exact Calls.regrown_of (hcm.out _))) | (refine wpQuiet_step (fun K hK => ?_); go_simp; split <;> (refine hK _ ?_; clear hK K))))
                    all_goals (refine wpQuiet_nil ?_; intro w5 hb; obtain ⟨hB, hS, hk⟩ := after (B := wr.heap.size) (w := wr) (by go_grown) (by go_size) hb; obtain ⟨c0, f0, z0⟩ := hk (b2) (by go_size); obtain ⟨c1, f1, z1⟩ := hk (b') (by go_size); clear hk hb r0 rf0 r1 rf1)
                    go_wp2
                    exact ⟨⟨p + 1, true, by omega, by go_num, rfl, hnx, hB2.trans (hB.mono hzp)⟩, by simp [intOf]; omega⟩
                  · have hnx := Lib.hid (hno.out hc0)
                    have hc1 : (c == 0) = false := by simpa using hc0
                    clear hno hyes
                    go_wp2
                    refine wp_region_below (by kernel_rfl) (by kernel_rfl) (fun hkept => ?_)
                    obtain ⟨r0, rf0⟩ := hkept (b2) (by go_size); obtain ⟨r1, rf1⟩ := hkept (b') (by go_size); clear hkept
                    repeat (any_goals (first | go_big_quiet_step (first | (go_at_call 19; exact Calls.regrown_of (hcm.out _))) | quiet_step (first | (go_at_call 19; exact Calls.regrown_of (hcm.out _))) | (refine wpQuiet_step (fun K hK => ?_); go_simp; split <;> (refine hK _ ?_; clear hK K))))
                    all_goals (refine wpQuiet_nil ?_; intro w5 hb; obtain ⟨hB, hS, hk⟩ := after (B := wr.heap.size) (w := wr) (by go_grown) (by go_size) hb; obtain ⟨c0, f0, z0⟩ := hk (b2) (by go_size); obtain ⟨c1, f1, z1⟩ := hk (b') (by go_size); clear hk hb r0 rf0 r1 rf1)
                    go_wp2
                    exact ⟨⟨p + 1, false, by omega, by go_num, rfl, hnx, hB2.trans (hB.mono hzp)⟩, by simp [intOf]; omega⟩
                · go_wp2
                  refine wp_region_below (by kernel_rfl) (by kernel_rfl) (fun hkept => ?_)
                  clear hkept
                  repeat (any_goals (first | go_big_quiet_step (fail) | quiet_step (fail) | (refine wpQuiet_step (fun K hK => ?_); go_simp; split <;> (refine hK _ ?_; clear hK K))))
                  all_goals (refine wpQuiet_nil ?_; intro w5 hb; obtain ⟨hB, hS, hk⟩ := after (B := wr.heap.size) (w := wr) (by go_grown) (by go_size) hb; clear hk hb)
                  go_wp2
                  exact ⟨⟨p + 1, true, by omega, by go_num, rfl, Lib.hid (seen_yes hQ.out), hB2.trans (hB.mono hzp)⟩, by simp [intOf]; omega⟩
              · obtain rfl : p = i := by omega
                obtain rfl : q = true := seen_all hQ.out (by rw [Hm.out]; exact Nat.le_refl _) Hyin.out
                go_wp2
                exact ⟨⟨k + 1, by omega, by go_num, hB2⟩, by simp [intOf]; omega⟩
          · have HSr := Lib.hid (Cells.below HS2.out hB1)
            have HBr := Lib.hid (HB2.out.trans (hB1.mono hz2))
            have hzw := HBr.out.size
            go_wp2_with (first
              | (go_at_call 18; refine (K2.out _ _ _ HSr.out).mono ?_; rintro e w8 ⟨v, rfl, hO, hb⟩; obtain ⟨ao8, cap8, rfl, hc⟩ := hO.cells_n Hm.out; have HR8 := Lib.hid hc; have HB8 := Lib.hid hb; clear hO hc hb)
              | (go_at_call 20; refine (S.out _ s _ _ _ _ _ _ HR8.out (Cells.below HSr.out HB8.out)).mono ?_; rintro e w9 ⟨rfl, hb⟩; have HB9 := Lib.hid (HB8.out.trans (hb.mono HB8.out.size)); clear hb))
            go_returns
            exact ⟨rfl, HBr.out.trans (HB9.out.mono hzw)⟩
  · obtain rfl : n0 = n := by have := Hmin.out; rw [if_pos hge] at this; exact this
    go_enter Try.func4, Try.ntmps4
    go_wp2_with (first
      | (go_at_call 17; refine (works_any _).mono ?_; rintro e w1 ⟨rfl, hb⟩; obtain ⟨hB, hS, hk⟩ := after (B := w.heap.size) (w := w) (by go_grown) (by go_size) hb; clear hb; clear hk)
      | (go_at_call 18; refine (K1.out _ _ _ (Cells.below H.out hB)).mono ?_; rintro e w2 ⟨v, rfl, hO, hb⟩; obtain ⟨hB, hS, hk⟩ := after (B := w.heap.size) (w := w) (by go_grown) (by go_size) hb; obtain ⟨aoS, capS, rfl, hc⟩ := hO.cells_n Hm.out; have HS2 := Lib.hid hc; have HL2 := Lib.hid (Cells.below H.out hB); have HB2 := Lib.hid hB; have hcf := Arr.fits hc; have hcx := Arr.max hc; unfold maxLen at hcx; clear hO hc hb hk))
    have hz2 := HB2.out.size
    clear hB hS
    go_loopw [4] (fun i wr => ∃ k : Nat, k ≤ m ∧ i = .int .i64 k ∧ Below w2.heap.size w2 wr) (fun i _ => m - (intOf i).toNat)
    case atStart => exact ⟨0, by omega, rfl, Below.refl _ _⟩
    case round =>
      obtain ⟨i, hi, rfl, hB0⟩ := hrel
      have hzr := hB0.size
      by_cases hlt : i < m
      · obtain ⟨x, hx⟩ : ∃ x, s[i]? = some x := ⟨_, List.getElem?_eq_getElem (by rw [Hm.out]; omega)⟩
        obtain ⟨b, off, e0, hb, ⟨x0, x1, x2, x3, x4⟩⟩ := Cells.at_ HS2.out hx
        subst e0
        obtain ⟨k0, k0f⟩ := keep_below hB0 b hb
        have Hx := Lib.hid hx
        have Hxin : Hid (∃ y ∈ cs, y = x) := Lib.hid ⟨x, Hsub.out x (List.mem_of_getElem? hx), rfl⟩
        clear hx
        obtain ⟨wo, rfl⟩ : ∃ wo : World, wo = wr := ⟨_, rfl⟩
        go_wp2
        go_loopw [5, 6] (fun t j wr => ∃ (k : Nat) (q : Bool), k ≤ n0 ∧ j = .int .i64 k ∧ t = .bool q ∧ Hid (Seen q (fun y => y = x) (cs.take k)) ∧ Below w2.heap.size w2 wr) (fun _ j _ => n0 - (intOf j).toNat)
        case atStart => exact ⟨0, false, by omega, rfl, rfl, Lib.hid (seen_zero _), hB0⟩
        case round =>
          obtain ⟨k, q, hk, rfl, rfl, hQ, hB1⟩ := hrel
          have hzq := hB1.size
          obtain ⟨k1, k1f⟩ := keep_below hB1 b hb
          by_cases hlt2 : k < n0
          · cases q
            · obtain ⟨y, hy⟩ : ∃ y, cs[k]? = some y := ⟨_, List.getElem?_eq_getElem (by rw [Hl.out]; omega)⟩
              obtain ⟨b2, off2, e0, hb2, ⟨y0, y1, y2, y3, y4⟩⟩ := Cells.at_ HL2.out hy
              subst e0
              obtain ⟨k2, k2f⟩ := keep_below hB1 b2 hb2
              have hno := Lib.hid (fun hp => seen_no hQ.out hy hp)
              have hyes := Lib.hid (fun hp => seen_new (P := fun y => y = x) hy hp)
              clear hy k0 k0f
              obtain ⟨xr, xc, xv, xg, xl⟩ := x
              obtain ⟨yr, yc, yv, yg, yl⟩ := y
              simp only at x0 x1 x2 x3 x4 y0 y1 y2 y3 y4
              by_cases e1 : yr = xr
              · by_cases e2 : yc = xc
                · by_cases e3 : yv = xv
                  · by_cases e4 : yg = xg
                    · by_cases e5 : yl = xl
                      · have hnx := Lib.hid (hyes.out (CellA.ext' e1 e2 e3 e4 e5))
                        subst e1 e2 e3 e4 e5
                        clear hno hyes
                        go_wp2
                        refine wp_region_below (by kernel_rfl) (by kernel_rfl) (fun hkept => ?_)
                        obtain ⟨r0, rf0⟩ := hkept (b) (by go_size); obtain ⟨r1, rf1⟩ := hkept (b2) (by go_size); clear hkept
                        repeat (any_goals (first | go_big_quiet_step (fail) | quiet_step (fail) | (refine wpQuiet_step (fun K hK => ?_); go_simp; split <;> (refine hK _ ?_; clear hK K))))
                        all_goals (refine wpQuiet_nil ?_; intro w5 hb; obtain ⟨hB, hS, hk⟩ := after (B := wr.heap.size) (w := wr) (by go_grown) (by go_size) hb; obtain ⟨c0, f0, z0⟩ := hk (b) (by go_size); obtain ⟨c1, f1, z1⟩ := hk (b2) (by go_size); clear hk hb r0 rf0 r1 rf1)
                        go_wp2
                        exact ⟨⟨k + 1, true, by omega, by go_num, rfl, hnx, hB1.trans (hB.mono hzq)⟩, by simp [intOf]; omega⟩
                      · obtain ⟨n1, n2⟩ := ne_of e5
                        have hnx := Lib.hid (hno.out (fun e => e5 (congrArg CellA.val e)))
                        subst e1 e2 e3 e4
                        clear e5 hno hyes
                        go_wp2
                        refine wp_region_below (by kernel_rfl) (by kernel_rfl) (fun hkept => ?_)
                        obtain ⟨r0, rf0⟩ := hkept (b) (by go_size); obtain ⟨r1, rf1⟩ := hkept (b2) (by go_size); clear hkept
                        repeat (any_goals (first | go_big_quiet_step (fail) | quiet_step (fail) | (refine wpQuiet_step (fun K hK => ?_); go_simp; split <;> (refine hK _ ?_; clear hK K))))
                        all_goals (refine wpQuiet_nil ?_; intro w5 hb; obtain ⟨hB, hS, hk⟩ := after (B := wr.heap.size) (w := wr) (by go_grown) (by go_size) hb; obtain ⟨c0, f0, z0⟩ := hk (b) (by go_size); obtain ⟨c1, f1, z1⟩ := hk (b2) (by go_size); clear hk hb r0 rf0 r1 rf1)
                        go_wp2
                        exact ⟨⟨k + 1, false, by omega, by go_num, rfl, hnx, hB1.trans (hB.mono hzq)⟩, by simp [intOf]; omega⟩
                    · have hnx := Lib.hid (hno.out (fun e => e4 (congrArg CellA.gone e)))
                      subst e1 e2 e3
                      clear hno hyes
                      cases xg <;> cases yg
                      · exact absurd rfl e4
                      · clear e4
                        go_wp2
                        refine wp_region_below (by kernel_rfl) (by kernel_rfl) (fun hkept => ?_)
                        obtain ⟨r0, rf0⟩ := hkept (b) (by go_size); obtain ⟨r1, rf1⟩ := hkept (b2) (by go_size); clear hkept
                        repeat (any_goals (first | go_big_quiet_step (fail) | quiet_step (fail) | (refine wpQuiet_step (fun K hK => ?_); go_simp; split <;> (refine hK _ ?_; clear hK K))))
                        all_goals (refine wpQuiet_nil ?_; intro w5 hb; obtain ⟨hB, hS, hk⟩ := after (B := wr.heap.size) (w := wr) (by go_grown) (by go_size) hb; obtain ⟨c0, f0, z0⟩ := hk (b) (by go_size); obtain ⟨c1, f1, z1⟩ := hk (b2) (by go_size); clear hk hb r0 rf0 r1 rf1)
                        go_wp2
                        exact ⟨⟨k + 1, false, by omega, by go_num, rfl, hnx, hB1.trans (hB.mono hzq)⟩, by simp [intOf]; omega⟩
                      · clear e4
                        go_wp2
                        refine wp_region_below (by kernel_rfl) (by kernel_rfl) (fun hkept => ?_)
                        obtain ⟨r0, rf0⟩ := hkept (b) (by go_size); obtain ⟨r1, rf1⟩ := hkept (b2) (by go_size); clear hkept
                        repeat (any_goals (first | go_big_quiet_step (fail) | quiet_step (fail) | (refine wpQuiet_step (fun K hK => ?_); go_simp; split <;> (refine hK _ ?_; clear hK K))))
                        all_goals (refine wpQuiet_nil ?_; intro w5 hb; obtain ⟨hB, hS, hk⟩ := after (B := wr.heap.size) (w := wr) (by go_grown) (by go_size) hb; obtain ⟨c0, f0, z0⟩ := hk (b) (by go_size); obtain ⟨c1, f1, z1⟩ := hk (b2) (by go_size); clear hk hb r0 rf0 r1 rf1)
                        go_wp2
                        exact ⟨⟨k + 1, false, by omega, by go_num, rfl, hnx, hB1.trans (hB.mono hzq)⟩, by simp [intOf]; omega⟩
                      · exact absurd rfl e4
                  · have n1 : (yv == xv) = false := by simpa using e3
                    have hnx := Lib.hid (hno.out (fun e => e3 (congrArg CellA.ver e)))
                    subst e1 e2
                    clear hno hyes
                    go_wp2
                    refine wp_region_below (by kernel_rfl) (by kernel_rfl) (fun hkept => ?_)
                    obtain ⟨r0, rf0⟩ := hkept (b) (by go_size); obtain ⟨r1, rf1⟩ := hkept (b2) (by go_size); clear hkept
                    repeat (any_goals (first | go_big_quiet_step (fail) | quiet_step (fail) | (refine wpQuiet_step (fun K hK => ?_); go_simp; split <;> (refine hK _ ?_; clear hK K))))
                    all_goals (refine wpQuiet_nil ?_; intro w5 hb; obtain ⟨hB, hS, hk⟩ := after (B := wr.heap.size) (w := wr) (by go_grown) (by go_size) hb; obtain ⟨c0, f0, z0⟩ := hk (b) (by go_size); obtain ⟨c1, f1, z1⟩ := hk (b2) (by go_size); clear hk hb r0 rf0 r1 rf1)
                    go_wp2
                    exact ⟨⟨k + 1, false, by omega, by go_num, rfl, hnx, hB1.trans (hB.mono hzq)⟩, by simp [intOf]; omega⟩
                · obtain ⟨n1, n2⟩ := ne_of e2
                  have hnx := Lib.hid (hno.out (fun e => e2 (congrArg CellA.col e)))
                  subst e1
                  clear e2 hno hyes
                  go_wp2
                  refine wp_region_below (by kernel_rfl) (by kernel_rfl) (fun hkept => ?_)
                  obtain ⟨r0, rf0⟩ := hkept (b) (by go_size); obtain ⟨r1, rf1⟩ := hkept (b2) (by go_size); clear hkept
                  repeat (any_goals (first | go_big_quiet_step (fail) | quiet_step (fail) | (refine wpQuiet_step (fun K hK => ?_); go_simp; split <;> (refine hK _ ?_; clear hK K))))
                  all_goals (refine wpQuiet_nil ?_; intro w5 hb; obtain ⟨hB, hS, hk⟩ := after (B := wr.heap.size) (w := wr) (by go_grown) (by go_size) hb; obtain ⟨c0, f0, z0⟩ := hk (b) (by go_size); obtain ⟨c1, f1, z1⟩ := hk (b2) (by go_size); clear hk hb r0 rf0 r1 rf1)
                  go_wp2
                  exact ⟨⟨k + 1, false, by omega, by go_num, rfl, hnx, hB1.trans (hB.mono hzq)⟩, by simp [intOf]; omega⟩
              · obtain ⟨n1, n2⟩ := ne_of e1
                have hnx := Lib.hid (hno.out (fun e => e1 (congrArg CellA.row e)))
                clear e1 hno hyes
                go_wp2
                refine wp_region_below (by kernel_rfl) (by kernel_rfl) (fun hkept => ?_)
                obtain ⟨r0, rf0⟩ := hkept (b) (by go_size); obtain ⟨r1, rf1⟩ := hkept (b2) (by go_size); clear hkept
                repeat (any_goals (first | go_big_quiet_step (fail) | quiet_step (fail) | (refine wpQuiet_step (fun K hK => ?_); go_simp; split <;> (refine hK _ ?_; clear hK K))))
                all_goals (refine wpQuiet_nil ?_; intro w5 hb; obtain ⟨hB, hS, hk⟩ := after (B := wr.heap.size) (w := wr) (by go_grown) (by go_size) hb; obtain ⟨c0, f0, z0⟩ := hk (b) (by go_size); obtain ⟨c1, f1, z1⟩ := hk (b2) (by go_size); clear hk hb r0 rf0 r1 rf1)
                go_wp2
                exact ⟨⟨k + 1, false, by omega, by go_num, rfl, hnx, hB1.trans (hB.mono hzq)⟩, by simp [intOf]; omega⟩
            · go_wp2
              refine wp_region_below (by kernel_rfl) (by kernel_rfl) (fun hkept => ?_)
              clear hkept
              repeat (any_goals (first | go_big_quiet_step (fail) | quiet_step (fail) | (refine wpQuiet_step (fun K hK => ?_); go_simp; split <;> (refine hK _ ?_; clear hK K))))
              all_goals (refine wpQuiet_nil ?_; intro w5 hb; obtain ⟨hB, hS, hk⟩ := after (B := wr.heap.size) (w := wr) (by go_grown) (by go_size) hb; clear hk hb)
              go_wp2
              exact ⟨⟨k + 1, true, by omega, by go_num, rfl, Lib.hid (seen_yes hQ.out), hB1.trans (hB.mono hzq)⟩, by simp [intOf]; omega⟩
          · obtain rfl : k = n0 := by omega
            obtain rfl : q = true := seen_all hQ.out (by rw [Hl.out]; exact Nat.le_refl _) Hxin.out
            cases i with
            | zero =>
              go_wp2
              refine wp_region_below (by kernel_rfl) (by kernel_rfl) (fun hkept => ?_)
              clear hkept
              repeat (any_goals (first | go_big_quiet_step (fail) | quiet_step (fail) | (refine wpQuiet_step (fun K hK => ?_); go_simp; split <;> (refine hK _ ?_; clear hK K))))
              all_goals (refine wpQuiet_nil ?_; intro w5 hb; obtain ⟨hB, hS, hk⟩ := after (B := wr.heap.size) (w := wr) (by go_grown) (by go_size) hb; clear hk hb)
              go_wp2
              exact ⟨⟨1, by omega, by go_num, hB1.trans (hB.mono hzq)⟩, by simp [intOf]; omega⟩
            | succ j =>
              obtain ⟨z, hz⟩ : ∃ z, s[j]? = some z := ⟨_, List.getElem?_eq_getElem (by rw [Hm.out]; omega)⟩
              obtain ⟨b', off', e', hb', ⟨z0, z1, z2, z3, z4⟩⟩ := Cells.at_ HS2.out hz
              cases e'
              have hneg := strict_at Hstr.out hz Hx.out
              have hcm := Lib.hid fun W => cmp_any z x W
              obtain ⟨c, hc⟩ : ∃ c, cmpC z x = c := ⟨_, rfl⟩
              rw [hc] at hcm hneg
              have hneg1 : decide (0 ≤ c) = false := by simp; omega
              clear hz hb' hc
              go_wp2
              refine wp_region_below (by kernel_rfl) (by kernel_rfl) (fun hkept => ?_)
              obtain ⟨r0, rf0⟩ := hkept (b) (by go_size); clear hkept
              repeat (any_goals (first | go_big_quiet_step (first | (go_at_call 19; exact Calls.regrown_of (hcm.out _))) | quiet_step (first | (go_at_call 19; exact Calls.regrown_of (hcm.out _))) | (refine wpQuiet_step (fun K hK => ?_); go_simp; split <;> (refine hK _ ?_; clear hK K))))
              all_goals (refine wpQuiet_nil ?_; intro w5 hb; obtain ⟨hB, hS, hk⟩ := after (B := wr.heap.size) (w := wr) (by go_grown) (by go_size) hb; obtain ⟨c0, f0, z0⟩ := hk (b) (by go_size); clear hk hb r0 rf0)
              go_wp2
              exact ⟨⟨j + 1 + 1, by omega, by go_num, hB1.trans (hB.mono hzq)⟩, by simp [intOf]; omega⟩
      · obtain rfl : i = m := by omega
        obtain ⟨wo, rfl⟩ : ∃ wo : World, wo = wr := ⟨_, rfl⟩
        go_wp2
        go_loopw [7] (fun i wr => ∃ k : Nat, k ≤ n0 ∧ i = .int .i64 k ∧ Below w2.heap.size w2 wr) (fun i _ => n0 - (intOf i).toNat)
        case atStart => exact ⟨0, by omega, rfl, hB0⟩
        case round =>
          obtain ⟨k, hk, rfl, hB1⟩ := hrel
          have hzq := hB1.size
          by_cases hlt2 : k < n0
          · obtain ⟨y, hy⟩ : ∃ y, cs[k]? = some y := ⟨_, List.getElem?_eq_getElem (by rw [Hl.out]; omega)⟩
            obtain ⟨b2, off2, e0, hb2, ⟨y0, y1, y2, y3, y4⟩⟩ := Cells.at_ HL2.out hy
            subst e0
            obtain ⟨k2, k2f⟩ := keep_below hB1 b2 hb2
            have Hyin : Hid (∃ z ∈ s, cmpC y z = 0) := Lib.hid (Hhas.out y (List.mem_of_getElem? hy))
            clear hy
            obtain ⟨wp, rfl⟩ : ∃ wp : World, wp = wr := ⟨_, rfl⟩
            go_wp2
            go_loopw [8, 9] (fun t j wr => ∃ (k : Nat) (q : Bool), k ≤ i ∧ j = .int .i64 k ∧ t = .bool q ∧ Hid (Seen q (fun z => cmpC y z = 0) (s.take k)) ∧ Below w2.heap.size w2 wr) (fun _ j _ => i - (intOf j).toNat)
            case atStart => exact ⟨0, false, by omega, rfl, rfl, Lib.hid (seen_zero _), hB1⟩
            case round =>
              obtain ⟨p, q, hp, rfl, rfl, hQ, hB2⟩ := hrel
              have hzp := hB2.size
              obtain ⟨k3, k3f⟩ := keep_below hB2 b2 hb2
              by_cases hlt3 : p < i
              · cases q
                · obtain ⟨z, hz⟩ : ∃ z, s[p]? = some z := ⟨_, List.getElem?_eq_getElem (by rw [Hm.out]; omega)⟩
                  obtain ⟨b', off', e', hb', ⟨z0, z1, z2, z3, z4⟩⟩ := Cells.at_ HS2.out hz
                  subst e'
                  obtain ⟨k4, k4f⟩ := keep_below hB2 b' hb'
                  have hcm := Lib.hid fun W => cmp_any y z W
                  have hno := Lib.hid (fun hp => seen_no hQ.out hz hp)
                  have hyes := Lib.hid (fun hp => seen_new (P := fun z => cmpC y z = 0) hz hp)
                  obtain ⟨c, hc⟩ : ∃ c, cmpC y z = c := ⟨_, rfl⟩
                  rw [hc] at hcm hno hyes
                  clear hz hc
                  by_cases hc0 : c = 0
                  · have hnx := Lib.hid (hyes.out hc0)
                    subst hc0
                    clear hno hyes
                    go_wp2
                    refine wp_region_below (by kernel_rfl) (by kernel_rfl) (fun hkept => ?_)
                    obtain ⟨r0, rf0⟩ := hkept (b2) (by go_size); obtain ⟨r1, rf1⟩ := hkept (b') (by go_size); clear hkept
                    repeat (any_goals (first | go_big_quiet_step (first | (go_at_call 19; exact Calls.regrown_of (hcm.out _))) | quiet_step (first | (go_at_call 19; exact Calls.regrown_of (hcm.out _))) | (refine wpQuiet_step (fun K hK => ?_); go_simp; split <;> (refine hK _ ?_; clear hK K))))
                    all_goals (refine wpQuiet_nil ?_; intro w5 hb; obtain ⟨hB, hS, hk⟩ := after (B := wr.heap.size) (w := wr) (by go_grown) (by go_size) hb; obtain ⟨c0, f0, z0⟩ := hk (b2) (by go_size); obtain ⟨c1, f1, z1⟩ := hk (b') (by go_size); clear hk hb r0 rf0 r1 rf1)
                    go_wp2
                    exact ⟨⟨p + 1, true, by omega, by go_num, rfl, hnx, hB2.trans (hB.mono hzp)⟩, by simp [intOf]; omega⟩
                  · have hnx := Lib.hid (hno.out hc0)
                    have hc1 : (c == 0) = false := by simpa using hc0
                    clear hno hyes
                    go_wp2
                    refine wp_region_below (by kernel_rfl) (by kernel_rfl) (fun hkept => ?_)
                    obtain ⟨r0, rf0⟩ := hkept (b2) (by go_size); obtain ⟨r1, rf1⟩ := hkept (b') (by go_size); clear hkept
                    repeat (any_goals (first | go_big_quiet_step (first | (go_at_call 19; exact Calls.regrown_of (hcm.out _))) | quiet_step (first | (go_at_call 19; exact Calls.regrown_of (hcm.out _))) | (refine wpQuiet_step (fun K hK => ?_); go_simp; split <;> (refine hK _ ?_; clear hK K))))
                    all_goals (refine wpQuiet_nil ?_; intro w5 hb; obtain ⟨hB, hS, hk⟩ := after (B := wr.heap.size) (w := wr) (by go_grown) (by go_size) hb; obtain ⟨c0, f0, z0⟩ := hk (b2) (by go_size); obtain ⟨c1, f1, z1⟩ := hk (b') (by go_size); clear hk hb r0 rf0 r1 rf1)
                    go_wp2
                    exact ⟨⟨p + 1, false, by omega, by go_num, rfl, hnx, hB2.trans (hB.mono hzp)⟩, by simp [intOf]; omega⟩
                · go_wp2
                  refine wp_region_below (by kernel_rfl) (by kernel_rfl) (fun hkept => ?_)
                  clear hkept
                  repeat (any_goals (first | go_big_quiet_step (fail) | quiet_step (fail) | (refine wpQuiet_step (fun K hK => ?_); go_simp; split <;> (refine hK _ ?_; clear hK K))))
                  all_goals (refine wpQuiet_nil ?_; intro w5 hb; obtain ⟨hB, hS, hk⟩ := after (B := wr.heap.size) (w := wr) (by go_grown) (by go_size) hb; clear hk hb)
                  go_wp2
                  exact ⟨⟨p + 1, true, by omega, by go_num, rfl, Lib.hid (seen_yes hQ.out), hB2.trans (hB.mono hzp)⟩, by simp [intOf]; omega⟩
              · obtain rfl : p = i := by omega
                obtain rfl : q = true := seen_all hQ.out (by rw [Hm.out]; exact Nat.le_refl _) Hyin.out
                go_wp2
                exact ⟨⟨k + 1, by omega, by go_num, hB2⟩, by simp [intOf]; omega⟩
          · have HSr := Lib.hid (Cells.below HS2.out hB1)
            have HBr := Lib.hid (HB2.out.trans (hB1.mono hz2))
            have hzw := HBr.out.size
            go_wp2_with (first
              | (go_at_call 18; refine (K2.out _ _ _ HSr.out).mono ?_; rintro e w8 ⟨v, rfl, hO, hb⟩; obtain ⟨ao8, cap8, rfl, hc⟩ := hO.cells_n Hm.out; have HR8 := Lib.hid hc; have HB8 := Lib.hid hb; clear hO hc hb)
              | (go_at_call 20; refine (S.out _ s _ _ _ _ _ _ HR8.out (Cells.below HSr.out HB8.out)).mono ?_; rintro e w9 ⟨rfl, hb⟩; have HB9 := Lib.hid (HB8.out.trans (hb.mono HB8.out.size)); clear hb))
            go_returns
            exact ⟨rfl, HBr.out.trans (HB9.out.mono hzw)⟩
end Go.Proofs.Ytjalccnkfpjchaa
