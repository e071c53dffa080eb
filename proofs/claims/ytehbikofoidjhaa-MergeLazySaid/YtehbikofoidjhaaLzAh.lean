/-
  How many first cells of a list were told: the walk of acreagelaw12.ahead.
-/
import Derived.Test.YtehbikofoidjhaaLzCW
import Derived.Test.YtehbikofoidjhaaLits
import Derived.Test.YtehbikofoidjhaaSymPlain
namespace Go.Proofs.Ytehbikofoidjhaa.Lz
open Go.RowKit

/-- is t the cell c, as it stands there or otherwise? -/
def oneT (c t : CellA) : Bool := decide (c.row.toList = t.row.toList) && decide (c.col.toList = t.col.toList) && decide (c.ver = t.ver)
theorem oneT_zero {c t : CellA} (h : cmpC c t = 0) : oneT c t = true := by
  rw [cmp_zero] at h
  simp [oneT, h.1, h.2.1, h.2.2]
def aheadL (ts xs : List CellA) : Nat := (xs.takeWhile fun c => ts.any (oneT c)).length
theorem ahead_stop {ts : List CellA} : ∀ {xs : List CellA} {k : Nat} {x : CellA}, (∀ c ∈ xs.take k, ts.any (oneT c) = true) → xs[k]? = some x → ts.any (oneT x) = false → aheadL ts xs = k
  | [], k, x, _, h, _ => by simp at h
  | y :: r, 0, x, _, h, hx => by
    simp at h; subst h
    simp [aheadL, List.takeWhile_cons, hx]
  | y :: r, k + 1, x, ha, h, hx => by
    have hy := ha y (by simp)
    have ih := ahead_stop (xs := r) (k := k) (x := x) (fun c hc => ha c (by simp [hc])) (by simpa using h) hx
    unfold aheadL at *
    rw [List.takeWhile_cons, hy]
    simp [ih]
theorem takeWhile_all {p : CellA → Bool} : ∀ {l : List CellA}, (∀ c ∈ l, p c = true) → l.takeWhile p = l
  | [], _ => rfl
  | a :: r, h => by rw [List.takeWhile_cons, if_pos (h a (by simp)), takeWhile_all (fun c hc => h c (by simp [hc]))]
theorem ahead_all {ts xs : List CellA} (h : ∀ c ∈ xs, ts.any (oneT c) = true) : aheadL ts xs = xs.length := by
  unfold aheadL
  rw [takeWhile_all h]
theorem ahead_le (ts xs : List CellA) : aheadL ts xs ≤ xs.length := by
  have := (List.takeWhile_sublist (l := xs) (fun c => ts.any (oneT c))).length_le
  exact this
theorem ahead_pre {ts pre r : List CellA} (h : ∀ c ∈ pre, ToldBy ts c) : pre.length ≤ aheadL ts (pre ++ r) := by
  have h2 : ∀ c ∈ pre, ts.any (oneT c) = true := fun c hc => by
    obtain ⟨t, ht, h0⟩ := h c hc
    exact List.any_eq_true.2 ⟨t, ht, oneT_zero h0⟩
  unfold aheadL
  rw [List.takeWhile_append_of_pos (fun c hc => h2 c hc), List.length_append]
  omega

set_option maxRecDepth 100000 in
set_option maxHeartbeats 4000000 in
theorem ahead_any (xa ta : Option Addr) (xn xc tn tc : Nat) (xs ts : List CellA) (w : World) (hx : Cells w xa xn xc xs) (ht : Cells w ta tn tc ts) :
    Calls Try.prog 27 #[.slice xa xn xc, .slice ta tn tc] w fun e w' => e = .returned (.int .i64 (aheadL ts xs : Nat)) ∧ Below w.heap.size w w' := by
  obtain ⟨R, hR⟩ : ∃ R, R = aheadL ts xs := ⟨_, rfl⟩
  rw [← hR]
  have HR := Lib.hid hR
  have HX := Lib.hid hx
  have HT := Lib.hid ht
  have hx1 := Arr.fits hx
  have hx2 := Arr.max hx
  have ht1 := Arr.fits ht
  have ht2 := Arr.max ht
  unfold maxLen at hx2 ht2
  have Hxl := Lib.hid hx.len
  have Htl := Lib.hid ht.len
  clear hR hx ht
  go_enter Try.func27, Try.ntmps27
  go_wp2
  go_loopw [5] (fun i wr => ∃ k : Nat, k ≤ xn ∧ i = .int .i64 k ∧ Hid (∀ c ∈ xs.take k, ts.any (oneT c) = true) ∧ Hid (Below w.heap.size w wr)) (fun i _ => xn - (intOf i).toNat)
  case atStart => exact ⟨0, by omega, rfl, Lib.hid (fun c hc => by simp at hc), Lib.hid (Below.refl _ _)⟩
  case round =>
    obtain ⟨k, hk, rfl, hA, hB0⟩ := hrel
    have hzr := hB0.out.size
    by_cases hlt : k < xn
    · obtain ⟨x, hx⟩ : ∃ x, xs[k]? = some x := ⟨_, List.getElem?_eq_getElem (by rw [Hxl.out]; exact hlt)⟩
      obtain ⟨b, off, rfl, hb, ⟨x0, x1, x2, x3, x4⟩⟩ := Cells.at_ HX.out hx
      have hkd : decide ((k : Int) < (xn : Int)) = true := decide_eq_true (by omega)
      have Hx := Lib.hid hx
      clear hx x3 x4
      obtain ⟨W1, rfl⟩ : ∃ W : World, W = wr := ⟨_, rfl⟩
      go_wp2
      go_loopw [6, 7] (fun t i wr => ∃ m : Nat, m ≤ tn ∧ i = .int .i64 m ∧ t = .bool ((ts.take m).any (oneT x)) ∧ Hid (Below w.heap.size w wr)) (fun _ i _ => tn - (intOf i).toNat)
      case atStart => exact ⟨0, by omega, rfl, rfl, hB0⟩
      case round =>
        obtain ⟨m, hm, rfl, rfl, hB1⟩ := hrel
        have hzq := hB1.out.size
        by_cases hlt2 : m < tn
        · obtain ⟨t, ht⟩ : ∃ t, ts[m]? = some t := ⟨_, List.getElem?_eq_getElem (by rw [Htl.out]; exact hlt2)⟩
          obtain ⟨b2, off2, rfl, hb2, ⟨t0, t1, t2, t3, t4⟩⟩ := Cells.at_ HT.out ht
          have hmd : decide ((m : Int) < (tn : Int)) = true := decide_eq_true (by omega)
          obtain ⟨k1, k1f⟩ := keep_below hB1.out b hb
          obtain ⟨k2, k2f⟩ := keep_below hB1.out b2 hb2
          have hbr : b < wr.heap.size := by omega
          have hb2r : b2 < wr.heap.size := by omega
          have Hst : Hid ((ts.take (m + 1)).any (oneT x) = ((ts.take m).any (oneT x) || oneT x t)) := Lib.hid (by rw [List.take_add_one, ht, List.any_append]; simp)
          clear ht t3 t4
          cases hin : (ts.take m).any (oneT x) with
          | true =>
            rw [hin] at Hst
            clear hin
            go_wp2
            refine wp_region_below (by kernel_rfl) (by kernel_rfl) (fun hkept => ?_)
            obtain ⟨r0, rf0⟩ := hkept (b) (by go_size); obtain ⟨r1, rf1⟩ := hkept (b2) (by go_size); clear hkept
            repeat (any_goals (first | go_big_quiet_step (fail) | quiet_step (fail) | (refine wpQuiet_step (fun K hK => ?_); go_simp; split <;> (refine hK _ ?_; clear hK K))))
            all_goals (refine wpQuiet_nil ?_; intro w5 hb; obtain ⟨hB, hS, hk⟩ := after (B := wr.heap.size) (w := wr) (by go_grown) (by go_size) hb; obtain ⟨c0, f0, z0⟩ := hk (b) (by go_size); obtain ⟨c1, f1, z1⟩ := hk (b2) (by go_size); clear hk hb r0 rf0 r1 rf1)
            go_wp2
            exact ⟨⟨m + 1, by omega, by go_num, by rw [Hst.out]; rfl, Lib.hid (hB1.out.trans (hB.mono hzq))⟩, by simp [intOf]; omega⟩
          | false =>
            rw [hin, Bool.false_or] at Hst
            clear hin
            obtain ⟨xr, xc', xv, xg, xl⟩ := x
            obtain ⟨tr, tc', tv, tg, tl⟩ := t
            simp only at x0 x1 x2 t0 t1 t2
            by_cases e1 : xr = tr
            · by_cases e2 : xc' = tc'
              · subst e1 e2
                by_cases e3 : xv = tv
                · subst e3
                  have Ho : Hid (oneT ⟨xr, xc', xv, xg, xl⟩ ⟨xr, xc', xv, tg, tl⟩ = true) := Lib.hid (by simp [oneT])
                  go_wp2
                  refine wp_region_below (by kernel_rfl) (by kernel_rfl) (fun hkept => ?_)
                  obtain ⟨r0, rf0⟩ := hkept (b) (by go_size); obtain ⟨r1, rf1⟩ := hkept (b2) (by go_size); clear hkept
                  repeat (any_goals (first | go_big_quiet_step (fail) | quiet_step (fail) | (refine wpQuiet_step (fun K hK => ?_); go_simp; split <;> (refine hK _ ?_; clear hK K))))
                  all_goals (refine wpQuiet_nil ?_; intro w5 hb; obtain ⟨hB, hS, hk⟩ := after (B := wr.heap.size) (w := wr) (by go_grown) (by go_size) hb; obtain ⟨c0, f0, z0⟩ := hk (b) (by go_size); obtain ⟨c1, f1, z1⟩ := hk (b2) (by go_size); clear hk hb r0 rf0 r1 rf1)
                  go_wp2
                  exact ⟨⟨m + 1, by omega, by go_num, by rw [Hst.out, Ho.out], Lib.hid (hB1.out.trans (hB.mono hzq))⟩, by simp [intOf]; omega⟩
                · have Ho : Hid (oneT ⟨xr, xc', xv, xg, xl⟩ ⟨xr, xc', tv, tg, tl⟩ = false) := Lib.hid (by simp [oneT, e3])
                  have n1 : (xv == tv) = false := by simpa using e3
                  have n2 : decide (xv = tv) = false := by simpa using e3
                  clear e3
                  go_wp2
                  refine wp_region_below (by kernel_rfl) (by kernel_rfl) (fun hkept => ?_)
                  obtain ⟨r0, rf0⟩ := hkept (b) (by go_size); obtain ⟨r1, rf1⟩ := hkept (b2) (by go_size); clear hkept
                  repeat (any_goals (first | go_big_quiet_step (fail) | quiet_step (fail) | (refine wpQuiet_step (fun K hK => ?_); go_simp; split <;> (refine hK _ ?_; clear hK K))))
                  all_goals (refine wpQuiet_nil ?_; intro w5 hb; obtain ⟨hB, hS, hk⟩ := after (B := wr.heap.size) (w := wr) (by go_grown) (by go_size) hb; obtain ⟨c0, f0, z0⟩ := hk (b) (by go_size); obtain ⟨c1, f1, z1⟩ := hk (b2) (by go_size); clear hk hb r0 rf0 r1 rf1)
                  go_wp2
                  exact ⟨⟨m + 1, by omega, by go_num, by rw [Hst.out, Ho.out], Lib.hid (hB1.out.trans (hB.mono hzq))⟩, by simp [intOf]; omega⟩
              · obtain ⟨n1, n2⟩ := ne_of e2
                have Ho : Hid (oneT ⟨xr, xc', xv, xg, xl⟩ ⟨tr, tc', tv, tg, tl⟩ = false) := Lib.hid (by simp [oneT, n2])
                subst e1
                clear e2
                go_wp2
                refine wp_region_below (by kernel_rfl) (by kernel_rfl) (fun hkept => ?_)
                obtain ⟨r0, rf0⟩ := hkept (b) (by go_size); obtain ⟨r1, rf1⟩ := hkept (b2) (by go_size); clear hkept
                repeat (any_goals (first | go_big_quiet_step (fail) | quiet_step (fail) | (refine wpQuiet_step (fun K hK => ?_); go_simp; split <;> (refine hK _ ?_; clear hK K))))
                all_goals (refine wpQuiet_nil ?_; intro w5 hb; obtain ⟨hB, hS, hk⟩ := after (B := wr.heap.size) (w := wr) (by go_grown) (by go_size) hb; obtain ⟨c0, f0, z0⟩ := hk (b) (by go_size); obtain ⟨c1, f1, z1⟩ := hk (b2) (by go_size); clear hk hb r0 rf0 r1 rf1)
                go_wp2
                exact ⟨⟨m + 1, by omega, by go_num, by rw [Hst.out, Ho.out], Lib.hid (hB1.out.trans (hB.mono hzq))⟩, by simp [intOf]; omega⟩
            · obtain ⟨n1, n2⟩ := ne_of e1
              have Ho : Hid (oneT ⟨xr, xc', xv, xg, xl⟩ ⟨tr, tc', tv, tg, tl⟩ = false) := Lib.hid (by simp [oneT, n2])
              clear e1
              go_wp2
              refine wp_region_below (by kernel_rfl) (by kernel_rfl) (fun hkept => ?_)
              obtain ⟨r0, rf0⟩ := hkept (b) (by go_size); obtain ⟨r1, rf1⟩ := hkept (b2) (by go_size); clear hkept
              repeat (any_goals (first | go_big_quiet_step (fail) | quiet_step (fail) | (refine wpQuiet_step (fun K hK => ?_); go_simp; split <;> (refine hK _ ?_; clear hK K))))
              all_goals (refine wpQuiet_nil ?_; intro w5 hb; obtain ⟨hB, hS, hk⟩ := after (B := wr.heap.size) (w := wr) (by go_grown) (by go_size) hb; obtain ⟨c0, f0, z0⟩ := hk (b) (by go_size); obtain ⟨c1, f1, z1⟩ := hk (b2) (by go_size); clear hk hb r0 rf0 r1 rf1)
              go_wp2
              exact ⟨⟨m + 1, by omega, by go_num, by rw [Hst.out, Ho.out], Lib.hid (hB1.out.trans (hB.mono hzq))⟩, by simp [intOf]; omega⟩
        · obtain rfl : m = tn := by omega
          have hall : ts.take m = ts := List.take_of_length_le (by rw [Htl.out]; exact Nat.le_refl _)
          rw [hall]
          clear hall
          cases hin : ts.any (oneT x) with
          | true =>
            have Hin := Lib.hid hin
            clear hin
            go_wp2
            exact ⟨⟨k + 1, by omega, by go_num, Lib.hid (fun c hc => by
              rw [List.take_add_one, Hx.out] at hc
              rcases List.mem_append.1 hc with hc | hc
              · exact hA.out c hc
              · simp at hc; subst hc; exact Hin.out), hB1⟩, by simp [intOf]; omega⟩
          | false =>
            have HRk : Hid (R = k) := Lib.hid (by rw [HR.out]; exact ahead_stop hA.out Hx.out hin)
            clear hin
            go_wp2
            go_returns
            exact ⟨by rw [HRk.out]; rfl, hB1.out⟩
    · obtain rfl : k = xn := by omega
      have HRk : Hid (R = k) := Lib.hid (by
        rw [HR.out, ahead_all (fun c hc => hA.out c (by rw [List.take_of_length_le (by rw [Hxl.out]; exact Nat.le_refl _)]; exact hc))]
        exact Hxl.out)
      go_wp2
      go_returns
      exact ⟨by rw [HRk.out]; rfl, hB0.out⟩
end Go.Proofs.Ytehbikofoidjhaa.Lz
