/-
  The walk of acreagelaw04.CellsParted.
-/
import Derived.Test.YtjalccnkfpjchaaWithinW
namespace Go.Proofs.Ytjalccnkfpjchaa
open Go.RowKit

theorem nil_toList : (⟨#[]⟩ : ByteArray).toList = [] := by simp [Lib.toList_data]
theorem lt_nil_no (l : List UInt8) : ¬ l < [] := by intro h; cases h
theorem out_left (key : List UInt8) (hk : key ≠ []) (c : CellA) : outC [] key c = decide (¬ c.row.toList < key) := by
  cases key with
  | nil => exact absurd rfl hk
  | cons a l => simp [outC, lt_nil_no]
theorem out_right (key : List UInt8) (c : CellA) : outC key [] c = decide (c.row.toList < key) := by
  simp [outC]
theorem filtL_none (cs : List CellA) : filtL (outC [] []) cs = cs := by
  refine filtL_all ?_
  rw [List.any_eq_false]
  intro c _
  simp [outC, lt_nil_no]
/-- the one that is kept stands where the kept ones ahead of it end -/
theorem filtL_at {p : CellA → Bool} {l : List CellA} {k : Nat} {x : CellA} (h : l[k]? = some x) (hp : p x = false) : (filtL p l)[(filtL p (l.take k)).length]? = some x := by
  have e : filtL p l = filtL p (l.take k) ++ x :: filtL p (l.drop (k + 1)) := by
    obtain ⟨hk, hx⟩ := List.getElem?_eq_some_iff.1 h
    have hd : l = l.take k ++ (x :: l.drop (k + 1)) := by
      rw [← hx, List.getElem_cons_drop, List.take_append_drop]
    have h2 : filtL p l = filtL p (l.take k ++ (x :: l.drop (k + 1))) := congrArg _ hd
    rw [h2, filtL, List.filter_append, List.filter_cons, if_pos (by simp [hp])]
    rfl
  rw [e, List.getElem?_append_right (Nat.le_refl _)]
  simp

set_option maxRecDepth 100000 in
set_option maxHeartbeats 2000000 in
theorem parted_none (ao : Option Addr) (n cap : Nat) (cs : List CellA) (w : World) (h : Cells w ao n cap cs) (hok : ∀ c ∈ cs, c.Ok) (hn : n * 64 ≤ 140737488355328) :
    Calls Try.prog 8 #[.slice ao n cap, .string ⟨#[]⟩] w fun e w' => e = .returned (.bool true) ∧ Below w.heap.size w w' := by
  have Hl := Lib.hid h.len
  have H := Lib.hid h
  have K1 := Lib.hid fun W hb => within_any ao n cap cs ⟨#[]⟩ ⟨#[]⟩ W (Arr.below h hb) hok hn
  simp only [nil_toList, filtL_none] at K1
  have K3 := Lib.hid fun W ao ao2 n cap n2 cap2 (h : Cells W ao n cap cs) (h2 : Cells W ao2 n2 cap2 cs) => same_w ao ao2 n cap n2 cap2 cs W h h2
  clear h hok hn
  go_enter Try.func8, Try.ntmps8
  go_wp2_with (first
    | (go_at_call 17; refine (works_any _).mono ?_; rintro e w1 ⟨rfl, hb⟩; obtain ⟨hB, hS, hk⟩ := after (B := w.heap.size) (w := w) (by go_grown) (by go_size) hb; clear hb; clear hk)
    | (go_at_call 27; refine (K1.out _ hB).mono ?_; rintro e w2 ⟨v, rfl, hO, hb⟩; have hB2 := hB.trans (hb.mono hS); have hS2 := hB2.size; obtain ⟨ao2, cap2, rfl, hc⟩ := hO.cells_n Hl.out; have HO2 := Lib.hid hc; clear hO hc hb)
    | (go_at_call 20; refine (K3.out _ _ _ _ _ _ _ HO2.out (Arr.below H.out hB2)).mono ?_; rintro e w3 ⟨rfl, hb⟩; obtain ⟨hB, hS, hk⟩ := after (B := w.heap.size) (w := w) (by go_grown) (by go_size) hb; clear hb; clear hk))
  go_returns
  exact ⟨rfl, hB⟩

set_option maxRecDepth 100000 in
set_option maxHeartbeats 4000000 in
theorem parted_some (ao : Option Addr) (n cap : Nat) (cs : List CellA) (key : ByteArray) (hk : key.toList ≠ []) (w : World) (h : Cells w ao n cap cs) (hok : ∀ c ∈ cs, c.Ok) (hn : n * 64 ≤ 140737488355328) :
    Calls Try.prog 8 #[.slice ao n cap, .string key] w fun e w' => e = .returned (.bool true) ∧ Below w.heap.size w w' := by
  have hc2 : n ≤ 2199023255552 := by omega
  have Hl := Lib.hid h.len
  have H := Lib.hid h
  have hke : key.toList.isEmpty = false := by simpa using hk
  have K1 := Lib.hid fun W hb => within_any ao n cap cs ⟨#[]⟩ key W (Arr.below h hb) hok hn
  have K2 := Lib.hid fun W hb => within_any ao n cap cs key ⟨#[]⟩ W (Arr.below h hb) hok hn
  simp only [nil_toList] at K1 K2
  obtain ⟨pl, hpl⟩ : ∃ p, p = outC [] key.toList := ⟨_, rfl⟩
  obtain ⟨pr, hpr⟩ : ∃ p, p = outC key.toList [] := ⟨_, rfl⟩
  rw [← hpl] at K1
  rw [← hpr] at K2
  have Hpl : Hid (∀ c, pl c = decide (¬ c.row.toList < key.toList)) := Lib.hid fun c => by rw [hpl, out_left _ hk]
  have Hpr : Hid (∀ c, pr c = decide (c.row.toList < key.toList)) := Lib.hid fun c => by rw [hpr, out_right]
  clear hpl hpr
  obtain ⟨a, ha⟩ : ∃ a, a = (filtL pl cs).length := ⟨_, rfl⟩
  obtain ⟨b, hb⟩ : ∃ b, b = (filtL pr cs).length := ⟨_, rfl⟩
  have hal : a ≤ n := by have := filtL_len pl cs; rw [Hl.out] at this; omega
  have hbl : b ≤ n := by have := filtL_len pr cs; rw [Hl.out] at this; omega
  have Ha := Lib.hid ha.symm
  have Hb := Lib.hid hb.symm
  clear h hok hn ha hb hk
  go_enter Try.func8, Try.ntmps8
  go_wp2_with (first
    | (go_at_call 17; refine (works_any _).mono ?_; rintro e w1 ⟨rfl, hb⟩; obtain ⟨hB, hS, hk⟩ := after (B := w.heap.size) (w := w) (by go_grown) (by go_size) hb; clear hb; clear hk)
    | (go_at_call 27; (with_reducible refine (K1.out _ (by go_grown)).mono ?_); rintro e w2 ⟨v, rfl, hO, hb⟩; obtain ⟨hB, hS, hk⟩ := after (B := w.heap.size) (w := w) (by go_grown) (by go_size) hb; obtain ⟨ao2, cap2, rfl, hc⟩ := hO.cells_n Ha.out; have HO2 := Lib.hid hc; clear hO hc hb hk)
    | (go_at_call 27; (with_reducible refine (K2.out _ (by go_grown)).mono ?_); rintro e w3 ⟨v, rfl, hO, hb⟩; obtain ⟨hB, hS, hk⟩ := after (B := w.heap.size) (w := w) (by go_grown) (by go_size) hb; obtain ⟨ao3, cap3, rfl, hc⟩ := hO.cells_n Hb.out; have HO3 := Lib.hid hc; have HL2 := Lib.hid (Arr.below HO2.out hb); have hB3 := hB; clear hO hc hb hk))
  have hz3 := hB3.size
  go_loopw [7, 8, 9] (fun i k j wr => ∃ q : Nat, q ≤ n ∧ j = .int .i64 q ∧ i = .int .i64 (filtL pl (cs.take q)).length ∧ k = .int .i64 (filtL pr (cs.take q)).length ∧ Below w3.heap.size w3 wr) (fun _ _ j _ => n - (intOf j).toNat)
  case atStart => exact ⟨0, by omega, rfl, rfl, rfl, Below.refl _ _⟩
  case round =>
    obtain ⟨q, hq, rfl, rfl, rfl, hB0⟩ := hrel
    have hzr := hB0.size
    by_cases hlt : q < n
    · obtain ⟨x, hx⟩ : ∃ x, cs[q]? = some x := ⟨_, List.getElem?_eq_getElem (by rw [Hl.out]; omega)⟩
      obtain ⟨b1, off, rfl, hb1, ⟨x0, x1, x2, x3, x4⟩⟩ := Cells.at_ (Arr.below H.out hB3) hx
      obtain ⟨k0, k0f⟩ := keep_below hB0 b1 hb1
      have hst1 := Lib.hid (filtL_succ (p := pl) hx)
      have hst2 := Lib.hid (filtL_succ (p := pr) hx)
      have hAt1 := Lib.hid fun h => filtL_at (p := pl) hx h
      have hAt2 := Lib.hid fun h => filtL_at (p := pr) hx h
      obtain ⟨i1, hi1⟩ : ∃ i, i = (filtL pl (cs.take q)).length := ⟨_, rfl⟩
      obtain ⟨i2, hi2⟩ : ∃ i, i = (filtL pr (cs.take q)).length := ⟨_, rfl⟩
      rw [← hi1] at hAt1 ⊢
      rw [← hi2] at hAt2 ⊢
      have Hi1 := Lib.hid hi1
      have Hi2 := Lib.hid hi2
      have hqn : i1 ≤ n ∧ i2 ≤ n := by
        have h1 := filtL_len pl (cs.take q)
        have h2 := filtL_len pr (cs.take q)
        rw [List.length_take] at h1 h2
        omega
      obtain ⟨hqn1, hqn2⟩ := hqn
      clear hx hi1 hi2
      by_cases g : x.row.toList < key.toList
      · have k1 : Op.bytesLess x.row.toList key.toList = true := by rw [less_eq]; simpa using g
        have p1 : pl x = false := by rw [Hpl.out]; simpa using g
        have p2 : pr x = true := by rw [Hpr.out]; simpa using g
        have hx1 := hAt1.out p1
        have hia : i1 < a := by rw [← Ha.out]; exact (List.getElem?_eq_some_iff.1 hx1).1
        obtain ⟨b2, off2, rfl, hb2, ⟨y0, y1, y2, y3, y4⟩⟩ := Cells.at_ HL2.out hx1
        obtain ⟨k2, k2f⟩ := keep_below hB0 b2 hb2
        have Hn1 : Hid ((filtL pl (cs.take (q + 1))).length = i1 + 1) := Lib.hid (by rw [hst1.out, p1, Hi1.out]; simp)
        have Hn2 : Hid ((filtL pr (cs.take (q + 1))).length = i2) := Lib.hid (by rw [hst2.out, p2, Hi2.out]; simp)
        clear g hx1 p1 p2
        go_wp2
        refine wp_region_below (by kernel_rfl) (by kernel_rfl) (fun hkept => ?_)
        obtain ⟨r0, rf0⟩ := hkept (b1) (by go_size); obtain ⟨r1, rf1⟩ := hkept (b2) (by go_size); clear hkept
        repeat (any_goals (first | go_big_quiet_step (fail) | quiet_step (fail) | (refine wpQuiet_step (fun K hK => ?_); go_simp; split <;> (refine hK _ ?_; clear hK K))))
        all_goals (refine wpQuiet_nil ?_; intro w5 hb; obtain ⟨hB, hS, hk⟩ := after (B := wr.heap.size) (w := wr) (by go_grown) (by go_size) hb; obtain ⟨c0, f0, z0⟩ := hk (b1) (by go_size); obtain ⟨c1, f1, z1⟩ := hk (b2) (by go_size); clear hk hb r0 rf0 r1 rf1)
        go_wp2
        exact ⟨⟨q + 1, by omega, by go_num, by rw [Hn1.out]; go_num, by rw [Hn2.out], hB0.trans (hB.mono hzr)⟩, by simp [intOf]; omega⟩
      · have k1 : Op.bytesLess x.row.toList key.toList = false := by rw [less_eq]; simpa using g
        have p1 : pl x = true := by rw [Hpl.out]; simpa using g
        have p2 : pr x = false := by rw [Hpr.out]; simpa using g
        have hx1 := hAt2.out p2
        have hia : i2 < b := by rw [← Hb.out]; exact (List.getElem?_eq_some_iff.1 hx1).1
        obtain ⟨b2, off2, rfl, hb2, ⟨y0, y1, y2, y3, y4⟩⟩ := Cells.at_ HO3.out hx1
        obtain ⟨k2, k2f⟩ := keep_below hB0 b2 hb2
        have Hn1 : Hid ((filtL pl (cs.take (q + 1))).length = i1) := Lib.hid (by rw [hst1.out, p1, Hi1.out]; simp)
        have Hn2 : Hid ((filtL pr (cs.take (q + 1))).length = i2 + 1) := Lib.hid (by rw [hst2.out, p2, Hi2.out]; simp)
        clear g hx1 p1 p2
        go_wp2
        refine wp_region_below (by kernel_rfl) (by kernel_rfl) (fun hkept => ?_)
        obtain ⟨r0, rf0⟩ := hkept (b1) (by go_size); obtain ⟨r1, rf1⟩ := hkept (b2) (by go_size); clear hkept
        repeat (any_goals (first | go_big_quiet_step (fail) | quiet_step (fail) | (refine wpQuiet_step (fun K hK => ?_); go_simp; split <;> (refine hK _ ?_; clear hK K))))
        all_goals (refine wpQuiet_nil ?_; intro w5 hb; obtain ⟨hB, hS, hk⟩ := after (B := wr.heap.size) (w := wr) (by go_grown) (by go_size) hb; obtain ⟨c0, f0, z0⟩ := hk (b1) (by go_size); obtain ⟨c1, f1, z1⟩ := hk (b2) (by go_size); clear hk hb r0 rf0 r1 rf1)
        go_wp2
        exact ⟨⟨q + 1, by omega, by go_num, by rw [Hn1.out], by rw [Hn2.out]; go_num, hB0.trans (hB.mono hzr)⟩, by simp [intOf]; omega⟩
    · have hall : cs.take q = cs := List.take_of_length_le (by rw [Hl.out]; omega)
      rw [hall, Ha.out, Hb.out]
      clear hall
      go_wp2
      go_returns
      exact ⟨rfl, hB3.trans (hB0.mono hz3)⟩
end Go.Proofs.Ytjalccnkfpjchaa
