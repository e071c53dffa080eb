/-
  block.lay; the document's one.
-/
import Derived.Test.YtfkghpomcaonfaaBlkW
namespace Go.Proofs.Ytfkghpomcaonfaa
open Go.RowKit

/-- a cell of short texts -/
structure SmallC (c : CellA) : Prop where
  row : c.row.size ≤ 1000000
  col : c.col.size ≤ 1000000
  val : c.val.size ≤ 1000000
  u : U64 c.ver
structure LaidB (a : ByteArray) (c : CellA) (n : Nat) (q s1 s2 s3 s4 s5 s6 : ByteArray) : Prop where
  cut : q = c.row.extract n c.row.size
  nle : n ≤ c.row.size
  ka : ∀ W, Calls Try.prog 55 #[.string a, .string c.row] W fun e w' => e = .returned (.int .i64 n) ∧ Below W.heap.size W w'
  k1 : ∀ W, Calls Try.prog 57 #[.string ⟨#[]⟩, .int .u64 n] W fun e w' => e = .returned (.string s1) ∧ Below W.heap.size W w'
  k2 : ∀ W, Calls Try.prog 56 #[.string s1, .string q] W fun e w' => e = .returned (.string s2) ∧ Below W.heap.size W w'
  k3 : ∀ W, Calls Try.prog 56 #[.string s2, .string c.col] W fun e w' => e = .returned (.string s3) ∧ Below W.heap.size W w'
  k4 : ∀ W, Calls Try.prog 57 #[.string s3, .int .u64 c.ver] W fun e w' => e = .returned (.string s4) ∧ Below W.heap.size W w'
  k5 : ∀ W, Calls Try.prog 58 #[.string s4, .int .u8 (if c.gone then 1 else 0)] W fun e w' => e = .returned (.string s5) ∧ Below W.heap.size W w'
  k6 : ∀ W, Calls Try.prog 56 #[.string s5, .string c.val] W fun e w' => e = .returned (.string s6) ∧ Below W.heap.size W w'
  ra : ∀ W, Calls Try.prog 61 #[.string a, .string c.row] W fun e w' => e = .returned (.int .i64 n) ∧ Below W.heap.size W w'
  r1 : ∀ W, Calls Try.prog 62 #[.string ⟨#[]⟩, .int .u64 n] W fun e w' => e = .returned (.string s1) ∧ Below W.heap.size W w'
  r2 : ∀ W, Calls Try.prog 63 #[.string s1, .string q] W fun e w' => e = .returned (.string s2) ∧ Below W.heap.size W w'
  r3 : ∀ W, Calls Try.prog 63 #[.string s2, .string c.col] W fun e w' => e = .returned (.string s3) ∧ Below W.heap.size W w'
  r4 : ∀ W, Calls Try.prog 62 #[.string s3, .int .u64 c.ver] W fun e w' => e = .returned (.string s4) ∧ Below W.heap.size W w'
  e5 : s4 ++ (⟨#[if c.gone then 1 else 0]⟩ : ByteArray) = s5
  r6 : ∀ W, Calls Try.prog 63 #[.string s5, .string c.val] W fun e w' => e = .returned (.string s6) ∧ Below W.heap.size W w'
  s5le : s5.size ≤ 4000000
  val : s6.toList = layL a.toList c
  big : (layL a.toList c).length ≤ 4000000
theorem txtL_len {l : List UInt8} (h : l.length ≤ 1000000) : (txtL l).length ≤ 1000010 := by
  have := numL_ten (v := l.length) (by omega)
  rw [txtL, List.length_append]; omega
theorem layL_big {a : List UInt8} {c : CellA} (h : SmallC c) : (layL a c).length ≤ 4000000 := by
  have hr := h.row; have hc := h.col; have hv := h.val
  rw [← size_list] at hr hc hv
  have hle := (alikeL_le a c.row.toList).2
  have n0 := numL_ten (v := alikeL a c.row.toList) (by omega)
  have n1 := txtL_len (l := c.row.toList.drop (alikeL a c.row.toList)) (by rw [List.length_drop]; omega)
  have n2 := txtL_len hc
  have n3 := txtL_len hv
  have n4 := numW_len c.ver h.u
  simp only [layL, List.length_append, List.length_cons, List.length_nil]
  omega
theorem laidB (a : ByteArray) (c : CellA) (ha : a.size ≤ maxLen) (h : SmallC c) : ∃ n q s1 s2 s3 s4 s5 s6, LaidB a c n q s1 s2 s3 s4 s5 s6 := by
  have hr := h.row; have hc := h.col; have hv := h.val; have hu := h.u
  have hle : alikeL a.toList c.row.toList ≤ c.row.size := by have := (alikeL_le a.toList c.row.toList).2; rwa [size_list] at this
  have hm : c.row.size ≤ maxLen := by unfold maxLen; omega
  obtain ⟨n, hn⟩ : ∃ n, n = alikeL a.toList c.row.toList := ⟨_, rfl⟩
  rw [← hn] at hle
  have hq : (c.row.extract n c.row.size).toList = c.row.toList.drop n := by
    rw [toList_extract, ← size_list, List.take_length]
  have hqs : (c.row.extract n c.row.size).size ≤ 1000000 := by rw [← size_list, hq, List.length_drop, size_list]; omega
  have hun : U64 (n : Int) := ⟨by omega, by omega⟩
  have l1 := numW_len (n : Int) hun
  have l4 := numW_len c.ver hu
  have t1 := txtL_len (l := (c.row.extract n c.row.size).toList) (by rw [size_list]; exact hqs)
  have t2 := txtL_len (l := c.col.toList) (by rw [size_list]; exact hc)
  refine ⟨n, c.row.extract n c.row.size, ofL (numW n), ofL (numW n ++ txtL (c.row.extract n c.row.size).toList), ofL (numW n ++ txtL (c.row.extract n c.row.size).toList ++ txtL c.col.toList), ofL (numW n ++ txtL (c.row.extract n c.row.size).toList ++ txtL c.col.toList ++ numW c.ver),
    ofL (numW n ++ txtL (c.row.extract n c.row.size).toList ++ txtL c.col.toList ++ numW c.ver ++ [if c.gone then 1 else 0]), ofL (numW n ++ txtL (c.row.extract n c.row.size).toList ++ txtL c.col.toList ++ numW c.ver ++ [if c.gone then 1 else 0] ++ txtL c.val.toList), ?_⟩
  refine ⟨rfl, hle, fun W => by rw [hn]; exact alike_any a c.row W ha hm, fun W => ?_, fun W => ptL _ _ W ?_ (by omega), fun W => ptL _ _ W ?_ (by omega), fun W => pnL _ _ W ?_ hu, fun W => ?_, fun W => ptL _ _ W ?_ (by omega),
    fun W => by rw [hn]; exact ralike_any a c.row W ha hm, fun W => ?_, fun W => rptL _ _ W ?_ (by omega), fun W => rptL _ _ W ?_ (by omega), fun W => rpnL _ _ W ?_ hu, ?_, fun W => rptL _ _ W ?_ (by omega), ?_, ?_, layL_big h⟩
  all_goals try (first | omega | (simp only [List.length_append, List.length_nil, List.length_singleton]; omega))
  · have := pnL [] n W (by simp) hun
    exact this
  · have := pbL (numW n ++ txtL (c.row.extract n c.row.size).toList ++ txtL c.col.toList ++ numW c.ver) (if c.gone then 1 else 0) W (by simp only [List.length_append]; omega) (by split <;> omega) (by split <;> omega)
    refine this.mono ?_
    rintro e w' ⟨rfl, hb⟩
    refine ⟨?_, hb⟩
    cases c.gone <;> rfl
  · have := rpnL [] n W (by simp) hun
    exact this
  · rw [append_ofL, ofL_toList, show (⟨#[if c.gone then 1 else 0]⟩ : ByteArray).toList = [if c.gone then 1 else 0] from Lib.toList_data _]
  · rw [ofL_size]; simp only [List.length_append, List.length_singleton]; omega
  · rw [ofL_toList, layL, hq, ← hn]
    rfl

set_option maxRecDepth 100000 in
set_option maxHeartbeats 4000000 in
theorem lay_any (b : Nat) (l : List UInt8) (F : Nat → Prop) (a : ByteArray) (c : CellA) (w : World) (h : Bl b l F w) (ha : a.size ≤ maxLen) (hc : SmallC c) (hl : l.length ≤ 1000000000) :
    Calls Try.prog 27 #[.pointer (some ⟨b, 0, none⟩), .string a, .agg #[.string c.row, .string c.col, .int .u64 c.ver, .bool c.gone, .string c.val]] w fun e w' => e = .returned (.tuple #[]) ∧
      ∃ F', Bl b (l ++ layL a.toList c) F' w' ∧ Kept F w w' ∧ ∀ k, F' k → F k ∨ w.heap.size ≤ k := by
  obtain ⟨n, q, s1, s2, s3, s4, s5, s6, hK⟩ := laidB a c ha hc
  have HK := Lib.hid hK
  have hcut := hK.cut
  have hnle := hK.nle
  have hk5 := hK.k5
  have hk2 := hK.k2
  rw [hcut] at hk2
  obtain ⟨xr, xc, xv, xg, xl⟩ := c
  simp only at hk5 hk2 hnle
  have Hk2 := Lib.hid hk2
  clear hk2 hcut
  have hrm := hc.row
  simp only at hrm
  have HB := Lib.hid h
  have Hl := Lib.hid hl
  have Hk5 := Lib.hid hk5
  clear hk5
  have hbl := h.inb b h.own
  clear hK h ha hc hl
  simp only
  go_enter Try.func27, Try.ntmps27
  cases xg
  all_goals
    simp only [Bool.false_eq_true, if_false, if_true] at Hk5
    have hk6 := HK.out.k6
    go_wp2_with (first | (go_at_call 55; refine (HK.out.ka _).mono ?_; rintro e w1 ⟨rfl, hb⟩; obtain ⟨hB, hS, hk⟩ := after (B := w.heap.size) (w := w) (by go_grown) (by go_size) hb; clear hb; obtain ⟨c0, f0, z0⟩ := hk (w.heap.size) (by go_size); clear hk))
    refine wp_region_below (by kernel_rfl) (by kernel_rfl) (fun hkept => ?_)
    obtain ⟨r0, rf0⟩ := hkept (w.heap.size) (by go_size); clear hkept
    repeat (any_goals (first | go_big_quiet_step (first | (go_at_call 57; exact Calls.regrown_of (HK.out.k1 _)) | (go_at_call 56; exact Calls.regrown_of (Hk2.out _))) | quiet_step (first | (go_at_call 57; exact Calls.regrown_of (HK.out.k1 _)) | (go_at_call 56; exact Calls.regrown_of (Hk2.out _))) | (refine wpQuiet_step (fun K hK => ?_); go_simp; split <;> (refine hK _ ?_; clear hK K))))
    all_goals (refine wpQuiet_nil ?_; intro w2 hb; obtain ⟨hB, hS, hk⟩ := after (B := w.heap.size) (w := w) (by go_grown) (by go_size) hb; obtain ⟨c0, f0, z0⟩ := hk (w.heap.size) (by go_size); clear hk hb r0 rf0)
    go_wp2
    refine wp_region_below (by kernel_rfl) (by kernel_rfl) (fun hkept => ?_)
    obtain ⟨r0, rf0⟩ := hkept (w.heap.size) (by go_size); clear hkept
    repeat (any_goals (first | go_big_quiet_step (first | (go_at_call 56; exact Calls.regrown_of (HK.out.k3 _)) | (go_at_call 57; exact Calls.regrown_of (HK.out.k4 _))) | quiet_step (first | (go_at_call 56; exact Calls.regrown_of (HK.out.k3 _)) | (go_at_call 57; exact Calls.regrown_of (HK.out.k4 _))) | (refine wpQuiet_step (fun K hK => ?_); go_simp; split <;> (refine hK _ ?_; clear hK K))))
    all_goals (refine wpQuiet_nil ?_; intro w3 hb; obtain ⟨hB, hS, hk⟩ := after (B := w.heap.size) (w := w) (by go_grown) (by go_size) hb; obtain ⟨c0, f0, z0⟩ := hk (w.heap.size) (by go_size); clear hk hb r0 rf0)
    go_wp2
    refine wp_region_below_mix 1 7 (by kernel_rfl) (by kernel_rfl) (fun hkept => ?_)
    obtain ⟨r0, rf0⟩ := hkept (w.heap.size) (by go_size); clear hkept
    simp only [List.take_succ_cons, List.take_zero, List.drop_succ_cons, List.drop_zero]
    refine wpPure_move _ rfl rfl (fun K' hK' => ?_); go_simp; refine hK' _ ?_; clear hK' K'
    refine wpPure_nil ?_
    repeat (any_goals (first | go_big_quiet_step (first | (go_at_call 58; exact Calls.regrown_of (Hk5.out _)) | (go_at_call 56; exact Calls.regrown_of (hk6 _))) | quiet_step (first | (go_at_call 58; exact Calls.regrown_of (Hk5.out _)) | (go_at_call 56; exact Calls.regrown_of (hk6 _))) | (refine wpQuiet_step (fun K hK => ?_); go_simp; split <;> (refine hK _ ?_; clear hK K))))
    all_goals (refine wpQuiet_nil ?_; intro w5 hb; obtain ⟨hB, hS, hk⟩ := after (B := w.heap.size) (w := w) (by go_grown) (by go_size) hb; obtain ⟨c0, f0, z0⟩ := hk (w.heap.size) (by go_size); clear hk hb r0 rf0)
    go_wp2_with fail
    refine (writestring_bl b l F s6 _ (HB.out.below hB) (by have := HK.out.big; rw [← HK.out.val, size_list] at this; have := Hl.out; omega)).mono ?_
    rintro e w6 ⟨rfl, F', hbl', hk', hF'⟩
    rw [HK.out.val] at hbl'
    have HF := Lib.hid hF'
    have HL := Lib.hid hbl'
    have HKp := Lib.hid ((Kept.of_below (F := F) hB).trans hk' (fun i hi => .inl hi))
    have HS := hB.size
    clear hbl' hk' hF'
    go_wp2
    refine NoPanic.normal ?_
    go_wp2
    go_end0
    exact ⟨rfl, F', HL.out, HKp.out, fun k hk => (HF.out k hk).elim .inl (fun h => .inr (Nat.le_trans HS h))⟩

set_option maxRecDepth 100000 in
set_option maxHeartbeats 4000000 in
theorem one_any (a : ByteArray) (c : CellA) (w : World) (ha : a.size ≤ maxLen) (hc : SmallC c) :
    Calls Try.prog 32 #[.string a, .agg #[.string c.row, .string c.col, .int .u64 c.ver, .bool c.gone, .string c.val]] w fun e w' => e = .returned (.string (ofL (layL a.toList c))) ∧ Below w.heap.size w w' := by
  obtain ⟨n, q, s1, s2, s3, s4, s5, s6, hK⟩ := laidB a c ha hc
  obtain ⟨R, hR⟩ : ∃ R, R = ofL (layL a.toList c) := ⟨_, rfl⟩
  have HR : Hid (s6 = R) := Lib.hid (by rw [hR, ← hK.val, ofL_self])
  rw [← hR]
  have HK := Lib.hid hK
  have hcut := hK.cut
  have hnle := hK.nle
  have e5 := hK.e5
  have hr2 := hK.r2
  rw [hcut] at hr2
  have l4 : s4.size ≤ 4000000 := by
    have h1 := hK.s5le
    have := congrArg ByteArray.size e5
    rw [ByteArray.size_append] at this
    omega
  obtain ⟨xr, xc, xv, xg, xl⟩ := c
  simp only at e5 hr2 hnle
  have Hr2 := Lib.hid hr2
  clear hr2 hcut
  have hrm := hc.row
  simp only at hrm
  clear hK ha hc hR
  simp only
  go_enter Try.func32, Try.ntmps32
  cases xg
  all_goals
    simp only [Bool.false_eq_true, if_false, if_true] at e5
    go_wp2_with (first | (go_at_call 61; refine (HK.out.ra _).mono ?_; rintro e w1 ⟨rfl, hb⟩; obtain ⟨hB, hS, hk⟩ := after (B := w.heap.size) (w := w) (by go_grown) (by go_size) hb; clear hb; obtain ⟨c0, f0, z0⟩ := hk (w.heap.size) (by go_size); clear hk) | (go_at_call 62; with_reducible refine (HK.out.r1 _).mono ?_; rintro e w2 ⟨rfl, hb⟩; obtain ⟨hB, hS, hk⟩ := after (B := w.heap.size) (w := w) (by go_grown) (by go_size) hb; clear hb; obtain ⟨c0, f0, z0⟩ := hk (w.heap.size) (by go_size); clear hk) | (go_at_call 63; with_reducible refine (Hr2.out _).mono ?_; rintro e w3 ⟨rfl, hb⟩; obtain ⟨hB, hS, hk⟩ := after (B := w.heap.size) (w := w) (by go_grown) (by go_size) hb; clear hb; obtain ⟨c0, f0, z0⟩ := hk (w.heap.size) (by go_size); clear hk) | (go_at_call 63; with_reducible refine (HK.out.r3 _).mono ?_; rintro e w4 ⟨rfl, hb⟩; obtain ⟨hB, hS, hk⟩ := after (B := w.heap.size) (w := w) (by go_grown) (by go_size) hb; clear hb; obtain ⟨c0, f0, z0⟩ := hk (w.heap.size) (by go_size); clear hk) | (go_at_call 62; with_reducible refine (HK.out.r4 _).mono ?_; rintro e w5 ⟨rfl, hb⟩; obtain ⟨hB, hS, hk⟩ := after (B := w.heap.size) (w := w) (by go_grown) (by go_size) hb; clear hb; obtain ⟨c0, f0, z0⟩ := hk (w.heap.size) (by go_size); clear hk) | (go_at_call 63; with_reducible refine (HK.out.r6 _).mono ?_; rintro e w6 ⟨rfl, hb⟩; obtain ⟨hB, hS, hk⟩ := after (B := w.heap.size) (w := w) (by go_grown) (by go_size) hb; clear hb; obtain ⟨c0, f0, z0⟩ := hk (w.heap.size) (by go_size); clear hk))
    go_ret
    exact ⟨by rw [← HR.out]; rfl, hB⟩
end Go.Proofs.Ytfkghpomcaonfaa
