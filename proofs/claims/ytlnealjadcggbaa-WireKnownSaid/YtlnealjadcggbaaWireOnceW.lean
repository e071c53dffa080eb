/-
  The walk of acreagelaw01.WireOnce.
-/
import Derived.Test.YtlnealjadcggbaaWireUnhexW
import Derived.Test.YtlnealjadcggbaaWireLW
namespace Go.Proofs.Ytlnealjadcggbaa
open Go.RowKit

theorem halfN_hexD (n : Nat) (h : n < 16) : halfN (hexD n) = n := by
  have : ∀ y : Fin 16, halfN (hexD y.val) = y.val := by decide +kernel
  exact this ⟨n, h⟩
theorem hexD_halfN (c : UInt8) (h : halfN c ≤ 15) : hexD (halfN c) = c := by
  have : ∀ y : Fin 256, halfN (UInt8.ofNat y.val) ≤ 15 → hexD (halfN (UInt8.ofNat y.val)) = UInt8.ofNat y.val := by decide +kernel
  have h1 := this ⟨c.toNat, c.toNat_lt⟩
  simp only [UInt8.ofNat_toNat] at h1
  exact h1 h

theorem unhexL_hexL : ∀ l : List UInt8, unhexL (hexL l) = some l
  | [] => by simp [hexL, unhexL]
  | c :: l => by
    have hc := c.toNat_lt
    rw [show hexL (c :: l) = hexD (c.toNat / 16) :: hexD (c.toNat % 16) :: hexL l by simp [hexL], unhexL, unhexL_hexL l, halfN_hexD _ (by omega), halfN_hexD _ (by omega), if_pos ⟨by omega, by omega⟩, show c.toNat / 16 * 16 + c.toNat % 16 = c.toNat by omega, UInt8.ofNat_toNat]
    rfl

theorem hexL_unhexL : ∀ (s l : List UInt8), unhexL s = some l → hexL l = s
  | [], l, h => by simp only [unhexL, Option.some.injEq] at h; subst h; rfl
  | [_], l, h => by simp [unhexL] at h
  | a :: b :: s, l, h => by
    rw [unhexL] at h
    split at h
    · rename_i hg
      cases hp : unhexL s with
      | none => rw [hp] at h; simp at h
      | some m =>
        rw [hp] at h
        simp only [Option.map_some, Option.some.injEq] at h
        subst h
        have hx : (UInt8.ofNat (halfN a * 16 + halfN b)).toNat = halfN a * 16 + halfN b := by
          rw [UInt8.toNat_ofNat']; omega
        rw [show ∀ c : UInt8, hexL (c :: m) = hexD (c.toNat / 16) :: hexD (c.toNat % 16) :: hexL m by intro c; simp [hexL], hx, hexL_unhexL s m hp, show (halfN a * 16 + halfN b) / 16 = halfN a by omega, show (halfN a * 16 + halfN b) % 16 = halfN b by omega, hexD_halfN a hg.1, hexD_halfN b hg.2]
    · simp at h

theorem unhex_hex (t : ByteArray) (w : World) (h : t.size ≤ 1000000) :
    Calls Try.prog 15 #[.string (ofL (hexL t.toList))] w fun e w' => e = .returned (.tuple #[.string t, .bool true]) ∧ Below w.heap.size w w' := by
  have h1 : unhexL (ofL (hexL t.toList)).toList = some t.toList := by rw [ofL_toList, unhexL_hexL]
  obtain ⟨a, b⟩ := unhex_some h1
  refine (unhex_any _ w (by rw [ofL_size, hexL_len, size_list]; omega)).mono fun e w' ⟨h1, h2⟩ => ⟨by rw [h1, a, b, ← ofL_eq], h2⟩
theorem hex_back (t : ByteArray) (l : List UInt8) (w : World) (h : t.size ≤ 1000000) (hu : unhexL t.toList = some l) :
    Calls Try.prog 16 #[.string (ofL l)] w fun e w' => e = .returned (.string t) ∧ Below w.heap.size w w' := by
  have h1 := hexL_unhexL _ _ hu
  have h2 := congrArg List.length h1
  rw [hexL_len, size_list] at h2
  refine (hex_any _ w (by rw [ofL_size]; omega)).mono fun e w' ⟨h3, h4⟩ => ⟨by rw [h3, ofL_toList, h1, ← ofL_eq], h4⟩
theorem unhex_yes (t : ByteArray) (l : List UInt8) (w : World) (h : t.size ≤ 1000000) (hu : unhexL t.toList = some l) :
    Calls Try.prog 15 #[.string t] w fun e w' => e = .returned (.tuple #[.string (ofL l), .bool true]) ∧ Below w.heap.size w w' := by
  obtain ⟨a, b⟩ := unhex_some hu
  exact (unhex_any _ w (by omega)).mono fun e w' ⟨h1, h2⟩ => ⟨by rw [h1, a, b], h2⟩
theorem unhex_no (t : ByteArray) (w : World) (h : t.size ≤ 1000000) (hu : unhexL t.toList = none) :
    Calls Try.prog 15 #[.string t] w fun e w' => e = .returned (.tuple #[.string ⟨#[]⟩, .bool false]) ∧ Below w.heap.size w w' := by
  obtain ⟨a, b⟩ := unhex_none hu
  exact (unhex_any _ w (by omega)).mono fun e w' ⟨h1, h2⟩ => ⟨by rw [h1, a, b], h2⟩
theorem put_taken (t : ByteArray) (v n : Nat) (w : World) (ht : takeL t.toList = some (v, n)) :
    Calls Try.prog 8 #[.string ⟨#[]⟩, .int .u64 v] w fun e w' => e = .returned (.string (t.extract 0 n)) ∧ Below w.heap.size w w' := by
  obtain ⟨_, _, _, hv⟩ := takeL_bounds ht
  have hl := (numL_getL _ _ _ _ ht).1
  refine (putnumber_of ⟨#[]⟩ v w (by decide) ⟨by omega, by omega⟩).mono fun e w' ⟨h1, h2⟩ => ⟨?_, h2⟩
  rw [h1]
  refine ret_str (Eq.symm (eq_ofL ?_))
  rw [toList_extract, List.drop_zero, ← hl, show (⟨#[]⟩ : ByteArray).toList = [] by rw [Lib.toList_data]]
  rfl

set_option maxRecDepth 100000 in
set_option maxHeartbeats 2000000 in
theorem once_any (s : ByteArray) (w : World) (hs : s.size ≤ maxLen) :
    Calls Try.prog 4 #[.string s] w fun e w' => e = .returned (.bool true) ∧ Below w.heap.size w w' := by
  obtain ⟨m, hm⟩ : ∃ m : Nat, (if (1000 : Int) < (s.size : Int) then (1000 : Int) else s.size) = m := ⟨min 1000 s.size, by split <;> omega⟩
  have hm1 : m ≤ 1000 := by split at hm <;> omega
  have hm2 : m ≤ s.size := by split at hm <;> omega
  unfold maxLen at hs
  have hbl : (s.extract 0 m).size = m := by rw [ByteArray.size_extract]; omega
  have hbsz : (s.extract 0 m).size ≤ 1000 := by omega
  clear hbl
  obtain ⟨t, htt⟩ : ∃ t, s.extract 0 m = t := ⟨_, rfl⟩
  rw [htt] at hbsz
  have htm : t.size ≤ maxLen := by unfold maxLen; omega
  have htm6 : t.size ≤ 1000000 := by omega
  go_enter Try.func4, Try.ntmps4
  obtain ⟨hx, hhx⟩ : ∃ hx, hx = ofL (hexL t.toList) := ⟨_, rfl⟩
  have h1 : Hid (∀ w, Calls Try.prog 16 #[.string t] w fun e w' => e = .returned (.string hx) ∧ Below w.heap.size w w') := Lib.hid fun w => by rw [hhx]; exact hex_any t w (by omega)
  have h2 : Hid (∀ w, Calls Try.prog 15 #[.string hx] w fun e w' => e = .returned (.tuple #[.string t, .bool true]) ∧ Below w.heap.size w w') := Lib.hid fun w => by rw [hhx]; exact unhex_hex t w htm6
  clear hhx
  cases ht : takeL t.toList with
  | none =>
    have hbb : (t.size : Int) - t.size = 0 := by omega
    have ht := Lib.hid ht
    go_wp2_with (first | (go_at_call 9; refine (new_any _ _).mono ?_; rintro e w3 ⟨rfl, rfl⟩) | (go_at_call 11; refine (rnumber_no t _ _ htm ht.out (by go_simp) (by go_simp)).mono ?_; rintro e w' ⟨rfl, rfl⟩) | (go_at_call 13; refine (left_any t _ _ (by go_simp)).mono ?_; rintro e w' ⟨rfl, rfl⟩))
    refine wp_region_below (by kernel_rfl) (by kernel_rfl) (fun hkept => ?_)
    obtain ⟨r0, rf0⟩ := hkept (w.heap.size) (by go_size); clear hkept
    repeat (any_goals (first | go_big_quiet_step (fail) | quiet_step (fail) | (refine wpQuiet_step (fun K hK => ?_); go_simp; split <;> (refine hK _ ?_; clear hK K))))
    all_goals (refine wpQuiet_nil ?_; intro w3 hb; obtain ⟨hB, hS, hk⟩ := after (B := w.heap.size) (w := w) (by go_grown) (by go_size) hb; obtain ⟨c0, f0, z0⟩ := hk (w.heap.size) (by go_size); clear hk hb r0 rf0)
    cases hu : unhexL t.toList with
    | none =>
      have K2 : Hid (∀ w, Calls Try.prog 15 #[.string t] w fun e w' => e = .returned (.tuple #[.string ⟨#[]⟩, .bool false]) ∧ Below w.heap.size w w') := Lib.hid fun w => unhex_no t w htm6 hu
      clear hu
      go_wp2_with (first | (go_at_call 16; refine (h1.out _).mono ?_; rintro e w5 ⟨rfl, hb⟩; obtain ⟨hB, hS, hk⟩ := after (B := w.heap.size) (w := w) (by go_grown) (by go_size) hb; clear hb; clear hk) | (go_at_call 15; with_reducible refine (h2.out _).mono ?_; rintro e w7 ⟨rfl, hb⟩; obtain ⟨hB, hS, hk⟩ := after (B := w.heap.size) (w := w) (by go_grown) (by go_size) hb; clear hb; clear hk) | (go_at_call 15; with_reducible refine (K2.out _).mono ?_; rintro e w8 ⟨rfl, hb⟩; obtain ⟨hB, hS, hk⟩ := after (B := w.heap.size) (w := w) (by go_grown) (by go_size) hb; clear hb; clear hk) | (go_at_call 14; refine (works_any _).mono ?_; rintro e w6 ⟨rfl, hb⟩; obtain ⟨hB, hS, hk⟩ := after (B := w.heap.size) (w := w) (by go_grown) (by go_size) hb; clear hb; clear hk))
      go_returns
      exact ⟨rfl, by go_grown⟩
    | some l =>
      obtain ⟨c, hc⟩ : ∃ c, c = ofL l := ⟨_, rfl⟩
      have K2 : Hid (∀ w, Calls Try.prog 15 #[.string t] w fun e w' => e = .returned (.tuple #[.string c, .bool true]) ∧ Below w.heap.size w w') := Lib.hid fun w => by rw [hc]; exact unhex_yes t l w htm6 hu
      have K3 : Hid (∀ w, Calls Try.prog 16 #[.string c] w fun e w' => e = .returned (.string t) ∧ Below w.heap.size w w') := Lib.hid fun w => by rw [hc]; exact hex_back t l w htm6 hu
      clear hu hc
      go_wp2_with (first | (go_at_call 16; with_reducible refine (h1.out _).mono ?_; rintro e w5 ⟨rfl, hb⟩; obtain ⟨hB, hS, hk⟩ := after (B := w.heap.size) (w := w) (by go_grown) (by go_size) hb; clear hb; clear hk) | (go_at_call 15; with_reducible refine (h2.out _).mono ?_; rintro e w7 ⟨rfl, hb⟩; obtain ⟨hB, hS, hk⟩ := after (B := w.heap.size) (w := w) (by go_grown) (by go_size) hb; clear hb; clear hk) | (go_at_call 15; with_reducible refine (K2.out _).mono ?_; rintro e w8 ⟨rfl, hb⟩; obtain ⟨hB, hS, hk⟩ := after (B := w.heap.size) (w := w) (by go_grown) (by go_size) hb; clear hb; clear hk) | (go_at_call 16; with_reducible refine (K3.out _).mono ?_; rintro e w9 ⟨rfl, hb⟩; obtain ⟨hB, hS, hk⟩ := after (B := w.heap.size) (w := w) (by go_grown) (by go_size) hb; clear hb; clear hk) | (go_at_call 14; refine (works_any _).mono ?_; rintro e w6 ⟨rfl, hb⟩; obtain ⟨hB, hS, hk⟩ := after (B := w.heap.size) (w := w) (by go_grown) (by go_size) hb; clear hb; clear hk))
      go_returns
      exact ⟨rfl, by go_grown⟩
  | some r =>
    obtain ⟨v, n⟩ := r
    obtain ⟨hn1, hn2, hn3, hv⟩ := takeL_bounds ht
    rw [size_list] at hn2
    have hes : (t.extract n t.size).size = t.size - n := by rw [ByteArray.size_extract]; omega
    have hbb : (t.size : Int) - (t.size - n : Nat) = n := by omega
    have K1 : Hid (∀ w, Calls Try.prog 8 #[.string ⟨#[]⟩, .int .u64 v] w fun e w' => e = .returned (.string (t.extract 0 n)) ∧ Below w.heap.size w w') := Lib.hid fun w => put_taken t v n w ht
    have hU : U64 v := ⟨by omega, by omega⟩
    have hd1 : ¬ ((n : Int) < 1) := by omega
    have hd2 : ¬ ((10 : Int) < (n : Int)) := by omega
    have hd3 : decide ((n : Int) < 1) = false := by simp; omega
    have hd4 : decide ((10 : Int) < (n : Int)) = false := by simp; omega
    have ht := Lib.hid ht
    clear hv
    go_wp2_with (first | (go_at_call 9; refine (new_any _ _).mono ?_; rintro e w3 ⟨rfl, rfl⟩) | (go_at_call 11; refine (rnumber_yes t _ _ v n htm ht.out (by go_simp) (by go_simp)).mono ?_; rintro e w' ⟨rfl, rfl⟩) | (go_at_call 13; refine (left_any (t.extract n t.size) _ _ (by go_simp)).mono ?_; rintro e w' ⟨rfl, rfl⟩))
    refine wp_region_below (by kernel_rfl) (by kernel_rfl) (fun hkept => ?_)
    obtain ⟨r0, rf0⟩ := hkept (w.heap.size) (by go_size); clear hkept
    repeat (any_goals (first | go_big_quiet_step (first | (go_at_call 8; exact Calls.regrown_of (K1.out _))) | quiet_step (first | (go_at_call 8; exact Calls.regrown_of (K1.out _))) | (refine wpQuiet_step (fun K hK => ?_); go_simp; split <;> (refine hK _ ?_; clear hK K))))
    all_goals (refine wpQuiet_nil ?_; intro w3 hb; obtain ⟨hB, hS, hk⟩ := after (B := w.heap.size) (w := w) (by go_grown) (by go_size) hb; obtain ⟨c0, f0, z0⟩ := hk (w.heap.size) (by go_size); clear hk hb r0 rf0)
    cases hu : unhexL t.toList with
    | none =>
      have K2 : Hid (∀ w, Calls Try.prog 15 #[.string t] w fun e w' => e = .returned (.tuple #[.string ⟨#[]⟩, .bool false]) ∧ Below w.heap.size w w') := Lib.hid fun w => unhex_no t w htm6 hu
      clear hu
      go_wp2_with (first | (go_at_call 16; refine (h1.out _).mono ?_; rintro e w5 ⟨rfl, hb⟩; obtain ⟨hB, hS, hk⟩ := after (B := w.heap.size) (w := w) (by go_grown) (by go_size) hb; clear hb; clear hk) | (go_at_call 15; with_reducible refine (h2.out _).mono ?_; rintro e w7 ⟨rfl, hb⟩; obtain ⟨hB, hS, hk⟩ := after (B := w.heap.size) (w := w) (by go_grown) (by go_size) hb; clear hb; clear hk) | (go_at_call 15; with_reducible refine (K2.out _).mono ?_; rintro e w8 ⟨rfl, hb⟩; obtain ⟨hB, hS, hk⟩ := after (B := w.heap.size) (w := w) (by go_grown) (by go_size) hb; clear hb; clear hk) | (go_at_call 14; refine (works_any _).mono ?_; rintro e w6 ⟨rfl, hb⟩; obtain ⟨hB, hS, hk⟩ := after (B := w.heap.size) (w := w) (by go_grown) (by go_size) hb; clear hb; clear hk))
      go_returns
      exact ⟨rfl, by go_grown⟩
    | some l =>
      obtain ⟨c, hc⟩ : ∃ c, c = ofL l := ⟨_, rfl⟩
      have K2 : Hid (∀ w, Calls Try.prog 15 #[.string t] w fun e w' => e = .returned (.tuple #[.string c, .bool true]) ∧ Below w.heap.size w w') := Lib.hid fun w => by rw [hc]; exact unhex_yes t l w htm6 hu
      have K3 : Hid (∀ w, Calls Try.prog 16 #[.string c] w fun e w' => e = .returned (.string t) ∧ Below w.heap.size w w') := Lib.hid fun w => by rw [hc]; exact hex_back t l w htm6 hu
      clear hu hc
      go_wp2_with (first | (go_at_call 16; with_reducible refine (h1.out _).mono ?_; rintro e w5 ⟨rfl, hb⟩; obtain ⟨hB, hS, hk⟩ := after (B := w.heap.size) (w := w) (by go_grown) (by go_size) hb; clear hb; clear hk) | (go_at_call 15; with_reducible refine (h2.out _).mono ?_; rintro e w7 ⟨rfl, hb⟩; obtain ⟨hB, hS, hk⟩ := after (B := w.heap.size) (w := w) (by go_grown) (by go_size) hb; clear hb; clear hk) | (go_at_call 15; with_reducible refine (K2.out _).mono ?_; rintro e w8 ⟨rfl, hb⟩; obtain ⟨hB, hS, hk⟩ := after (B := w.heap.size) (w := w) (by go_grown) (by go_size) hb; clear hb; clear hk) | (go_at_call 16; with_reducible refine (K3.out _).mono ?_; rintro e w9 ⟨rfl, hb⟩; obtain ⟨hB, hS, hk⟩ := after (B := w.heap.size) (w := w) (by go_grown) (by go_size) hb; clear hb; clear hk) | (go_at_call 14; refine (works_any _).mono ?_; rintro e w6 ⟨rfl, hb⟩; obtain ⟨hB, hS, hk⟩ := after (B := w.heap.size) (w := w) (by go_grown) (by go_size) hb; clear hb; clear hk))
      go_returns
      exact ⟨rfl, by go_grown⟩

end Go.Proofs.Ytlnealjadcggbaa
