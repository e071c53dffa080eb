/-
  The walks of the document's reader (acreageref01): numbers, texts, bytes read; contracts of the same form as those of package wire.
-/
import Derived.Test.YtfkghpomcaonfaaReadW
import Derived.Test.YtfkghpomcaonfaaRefPutW
namespace Go.Proofs.Ytfkghpomcaonfaa
open Go.RowKit

def foldB : List UInt8 → Nat
  | [] => 0
  | b :: r => (foldB r * 128 + b.toNat % 128) % 2 ^ 64
theorem foldB_lt (l : List UInt8) : foldB l < 2 ^ 64 := by
  cases l with
  | nil => simp [foldB]
  | cons b r => exact Nat.mod_lt _ (by decide)
theorem numL_shape (v : Nat) : ∃ a c, numL v = a ++ [c] ∧ (∀ b ∈ a, 128 ≤ b.toNat) ∧ c.toNat < 128 := by
  induction v using Nat.strongRecOn with
  | _ v ih =>
    by_cases h : v < 128
    · refine ⟨[], UInt8.ofNat v, numL_small h, by simp, ?_⟩
      rw [UInt8.toNat_ofNat']; omega
    · obtain ⟨a, c, h1, h2, h3⟩ := ih (v / 128) (by omega)
      refine ⟨UInt8.ofNat (v % 128 + 128) :: a, c, by rw [numL_big (by omega), h1]; rfl, fun b hb => ?_, h3⟩
      rcases List.mem_cons.1 hb with rfl | hb
      · rw [UInt8.toNat_ofNat']; omega
      · exact h2 b hb
theorem foldB_numL (v : Nat) (h : v < 2 ^ 64) : foldB (numL v) = v := by
  induction v using Nat.strongRecOn with
  | _ v ih =>
    by_cases hs : v < 128
    · rw [numL_small hs]
      simp only [foldB, UInt8.toNat_ofNat']
      omega
    · rw [numL_big (by omega), foldB, ih (v / 128) (by omega) (by omega), UInt8.toNat_ofNat']
      omega
/-- k bytes that say that more comes -/
def More (l : List UInt8) (k : Nat) : Prop := ∀ c ∈ l.take k, 128 ≤ c.toNat
theorem More.zero (l : List UInt8) : More l 0 := fun c h => by simp at h
theorem More.succ {l : List UInt8} {k : Nat} (h : More l k) {c : UInt8} (hc : l[k]? = some c) (h1 : 128 ≤ c.toNat) : More l (k + 1) := by
  intro d hd
  rw [List.take_add_one, hc] at hd
  rcases List.mem_append.1 hd with hd | hd
  · exact h d hd
  · have := List.mem_singleton.1 hd; subst this; exact h1
theorem take_shape {l : List UInt8} {v n : Nat} (h : takeL l = some (v, n)) : numL v = l.take n ∧ ∃ c, l[n - 1]? = some c ∧ c.toNat < 128 ∧ More l (n - 1) ∧ 1 ≤ n ∧ n ≤ l.length ∧ n ≤ 10 := by
  obtain ⟨e, _⟩ := numL_getL l 0 v n h
  obtain ⟨k1, k2, k3, _⟩ := takeL_bounds h
  obtain ⟨a, c, h1, h2, h3⟩ := numL_shape v
  have hl : a.length = n - 1 := by
    have := congrArg List.length h1
    rw [e, List.length_take, List.length_append, List.length_singleton] at this
    omega
  have e2 : l.take n = a ++ [c] := by rw [← e, h1]
  refine ⟨e, c, ?_, h3, fun b hb => h2 b ?_, k1, k2, k3⟩
  · have : (l.take n)[n - 1]? = some c := by rw [e2, ← hl]; simp
    rw [List.getElem?_take] at this
    split at this
    · exact this
    · cases this
  · have : l.take (n - 1) = a := by
      have h5 := congrArg (List.take (n - 1)) e2
      rw [List.take_take, Nat.min_eq_left (by omega), List.take_left' hl] at h5
      exact h5
    rwa [this] at hb
theorem rtake_none {l : List UInt8} {k : Nat} (hm : More l k) (h : 10 ≤ k ∨ l.length ≤ k) : takeL l = none := by
  cases ht : takeL l with
  | none => rfl
  | some r =>
    obtain ⟨v, n⟩ := r
    obtain ⟨_, c, h1, h2, _, h4, h5, h6⟩ := take_shape ht
    have : c ∈ l.take k := List.mem_of_getElem? (i := n - 1) (by rw [List.getElem?_take, if_pos (by omega)]; exact h1)
    have := hm c this
    omega
theorem rtake_at {l : List UInt8} {k v n : Nat} (hm : More l k) {c : UInt8} (hc : l[k]? = some c) (h : c.toNat < 128) (ht : takeL l = some (v, n)) : n = k + 1 ∧ v = foldB (l.take (k + 1)) ∧ numL v = l.take (k + 1) := by
  obtain ⟨h0, d, h1, h2, h3, h4, h5, h6⟩ := take_shape ht
  have hn : n = k + 1 := by
    rcases Nat.lt_trichotomy (n - 1) k with h7 | h7 | h7
    · have : d ∈ l.take k := List.mem_of_getElem? (i := n - 1) (by rw [List.getElem?_take, if_pos h7]; exact h1)
      have := hm d this
      omega
    · omega
    · have : c ∈ l.take (n - 1) := List.mem_of_getElem? (i := k) (by rw [List.getElem?_take, if_pos h7]; exact hc)
      have := h3 c this
      omega
  subst hn
  exact ⟨rfl, by rw [← h0, foldB_numL _ (takeL_bounds ht).2.2.2], h0⟩
theorem rtake_yes {l : List UInt8} {k : Nat} (hk : k < l.length) (he : numL (foldB (l.take (k + 1))) = l.take (k + 1)) : takeL l = some (foldB (l.take (k + 1)), k + 1) := by
  have h := takeL_numL (foldB (l.take (k + 1))) (l.drop (k + 1)) (foldB_lt _)
  rw [he, List.take_append_drop, List.length_take, Nat.min_eq_left (by omega)] at h
  exact h
theorem rtake_no {l : List UInt8} {k : Nat} (hm : More l k) {c : UInt8} (hc : l[k]? = some c) (h : c.toNat < 128) (he : numL (foldB (l.take (k + 1))) ≠ l.take (k + 1)) : takeL l = none := by
  cases ht : takeL l with
  | none => rfl
  | some r =>
    obtain ⟨v, n⟩ := r
    obtain ⟨_, h1, h2⟩ := rtake_at hm hc h ht
    rw [h1] at h2
    exact absurd h2 he
theorem foldB_step {l : List UInt8} {q : Nat} {c : UInt8} (h : l[q]? = some c) : foldB (l.drop q) = (foldB (l.drop (q + 1)) * 128 + c.toNat % 128) % 2 ^ 64 := by
  obtain ⟨hq, rfl⟩ := List.getElem?_eq_some_iff.1 h
  rw [List.drop_eq_getElem_cons hq, foldB]

theorem shl_or (a x : Nat) : bits .or .u64 (IntKind.u64.wrap ((a : Int) * 128)) ((x : Int) % 128) = (((a * 128 + x % 128) % 2 ^ 64 : Nat) : Int) := by
  have hw : ∀ n : Int, 0 ≤ n → n < 2 ^ 64 → IntKind.u64.wrap n = n := by intro n h0 h1; rw [IntKind.wrap_u64]; omega
  have e1 : IntKind.u64.wrap ((a : Int) * 128) = ((128 * (a % 2 ^ 57) : Nat) : Int) := by rw [IntKind.wrap_u64]; omega
  have e2 : ((x : Int) % 128) = ((x % 128 : Nat) : Int) := by omega
  rw [e1, e2, (bits_nat .u64 64 (by decide) hw (128 * (a % 2 ^ 57)) (x % 128) (by omega) (by omega)).2]
  have := Nat.two_pow_add_eq_or_of_lt (show x % 128 < 2 ^ 7 by omega) (a % 2 ^ 57)
  rw [show (2 : Nat) ^ 7 = 128 from rfl] at this
  rw [← this]
  congr 1
  omega
theorem idx_at (s : ByteArray) (n : Nat) (h : n < s.size) (k : IntKind) (i : Int) (hi : i = n) (w : World) :
    (Instr.index 9 (.string s) (.int k i)).run Try.prog w = .ok (.int .u8 (s[n]).toNat) w := by
  subst hi
  rw [run_index_string (w := w) (P := Try.prog) (h := Try.underlying9)]
  rw [dif_pos ⟨by omega, by omega⟩]
  simp only [Int.toNat_natCast]

set_option maxRecDepth 100000 in
set_option maxHeartbeats 4000000 in
theorem takenumber_any (s : ByteArray) (w : World) (hs : s.size ≤ maxLen) :
    Calls Try.prog 69 #[.string s] w fun e w' => e = .returned (numV s.toList) ∧ Below w.heap.size w w' := by
  unfold maxLen at hs
  obtain ⟨R, hR⟩ : ∃ R, R = numV s.toList := ⟨_, rfl⟩
  rw [← hR]
  have HR := Lib.hid hR
  clear hR
  go_enter Try.func69, Try.ntmps69
  go_wp2
  go_loopw [4] (fun i wr => ∃ k : Nat, i = .int .i64 ((k : Int) + 1) ∧ k ≤ 10 ∧ k ≤ s.size ∧ Hid (More s.toList k) ∧ Below w.heap.size w wr) (fun i _ => 20 - (intOf i).toNat)
  case atStart => exact ⟨0, rfl, by omega, by omega, Lib.hid (More.zero _), Below.refl _ _⟩
  case round =>
    obtain ⟨k, rfl, hk, hks, hM, hB0⟩ := hrel
    by_cases hlt : k < 10 ∧ k < s.size
    · obtain ⟨hk1, hk2⟩ := hlt
      have hd1 : decide ((k : Int) + 1 ≤ 10) = true := by simp; omega
      have hd2 : decide ((k : Int) + 1 ≤ (s.size : Int)) = true := by simp; omega
      have hc := (s[k]).toNat_lt
      have Hat : Hid (s.toList[k]? = some s[k]) := Lib.hid (by
        rw [List.getElem?_eq_getElem (by rw [size_list]; exact hk2)]; congr 1
        simp only [Lib.toList_data]; rfl)
      by_cases h128 : 128 ≤ (s[k]).toNat
      · have hn := Lib.hid (hM.out.succ Hat.out h128)
        go_wp2
        exact ⟨⟨k + 1, by go_num, by omega, by omega, hn, hB0⟩, by simp [intOf]; omega⟩
      · have hlo : (s[k]).toNat < 128 := by omega
        obtain ⟨wo, rfl⟩ : ∃ wo : World, wo = wr := ⟨_, rfl⟩
        go_wp2
        go_loopw [5, 6] (fun v i wr => ∃ (p a : Nat), i = .int .i64 ((p : Int) - 1) ∧ v = .int .u64 a ∧ p ≤ k + 1 ∧ Hid (a = foldB ((s.toList.take (k + 1)).drop p)) ∧ wr = wo) (fun _ i _ => ((intOf i) + 1).toNat)
        case atStart => exact ⟨k + 1, 0, by first | rfl | go_num | (congr 1; omega), rfl, Nat.le_refl _, Lib.hid (by rw [List.drop_eq_nil_of_le (by rw [List.length_take]; omega)]; rfl), rfl⟩
        case round =>
          obtain ⟨p, a, rfl, rfl, hp, hA, rfl⟩ := hrel
          cases p with
          | zero =>
            rw [List.drop_zero] at hA
            obtain ⟨l1, hl1⟩ : ∃ l, l = s.toList.take (k + 1) := ⟨_, rfl⟩
            have hsl : s.extract 0 (k + 1) = ofL l1 := by rw [hl1]; refine toList_inj.1 ?_; rw [toList_extract, ofL_toList, List.drop_zero]
            have hal : a < 2 ^ 64 := by rw [hA.out]; exact foldB_lt _
            have hu : U64 (a : Int) := ⟨by omega, by omega⟩
            have K := Lib.hid fun W => refnumber_any (a : Int) W hu
            have hnw : numW (a : Int) = numL a := rfl
            rw [hnw] at K
            have hkn : ((k : Int) + 1).toNat = k + 1 := by omega
            by_cases he : numL a = l1
            · have hfin : Hid (R = .tuple #[.int .u64 a, .int .i64 ((k : Int) + 1)]) := Lib.hid (by
                have h5 := rtake_yes (l := s.toList) (k := k) (by rw [size_list]; exact hk2) (by have h6 : foldB (s.toList.take (k + 1)) = a := hA.out.symm; rw [h6, he, hl1])
                rw [HR.out, numV_some h5]
                have h6 : foldB (s.toList.take (k + 1)) = a := hA.out.symm
                rw [h6]; rfl)
              obtain ⟨o, ho⟩ : ∃ o, o = ofL l1 := ⟨_, rfl⟩
              rw [he, ← ho] at K
              rw [← ho] at hsl
              clear hal hu hnw hl1 ho
              go_wp2
              refine wp_region_below (by kernel_rfl) (by kernel_rfl) (fun hkept => ?_)
              clear hkept
              repeat (any_goals (first | go_big_quiet_step (first | (go_at_call 78; exact Calls.regrown_of (K.out _))) | quiet_step (first | (go_at_call 78; exact Calls.regrown_of (K.out _))) | (refine wpQuiet_step (fun K hK => ?_); go_simp; split <;> (refine hK _ ?_; clear hK K))))
              all_goals (refine wpQuiet_nil ?_; intro w5 hb; obtain ⟨hB, hS, hk⟩ := after (B := wr.heap.size) (w := wr) (by go_grown) (by go_size) hb; clear hk hb)
              go_wp2
              go_ret2
              exact ⟨ret_val hfin.out.symm, hB0.trans (hB.mono hB0.size)⟩
            · have hfin : Hid (R = .tuple #[.int .u64 0, .int .i64 0]) := Lib.hid (by
                rw [HR.out, numV_none]
                refine rtake_no hM.out Hat.out hlo ?_
                have h6 : foldB (s.toList.take (k + 1)) = a := hA.out.symm
                rw [h6, ← hl1]; exact he)
              obtain ⟨o, ho⟩ : ∃ o, o = ofL l1 := ⟨_, rfl⟩
              obtain ⟨o2, ho2⟩ : ∃ o, o = ofL (numL a) := ⟨_, rfl⟩
              have hno : ¬ o2.toList = o.toList := by rw [ho, ho2, ofL_toList, ofL_toList]; exact he
              have hno2 : (o2.toList == o.toList) = false := by simpa using hno
              rw [← ho2] at K
              rw [← ho] at hsl
              clear hal hu hnw hl1 ho ho2 he
              go_wp2
              refine wp_region_below (by kernel_rfl) (by kernel_rfl) (fun hkept => ?_)
              clear hkept
              repeat (any_goals (first | go_big_quiet_step (first | (go_at_call 78; exact Calls.regrown_of (K.out _))) | quiet_step (first | (go_at_call 78; exact Calls.regrown_of (K.out _))) | (refine wpQuiet_step (fun K hK => ?_); go_simp; split <;> (refine hK _ ?_; clear hK K))))
              all_goals (refine wpQuiet_nil ?_; intro w5 hb; obtain ⟨hB, hS, hk⟩ := after (B := wr.heap.size) (w := wr) (by go_grown) (by go_size) hb; clear hk hb)
              go_wp2
              go_ret2
              exact ⟨ret_val hfin.out.symm, hB0.trans (hB.mono hB0.size)⟩
          | succ q =>
            have e : (((q + 1 : Nat) : Int)) - 1 = (q : Int) := by omega
            rw [e]
            have hqs : q < s.size := by omega
            have hx := idx_at s q hqs .i64 (q : Int) rfl
            have hor := Lib.hid (shl_or a (s[q]).toNat)
            have hnx : Hid ((a * 128 + (s[q]).toNat % 128) % 2 ^ 64 = foldB ((s.toList.take (k + 1)).drop q)) := Lib.hid (by
              have h1 : (s.toList.take (k + 1))[q]? = some s[q] := by
                rw [List.getElem?_take, if_pos (by omega), List.getElem?_eq_getElem (by rw [size_list]; exact hqs)]; congr 1
                simp only [Lib.toList_data]; rfl
              rw [foldB_step h1, hA.out])
            go_wp2
            exact ⟨⟨q, _, rfl, by rw [hor.out], by omega, hnx, trivial⟩, by simp [intOf]⟩
    · have hfin : Hid (R = .tuple #[.int .u64 0, .int .i64 0]) := Lib.hid (by
        rw [HR.out, numV_none]
        exact rtake_none hM.out (by rw [size_list]; omega))
      by_cases h10 : k < 10
      · have hd1 : decide ((k : Int) + 1 ≤ 10) = true := by simp; omega
        have hd2 : decide ((k : Int) + 1 ≤ (s.size : Int)) = false := by simp; omega
        go_wp2
        go_ret2
        exact ⟨ret_val hfin.out.symm, hB0⟩
      · have hd1 : decide ((k : Int) + 1 ≤ 10) = false := by simp; omega
        go_wp2
        go_ret2
        exact ⟨ret_val hfin.out.symm, hB0⟩
theorem dec_false {a b : Int} (h : b ≤ a) : decide (a < b) = false := by simp; omega

set_option maxRecDepth 100000 in
set_option maxHeartbeats 4000000 in
theorem taketext_no (s : ByteArray) (most : Int) (w : World) (hs : s.size ≤ maxLen) (hm : most ≤ 9223372036854775807) (ht : textL s.toList most = none) :
    Calls Try.prog 70 #[.string s, .int .i64 most] w fun e w' => e = .returned (.tuple #[.string ⟨#[]⟩, .int .i64 0]) ∧ Below w.heap.size w w' := by
  have K := takenumber_any s w hs
  unfold maxLen at hs
  unfold textL at ht
  cases h0 : takeL s.toList with
  | none =>
    rw [numV_none h0] at K
    have K := Lib.hid K
    clear ht h0
    go_enter Try.func70, Try.ntmps70
    go_wp2_with (first | (go_at_call 69; refine (K.out).mono ?_; rintro e w1 ⟨rfl, hb⟩; obtain ⟨hB, hS, hk⟩ := after (B := w.heap.size) (w := w) (by go_grown) (by go_size) hb; clear hb; clear hk))
    go_returns
    exact ⟨rfl, hB⟩
  | some r =>
    obtain ⟨v, n⟩ := r
    obtain ⟨k1, k2, k3, k4⟩ := takeL_bounds h0
    rw [numV_some h0] at K
    have K := Lib.hid K
    rw [h0] at ht
    simp only [ite_eq_left_iff, reduceCtorEq, imp_false, Decidable.not_not] at ht
    rw [size_list] at k2 ht
    have hn0 : ((n : Int) == 0) = false := by simp; omega
    clear h0
    by_cases g1 : s.size - n < v
    · have d1 : decide ((s.size : Int) - (n : Int) < (v : Int)) = true := by simp; omega
      clear ht
      go_enter Try.func70, Try.ntmps70
      go_wp2_with (first | (go_at_call 69; refine (K.out).mono ?_; rintro e w1 ⟨rfl, hb⟩; obtain ⟨hB, hS, hk⟩ := after (B := w.heap.size) (w := w) (by go_grown) (by go_size) hb; clear hb; clear hk))
      go_returns
      exact ⟨rfl, hB⟩
    · have d1 : decide ((s.size : Int) - (n : Int) < (v : Int)) = false := by simp; omega
      by_cases g2 : most < 0
      · clear ht
        go_enter Try.func70, Try.ntmps70
        go_wp2_with (first | (go_at_call 69; refine (K.out).mono ?_; rintro e w1 ⟨rfl, hb⟩; obtain ⟨hB, hS, hk⟩ := after (B := w.heap.size) (w := w) (by go_grown) (by go_size) hb; clear hb; clear hk))
        go_returns
        exact ⟨rfl, hB⟩
      · have g3 : most < (v : Int) := by omega
        clear ht
        go_enter Try.func70, Try.ntmps70
        go_wp2_with (first | (go_at_call 69; refine (K.out).mono ?_; rintro e w1 ⟨rfl, hb⟩; obtain ⟨hB, hS, hk⟩ := after (B := w.heap.size) (w := w) (by go_grown) (by go_size) hb; clear hb; clear hk))
        go_returns
        exact ⟨rfl, hB⟩

set_option maxRecDepth 100000 in
set_option maxHeartbeats 4000000 in
theorem taketext_yes (s : ByteArray) (most : Int) (w : World) (hs : s.size ≤ maxLen) (hm : most ≤ 9223372036854775807) (t : List UInt8) (m : Nat) (ht : textL s.toList most = some (t, m)) :
    Calls Try.prog 70 #[.string s, .int .i64 most] w fun e w' => e = .returned (.tuple #[.string (ofL t), .int .i64 m]) ∧ Below w.heap.size w w' := by
  have K := takenumber_any s w hs
  unfold maxLen at hs
  unfold textL at ht
  cases h0 : takeL s.toList with
  | none => rw [h0] at ht; cases ht
  | some r =>
    obtain ⟨v, n⟩ := r
    obtain ⟨k1, k2, k3, k4⟩ := takeL_bounds h0
    rw [numV_some h0] at K
    have K := Lib.hid K
    rw [h0] at ht
    simp only at ht
    by_cases hc : most < 0 ∨ most < (v : Int) ∨ s.toList.length - n < v
    · rw [if_pos hc] at ht; cases ht
    · rw [if_neg hc] at ht
      simp only [Option.some.injEq, Prod.mk.injEq] at ht
      obtain ⟨rfl, rfl⟩ := ht
      rw [size_list] at k2 hc
      have hn0 : ((n : Int) == 0) = false := by simp; omega
      have d1 : decide ((s.size : Int) - (n : Int) < (v : Int)) = false := by simp; omega
      have g2 : ¬ most < 0 := by omega
      have g3 : ¬ most < (v : Int) := by omega
      have hx : s.extract n (n + v) = ofL ((s.toList.drop n).take v) := by
        refine toList_inj.1 ?_
        rw [toList_extract, ofL_toList, List.drop_take, Nat.add_sub_cancel_left]
      have hv63 : (v : Int) ≤ 9223372036854775807 := by omega
      have hnv : n + v ≤ s.size := by omega
      obtain ⟨o, ho⟩ : ∃ o, o = ofL ((s.toList.drop n).take v) := ⟨_, rfl⟩
      rw [← ho] at hx ⊢
      have hnn : ((n : Int) + (v : Int)).toNat = n + v := by omega
      clear h0 hc ho
      go_enter Try.func70, Try.ntmps70
      go_wp2_with (first | (go_at_call 69; refine (K.out).mono ?_; rintro e w1 ⟨rfl, hb⟩; obtain ⟨hB, hS, hk⟩ := after (B := w.heap.size) (w := w) (by go_grown) (by go_size) hb; clear hb; clear hk))
      go_ret2
      exact ⟨by simp, hB⟩

theorem Left.keep {w w' : World} {b : Nat} {l : List UInt8} (h : Left w b l) (hb : Below w.heap.size w w') : Left w' b l := by
  have hl : b < w.heap.size := World.block_lt_of_cell? _ _ h.cell
  exact ⟨(hb.cell (p := ⟨b, 0, none⟩) hl).trans h.cell, (hb.frozen (p := ⟨b, 0, none⟩) hl).trans h.fro⟩
theorem took_below {b : Nat} {l : List UInt8} {w w' : World} (h : Left w b l) (hb : Below w.heap.size w w') : Took b l w w' := ⟨gb_below gb_row hb, h.keep hb⟩
theorem took_then {b : Nat} {l r : List UInt8} {w w1 w2 : World} (h : Took b l w w1) (k : Took b r w1 w2) : Took b r w w2 := ⟨gb_trans h.gb k.gb, k.left⟩

theorem rnew_any (s : ByteArray) (w : World) :
    Calls Try.prog 36 #[.string s] w fun e w' => e = .returned (.pointer (some ⟨w.heap.size, 0, none⟩)) ∧ w.alloc (.cells #[.string s] 90) = w' := by
  go_enter Try.func36, Try.ntmps36
  go_wp2
  go_returns
  exact ⟨rfl, rfl⟩
theorem rleft_any (l : List UInt8) (b : Nat) (w : World) (h : Left w b l) :
    Calls Try.prog 37 #[.pointer (some ⟨b, 0, none⟩)] w fun e w' => e = .returned (.int .i64 l.length) ∧ w = w' := by
  have hc := h.cell
  have hz := ofL_size l
  go_enter Try.func37, Try.ntmps37
  go_wp2
  go_returns
  exact ⟨rfl, rfl⟩

set_option maxHeartbeats 1000000 in
theorem rnum_r (b : Nat) (l : List UInt8) (w : World) (hs : l.length ≤ maxLen) (h : Left w b l) :
    Calls Try.prog 38 #[.pointer (some ⟨b, 0, none⟩)] w fun e w' => e = .returned (.tuple #[.int .u64 (numR l).1, .bool (numR l).2.1]) ∧ Took b (numR l).2.2 w w' := by
  have hs' : (ofL l).size ≤ maxLen := by rw [ofL_size]; exact hs
  have K := takenumber_any (ofL l) w hs'
  rw [ofL_toList] at K
  have H := Lib.hid h
  have hc := h.cell
  have hf := h.fro
  have hbl : b < w.heap.size := World.block_lt_of_cell? _ _ hc
  unfold maxLen at hs'
  unfold numR
  cases ht : takeL l with
  | none =>
    rw [numV_none ht] at K
    have K := Lib.hid K
    clear ht h hs
    go_enter Try.func38, Try.ntmps38
    go_wp2_with (first | (go_at_call 69; refine (K.out).mono ?_; rintro e w1 ⟨rfl, hb⟩; obtain ⟨hB, hS, hk⟩ := after (B := w.heap.size) (w := w) (by go_grown) (by go_size) hb; clear hb; obtain ⟨c0, f0, z0⟩ := hk (b) (by go_size); clear hk))
    go_returns
    exact ⟨rfl, took_below H.out hB⟩
  | some r =>
    obtain ⟨v, n⟩ := r
    obtain ⟨k1, k2, k3, k4⟩ := takeL_bounds ht
    rw [numV_some ht] at K
    have K := Lib.hid K
    have hn0 : ((n : Int) == 0) = false := by simp; omega
    have hd := ofL_drop l n
    have hnl : n ≤ (ofL l).size := by rw [ofL_size]; exact k2
    obtain ⟨s, hs0⟩ : ∃ s, s = ofL l := ⟨_, rfl⟩
    obtain ⟨o, ho⟩ : ∃ s, s = ofL (l.drop n) := ⟨_, rfl⟩
    rw [← hs0] at hc hd hnl hs' K
    rw [← ho] at hd
    have Ho := Lib.hid ho
    clear ht h hs k2 hs0 ho
    go_enter Try.func38, Try.ntmps38
    go_wp2_with (first | (go_at_call 69; refine (K.out).mono ?_; rintro e w1 ⟨rfl, hb⟩; obtain ⟨hB, hS, hk⟩ := after (B := w.heap.size) (w := w) (by go_grown) (by go_size) hb; clear hb; obtain ⟨c0, f0, z0⟩ := hk (b) (by go_size); clear hk))
    go_returns
    refine ⟨rfl, took_then (took_below H.out hB) ?_⟩
    rw [Ho.out]
    exact took_set (Left.keep H.out hB)

set_option maxHeartbeats 1000000 in
theorem rtext_r (b : Nat) (most : Int) (l : List UInt8) (w : World) (hm : most ≤ 9223372036854775807) (hs : l.length ≤ maxLen) (h : Left w b l) :
    Calls Try.prog 39 #[.pointer (some ⟨b, 0, none⟩), .int .i64 most] w fun e w' => e = .returned (.tuple #[.string (ofL (textR most l).1), .bool (textR most l).2.1]) ∧ Took b (textR most l).2.2 w w' := by
  have hs' : (ofL l).size ≤ maxLen := by rw [ofL_size]; exact hs
  have H := Lib.hid h
  have hc := h.cell
  have hf := h.fro
  have hbl : b < w.heap.size := World.block_lt_of_cell? _ _ hc
  unfold textR
  cases ht : textL l most with
  | none =>
    have K := Lib.hid (taketext_no (ofL l) most w hs' hm (by rw [ofL_toList]; exact ht))
    clear ht h hs hs'
    go_enter Try.func39, Try.ntmps39
    go_wp2_with (first | (go_at_call 70; refine (K.out).mono ?_; rintro e w1 ⟨rfl, hb⟩; obtain ⟨hB, hS, hk⟩ := after (B := w.heap.size) (w := w) (by go_grown) (by go_size) hb; clear hb; obtain ⟨c0, f0, z0⟩ := hk (b) (by go_size); clear hk))
    go_returns
    exact ⟨rfl, took_below H.out hB⟩
  | some r =>
    obtain ⟨t, n⟩ := r
    have K := Lib.hid (taketext_yes (ofL l) most w hs' hm t n (by rw [ofL_toList]; exact ht))
    have hb : 1 ≤ n ∧ n ≤ l.length := by
      unfold textL at ht
      cases h0 : takeL l with
      | none => rw [h0] at ht; cases ht
      | some r =>
        obtain ⟨v, q⟩ := r
        obtain ⟨k1, k2, k3, k4⟩ := takeL_bounds h0
        rw [h0] at ht
        simp only at ht
        split at ht
        · cases ht
        · simp only [Option.some.injEq, Prod.mk.injEq] at ht
          obtain ⟨_, rfl⟩ := ht
          omega
    obtain ⟨k1, k2⟩ := hb
    have hn0 : ((n : Int) == 0) = false := by simp; omega
    have hd := ofL_drop l n
    have hnl : n ≤ (ofL l).size := by rw [ofL_size]; exact k2
    unfold maxLen at hs'
    obtain ⟨s, hs0⟩ : ∃ s, s = ofL l := ⟨_, rfl⟩
    obtain ⟨o, ho⟩ : ∃ s, s = ofL (l.drop n) := ⟨_, rfl⟩
    obtain ⟨u, hu⟩ : ∃ s, s = ofL t := ⟨_, rfl⟩
    rw [← hs0] at hc hd hnl hs' K
    rw [← hu] at K ⊢
    rw [← ho] at hd
    have Ho := Lib.hid ho
    clear ht h hs k2 hs0 ho hu
    go_enter Try.func39, Try.ntmps39
    go_wp2_with (first | (go_at_call 70; refine (K.out).mono ?_; rintro e w1 ⟨rfl, hb⟩; obtain ⟨hB, hS, hk⟩ := after (B := w.heap.size) (w := w) (by go_grown) (by go_size) hb; clear hb; obtain ⟨c0, f0, z0⟩ := hk (b) (by go_size); clear hk))
    go_returns
    refine ⟨rfl, took_then (took_below H.out hB) ?_⟩
    rw [Ho.out]
    exact took_set (Left.keep H.out hB)

set_option maxHeartbeats 1000000 in
theorem rtake_one_no (b : Nat) (w : World) (h : Left w b []) :
    Calls Try.prog 71 #[.pointer (some ⟨b, 0, none⟩), .int .i64 1] w fun e w' => e = .returned (.tuple #[.string ⟨#[]⟩, .bool false]) ∧ w = w' := by
  have hc := h.cell
  have hf := h.fro
  have hz : (ofL []).size = 0 := ofL_size []
  go_enter Try.func71, Try.ntmps71
  go_wp2
  go_returns
  exact ⟨rfl, rfl⟩
set_option maxHeartbeats 1000000 in
theorem rtake_one_yes (b : Nat) (c : UInt8) (r : List UInt8) (w : World) (hs : (c :: r).length ≤ maxLen) (h : Left w b (c :: r)) :
    Calls Try.prog 71 #[.pointer (some ⟨b, 0, none⟩), .int .i64 1] w fun e w' => e = .returned (.tuple #[.string (ofL [c]), .bool true]) ∧ Took b r w w' := by
  have hc := h.cell
  have hf := h.fro
  have H := Lib.hid h
  have hz : (ofL (c :: r)).size = r.length + 1 := by rw [ofL_size]; rfl
  have e1 : (ofL (c :: r)).extract 0 1 = ofL [c] := by rw [ofL_extract]; rfl
  have e2 : (ofL (c :: r)).extract 1 (r.length + 1) = ofL r := by rw [← hz, ofL_drop]; rfl
  unfold maxLen at hs
  simp only [List.length_cons] at hs
  obtain ⟨s, hs0⟩ : ∃ s, s = ofL (c :: r) := ⟨_, rfl⟩
  obtain ⟨o, ho⟩ : ∃ s, s = ofL r := ⟨_, rfl⟩
  obtain ⟨u, hu⟩ : ∃ s, s = ofL [c] := ⟨_, rfl⟩
  rw [← hs0] at hc hz e1 e2
  rw [← ho] at e2
  rw [← hu] at e1 ⊢
  have Ho := Lib.hid ho
  clear h hs0 ho hu
  go_enter Try.func71, Try.ntmps71
  go_wp2
  go_returns
  refine ⟨rfl, ?_⟩
  rw [Ho.out]
  exact took_set H.out
set_option maxHeartbeats 1000000 in
theorem rbyte_r (b : Nat) (l : List UInt8) (w : World) (hs : l.length ≤ maxLen) (h : Left w b l) :
    Calls Try.prog 40 #[.pointer (some ⟨b, 0, none⟩)] w fun e w' => e = .returned (.tuple #[.int .u8 (byteR l).1.toNat, .bool (byteR l).2.1]) ∧ Took b (byteR l).2.2 w w' := by
  cases l with
  | nil =>
    have K := Lib.hid (rtake_one_no b w h)
    have H := Lib.hid h
    clear h hs
    go_enter Try.func40, Try.ntmps40
    go_wp2_with (first | (go_at_call 71; refine (K.out).mono ?_; rintro e w' ⟨rfl, rfl⟩))
    go_returns
    exact ⟨rfl, took_self H.out⟩
  | cons c r =>
    have K := Lib.hid (rtake_one_yes b c r w hs h)
    have hx := idx_first c r
    have hsz : (ofL [c]).size = 1 := by rw [ofL_size]; rfl
    obtain ⟨s1, hs1⟩ : ∃ s, s = ofL [c] := ⟨_, rfl⟩
    rw [← hs1] at K hx hsz
    clear h hs hs1
    go_enter Try.func40, Try.ntmps40
    go_wp2_with (first | (go_at_call 71; refine K.out.mono ?_; rintro e w1 ⟨rfl, hT⟩; have HT := Lib.hid hT; clear hT))
    go_returns
    exact ⟨rfl, HT.out⟩

end Go.Proofs.Ytfkghpomcaonfaa
