/-
  The walk of acreagelaw03.KeysGap.
-/
import Derived.Test.YtdmepdjlfdigeaaGapW
import Derived.Test.YtdmepdjlfdigeaaSlice
namespace Go.Proofs.Ytdmepdjlfdigeaa
open Go.RowKit

def rgE (r : ByteArray × ByteArray) : List Value := [.string r.1, .string r.2]
theorem rgE_elems (rs : List (ByteArray × ByteArray)) : Elems 2 (rs.map rgE) := fun e he => by
  obtain ⟨r, _, rfl⟩ := List.mem_map.1 he
  exact ⟨rfl, fun u hu => by simp only [rgE, List.mem_cons, List.not_mem_nil, or_false] at hu; rcases hu with rfl | rfl <;> rfl⟩
theorem Rgs.of_arr {w : World} {ao : Option Addr} {n cap : Nat} {rs : List (ByteArray × ByteArray)} (h : Arr w 2 ao n cap (rs.map rgE)) (hok : ∀ r ∈ rs, r.1.size ≤ maxLen ∧ r.2.size ≤ maxLen) : Rgs w ao cap rs := by
  have hl := h.len
  rw [List.length_map] at hl
  subst hl
  refine ⟨h.fits, h.max, fun h0 => ?_, hok⟩
  obtain ⟨b, off, e, hb, hc⟩ := h.lies h0
  exact ⟨b, off, e, hb, fun i r hr => hc i (rgE r) (by simp [hr]) 0 _ rfl, fun i r hr => hc i (rgE r) (by simp [hr]) 1 _ rfl⟩
theorem Try.info_rg : (Try.prog.info? 23).map (fun i => (i.zero, i.size, i.bytes)) = some (some (.agg #[.string ⟨#[]⟩, .string ⟨#[]⟩]), 2, 32) := by kernel_rfl

theorem gap_of (ao : Option Addr) (n cap : Nat) (rs : List (ByteArray × ByteArray)) (w : World) (hl : rs.length = n) (h : Rgs w ao cap rs) :
    Calls Try.prog 23 #[.slice ao n cap] w fun e w' => e = .returned (gapV (gapL (rgL rs))) ∧ Below w.heap.size w w' := by
  subst hl; exact gap_any ao cap rs w h
theorem rgap_of (ao : Option Addr) (n cap : Nat) (rs : List (ByteArray × ByteArray)) (w : World) (hl : rs.length = n) (hle : n ≤ 1000000) (h : Rgs w ao cap rs) :
    Calls Try.prog 24 #[.slice ao n cap] w fun e w' => e = .returned (gapV (gapL (rgL rs))) ∧ Below w.heap.size w w' := by
  subst hl; exact rgap_any ao cap rs w h hle

set_option maxRecDepth 100000 in
set_option maxHeartbeats 2000000 in
theorem keysgap_any (ao : Option Addr) (len cap : Nat) (rs : List (ByteArray × ByteArray)) (w : World) (h : Arr w 2 ao len cap (rs.map rgE)) (hok : ∀ r ∈ rs, r.1.size ≤ maxLen ∧ r.2.size ≤ maxLen) :
    Calls Try.prog 5 #[.slice ao len cap] w fun e w' => e = .returned (.bool true) ∧ Below w.heap.size w w' := by
  obtain ⟨n, hn⟩ : ∃ n : Nat, min (len : Int) 40 = n := ⟨min len 40, by omega⟩
  have hn1 : n ≤ 40 := by omega
  have hn2 : n ≤ len := by omega
  have hcap := h.fits
  have hmax := h.max
  unfold maxLen at hmax
  have hA := h.take hn2
  rw [← List.map_take] at hA
  have hok2 : ∀ r ∈ rs.take n, r.1.size ≤ maxLen ∧ r.2.size ≤ maxLen := fun r hr => hok r (List.mem_of_mem_take hr)
  have hlen : (rs.take n).length = n := by have := hA.len; rwa [List.length_map] at this
  generalize rs.take n = qs at *
  have HA := Lib.hid hA
  have Hok := Lib.hid hok2
  have Hlen := Lib.hid hlen
  clear hA hok2 hlen h hok
  obtain ⟨i0, hi, hz0, hz1, hz2⟩ := info_parts Try.info_rg
  go_enter Try.func5, Try.ntmps5
  obtain ⟨A, H, bb, hv⟩ : ∃ A H bb, gapV (gapL (rgL qs)) = .tuple #[.agg #[.string A, .string H], .bool bb] := by
    cases gapL (rgL qs) with
    | none => exact ⟨_, _, _, rfl⟩
    | some r => exact ⟨_, _, _, rfl⟩
  go_wp2_with (first | (at_builtin; refine wpList_append_arr _ rfl _ _ 34 rfl w.heap.size 23 i0 _ 2 32 Try.underlying34 hi hz0 hz1 hz2 rfl (by decide) _ 0 [] rfl (Row.nil _ _ _ _) rfl HA.out (by omega) (by unfold maxLen; omega) (by go_size) ?_; intro v1 w1 hr1 hb1 hg1; obtain ⟨ao1, cap1, rfl, hA1⟩ := Row.arr_new (by decide) hr1 (by rw [List.length_map]; exact Hlen.out) (rgE_elems qs); have HA1 := Lib.hid hA1; have hz1' := hb1.size; clear hA1 hr1 hg1) | (go_at_call 23; refine (gap_of _ _ _ qs _ Hlen.out (Rgs.of_arr HA1.out Hok.out)).mono ?_; rintro e w2 ⟨rfl, hb⟩; obtain ⟨hB, hS, hk⟩ := after (B := w.heap.size) (w := w) (by go_grown) (by go_size) hb; have Hw2 := Lib.hid hb; clear hb; clear hk) | (go_at_call 24; refine (rgap_of _ _ _ qs _ Hlen.out (by omega) (Rgs.of_arr ((HA.out.below (by assumption)).below (by go_grown)) Hok.out)).mono ?_; rintro e w3 ⟨rfl, hb⟩; obtain ⟨hB, hS, hk⟩ := after (B := w.heap.size) (w := w) (by go_grown) (by go_size) hb; have Hw3 := Lib.hid hb; clear hb; obtain ⟨c0, f0, z0⟩ := hk (w2.heap.size) (by go_size); clear hk))
  obtain ⟨W4, hW4⟩ : ∃ W4, w3.alloc (.cells #[.string A, .string H] 23) = W4 := ⟨_, rfl⟩
  obtain ⟨s0, s1, s2, s3, s4, s5, s6, s7⟩ : Below w.heap.size w W4 ∧ w2.heap.size < W4.heap.size ∧ w3.heap.size < W4.heap.size ∧ W4.cell? ⟨w2.heap.size, 0, none⟩ = some (.string A) ∧ W4.cell? ⟨w2.heap.size, 1, none⟩ = some (.string H) ∧ W4.cell? ⟨w3.heap.size, 0, none⟩ = some (.string A) ∧ W4.cell? ⟨w3.heap.size, 1, none⟩ = some (.string H) ∧ Below w1.heap.size w1 W4 := by
    subst hW4
    exact ⟨by go_grown, by go_size, by go_size, by go_simp, by go_simp, by go_simp, by go_simp, ((Hw2.out.alloc Hw2.out.size _).trans (Hw3.out.mono (by have := Hw2.out.size; simp; omega))).alloc (by have := Hw2.out.size; have := Hw3.out.size; simp at this; omega) _⟩
  rw [hW4]
  clear hW4 hv
  have HA0 := Lib.hid (HA.out.below (w' := W4) (Below.mono (by go_grown) (by go_size)))
  have HA2 := Lib.hid (HA1.out.below s7)
  have hzW : w.heap.size ≤ W4.heap.size := s0.size
  clear HA HA1 s7
  go_loopw [8] (fun i wr => ∃ k : Nat, k ≤ n ∧ i = .int .i64 k ∧ Below W4.heap.size W4 wr) (fun i _ => n - (intOf i).toNat)
  case atStart => exact ⟨0, by omega, rfl, Below.refl _ _⟩
  case round =>
    obtain ⟨k, hk, rfl, hbr⟩ := hrel
    obtain ⟨k0, k0f⟩ := keep_of hbr w2.heap.size s1
    obtain ⟨k1, k1f⟩ := keep_of hbr w3.heap.size s2
    have hzr := hbr.size
    by_cases hlt : k < n
    · obtain ⟨x, hx⟩ : ∃ x, qs[k]? = some x := ⟨_, List.getElem?_eq_getElem (by rw [Hlen.out]; omega)⟩
      obtain ⟨b, off, rfl, hb, hc⟩ := (HA0.out.below hbr).at_ (i := k) (e := rgE x) (by simp [hx])
      obtain ⟨b1, off1, rfl, hb1', hc1⟩ := (HA2.out.below hbr).at_ (i := k) (e := rgE x) (by simp [hx])
      have d0 := hc 0 _ rfl
      have d1 := hc 1 _ rfl
      have d2 := hc1 0 _ rfl
      have d3 := hc1 1 _ rfl
      simp only [Nat.add_zero] at d0 d2
      clear hx hc hc1
      go_wp2
      refine wp_region_below (by kernel_rfl) (by kernel_rfl) (fun hkept => ?_)
      obtain ⟨r0, rf0⟩ := hkept (b) (by go_size); obtain ⟨r1, rf1⟩ := hkept (b1) (by go_size); obtain ⟨r2, rf2⟩ := hkept (w2.heap.size) (by go_size); obtain ⟨r3, rf3⟩ := hkept (w3.heap.size) (by go_size); clear hkept
      repeat (any_goals (first | go_big_quiet_step (fail) | quiet_step (fail) | (refine wpQuiet_step (fun K hK => ?_); go_simp; split <;> (refine hK _ ?_; clear hK K))))
      all_goals (refine wpQuiet_nil ?_; intro w5 hb; obtain ⟨hB, hS, hk⟩ := after (B := W4.heap.size) (w := W4) (by go_grown) (by go_size) hb; obtain ⟨c0, f0, z0⟩ := hk (b) (by go_size); obtain ⟨c1, f1, z1⟩ := hk (b1) (by go_size); obtain ⟨c2, f2, z2⟩ := hk (w2.heap.size) (by go_size); obtain ⟨c3, f3, z3⟩ := hk (w3.heap.size) (by go_size); clear hk hb r0 rf0 r1 rf1 r2 rf2 r3 rf3)
      go_wp2
      go_roundw
      case rel => exact ⟨k + 1, by omega, by go_num, hB⟩
      case measure => simp [intOf]; omega
    · obtain rfl : k = n := by omega
      have hbw := s0.trans (hbr.mono hzW)
      go_wp2_with (first | (go_at_call 11; refine (works_any _).mono ?_; rintro e w6 ⟨rfl, hb⟩; obtain ⟨hB, hS, hk⟩ := after (B := w.heap.size) (w := w) (by go_grown) (by go_size) hb; clear hb; clear hk))
      go_returns
      exact ⟨rfl, by go_grown⟩

end Go.Proofs.Ytdmepdjlfdigeaa
