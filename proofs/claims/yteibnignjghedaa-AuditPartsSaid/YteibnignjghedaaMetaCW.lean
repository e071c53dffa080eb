/-
  Places: the walks of the document's Members, of meta.Check, acreageref23.May, Check.
-/
import Derived.Test.YteibnignjghedaaMetaW
namespace Go.Proofs.Yteibnignjghedaa
open Go.RowKit

set_option maxRecDepth 100000 in
set_option maxHeartbeats 2000000 in
theorem rmembers_any (ao : Option Addr) (n cap : Nat) (l : List Int) (w : World) (h : Ints w ao n cap l) :
    Calls Try.prog 49 #[.slice ao n cap] w fun e w' => e = .returned (.int .i64 (errM (membersL l))) ∧ Below w.heap.size w w' := by
  have hc1 := Arr.fits h
  have hc2 := Arr.max h
  unfold maxLen at hc2
  have Hl := Lib.hid h.len
  have H := Lib.hid h
  clear h
  obtain ⟨R, hR⟩ : ∃ R, R = membersL l := ⟨_, rfl⟩
  rw [← hR]
  have HR := Lib.hid hR
  clear hR
  go_enter Try.func49, Try.ntmps49
  go_wp2
  go_loopw [3] (fun i wr => ∃ k : Nat, k ≤ n ∧ i = .int .i64 k ∧ Hid (risesF (lastI l k) (l.drop k) = risesF none l) ∧ Below w.heap.size w wr) (fun i _ => n - (intOf i).toNat)
  case atStart => exact ⟨0, by omega, rfl, Lib.hid (by simp [lastI]), Below.refl _ _⟩
  case round =>
    obtain ⟨k, hk, rfl, hQ, hB0⟩ := hrel
    have hzr := hB0.size
    by_cases hlt : k < n
    · obtain ⟨x, hx⟩ : ∃ x, l[k]? = some x := ⟨_, List.getElem?_eq_getElem (by rw [Hl.out]; omega)⟩
      obtain ⟨b, off, rfl, hb, x0⟩ := H.out.at_ hx
      have hk0 : (∀ o, wr.cell? ⟨b, o, none⟩ = w.cell? ⟨b, o, none⟩) := fun o => hB0.cell (p := ⟨b, o, none⟩) hb
      have hst := Lib.hid (rises_step hx)
      have hnd := Lib.hid fun W => rnode_any x W
      have hbad : Hid (risesF none l = false → R = false) := Lib.hid fun h => by rw [HR.out, membersL, h]; rfl
      cases k with
      | zero =>
        have hs2 : Hid ((nodeB x && risesF (lastI l (0 + 1)) (l.drop (0 + 1))) = risesF none l) := Lib.hid (by rw [← hQ.out, hst.out]; simp [riseB, lastI])
        obtain ⟨nb, hnb⟩ : ∃ b, b = nodeB x := ⟨_, rfl⟩
        rw [← hnb] at hs2 hnd
        clear hx hnb hst hQ
        simp only [Nat.add_zero] at x0
        cases nb
        · have hf := Lib.hid (hbad.out (by rw [← hs2.out]; rfl))
          go_wp2
          refine wp_region_below (by kernel_rfl) (by kernel_rfl) (fun hkept => ?_)
          obtain ⟨r0, rf0⟩ := hkept (b) (by go_size); clear hkept
          repeat (any_goals (first | go_big_quiet_step (first | (go_at_call 64; exact Calls.regrown_of (same_below (hnd.out _)))) | quiet_step (first | (go_at_call 64; exact Calls.regrown_of (same_below (hnd.out _)))) | (refine wpQuiet_step (fun K hK => ?_); go_simp; split <;> (refine hK _ ?_; clear hK K))))
          all_goals (refine wpQuiet_nil ?_; intro w5 hb; obtain ⟨hB, hS, hk⟩ := after (B := wr.heap.size) (w := wr) (by go_grown) (by go_size) hb; obtain ⟨c0, f0, z0⟩ := hk (b) (by go_size); clear hk hb r0 rf0)
          go_wp2
          go_returns
          exact ⟨by rw [hf.out]; rfl, hB0.trans (hB.mono hzr)⟩
        · go_wp2
          refine wp_region_below (by kernel_rfl) (by kernel_rfl) (fun hkept => ?_)
          obtain ⟨r0, rf0⟩ := hkept (b) (by go_size); clear hkept
          repeat (any_goals (first | go_big_quiet_step (first | (go_at_call 64; exact Calls.regrown_of (same_below (hnd.out _)))) | quiet_step (first | (go_at_call 64; exact Calls.regrown_of (same_below (hnd.out _)))) | (refine wpQuiet_step (fun K hK => ?_); go_simp; split <;> (refine hK _ ?_; clear hK K))))
          all_goals (refine wpQuiet_nil ?_; intro w5 hb; obtain ⟨hB, hS, hk⟩ := after (B := wr.heap.size) (w := wr) (by go_grown) (by go_size) hb; obtain ⟨c0, f0, z0⟩ := hk (b) (by go_size); clear hk hb r0 rf0)
          go_wp2
          exact ⟨⟨1, by omega, by go_num, Lib.hid (by have := hs2.out; simpa using this), hB0.trans (hB.mono hzr)⟩, by simp [intOf]; omega⟩
      | succ j =>
        obtain ⟨y, hy⟩ : ∃ y, l[j]? = some y := ⟨_, List.getElem?_eq_getElem (by rw [Hl.out]; omega)⟩
        obtain ⟨b', off', e', hb', y0⟩ := H.out.at_ hy
        cases e'
        have hs2 : Hid ((nodeB x && decide (y < x) && risesF (lastI l (j + 1 + 1)) (l.drop (j + 1 + 1))) = risesF none l) := Lib.hid (by rw [← hQ.out, hst.out, lastI_succ hy]; simp [riseB])
        obtain ⟨nb, hnb⟩ : ∃ b, b = nodeB x := ⟨_, rfl⟩
        rw [← hnb] at hs2 hnd
        clear hx hnb hst hQ hy hb'
        cases nb
        · have hf := Lib.hid (hbad.out (by rw [← hs2.out]; rfl))
          go_wp2
          refine wp_region_below (by kernel_rfl) (by kernel_rfl) (fun hkept => ?_)
          obtain ⟨r0, rf0⟩ := hkept (b) (by go_size); clear hkept
          repeat (any_goals (first | go_big_quiet_step (first | (go_at_call 64; exact Calls.regrown_of (same_below (hnd.out _)))) | quiet_step (first | (go_at_call 64; exact Calls.regrown_of (same_below (hnd.out _)))) | (refine wpQuiet_step (fun K hK => ?_); go_simp; split <;> (refine hK _ ?_; clear hK K))))
          all_goals (refine wpQuiet_nil ?_; intro w5 hb; obtain ⟨hB, hS, hk⟩ := after (B := wr.heap.size) (w := wr) (by go_grown) (by go_size) hb; obtain ⟨c0, f0, z0⟩ := hk (b) (by go_size); clear hk hb r0 rf0)
          go_wp2
          go_returns
          exact ⟨by rw [hf.out]; rfl, hB0.trans (hB.mono hzr)⟩
        · by_cases hyx : y < x
          · have hd : decide (y < x) = true := by simpa using hyx
            have hd2 : decide (x ≤ y) = false := by simp; omega
            rw [hd] at hs2
            go_wp2
            refine wp_region_below (by kernel_rfl) (by kernel_rfl) (fun hkept => ?_)
            obtain ⟨r0, rf0⟩ := hkept (b) (by go_size); clear hkept
            repeat (any_goals (first | go_big_quiet_step (first | (go_at_call 64; exact Calls.regrown_of (same_below (hnd.out _)))) | quiet_step (first | (go_at_call 64; exact Calls.regrown_of (same_below (hnd.out _)))) | (refine wpQuiet_step (fun K hK => ?_); go_simp; split <;> (refine hK _ ?_; clear hK K))))
            all_goals (refine wpQuiet_nil ?_; intro w5 hb; obtain ⟨hB, hS, hk⟩ := after (B := wr.heap.size) (w := wr) (by go_grown) (by go_size) hb; obtain ⟨c0, f0, z0⟩ := hk (b) (by go_size); clear hk hb r0 rf0)
            go_wp2
            exact ⟨⟨j + 1 + 1, by omega, by go_num, Lib.hid (by have := hs2.out; simpa using this), hB0.trans (hB.mono hzr)⟩, by simp [intOf]; omega⟩
          · have hd : decide (y < x) = false := by simpa using hyx
            have hd2 : decide (x ≤ y) = true := by simp; omega
            rw [hd] at hs2
            have hf := Lib.hid (hbad.out (by rw [← hs2.out]; rfl))
            go_wp2
            refine wp_region_below (by kernel_rfl) (by kernel_rfl) (fun hkept => ?_)
            obtain ⟨r0, rf0⟩ := hkept (b) (by go_size); clear hkept
            repeat (any_goals (first | go_big_quiet_step (first | (go_at_call 64; exact Calls.regrown_of (same_below (hnd.out _)))) | quiet_step (first | (go_at_call 64; exact Calls.regrown_of (same_below (hnd.out _)))) | (refine wpQuiet_step (fun K hK => ?_); go_simp; split <;> (refine hK _ ?_; clear hK K))))
            all_goals (refine wpQuiet_nil ?_; intro w5 hb; obtain ⟨hB, hS, hk⟩ := after (B := wr.heap.size) (w := wr) (by go_grown) (by go_size) hb; obtain ⟨c0, f0, z0⟩ := hk (b) (by go_size); clear hk hb r0 rf0)
            go_wp2
            go_returns
            exact ⟨by rw [hf.out]; rfl, hB0.trans (hB.mono hzr)⟩
    · obtain rfl : k = n := by omega
      have hfin : Hid (R = decide (0 < k)) := Lib.hid (by
        have hq := hQ.out
        rw [List.drop_eq_nil_of_le (by rw [Hl.out]; exact Nat.le_refl _), risesF] at hq
        rw [HR.out, membersL, ← hq]
        cases l with
        | nil => have := Hl.out; simp at this; subst this; rfl
        | cons a r => have := Hl.out; simp at this; subst this; simp)
      rcases Nat.eq_zero_or_pos k with h0 | h0
      · subst h0
        go_wp2
        go_returns
        exact ⟨by rw [hfin.out]; rfl, hB0⟩
      · have hd : decide (0 < k) = true := by simpa using h0
        rw [hd] at hfin
        have hk0 : ((k : Int) == 0) = false := by rw [beq_eq_false_iff_ne]; omega
        go_wp2
        go_returns
        exact ⟨by rw [hfin.out]; rfl, hB0⟩

/-- a place -/
structure LocA where
  gr : Int
  lo : ByteArray
  hi : ByteArray
  ep : Int
  nd : List Int
def LocA.v (c : LocA) (ao : Option Addr) (n cap : Nat) : Value := .agg #[.int .i64 c.gr, .string c.lo, .string c.hi, .int .u64 c.ep, .slice ao n cap]
def okL (c : LocA) : Bool := decide (0 ≤ c.gr) && decide (c.gr < 12) && mayL c.lo.toList c.hi.toList && decide (c.ep ≤ 1099511627776) && membersL c.nd
structure LocA.Ok (c : LocA) : Prop where
  lo : c.lo.size ≤ maxLen
  hi : c.hi.size ≤ maxLen
  e0 : 0 ≤ c.ep
  e1 : c.ep ≤ 18446744073709551615

end Go.Proofs.Yteibnignjghedaa
