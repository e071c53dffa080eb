/-
  Places: the walk of the document's Same on two places that are alike; the walk of the program's reader of a number that may be (meta.Decode$1).
-/
import Derived.Test.YtelangbockagnaaMetaEW
namespace Go.Proofs.Ytelangbockagnaa
open Go.RowKit

set_option maxRecDepth 100000 in
set_option maxHeartbeats 4000000 in
theorem rmsame_any (c : LocA) (ao ao2 : Option Addr) (n cap cap2 : Nat) (w : World) (h : Ints w ao n cap c.nd) (h2 : Ints w ao2 n cap2 c.nd) :
    Calls Try.prog 9 #[c.v ao n cap, c.v ao2 n cap2] w fun e w' => e = .returned (.bool true) ∧ Below w.heap.size w w' := by
  have hc1 := Arr.fits h
  have hc2 := Arr.max h
  have hc3 := Arr.fits h2
  have hc4 := Arr.max h2
  unfold maxLen at hc2 hc4
  have Hl := Lib.hid h.len
  have H := Lib.hid h
  have H2 := Lib.hid h2
  obtain ⟨gr, lo, hi, ep, nd⟩ := c
  simp only [LocA.v]
  simp only at Hl H H2
  clear h h2
  go_enter Try.func9, Try.ntmps9
  go_wp2
  go_loopw [5] (fun i wr => ∃ k : Nat, k ≤ n ∧ i = .int .i64 k ∧ Below w.heap.size w wr ∧ w.heap.size + 1 < wr.heap.size ∧ wr.cell? ⟨w.heap.size, 4, none⟩ = some (.slice ao n cap) ∧ wr.cell? ⟨w.heap.size + 1, 4, none⟩ = some (.slice ao2 n cap2)) (fun i _ => n - (intOf i).toNat)
  case atStart => exact ⟨0, by omega, rfl, by go_grown, by go_size, by go_simp, by go_simp⟩
  case round =>
    obtain ⟨k, hk, rfl, hB0, hzl, p4, q4⟩ := hrel
    have hzr := hB0.size
    by_cases hlt : k < n
    · obtain ⟨x, hx⟩ : ∃ x, nd[k]? = some x := ⟨_, List.getElem?_eq_getElem (by rw [Hl.out]; omega)⟩
      obtain ⟨b, off, e0, hb, x0⟩ := (H.out.below hB0).at_ hx
      cases e0
      obtain ⟨b2, off2, e0, hb2, y0⟩ := (H2.out.below hB0).at_ hx
      cases e0
      clear hx
      have hw0 : w.heap.size < wr.heap.size := by omega
      go_wp2
      refine wp_region_below (by kernel_rfl) (by kernel_rfl) (fun hkept => ?_)
      obtain ⟨r0, rf0⟩ := hkept (w.heap.size) (by go_size); obtain ⟨r1, rf1⟩ := hkept (w.heap.size + 1) (by go_size); obtain ⟨r2, rf2⟩ := hkept (b) (by go_size); obtain ⟨r3, rf3⟩ := hkept (b2) (by go_size); clear hkept
      repeat (any_goals (first | go_big_quiet_step (fail) | quiet_step (fail) | (refine wpQuiet_step (fun K hK => ?_); go_simp; split <;> (refine hK _ ?_; clear hK K))))
      all_goals (refine wpQuiet_nil ?_; intro w5 hb; obtain ⟨hB, hS, hk⟩ := after (B := wr.heap.size) (w := wr) (by go_grown) (by go_size) hb; obtain ⟨c0, f0, z0⟩ := hk (w.heap.size) (by go_size); obtain ⟨c1, f1, z1⟩ := hk (w.heap.size + 1) (by go_size); obtain ⟨c2, f2, z2⟩ := hk (b) (by go_size); obtain ⟨c3, f3, z3⟩ := hk (b2) (by go_size); clear hk hb r0 rf0 r1 rf1 r2 rf2 r3 rf3)
      go_wp2
      exact ⟨⟨k + 1, by omega, by go_num, hB0.trans (hB.mono hzr), by omega, by rw [c0]; exact p4, by rw [c1]; exact q4⟩, by simp [intOf]; omega⟩
    · obtain rfl : k = n := by omega
      go_wp2
      go_returns
      exact ⟨rfl, hB0⟩

/-- a number that may be -/
def mayN (l : List UInt8) (most : Nat) : Bool := (numR l).2.1 && decide ((numR l).1 ≤ most)
theorem keep_took {b : Nat} {l : List UInt8} {w w' : World} (h : Took b l w w') (k : Nat) (hk : k < w.heap.size) (hne : k ≠ b) : (∀ o, w'.cell? ⟨k, o, none⟩ = w.cell? ⟨k, o, none⟩) ∧ (∀ o, w'.frozen? ⟨k, o, none⟩ = w.frozen? ⟨k, o, none⟩) := by
  have hb := h.gb.block k hk (fun e => hne (Option.some.inj e))
  exact ⟨fun o => World.cell?_of_block hb, fun o => World.frozen?_of_block hb⟩

set_option maxHeartbeats 2000000 in
theorem numc_any (i most : Nat) (rb pr pw : Nat) (l : List UInt8) (w : World) (hi : i < 5) (hl : l.length ≤ maxLen) (h : Left w rb l) (hr : w.cell? ⟨pr, 0, none⟩ = some (.pointer (some ⟨rb, 0, none⟩))) (q : Bool) (hw : w.cell? ⟨pw, i, none⟩ = some (.bool q)) (hf : w.frozen? ⟨pw, i, none⟩ = false) (h1 : pr ≠ rb) (h2 : pw ≠ rb) :
    Calls Try.prog 21 #[.int .i64 i, .int .u64 most, .pointer (some ⟨pr, 0, none⟩), .pointer (some ⟨pw, 0, none⟩)] w
      fun e w' => e = .returned (.int .u64 (if mayN l most then (numR l).1 else 0 : Nat)) ∧ ∃ w1, Took rb (numR l).2.2 w w1 ∧ w' = w1.setCell ⟨pw, i, none⟩ (.bool (mayN l most)) := by
  have K := num_r rb l w hl h
  have hpw : pw < w.heap.size := World.block_lt_of_cell? _ _ hw
  unfold mayN
  obtain ⟨v, hv⟩ : ∃ v, v = (numR l).1 := ⟨_, rfl⟩
  obtain ⟨is0, his⟩ : ∃ v, v = (numR l).2.1 := ⟨_, rfl⟩
  obtain ⟨r, hr0⟩ : ∃ v, v = (numR l).2.2 := ⟨_, rfl⟩
  rw [← hv, ← his, ← hr0] at K ⊢
  have K := Lib.hid K
  clear hv his hr0 h hl
  cases is0
  · go_enter Try.func21, Try.ntmps21
    go_wp2_with (go_at_call 22; refine K.out.mono ?_; rintro e w1 ⟨rfl, hT⟩; have HT := Lib.hid hT; obtain ⟨c0, f0⟩ := keep_took hT pw hpw h2; clear hT)
    go_returns
    exact ⟨rfl, w1, HT.out, rfl⟩
  · by_cases hm : v ≤ most
    · have hd : decide (v ≤ most) = true := by simpa using hm
      have hd2 : decide ((v : Int) ≤ (most : Int)) = true := by simp; omega
      rw [hd]
      go_enter Try.func21, Try.ntmps21
      go_wp2_with (go_at_call 22; refine K.out.mono ?_; rintro e w1 ⟨rfl, hT⟩; have HT := Lib.hid hT; obtain ⟨c0, f0⟩ := keep_took hT pw hpw h2; clear hT)
      go_returns
      exact ⟨rfl, w1, HT.out, rfl⟩
    · have hd : decide (v ≤ most) = false := by simpa using hm
      have hd2 : decide ((v : Int) ≤ (most : Int)) = false := by simp; omega
      rw [hd]
      go_enter Try.func21, Try.ntmps21
      go_wp2_with (go_at_call 22; refine K.out.mono ?_; rintro e w1 ⟨rfl, hT⟩; have HT := Lib.hid hT; obtain ⟨c0, f0⟩ := keep_took hT pw hpw h2; clear hT)
      go_returns
      exact ⟨rfl, w1, HT.out, rfl⟩
end Go.Proofs.Ytelangbockagnaa
