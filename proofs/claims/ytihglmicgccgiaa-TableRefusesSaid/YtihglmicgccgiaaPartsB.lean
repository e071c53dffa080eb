/-
  The document's Build. Printed by mkrbuild.py.
-/
import Derived.Test.YtihglmicgccgiaaBuildW
import Derived.Test.YtihglmicgccgiaaBlkRead
namespace Go.Proofs.Ytihglmicgccgiaa
open Go.RowKit

theorem aheadB_max {cs : List CellA} (h : ∀ c ∈ cs, c.Ok) (k : Nat) : (aheadB cs k).size ≤ maxLen := by
  by_cases h8 : k % 8 = 0
  · rw [aheadB_zero h8]; decide
  · rw [aheadB_prev h8]; exact prevB_max h k
theorem placesTo_no {cs : List CellA} {k : Nat} (h : ¬ k % 8 = 0) : placesTo cs (k + 1) = placesTo cs k := by rw [placesTo, if_neg h]
/-- the second loop of the document's Build -/
structure RBuildI (cs : List CellA) (w0 : World) (k : Nat) (sx sy : ByteArray) (wr : World) : Prop where
  x : sx = ofL (bodyTo cs k)
  y : sy = ofL (placesTo cs k)
  le : (bodyTo cs k).length ≤ 32768
  bel : Below w0.heap.size w0 wr

end Go.Proofs.Ytihglmicgccgiaa

/-
  block.parts.
-/
namespace Go.Proofs.Ytihglmicgccgiaa
open Go.RowKit

theorem byte_getD {s : ByteArray} {k : Nat} (h : k < s.size) : (s.toList[k]?.getD 0) = s[k] := by rw [byte_at h]; rfl
set_option maxRecDepth 100000 in
set_option maxHeartbeats 4000000 in
theorem partsB_short (s : ByteArray) (w : World) (h : s.size < 2 ∨ 32768 < s.size) :
    Calls Try.prog 51 #[.string s] w fun e w' => e = .returned (.tuple #[.string ⟨#[]⟩, .string ⟨#[]⟩, .bool false]) ∧ Below w.heap.size w w' := by
  by_cases h1 : s.size < 2
  · go_enter Try.func51, Try.ntmps51
    go_wp2
    go_returns
    exact ⟨rfl, by go_grown⟩
  · have h2 : 32768 < s.size := by omega
    go_enter Try.func51, Try.ntmps51
    go_wp2
    go_returns
    exact ⟨rfl, by go_grown⟩
theorem or_two (x y : Nat) (hx : x < 256) (hy : y < 256) : bits .or .i64 ((x : Int) * 256) (y : Int) = ((x * 256 + y : Nat) : Int) := by
  have hw : ∀ n : Int, 0 ≤ n → n < 2 ^ 63 → IntKind.i64.wrap n = n := by intro n h0 h1; rw [IntKind.wrap_i64]; omega
  have e1 : ((x : Int) * 256) = ((256 * x : Nat) : Int) := by omega
  rw [e1, (bits_nat .i64 63 (by decide) hw (256 * x) y (by omega) (by omega)).2]
  have := Nat.two_pow_add_eq_or_of_lt (show y < 2 ^ 8 by omega) x
  rw [show (2 : Nat) ^ 8 = 256 from rfl] at this
  rw [← this]
  congr 1
  omega
theorem wrap_two (m : Nat) (h : m < 65536) : wrap64 (2 * (m : Int)) = ((2 * m : Nat) : Int) := by unfold wrap64; omega
set_option maxRecDepth 100000 in
set_option maxHeartbeats 4000000 in
theorem partsB_long (s : ByteArray) (x y : UInt8) (m : Nat) (w : World) (h1 : ¬ s.size < 2) (h2 : ¬ 32768 < s.size) (hm : m = x.toNat * 256 + y.toNat) (h3 : s.size < 2 * m + 2) (i1 : ∀ W, (Instr.index 9 (.string s) (.int .i64 ((s.size : Int) - 2))).run Try.prog W = .ok (.int .u8 x.toNat) W)
    (i2 : ∀ W, (Instr.index 9 (.string s) (.int .i64 ((s.size : Int) - 1))).run Try.prog W = .ok (.int .u8 y.toNat) W) :
    Calls Try.prog 51 #[.string s] w fun e w' => e = .returned (.tuple #[.string ⟨#[]⟩, .string ⟨#[]⟩, .bool false]) ∧ Below w.heap.size w w' := by
  have hx := x.toNat_lt
  have hy := y.toNat_lt
  have hor := or_two x.toNat y.toNat hx hy
  rw [← hm] at hor
  have hwr := wrap_two m (by omega)
  have hmb : m < 65536 := by omega
  clear hm
  have h3i : (s.size : Int) < 2 * (m : Int) + 2 := by omega
  have h3d : decide ((s.size : Int) < 2 * (m : Int) + 2) = true := by simp only [decide_eq_true_eq]; omega
  go_enter Try.func51, Try.ntmps51
  go_wp2_with fail
  refine wp_region_below (by kernel_rfl) (by kernel_rfl) (fun hkept => ?_)
  clear hkept
  repeat (any_goals (first | go_big_quiet_step (fail) | quiet_step (fail) | (refine wpQuiet_step (fun K hK => ?_); go_simp; split <;> (refine hK _ ?_; clear hK K))))
  all_goals (refine wpQuiet_nil ?_; intro w1 hb; obtain ⟨hB, hS, hk⟩ := after (B := w.heap.size) (w := w) (by go_grown) (by go_size) hb; clear hk hb)
  go_wp2
  go_returns
  exact ⟨rfl, hB⟩
set_option maxRecDepth 100000 in
set_option maxHeartbeats 4000000 in
theorem partsB_yes (s : ByteArray) (x y : UInt8) (m : Nat) (w : World) (h1 : ¬ s.size < 2) (h2 : ¬ 32768 < s.size) (hm : m = x.toNat * 256 + y.toNat) (h3 : 2 * m + 2 ≤ s.size) (i1 : ∀ W, (Instr.index 9 (.string s) (.int .i64 ((s.size : Int) - 2))).run Try.prog W = .ok (.int .u8 x.toNat) W)
    (i2 : ∀ W, (Instr.index 9 (.string s) (.int .i64 ((s.size : Int) - 1))).run Try.prog W = .ok (.int .u8 y.toNat) W) :
    Calls Try.prog 51 #[.string s] w fun e w' => e = .returned (.tuple #[.string (s.extract 0 (s.size - 2 - 2 * m)), .string (s.extract (s.size - 2 - 2 * m) (s.size - 2)), .bool true]) ∧ Below w.heap.size w w' := by
  have hx := x.toNat_lt
  have hy := y.toNat_lt
  have hor := or_two x.toNat y.toNat hx hy
  rw [← hm] at hor
  have hwr := wrap_two m (by omega)
  have hmb : m < 65536 := by omega
  clear hm
  go_enter Try.func51, Try.ntmps51
  go_wp2_with fail
  refine wp_region_below (by kernel_rfl) (by kernel_rfl) (fun hkept => ?_)
  clear hkept
  repeat (any_goals (first | go_big_quiet_step (fail) | quiet_step (fail) | (refine wpQuiet_step (fun K hK => ?_); go_simp; split <;> (refine hK _ ?_; clear hK K))))
  all_goals (refine wpQuiet_nil ?_; intro w1 hb; obtain ⟨hB, hS, hk⟩ := after (B := w.heap.size) (w := w) (by go_grown) (by go_size) hb; clear hk hb)
  go_wp2_with fail
  refine wp_region_below (by kernel_rfl) (by kernel_rfl) (fun hkept => ?_)
  clear hkept
  repeat (any_goals (first | go_big_quiet_step (fail) | quiet_step (fail) | (refine wpQuiet_step (fun K hK => ?_); go_simp; split <;> (refine hK _ ?_; clear hK K))))
  all_goals (refine wpQuiet_nil ?_; intro w2 hb; obtain ⟨hB, hS, hk⟩ := after (B := w.heap.size) (w := w) (by go_grown) (by go_size) hb; clear hk hb)
  go_wp2
  go_returns
  exact ⟨rfl, hB⟩
theorem parts_bytes (s : ByteArray) (h1 : ¬ s.size < 2) (h2 : ¬ 32768 < s.size) : ∃ (x y : UInt8), (∀ W, (Instr.index 9 (.string s) (.int .i64 ((s.size : Int) - 2))).run Try.prog W = .ok (.int .u8 x.toNat) W) ∧ (∀ W, (Instr.index 9 (.string s) (.int .i64 ((s.size : Int) - 1))).run Try.prog W = .ok (.int .u8 y.toNat) W) ∧
    partsL s.toList = if s.size < 2 * (x.toNat * 256 + y.toNat) + 2 then none else some (s.toList.take (s.size - 2 - 2 * (x.toNat * 256 + y.toNat)), (s.toList.take (s.size - 2)).drop (s.size - 2 - 2 * (x.toNat * 256 + y.toNat))) := by
  refine ⟨s[s.size - 2], s[s.size - 1], fun W => idx_at s (s.size - 2) (by omega) .i64 _ (by omega) W, fun W => idx_at s (s.size - 1) (by omega) .i64 _ (by omega) W, ?_⟩
  unfold partsL
  rw [size_list, if_neg (by omega), byte_getD (show s.size - 2 < s.size by omega), byte_getD (show s.size - 1 < s.size by omega)]
/-- block.parts -/
theorem partsB_none (s : ByteArray) (w : World) (h : partsL s.toList = none) :
    Calls Try.prog 51 #[.string s] w fun e w' => e = .returned (.tuple #[.string ⟨#[]⟩, .string ⟨#[]⟩, .bool false]) ∧ Below w.heap.size w w' := by
  by_cases h0 : s.size < 2 ∨ 32768 < s.size
  · exact partsB_short s w h0
  · obtain ⟨x, y, i1, i2, he⟩ := parts_bytes s (by omega) (by omega)
    rw [he] at h
    split at h
    · rename_i h3
      exact partsB_long s x y _ w (by omega) (by omega) rfl h3 i1 i2
    · cases h
theorem partsB_some (s : ByteArray) (b p : List UInt8) (w : World) (h : partsL s.toList = some (b, p)) :
    Calls Try.prog 51 #[.string s] w fun e w' => e = .returned (.tuple #[.string (ofL b), .string (ofL p), .bool true]) ∧ Below w.heap.size w w' := by
  by_cases h0 : s.size < 2 ∨ 32768 < s.size
  · unfold partsL at h
    rw [size_list, if_pos h0] at h
    cases h
  · obtain ⟨x, y, i1, i2, he⟩ := parts_bytes s (by omega) (by omega)
    rw [he] at h
    split at h
    · cases h
    · rename_i h3
      simp only [Option.some.injEq, Prod.mk.injEq] at h
      have := partsB_yes s x y _ w (by omega) (by omega) rfl (by omega) i1 i2
      refine this.mono ?_
      rintro e w' ⟨rfl, hb⟩
      refine ⟨?_, hb⟩
      have e1 : s.extract 0 (s.size - 2 - 2 * (x.toNat * 256 + y.toNat)) = ofL b := toList_inj.1 (by rw [toList_extract, ofL_toList, ← h.1]; simp)
      have e2 : s.extract (s.size - 2 - 2 * (x.toNat * 256 + y.toNat)) (s.size - 2) = ofL p := toList_inj.1 (by rw [toList_extract, ofL_toList, ← h.2])
      rw [e1, e2]
end Go.Proofs.Ytihglmicgccgiaa
