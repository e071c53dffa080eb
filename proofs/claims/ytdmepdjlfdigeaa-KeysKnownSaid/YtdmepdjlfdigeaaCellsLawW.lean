/-
  The walks of acreageref03.Cmp, .Cell, and of the laws KeysCells, KeysOrder.
-/
import Derived.Test.YtdmepdjlfdigeaaCmpW
namespace Go.Proofs.Ytdmepdjlfdigeaa
open Go.RowKit Go.Sort

set_option maxHeartbeats 400000 in
theorem rorder_any (b : Bool) (w : World) :
    Calls Try.prog 35 #[.bool b] w fun e w' => e = .returned (.int .i64 (if b then -1 else 1)) ∧ w = w' := by
  cases b
  all_goals
    go_enter Try.func35, Try.ntmps35
    go_wp2
    go_ret
    exact ⟨rfl, rfl⟩

theorem cmpL_eq (a : List UInt8) : cmpL a a = 0 := by grind [cmpL]
theorem cmpL_ne (a b : List UInt8) (h : a ≠ b) : cmpL a b = if a < b then -1 else 1 := by grind [cmpL]

set_option maxHeartbeats 2000000 in
theorem rcmp_any (a b : CellA) (w : World) :
    Calls Try.prog 26 #[a.v, b.v] w fun e w' => e = .returned (.int .i64 (cmpC a b)) ∧ Below w.heap.size w w' := by
  obtain ⟨ar, ac, av, ag, al⟩ := a
  obtain ⟨br, bc, bv, bg, bl⟩ := b
  simp only [CellA.v, cmpC]
  go_enter Try.func26, Try.ntmps26
  go_wp2_with (go_at_call 35; refine (rorder_any _ _).mono ?_; rintro e w' ⟨rfl, rfl⟩)
  all_goals (go_ret; refine ⟨ret_int ?_, by go_grown⟩)
  all_goals (try simp only [less_eq] at *) <;> grind [orI, cmpL, cmpN]

set_option maxHeartbeats 400000 in
theorem rcell_any (c : CellA) (w : World) (h : c.Ok) :
    Calls Try.prog 28 #[c.v] w fun e w' => e = .returned (.int .i64 (errB (cellL c))) ∧ Below w.heap.size w w' := by
  have hm := fun W => rmaycell_any c W h
  obtain ⟨ar, ac, av, ag, al⟩ := c
  simp only [CellA.v] at hm ⊢
  have Hm := Lib.hid hm
  clear hm
  go_enter Try.func28, Try.ntmps28
  go_wp2_with (first | (go_at_call 36; refine (Hm.out _).mono ?_; rintro e w1 ⟨rfl, hb⟩; obtain ⟨hB, hS, hk⟩ := after (B := w.heap.size) (w := w) (by go_grown) (by go_size) hb; clear hb; obtain ⟨c0, f0, z0⟩ := hk (w.heap.size) (by go_size); clear hk))
  all_goals (go_ret; exact ⟨ret_int (by grind [errB]), by go_grown⟩)

theorem cmpC_neg (a b : CellA) : (cmpC a b = -1 ∧ cmpC b a = 1) ∨ (cmpC a b = 0 ∧ cmpC b a = 0) ∨ (cmpC a b = 1 ∧ cmpC b a = -1) := by
  grind [cmpC, orI, cmpL, cmpN]

theorem cmp_raw (ar ac : ByteArray) (av : Int) (ag : Bool) (al br bc : ByteArray) (bv : Int) (bg : Bool) (bl : ByteArray) (w : World) :
    Calls Try.prog 25 #[.agg #[.string ar, .string ac, .int .u64 av, .bool ag, .string al], .agg #[.string br, .string bc, .int .u64 bv, .bool bg, .string bl]] w
      fun e w' => e = .returned (.int .i64 (cmpC ⟨ar, ac, av, ag, al⟩ ⟨br, bc, bv, bg, bl⟩)) ∧ Below w.heap.size w w' := cmp_any ⟨ar, ac, av, ag, al⟩ ⟨br, bc, bv, bg, bl⟩ w
theorem rcmp_raw (ar ac : ByteArray) (av : Int) (ag : Bool) (al br bc : ByteArray) (bv : Int) (bg : Bool) (bl : ByteArray) (w : World) :
    Calls Try.prog 26 #[.agg #[.string ar, .string ac, .int .u64 av, .bool ag, .string al], .agg #[.string br, .string bc, .int .u64 bv, .bool bg, .string bl]] w
      fun e w' => e = .returned (.int .i64 (cmpC ⟨ar, ac, av, ag, al⟩ ⟨br, bc, bv, bg, bl⟩)) ∧ Below w.heap.size w w' := rcmp_any ⟨ar, ac, av, ag, al⟩ ⟨br, bc, bv, bg, bl⟩ w

set_option maxRecDepth 100000 in
set_option maxHeartbeats 2000000 in
theorem cells_law (a b : CellA) (w : World) (ha : a.Ok) :
    Calls Try.prog 8 #[a.v, b.v] w fun e w' => e = .returned (.bool true) ∧ Below w.heap.size w w' := by
  have h4 := Lib.hid fun W => cell_any a W ha
  have h5 := Lib.hid fun W => rcell_any a W ha
  have h6 := cmpC_neg a b
  generalize cellL a = z at *
  clear ha
  obtain ⟨ar, ac, av, ag, al⟩ := a
  obtain ⟨br, bc, bv, bg, bl⟩ := b
  simp only [CellA.v] at h4 h5 ⊢
  rcases h6 with ⟨e1, e2⟩ | ⟨e1, e2⟩ | ⟨e1, e2⟩
  all_goals
    go_enter Try.func8, Try.ntmps8
    go_wp2
    refine wp_region_below (by kernel_rfl) (by kernel_rfl) (fun hkept => ?_)
    obtain ⟨r0, rf0⟩ := hkept (w.heap.size) (by go_size); obtain ⟨r1, rf1⟩ := hkept (w.heap.size + 1) (by go_size); clear hkept
    repeat (any_goals (first | go_big_quiet_step (first | (go_at_call 25; exact Calls.regrown_of (cmp_raw _ _ _ _ _ _ _ _ _ _ _)) | (go_at_call 26; exact Calls.regrown_of (rcmp_raw _ _ _ _ _ _ _ _ _ _ _)) | (go_at_call 27; exact Calls.regrown_of (h4.out _)) | (go_at_call 28; exact Calls.regrown_of (h5.out _)) | (go_at_call 11; exact Calls.regrown_of (works_any _))) | quiet_step (first | (go_at_call 25; exact Calls.regrown_of (cmp_raw _ _ _ _ _ _ _ _ _ _ _)) | (go_at_call 26; exact Calls.regrown_of (rcmp_raw _ _ _ _ _ _ _ _ _ _ _)) | (go_at_call 27; exact Calls.regrown_of (h4.out _)) | (go_at_call 28; exact Calls.regrown_of (h5.out _)) | (go_at_call 11; exact Calls.regrown_of (works_any _))) | (refine wpQuiet_step (fun K hK => ?_); go_simp; split <;> (refine hK _ ?_; clear hK K))))
    all_goals (refine wpQuiet_nil ?_; intro w3 hb; obtain ⟨hB, hS, hk⟩ := after (B := w.heap.size) (w := w) (by go_grown) (by go_size) hb; obtain ⟨c0, f0, z0⟩ := hk (w.heap.size) (by go_size); obtain ⟨c1, f1, z1⟩ := hk (w.heap.size + 1) (by go_size); clear hk hb r0 rf0 r1 rf1)
    go_wp2
    go_returns
    exact ⟨rfl, by go_grown⟩

end Go.Proofs.Ytdmepdjlfdigeaa
