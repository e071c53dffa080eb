/-
  The walk of acreagelaw03.KeysRanges.
-/
import Derived.Test.YtdmepdjlfdigeaaRefKeysW
import Derived.Deep.RegionWith
import Derived.Deep.DeepCutAuto
namespace Go.Proofs.Ytdmepdjlfdigeaa
open Go.RowKit Go.Sort

set_option maxRecDepth 100000 in
set_option maxHeartbeats 2000000 in
theorem ranges_yes (al ah bl bh key : ByteArray) (w : World) (hal : al.size ≤ maxLen) (hah : ah.size ≤ maxLen) (hk : key.size ≤ maxLen) (hs : splitL al.toList ah.toList key.toList = true) :
    Calls Try.prog 4 #[.agg #[.string al, .string ah], .agg #[.string bl, .string bh], .string key] w fun e w' => e = .returned (.bool true) ∧ Below w.heap.size w w' := by
  have hv := split_pos al ah key hs
  clear hs
  go_enter Try.func4, Try.ntmps4
  go_upto_region 3 with (first | (go_at_call 10; refine (split_any _ _ _ _ hal hah hk).mono ?_; rintro e w1 ⟨rfl, hb⟩; obtain ⟨hB, hS, hk⟩ := after (B := w.heap.size) (w := w) (by go_grown) (by go_size) hb; clear hb; obtain ⟨c0, f0, z0⟩ := hk (w.heap.size) (by go_size); obtain ⟨c1, f1, z1⟩ := hk (w.heap.size + 1) (by go_size); clear hk) | (go_at_call 15; refine (rsplit_any _ _ _ _ hal hah hk).mono ?_; rintro e w2 ⟨rfl, hb⟩; obtain ⟨hB, hS, hk⟩ := after (B := w.heap.size) (w := w) (by go_grown) (by go_size) hb; clear hb; obtain ⟨c0, f0, z0⟩ := hk (w.heap.size) (by go_size); obtain ⟨c1, f1, z1⟩ := hk (w.heap.size + 1) (by go_size); obtain ⟨c2, f2, z2⟩ := hk (w1.heap.size) (by go_size); obtain ⟨c3, f3, z3⟩ := hk (w1.heap.size + 1) (by go_size); clear hk))
  refine wp_region_below (by kernel_rfl) (by kernel_rfl) (fun hkept => ?_)
  obtain ⟨r0, rf0⟩ := hkept (w.heap.size) (by go_size); obtain ⟨r1, rf1⟩ := hkept (w.heap.size + 1) (by go_size); obtain ⟨r2, rf2⟩ := hkept (w1.heap.size) (by go_size); obtain ⟨r3, rf3⟩ := hkept (w1.heap.size + 1) (by go_size); obtain ⟨r4, rf4⟩ := hkept (w2.heap.size) (by go_size); obtain ⟨r5, rf5⟩ := hkept (w2.heap.size + 1) (by go_size); clear hkept
  repeat (any_goals (first | go_big_quiet_step (first | (go_at_call 16; exact Calls.regrown_of (user_any _ _ hk)) | (go_at_call 17; exact Calls.regrown_of (ruser_any _ _ hk)) | (go_at_call 18; exact Calls.regrown_of (stored_any _ _ hk)) | (go_at_call 19; exact Calls.regrown_of (rstored_any _ _ hk)) | (go_at_call 13; exact Calls.regrown_of (check_any _ _ _ hal hah)) | (go_at_call 20; exact Calls.regrown_of (rcheck_any _ _ _ hal hah)) | (go_at_call 12; exact Calls.regrown_of (has_any _ _ _ _)) | (go_at_call 21; exact Calls.regrown_of (rhas_any _ _ _ _)) | (go_at_call 14; exact Calls.regrown_of (meet_any _ _ _ _ _)) | (go_at_call 22; exact Calls.regrown_of (rmeet_any _ _ _ _ _)) | (go_at_call 11; exact Calls.regrown_of (works_any _))) | quiet_step (first | (go_at_call 16; exact Calls.regrown_of (user_any _ _ hk)) | (go_at_call 17; exact Calls.regrown_of (ruser_any _ _ hk)) | (go_at_call 18; exact Calls.regrown_of (stored_any _ _ hk)) | (go_at_call 19; exact Calls.regrown_of (rstored_any _ _ hk)) | (go_at_call 13; exact Calls.regrown_of (check_any _ _ _ hal hah)) | (go_at_call 20; exact Calls.regrown_of (rcheck_any _ _ _ hal hah)) | (go_at_call 12; exact Calls.regrown_of (has_any _ _ _ _)) | (go_at_call 21; exact Calls.regrown_of (rhas_any _ _ _ _)) | (go_at_call 14; exact Calls.regrown_of (meet_any _ _ _ _ _)) | (go_at_call 22; exact Calls.regrown_of (rmeet_any _ _ _ _ _)) | (go_at_call 11; exact Calls.regrown_of (works_any _))) | (refine wpQuiet_step (fun K hK => ?_); go_simp; split <;> (refine hK _ ?_; clear hK K))))
  all_goals (refine wpQuiet_nil ?_; intro w3 hb; obtain ⟨hB, hS, hk⟩ := after (B := w.heap.size) (w := w) (by go_grown) (by go_size) hb; obtain ⟨c0, f0, z0⟩ := hk (w.heap.size) (by go_size); obtain ⟨c1, f1, z1⟩ := hk (w.heap.size + 1) (by go_size); obtain ⟨c2, f2, z2⟩ := hk (w1.heap.size) (by go_size); obtain ⟨c3, f3, z3⟩ := hk (w1.heap.size + 1) (by go_size); obtain ⟨c4, f4, z4⟩ := hk (w2.heap.size) (by go_size); obtain ⟨c5, f5, z5⟩ := hk (w2.heap.size + 1) (by go_size); clear hk hb r0 rf0 r1 rf1 r2 rf2 r3 rf3 r4 rf4 r5 rf5)
  go_wp2
  go_returns
  exact ⟨rfl, by go_grown⟩

set_option maxRecDepth 100000 in
set_option maxHeartbeats 2000000 in
theorem ranges_no (al ah bl bh key : ByteArray) (w : World) (hal : al.size ≤ maxLen) (hah : ah.size ≤ maxLen) (hk : key.size ≤ maxLen) (hs : splitL al.toList ah.toList key.toList = false) :
    Calls Try.prog 4 #[.agg #[.string al, .string ah], .agg #[.string bl, .string bh], .string key] w fun e w' => e = .returned (.bool true) ∧ Below w.heap.size w w' := by
  have hv := split_neg al ah key hs
  clear hs
  go_enter Try.func4, Try.ntmps4
  go_upto_region 3 with (first | (go_at_call 10; refine (split_any _ _ _ _ hal hah hk).mono ?_; rintro e w1 ⟨rfl, hb⟩; obtain ⟨hB, hS, hk⟩ := after (B := w.heap.size) (w := w) (by go_grown) (by go_size) hb; clear hb; obtain ⟨c0, f0, z0⟩ := hk (w.heap.size) (by go_size); obtain ⟨c1, f1, z1⟩ := hk (w.heap.size + 1) (by go_size); clear hk) | (go_at_call 15; refine (rsplit_any _ _ _ _ hal hah hk).mono ?_; rintro e w2 ⟨rfl, hb⟩; obtain ⟨hB, hS, hk⟩ := after (B := w.heap.size) (w := w) (by go_grown) (by go_size) hb; clear hb; obtain ⟨c0, f0, z0⟩ := hk (w.heap.size) (by go_size); obtain ⟨c1, f1, z1⟩ := hk (w.heap.size + 1) (by go_size); obtain ⟨c2, f2, z2⟩ := hk (w1.heap.size) (by go_size); obtain ⟨c3, f3, z3⟩ := hk (w1.heap.size + 1) (by go_size); clear hk))
  refine wp_region_below (by kernel_rfl) (by kernel_rfl) (fun hkept => ?_)
  obtain ⟨r0, rf0⟩ := hkept (w.heap.size) (by go_size); obtain ⟨r1, rf1⟩ := hkept (w.heap.size + 1) (by go_size); obtain ⟨r2, rf2⟩ := hkept (w1.heap.size) (by go_size); obtain ⟨r3, rf3⟩ := hkept (w1.heap.size + 1) (by go_size); obtain ⟨r4, rf4⟩ := hkept (w2.heap.size) (by go_size); obtain ⟨r5, rf5⟩ := hkept (w2.heap.size + 1) (by go_size); clear hkept
  repeat (any_goals (first | go_big_quiet_step (first | (go_at_call 16; exact Calls.regrown_of (user_any _ _ hk)) | (go_at_call 17; exact Calls.regrown_of (ruser_any _ _ hk)) | (go_at_call 18; exact Calls.regrown_of (stored_any _ _ hk)) | (go_at_call 19; exact Calls.regrown_of (rstored_any _ _ hk)) | (go_at_call 13; exact Calls.regrown_of (check_any _ _ _ hal hah)) | (go_at_call 20; exact Calls.regrown_of (rcheck_any _ _ _ hal hah)) | (go_at_call 12; exact Calls.regrown_of (has_any _ _ _ _)) | (go_at_call 21; exact Calls.regrown_of (rhas_any _ _ _ _)) | (go_at_call 14; exact Calls.regrown_of (meet_any _ _ _ _ _)) | (go_at_call 22; exact Calls.regrown_of (rmeet_any _ _ _ _ _)) | (go_at_call 11; exact Calls.regrown_of (works_any _))) | quiet_step (first | (go_at_call 16; exact Calls.regrown_of (user_any _ _ hk)) | (go_at_call 17; exact Calls.regrown_of (ruser_any _ _ hk)) | (go_at_call 18; exact Calls.regrown_of (stored_any _ _ hk)) | (go_at_call 19; exact Calls.regrown_of (rstored_any _ _ hk)) | (go_at_call 13; exact Calls.regrown_of (check_any _ _ _ hal hah)) | (go_at_call 20; exact Calls.regrown_of (rcheck_any _ _ _ hal hah)) | (go_at_call 12; exact Calls.regrown_of (has_any _ _ _ _)) | (go_at_call 21; exact Calls.regrown_of (rhas_any _ _ _ _)) | (go_at_call 14; exact Calls.regrown_of (meet_any _ _ _ _ _)) | (go_at_call 22; exact Calls.regrown_of (rmeet_any _ _ _ _ _)) | (go_at_call 11; exact Calls.regrown_of (works_any _))) | (refine wpQuiet_step (fun K hK => ?_); go_simp; split <;> (refine hK _ ?_; clear hK K))))
  all_goals (refine wpQuiet_nil ?_; intro w3 hb; obtain ⟨hB, hS, hk⟩ := after (B := w.heap.size) (w := w) (by go_grown) (by go_size) hb; obtain ⟨c0, f0, z0⟩ := hk (w.heap.size) (by go_size); obtain ⟨c1, f1, z1⟩ := hk (w.heap.size + 1) (by go_size); obtain ⟨c2, f2, z2⟩ := hk (w1.heap.size) (by go_size); obtain ⟨c3, f3, z3⟩ := hk (w1.heap.size + 1) (by go_size); obtain ⟨c4, f4, z4⟩ := hk (w2.heap.size) (by go_size); obtain ⟨c5, f5, z5⟩ := hk (w2.heap.size + 1) (by go_size); clear hk hb r0 rf0 r1 rf1 r2 rf2 r3 rf3 r4 rf4 r5 rf5)
  go_wp2
  go_returns
  exact ⟨rfl, by go_grown⟩

end Go.Proofs.Ytdmepdjlfdigeaa
