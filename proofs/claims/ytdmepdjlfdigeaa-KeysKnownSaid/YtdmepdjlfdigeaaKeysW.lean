/-
  The walks of package keys: what each call returns; the world below the heap's size stays as it was. No conditions but those stated.
-/
import Derived.Test.YtdmepdjlfdigeaaRows
import Derived.Test.YtdmepdjlfdigeaaPlain
import Derived.Test.YtdmepdjlfdigeaaQuiet
import Derived.WalkKit
import Derived.WalkSpells
import Derived.WalkLawsBesides
import Derived.BigQuiet
import Derived.Deep.QuietTactic
import Derived.Lib.Hide
import Derived.Lib.SmallJoins
import Derived.Handy
namespace Go.Proofs.Ytdmepdjlfdigeaa
open Go.RowKit

set_option maxHeartbeats 400000 in
theorem has_any (lo hi key : ByteArray) (w : World) :
    Calls Try.prog 12 #[.agg #[.string lo, .string hi], .string key] w fun e w' => e = .returned (.bool (hasL lo.toList hi.toList key.toList)) ∧ Below w.heap.size w w' := by
  go_enter Try.func12, Try.ntmps12
  go_wp2
  all_goals (go_ret; exact ⟨by simp_all [hasL, less_eq], (Below.refl _ _).alloc (Nat.le_refl _) _⟩)

def errB (b : Bool) : Int := if b then 0 else 2
theorem check_close (lo hi : ByteArray) (v : Int) (h : v = errB (mayL lo.toList hi.toList)) : Ending.returned (.int .i64 v) = .returned (.int .i64 (errB (mayL lo.toList hi.toList))) := by rw [h]
set_option maxHeartbeats 400000 in
theorem check_any (lo hi : ByteArray) (w : World) (hl : lo.size ≤ maxLen) (hh : hi.size ≤ maxLen) :
    Calls Try.prog 13 #[.agg #[.string lo, .string hi]] w fun e w' => e = .returned (.int .i64 (errB (mayL lo.toList hi.toList))) ∧ Below w.heap.size w w' := by
  unfold maxLen at hl hh
  go_enter Try.func13, Try.ntmps13
  go_wp2
  all_goals (go_ret; refine ⟨check_close _ _ _ ?_, (Below.refl _ _).alloc (Nat.le_refl _) _⟩)
  all_goals (simp only [less_eq, size_toList] at *; grind [errB, mayL])

def splitV (lo hi key : ByteArray) : Value := if splitL lo.toList hi.toList key.toList then .tuple #[.agg #[.string lo, .string key], .agg #[.string key, .string hi], .int .i64 0] else .tuple #[.agg #[.string ⟨#[]⟩, .string ⟨#[]⟩], .agg #[.string ⟨#[]⟩, .string ⟨#[]⟩], .int .i64 2]
theorem split_pos (lo hi key : ByteArray) (h : splitL lo.toList hi.toList key.toList = true) : splitV lo hi key = .tuple #[.agg #[.string lo, .string key], .agg #[.string key, .string hi], .int .i64 0] := by rw [splitV, if_pos h]
theorem split_neg (lo hi key : ByteArray) (h : splitL lo.toList hi.toList key.toList = false) : splitV lo hi key = .tuple #[.agg #[.string ⟨#[]⟩, .string ⟨#[]⟩], .agg #[.string ⟨#[]⟩, .string ⟨#[]⟩], .int .i64 2] := by rw [splitV, if_neg (by simp [h])]

set_option maxHeartbeats 1000000 in
theorem split_any (lo hi key : ByteArray) (w : World) (hl : lo.size ≤ maxLen) (hh : hi.size ≤ maxLen) (hk : key.size ≤ maxLen) :
    Calls Try.prog 10 #[.agg #[.string lo, .string hi], .string key] w fun e w' => e = .returned (splitV lo hi key) ∧ Below w.heap.size w w' := by
  have hlm := hl
  have hhm := hh
  unfold maxLen at hk
  by_cases hm : mayL lo.toList hi.toList = true
  · have he : errB (mayL lo.toList hi.toList) = 0 := by simp [errB, hm]
    by_cases hk2 : key.size ≤ 24
    · by_cases hlt : lo.toList < key.toList
      · obtain ⟨g1, g2⟩ := le_false _ _ hlt
        by_cases hhas : hasL lo.toList hi.toList key.toList = true
        · have hv := Lib.hid (split_pos lo hi key (by simp [splitL, hm, hhas, hlt]; rw [← size_toList]; exact hk2))
          clear hlt hm
          go_enter Try.func10, Try.ntmps10
          go_wp2_with (first | (go_at_call 13; refine (check_any _ _ _ hl hh).mono ?_; rintro e w1 ⟨rfl, hb⟩; obtain ⟨hB, hS, hk⟩ := after (B := w.heap.size) (w := w) (by go_grown) (by go_size) hb; clear hb; obtain ⟨c0, f0, z0⟩ := hk (w.heap.size) (by go_size); obtain ⟨c1, f1, z1⟩ := hk (w.heap.size + 1) (by go_size); obtain ⟨c2, f2, z2⟩ := hk (w.heap.size + 2) (by go_size); clear hk) | (go_at_call 12; refine (has_any _ _ _ _).mono ?_; rintro e w2 ⟨rfl, hb⟩; obtain ⟨hB, hS, hk⟩ := after (B := w.heap.size) (w := w) (by go_grown) (by go_size) hb; clear hb; obtain ⟨c0, f0, z0⟩ := hk (w.heap.size) (by go_size); obtain ⟨c1, f1, z1⟩ := hk (w.heap.size + 1) (by go_size); obtain ⟨c2, f2, z2⟩ := hk (w.heap.size + 2) (by go_size); clear hk))
          go_region
          go_wp2
          exact bodyPost_ret (v := splitV lo hi key) (by rw [hv.out]; simp [results, Try.results10, go_sem, *]) rfl ⟨rfl, by go_grown⟩
        · have hv := Lib.hid (split_neg lo hi key (by simp [splitL, hhas]))
          have hhas2 : hasL lo.toList hi.toList key.toList = false := by simpa using hhas
          clear hlt hm hhas
          go_enter Try.func10, Try.ntmps10
          go_wp2_with (first | (go_at_call 13; refine (check_any _ _ _ hl hh).mono ?_; rintro e w1 ⟨rfl, hb⟩; obtain ⟨hB, hS, hk⟩ := after (B := w.heap.size) (w := w) (by go_grown) (by go_size) hb; clear hb; obtain ⟨c0, f0, z0⟩ := hk (w.heap.size) (by go_size); obtain ⟨c1, f1, z1⟩ := hk (w.heap.size + 1) (by go_size); obtain ⟨c2, f2, z2⟩ := hk (w.heap.size + 2) (by go_size); clear hk) | (go_at_call 12; refine (has_any _ _ _ _).mono ?_; rintro e w2 ⟨rfl, hb⟩; obtain ⟨hB, hS, hk⟩ := after (B := w.heap.size) (w := w) (by go_grown) (by go_size) hb; clear hb; obtain ⟨c0, f0, z0⟩ := hk (w.heap.size) (by go_size); obtain ⟨c1, f1, z1⟩ := hk (w.heap.size + 1) (by go_size); obtain ⟨c2, f2, z2⟩ := hk (w.heap.size + 2) (by go_size); clear hk))
          exact bodyPost_ret (v := splitV lo hi key) (by rw [hv.out]; simp [results, Try.results10, go_sem, *]) rfl ⟨rfl, by go_grown⟩
      · have hv := Lib.hid (split_neg lo hi key (by simp [splitL, hlt]))
        have g := le_true _ _ hlt
        clear hlt hm
        go_enter Try.func10, Try.ntmps10
        go_wp2_with (first | (go_at_call 13; refine (check_any _ _ _ hl hh).mono ?_; rintro e w1 ⟨rfl, hb⟩; obtain ⟨hB, hS, hk⟩ := after (B := w.heap.size) (w := w) (by go_grown) (by go_size) hb; clear hb; obtain ⟨c0, f0, z0⟩ := hk (w.heap.size) (by go_size); obtain ⟨c1, f1, z1⟩ := hk (w.heap.size + 1) (by go_size); obtain ⟨c2, f2, z2⟩ := hk (w.heap.size + 2) (by go_size); clear hk))
        exact bodyPost_ret (v := splitV lo hi key) (by rw [hv.out]; simp [results, Try.results10, go_sem, *]) rfl ⟨rfl, by go_grown⟩
    · have hv := Lib.hid (split_neg lo hi key (by rw [size_toList] at hk2; simp [splitL, hk2]))
      clear hm
      go_enter Try.func10, Try.ntmps10
      go_wp2_with (first | (go_at_call 13; refine (check_any _ _ _ hl hh).mono ?_; rintro e w1 ⟨rfl, hb⟩; obtain ⟨hB, hS, hk⟩ := after (B := w.heap.size) (w := w) (by go_grown) (by go_size) hb; clear hb; obtain ⟨c0, f0, z0⟩ := hk (w.heap.size) (by go_size); obtain ⟨c1, f1, z1⟩ := hk (w.heap.size + 1) (by go_size); obtain ⟨c2, f2, z2⟩ := hk (w.heap.size + 2) (by go_size); clear hk))
      exact bodyPost_ret (v := splitV lo hi key) (by rw [hv.out]; simp [results, Try.results10, go_sem, *]) rfl ⟨rfl, by go_grown⟩
  · have hv := Lib.hid (split_neg lo hi key (by simp [splitL, hm]))
    have he : errB (mayL lo.toList hi.toList) = 2 := by simp [errB, hm]
    clear hm
    go_enter Try.func10, Try.ntmps10
    go_wp2_with (first | (go_at_call 13; refine (check_any _ _ _ hl hh).mono ?_; rintro e w1 ⟨rfl, hb⟩; obtain ⟨hB, hS, hk⟩ := after (B := w.heap.size) (w := w) (by go_grown) (by go_size) hb; clear hb; obtain ⟨c0, f0, z0⟩ := hk (w.heap.size) (by go_size); obtain ⟨c1, f1, z1⟩ := hk (w.heap.size + 1) (by go_size); obtain ⟨c2, f2, z2⟩ := hk (w.heap.size + 2) (by go_size); clear hk))
    exact bodyPost_ret (v := splitV lo hi key) (by rw [hv.out]; simp [results, Try.results10, go_sem, *]) rfl ⟨rfl, by go_grown⟩

end Go.Proofs.Ytdmepdjlfdigeaa
