/-
  The walks of the document's answers for keys (acreageref03).
-/
import Derived.Test.YtdmepdjlfdigeaaMeetW
namespace Go.Proofs.Ytdmepdjlfdigeaa
open Go.RowKit


def userL (key : List UInt8) : Bool := decide (key ≠ []) && decide (key.length ≤ 24)
def storedL (key : List UInt8) : Bool := decide (key.length ≤ 32)

set_option maxHeartbeats 400000 in
theorem user_any (key : ByteArray) (w : World) (hk : key.size ≤ maxLen) :
    Calls Try.prog 16 #[.string key] w fun e w' => e = .returned (.bool (userL key.toList)) ∧ Below w.heap.size w w' := by
  unfold maxLen at hk
  go_enter Try.func16, Try.ntmps16
  go_wp2
  all_goals (go_ret; refine ⟨ret_bool ?_, by go_grown⟩; simp only [size_toList] at *; grind [userL, List.length_eq_zero_iff])
set_option maxHeartbeats 400000 in
theorem ruser_any (key : ByteArray) (w : World) (hk : key.size ≤ maxLen) :
    Calls Try.prog 17 #[.string key] w fun e w' => e = .returned (.bool (userL key.toList)) ∧ Below w.heap.size w w' := by
  unfold maxLen at hk
  go_enter Try.func17, Try.ntmps17
  go_wp2
  all_goals (go_ret; refine ⟨ret_bool ?_, by go_grown⟩; simp only [size_toList] at *; grind [userL, List.length_eq_zero_iff])
set_option maxHeartbeats 400000 in
theorem stored_any (key : ByteArray) (w : World) (hk : key.size ≤ maxLen) :
    Calls Try.prog 18 #[.string key] w fun e w' => e = .returned (.bool (storedL key.toList)) ∧ Below w.heap.size w w' := by
  unfold maxLen at hk
  go_enter Try.func18, Try.ntmps18
  go_wp2
  all_goals (go_ret; refine ⟨ret_bool ?_, by go_grown⟩; simp only [size_toList] at *; grind [storedL])
set_option maxHeartbeats 400000 in
theorem rstored_any (key : ByteArray) (w : World) (hk : key.size ≤ maxLen) :
    Calls Try.prog 19 #[.string key] w fun e w' => e = .returned (.bool (storedL key.toList)) ∧ Below w.heap.size w w' := by
  unfold maxLen at hk
  go_enter Try.func19, Try.ntmps19
  go_wp2
  all_goals (go_ret; refine ⟨ret_bool ?_, by go_grown⟩; simp only [size_toList] at *; grind [storedL])

set_option maxHeartbeats 400000 in
theorem rhas_any (lo hi key : ByteArray) (w : World) :
    Calls Try.prog 21 #[.agg #[.string lo, .string hi], .string key] w fun e w' => e = .returned (.bool (hasL lo.toList hi.toList key.toList)) ∧ Below w.heap.size w w' := by
  go_enter Try.func21, Try.ntmps21
  go_wp2
  all_goals (go_ret; exact ⟨by simp_all [hasL, less_eq], by go_grown⟩)

theorem may_close (lo hi : ByteArray) (v : Bool) (h : v = mayL lo.toList hi.toList) : Ending.returned (.bool v) = .returned (.bool (mayL lo.toList hi.toList)) := by rw [h]
set_option maxHeartbeats 400000 in
theorem rmay_any (lo hi : ByteArray) (w : World) (hl : lo.size ≤ maxLen) (hh : hi.size ≤ maxLen) :
    Calls Try.prog 29 #[.agg #[.string lo, .string hi]] w fun e w' => e = .returned (.bool (mayL lo.toList hi.toList)) ∧ Below w.heap.size w w' := by
  unfold maxLen at hl hh
  go_enter Try.func29, Try.ntmps29
  go_wp2
  all_goals (go_ret; refine ⟨may_close _ _ _ ?_, by go_grown⟩)
  all_goals (simp only [less_eq, size_toList] at *; grind [mayL])

set_option maxHeartbeats 400000 in
theorem rcheck_any (lo hi : ByteArray) (w : World) (hl : lo.size ≤ maxLen) (hh : hi.size ≤ maxLen) :
    Calls Try.prog 20 #[.agg #[.string lo, .string hi]] w fun e w' => e = .returned (.int .i64 (errB (mayL lo.toList hi.toList))) ∧ Below w.heap.size w w' := by
  go_enter Try.func20, Try.ntmps20
  go_wp2_with (first | (go_at_call 29; refine (rmay_any _ _ _ hl hh).mono ?_; rintro e w1 ⟨rfl, hb⟩; obtain ⟨hB, hS, hk⟩ := after (B := w.heap.size) (w := w) (by go_grown) (by go_size) hb; clear hb; obtain ⟨c0, f0, z0⟩ := hk (w.heap.size) (by go_size); clear hk))
  all_goals (go_ret; exact ⟨ret_int (by grind [errB]), by go_grown⟩)

set_option maxHeartbeats 1000000 in
theorem rmeet_any (al ah bl bh : ByteArray) (w : World) :
    Calls Try.prog 22 #[.agg #[.string al, .string ah], .agg #[.string bl, .string bh]] w fun e w' => e = .returned (.bool (meetL al.toList ah.toList bl.toList bh.toList)) ∧ Below w.heap.size w w' := by
  by_cases hlt : al.toList < bl.toList
  · have g1 : Op.bytesLess al.toList bl.toList = true := by rw [less_eq]; simpa using hlt
    have g2 : (bl.toList == al.toList) = false := by simp; grind
    have g3 : Op.bytesLess bl.toList al.toList = false := by rw [less_eq]; simp; grind
    have hv : maxL al.toList bl.toList = bl.toList := by simp [maxL, hlt]
    have Hv := Lib.hid hv
    clear hlt hv
    go_enter Try.func22, Try.ntmps22
    go_wp2_with (first | (go_at_call 21; refine (rhas_any _ _ _ _).mono ?_; rintro e w1 ⟨rfl, hb⟩; obtain ⟨hB, hS, hk⟩ := after (B := w.heap.size) (w := w) (by go_grown) (by go_size) hb; clear hb; obtain ⟨c0, f0, z0⟩ := hk (w.heap.size) (by go_size); obtain ⟨c1, f1, z1⟩ := hk (w.heap.size + 1) (by go_size); clear hk))
    all_goals (go_returns; exact ⟨by simp [meetL, Hv.out, *], by go_grown⟩)
  · have g1 : Op.bytesLess al.toList bl.toList = false := by rw [less_eq]; simpa using hlt
    have g2 : (Op.bytesLess bl.toList al.toList || bl.toList == al.toList) = true := le_true _ _ hlt
    have hv : maxL al.toList bl.toList = al.toList := by simp [maxL, hlt]
    have Hv := Lib.hid hv
    clear hlt hv
    go_enter Try.func22, Try.ntmps22
    go_wp2_with (first | (go_at_call 21; refine (rhas_any _ _ _ _).mono ?_; rintro e w1 ⟨rfl, hb⟩; obtain ⟨hB, hS, hk⟩ := after (B := w.heap.size) (w := w) (by go_grown) (by go_size) hb; clear hb; obtain ⟨c0, f0, z0⟩ := hk (w.heap.size) (by go_size); obtain ⟨c1, f1, z1⟩ := hk (w.heap.size + 1) (by go_size); clear hk))
    all_goals (go_returns; exact ⟨by simp [meetL, Hv.out, *], by go_grown⟩)

set_option maxHeartbeats 1000000 in
theorem rsplit_any (lo hi key : ByteArray) (w : World) (hl : lo.size ≤ maxLen) (hh : hi.size ≤ maxLen) (hk : key.size ≤ maxLen) :
    Calls Try.prog 15 #[.agg #[.string lo, .string hi], .string key] w fun e w' => e = .returned (splitV lo hi key) ∧ Below w.heap.size w w' := by
  have hlm := hl
  have hhm := hh
  unfold maxLen at hk
  by_cases hm : mayL lo.toList hi.toList = true
  · by_cases hk2 : key.size ≤ 24
    · by_cases hlt : lo.toList < key.toList
      · obtain ⟨g1, g2⟩ := le_false _ _ hlt
        by_cases hhas : hasL lo.toList hi.toList key.toList = true
        · have hv := Lib.hid (split_pos lo hi key (by simp [splitL, hm, hhas, hlt]; rw [← size_toList]; exact hk2))
          clear hlt
          go_enter Try.func15, Try.ntmps15
          go_wp2_with (first | (go_at_call 29; refine (rmay_any _ _ _ hl hh).mono ?_; rintro e w1 ⟨rfl, hb⟩; obtain ⟨hB, hS, hk⟩ := after (B := w.heap.size) (w := w) (by go_grown) (by go_size) hb; clear hb; obtain ⟨c0, f0, z0⟩ := hk (w.heap.size) (by go_size); obtain ⟨c1, f1, z1⟩ := hk (w.heap.size + 1) (by go_size); obtain ⟨c2, f2, z2⟩ := hk (w.heap.size + 2) (by go_size); clear hk) | (go_at_call 21; refine (rhas_any _ _ _ _).mono ?_; rintro e w2 ⟨rfl, hb⟩; obtain ⟨hB, hS, hk⟩ := after (B := w.heap.size) (w := w) (by go_grown) (by go_size) hb; clear hb; obtain ⟨c0, f0, z0⟩ := hk (w.heap.size) (by go_size); obtain ⟨c1, f1, z1⟩ := hk (w.heap.size + 1) (by go_size); obtain ⟨c2, f2, z2⟩ := hk (w.heap.size + 2) (by go_size); clear hk))
          go_region
          go_wp2
          exact bodyPost_ret (v := splitV lo hi key) (by rw [hv.out]; simp [results, Try.results15, go_sem, *]) rfl ⟨rfl, by go_grown⟩
        · have hv := Lib.hid (split_neg lo hi key (by simp [splitL, hhas]))
          have hhas2 : hasL lo.toList hi.toList key.toList = false := by simpa using hhas
          clear hlt hhas
          go_enter Try.func15, Try.ntmps15
          go_wp2_with (first | (go_at_call 29; refine (rmay_any _ _ _ hl hh).mono ?_; rintro e w1 ⟨rfl, hb⟩; obtain ⟨hB, hS, hk⟩ := after (B := w.heap.size) (w := w) (by go_grown) (by go_size) hb; clear hb; obtain ⟨c0, f0, z0⟩ := hk (w.heap.size) (by go_size); obtain ⟨c1, f1, z1⟩ := hk (w.heap.size + 1) (by go_size); obtain ⟨c2, f2, z2⟩ := hk (w.heap.size + 2) (by go_size); clear hk) | (go_at_call 21; refine (rhas_any _ _ _ _).mono ?_; rintro e w2 ⟨rfl, hb⟩; obtain ⟨hB, hS, hk⟩ := after (B := w.heap.size) (w := w) (by go_grown) (by go_size) hb; clear hb; obtain ⟨c0, f0, z0⟩ := hk (w.heap.size) (by go_size); obtain ⟨c1, f1, z1⟩ := hk (w.heap.size + 1) (by go_size); obtain ⟨c2, f2, z2⟩ := hk (w.heap.size + 2) (by go_size); clear hk))
          exact bodyPost_ret (v := splitV lo hi key) (by rw [hv.out]; simp [results, Try.results15, go_sem, *]) rfl ⟨rfl, by go_grown⟩
      · have hv := Lib.hid (split_neg lo hi key (by simp [splitL, hlt]))
        have g := le_true _ _ hlt
        clear hlt
        go_enter Try.func15, Try.ntmps15
        go_wp2_with (first | (go_at_call 29; refine (rmay_any _ _ _ hl hh).mono ?_; rintro e w1 ⟨rfl, hb⟩; obtain ⟨hB, hS, hk⟩ := after (B := w.heap.size) (w := w) (by go_grown) (by go_size) hb; clear hb; obtain ⟨c0, f0, z0⟩ := hk (w.heap.size) (by go_size); obtain ⟨c1, f1, z1⟩ := hk (w.heap.size + 1) (by go_size); obtain ⟨c2, f2, z2⟩ := hk (w.heap.size + 2) (by go_size); clear hk))
        exact bodyPost_ret (v := splitV lo hi key) (by rw [hv.out]; simp [results, Try.results15, go_sem, *]) rfl ⟨rfl, by go_grown⟩
    · have hv := Lib.hid (split_neg lo hi key (by rw [size_toList] at hk2; simp [splitL, hk2]))
      go_enter Try.func15, Try.ntmps15
      go_wp2_with (first | (go_at_call 29; refine (rmay_any _ _ _ hl hh).mono ?_; rintro e w1 ⟨rfl, hb⟩; obtain ⟨hB, hS, hk⟩ := after (B := w.heap.size) (w := w) (by go_grown) (by go_size) hb; clear hb; obtain ⟨c0, f0, z0⟩ := hk (w.heap.size) (by go_size); obtain ⟨c1, f1, z1⟩ := hk (w.heap.size + 1) (by go_size); obtain ⟨c2, f2, z2⟩ := hk (w.heap.size + 2) (by go_size); clear hk))
      exact bodyPost_ret (v := splitV lo hi key) (by rw [hv.out]; simp [results, Try.results15, go_sem, *]) rfl ⟨rfl, by go_grown⟩
  · have hv := Lib.hid (split_neg lo hi key (by simp [splitL, hm]))
    have hm2 : mayL lo.toList hi.toList = false := by simpa using hm
    clear hm
    go_enter Try.func15, Try.ntmps15
    go_wp2_with (first | (go_at_call 29; refine (rmay_any _ _ _ hl hh).mono ?_; rintro e w1 ⟨rfl, hb⟩; obtain ⟨hB, hS, hk⟩ := after (B := w.heap.size) (w := w) (by go_grown) (by go_size) hb; clear hb; obtain ⟨c0, f0, z0⟩ := hk (w.heap.size) (by go_size); obtain ⟨c1, f1, z1⟩ := hk (w.heap.size + 1) (by go_size); obtain ⟨c2, f2, z2⟩ := hk (w.heap.size + 2) (by go_size); clear hk))
    exact bodyPost_ret (v := splitV lo hi key) (by rw [hv.out]; simp [results, Try.results15, go_sem, *]) rfl ⟨rfl, by go_grown⟩

end Go.Proofs.Ytdmepdjlfdigeaa
