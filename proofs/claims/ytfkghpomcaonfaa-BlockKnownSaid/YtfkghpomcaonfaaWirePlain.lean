/-
  Plain facts on numbers and texts as bytes; no program in sight.
-/
namespace Go.Proofs.Ytfkghpomcaonfaa

/-- A number's bytes. -/
def numL (v : Nat) : List UInt8 := if h : v < 128 then [UInt8.ofNat v] else UInt8.ofNat (v % 128 + 128) :: numL (v / 128)
termination_by v
decreasing_by omega

theorem numL_small {v : Nat} (h : v < 128) : numL v = [UInt8.ofNat v] := by rw [numL]; simp [h]
theorem numL_big {v : Nat} (h : 128 ≤ v) : numL v = UInt8.ofNat (v % 128 + 128) :: numL (v / 128) := by
  rw [numL]; have : ¬ v < 128 := by omega
  simp [this]

theorem numL_length (k : Nat) : ∀ v, v < 128 ^ (k + 1) → (numL v).length ≤ k + 1 := by
  induction k with
  | zero => intro v h; rw [numL_small (by simpa using h)]; simp
  | succ k ih =>
    intro v h
    by_cases hv : v < 128
    · rw [numL_small hv]; simp
    · rw [numL_big (by omega)]
      have := ih (v / 128) (by rw [Nat.pow_succ] at h; omega)
      simp only [List.length_cons]; omega
theorem numL_pos (v : Nat) : 1 ≤ (numL v).length := by
  by_cases hv : v < 128
  · rw [numL_small hv]; simp
  · rw [numL_big (by omega)]; simp
theorem numL_ten {v : Nat} (h : v < 2 ^ 64) : (numL v).length ≤ 10 := numL_length 9 v (by omega)

/-- What a number's reading comes to: the rest's, at place i: the value (relative to the place), how many bytes. -/
def getL : Nat → List UInt8 → Option (Nat × Nat)
  | _, [] => none
  | i, c :: s =>
    if i = 9 ∧ 1 < c.toNat then none
    else if 128 ≤ c.toNat then (getL (i + 1) s).map fun r => (c.toNat - 128 + 128 * r.1, r.2 + 1)
    else if c.toNat = 0 ∧ 0 < i then none
    else some (c.toNat, 1)

theorem getL_cons (i : Nat) (c : UInt8) (s : List UInt8) : getL i (c :: s) = if i = 9 ∧ 1 < c.toNat then none else if 128 ≤ c.toNat then (getL (i + 1) s).map fun r => (c.toNat - 128 + 128 * r.1, r.2 + 1) else if c.toNat = 0 ∧ 0 < i then none else some (c.toNat, 1) := by rw [getL]

def takeL (s : List UInt8) : Option (Nat × Nat) := getL 0 s

theorem getL_bounds : ∀ (s : List UInt8) (i v n : Nat), getL i s = some (v, n) → 1 ≤ n ∧ n ≤ s.length ∧ (i ≤ 9 → n + i ≤ 10 ∧ v < 2 ^ (64 - 7 * i))
  | [], i, v, n, h => by simp [getL] at h
  | c :: s, i, v, n, h => by
    have hc := c.toNat_lt
    unfold getL at h
    split at h
    · simp at h
    · rename_i h9
      split at h
      · rename_i h128
        cases hr : getL (i + 1) s with
        | none => rw [hr] at h; simp at h
        | some r =>
          rw [hr] at h
          simp only [Option.map_some, Option.some.injEq, Prod.mk.injEq] at h
          obtain ⟨rfl, rfl⟩ := h
          obtain ⟨b1, b2, b4⟩ := getL_bounds s (i + 1) r.1 r.2 hr
          simp only [List.length_cons]
          refine ⟨by omega, by omega, fun hi => ?_⟩
          have hi9 : i ≠ 9 := by rintro rfl; exact h9 ⟨rfl, by omega⟩
          obtain ⟨b3, b5⟩ := b4 (by omega)
          have e : 2 ^ (64 - 7 * i) = 128 * 2 ^ (64 - 7 * (i + 1)) := by
            rw [show 64 - 7 * i = 7 + (64 - 7 * (i + 1)) by omega, Nat.pow_add]
          refine ⟨by omega, ?_⟩
          rw [e]
          omega
      · split at h
        · simp at h
        · simp only [Option.some.injEq, Prod.mk.injEq] at h
          obtain ⟨rfl, rfl⟩ := h
          simp only [List.length_cons]
          refine ⟨by omega, by omega, fun hi => ⟨by omega, ?_⟩⟩
          by_cases h9' : i = 9
          · subst h9'; omega
          · have : 2 ^ 7 ≤ 2 ^ (64 - 7 * i) := Nat.pow_le_pow_right (by omega) (by omega)
            omega

/-- Put and read back. -/
theorem getL_numL : ∀ (k i v : Nat) (s : List UInt8), i + k = 9 → v < 2 ^ (64 - 7 * i) → (0 < i → 0 < v) → getL i (numL v ++ s) = some (v, (numL v).length)
  | k, i, v, s, hk, hv, h0 => by
    by_cases hs : v < 128
    · rw [numL_small hs]
      have e : (UInt8.ofNat v).toNat = v := by simp [UInt8.toNat_ofNat']; omega
      simp only [List.cons_append, List.nil_append, getL, e, List.length_cons, List.length_nil]
      rw [if_neg, if_neg (by omega), if_neg (by omega)]
      rintro ⟨rfl, h⟩
      omega
    · have hk9 : i ≠ 9 := by rintro rfl; omega
      rw [numL_big (by omega)]
      have e : (UInt8.ofNat (v % 128 + 128)).toNat = v % 128 + 128 := by simp [UInt8.toNat_ofNat']; omega
      have ep : 2 ^ (64 - 7 * i) = 128 * 2 ^ (64 - 7 * (i + 1)) := by
        rw [show 64 - 7 * i = 7 + (64 - 7 * (i + 1)) by omega, Nat.pow_add]
      have r := getL_numL (k - 1) (i + 1) (v / 128) s (by omega) (by rw [ep] at hv; omega) (fun _ => by omega)
      simp only [List.cons_append, getL, e, r, Option.map_some, List.length_cons]
      rw [if_neg (by omega), if_pos (by omega)]
      simp only [Option.some.injEq, Prod.mk.injEq, and_true]
      omega
termination_by k => k

theorem takeL_numL (v : Nat) (s : List UInt8) (h : v < 2 ^ 64) : takeL (numL v ++ s) = some (v, (numL v).length) := getL_numL 9 0 v s rfl (by simpa using h) (fun h => absurd h (by omega))

/-- What is read is put as just those bytes. -/
theorem numL_getL : ∀ (s : List UInt8) (i v n : Nat), getL i s = some (v, n) → numL v = s.take n ∧ (0 < i → 0 < v)
  | [], i, v, n, h => by simp [getL] at h
  | c :: s, i, v, n, h => by
    have hc := c.toNat_lt
    unfold getL at h
    split at h
    · simp at h
    · split at h
      · rename_i h9 h128
        cases hr : getL (i + 1) s with
        | none => rw [hr] at h; simp at h
        | some r =>
          rw [hr] at h
          simp only [Option.map_some, Option.some.injEq, Prod.mk.injEq] at h
          obtain ⟨rfl, rfl⟩ := h
          obtain ⟨e1, e2⟩ := numL_getL s (i + 1) r.1 r.2 hr
          have hp := e2 (by omega)
          refine ⟨?_, fun _ => by omega⟩
          rw [numL_big (by omega), List.take_succ_cons]
          have a1 : (c.toNat - 128 + 128 * r.1) / 128 = r.1 := by omega
          have a2 : (c.toNat - 128 + 128 * r.1) % 128 + 128 = c.toNat := by omega
          rw [a1, a2, e1]
          simp
      · split at h
        · simp at h
        · rename_i h9 h128 hz
          simp only [Option.some.injEq, Prod.mk.injEq] at h
          obtain ⟨rfl, rfl⟩ := h
          refine ⟨?_, fun hi => by omega⟩
          rw [numL_small (by omega)]
          simp

end Go.Proofs.Ytfkghpomcaonfaa
