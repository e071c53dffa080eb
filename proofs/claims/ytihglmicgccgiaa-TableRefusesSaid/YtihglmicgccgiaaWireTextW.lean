/-
  The walks of package wire: numbers and texts read.
-/
import Derived.Test.YtihglmicgccgiaaWirePutW
namespace Go.Proofs.Ytihglmicgccgiaa
open Go.RowKit

theorem toList_extract (s : ByteArray) (i j : Nat) : (s.extract i j).toList = (s.toList.take j).drop i := by
  rw [Lib.toList_data, Lib.toList_data, Lib.extract_data, List.drop_take]
theorem toList_getElem (s : ByteArray) (k : Nat) (h : k < s.size) : s.toList.drop k = s[k] :: s.toList.drop (k + 1) := by
  rw [Lib.toList_data]
  have : k < s.data.toList.length := by simpa using h
  rw [List.drop_eq_getElem_cons this]
  simp
  rfl

set_option maxHeartbeats 400000 in
theorem new_any (s : ByteArray) (w : World) :
    Calls Try.prog 69 #[.string s] w fun e w' => e = .returned (.pointer (some ⟨w.heap.size, 0, none⟩)) ∧ w' = w.alloc (.cells #[.string s] 137) := by
  go_enter Try.func69, Try.ntmps69
  go_wp2
  go_ret
  exact ⟨rfl, rfl⟩

set_option maxHeartbeats 400000 in
theorem rest_any (s : ByteArray) (b : Nat) (w : World) (hc : w.cell? ⟨b, 0, none⟩ = some (.string s)) :
    Calls Try.prog 84 #[.pointer (some ⟨b, 0, none⟩)] w fun e w' => e = .returned (.string s) ∧ w = w' := by
  go_enter Try.func84, Try.ntmps84
  go_wp2
  go_ret
  exact ⟨rfl, rfl⟩


set_option maxHeartbeats 1000000 in
theorem take_yes (s : ByteArray) (b : Nat) (n : Int) (w : World) (hs : s.size ≤ maxLen) (h0 : 0 ≤ n) (h1 : n ≤ s.size) (hc : w.cell? ⟨b, 0, none⟩ = some (.string s)) (hf : w.frozen? ⟨b, 0, none⟩ = false) :
    Calls Try.prog 85 #[.pointer (some ⟨b, 0, none⟩), .int .i64 n] w fun e w' => e = .returned (.tuple #[.string (s.extract 0 n.toNat), .bool true]) ∧ w.setCell ⟨b, 0, none⟩ (.string (s.extract n.toNat s.size)) = w' := by
  obtain ⟨k, rfl⟩ := Int.eq_ofNat_of_zero_le h0
  unfold maxLen at hs
  go_enter Try.func85, Try.ntmps85
  go_wp2
  go_ret2
  exact ⟨rfl, rfl⟩
set_option maxHeartbeats 1000000 in
theorem take_no (s : ByteArray) (b : Nat) (n : Int) (w : World) (hs : s.size ≤ maxLen) (h : n < 0 ∨ (s.size : Int) < n) (hc : w.cell? ⟨b, 0, none⟩ = some (.string s)) :
    Calls Try.prog 85 #[.pointer (some ⟨b, 0, none⟩), .int .i64 n] w fun e w' => e = .returned (.tuple #[.string ⟨#[]⟩, .bool false]) ∧ w = w' := by
  unfold maxLen at hs
  rcases h with h | h
  · go_enter Try.func85, Try.ntmps85
    go_wp2
    go_ret2
    exact ⟨rfl, rfl⟩
  · by_cases hn : n < 0
    · clear h
      go_enter Try.func85, Try.ntmps85
      go_wp2
      go_ret2
      exact ⟨rfl, rfl⟩
    · go_enter Try.func85, Try.ntmps85
      go_wp2
      go_ret2
      exact ⟨rfl, rfl⟩

/-! ### number -/
def numV (l : List UInt8) : Value := match takeL l with
  | some r => .tuple #[.int .u64 r.1, .int .i64 r.2]
  | none => .tuple #[.int .u64 0, .int .i64 0]

/-- After k bytes: what is gathered, what is still to come. -/
structure NumRel (l : List UInt8) (k a : Nat) : Prop where
  kle : k ≤ 9
  kl : k ≤ l.length
  acc : a < 2 ^ (7 * k)
  sum : takeL l = (getL k (l.drop k)).map fun r => (a + 2 ^ (7 * k) * r.1, r.2 + k)

theorem NumRel.start (l : List UInt8) : NumRel l 0 0 :=
  ⟨by omega, by omega, by simp, by
    unfold takeL
    rw [List.drop_zero]
    cases getL 0 l <;> simp⟩

theorem NumRel.none_end {l : List UInt8} {k a : Nat} (h : NumRel l k a) (hk : l.length ≤ k) : numV l = .tuple #[.int .u64 0, .int .i64 0] := by
  have := h.sum
  rw [List.drop_eq_nil_of_le hk] at this
  simp only [getL, Option.map_none] at this
  simp [numV, this]

theorem NumRel.more {l : List UInt8} {k a : Nat} (h : NumRel l k a) {c : UInt8} (hd : l.drop k = c :: l.drop (k + 1)) (hc : 128 ≤ c.toNat) (h9 : k ≠ 9) : NumRel l (k + 1) (a + (c.toNat - 128) * 2 ^ (7 * k)) := by
  have hl : k < l.length := by
    rcases Nat.lt_or_ge k l.length with h' | h'
    · exact h'
    · rw [List.drop_eq_nil_of_le h'] at hd; cases hd
  have hb := c.toNat_lt
  have e : 2 ^ (7 * (k + 1)) = 2 ^ (7 * k) * 128 := by rw [show 7 * (k + 1) = 7 * k + 7 by omega, Nat.pow_add]
  refine ⟨by have := h.kle; omega, by omega, ?_, ?_⟩
  · rw [e]
    have := h.acc
    have h2 : (c.toNat - 128) * 2 ^ (7 * k) ≤ 127 * 2 ^ (7 * k) := Nat.mul_le_mul_right _ (by omega)
    omega
  · rw [h.sum, hd, getL_cons, if_neg (by omega), if_pos hc]
    cases getL (k + 1) (l.drop (k + 1)) with
    | none => rfl
    | some r =>
      simp only [Option.map_some, Option.some.injEq, Prod.mk.injEq]
      refine ⟨?_, by omega⟩
      rw [e, Nat.mul_add, Nat.mul_comm (c.toNat - 128) (2 ^ (7 * k))]
      have : 2 ^ (7 * k) * (128 * r.1) = 2 ^ (7 * k) * 128 * r.1 := by rw [Nat.mul_assoc]
      omega

theorem NumRel.bad {l : List UInt8} {k a : Nat} (h : NumRel l k a) {c : UInt8} (hd : l.drop k = c :: l.drop (k + 1)) (hc : (k = 9 ∧ 1 < c.toNat) ∨ (c.toNat = 0 ∧ 0 < k)) : numV l = .tuple #[.int .u64 0, .int .i64 0] := by
  have := h.sum
  rw [hd, getL_cons] at this
  rcases hc with hc | hc
  · rw [if_pos hc] at this; simp [numV, this]
  · by_cases h9 : k = 9 ∧ 1 < c.toNat
    · omega
    · rw [if_neg h9, if_neg (by omega), if_pos hc] at this; simp [numV, this]

theorem NumRel.good {l : List UInt8} {k a : Nat} (h : NumRel l k a) {c : UInt8} (hd : l.drop k = c :: l.drop (k + 1)) (h1 : ¬ (k = 9 ∧ 1 < c.toNat)) (h2 : c.toNat < 128) (h3 : ¬ (c.toNat = 0 ∧ 0 < k)) :
    numV l = .tuple #[.int .u64 ((a + c.toNat * 2 ^ (7 * k) : Nat) : Int), .int .i64 ((k : Int) + 1)] := by
  have := h.sum
  rw [hd, getL_cons] at this
  rw [if_neg h1, if_neg (by omega), if_neg h3] at this
  simp only [Option.map_some] at this
  simp only [numV, this]
  rw [Nat.mul_comm (2 ^ (7 * k)) c.toNat]
  congr 3
  · congr 1; congr 1; omega

/-- v | c << 7k, where v lies below. -/
theorem bits_shift (a c k : Nat) (ha : a < 2 ^ (7 * k)) (hc : c * 2 ^ (7 * k) < 2 ^ 64) (hk : 7 * k ≤ 64) : bits .or .u64 (a : Int) (IntKind.u64.wrap ((c : Int) * 2 ^ (7 * k))) = ((a + c * 2 ^ (7 * k) : Nat) : Int) := by
  have hw : ∀ n : Int, 0 ≤ n → n < 2 ^ 64 → IntKind.u64.wrap n = n := by
    intro n h0 h1
    simp only [IntKind.wrap, IntKind.bits, IntKind.signed]
    simp
    exact Int.emod_eq_of_lt h0 h1
  have e1 : (c : Int) * 2 ^ (7 * k) = ((c * 2 ^ (7 * k) : Nat) : Int) := by simp
  have e2 : IntKind.u64.wrap ((c : Int) * 2 ^ (7 * k)) = ((c * 2 ^ (7 * k) : Nat) : Int) := by
    rw [e1]
    exact hw _ (Int.natCast_nonneg _) (by exact_mod_cast hc)
  have hp : 2 ^ (7 * k) ≤ 2 ^ 64 := Nat.pow_le_pow_right (by omega) hk
  rw [e2, (bits_nat .u64 64 (by decide) hw a _ (by omega) hc).2]
  rw [Nat.or_comm, Nat.mul_comm c, ← Nat.two_pow_add_eq_or_of_lt ha c]
  congr 1
  omega

theorem wrapK (c k : Nat) (hk : k ≤ 9) (hc : c < 256) (h9 : k = 9 → c ≤ 1) (a : Nat) (ha : a < 2 ^ (7 * k)) (h128 : c < 128) : bits .or .u64 (a : Int) (IntKind.u64.wrap ((c : Int) * 2 ^ (7 * k))) = ((a + c * 2 ^ (7 * k) : Nat) : Int) := by
  refine bits_shift a c k ha ?_ (by omega)
  by_cases h : k = 9
  · subst h
    have := h9 rfl
    have e : 2 ^ (7 * 9) * 2 = 2 ^ 64 := by decide
    have : c * 2 ^ (7 * 9) ≤ 1 * 2 ^ (7 * 9) := Nat.mul_le_mul_right _ this
    omega
  · have h1 : 2 ^ (7 * k) ≤ 2 ^ 56 := Nat.pow_le_pow_right (by omega) (by omega)
    have h2 : c * 2 ^ (7 * k) ≤ 128 * 2 ^ 56 := Nat.mul_le_mul (by omega) h1
    have e : 128 * 2 ^ 56 < 2 ^ 64 := by decide
    omega

set_option maxRecDepth 100000 in
set_option maxHeartbeats 2000000 in
theorem number_any (s : ByteArray) (w : World) (hs : s.size ≤ maxLen) :
    Calls Try.prog 83 #[.string s] w fun e w' => e = .returned (numV s.toList) ∧ w = w' := by
  unfold maxLen at hs
  go_enter Try.func83, Try.ntmps83
  go_wp2
  go_step3
  go_wp2
  go_step3
  go_wp2
  go_loop [4, 9] (fun v i => ∃ k a : Nat, i = .int .i64 k ∧ v = .int .u64 a ∧ Hid (NumRel s.toList k a)) (fun _ i => s.size - (intOf i).toNat)
  case atStart => exact ⟨0, 0, rfl, rfl, NumRel.start _⟩
  case round =>
    obtain ⟨k, a, rfl, rfl, hr⟩ := hrel
    have hk9 := hr.out.kle
    by_cases hlt : k < s.size
    · have hd := Lib.hid (toList_getElem s k hlt)
      have hc := (s[k]).toNat_lt
      by_cases hA : k = 9 ∧ 1 < (s[k]).toNat
      · have hz := Lib.hid (hr.out.bad hd.out (.inl hA))
        obtain ⟨rfl, h1⟩ := hA
        go_wp2
        go_ret2
        exact ⟨ret_val hz.out.symm, rfl⟩
      · by_cases hB : 128 ≤ (s[k]).toNat
        · have h9 : ¬ k = 9 := by rintro rfl; exact hA ⟨rfl, by omega⟩
          have h9b : ((k : Int) == 9) = false := by simp; omega
          have hm := Lib.hid (hr.out.more hd.out hB h9)
          clear hA
          have he : bits .or .u64 (a : Int) (IntKind.u64.wrap (((s[k]).toNat - 128) * 2 ^ (7 * k))) = ((a + ((s[k]).toNat - 128) * 2 ^ (7 * k) : Nat) : Int) := by
            have := wrapK ((s[k]).toNat - 128) k (by omega) (by omega) (fun h => absurd h h9) a hr.out.acc (by omega)
            rw [show (((s[k]).toNat - 128 : Nat) : Int) = ((s[k]).toNat : Int) - 128 by omega] at this
            exact this
          have He := Lib.hid he
          clear he
          go_wp2
          exact ⟨⟨k + 1, _, by go_num, by rw [He.out], hm⟩, by simp [intOf]; omega⟩
        · by_cases hC : (s[k]).toNat = 0 ∧ 0 < k
          · have hz := Lib.hid (hr.out.bad hd.out (.inr hC))
            obtain ⟨h1, h2⟩ := hC
            have h3 : (((s[k]).toNat : Int) == 0) = true := by simp [h1]
            have h4 : ¬ (1 : Int) < ((s[k]).toNat : Int) := by omega
            clear h1 hA
            go_wp2
            all_goals (go_ret2; exact ⟨ret_val hz.out.symm, rfl⟩)
          · have hz := Lib.hid (show numV s.toList = .tuple #[.int .u64 (bits .or .u64 (a : Int) (IntKind.u64.wrap (((s[k]).toNat : Int) * 2 ^ (7 * k)))), .int .i64 ((k : Int) + 1)] from by
              rw [hr.out.good hd.out hA (by omega) hC, wrapK (s[k]).toNat k (by omega) (by omega) (fun h => by omega) a hr.out.acc (by omega)])
            by_cases h9 : k = 9
            · have h9b : ((k : Int) == 9) = true := by simp; omega
              have h1 : ¬ (1 : Int) < ((s[k]).toNat : Int) := by omega
              have h3 : (((s[k]).toNat : Int) == 0) = false := by simp; omega
              clear hA hC h9
              go_wp2
              go_ret2
              exact ⟨ret_val hz.out.symm, rfl⟩
            · have h9b : ((k : Int) == 9) = false := by simp; omega
              by_cases h0 : (s[k]).toNat = 0
              · have h3 : (((s[k]).toNat : Int) == 0) = true := by simp [h0]
                have hk0 : ¬ (0 : Int) < (k : Int) := by omega
                clear hA hC h0
                go_wp2
                go_ret2
                exact ⟨ret_val hz.out.symm, rfl⟩
              · have h3 : (((s[k]).toNat : Int) == 0) = false := by simp; omega
                clear hA hC
                go_wp2
                go_ret2
                exact ⟨ret_val hz.out.symm, rfl⟩
    · have hz := Lib.hid (hr.out.none_end (by rw [size_list]; omega))
      go_wp2
      go_ret2
      exact ⟨ret_val hz.out.symm, rfl⟩

theorem numV_some {l : List UInt8} {v n : Nat} (h : takeL l = some (v, n)) : numV l = .tuple #[.int .u64 v, .int .i64 n] := by simp [numV, h]
theorem numV_none {l : List UInt8} (h : takeL l = none) : numV l = .tuple #[.int .u64 0, .int .i64 0] := by simp [numV, h]
theorem takeL_bounds {l : List UInt8} {v n : Nat} (h : takeL l = some (v, n)) : 1 ≤ n ∧ n ≤ l.length ∧ n ≤ 10 ∧ v < 2 ^ 64 := by
  obtain ⟨h1, h2, h3⟩ := getL_bounds l 0 v n h
  have := h3 (by omega)
  exact ⟨h1, h2, by omega, by simpa using this.2⟩

set_option maxRecDepth 100000 in
set_option maxHeartbeats 1000000 in
theorem rnumber_yes (s : ByteArray) (b : Nat) (w : World) (v n : Nat) (hs : s.size ≤ maxLen) (ht : takeL s.toList = some (v, n)) (hc : w.cell? ⟨b, 0, none⟩ = some (.string s)) (hf : w.frozen? ⟨b, 0, none⟩ = false) :
    Calls Try.prog 71 #[.pointer (some ⟨b, 0, none⟩)] w fun e w' => e = .returned (.tuple #[.int .u64 v, .bool true]) ∧ w.setCell ⟨b, 0, none⟩ (.string (s.extract n s.size)) = w' := by
  have hv := numV_some ht
  obtain ⟨h1, h2, _, _⟩ := takeL_bounds ht
  rw [size_list] at h2
  have h0 : ((n : Int) == 0) = false := by simp; omega
  have hsm := hs
  clear ht
  go_enter Try.func71, Try.ntmps71
  go_wp2_with (first | (go_at_call 84; refine (rest_any s b _ hc).mono ?_; rintro e w' ⟨rfl, rfl⟩) | (go_at_call 83; refine (number_any s _ hs).mono ?_; rintro e w' ⟨rfl, rfl⟩) | (go_at_call 85; refine (take_yes s b n _ hs (by omega) (by omega) hc hf).mono ?_; rintro e w' ⟨rfl, rfl⟩))
  go_ret2
  exact ⟨rfl, rfl⟩

set_option maxRecDepth 100000 in
set_option maxHeartbeats 1000000 in
theorem rnumber_no (s : ByteArray) (b : Nat) (w : World) (hs : s.size ≤ maxLen) (ht : takeL s.toList = none) (hc : w.cell? ⟨b, 0, none⟩ = some (.string s)) (hf : w.frozen? ⟨b, 0, none⟩ = false) :
    Calls Try.prog 71 #[.pointer (some ⟨b, 0, none⟩)] w fun e w' => e = .returned (.tuple #[.int .u64 0, .bool false]) ∧ w.setCell ⟨b, 0, none⟩ (.string s) = w' := by
  have hv := numV_none ht
  have hsm := hs
  clear ht
  go_enter Try.func71, Try.ntmps71
  go_wp2_with (first | (go_at_call 84; refine (rest_any s b _ hc).mono ?_; rintro e w' ⟨rfl, rfl⟩) | (go_at_call 83; refine (number_any s _ hs).mono ?_; rintro e w' ⟨rfl, rfl⟩) | (go_at_call 85; refine (take_yes s b 0 _ hs (by omega) (by omega) hc hf).mono ?_; rintro e w' ⟨rfl, rfl⟩))
  go_ret2
  exact ⟨rfl, rfl⟩

end Go.Proofs.Ytihglmicgccgiaa

/-
  The walks of package wire: texts read.
-/
namespace Go.Proofs.Ytihglmicgccgiaa
open Go.RowKit

/-- A text at the beginning of bytes, of at most so many: the text, how many bytes in all. -/
def textL (l : List UInt8) (most : Int) : Option (List UInt8 × Nat) :=
  match takeL l with
  | none => none
  | some r => if most < 0 ∨ most < (r.1 : Int) ∨ l.length - r.2 < r.1 then none else some ((l.drop r.2).take r.1, r.2 + r.1)

set_option maxRecDepth 100000 in
set_option maxHeartbeats 1000000 in
theorem rtext_yes (s : ByteArray) (b : Nat) (w : World) (v n : Nat) (most : Int) (hs : s.size ≤ maxLen) (hm : most ≤ 9223372036854775807) (ht : takeL s.toList = some (v, n)) (h0 : 0 ≤ most) (h1 : (v : Int) ≤ most) (h2 : n + v ≤ s.size) (hc : w.cell? ⟨b, 0, none⟩ = some (.string s)) (hf : w.frozen? ⟨b, 0, none⟩ = false) :
    Calls Try.prog 72 #[.pointer (some ⟨b, 0, none⟩), .int .i64 most] w fun e w' => e = .returned (.tuple #[.string ((s.extract 0 (n + v)).extract n (n + v)), .bool true]) ∧ w.setCell ⟨b, 0, none⟩ (.string (s.extract (n + v) s.size)) = w' := by
  have hv := numV_some ht
  obtain ⟨k1, k2, _, _⟩ := takeL_bounds ht
  rw [size_list] at k2
  have hn0 : ((n : Int) == 0) = false := by simp; omega
  have hsm := hs
  unfold maxLen at hsm
  clear ht
  go_enter Try.func72, Try.ntmps72
  go_wp2_with (first | (go_at_call 84; refine (rest_any s b _ hc).mono ?_; rintro e w' ⟨rfl, rfl⟩) | (go_at_call 83; refine (number_any s _ hs).mono ?_; rintro e w' ⟨rfl, rfl⟩) | (go_at_call 85; refine (take_yes s b ((n : Int) + v) _ hs (by omega) (by omega) hc hf).mono ?_; rintro e w' ⟨rfl, rfl⟩; simp only [show ((n : Int) + (v : Int)).toNat = n + v from by omega]))
  go_ret2
  exact ⟨rfl, rfl⟩

/-- The text is refused: there is no number; or it is of more bytes than may be, or than there are. -/
theorem rtext_no0 (s : ByteArray) (b : Nat) (w : World) (most : Int) (hs : s.size ≤ maxLen) (ht : takeL s.toList = none) (hc : w.cell? ⟨b, 0, none⟩ = some (.string s)) :
    Calls Try.prog 72 #[.pointer (some ⟨b, 0, none⟩), .int .i64 most] w fun e w' => e = .returned (.tuple #[.string ⟨#[]⟩, .bool false]) ∧ w = w' := by
  have hv := numV_none ht
  clear ht
  go_enter Try.func72, Try.ntmps72
  go_wp2_with (first | (go_at_call 84; refine (rest_any s b _ hc).mono ?_; rintro e w' ⟨rfl, rfl⟩) | (go_at_call 83; refine (number_any s _ hs).mono ?_; rintro e w' ⟨rfl, rfl⟩))
  go_ret2
  exact ⟨rfl, rfl⟩

set_option maxRecDepth 100000 in
set_option maxHeartbeats 1000000 in
theorem rtext_no (s : ByteArray) (b : Nat) (w : World) (v n : Nat) (most : Int) (hs : s.size ≤ maxLen) (hm : most ≤ 9223372036854775807) (ht : takeL s.toList = some (v, n)) (h : most < 0 ∨ most < (v : Int) ∨ (s.size : Int) < n + v) (hc : w.cell? ⟨b, 0, none⟩ = some (.string s)) :
    Calls Try.prog 72 #[.pointer (some ⟨b, 0, none⟩), .int .i64 most] w fun e w' => e = .returned (.tuple #[.string ⟨#[]⟩, .bool false]) ∧ w = w' := by
  have hv := numV_some ht
  obtain ⟨k1, k2, _, _⟩ := takeL_bounds ht
  rw [size_list] at k2
  have hn0 : ((n : Int) == 0) = false := by simp; omega
  have hsm := hs
  unfold maxLen at hsm
  clear ht
  by_cases h0 : most < 0
  · clear h
    go_enter Try.func72, Try.ntmps72
    go_wp2_with (first | (go_at_call 84; refine (rest_any s b _ hc).mono ?_; rintro e w' ⟨rfl, rfl⟩) | (go_at_call 83; refine (number_any s _ hs).mono ?_; rintro e w' ⟨rfl, rfl⟩))
    go_ret2
    exact ⟨rfl, rfl⟩
  · by_cases h1 : most < (v : Int)
    · clear h
      go_enter Try.func72, Try.ntmps72
      go_wp2_with (first | (go_at_call 84; refine (rest_any s b _ hc).mono ?_; rintro e w' ⟨rfl, rfl⟩) | (go_at_call 83; refine (number_any s _ hs).mono ?_; rintro e w' ⟨rfl, rfl⟩))
      go_ret2
      exact ⟨rfl, rfl⟩
    · have h2 : (s.size : Int) < n + v := by omega
      clear h
      go_enter Try.func72, Try.ntmps72
      go_wp2_with (first | (go_at_call 84; refine (rest_any s b _ hc).mono ?_; rintro e w' ⟨rfl, rfl⟩) | (go_at_call 83; refine (number_any s _ hs).mono ?_; rintro e w' ⟨rfl, rfl⟩))
      go_ret2
      exact ⟨rfl, rfl⟩

end Go.Proofs.Ytihglmicgccgiaa
