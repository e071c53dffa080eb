/-
  The walks of the document's answers for wire that put: numbers, texts (acreageref01). (The lines up to refnumber_any as in XWireRefW.)
-/
import Derived.Test.YtihglmicgccgiaaWirePutW
import Derived.Test.YtihglmicgccgiaaReadW
namespace Go.Proofs.Ytihglmicgccgiaa
open Go.RowKit

theorem conv_one (c : Int) (h0 : 0 ≤ c) (h1 : c < 256) (w : World) :
    (convert 33 9 (.slice (some ⟨w.heap.size, 0, none⟩) 1 1)).run Try.prog (w.alloc (.cells #[.int .u8 c] 5)) = .ok (.string (ofL [UInt8.ofNat c.toNat])) (w.alloc (.cells #[.int .u8 c] 5)) := by
  refine run_convert_bytes_back _ _ _ 5 ⟨w.heap.size, 0, none⟩ 1 [UInt8.ofNat c.toNat] Try.underlying33 Try.underlying5 Try.underlying9 fun j hj => ?_
  have hj0 : j = 0 := by simpa using hj
  subst hj0
  have := bval_of c h0 h1
  unfold bval at this
  go_simp
  omega

theorem conv_ex (c : Int) (h0 : 0 ≤ c) (h1 : c < 256) (w : World) :
    ∃ o : ByteArray, o.size ≤ 1 ∧ Hid (o = ofL [UInt8.ofNat c.toNat]) ∧ (convert 33 9 (.slice (some ⟨w.heap.size, 0, none⟩) 1 1)).run Try.prog (w.alloc (.cells #[.int .u8 c] 5)) = .ok (.string o) (w.alloc (.cells #[.int .u8 c] 5)) :=
  ⟨_, by rw [ofL_size]; simp, rfl, conv_one c h0 h1 w⟩

set_option maxRecDepth 100000 in
theorem wrap_div (x : Nat) (h : x < 2 ^ 64) : IntKind.u64.wrap ((x : Int) / 128) = (x : Int) / 128 := by rw [IntKind.wrap_u64]; omega

/-- The loop of Number: what has been laid, what is still to lay. -/
structure RNumRel (v0 : Nat) (w : World) (s : ByteArray) (x : Nat) (wr : World) : Prop where
  sum : s.toList ++ numL x = numL v0
  le : x ≤ v0
  bel : Below w.heap.size w wr

def txtL (l : List UInt8) : List UInt8 := numL l.length ++ l
theorem textW (s : ByteArray) : (ofL (numW (s.size : Int)) ++ s) = ofL (txtL s.toList) := by
  rw [append_ofL, ofL_toList, txtL, size_list, numW, Int.toNat_natCast]

end Go.Proofs.Ytihglmicgccgiaa

/-
  The walks of the document's reader (acreageref01): numbers, texts, bytes read; contracts of the same form as those of package wire.
-/
namespace Go.Proofs.Ytihglmicgccgiaa
open Go.RowKit

def foldB : List UInt8 → Nat
  | [] => 0
  | b :: r => (foldB r * 128 + b.toNat % 128) % 2 ^ 64
theorem foldB_lt (l : List UInt8) : foldB l < 2 ^ 64 := by
  cases l with
  | nil => simp [foldB]
  | cons b r => exact Nat.mod_lt _ (by decide)
theorem numL_shape (v : Nat) : ∃ a c, numL v = a ++ [c] ∧ (∀ b ∈ a, 128 ≤ b.toNat) ∧ c.toNat < 128 := by
  induction v using Nat.strongRecOn with
  | _ v ih =>
    by_cases h : v < 128
    · refine ⟨[], UInt8.ofNat v, numL_small h, by simp, ?_⟩
      rw [UInt8.toNat_ofNat']; omega
    · obtain ⟨a, c, h1, h2, h3⟩ := ih (v / 128) (by omega)
      refine ⟨UInt8.ofNat (v % 128 + 128) :: a, c, by rw [numL_big (by omega), h1]; rfl, fun b hb => ?_, h3⟩
      rcases List.mem_cons.1 hb with rfl | hb
      · rw [UInt8.toNat_ofNat']; omega
      · exact h2 b hb
theorem foldB_numL (v : Nat) (h : v < 2 ^ 64) : foldB (numL v) = v := by
  induction v using Nat.strongRecOn with
  | _ v ih =>
    by_cases hs : v < 128
    · rw [numL_small hs]
      simp only [foldB, UInt8.toNat_ofNat']
      omega
    · rw [numL_big (by omega), foldB, ih (v / 128) (by omega) (by omega), UInt8.toNat_ofNat']
      omega
/-- k bytes that say that more comes -/
def More (l : List UInt8) (k : Nat) : Prop := ∀ c ∈ l.take k, 128 ≤ c.toNat
theorem More.zero (l : List UInt8) : More l 0 := fun c h => by simp at h
theorem More.succ {l : List UInt8} {k : Nat} (h : More l k) {c : UInt8} (hc : l[k]? = some c) (h1 : 128 ≤ c.toNat) : More l (k + 1) := by
  intro d hd
  rw [List.take_add_one, hc] at hd
  rcases List.mem_append.1 hd with hd | hd
  · exact h d hd
  · have := List.mem_singleton.1 hd; subst this; exact h1
theorem take_shape {l : List UInt8} {v n : Nat} (h : takeL l = some (v, n)) : numL v = l.take n ∧ ∃ c, l[n - 1]? = some c ∧ c.toNat < 128 ∧ More l (n - 1) ∧ 1 ≤ n ∧ n ≤ l.length ∧ n ≤ 10 := by
  obtain ⟨e, _⟩ := numL_getL l 0 v n h
  obtain ⟨k1, k2, k3, _⟩ := takeL_bounds h
  obtain ⟨a, c, h1, h2, h3⟩ := numL_shape v
  have hl : a.length = n - 1 := by
    have := congrArg List.length h1
    rw [e, List.length_take, List.length_append, List.length_singleton] at this
    omega
  have e2 : l.take n = a ++ [c] := by rw [← e, h1]
  refine ⟨e, c, ?_, h3, fun b hb => h2 b ?_, k1, k2, k3⟩
  · have : (l.take n)[n - 1]? = some c := by rw [e2, ← hl]; simp
    rw [List.getElem?_take] at this
    split at this
    · exact this
    · cases this
  · have : l.take (n - 1) = a := by
      have h5 := congrArg (List.take (n - 1)) e2
      rw [List.take_take, Nat.min_eq_left (by omega), List.take_left' hl] at h5
      exact h5
    rwa [this] at hb
theorem rtake_none {l : List UInt8} {k : Nat} (hm : More l k) (h : 10 ≤ k ∨ l.length ≤ k) : takeL l = none := by
  cases ht : takeL l with
  | none => rfl
  | some r =>
    obtain ⟨v, n⟩ := r
    obtain ⟨_, c, h1, h2, _, h4, h5, h6⟩ := take_shape ht
    have : c ∈ l.take k := List.mem_of_getElem? (i := n - 1) (by rw [List.getElem?_take, if_pos (by omega)]; exact h1)
    have := hm c this
    omega
theorem rtake_at {l : List UInt8} {k v n : Nat} (hm : More l k) {c : UInt8} (hc : l[k]? = some c) (h : c.toNat < 128) (ht : takeL l = some (v, n)) : n = k + 1 ∧ v = foldB (l.take (k + 1)) ∧ numL v = l.take (k + 1) := by
  obtain ⟨h0, d, h1, h2, h3, h4, h5, h6⟩ := take_shape ht
  have hn : n = k + 1 := by
    rcases Nat.lt_trichotomy (n - 1) k with h7 | h7 | h7
    · have : d ∈ l.take k := List.mem_of_getElem? (i := n - 1) (by rw [List.getElem?_take, if_pos h7]; exact h1)
      have := hm d this
      omega
    · omega
    · have : c ∈ l.take (n - 1) := List.mem_of_getElem? (i := k) (by rw [List.getElem?_take, if_pos h7]; exact hc)
      have := h3 c this
      omega
  subst hn
  exact ⟨rfl, by rw [← h0, foldB_numL _ (takeL_bounds ht).2.2.2], h0⟩
theorem rtake_yes {l : List UInt8} {k : Nat} (hk : k < l.length) (he : numL (foldB (l.take (k + 1))) = l.take (k + 1)) : takeL l = some (foldB (l.take (k + 1)), k + 1) := by
  have h := takeL_numL (foldB (l.take (k + 1))) (l.drop (k + 1)) (foldB_lt _)
  rw [he, List.take_append_drop, List.length_take, Nat.min_eq_left (by omega)] at h
  exact h
theorem rtake_no {l : List UInt8} {k : Nat} (hm : More l k) {c : UInt8} (hc : l[k]? = some c) (h : c.toNat < 128) (he : numL (foldB (l.take (k + 1))) ≠ l.take (k + 1)) : takeL l = none := by
  cases ht : takeL l with
  | none => rfl
  | some r =>
    obtain ⟨v, n⟩ := r
    obtain ⟨_, h1, h2⟩ := rtake_at hm hc h ht
    rw [h1] at h2
    exact absurd h2 he
theorem foldB_step {l : List UInt8} {q : Nat} {c : UInt8} (h : l[q]? = some c) : foldB (l.drop q) = (foldB (l.drop (q + 1)) * 128 + c.toNat % 128) % 2 ^ 64 := by
  obtain ⟨hq, rfl⟩ := List.getElem?_eq_some_iff.1 h
  rw [List.drop_eq_getElem_cons hq, foldB]

theorem shl_or (a x : Nat) : bits .or .u64 (IntKind.u64.wrap ((a : Int) * 128)) ((x : Int) % 128) = (((a * 128 + x % 128) % 2 ^ 64 : Nat) : Int) := by
  have hw : ∀ n : Int, 0 ≤ n → n < 2 ^ 64 → IntKind.u64.wrap n = n := by intro n h0 h1; rw [IntKind.wrap_u64]; omega
  have e1 : IntKind.u64.wrap ((a : Int) * 128) = ((128 * (a % 2 ^ 57) : Nat) : Int) := by rw [IntKind.wrap_u64]; omega
  have e2 : ((x : Int) % 128) = ((x % 128 : Nat) : Int) := by omega
  rw [e1, e2, (bits_nat .u64 64 (by decide) hw (128 * (a % 2 ^ 57)) (x % 128) (by omega) (by omega)).2]
  have := Nat.two_pow_add_eq_or_of_lt (show x % 128 < 2 ^ 7 by omega) (a % 2 ^ 57)
  rw [show (2 : Nat) ^ 7 = 128 from rfl] at this
  rw [← this]
  congr 1
  omega
theorem idx_at (s : ByteArray) (n : Nat) (h : n < s.size) (k : IntKind) (i : Int) (hi : i = n) (w : World) :
    (Instr.index 9 (.string s) (.int k i)).run Try.prog w = .ok (.int .u8 (s[n]).toNat) w := by
  subst hi
  rw [run_index_string (w := w) (P := Try.prog) (h := Try.underlying9)]
  rw [dif_pos ⟨by omega, by omega⟩]
  simp only [Int.toNat_natCast]

theorem dec_false {a b : Int} (h : b ≤ a) : decide (a < b) = false := by simp; omega

theorem Left.keep {w w' : World} {b : Nat} {l : List UInt8} (h : Left w b l) (hb : Below w.heap.size w w') : Left w' b l := by
  have hl : b < w.heap.size := World.block_lt_of_cell? _ _ h.cell
  exact ⟨(hb.cell (p := ⟨b, 0, none⟩) hl).trans h.cell, (hb.frozen (p := ⟨b, 0, none⟩) hl).trans h.fro⟩
theorem took_below {b : Nat} {l : List UInt8} {w w' : World} (h : Left w b l) (hb : Below w.heap.size w w') : Took b l w w' := ⟨gb_below gb_row hb, h.keep hb⟩
theorem took_then {b : Nat} {l r : List UInt8} {w w1 w2 : World} (h : Took b l w w1) (k : Took b r w1 w2) : Took b r w w2 := ⟨gb_trans h.gb k.gb, k.left⟩

end Go.Proofs.Ytihglmicgccgiaa
