/-
  The wire's reader as plain functions of the bytes that are left: contracts of one form for what is read and what is refused.
-/
import Derived.Test.YtihglmicgccgiaaWireTextW
import Derived.Test.YtihglmicgccgiaaCompactW
import Derived.Test.YtihglmicgccgiaaWirePutW
namespace Go.Proofs.Ytihglmicgccgiaa
open Go.RowKit

def numR (l : List UInt8) : Nat × Bool × List UInt8 := match takeL l with | some r => (r.1, true, l.drop r.2) | none => (0, false, l)
def textR (most : Int) (l : List UInt8) : List UInt8 × Bool × List UInt8 := match textL l most with | some r => (r.1, true, l.drop r.2) | none => ([], false, l)
def byteR (l : List UInt8) : UInt8 × Bool × List UInt8 := match l with | c :: r => (c, true, r) | [] => (0, false, [])

/-- a reader's block: what is left -/
structure Left (w : World) (b : Nat) (l : List UInt8) : Prop where
  cell : w.cell? ⟨b, 0, none⟩ = some (.string (ofL l))
  fro : w.frozen? ⟨b, 0, none⟩ = false
structure Took (b : Nat) (l : List UInt8) (w w' : World) : Prop where
  gb : w.grownBy w' (some b)
  left : Left w' b l

theorem ofL_self (s : ByteArray) : ofL s.toList = s := toList_inj.1 (by rw [ofL_toList])
theorem ofL_extract (l : List UInt8) (i j : Nat) : (ofL l).extract i j = ofL ((l.take j).drop i) := toList_inj.1 (by rw [toList_extract, ofL_toList, ofL_toList])
theorem ofL_drop (l : List UInt8) (i : Nat) : (ofL l).extract i (ofL l).size = ofL (l.drop i) := by rw [ofL_extract, ofL_size, List.take_length]
theorem ofL_text (l : List UInt8) (n v : Nat) : ((ofL l).extract 0 (n + v)).extract n (n + v) = ofL ((l.drop n).take v) := by
  rw [ofL_extract, ofL_extract, List.drop_zero, List.take_take, Nat.min_self, List.drop_take, Nat.add_sub_cancel_left]
theorem took_self {b : Nat} {l : List UInt8} {w : World} (h : Left w b l) : Took b l w w := ⟨gb_row, h⟩
theorem took_set {b : Nat} {l r : List UInt8} {w : World} (h : Left w b l) : Took b r w (w.setCell ⟨b, 0, none⟩ (.string (ofL r))) :=
  ⟨gb_set gb_row _, World.cell?_setCell_same _ _ _ h.cell, by rw [World.frozen?_setCell]; exact h.fro⟩

theorem num_r (b : Nat) (l : List UInt8) (w : World) (hs : l.length ≤ maxLen) (h : Left w b l) :
    Calls Try.prog 71 #[.pointer (some ⟨b, 0, none⟩)] w fun e w' => e = .returned (.tuple #[.int .u64 (numR l).1, .bool (numR l).2.1]) ∧ Took b (numR l).2.2 w w' := by
  unfold numR
  cases ht : takeL l with
  | none =>
    refine (rnumber_no (ofL l) b w (by rw [ofL_size]; exact hs) (by rw [ofL_toList]; exact ht) h.cell h.fro).mono ?_
    rintro e w' ⟨rfl, rfl⟩
    exact ⟨rfl, took_set h⟩
  | some r =>
    refine (rnumber_yes (ofL l) b w r.1 r.2 (by rw [ofL_size]; exact hs) (by rw [ofL_toList]; exact ht) h.cell h.fro).mono ?_
    rintro e w' ⟨rfl, rfl⟩
    rw [ofL_drop]
    exact ⟨rfl, took_set h⟩

theorem text_r (b : Nat) (most : Int) (l : List UInt8) (w : World) (hm : most ≤ 9223372036854775807) (hs : l.length ≤ maxLen) (h : Left w b l) :
    Calls Try.prog 72 #[.pointer (some ⟨b, 0, none⟩), .int .i64 most] w fun e w' => e = .returned (.tuple #[.string (ofL (textR most l).1), .bool (textR most l).2.1]) ∧ Took b (textR most l).2.2 w w' := by
  have hs' : (ofL l).size ≤ maxLen := by rw [ofL_size]; exact hs
  unfold textR textL
  cases ht : takeL l with
  | none =>
    refine (rtext_no0 (ofL l) b w most hs' (by rw [ofL_toList]; exact ht) h.cell).mono ?_
    rintro e w' ⟨rfl, rfl⟩
    exact ⟨rfl, took_self h⟩
  | some r =>
    obtain ⟨v, n⟩ := r
    obtain ⟨k1, k2, _, _⟩ := takeL_bounds ht
    simp only
    by_cases hc : most < 0 ∨ most < (v : Int) ∨ l.length - n < v
    · rw [if_pos hc]
      refine (rtext_no (ofL l) b w v n most hs' hm (by rw [ofL_toList]; exact ht) (by rw [ofL_size]; omega) h.cell).mono ?_
      rintro e w' ⟨rfl, rfl⟩
      exact ⟨rfl, took_self h⟩
    · rw [if_neg hc]
      refine (rtext_yes (ofL l) b w v n most hs' hm (by rw [ofL_toList]; exact ht) (by omega) (by omega) (by rw [ofL_size]; omega) h.cell h.fro).mono ?_
      rintro e w' ⟨rfl, rfl⟩
      rw [ofL_drop]
      rw [ofL_text]
      exact ⟨rfl, took_set h⟩

theorem byteR_size (l : List UInt8) : (byteR l).2.1 = true ↔ 0 < l.length := by cases l <;> simp [byteR]
theorem idx_first (c : UInt8) (r : List UInt8) (w : World) : (Instr.index 9 (.string (ofL [c])) (.int .i64 0)).run Try.prog w = .ok (.int .u8 c.toNat) w := by
  rw [run_index_string (w := w) (P := Try.prog) (h := Try.underlying9)]
  rfl
set_option maxHeartbeats 1000000 in
theorem byte_r (b : Nat) (l : List UInt8) (w : World) (hs : l.length ≤ maxLen) (h : Left w b l) :
    Calls Try.prog 73 #[.pointer (some ⟨b, 0, none⟩)] w fun e w' => e = .returned (.tuple #[.int .u8 (byteR l).1.toNat, .bool (byteR l).2.1]) ∧ Took b (byteR l).2.2 w w' := by
  have hs' : (ofL l).size ≤ maxLen := by rw [ofL_size]; exact hs
  cases l with
  | nil =>
    have K := Lib.hid (take_no (ofL []) b 1 w hs' (by right; rw [ofL_size]; decide) h.cell)
    have H := Lib.hid h
    clear hs hs' h
    go_enter Try.func73, Try.ntmps73
    go_wp2_with (first | (go_at_call 85; refine (K.out).mono ?_; rintro e w' ⟨rfl, rfl⟩))
    go_returns
    exact ⟨rfl, took_self H.out⟩
  | cons c r =>
    have hc := idx_first c r
    have K := take_yes (ofL (c :: r)) b 1 w hs' (by decide) (by rw [ofL_size]; simp; omega) h.cell h.fro
    have e1 : (ofL (c :: r)).extract 0 (1 : Int).toNat = ofL [c] := by rw [ofL_extract]; rfl
    have e2 : (ofL (c :: r)).extract (1 : Int).toNat (ofL (c :: r)).size = ofL r := by rw [show (1 : Int).toNat = 1 from rfl, ofL_drop]; rfl
    rw [e1, e2] at K
    have K := Lib.hid K
    have H := Lib.hid h
    have hsz : (ofL [c]).size = 1 := by rw [ofL_size]; rfl
    obtain ⟨s1, hs1⟩ : ∃ s, s = ofL [c] := ⟨_, rfl⟩
    rw [← hs1] at K hc hsz
    clear hs hs' h e1 e2 hs1
    go_enter Try.func73, Try.ntmps73
    go_wp2_with (first | (go_at_call 85; refine (K.out).mono ?_; rintro e w' ⟨rfl, rfl⟩))
    go_returns
    exact ⟨rfl, took_set H.out⟩

theorem textR_len (m : Int) (l : List UInt8) : (textR m l).1.length ≤ l.length := by
  unfold textR textL
  cases takeL l with
  | none => simp
  | some r =>
    simp only
    by_cases h : m < 0 ∨ m < (r.1 : Int) ∨ l.length - r.2 < r.1
    · rw [if_pos h]; simp
    · rw [if_neg h]; simp only [List.length_take, List.length_drop]; omega
theorem numR_lt (l : List UInt8) : (numR l).1 < 2 ^ 64 := by
  unfold numR
  cases ht : takeL l with
  | none => simp
  | some r => exact (takeL_bounds ht).2.2.2

end Go.Proofs.Ytihglmicgccgiaa
