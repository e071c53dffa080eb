/-
  The walk of acreagelaw01.WireKnown (closed).
-/
import Derived.Test.YtlnealjadcggbaaWireOnceW
import Derived.Test.YtlnealjadcggbaaWireTextW
namespace Go.Proofs.Ytlnealjadcggbaa
open Go.RowKit Go.Sort

set_option maxRecDepth 100000 in
theorem take_nil (n : Int) (w : World) :
    Calls Try.prog 12 #[.pointer none, .int .i64 n] w fun e w' => e = .returned (.tuple #[.string ⟨#[]⟩, .bool false]) ∧ w = w' := by
  go_enter Try.func12, Try.ntmps12
  go_wp2
  go_ret2
  exact ⟨rfl, rfl⟩
theorem left_nil (w : World) :
    Calls Try.prog 13 #[.pointer none] w fun e w' => e = .returned (.int .i64 0) ∧ w = w' := by
  go_enter Try.func13, Try.ntmps13
  go_wp2
  go_ret
  exact ⟨rfl, rfl⟩
theorem rest_nil (w : World) :
    Calls Try.prog 23 #[.pointer none] w fun e w' => e = .returned (.string ⟨#[]⟩) ∧ w = w' := by
  go_enter Try.func23, Try.ntmps23
  go_wp2
  go_ret
  exact ⟨rfl, rfl⟩
theorem number_empty (w : World) :
    Calls Try.prog 24 #[.string ⟨#[]⟩] w fun e w' => e = .returned (.tuple #[.int .u64 0, .int .i64 0]) ∧ w = w' :=
  (number_any ⟨#[]⟩ w (by decide)).mono fun e w' ⟨h1, h2⟩ => ⟨by rw [h1, numV_none (by rw [Lib.toList_data]; rfl)], h2⟩
theorem number_nil (w : World) :
    Calls Try.prog 11 #[.pointer none] w fun e w' => e = .returned (.tuple #[.int .u64 0, .bool false]) ∧ w = w' := by
  go_enter Try.func11, Try.ntmps11
  go_wp2_with (first | (go_at_call 23; refine (rest_nil _).mono ?_; rintro e w' ⟨rfl, rfl⟩) | (go_at_call 12; refine (take_nil _ _).mono ?_; rintro e w' ⟨rfl, rfl⟩) | (go_at_call 24; refine (number_empty _).mono ?_; rintro e w' ⟨rfl, rfl⟩))
  go_ret2
  exact ⟨rfl, rfl⟩
theorem byte_none (b : Nat) (w : World) (hc : w.cell? ⟨b, 0, none⟩ = some (.string ⟨#[]⟩)) (hf : w.frozen? ⟨b, 0, none⟩ = false) :
    Calls Try.prog 22 #[.pointer (some ⟨b, 0, none⟩)] w fun e w' => e = .returned (.tuple #[.int .u8 0, .bool false]) ∧ w = w' := by
  go_enter Try.func22, Try.ntmps22
  go_wp2_with (go_at_call 12; refine (take_no ⟨#[]⟩ b 1 _ (by decide) (.inr (by decide)) hc).mono ?_; rintro e w' ⟨rfl, rfl⟩)
  go_ret2
  exact ⟨rfl, rfl⟩

theorem put_lit (b : ByteArray) (v : Nat) (r : ByteArray) (w : World) (hb : b.size ≤ 100) (hv : U64 v) (hr : r.toList = b.toList ++ numL v) :
    Calls Try.prog 8 #[.string b, .int .u64 v] w fun e w' => e = .returned (.string r) ∧ Below w.heap.size w w' :=
  (putnumber_of b v w (by omega) hv).mono fun e w' ⟨h1, h2⟩ => ⟨by rw [h1, eq_ofL hr]; rfl, h2⟩
theorem put0 (w : World) : Calls Try.prog 8 #[.string ⟨#[]⟩, .int .u64 0] w fun e w' => e = .returned (.string ⟨#[0]⟩) ∧ Below w.heap.size w w' :=
  put_lit ⟨#[]⟩ 0 ⟨#[0]⟩ w (by decide) ⟨by omega, by omega⟩ (by simp [Lib.toList_data, numL])
theorem put127 (w : World) : Calls Try.prog 8 #[.string ⟨#[]⟩, .int .u64 127] w fun e w' => e = .returned (.string ⟨#[127]⟩) ∧ Below w.heap.size w w' :=
  put_lit ⟨#[]⟩ 127 ⟨#[127]⟩ w (by decide) ⟨by omega, by omega⟩ (by simp [Lib.toList_data, numL])
theorem put128 (w : World) : Calls Try.prog 8 #[.string ⟨#[]⟩, .int .u64 128] w fun e w' => e = .returned (.string ⟨#[128, 1]⟩) ∧ Below w.heap.size w w' :=
  put_lit ⟨#[]⟩ 128 ⟨#[128, 1]⟩ w (by decide) ⟨by omega, by omega⟩ (by simp [Lib.toList_data, numL])
set_option maxRecDepth 100000 in
theorem putMax (w : World) : Calls Try.prog 8 #[.string ⟨#[]⟩, .int .u64 18446744073709551615] w fun e w' => e = .returned (.string ⟨#[255, 255, 255, 255, 255, 255, 255, 255, 255, 1]⟩) ∧ Below w.heap.size w w' :=
  put_lit ⟨#[]⟩ 18446744073709551615 ⟨#[255, 255, 255, 255, 255, 255, 255, 255, 255, 1]⟩ w (by decide) ⟨by omega, by omega⟩ (by simp [Lib.toList_data, numL])
theorem textX (w : World) : Calls Try.prog 7 #[.string ⟨#[120]⟩, .string ⟨#[]⟩] w fun e w' => e = .returned (.string ⟨#[120, 0]⟩) ∧ Below w.heap.size w w' :=
  (puttext_of ⟨#[120]⟩ ⟨#[]⟩ w (by decide) (by decide)).mono fun e w' ⟨h1, h2⟩ => ⟨by rw [h1, eq_ofL (a := ⟨#[120, 0]⟩) (l := (⟨#[120]⟩ : ByteArray).toList ++ textB (⟨#[]⟩ : ByteArray).toList) (by simp [Lib.toList_data, textB, numL])], h2⟩

theorem take_zero (b : Nat) (w : World) (hc : w.cell? ⟨b, 0, none⟩ = some (.string ⟨#[]⟩)) (hf : w.frozen? ⟨b, 0, none⟩ = false) :
    Calls Try.prog 12 #[.pointer (some ⟨b, 0, none⟩), .int .i64 0] w fun e w' => e = .returned (.tuple #[.string ⟨#[]⟩, .bool true]) ∧ w.setCell ⟨b, 0, none⟩ (.string ⟨#[]⟩) = w' :=
  (take_yes ⟨#[]⟩ b 0 w (by decide) (by decide) (by decide) hc hf).mono fun e w' ⟨h1, h2⟩ => ⟨by rw [h1]; rfl, h2⟩
theorem unhex_odd1 (w : World) : Calls Try.prog 15 #[.string ⟨#[48]⟩] w fun e w' => e = .returned (.tuple #[.string ⟨#[]⟩, .bool false]) ∧ Below w.heap.size w w' :=
  unhex_no ⟨#[48]⟩ w (by decide) (by rw [Lib.toList_data]; rfl)
theorem unhex_bad1 (w : World) : Calls Try.prog 15 #[.string ⟨#[48, 70]⟩] w fun e w' => e = .returned (.tuple #[.string ⟨#[]⟩, .bool false]) ∧ Below w.heap.size w w' :=
  unhex_no ⟨#[48, 70]⟩ w (by decide) (by rw [Lib.toList_data]; rfl)
theorem unhex_empty (w : World) : Calls Try.prog 15 #[.string ⟨#[]⟩] w fun e w' => e = .returned (.tuple #[.string ⟨#[]⟩, .bool true]) ∧ Below w.heap.size w w' :=
  (unhex_yes ⟨#[]⟩ [] w (by decide) (by rw [Lib.toList_data]; rfl)).mono fun e w' ⟨h1, h2⟩ => ⟨by rw [h1]; rfl, h2⟩
theorem hex_two (w : World) : Calls Try.prog 16 #[.string ⟨#[0, 254]⟩] w fun e w' => e = .returned (.string ⟨#[48, 48, 102, 101]⟩) ∧ Below w.heap.size w w' :=
  (hex_any ⟨#[0, 254]⟩ w (by decide)).mono fun e w' ⟨h1, h2⟩ => ⟨by rw [h1, Lib.toList_data]; rfl, h2⟩
theorem calls_fresh {P : Program} {f : FuncId} {args : Array Value} {R : Ending → World → Prop} {w W : World} (hB : Below w.heap.size w W) (h : ∀ W', Below w.heap.size w W' → w.heap.size ≤ W'.heap.size → Calls P f args W' R) : Calls P f args W R := h W hB hB.size

set_option maxRecDepth 100000 in
set_option maxHeartbeats 4000000 in
theorem known_any (w : World) :
    Calls Try.prog 6 #[] w fun e w' => e = .returned (.bool true) ∧ Below w.heap.size w w' := by
  go_enter Try.func6, Try.ntmps6
  go_wp2_with (first | (go_at_call 8; with_reducible refine (put0 _).mono ?_; rintro e w1 ⟨rfl, hb⟩; obtain ⟨hB, hS, hk⟩ := after (B := w.heap.size) (w := w) (by go_grown) (by go_size) hb; clear hb; clear hk) | (go_at_call 8; with_reducible refine (put127 _).mono ?_; rintro e w2 ⟨rfl, hb⟩; obtain ⟨hB, hS, hk⟩ := after (B := w.heap.size) (w := w) (by go_grown) (by go_size) hb; clear hb; clear hk) | (go_at_call 8; with_reducible refine (put128 _).mono ?_; rintro e w3 ⟨rfl, hb⟩; obtain ⟨hB, hS, hk⟩ := after (B := w.heap.size) (w := w) (by go_grown) (by go_size) hb; clear hb; clear hk) | (go_at_call 8; with_reducible refine (putMax _).mono ?_; rintro e w4 ⟨rfl, hb⟩; obtain ⟨hB, hS, hk⟩ := after (B := w.heap.size) (w := w) (by go_grown) (by go_size) hb; clear hb; clear hk) | (go_at_call 7; refine (textX _).mono ?_; rintro e w5 ⟨rfl, hb⟩; obtain ⟨hB, hS, hk⟩ := after (B := w.heap.size) (w := w) (by go_grown) (by go_size) hb; clear hb; clear hk))
  refine wp_loop_rounds 7 ?_
  rw [rounds_succ]
  go_wp2_with (first | (go_at_call 9; refine (new_any _ _).mono ?_; rintro e w6 ⟨rfl, rfl⟩) | (go_at_call 11; refine (rnumber_no ⟨#[128, 0]⟩ _ _ (by decide) (by rw [Lib.toList_data]; rfl) (by go_simp) (by go_simp)).mono ?_; rintro e w' ⟨rfl, rfl⟩) | (go_at_call 13; refine (left_any ⟨#[128, 0]⟩ _ _ (by go_simp)).mono ?_; rintro e w' ⟨rfl, rfl⟩))
  rw [rounds_succ]
  go_wp2_with (first | (go_at_call 9; refine (new_any _ _).mono ?_; rintro e w6 ⟨rfl, rfl⟩) | (go_at_call 11; refine (rnumber_no ⟨#[128]⟩ _ _ (by decide) (by rw [Lib.toList_data]; rfl) (by go_simp) (by go_simp)).mono ?_; rintro e w' ⟨rfl, rfl⟩) | (go_at_call 13; refine (left_any ⟨#[128]⟩ _ _ (by go_simp)).mono ?_; rintro e w' ⟨rfl, rfl⟩))
  rw [rounds_succ]
  go_wp2_with (first | (go_at_call 9; refine (new_any _ _).mono ?_; rintro e w6 ⟨rfl, rfl⟩) | (go_at_call 11; refine (rnumber_no ⟨#[]⟩ _ _ (by decide) (by rw [Lib.toList_data]; rfl) (by go_simp) (by go_simp)).mono ?_; rintro e w' ⟨rfl, rfl⟩) | (go_at_call 13; refine (left_any ⟨#[]⟩ _ _ (by go_simp)).mono ?_; rintro e w' ⟨rfl, rfl⟩))
  rw [rounds_succ]
  go_wp2_with (first | (go_at_call 9; refine (new_any _ _).mono ?_; rintro e w6 ⟨rfl, rfl⟩) | (go_at_call 11; refine (rnumber_no ⟨#[255, 255, 255, 255, 255, 255, 255, 255, 255, 2]⟩ _ _ (by decide) (by rw [Lib.toList_data]; rfl) (by go_simp) (by go_simp)).mono ?_; rintro e w' ⟨rfl, rfl⟩) | (go_at_call 13; refine (left_any ⟨#[255, 255, 255, 255, 255, 255, 255, 255, 255, 2]⟩ _ _ (by go_simp)).mono ?_; rintro e w' ⟨rfl, rfl⟩))
  rw [rounds_succ]
  go_wp2_with (first | (go_at_call 9; refine (new_any _ _).mono ?_; rintro e w6 ⟨rfl, rfl⟩) | (go_at_call 11; refine (rnumber_no ⟨#[255, 255, 255, 255, 255, 255, 255, 255, 255, 255, 1]⟩ _ _ (by decide) (by rw [Lib.toList_data]; rfl) (by go_simp) (by go_simp)).mono ?_; rintro e w' ⟨rfl, rfl⟩) | (go_at_call 13; refine (left_any ⟨#[255, 255, 255, 255, 255, 255, 255, 255, 255, 255, 1]⟩ _ _ (by go_simp)).mono ?_; rintro e w' ⟨rfl, rfl⟩))
  rw [rounds_succ]
  go_wp2_with (first | (go_at_call 9; refine (new_any _ _).mono ?_; rintro e w6 ⟨rfl, rfl⟩) | (go_at_call 11; refine (rnumber_no ⟨#[129, 128, 0]⟩ _ _ (by decide) (by rw [Lib.toList_data]; rfl) (by go_simp) (by go_simp)).mono ?_; rintro e w' ⟨rfl, rfl⟩) | (go_at_call 13; refine (left_any ⟨#[129, 128, 0]⟩ _ _ (by go_simp)).mono ?_; rintro e w' ⟨rfl, rfl⟩))
  rw [rounds_succ]
  go_wp2
  refine wp_loop_rounds 5 ?_
  rw [rounds_succ]
  go_wp2_with (first | (go_at_call 9; refine (new_any _ _).mono ?_; rintro e w6 ⟨rfl, rfl⟩) | (go_at_call 10; refine (rtext_yes ⟨#[2, 97, 98]⟩ _ _ 2 1 2 (by decide) (by decide) (by rw [Lib.toList_data]; rfl) (by decide) (by decide) (by decide) (by go_simp) (by go_simp)).mono ?_; rintro e w' ⟨rfl, rfl⟩) | (go_at_call 13; refine (left_any ⟨#[2, 97, 98]⟩ _ _ (by go_simp)).mono ?_; rintro e w' ⟨rfl, rfl⟩))
  rw [rounds_succ]
  go_wp2_with (first | (go_at_call 9; refine (new_any _ _).mono ?_; rintro e w6 ⟨rfl, rfl⟩) | (go_at_call 10; refine (rtext_no ⟨#[2, 97, 98]⟩ _ _ 2 1 (1) (by decide) (by decide) (by rw [Lib.toList_data]; rfl) (by decide) (by go_simp)).mono ?_; rintro e w' ⟨rfl, rfl⟩) | (go_at_call 13; refine (left_any ⟨#[2, 97, 98]⟩ _ _ (by go_simp)).mono ?_; rintro e w' ⟨rfl, rfl⟩))
  rw [rounds_succ]
  go_wp2_with (first | (go_at_call 9; refine (new_any _ _).mono ?_; rintro e w6 ⟨rfl, rfl⟩) | (go_at_call 10; refine (rtext_no ⟨#[3, 97]⟩ _ _ 3 1 (5) (by decide) (by decide) (by rw [Lib.toList_data]; rfl) (by decide) (by go_simp)).mono ?_; rintro e w' ⟨rfl, rfl⟩) | (go_at_call 13; refine (left_any ⟨#[3, 97]⟩ _ _ (by go_simp)).mono ?_; rintro e w' ⟨rfl, rfl⟩))
  rw [rounds_succ]
  go_wp2_with (first | (go_at_call 9; refine (new_any _ _).mono ?_; rintro e w6 ⟨rfl, rfl⟩) | (go_at_call 10; refine (rtext_no ⟨#[0]⟩ _ _ 0 1 (-1) (by decide) (by decide) (by rw [Lib.toList_data]; rfl) (by decide) (by go_simp)).mono ?_; rintro e w' ⟨rfl, rfl⟩) | (go_at_call 13; refine (left_any ⟨#[0]⟩ _ _ (by go_simp)).mono ?_; rintro e w' ⟨rfl, rfl⟩))
  rw [rounds_succ]
  go_wp2_with fail
  refine calls_fresh (w := w) (by go_grown) (fun W hBW hSW => ?_)
  refine (new_any _ _).mono ?_
  rintro e w6 ⟨rfl, rfl⟩
  go_wp2_with (first | (go_at_call 12; with_reducible refine (take_zero _ _ (by go_simp) (by go_simp)).mono ?_; rintro e w' ⟨rfl, rfl⟩) | (go_at_call 12; with_reducible refine (take_no ⟨#[]⟩ _ (-1) _ (by decide) (by decide) (by go_simp)).mono ?_; rintro e w' ⟨rfl, rfl⟩) | (go_at_call 22; refine (byte_none _ _ (by go_simp) (by go_simp)).mono ?_; rintro e w' ⟨rfl, rfl⟩) | (go_at_call 15; with_reducible refine (unhex_odd1 _).mono ?_; rintro e w7 ⟨rfl, hb⟩; obtain ⟨hB, hS, hk⟩ := after (B := w.heap.size) (w := w) (by go_grown) (by go_size) hb; clear hb; clear hk) | (go_at_call 15; with_reducible refine (unhex_bad1 _).mono ?_; rintro e w8 ⟨rfl, hb⟩; obtain ⟨hB, hS, hk⟩ := after (B := w.heap.size) (w := w) (by go_grown) (by go_size) hb; clear hb; clear hk) | (go_at_call 15; with_reducible refine (unhex_empty _).mono ?_; rintro e w9 ⟨rfl, hb⟩; obtain ⟨hB, hS, hk⟩ := after (B := w.heap.size) (w := w) (by go_grown) (by go_size) hb; clear hb; clear hk) | (go_at_call 11; refine (number_nil _).mono ?_; rintro e w' ⟨rfl, rfl⟩) | (go_at_call 12; with_reducible refine (take_nil _ _).mono ?_; rintro e w' ⟨rfl, rfl⟩) | (go_at_call 16; refine (hex_two _).mono ?_; rintro e w10 ⟨rfl, hb⟩; obtain ⟨hB, hS, hk⟩ := after (B := w.heap.size) (w := w) (by go_grown) (by go_size) hb; clear hb; clear hk) | (go_at_call 13; refine (left_nil _).mono ?_; rintro e w' ⟨rfl, rfl⟩) | (go_at_call 14; refine (works_any _).mono ?_; rintro e w11 ⟨rfl, hb⟩; obtain ⟨hB, hS, hk⟩ := after (B := w.heap.size) (w := w) (by go_grown) (by go_size) hb; clear hb; clear hk))
  go_returns
  exact ⟨rfl, by go_grown⟩

end Go.Proofs.Ytlnealjadcggbaa
