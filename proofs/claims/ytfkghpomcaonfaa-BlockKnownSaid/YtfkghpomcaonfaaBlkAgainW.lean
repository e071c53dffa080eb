/-
  The walk of acreagelaw10.BlockAgain.
-/
import Derived.Test.YtfkghpomcaonfaaBlkLawsW
namespace Go.Proofs.Ytfkghpomcaonfaa
open Go.RowKit

set_option maxRecDepth 100000 in
set_option maxHeartbeats 2000000 in
theorem blockagain_yes (s : ByteArray) (cs : List CellA) (hc : BlockOf s.toList cs) (ar ac : ByteArray) (av : Int) (ag : Bool) (al : ByteArray) (is : Bool) (w : World)
    (F : Hid (∀ W, Calls Try.prog 17 #[.string s, .string ⟨#[97]⟩, .string ⟨#[120]⟩] W fun e w' => e = .returned (.tuple #[.agg #[.string ar, .string ac, .int .u64 av, .bool ag, .string al], .bool is, .int .i64 0]) ∧ Below W.heap.size W w')) :
    Calls Try.prog 6 #[.string s] w fun e w' => e = .returned (.bool true) ∧ Below w.heap.size w w' := by
  have K := Lib.hid fun W => readb_yes s cs hc W
  have hok : ∀ c ∈ cs, c.Ok := fun c hm => by
    obtain ⟨i, hi⟩ := List.getElem?_of_mem hm
    have h := (wrongB_false hc.good i c hi).1
    obtain ⟨h1, h2, h3, h4, h5⟩ := cellL_sizesB h
    exact ⟨by unfold maxLen; omega, by unfold maxLen; omega, by unfold maxLen; omega, by omega, by omega⟩
  have B := Lib.hid fun W ao n cap (h : Cells W ao n cap cs) => build_any ao n cap cs W h hok
  rw [blockOf_iff.1 hc, ofL_self] at B
  obtain ⟨m, hm⟩ : ∃ m, m = cs.length := ⟨_, rfl⟩
  have Hm := Lib.hid hm.symm
  rw [← hm] at K
  have hself : (s.toList == s.toList) = true := by simp
  clear hc hm hok
  go_enter Try.func6, Try.ntmps6
  go_wp2_with (first
    | (go_at_call 14; refine (works10_any _).mono ?_; rintro e w1 ⟨rfl, hb⟩; obtain ⟨hB, hS, hk⟩ := after (B := w.heap.size) (w := w) (by go_grown) (by go_size) hb; clear hb; clear hk)
    | (go_at_call 15; refine (K.out _).mono ?_; rintro e w2 ⟨ao1, cap1, rfl, hO, hb⟩; obtain ⟨hB, hS, hk⟩ := after (B := w.heap.size) (w := w) (by go_grown) (by go_size) hb; have HO1 := Lib.hid (own_arr hO Hm.out); clear hO hb hk)
    | (go_at_call 17; refine (F.out w2).mono ?_; rintro e w3 ⟨rfl, hb⟩; have HB23 := Lib.hid hb; have hs23 := hb.size; obtain ⟨hB, hS, hk⟩ := after (B := w.heap.size) (w := w) (by go_grown) (by go_size) hb; clear hb hk)
    | (go_at_call 11; refine (B.out _ _ _ _ (Arr.below HO1.out (by have h3 := HB23.out; go_grown))).mono ?_; rintro e w4 ⟨rfl, hb⟩; obtain ⟨hB, hS, hk⟩ := after (B := w.heap.size) (w := w) (by go_grown) (by go_size) hb; clear hb; obtain ⟨c0, f0, z0⟩ := hk (w3.heap.size) (by go_size); clear hk))
  go_returns
  exact ⟨rfl, hB⟩
set_option maxRecDepth 100000 in
set_option maxHeartbeats 2000000 in
theorem blockagain_no (s : ByteArray) (h : ∀ cs, ¬ BlockOf s.toList cs) (w : World) :
    Calls Try.prog 6 #[.string s] w fun e w' => e = .returned (.bool true) ∧ Below w.heap.size w w' := by
  have K := Lib.hid fun W => readb_no s h W
  have F := Lib.hid (find_no s (⟨#[97]⟩ : ByteArray) (⟨#[120]⟩ : ByteArray) h)
  clear h
  go_enter Try.func6, Try.ntmps6
  go_wp2_with (first
    | (go_at_call 14; refine (works10_any _).mono ?_; rintro e w1 ⟨rfl, hb⟩; obtain ⟨hB, hS, hk⟩ := after (B := w.heap.size) (w := w) (by go_grown) (by go_size) hb; clear hb; clear hk)
    | (go_at_call 15; refine (K.out _).mono ?_; rintro e w2 ⟨rfl, hb⟩; obtain ⟨hB, hS, hk⟩ := after (B := w.heap.size) (w := w) (by go_grown) (by go_size) hb; clear hb; clear hk)
    | (go_at_call 17; refine (F.out _).mono ?_; rintro e w3 ⟨rfl, hb⟩; obtain ⟨hB, hS, hk⟩ := after (B := w.heap.size) (w := w) (by go_grown) (by go_size) hb; clear hb; clear hk))
  go_returns
  exact ⟨rfl, by go_grown⟩
theorem blockagain_any (s : ByteArray) (w : World) :
    Calls Try.prog 6 #[.string s] w fun e w' => e = .returned (.bool true) ∧ Below w.heap.size w w' := by
  by_cases hex : ∃ cs, BlockOf s.toList cs
  · obtain ⟨cs, h⟩ := hex
    cases hf : findL (⟨#[97]⟩ : ByteArray).toList (⟨#[120]⟩ : ByteArray).toList cs with
    | none => exact blockagain_yes s cs h _ _ _ _ _ _ w (Lib.hid (find_none s _ _ cs h hf))
    | some c => exact blockagain_yes s cs h _ _ _ _ _ _ w (Lib.hid (find_some s _ _ cs h c hf))
  · exact blockagain_no s (fun cs h => hex ⟨cs, h⟩) w
end Go.Proofs.Ytfkghpomcaonfaa
