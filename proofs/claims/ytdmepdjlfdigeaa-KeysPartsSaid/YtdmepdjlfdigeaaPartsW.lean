/-
  The walk of acreagelaw03.KeysParts: it returns true, whatever range, key and text.
-/
import Derived.Test.YtdmepdjlfdigeaaMeetW
import Derived.Deep.RegionWith
import Derived.Deep.DeepCutAuto
namespace Go.Proofs.Ytdmepdjlfdigeaa
open Go.RowKit

set_option maxRecDepth 100000 in
set_option maxHeartbeats 1000000 in
theorem parts_no (lo hi key text : ByteArray) (w : World) (hl : lo.size ≤ maxLen) (hh : hi.size ≤ maxLen) (hk : key.size ≤ maxLen) (hs : splitL lo.toList hi.toList key.toList = false) :
    Calls Try.prog 3 #[.agg #[.string lo, .string hi], .string key, .string text] w fun e w' => e = .returned (.bool true) ∧ Below w.heap.size w w' := by
  have hv := split_neg lo hi key hs
  clear hs
  go_enter Try.func3, Try.ntmps3
  go_wp2_with (first | (go_at_call 10; refine (split_any _ _ _ _ hl hh hk).mono ?_; rintro e w1 ⟨rfl, hb⟩; obtain ⟨hB, hS, hk⟩ := after (B := w.heap.size) (w := w) (by go_grown) (by go_size) hb; clear hb; obtain ⟨c0, f0, z0⟩ := hk (w.heap.size) (by go_size); clear hk) | (go_at_call 11; refine (works_any _).mono ?_; rintro e w2 ⟨rfl, hb⟩; obtain ⟨hB, hS, hk⟩ := after (B := w.heap.size) (w := w) (by go_grown) (by go_size) hb; clear hb; obtain ⟨c0, f0, z0⟩ := hk (w.heap.size) (by go_size); clear hk))
  go_returns
  exact ⟨rfl, by go_grown⟩

set_option maxRecDepth 100000 in
set_option maxHeartbeats 2000000 in
theorem parts_yes (lo hi key text : ByteArray) (w : World) (hl : lo.size ≤ maxLen) (hh : hi.size ≤ maxLen) (hk : key.size ≤ maxLen) (hs : splitL lo.toList hi.toList key.toList = true) :
    Calls Try.prog 3 #[.agg #[.string lo, .string hi], .string key, .string text] w fun e w' => e = .returned (.bool true) ∧ Below w.heap.size w w' := by
  have hv := split_pos lo hi key hs
  have hok := Lib.hid (parts_ok lo.toList hi.toList key.toList text.toList hs)
  clear hs
  go_enter Try.func3, Try.ntmps3
  go_upto_region 4 with (go_at_call 10; refine (split_any _ _ _ _ hl hh hk).mono ?_; rintro e w1 ⟨rfl, hb⟩; obtain ⟨hB, hS, hk⟩ := after (B := w.heap.size) (w := w) (by go_grown) (by go_size) hb; clear hb; obtain ⟨c0, f0, z0⟩ := hk (w.heap.size) (by go_size); clear hk)
  go_cut [10, 11] (fun a b wx => a = .bool (hasL lo.toList key.toList text.toList) ∧ b = .bool (hasL key.toList hi.toList text.toList) ∧ Below w.heap.size w wx ∧ w.heap.size < wx.heap.size ∧ w1.heap.size + 1 < wx.heap.size ∧ wx.cell? ⟨w.heap.size, 0, none⟩ = some (.string lo) ∧ wx.cell? ⟨w.heap.size, 1, none⟩ = some (.string hi) ∧ wx.cell? ⟨w1.heap.size, 0, none⟩ = some (.string lo) ∧ wx.cell? ⟨w1.heap.size, 1, none⟩ = some (.string key) ∧ wx.cell? ⟨w1.heap.size + 1, 0, none⟩ = some (.string key) ∧ wx.cell? ⟨w1.heap.size + 1, 1, none⟩ = some (.string hi))
  case first =>
    go_region_with ((go_at_call 12; refine (has_any _ _ _ _).mono ?_; rintro e w2 ⟨rfl, hb⟩; obtain ⟨hB, hS, hk⟩ := after (B := w.heap.size) (w := w) (by go_grown) (by go_size) hb; clear hb; obtain ⟨c0, f0, z0⟩ := hk (w.heap.size) (by go_size); obtain ⟨c1, f1, z1⟩ := hk (w1.heap.size) (by go_size); obtain ⟨c2, f2, z2⟩ := hk (w1.heap.size + 1) (by go_size); clear hk))
    all_goals (go_wp2_with fail; go_meet; refine ⟨rfl, rfl, by go_grown, by go_size, by go_size, ?_, ?_, ?_, ?_, ?_, ?_⟩ <;> go_simp)
  case rest =>
    obtain ⟨rfl, rfl, hB, z0, z1, q0, q1, q2, q3, q4, q5⟩ := hcut
    have hok2 := hok.out
    have e1 : errB (mayL lo.toList key.toList) = 0 := by simp [errB, hok2.cx]
    have e2 : errB (mayL key.toList hi.toList) = 0 := by simp [errB, hok2.cy]
    have e3 := hok2.nomeet
    have e4 := hok2.meetx
    have e5 := hok2.meety
    have e6 := hok2.hasx
    have e7 := hok2.hasy
    have hthree : (hasL lo.toList key.toList text.toList = true ∧ hasL key.toList hi.toList text.toList = false ∧ hasL lo.toList hi.toList text.toList = true) ∨ (hasL lo.toList key.toList text.toList = false ∧ hasL key.toList hi.toList text.toList = true ∧ hasL lo.toList hi.toList text.toList = true) ∨ (hasL lo.toList key.toList text.toList = false ∧ hasL key.toList hi.toList text.toList = false ∧ hasL lo.toList hi.toList text.toList = false) := by
      have h1 := hok2.apart
      have h2 := hok2.all
      revert h1 h2
      cases hasL lo.toList key.toList text.toList <;> cases hasL key.toList hi.toList text.toList <;> simp
    clear hok hok2 hv c0 f0
    rcases hthree with ⟨t1, t2, t3⟩ | ⟨t1, t2, t3⟩ | ⟨t1, t2, t3⟩
    all_goals
      go_wp2_with (first | (go_at_call 13; refine (check_any _ _ _ (by assumption) (by assumption)).mono ?_; rintro e w2 ⟨rfl, hb⟩; obtain ⟨hB, hS, hk⟩ := after (B := w.heap.size) (w := w) (by go_grown) (by go_size) hb; clear hb; obtain ⟨c0, f0, z0⟩ := hk (w.heap.size) (by go_size); obtain ⟨c1, f1, z1⟩ := hk (w1.heap.size) (by go_size); obtain ⟨c2, f2, z2⟩ := hk (w1.heap.size + 1) (by go_size); clear hk) | (go_at_call 12; refine (has_any _ _ _ _).mono ?_; rintro e w2 ⟨rfl, hb⟩; obtain ⟨hB, hS, hk⟩ := after (B := w.heap.size) (w := w) (by go_grown) (by go_size) hb; clear hb; obtain ⟨c0, f0, z0⟩ := hk (w.heap.size) (by go_size); obtain ⟨c1, f1, z1⟩ := hk (w1.heap.size) (by go_size); obtain ⟨c2, f2, z2⟩ := hk (w1.heap.size + 1) (by go_size); clear hk) | (go_at_call 14; refine (meet_any _ _ _ _ _).mono ?_; rintro e w2 ⟨rfl, hb⟩; obtain ⟨hB, hS, hk⟩ := after (B := w.heap.size) (w := w) (by go_grown) (by go_size) hb; clear hb; obtain ⟨c0, f0, z0⟩ := hk (w.heap.size) (by go_size); obtain ⟨c1, f1, z1⟩ := hk (w1.heap.size) (by go_size); obtain ⟨c2, f2, z2⟩ := hk (w1.heap.size + 1) (by go_size); clear hk) | (go_at_call 11; refine (works_any _).mono ?_; rintro e w2 ⟨rfl, hb⟩; obtain ⟨hB, hS, hk⟩ := after (B := w.heap.size) (w := w) (by go_grown) (by go_size) hb; clear hb; obtain ⟨c0, f0, z0⟩ := hk (w.heap.size) (by go_size); obtain ⟨c1, f1, z1⟩ := hk (w1.heap.size) (by go_size); obtain ⟨c2, f2, z2⟩ := hk (w1.heap.size + 1) (by go_size); clear hk))
      go_returns
      exact ⟨rfl, by go_grown⟩

end Go.Proofs.Ytdmepdjlfdigeaa
