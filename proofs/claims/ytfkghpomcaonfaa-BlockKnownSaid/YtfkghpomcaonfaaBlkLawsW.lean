/-
  The walks of acreagelaw10's BlockBuilds, BlockReads, BlockFinds, BlockAgain.
-/
import Derived.Test.YtfkghpomcaonfaaWorksBW
import Derived.Test.YtfkghpomcaonfaaRFindW
import Derived.Test.YtfkghpomcaonfaaOwnW
namespace Go.Proofs.Ytfkghpomcaonfaa
open Go.RowKit

theorem own_n {w : World} {B n : Nat} {v : Value} {cs : List CellA} (h : Own w B v cs) (hn : cs.length = n) : ∃ ao cap, v = .slice ao n cap ∧ Cells w ao n cap cs := by
  subst hn; exact h.cells
theorem own_arr {w : World} {B n c : Nat} {ao : Option Addr} {cs : List CellA} (h : Own w B (.slice ao n c) cs) (hn : cs.length = n) : Cells w ao n c cs := by
  obtain ⟨ao', cap', e, hC⟩ := own_n h hn
  cases e
  exact hC
set_option maxRecDepth 100000 in
set_option maxHeartbeats 2000000 in
theorem blockbuilds_any (ao : Option Addr) (n cap : Nat) (cs : List CellA) (w : World) (h : Cells w ao n cap cs) (hok : ∀ c ∈ cs, c.Ok) (hn : n * 64 ≤ 140737488355328) :
    Calls Try.prog 3 #[.slice ao n cap] w fun e w' => e = .returned (.bool true) ∧ Below w.heap.size w w' := by
  have Hl := Lib.hid h.len
  have H := Lib.hid h
  have Hn := Lib.hid hn
  have K1 := Lib.hid fun W ao n cap (h : Cells W ao n cap cs) => build_any ao n cap cs W h hok
  have K2 := Lib.hid fun W ao n cap (h : Cells W ao n cap cs) => rbuild_any ao n cap cs W h hok
  have K3 := Lib.hid fun W ao ao2 n cap n2 cap2 (h : Cells W ao n cap cs) (h2 : Cells W ao2 n2 cap2 cs) => rsame_any ao ao2 n cap n2 cap2 cs cs W h h2
  rw [sameC_self] at K3
  obtain ⟨rs, hrs⟩ : ∃ s, s = ofL (buildR cs).1 := ⟨_, rfl⟩
  obtain ⟨re, hre⟩ : ∃ s, s = (buildR cs).2 := ⟨_, rfl⟩
  rw [← hrs, ← hre] at K1 K2
  clear h hok hn hrs hre
  go_enter Try.func3, Try.ntmps3
  go_wp2_with (first
    | (go_at_call 10; refine (own_any _ _ _ cs _ H.out Hn.out).mono ?_; rintro e w1 ⟨v, rfl, hO, hB⟩; obtain ⟨ao1, cap1, rfl, hc⟩ := own_n hO Hl.out; have HO1 := Lib.hid hc; have HL1 := Lib.hid (Arr.below H.out hB); have hz1 := hB.size; clear hO hc)
    | (go_at_call 11; refine (K1.out _ _ _ _ HO1.out).mono ?_; rintro e w2 ⟨rfl, hb⟩; obtain ⟨hB, hS, hk⟩ := after (B := w.heap.size) (w := w) (by go_grown) (by go_size) hb; have Hw2 := Lib.hid hb; clear hb; clear hk)
    | (go_at_call 12; refine (K2.out _ _ _ _ (Arr.below HL1.out Hw2.out)).mono ?_; rintro e w3 ⟨rfl, hb⟩; obtain ⟨hB, hS, hk⟩ := after (B := w.heap.size) (w := w) (by go_grown) (by go_size) hb; have Hw3 := Lib.hid hb; clear hb; clear hk)
    | (go_at_call 13; refine (K3.out _ _ _ _ _ _ _ (Arr.below (Arr.below HO1.out Hw2.out) Hw3.out) (Arr.below (Arr.below HL1.out Hw2.out) Hw3.out)).mono ?_; rintro e w4 ⟨rfl, hb⟩; obtain ⟨hB, hS, hk⟩ := after (B := w.heap.size) (w := w) (by go_grown) (by go_size) hb; have Hw4 := Lib.hid hb; clear hb; clear hk)
    | (go_at_call 14; refine (works10_any _).mono ?_; rintro e w5 ⟨rfl, hb⟩; obtain ⟨hB, hS, hk⟩ := after (B := w.heap.size) (w := w) (by go_grown) (by go_size) hb; clear hb; clear hk))
  go_returns
  exact ⟨rfl, hB⟩
set_option maxRecDepth 100000 in
set_option maxHeartbeats 2000000 in
theorem blockreads_any (s : ByteArray) (w : World) :
    Calls Try.prog 4 #[.string s] w fun e w' => e = .returned (.bool true) ∧ Below w.heap.size w w' := by
  have S := Lib.hid fun W (ds : List CellA) ao ao2 n cap n2 cap2 (h : Cells W ao n cap ds) (h2 : Cells W ao2 n2 cap2 ds) => rsame_any ao ao2 n cap n2 cap2 ds ds W h h2
  simp only [sameC_self] at S
  by_cases hex : ∃ cs, BlockOf s.toList cs
  · obtain ⟨cs, hc⟩ := hex
    have K := Lib.hid fun W => readb_yes s cs hc W
    have R := Lib.hid fun W => rreadb_yes s cs hc W
    obtain ⟨m, hm⟩ : ∃ m, m = cs.length := ⟨_, rfl⟩
    have Hm := Lib.hid hm.symm
    rw [← hm] at K R
    clear hc hm
    go_enter Try.func4, Try.ntmps4
    go_wp2_with (first
      | (go_at_call 15; refine (K.out _).mono ?_; rintro e w1 ⟨ao1, cap1, rfl, hO, hb⟩; obtain ⟨hB, hS, hk⟩ := after (B := w.heap.size) (w := w) (by go_grown) (by go_size) hb; have HO1 := Lib.hid (own_arr hO Hm.out); clear hO hb hk)
      | (go_at_call 16; refine (R.out _).mono ?_; rintro e w2 ⟨ao2, cap2, rfl, hO, hb⟩; obtain ⟨hB, hS, hk⟩ := after (B := w.heap.size) (w := w) (by go_grown) (by go_size) hb; have HO2 := Lib.hid (own_arr hO Hm.out); have HP2 : Hid (Cells w2 ao1 m cap1 cs) := Lib.hid (Arr.below HO1.out hb); clear hO hb hk)
      | (go_at_call 13; refine (S.out _ cs _ _ _ _ _ _ HP2.out HO2.out).mono ?_; rintro e w3 ⟨rfl, hb⟩; obtain ⟨hB, hS, hk⟩ := after (B := w.heap.size) (w := w) (by go_grown) (by go_size) hb; clear hb; clear hk)
      | (go_at_call 14; refine (works10_any _).mono ?_; rintro e w4 ⟨rfl, hb⟩; obtain ⟨hB, hS, hk⟩ := after (B := w.heap.size) (w := w) (by go_grown) (by go_size) hb; clear hb; clear hk))
    go_returns
    exact ⟨rfl, hB⟩
  · have hno : ∀ cs, ¬ BlockOf s.toList cs := fun cs h => hex ⟨cs, h⟩
    have K := Lib.hid fun W => readb_no s hno W
    have R := Lib.hid fun W => rreadb_no s hno W
    clear hex hno
    go_enter Try.func4, Try.ntmps4
    go_wp2_with (first
      | (go_at_call 15; refine (K.out _).mono ?_; rintro e w1 ⟨rfl, hb⟩; obtain ⟨hB, hS, hk⟩ := after (B := w.heap.size) (w := w) (by go_grown) (by go_size) hb; clear hb; clear hk)
      | (go_at_call 16; refine (R.out _).mono ?_; rintro e w2 ⟨rfl, hb⟩; obtain ⟨hB, hS, hk⟩ := after (B := w.heap.size) (w := w) (by go_grown) (by go_size) hb; clear hb; clear hk)
      | (go_at_call 13; refine (S.out _ [] _ _ _ _ _ _ (Arr.nil _ _) (Arr.nil _ _)).mono ?_; rintro e w3 ⟨rfl, hb⟩; obtain ⟨hB, hS, hk⟩ := after (B := w.heap.size) (w := w) (by go_grown) (by go_size) hb; clear hb; clear hk)
      | (go_at_call 14; refine (works10_any _).mono ?_; rintro e w4 ⟨rfl, hb⟩; obtain ⟨hB, hS, hk⟩ := after (B := w.heap.size) (w := w) (by go_grown) (by go_size) hb; clear hb; clear hk))
    go_returns
    exact ⟨rfl, hB⟩
theorem find_some (s row col : ByteArray) (cs : List CellA) (h : BlockOf s.toList cs) (c : CellA) (hc : findL row.toList col.toList cs = some c) (w : World) :
    Calls Try.prog 17 #[.string s, .string row, .string col] w fun e w' => e = .returned (.tuple #[.agg #[.string c.row, .string c.col, .int .u64 c.ver, .bool c.gone, .string c.val], .bool true, .int .i64 0]) ∧ Below w.heap.size w w' :=
  find_yes s row col cs h w _ (fun d w' hd hb => by rw [hc] at hd; cases hd; exact ⟨rfl, hb⟩) (fun w' hd hb => by rw [hc] at hd; cases hd)
theorem find_none (s row col : ByteArray) (cs : List CellA) (h : BlockOf s.toList cs) (hc : findL row.toList col.toList cs = none) (w : World) :
    Calls Try.prog 17 #[.string s, .string row, .string col] w fun e w' => e = .returned (.tuple #[.agg #[.string ⟨#[]⟩, .string ⟨#[]⟩, .int .u64 0, .bool false, .string ⟨#[]⟩], .bool false, .int .i64 0]) ∧ Below w.heap.size w w' :=
  find_yes s row col cs h w _ (fun d w' hd hb => by rw [hc] at hd; cases hd) (fun w' hd hb => ⟨rfl, hb⟩)
theorem rfind_some (s row col : ByteArray) (cs : List CellA) (h : BlockOf s.toList cs) (c : CellA) (hc : findL row.toList col.toList cs = some c) (w : World) :
    Calls Try.prog 18 #[.string s, .string row, .string col] w fun e w' => e = .returned (.tuple #[.agg #[.string c.row, .string c.col, .int .u64 c.ver, .bool c.gone, .string c.val], .bool true, .int .i64 0]) ∧ Below w.heap.size w w' :=
  rfind_yes s row col cs h w _ (fun d w' hd hb => by rw [hc] at hd; cases hd; exact ⟨rfl, hb⟩) (fun w' hd hb => by rw [hc] at hd; cases hd)
theorem rfind_none (s row col : ByteArray) (cs : List CellA) (h : BlockOf s.toList cs) (hc : findL row.toList col.toList cs = none) (w : World) :
    Calls Try.prog 18 #[.string s, .string row, .string col] w fun e w' => e = .returned (.tuple #[.agg #[.string ⟨#[]⟩, .string ⟨#[]⟩, .int .u64 0, .bool false, .string ⟨#[]⟩], .bool false, .int .i64 0]) ∧ Below w.heap.size w w' :=
  rfind_yes s row col cs h w _ (fun d w' hd hb => by rw [hc] at hd; cases hd) (fun w' hd hb => ⟨rfl, hb⟩)
set_option maxRecDepth 100000 in
set_option maxHeartbeats 2000000 in
theorem blockfinds_eq (s row col : ByteArray) (ar ac : ByteArray) (av : Int) (ag : Bool) (al : ByteArray) (is : Bool) (er : Int) (w : World)
    (K : Hid (∀ W, Calls Try.prog 17 #[.string s, .string row, .string col] W fun e w' => e = .returned (.tuple #[.agg #[.string ar, .string ac, .int .u64 av, .bool ag, .string al], .bool is, .int .i64 er]) ∧ Below W.heap.size W w'))
    (R : Hid (∀ W, Calls Try.prog 18 #[.string s, .string row, .string col] W fun e w' => e = .returned (.tuple #[.agg #[.string ar, .string ac, .int .u64 av, .bool ag, .string al], .bool is, .int .i64 er]) ∧ Below W.heap.size W w')) :
    Calls Try.prog 5 #[.string s, .string row, .string col] w fun e w' => e = .returned (.bool true) ∧ Below w.heap.size w w' := by
  go_enter Try.func5, Try.ntmps5
  go_wp2_with (first
    | (go_at_call 17; refine (K.out _).mono ?_; rintro e w1 ⟨rfl, hb⟩; obtain ⟨hB, hS, hk⟩ := after (B := w.heap.size) (w := w) (by go_grown) (by go_size) hb; clear hb; clear hk)
    | (go_at_call 18; refine (R.out _).mono ?_; rintro e w2 ⟨rfl, hb⟩; obtain ⟨hB, hS, hk⟩ := after (B := w.heap.size) (w := w) (by go_grown) (by go_size) hb; clear hb; obtain ⟨c0, f0, z0⟩ := hk (w1.heap.size) (by go_size); clear hk)
    | (go_at_call 14; refine (works10_any _).mono ?_; rintro e w3 ⟨rfl, hb⟩; obtain ⟨hB, hS, hk⟩ := after (B := w.heap.size) (w := w) (by go_grown) (by go_size) hb; clear hb; obtain ⟨c0, f0, z0⟩ := hk (w1.heap.size) (by go_size); obtain ⟨c1, f1, z1⟩ := hk (w2.heap.size) (by go_size); clear hk))
  go_returns
  exact ⟨rfl, by go_grown⟩
theorem blockfinds_any (s row col : ByteArray) (w : World) :
    Calls Try.prog 5 #[.string s, .string row, .string col] w fun e w' => e = .returned (.bool true) ∧ Below w.heap.size w w' := by
  by_cases hex : ∃ cs, BlockOf s.toList cs
  · obtain ⟨cs, h⟩ := hex
    cases hf : findL row.toList col.toList cs with
    | none => exact blockfinds_eq s row col _ _ _ _ _ _ _ w (Lib.hid (find_none s row col cs h hf)) (Lib.hid (rfind_none s row col cs h hf))
    | some c => exact blockfinds_eq s row col _ _ _ _ _ _ _ w (Lib.hid (find_some s row col cs h c hf)) (Lib.hid (rfind_some s row col cs h c hf))
  · have hno : ∀ cs, ¬ BlockOf s.toList cs := fun cs h => hex ⟨cs, h⟩
    exact blockfinds_eq s row col _ _ _ _ _ _ _ w (Lib.hid (find_no s row col hno)) (Lib.hid (rfind_no s row col hno))
end Go.Proofs.Ytfkghpomcaonfaa
