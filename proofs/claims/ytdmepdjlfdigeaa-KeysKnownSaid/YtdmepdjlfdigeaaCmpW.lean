/-
  The walks of keys.Cmp and what it calls.
-/
import Derived.Test.YtdmepdjlfdigeaaRefKeysW
import Derived.Deep.RegionWith
import Derived.Deep.DeepCutAuto
import Derived.Lib.Bytealg
namespace Go.Proofs.Ytdmepdjlfdigeaa
open Go.RowKit Go.Sort

def cmpL (a b : List UInt8) : Int := if a < b then -1 else if b < a then 1 else 0
def cmpN (a b : Int) : Int := if a < b then -1 else if b < a then 1 else 0

theorem compareBytes_eq : ∀ a b : List UInt8, Lib.compareBytes a b = cmpL a b
  | [], [] => by simp [Lib.compareBytes, cmpL]
  | [], _ :: _ => by simp [Lib.compareBytes, cmpL]
  | _ :: _, [] => by simp [Lib.compareBytes, cmpL]
  | a :: x, b :: y => by
    rw [Lib.compareBytes, compareBytes_eq x y]
    simp only [cmpL, List.cons_lt_cons_iff]
    by_cases h1 : a < b <;> by_cases h2 : b < a <;> by_cases h3 : a = b <;> simp [h1, h2, h3] <;> grind

set_option maxHeartbeats 400000 in
theorem compare_any (a b : ByteArray) (w : World) :
    Calls Try.prog 33 #[.string a, .string b] w fun e w' => e = .returned (.int .i64 (cmpL a.toList b.toList)) ∧ w = w' := by
  go_enter Try.func33, Try.ntmps33
  go_wp2
  rw [run_callFunc_extern Try.func40 (by kernel_rfl) (by kernel_rfl) (by kernel_rfl) (e := Extern.BytealgCompare.compare) (by kernel_rfl), Lib.run_compareString]
  simp only [Result.andThen]
  rw [Oper.upon_value]
  go_wp2
  go_ret
  exact ⟨ret_int (by rw [compareBytes_eq, Lib.toList_data, Lib.toList_data]), rfl⟩

set_option maxHeartbeats 400000 in
theorem compareN_any (a b : Int) (w : World) :
    Calls Try.prog 34 #[.int .u64 a, .int .u64 b] w fun e w' => e = .returned (.int .i64 (cmpN a b)) ∧ w = w' := by
  go_enter Try.func34, Try.ntmps34
  go_wp2
  all_goals (go_ret; exact ⟨ret_int (by grind [cmpN]), rfl⟩)

def orI (x y z : Int) : Int := if x ≠ 0 then x else if y ≠ 0 then y else z

set_option maxHeartbeats 400000 in
theorem or_any (x y z : Int) (b : Nat) (w : World) (h0 : w.cell? ⟨b, 0, none⟩ = some (.int .i64 x)) (h1 : w.cell? ⟨b, 1, none⟩ = some (.int .i64 y)) (h2 : w.cell? ⟨b, 2, none⟩ = some (.int .i64 z)) :
    Calls Try.prog 32 #[.slice (some ⟨b, 0, none⟩) 3 3] w fun e w' => e = .returned (.int .i64 (orI x y z)) ∧ w = w' := by
  by_cases hx : x = 0
  · subst hx
    by_cases hy : y = 0
    · subst hy
      by_cases hz : z = 0
      · subst hz
        go_enter Try.func32, Try.ntmps32
        go_wp2
        go_rounds 4
        go_ret
        exact ⟨rfl, rfl⟩
      · have gz : (z != 0) = true := by simpa using hz
        go_enter Try.func32, Try.ntmps32
        go_wp2
        go_rounds 4
        go_ret
        exact ⟨ret_int (by simp [orI]), rfl⟩
    · have gy : (y != 0) = true := by simpa using hy
      go_enter Try.func32, Try.ntmps32
      go_wp2
      go_rounds 4
      go_ret
      exact ⟨ret_int (by simp [orI, hy]), rfl⟩
  · have gx : (x != 0) = true := by simpa using hx
    go_enter Try.func32, Try.ntmps32
    go_wp2
    go_rounds 4
    go_ret
    exact ⟨ret_int (by simp [orI, hx]), rfl⟩

structure CellA where
  row : ByteArray
  col : ByteArray
  ver : Int
  gone : Bool
  val : ByteArray
def CellA.v (c : CellA) : Value := .agg #[.string c.row, .string c.col, .int .u64 c.ver, .bool c.gone, .string c.val]
def cmpC (a b : CellA) : Int := orI (cmpL a.row.toList b.row.toList) (cmpL a.col.toList b.col.toList) (cmpN b.ver a.ver)

set_option maxHeartbeats 1000000 in
theorem cmp_any (a b : CellA) (w : World) :
    Calls Try.prog 25 #[a.v, b.v] w fun e w' => e = .returned (.int .i64 (cmpC a b)) ∧ Below w.heap.size w w' := by
  obtain ⟨ar, ac, av, ag, al⟩ := a
  obtain ⟨br, bc, bv, bg, bl⟩ := b
  simp only [CellA.v, cmpC]
  go_enter Try.func25, Try.ntmps25
  go_wp2
  refine wp_region_below_tail 15 (by kernel_rfl) (by kernel_rfl) (fun hkept => ?_)
  obtain ⟨r0, rf0⟩ := hkept (w.heap.size) (by go_size); obtain ⟨r1, rf1⟩ := hkept (w.heap.size + 1) (by go_size); clear hkept
  simp only [List.take_succ_cons, List.take_zero, List.drop_succ_cons, List.drop_zero]
  repeat (any_goals (first | go_big_quiet_step (first | (go_at_call 33; exact Calls.regrown_of (same_below (compare_any _ _ _))) | (go_at_call 34; exact Calls.regrown_of (same_below (compareN_any _ _ _)))) | quiet_step (first | (go_at_call 33; exact Calls.regrown_of (same_below (compare_any _ _ _))) | (go_at_call 34; exact Calls.regrown_of (same_below (compareN_any _ _ _)))) | (refine wpQuiet_step (fun K hK => ?_); go_simp; split <;> (refine hK _ ?_; clear hK K))))
  all_goals (refine wpQuiet_nil ?_; intro w1 hb; obtain ⟨hB, hS, hk⟩ := after (B := w.heap.size) (w := w) (by go_grown) (by go_size) hb; obtain ⟨c0, f0, z0⟩ := hk (w.heap.size) (by go_size); obtain ⟨c1, f1, z1⟩ := hk (w.heap.size + 1) (by go_size); clear hk hb r0 rf0 r1 rf1)
  go_wp2_with (go_at_call 32; refine (or_any (cmpL ar.toList br.toList) (cmpL ac.toList bc.toList) (cmpN bv av) _ _ ?_ ?_ ?_).mono ?_; (go_simp); (go_simp); (go_simp); rintro e w' ⟨rfl, rfl⟩)
  refine NoPanic.normal ?_
  go_wp2
  go_returns
  exact ⟨rfl, by go_grown⟩

def cellL (c : CellA) : Bool := storedL c.row.toList && decide (c.col.toList.length ≤ 16) && (!c.col.toList.isEmpty || !c.row.toList.isEmpty) && decide (1 ≤ c.ver) && decide (c.ver ≤ 1099511627776) && decide (c.val.toList.length ≤ 65536) && (!c.gone || c.val.toList.isEmpty)
structure CellA.Ok (c : CellA) : Prop where
  row : c.row.size ≤ maxLen
  col : c.col.size ≤ maxLen
  val : c.val.size ≤ maxLen
  lo : 0 ≤ c.ver
  hi : c.ver ≤ 18446744073709551615

set_option maxHeartbeats 2000000 in
theorem cell_any (c : CellA) (w : World) (h : c.Ok) :
    Calls Try.prog 27 #[c.v] w fun e w' => e = .returned (.int .i64 (errB (cellL c))) ∧ Below w.heap.size w w' := by
  obtain ⟨ar, ac, av, ag, al⟩ := c
  obtain ⟨h1, h2, h3, h4, h5⟩ := h
  simp only at h1 h2 h3 h4 h5
  simp only [CellA.v, cellL]
  have h1m := h1
  unfold maxLen at h2 h3
  go_enter Try.func27, Try.ntmps27
  go_wp2_with (first | (go_at_call 18; refine (stored_any _ _ h1).mono ?_; rintro e w1 ⟨rfl, hb⟩; obtain ⟨hB, hS, hk⟩ := after (B := w.heap.size) (w := w) (by go_grown) (by go_size) hb; clear hb; obtain ⟨c0, f0, z0⟩ := hk (w.heap.size) (by go_size); clear hk))
  all_goals (go_ret; refine ⟨ret_int ?_, by go_grown⟩)
  all_goals (simp only [size_toList] at *; grind [errB])

set_option maxHeartbeats 2000000 in
theorem rmaycell_any (c : CellA) (w : World) (h : c.Ok) :
    Calls Try.prog 36 #[c.v] w fun e w' => e = .returned (.bool (cellL c)) ∧ Below w.heap.size w w' := by
  obtain ⟨ar, ac, av, ag, al⟩ := c
  obtain ⟨h1, h2, h3, h4, h5⟩ := h
  simp only at h1 h2 h3 h4 h5
  simp only [CellA.v, cellL]
  have h1m := h1
  unfold maxLen at h2 h3
  go_enter Try.func36, Try.ntmps36
  go_wp2_with (first | (go_at_call 19; refine (rstored_any _ _ h1).mono ?_; rintro e w1 ⟨rfl, hb⟩; obtain ⟨hB, hS, hk⟩ := after (B := w.heap.size) (w := w) (by go_grown) (by go_size) hb; clear hb; obtain ⟨c0, f0, z0⟩ := hk (w.heap.size) (by go_size); clear hk))
  all_goals (go_ret; refine ⟨ret_bool ?_, by go_grown⟩)
  all_goals (simp only [size_toList] at *; grind)

end Go.Proofs.Ytdmepdjlfdigeaa
