/-
  Cells: the walks of keys.Cmp, keys.Cell and the document's answers; cells in a slice.
-/
import Derived.Test.YtihglmicgccgiaaPlain
import Derived.Test.YtihglmicgccgiaaQuiet
import Derived.Test.YtihglmicgccgiaaSlice
import Derived.WalkKit
import Derived.WalkSpells
import Derived.WalkLawsBesides
import Derived.BigQuiet
import Derived.Deep.QuietTactic
import Derived.Deep.RegionWith
import Derived.Deep.DeepCutAuto
import Derived.Lib.Hide
import Derived.Lib.SmallJoins
import Derived.Lib.Bytealg
import Derived.LoopTactic
import Derived.Handy
namespace Go.Proofs.Ytihglmicgccgiaa
open Go.RowKit Go.Sort

def errB (b : Bool) : Int := if b then 0 else 2
def storedL (key : List UInt8) : Bool := decide (key.length ≤ 32)
set_option maxHeartbeats 400000 in
theorem stored_any (key : ByteArray) (w : World) (hk : key.size ≤ maxLen) :
    Calls Try.prog 62 #[.string key] w fun e w' => e = .returned (.bool (storedL key.toList)) ∧ Below w.heap.size w w' := by
  unfold maxLen at hk
  go_enter Try.func62, Try.ntmps62
  go_wp2
  all_goals (go_ret; refine ⟨ret_bool ?_, by go_grown⟩; simp only [size_toList] at *; grind [storedL])

def cmpL (a b : List UInt8) : Int := if a < b then -1 else if b < a then 1 else 0
def cmpN (a b : Int) : Int := if a < b then -1 else if b < a then 1 else 0

theorem compareBytes_eq : ∀ a b : List UInt8, Lib.compareBytes a b = cmpL a b
  | [], [] => by simp [Lib.compareBytes, cmpL]
  | [], _ :: _ => by simp [Lib.compareBytes, cmpL]
  | _ :: _, [] => by simp [Lib.compareBytes, cmpL]
  | a :: x, b :: y => by
    rw [Lib.compareBytes, compareBytes_eq x y]
    simp only [cmpL, List.cons_lt_cons_iff]
    by_cases h1 : a < b <;> by_cases h2 : b < a <;> by_cases h3 : a = b <;> simp [h1, h2, h3] <;> grind

set_option maxHeartbeats 400000 in
theorem compare_any (a b : ByteArray) (w : World) :
    Calls Try.prog 34 #[.string a, .string b] w fun e w' => e = .returned (.int .i64 (cmpL a.toList b.toList)) ∧ w = w' := by
  go_enter Try.func34, Try.ntmps34
  go_wp2
  rw [run_callFunc_extern Try.func80 (by kernel_rfl) (by kernel_rfl) (by kernel_rfl) (e := Extern.BytealgCompare.compare) (by kernel_rfl), Lib.run_compareString]
  simp only [Result.andThen]
  rw [Oper.upon_value]
  go_wp2
  go_ret
  exact ⟨ret_int (by rw [compareBytes_eq, Lib.toList_data, Lib.toList_data]), rfl⟩

set_option maxHeartbeats 400000 in
theorem compareN_any (a b : Int) (w : World) :
    Calls Try.prog 35 #[.int .u64 a, .int .u64 b] w fun e w' => e = .returned (.int .i64 (cmpN a b)) ∧ w = w' := by
  go_enter Try.func35, Try.ntmps35
  go_wp2
  all_goals (go_ret; exact ⟨ret_int (by grind [cmpN]), rfl⟩)

def orI (x y z : Int) : Int := if x ≠ 0 then x else if y ≠ 0 then y else z

set_option maxHeartbeats 400000 in
theorem or_any (x y z : Int) (b : Nat) (w : World) (h0 : w.cell? ⟨b, 0, none⟩ = some (.int .i64 x)) (h1 : w.cell? ⟨b, 1, none⟩ = some (.int .i64 y)) (h2 : w.cell? ⟨b, 2, none⟩ = some (.int .i64 z)) :
    Calls Try.prog 33 #[.slice (some ⟨b, 0, none⟩) 3 3] w fun e w' => e = .returned (.int .i64 (orI x y z)) ∧ w = w' := by
  by_cases hx : x = 0
  · subst hx
    by_cases hy : y = 0
    · subst hy
      by_cases hz : z = 0
      · subst hz
        go_enter Try.func33, Try.ntmps33
        go_wp2
        go_rounds 4
        go_ret
        exact ⟨rfl, rfl⟩
      · have gz : (z != 0) = true := by simpa using hz
        go_enter Try.func33, Try.ntmps33
        go_wp2
        go_rounds 4
        go_ret
        exact ⟨ret_int (by simp [orI]), rfl⟩
    · have gy : (y != 0) = true := by simpa using hy
      go_enter Try.func33, Try.ntmps33
      go_wp2
      go_rounds 4
      go_ret
      exact ⟨ret_int (by simp [orI, hy]), rfl⟩
  · have gx : (x != 0) = true := by simpa using hx
    go_enter Try.func33, Try.ntmps33
    go_wp2
    go_rounds 4
    go_ret
    exact ⟨ret_int (by simp [orI, hx]), rfl⟩

structure CellA where
  row : ByteArray
  col : ByteArray
  ver : Int
  gone : Bool
  val : ByteArray
def CellA.v (c : CellA) : Value := .agg #[.string c.row, .string c.col, .int .u64 c.ver, .bool c.gone, .string c.val]
def cmpC (a b : CellA) : Int := orI (cmpL a.row.toList b.row.toList) (cmpL a.col.toList b.col.toList) (cmpN b.ver a.ver)

set_option maxHeartbeats 1000000 in
theorem cmp_any (a b : CellA) (w : World) :
    Calls Try.prog 15 #[a.v, b.v] w fun e w' => e = .returned (.int .i64 (cmpC a b)) ∧ Below w.heap.size w w' := by
  obtain ⟨ar, ac, av, ag, al⟩ := a
  obtain ⟨br, bc, bv, bg, bl⟩ := b
  simp only [CellA.v, cmpC]
  go_enter Try.func15, Try.ntmps15
  go_wp2
  refine wp_region_below_tail 15 (by kernel_rfl) (by kernel_rfl) (fun hkept => ?_)
  obtain ⟨r0, rf0⟩ := hkept (w.heap.size) (by go_size); obtain ⟨r1, rf1⟩ := hkept (w.heap.size + 1) (by go_size); clear hkept
  simp only [List.take_succ_cons, List.take_zero, List.drop_succ_cons, List.drop_zero]
  repeat (any_goals (first | go_big_quiet_step (first | (go_at_call 34; exact Calls.regrown_of (same_below (compare_any _ _ _))) | (go_at_call 35; exact Calls.regrown_of (same_below (compareN_any _ _ _)))) | quiet_step (first | (go_at_call 34; exact Calls.regrown_of (same_below (compare_any _ _ _))) | (go_at_call 35; exact Calls.regrown_of (same_below (compareN_any _ _ _)))) | (refine wpQuiet_step (fun K hK => ?_); go_simp; split <;> (refine hK _ ?_; clear hK K))))
  all_goals (refine wpQuiet_nil ?_; intro w1 hb; obtain ⟨hB, hS, hk⟩ := after (B := w.heap.size) (w := w) (by go_grown) (by go_size) hb; obtain ⟨c0, f0, z0⟩ := hk (w.heap.size) (by go_size); obtain ⟨c1, f1, z1⟩ := hk (w.heap.size + 1) (by go_size); clear hk hb r0 rf0 r1 rf1)
  go_wp2_with (go_at_call 33; refine (or_any (cmpL ar.toList br.toList) (cmpL ac.toList bc.toList) (cmpN bv av) _ _ ?_ ?_ ?_).mono ?_; (go_simp); (go_simp); (go_simp); rintro e w' ⟨rfl, rfl⟩)
  refine NoPanic.normal ?_
  go_wp2
  go_returns
  exact ⟨rfl, by go_grown⟩

def cellL (c : CellA) : Bool := storedL c.row.toList && decide (c.col.toList.length ≤ 16) && (!c.col.toList.isEmpty || !c.row.toList.isEmpty) && decide (1 ≤ c.ver) && decide (c.ver ≤ 1099511627776) && decide (c.val.toList.length ≤ 65536) && (!c.gone || c.val.toList.isEmpty)
structure CellA.Ok (c : CellA) : Prop where
  row : c.row.size ≤ maxLen
  col : c.col.size ≤ maxLen
  val : c.val.size ≤ maxLen
  lo : 0 ≤ c.ver
  hi : c.ver ≤ 18446744073709551615

set_option maxHeartbeats 2000000 in
theorem cell_any (c : CellA) (w : World) (h : c.Ok) :
    Calls Try.prog 39 #[c.v] w fun e w' => e = .returned (.int .i64 (errB (cellL c))) ∧ Below w.heap.size w w' := by
  obtain ⟨ar, ac, av, ag, al⟩ := c
  obtain ⟨h1, h2, h3, h4, h5⟩ := h
  simp only at h1 h2 h3 h4 h5
  simp only [CellA.v, cellL]
  have h1m := h1
  unfold maxLen at h2 h3
  go_enter Try.func39, Try.ntmps39
  go_wp2_with (first | (go_at_call 62; refine (stored_any _ _ h1).mono ?_; rintro e w1 ⟨rfl, hb⟩; obtain ⟨hB, hS, hk⟩ := after (B := w.heap.size) (w := w) (by go_grown) (by go_size) hb; clear hb; obtain ⟨c0, f0, z0⟩ := hk (w.heap.size) (by go_size); clear hk))
  all_goals (go_ret; refine ⟨ret_int ?_, by go_grown⟩)
  all_goals (simp only [size_toList] at *; grind [errB])

theorem cmpL_eq (a : List UInt8) : cmpL a a = 0 := by grind [cmpL]
theorem cmpL_ne (a b : List UInt8) (h : a ≠ b) : cmpL a b = if a < b then -1 else 1 := by grind [cmpL]

theorem cmpC_neg (a b : CellA) : (cmpC a b = -1 ∧ cmpC b a = 1) ∨ (cmpC a b = 0 ∧ cmpC b a = 0) ∨ (cmpC a b = 1 ∧ cmpC b a = -1) := by
  grind [cmpC, orI, cmpL, cmpN]

theorem cmp_raw (ar ac : ByteArray) (av : Int) (ag : Bool) (al br bc : ByteArray) (bv : Int) (bg : Bool) (bl : ByteArray) (w : World) :
    Calls Try.prog 15 #[.agg #[.string ar, .string ac, .int .u64 av, .bool ag, .string al], .agg #[.string br, .string bc, .int .u64 bv, .bool bg, .string bl]] w
      fun e w' => e = .returned (.int .i64 (cmpC ⟨ar, ac, av, ag, al⟩ ⟨br, bc, bv, bg, bl⟩)) ∧ Below w.heap.size w w' := cmp_any ⟨ar, ac, av, ag, al⟩ ⟨br, bc, bv, bg, bl⟩ w
/-- a cell's cells -/
def cellE (c : CellA) : List Value := [.string c.row, .string c.col, .int .u64 c.ver, .bool c.gone, .string c.val]
theorem cellE_elems (cs : List CellA) : Elems 5 (cs.map cellE) := fun e he => by
  obtain ⟨r, _, rfl⟩ := List.mem_map.1 he
  exact ⟨rfl, fun u hu => by simp only [cellE, List.mem_cons, List.not_mem_nil, or_false] at hu; rcases hu with rfl | rfl | rfl | rfl | rfl <;> rfl⟩
/-- the cells of one element -/
structure CellAt (w : World) (b off : Nat) (c : CellA) : Prop where
  c0 : w.cell? ⟨b, off, none⟩ = some (.string c.row)
  c1 : w.cell? ⟨b, off + 1, none⟩ = some (.string c.col)
  c2 : w.cell? ⟨b, off + 2, none⟩ = some (.int .u64 c.ver)
  c3 : w.cell? ⟨b, off + 3, none⟩ = some (.bool c.gone)
  c4 : w.cell? ⟨b, off + 4, none⟩ = some (.string c.val)
/-- cells in a slice -/
def Cells (w : World) (ao : Option Addr) (n cap : Nat) (cs : List CellA) : Prop := Arr w 5 ao n cap (cs.map cellE)
theorem Cells.len {w : World} {ao : Option Addr} {n cap : Nat} {cs : List CellA} (h : Cells w ao n cap cs) : cs.length = n := by have := Arr.len h; rwa [List.length_map] at this
theorem Cells.at_ {w : World} {ao : Option Addr} {n cap : Nat} {cs : List CellA} (h : Cells w ao n cap cs) {i : Nat} {c : CellA} (hc : cs[i]? = some c) : ∃ b off, ao = some ⟨b, off, none⟩ ∧ b < w.heap.size ∧ CellAt w b (off + i * 5) c := by
  obtain ⟨b, off, e, hb, hj⟩ := Arr.at_ h (i := i) (e := cellE c) (by simp [hc])
  exact ⟨b, off, e, hb, by have := hj 0 _ rfl; simpa using this, hj 1 _ rfl, hj 2 _ rfl, hj 3 _ rfl, hj 4 _ rfl⟩

end Go.Proofs.Ytihglmicgccgiaa
