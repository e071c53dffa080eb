/-
  string(make([]byte, n)): so many bytes, all naught.
-/
import Derived.Test.YtfkghpomcaonfaaRow
import Derived.Test.YtfkghpomcaonfaaFree
namespace Go.Proofs.Ytfkghpomcaonfaa
open Go.RowKit Go.Sort

def zs (n : Nat) : ByteArray := ⟨(List.replicate n (0 : UInt8)).toArray⟩
theorem zs_size (n : Nat) : (zs n).size = n := by
  show (List.replicate n (0 : UInt8)).toArray.size = n
  simp
theorem zs_toList (n : Nat) : (zs n).toList = List.replicate n 0 := by rw [Lib.toList_data]; simp [zs]

theorem Try.zinfo_u8 : (Try.prog.info? 5).map (fun i => (i.zero, i.size, i.bytes)) = some (some (.int .u8 0), 1, 1) := by kernel_rfl
theorem Try.underlying_bytes : Try.prog.underlying 39 = some (.slice 5) := by kernel_rfl
theorem Try.underlying_byte : Try.prog.underlying 5 = some (.int .u8) := by kernel_rfl
theorem Try.underlying_str : Try.prog.underlying 9 = some .string := by kernel_rfl
/-- a slice of n bytes, all naught -/
def ZAt (n : Nat) (v : Value) (w : World) : Prop := ∃ B, Row w B 5 1 v n ((List.replicate n (0 : UInt8)).map bval)
theorem ZAt.keeps {n : Nat} {v : Value} {w w' : World} (h : ZAt n v w) (hg : Grown w w') : ZAt n v w' := let ⟨B, h⟩ := h; ⟨B, h.below hg.below⟩
theorem zs_make (c : Int) (n : Nat) (hc : c = n) (hn : n ≤ 1000000) (w : World) : ∃ v w', (Instr.makeSlice 39 (.int .i64 c) (.int .i64 c)).run Try.prog w = .ok v w' ∧ Below w.heap.size w w' ∧ ZAt n v w' := by
  subst hc
  obtain ⟨i, hi, hz0, hz1, hz2⟩ := info_parts Try.zinfo_u8
  obtain ⟨w', h1, h2, h3⟩ := run_makeSlice_full (P := Try.prog) w w.heap.size 39 5 i _ 1 Try.underlying_bytes hi hz0 hz1 .i64 .i64 n (by omega) (by rw [hz2]; omega) (by unfold maxLen; omega) (Nat.le_refl _)
  refine ⟨_, w', h1, (Below.refl _ _).grown h3 (Nat.le_refl _) (fun k e => by cases e), w.heap.size, ?_⟩
  have e : (madeCells (Value.int .u8 0).cells (n * 1)).toList = (List.replicate n (0 : UInt8)).map bval := by
    rw [Nat.mul_one]
    show (madeCells #[Value.int .u8 0] n).toList = _
    rw [toList_madeCells_one, List.map_replicate]
    rfl
  rw [← e]
  exact Row.of_own h2
theorem zs_conv {n : Nat} {v : Value} {w : World} (h : ZAt n v w) : (convert 39 9 v).run Try.prog w = .ok (.string (zs n)) w := by
  obtain ⟨B, h⟩ := h
  have := convert_back (P := Try.prog) w 39 9 5 B v (List.replicate n (0 : UInt8)) Try.underlying_bytes Try.underlying_byte Try.underlying_str (by rw [List.length_replicate]; exact h)
  exact this
end Go.Proofs.Ytfkghpomcaonfaa
