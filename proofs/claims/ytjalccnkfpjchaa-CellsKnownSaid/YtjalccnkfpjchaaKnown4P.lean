/-
  CellsKnown: the plain part: closed lists, closed bytes.
-/
import Derived.Test.YtjalccnkfpjchaaWorks4W
import Derived.Test.YtjalccnkfpjchaaWithinW
import Derived.Test.YtjalccnkfpjchaaSortAnyW
import Derived.Test.YtjalccnkfpjchaaCellsBackW
import Derived.Test.YtjalccnkfpjchaaEnc1W
import Derived.Test.YtjalccnkfpjchaaLits
import Derived.Test.YtjalccnkfpjchaaZeros
namespace Go.Proofs.Ytjalccnkfpjchaa
open Go.RowKit Go.Sort

deriving instance DecidableEq for CellA
theorem sm_lit (l : List UInt8) (h : l.length ≤ 1000) : (⟨l.toArray⟩ : ByteArray).size ≤ maxLen := by
  show l.toArray.size ≤ maxLen
  unfold maxLen
  rw [List.size_toArray]; omega
/-- a slice's own row, as cells -/
theorem row_cells {w : World} {B g n cap : Nat} {cs : List CellA} (h : Row w B 32 5 (.slice (some ⟨g, 0, none⟩) n cap) n (cs.map cellE).flatten) (hl : cs.length = n) : Cells w (some ⟨g, 0, none⟩) n cap cs := by
  subst hl
  obtain ⟨ao, cp, e, h⟩ := Own.cells (w := w) (B := B) (cs := cs) h
  cases e
  exact h
theorem arr_dropK {w : World} {size n cap : Nat} {b off : Nat} {es : List (List Value)} (h : Arr w size (some ⟨b, off, none⟩) n cap es) (k : Nat) (hk : k ≤ n) {o : Nat} (ho : o = off + k * size) : Arr w size (some ⟨b, o, none⟩) (n - k) (cap - k) (es.drop k) := by
  subst ho
  refine ⟨fun e he => h.elems e (List.mem_of_mem_drop he), by rw [List.length_drop, h.len], by have := h.fits; omega, by have := h.max; omega, fun h0 => ?_⟩
  obtain ⟨b', off', e, hl, hc⟩ := h.lies (by omega)
  cases e
  refine ⟨b, _, rfl, hl, fun i e he j u hu => ?_⟩
  rw [List.getElem?_drop] at he
  rw [← hc (k + i) e he j u hu, Nat.add_mul]
  congr 2
  omega
/-- cells i..j of a list -/
theorem cells_mid {w : World} {b n cap : Nat} {cs : List CellA} (h : Cells w (some ⟨b, 0, none⟩) n cap cs) (k m : Nat) (hk : k + m ≤ n) : Cells w (some ⟨b, k * 5, none⟩) m (cap - k) ((cs.drop k).take m) := by
  have h1 := arr_dropK h k (by omega) (o := k * 5) (by omega)
  rw [← List.map_drop] at h1
  exact Cells.short (n := n - k) h1 (by omega)

/-- the wide cell -/
def wideC (z : ByteArray) : CellA := ⟨⟨#[97]⟩, ⟨#[120]⟩, 1, false, z⟩
theorem wide_ok {z : ByteArray} (hz : z.size = 65536) : (wideC z).Ok := ⟨sm_lit [_] (by simp), sm_lit [_] (by simp), by show z.size ≤ maxLen; rw [hz]; decide, by show (0 : Int) ≤ 1; decide, by show (1 : Int) ≤ 18446744073709551615; decide⟩
theorem wide_good {z : ByteArray} (hz : z.size = 65536) : cellL (wideC z) = true := by
  simp [cellL, storedL, wideC, size_list, hz, Lib.toList_data]
theorem wide_len {z : ByteArray} (hz : z.size = 65536) : (encC (wideC z)).length = 65545 := by
  have e1 : (numL 65536).length = 3 := by decide +kernel
  have e2 : (numL 1).length = 1 := by decide +kernel
  have e3 : (numW 1).length = 1 := by decide +kernel
  have e4 : (⟨#[97]⟩ : ByteArray).size = 1 := rfl
  have e5 : (⟨#[120]⟩ : ByteArray).size = 1 := rfl
  simp only [encC, wideC, List.length_append, size_list, hz, e1, e4, e5, e2, e3, List.length_cons, List.length_nil]
theorem wide_enc {z : ByteArray} (hz : z.size = 65536) : ∀ n, ((List.replicate n (wideC z)).flatMap encC).length = n * 65545
  | 0 => rfl
  | n + 1 => by
    rw [List.replicate_succ, List.flatMap_cons, List.length_append, wide_enc hz n, wide_len hz]; omega
theorem wide_bad {z : ByteArray} (hz : z.size = 65536) (n : Nat) : (List.replicate n (wideC z)).any badC = false := by
  rw [List.any_eq_false]
  intro c hc
  rw [(List.mem_replicate.1 hc).2]
  simp [badC, wide_good hz]
theorem enc_wide (z : ByteArray) (hz : z.size = 65536) (n : Nat) (hn : 16 ≤ n) (hn2 : n ≤ 127) (ao : Option Addr) (cap : Nat) (w : World) (h : Cells w ao n cap (List.replicate n (wideC z))) :
    Calls Try.prog 14 #[.slice ao n cap] w fun e w' => e = .returned (.tuple #[.string ⟨#[]⟩, .int .i64 3]) ∧ Below w.heap.size w w' := by
  refine (encode_good ao n cap _ w h (fun c hc => by rw [(List.mem_replicate.1 hc).2]; exact wide_ok hz) (wide_bad hz n)).mono ?_
  rintro e w' ⟨he, hb⟩
  rw [if_pos (by rw [encL, List.length_append, wide_enc hz]; omega)] at he
  exact ⟨he, hb⟩
theorem enc_wide15 (z : ByteArray) (hz : z.size = 65536) (ao : Option Addr) (cap : Nat) (w : World) (h : Cells w ao 15 cap (List.replicate 15 (wideC z))) :
    Calls Try.prog 14 #[.slice ao 15 cap] w fun e w' => ∃ s : ByteArray, e = .returned (.tuple #[.string s, .int .i64 0]) ∧ Below w.heap.size w w' := by
  refine (encode_good ao 15 cap _ w h (fun c hc => by rw [(List.mem_replicate.1 hc).2]; exact wide_ok hz) (wide_bad hz 15)).mono ?_
  rintro e w' ⟨he, hb⟩
  have e0 : (numL (List.replicate 15 (wideC z)).length).length = 1 := by rw [List.length_replicate]; decide +kernel
  rw [if_neg (by rw [encL, List.length_append, wide_enc hz, e0]; omega)] at he
  exact ⟨_, he, hb⟩
theorem enc_nilK (w : World) :
    Calls Try.prog 14 #[.slice none 0 0] w fun e w' => e = .returned (.tuple #[.string ⟨#[0]⟩, .int .i64 0]) ∧ Below w.heap.size w w' := by
  have h := encode_good none 0 0 [] w (Arr.nil _ _) (by simp) rfl
  have e1 : encL [] = [0] := by decide +kernel
  rw [e1] at h
  exact h
theorem enc_badK (ao : Option Addr) (cap : Nat) (c : CellA) (w : World) (h : Cells w ao 1 cap [c]) (hc : cellL c = false ∧ c.Ok) :
    Calls Try.prog 14 #[.slice ao 1 cap] w fun e w' => e = .returned (.tuple #[.string ⟨#[]⟩, .int .i64 2]) ∧ Below w.heap.size w w' :=
  encode_bad ao 1 cap [c] w h (fun x hx => by simp at hx; rw [hx]; exact hc.2) (by simp [badC, hc.1])
theorem at0_bad : cellL (atX 97 0 false) = false ∧ (atX 97 0 false).Ok := ⟨by decide +kernel, ⟨sm_lit [_] (by simp), sm_lit [_] (by simp), sm_lit [] (by simp), by decide, by decide⟩⟩
theorem dec_k1 (w : World) : Calls Try.prog 29 #[.string ⟨#[1]⟩] w fun e w' => e = .returned (.tuple #[.slice none 0 0, .int .i64 4]) ∧ Below w.heap.size w w' :=
  decode_no ⟨#[1]⟩ w (sm_lit [_] (by simp)) (by decide +kernel)
theorem dec_k2 (w : World) : Calls Try.prog 29 #[.string ⟨#[0, 0]⟩] w fun e w' => e = .returned (.tuple #[.slice none 0 0, .int .i64 4]) ∧ Below w.heap.size w w' :=
  decode_no ⟨#[0, 0]⟩ w (sm_lit [_, _] (by simp)) (by decide +kernel)
theorem dec_k3 (w : World) : Calls Try.prog 29 #[.string ⟨#[]⟩] w fun e w' => e = .returned (.tuple #[.slice none 0 0, .int .i64 4]) ∧ Below w.heap.size w w' :=
  decode_no ⟨#[]⟩ w (sm_lit [] (by simp)) (by decide +kernel)
theorem dec_k4 (w : World) : Calls Try.prog 29 #[.string ⟨#[0]⟩] w fun e w' => ∃ ao cap, e = .returned (.tuple #[.slice ao 0 cap, .int .i64 0]) ∧ Below w.heap.size w w' := by
  refine (decode_yes ⟨#[0]⟩ [] w (sm_lit [_] (by simp)) (by decide +kernel)).mono ?_
  rintro e w' ⟨v, rfl, ho, hb⟩
  obtain ⟨ao, cap, rfl, _⟩ := Own.cells_n (n := 0) ho rfl
  exact ⟨ao, cap, rfl, hb⟩
theorem dec_k5 (w : World) : Calls Try.prog 29 #[.string ⟨#[1, 1, 97, 1, 120, 1, 2, 0]⟩] w fun e w' => e = .returned (.tuple #[.slice none 0 0, .int .i64 4]) ∧ Below w.heap.size w w' :=
  decode_no ⟨#[1, 1, 97, 1, 120, 1, 2, 0]⟩ w (sm_lit [_, _, _, _, _, _, _, _] (by simp)) (by decide +kernel)

/-- the cells that may not be -/
def badsK (x y : ByteArray) : List CellA := [⟨⟨#[97]⟩, ⟨#[120]⟩, 1099511627777, false, ⟨#[]⟩⟩, ⟨⟨#[97]⟩, ⟨#[120]⟩, 1, true, ⟨#[118]⟩⟩, ⟨⟨#[]⟩, ⟨#[]⟩, 1, false, ⟨#[]⟩⟩, ⟨x, ⟨#[120]⟩, 1, false, ⟨#[]⟩⟩, ⟨⟨#[97]⟩, y, 1, false, ⟨#[]⟩⟩]
theorem badsK_bad : ∀ c ∈ badsK (zs 33) (zs 17), cellL c = false ∧ c.Ok := by
  intro c hc
  simp only [badsK, List.mem_cons, List.not_mem_nil, or_false] at hc
  rcases hc with rfl | rfl | rfl | rfl | rfl
  · exact ⟨by decide +kernel, ⟨sm_lit [_] (by simp), sm_lit [_] (by simp), sm_lit [] (by simp), by decide, by decide⟩⟩
  · exact ⟨by decide +kernel, ⟨sm_lit [_] (by simp), sm_lit [_] (by simp), sm_lit [_] (by simp), by decide, by decide⟩⟩
  · exact ⟨by decide +kernel, ⟨sm_lit [] (by simp), sm_lit [] (by simp), sm_lit [] (by simp), by decide, by decide⟩⟩
  · exact ⟨by simp [cellL, storedL, zs_toList], ⟨by rw [zs_size]; decide, sm_lit [_] (by simp), sm_lit [] (by simp), by decide, by decide⟩⟩
  · exact ⟨by simp [cellL, storedL, zs_toList], ⟨sm_lit [_] (by simp), by rw [zs_size]; decide, sm_lit [] (by simp), by decide, by decide⟩⟩
/-- a literal list of cells in a block of its own -/
def LitAt (cs : List CellA) (n : Nat) (v : Value) (w : World) : Prop := ∃ b, v = .slice (some ⟨b, 0, none⟩) n n ∧ Cells w (some ⟨b, 0, none⟩) n n cs
theorem LitAt.keeps {cs : List CellA} {n : Nat} {v : Value} {w w' : World} (h : LitAt cs n v w) (hg : Grown w w') : LitAt cs n v w' :=
  let ⟨b, h1, h2⟩ := h; ⟨b, h1, Arr.below h2 hg.below⟩

/-- three cells of the column x -/
def klK : List CellA := [atX 97 1 false, atX 98 1 false, atX 99 1 false]
def kaK : List CellA := [atX 97 1 false, atX 97 2 true, atX 98 1 false]
def kbK : List CellA := [atX 98 1 false]
theorem atX_ok (r : UInt8) (v : Int) (g : Bool) (h0 : 0 ≤ v) (h1 : v ≤ 18446744073709551615) : (atX r v g).Ok := ⟨sm_lit [_] (by simp), sm_lit [_] (by simp), sm_lit [] (by simp), h0, h1⟩
theorem klK_ok : ∀ c ∈ klK, c.Ok := by
  intro c hc
  simp only [klK, List.mem_cons, List.not_mem_nil, or_false] at hc
  rcases hc with rfl | rfl | rfl <;> exact atX_ok _ _ _ (by decide) (by decide)
theorem kaK_ok : ∀ c ∈ kaK, c.Ok := by
  intro c hc
  simp only [kaK, List.mem_cons, List.not_mem_nil, or_false] at hc
  rcases hc with rfl | rfl | rfl <;> exact atX_ok _ _ _ (by decide) (by decide)
theorem kaK_alive : aliveL kaK = kbK := by decide +kernel
theorem klK_w1 : filtL (outC (⟨#[98]⟩ : ByteArray).toList (⟨#[99]⟩ : ByteArray).toList) klK = kbK := by decide +kernel
theorem klK_w2 : filtL (outC (⟨#[98]⟩ : ByteArray).toList (⟨#[]⟩ : ByteArray).toList) klK = klK.drop 1 := by decide +kernel
theorem klK_w3 : filtL (outC (⟨#[99]⟩ : ByteArray).toList (⟨#[98]⟩ : ByteArray).toList) klK = [] := by decide +kernel
theorem aliveK (ao : Option Addr) (cap : Nat) (w : World) (h : Cells w ao 3 cap kaK) :
    Calls Try.prog 22 #[.slice ao 3 cap] w fun e w' => ∃ ao' cap', e = .returned (.slice ao' 1 cap') ∧ Cells w' ao' 1 cap' kbK ∧ Below w.heap.size w w' := by
  refine (alive_any ao 3 cap kaK w h kaK_ok (by omega)).mono ?_
  rintro e w' ⟨v, rfl, ho, hb⟩
  rw [kaK_alive] at ho
  obtain ⟨ao', cap', rfl, hc⟩ := Own.cells_n (n := 1) ho rfl
  exact ⟨_, _, rfl, hc, hb⟩
theorem withinK1 (ao : Option Addr) (cap : Nat) (w : World) (h : Cells w ao 3 cap klK) :
    Calls Try.prog 27 #[.slice ao 3 cap, .agg #[.string ⟨#[98]⟩, .string ⟨#[99]⟩]] w fun e w' => ∃ ao' cap', e = .returned (.slice ao' 1 cap') ∧ Cells w' ao' 1 cap' kbK ∧ Below w.heap.size w w' := by
  refine (within_any ao 3 cap klK ⟨#[98]⟩ ⟨#[99]⟩ w h klK_ok (by omega)).mono ?_
  rintro e w' ⟨v, rfl, ho, hb⟩
  rw [klK_w1] at ho
  obtain ⟨ao', cap', rfl, hc⟩ := Own.cells_n (n := 1) ho rfl
  exact ⟨_, _, rfl, hc, hb⟩
theorem withinK2 (ao : Option Addr) (cap : Nat) (w : World) (h : Cells w ao 3 cap klK) :
    Calls Try.prog 27 #[.slice ao 3 cap, .agg #[.string ⟨#[98]⟩, .string ⟨#[]⟩]] w fun e w' => ∃ ao' cap', e = .returned (.slice ao' 2 cap') ∧ Cells w' ao' 2 cap' (klK.drop 1) ∧ Below w.heap.size w w' := by
  refine (within_any ao 3 cap klK ⟨#[98]⟩ ⟨#[]⟩ w h klK_ok (by omega)).mono ?_
  rintro e w' ⟨v, rfl, ho, hb⟩
  rw [klK_w2] at ho
  obtain ⟨ao', cap', rfl, hc⟩ := Own.cells_n (n := 2) ho rfl
  exact ⟨_, _, rfl, hc, hb⟩
theorem withinK3 (ao : Option Addr) (cap : Nat) (w : World) (h : Cells w ao 3 cap klK) :
    Calls Try.prog 27 #[.slice ao 3 cap, .agg #[.string ⟨#[99]⟩, .string ⟨#[98]⟩]] w fun e w' => ∃ ao' cap', e = .returned (.slice ao' 0 cap') ∧ Below w.heap.size w w' := by
  refine (within_any ao 3 cap klK ⟨#[99]⟩ ⟨#[98]⟩ w h klK_ok (by omega)).mono ?_
  rintro e w' ⟨v, rfl, ho, hb⟩
  rw [klK_w3] at ho
  obtain ⟨ao', cap', rfl, hc⟩ := Own.cells_n (n := 0) ho rfl
  exact ⟨_, _, rfl, hb⟩
/-- a list of twenty cells, all naught -/
def zC : CellA := ⟨⟨#[]⟩, ⟨#[]⟩, 0, false, ⟨#[]⟩⟩
theorem cz_make (w : World) : ∃ w', (Instr.makeSlice 22 (.int .i64 20) (.int .i64 20)).run Try.prog w = .ok (.slice (some ⟨w.heap.size, 0, none⟩) 20 20) w' ∧ Below w.heap.size w w' ∧ Row w' w.heap.size 32 5 (.slice (some ⟨w.heap.size, 0, none⟩) 20 20) 20 ((List.replicate 20 zC).map cellE).flatten ∧ w.heap.size < w'.heap.size := by
  obtain ⟨i0, hi, hz0, hz1, hz2⟩ := info_parts Try.info_cell
  obtain ⟨w', h1, h2, h3⟩ := run_makeSlice_full (P := Try.prog) w w.heap.size 22 32 i0 _ 5 Try.underlying22 hi hz0 hz1 .i64 .i64 20 (by omega) (by rw [hz2]; omega) (by unfold maxLen; omega) (Nat.le_refl _)
  have hr := Row.of_own h2
  have e : (madeCells (Value.agg #[Value.string ⟨#[]⟩, Value.string ⟨#[]⟩, Value.int IntKind.u64 0, Value.bool false, Value.string ⟨#[]⟩]).cells (20 * 5)).toList = ((List.replicate 20 zC).map cellE).flatten := by kernel_rfl
  rw [e] at hr
  refine ⟨w', h1, (Below.refl _ _).grown h3 (Nat.le_refl _) (fun k e => by cases e), hr, ?_⟩
  exact (Row.lt hr _ rfl).2
end Go.Proofs.Ytjalccnkfpjchaa
