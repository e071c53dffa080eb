/-
  The chapter's examples of blocks: the plain part.
-/
import Derived.Test.YtfkghpomcaonfaaBlkAgainW
import Derived.Test.YtfkghpomcaonfaaBlkShortW
import Derived.Test.YtfkghpomcaonfaaZeros
namespace Go.Proofs.Ytfkghpomcaonfaa
open Go.RowKit

theorem wpList_makeT {P : Program} (w : World) {ops : Array Oper} {rest : List Oper} {o : Oper} {a : Act} {Q : Exit → Act → World → Prop}
    (hg : o.guard = none) (l c : Operand) (t : TypeId) (hop : o.op = Op.makeSlice t l c) {x y v : Value} {w' : World} (hl : a.eval l = x) (hc : a.eval c = y)
    (hrun : (Instr.makeSlice t x y).run P w = .ok v w') (hK : wpList P ops Q rest (a.put o.dst v) w') : wpList P ops Q (o :: rest) a w := by
  refine wpList_plain hg fun K hK' => ?_
  subst hl
  subst hc
  unfold Oper.wp
  simp [execOp, hop, hrun, Result.andThen]
  exact hK' _ _ hK
/-- a cell of column x, version 1 -/
def cX (r v : ByteArray) : CellA := ⟨r, ⟨#[120]⟩, 1, false, v⟩
theorem tl {a : Array UInt8} : (⟨a⟩ : ByteArray).toList = a.toList := Lib.toList_data _
theorem cX_ok (r v : ByteArray) (h1 : r.size ≤ 1000000) (h2 : v.size ≤ 1000000) : (cX r v).Ok := ⟨by unfold maxLen; simp only [cX]; omega, by simp only [cX]; decide, by unfold maxLen; simp only [cX]; omega, by simp only [cX]; decide, by simp only [cX]; decide⟩
theorem cX_may (r v : ByteArray) (h1 : r.size ≤ 32) (h2 : v.size ≤ 65536) : cellL (cX r v) = true := by
  have e1 : r.toList.length ≤ 32 := by rw [size_list]; exact h1
  have e2 : v.toList.length ≤ 65536 := by rw [size_list]; exact h2
  simp [cellL, storedL, cX, tl, e1, e2]
theorem build_one {r v : ByteArray} (h1 : r.size ≤ 32) (h2 : v.size ≤ 65536) : wrongB [cX r v] = false := by
  refine wrongB_of fun k hk => ?_
  obtain rfl : k = 0 := by simpa using hk
  rw [wrongAt_zero (x := cX r v) rfl, cX_may r v h1 h2]; rfl
theorem nil_block : BlockOf (⟨#[0, 0]⟩ : ByteArray).toList [] := ⟨rfl, by decide, by rw [tl]; decide, by rw [tl]; rfl⟩
theorem ba_wrong : wrongB [cX ⟨#[98]⟩ ⟨#[]⟩, cX ⟨#[97]⟩ ⟨#[]⟩] = true := by
  refine wrongB_true (k := 1) (by decide) ?_
  rw [wrongAt_succ (j := 0) rfl rfl]
  have l1 : ¬ ([98] : List UInt8) < [97] := by decide
  have l2 : ([97] : List UInt8) < [98] := by decide
  simp [cmpC, cX, tl, cmpL, orI, cmpN, l1, l2]
theorem aa_wrong : wrongB [cX ⟨#[97]⟩ ⟨#[]⟩, cX ⟨#[97]⟩ ⟨#[]⟩] = true := by
  refine wrongB_true (k := 1) (by decide) ?_
  rw [wrongAt_succ (j := 0) rfl rfl]
  simp [cmpC, cX, tl, cmpL, orI, cmpN]
theorem wrong_build {cs : List CellA} (h : wrongB cs = true) : buildR cs = ([], 2) := by rw [buildR, if_pos h]
theorem none_block : ∀ cs, ¬ BlockOf (⟨#[]⟩ : ByteArray).toList cs := fun cs h => by
  have := parts_block h
  rw [tl] at this
  cases this
theorem short_block : ∀ cs, ¬ BlockOf (⟨#[0, 1]⟩ : ByteArray).toList cs := fun cs h => by
  have e : partsL [0, 1] = none := by simp [partsL]
  have h2 := parts_block h
  rw [tl] at h2
  rw [show (#[0, 1] : Array UInt8).toList = [0, 1] from rfl, e] at h2
  cases h2
theorem one_lay (r v : ByteArray) : layL [] (cX r v) = numL 0 ++ txtL r.toList ++ txtL [120] ++ numW 1 ++ [0] ++ txtL v.toList := by
  simp [layL, cX, alikeL, tl]
theorem one_body (r v : ByteArray) : bodyTo [cX r v] 1 = layL [] (cX r v) := by
  rw [bodyTo_succ (c := cX r v) rfl, aheadB_zero rfl, bodyTo, List.nil_append, tl]
theorem one_block : BlockOf (⟨#[0, 2, 97, 98, 1, 120, 1, 0, 1, 118, 0, 0, 0, 1]⟩ : ByteArray).toList [cX ⟨#[97, 98]⟩ ⟨#[118]⟩] := by
  have e : layL [] (cX ⟨#[97, 98]⟩ ⟨#[118]⟩) = [0, 2, 97, 98, 1, 120, 1, 0, 1, 118] := by
    rw [one_lay]; simp [txtL, numW, numL_small, tl]
  have e2 : blockL [cX ⟨#[97, 98]⟩ ⟨#[118]⟩] = [0, 2, 97, 98, 1, 120, 1, 0, 1, 118, 0, 0, 0, 1] := by
    rw [blockL, List.length_singleton, one_body, e]; rfl
  refine ⟨build_one (by decide) (by decide), ?_, by rw [tl]; decide, by rw [tl, e2]⟩
  rw [List.length_singleton, one_body, e]; decide
theorem numL_32754 (n : Nat) (h : 16384 ≤ n) (h2 : n < 2097152) : (numL n).length = 3 := by
  rw [numL_big (by omega), numL_big (by omega), numL_small (by omega)]; rfl
theorem wide_len (v : ByteArray) (h : 16384 ≤ v.size) (h2 : v.size < 2097152) : (layL [] (cX ⟨#[97]⟩ v)).length = v.size + 10 := by
  rw [one_lay]
  have n1 := numL_32754 v.size h h2
  simp only [txtL, size_list, List.length_append, n1, numW, tl]
  simp [numL_small]
  omega
theorem wide_block (v : ByteArray) (h : v.size = 32754) : BlockOf (blockL [cX ⟨#[97]⟩ v]) [cX ⟨#[97]⟩ v] ∧ (blockL [cX ⟨#[97]⟩ v]).length = 32768 := by
  have hl := wide_len v (by omega) (by omega)
  have e : (blockL [cX ⟨#[97]⟩ v]).length = 32768 := by
    rw [blockL, List.length_singleton, List.length_append, List.length_append, one_body, hl, h, placesTo_len]; rfl
  refine ⟨⟨build_one (by decide) (by omega), by rw [List.length_singleton, one_body, hl]; omega, by omega, rfl⟩, e⟩
theorem wide_long (v : ByteArray) (h : v.size = 32755) : buildR [cX ⟨#[97]⟩ v] = ([], 3) := by
  have hl := wide_len v (by omega) (by omega)
  have e : (blockL [cX ⟨#[97]⟩ v]).length = 32769 := by
    rw [blockL, List.length_singleton, List.length_append, List.length_append, one_body, hl, h, placesTo_len]; rfl
  rw [buildR, if_neg (by rw [build_one (by decide) (by omega)]; decide), List.length_singleton, one_body, hl, if_neg (by omega), if_pos (by omega)]
/-- the many cells -/
def rowK (k : Nat) : ByteArray := ⟨#[114, 111, 119, UInt8.ofNat k]⟩
def manyK (n : Nat) : List CellA := (List.range n).map fun k => cX (rowK k) ⟨#[]⟩
theorem manyK_len (n : Nat) : (manyK n).length = n := by simp [manyK]
theorem manyK_at {n k : Nat} (h : k < n) : (manyK n)[k]? = some (cX (rowK k) ⟨#[]⟩) := by simp [manyK, h]
theorem manyK_succ (n : Nat) : manyK (n + 1) = manyK n ++ [cX (rowK n) ⟨#[]⟩] := by simp [manyK, List.range_succ]
theorem many_less {k : Nat} (h : k < 19) : cmpC (cX (rowK k) ⟨#[]⟩) (cX (rowK (k + 1)) ⟨#[]⟩) < 0 := by
  have hl : ([114, 111, 119, UInt8.ofNat k] : List UInt8) < [114, 111, 119, UInt8.ofNat (k + 1)] := by
    revert h; revert k; decide
  have e : cmpL (cX (rowK k) ⟨#[]⟩).row.toList (cX (rowK (k + 1)) ⟨#[]⟩).row.toList = -1 := by
    simp only [cX, rowK, tl]
    exact if_pos hl
  rw [cmpC, e, orI, if_pos (by decide)]
  decide
theorem many_good : wrongB (manyK 20) = false := by
  refine wrongB_of fun k hk => ?_
  rw [manyK_len] at hk
  cases k with
  | zero => rw [wrongAt_zero (manyK_at hk), cX_may _ _ (by show 4 ≤ 32; decide) (by decide)]; rfl
  | succ j =>
    rw [wrongAt_succ (manyK_at hk) (manyK_at (by omega)), cX_may _ _ (by show 4 ≤ 32; decide) (by decide)]
    have := many_less (k := j) (by omega)
    simp only [Bool.not_true, Bool.false_or, decide_eq_false_iff_not]
    omega
theorem many_body : ∀ k, k ≤ 20 → (bodyTo (manyK 20) k).length ≤ 18 * k
  | 0, _ => by simp [bodyTo]
  | k + 1, hk => by
    have ih := many_body k (by omega)
    rw [bodyTo_succ (manyK_at (show k < 20 by omega)), List.length_append]
    have := layL_short (a := (aheadB (manyK 20) k).toList) (cX_may (rowK k) ⟨#[]⟩ (by show 4 ≤ 32; decide) (by decide))
    have e : (cX (rowK k) ⟨#[]⟩).row.size + (cX (rowK k) ⟨#[]⟩).col.size + (cX (rowK k) ⟨#[]⟩).val.size = 5 := rfl
    omega
theorem many_block : BlockOf (blockL (manyK 20)) (manyK 20) := by
  have h := many_body 20 (Nat.le_refl _)
  have hp := placesTo_len (manyK 20) 20
  refine ⟨many_good, by rw [manyK_len]; omega, ?_, rfl⟩
  rw [blockL, manyK_len, List.length_append, List.length_append, hp]
  simp only [twoL, List.length_cons, List.length_nil]
  omega
theorem many_last : 1 ≤ (blockL (manyK 20)).length ∧ (blockL (manyK 20))[(blockL (manyK 20)).length - 1]? = some 3 := by
  have e : blockL (manyK 20) = (bodyTo (manyK 20) 20 ++ placesTo (manyK 20) 20 ++ [0]) ++ [3] := by
    rw [blockL, manyK_len]
    simp [twoL]
  constructor
  · rw [e, List.length_append]; simp
  · rw [e, List.length_append, List.length_singleton, Nat.add_sub_cancel, List.getElem?_append_right (Nat.le_refl _), Nat.sub_self]; rfl
theorem many_find : findL (rowK 9).toList (⟨#[120]⟩ : ByteArray).toList (manyK 20) = some (cX (rowK 9) ⟨#[]⟩) := by
  have key : ∀ k, k < 20 → isC (rowK 9).toList (⟨#[120]⟩ : ByteArray).toList (cX (rowK k) ⟨#[]⟩) = decide (k = 9) := by
    intro k hk
    simp only [isC, cX, rowK, tl]
    revert hk; revert k; decide
  refine missed_find (k := 9) (fun j x hj hx => ?_) (manyK_at (by decide)) (by rw [key 9 (by decide)]; rfl)
  rw [manyK_at (by omega)] at hx
  cases hx
  rw [key j (by omega)]
  simp; omega
theorem many_ok : ∀ c ∈ manyK 20, c.Ok := fun c hc => by
  obtain ⟨k, hk⟩ := List.getElem?_of_mem hc
  have := (List.getElem?_eq_some_iff.1 hk).1
  rw [manyK_len] at this
  rw [manyK_at this] at hk
  cases hk
  exact cX_ok _ _ (by show 4 ≤ 1000000; decide) (by decide)
end Go.Proofs.Ytfkghpomcaonfaa
