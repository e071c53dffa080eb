/-
  The walk of the law TableRefuses.
-/
import Derived.Test.YtihglmicgccgiaaTblV
namespace Go.Proofs.Ytihglmicgccgiaa
open Go.RowKit Go.Shelf

attribute [local go_sem] Oper.semAt_some readsUpon
theorem strict_wrong {l : List CellA} (h : Strict l) (hc : ∀ c ∈ l, cellL c = true) : wrongB l = false := by
  refine wrongB_of fun k hk => ?_
  have hx : l[k]? = some l[k] := List.getElem?_eq_getElem hk
  cases k with
  | zero => rw [wrongAt_zero hx, hc _ (List.getElem_mem _)]; rfl
  | succ j =>
    have hy : l[j]? = some l[j] := List.getElem?_eq_getElem (by omega)
    rw [wrongAt_succ hx hy, hc _ (List.getElem_mem _)]
    have := (List.pairwise_iff_getElem.1 h) j (j + 1) (by omega) hk (by omega)
    simp only [Bool.not_true, Bool.false_or, decide_eq_false_iff_not]
    omega
theorem ofT_good (ss : List SpotA) : wrongB (ofT ss) = false := strict_wrong (sort_first _).strict (fun c hc => by
  obtain ⟨x, rfl⟩ := ofT_mem hc
  exact ofC_may x)
theorem ofT_build (ss : List SpotA) : ∀ c ∈ ofT ss, (buildR [c]).2 = 0 := fun c hc => by
  obtain ⟨x, rfl⟩ := ofT_mem hc
  rw [build_oneT (ofC_may x) (by have := (ofC_sizes x).2.2; omega)]
theorem ofT_ok (ss : List SpotA) : ∀ c ∈ ofT ss, c.Ok := fun c hc => by
  obtain ⟨x, rfl⟩ := ofT_mem hc
  exact cellL_ok (ofC_may x)
/-- the table of small cells -/
theorem ofT_table (ss : List SpotA) {most : Int} (h1 : 1 ≤ most) (h2 : most ≤ 32768) : ∃ bss, writeR (ofT ss) most = (tableL bss, 0) ∧ IsT (tableL bss) bss ∧ bss.flatten = ofT ss ∧ bss.length ≤ (ofT ss).length ∧ (tableL bss).length ≤ 30000 := by
  obtain ⟨bss, _, h3, h4, h5, h6⟩ := write_good h1 h2 (ofT_good ss) (ofT_build ss)
  have hl := ofT_len ss
  refine ⟨bss, h3, h4, h5, h6, ?_⟩
  have k1 := tableL_short h4.good (by omega) (by rw [h5]; omega)
  have k2 := framesL_short h4.good (v := 100) (fun c hc => by
    rw [h5] at hc
    obtain ⟨x, rfl⟩ := ofT_mem hc
    exact (ofC_sizes x).2.2)
  rw [h5] at k2
  have : (100 + 72) * (ofT ss).length ≤ 172 * 60 := Nat.mul_le_mul_left _ hl
  omega
theorem row_some {w : World} {B : Nat} {e : TypeId} {v : Value} {n : Nat} {xs : List Value} (h : Row w B e 1 v n xs) (h0 : 0 < n) : ∃ g cap, v = .slice (some ⟨g, 0, none⟩) n cap ∧ B ≤ g ∧ n ≤ cap ∧ cap ≤ maxLen := by
  rcases h.form with ⟨_, h1⟩ | ⟨g, cap, h1, h4, _, h2, h3⟩
  · omega
  · exact ⟨g, cap, h1, h4, h2, h3⟩
theorem tmod_low (a b : Int) (h : 0 < b) : -b < a.tmod b := by
  rcases Int.le_total 0 a with h1 | h1
  · have := Int.tmod_nonneg b h1; omega
  · have h2 := Int.tmod_lt_of_pos (-a) h
    rw [Int.neg_tmod] at h2
    omega
/-- the cell that was told last -/
def lastAt (L : List CellA) (k : Nat) : CellA := if k = 0 then zeroC else (L[k - 1]?).getD zeroC
/-- what the loop over cells keeps: the result, the last cell, the number -/
structure RefI (w : World) (M R X N : Nat) (x : CellA) (k : Nat) (V : World) : Prop where
  bel : Below w.heap.size w V
  size : M ≤ V.heap.size
  r0 : V.cell? ⟨R, 0, none⟩ = some (.bool false)
  rf : V.frozen? ⟨R, 0, none⟩ = false
  x0 : V.cell? ⟨X, 0, none⟩ = some (.string x.row)
  x1 : V.cell? ⟨X, 1, none⟩ = some (.string x.col)
  x2 : V.cell? ⟨X, 2, none⟩ = some (.int .u64 x.ver)
  x3 : V.cell? ⟨X, 3, none⟩ = some (.bool x.gone)
  x4 : V.cell? ⟨X, 4, none⟩ = some (.string x.val)
  xf : ∀ o, V.frozen? ⟨X, o, none⟩ = false
  n0 : V.cell? ⟨N, 0, none⟩ = some (.int .i64 k)
  nf : V.frozen? ⟨N, 0, none⟩ = false
theorem RefI.own {w : World} {M R X N : Nat} {x : CellA} {k : Nat} {V V' : World} {r : Option Nat} (h : RefI w M R X N x k V) (hR : R < M ∧ X < M ∧ N < M) (hw : w.heap.size ≤ M) (hg : V.grownBy V' r) (hr : ∀ q, r = some q → M ≤ q) : RefI w M R X N x k V' := by
  obtain ⟨h1, h2, h3⟩ := hR
  have hk : ∀ k, k < M → V'.heap[k]? = V.heap[k]? := fun k hk => hg.block k (by have := h.size; omega) (fun e => by have := hr k e.symm; omega)
  have c : ∀ k o, k < M → V'.cell? ⟨k, o, none⟩ = V.cell? ⟨k, o, none⟩ := fun k o hk2 => World.cell?_of_block (a := ⟨k, o, none⟩) (hk k hk2)
  have f : ∀ k o, k < M → V'.frozen? ⟨k, o, none⟩ = V.frozen? ⟨k, o, none⟩ := fun k o hk2 => World.frozen?_of_block (a := ⟨k, o, none⟩) (hk k hk2)
  exact ⟨h.bel.grown hg (by have := h.size; omega) (fun k e => by have := hr k e; omega), Nat.le_trans h.size hg.size, (c _ _ h1).trans h.r0, (f _ _ h1).trans h.rf, (c _ _ h2).trans h.x0, (c _ _ h2).trans h.x1, (c _ _ h2).trans h.x2, (c _ _ h2).trans h.x3, (c _ _ h2).trans h.x4, fun o => (f _ _ h2).trans (h.xf o), (c _ _ h3).trans h.n0, (f _ _ h3).trans h.nf⟩
theorem RefI.below {w : World} {M R X N : Nat} {x : CellA} {k : Nat} {V V' : World} (h : RefI w M R X N x k V) (hR : R < M ∧ X < M ∧ N < M) (hw : w.heap.size ≤ M) (hb : Below V.heap.size V V') : RefI w M R X N x k V' := h.own hR hw (grown_none' hb) (fun q e => by cases e)
theorem laid_same {V : World} {p : Addr} {v : Value} (h : (V.cell? p).isSome = true) : (V.setCell p v).cell? p = some v := by
  obtain ⟨u, hu⟩ := Option.isSome_iff_exists.1 h
  exact World.cell?_setCell_same _ _ _ hu
set_option maxHeartbeats 4000000 in
/-- a round: the cell is kept, the number grows -/
theorem RefI.lay {w : World} {M R X : Nat} {x : CellA} {k : Nat} {V : World} (h : RefI w M R X (X + 1) x k V) (hR : R < X) (hw : w.heap.size ≤ X) (y : CellA) (j : Nat) :
    RefI w M R X (X + 1) y j ((((((V.setCell ⟨X, 0, none⟩ (.string y.row)).setCell ⟨X, 1, none⟩ (.string y.col)).setCell ⟨X, 2, none⟩ (.int .u64 y.ver)).setCell ⟨X, 3, none⟩ (.bool y.gone)).setCell ⟨X, 4, none⟩ (.string y.val)).setCell ⟨X + 1, 0, none⟩ (.int .i64 j)) := by
  obtain ⟨bel, size, r0, rf, x0, x1, x2, x3, x4, xf, n0, nf⟩ := h
  have b1 := ((((bel.setCell (p := ⟨X, 0, none⟩) hw (.string y.row)).setCell (p := ⟨X, 1, none⟩) hw (.string y.col)).setCell (p := ⟨X, 2, none⟩) hw (.int .u64 y.ver)).setCell (p := ⟨X, 3, none⟩) hw (.bool y.gone)).setCell (p := ⟨X, 4, none⟩) hw (.string y.val)
  have b2 := b1.setCell (p := ⟨X + 1, 0, none⟩) (Nat.le_succ_of_le hw) (.int .i64 j)
  refine ⟨b2, by simp only [World.size_setCell]; exact size, ?_, by simp only [World.frozen?_setCell]; exact rf, ?_, ?_, ?_, ?_, ?_, fun o => by simp only [World.frozen?_setCell]; exact xf o, ?_, by simp only [World.frozen?_setCell]; exact nf⟩
  all_goals clear b1 b2 bel size rf xf nf
  · rw [World.cell?_setCell_other _ _ _ _ (by intro e; cases e <;> omega), World.cell?_setCell_other _ _ _ _ (by intro e; cases e <;> omega), World.cell?_setCell_other _ _ _ _ (by intro e; cases e <;> omega), World.cell?_setCell_other _ _ _ _ (by intro e; cases e <;> omega), World.cell?_setCell_other _ _ _ _ (by intro e; cases e <;> omega), World.cell?_setCell_other _ _ _ _ (by intro e; cases e <;> omega)]
    exact r0
  · rw [World.cell?_setCell_other _ _ _ _ (by intro e; cases e <;> omega), World.cell?_setCell_other _ _ _ _ (by intro e; cases e <;> omega), World.cell?_setCell_other _ _ _ _ (by intro e; cases e <;> omega), World.cell?_setCell_other _ _ _ _ (by intro e; cases e <;> omega), World.cell?_setCell_other _ _ _ _ (by intro e; cases e <;> omega)]
    refine laid_same ?_
    rw [x0]; rfl
  · rw [World.cell?_setCell_other _ _ _ _ (by intro e; cases e <;> omega), World.cell?_setCell_other _ _ _ _ (by intro e; cases e <;> omega), World.cell?_setCell_other _ _ _ _ (by intro e; cases e <;> omega), World.cell?_setCell_other _ _ _ _ (by intro e; cases e <;> omega)]
    refine laid_same ?_
    rw [World.cell?_setCell_other _ _ _ _ (by intro e; cases e <;> omega)]
    rw [x1]; rfl
  · rw [World.cell?_setCell_other _ _ _ _ (by intro e; cases e <;> omega), World.cell?_setCell_other _ _ _ _ (by intro e; cases e <;> omega), World.cell?_setCell_other _ _ _ _ (by intro e; cases e <;> omega)]
    refine laid_same ?_
    rw [World.cell?_setCell_other _ _ _ _ (by intro e; cases e <;> omega), World.cell?_setCell_other _ _ _ _ (by intro e; cases e <;> omega)]
    rw [x2]; rfl
  · rw [World.cell?_setCell_other _ _ _ _ (by intro e; cases e <;> omega), World.cell?_setCell_other _ _ _ _ (by intro e; cases e <;> omega)]
    refine laid_same ?_
    rw [World.cell?_setCell_other _ _ _ _ (by intro e; cases e <;> omega), World.cell?_setCell_other _ _ _ _ (by intro e; cases e <;> omega), World.cell?_setCell_other _ _ _ _ (by intro e; cases e <;> omega)]
    rw [x3]; rfl
  · rw [World.cell?_setCell_other _ _ _ _ (by intro e; cases e <;> omega)]
    refine laid_same ?_
    rw [World.cell?_setCell_other _ _ _ _ (by intro e; cases e <;> omega), World.cell?_setCell_other _ _ _ _ (by intro e; cases e <;> omega), World.cell?_setCell_other _ _ _ _ (by intro e; cases e <;> omega), World.cell?_setCell_other _ _ _ _ (by intro e; cases e <;> omega)]
    rw [x4]; rfl
  · refine laid_same ?_
    rw [World.cell?_setCell_other _ _ _ _ (by intro e; cases e <;> omega), World.cell?_setCell_other _ _ _ _ (by intro e; cases e <;> omega), World.cell?_setCell_other _ _ _ _ (by intro e; cases e <;> omega), World.cell?_setCell_other _ _ _ _ (by intro e; cases e <;> omega), World.cell?_setCell_other _ _ _ _ (by intro e; cases e <;> omega)]
    rw [n0]; rfl
theorem kpc_layC {F : Nat → Prop} {B X : Nat} {W V : World} (hb : Below W.heap.size W V) (hne : ∀ k, F k ∨ B ≤ k → k ≠ X ∧ k ≠ X + 1) (u0 u1 u2 u3 u4 u5 : Value) :
    KpC F B W ((((((V.setCell ⟨X, 0, none⟩ u0).setCell ⟨X, 1, none⟩ u1).setCell ⟨X, 2, none⟩ u2).setCell ⟨X, 3, none⟩ u3).setCell ⟨X, 4, none⟩ u4).setCell ⟨X + 1, 0, none⟩ u5) := kpc_lay hb hne u0 u1 u2 u3 u4 u5

set_option maxRecDepth 100000 in
set_option maxHeartbeats 8000000 in
theorem refuses_any (ao : Option Addr) (n cap : Nat) (ss : List SpotA) (a : Int) (by_ : UInt8) (w : World) (h : Spots w ao n cap ss) (hv : ∀ x ∈ ss, x.val.size ≤ maxLen) (ha : -9223372036854775808 ≤ a ∧ a ≤ 9223372036854775807) :
    Calls Try.prog 4 #[.slice ao n cap, .int .i64 a, .int .u8 by_.toNat] w fun e w' => e = .returned (.bool true) ∧ Below w.heap.size w w' := by
  obtain ⟨bss, hwr, hT, hfl, hbl, hsh⟩ := ofT_table ss (most := 40) (by decide) (by decide)
  obtain ⟨s, hs⟩ : ∃ s, s = ofL (tableL bss) := ⟨_, rfl⟩
  have hst : s.toList = tableL bss := by rw [hs, ofL_toList]
  have hss : s.size ≤ 30000 := by rw [hs, ofL_size]; exact hsh
  rw [← hst] at hT
  have hls : s.toList.length = s.size := size_list s
  have hs16 := hT.len
  rw [hls] at hs16
  have KOf := Lib.hid fun (W : World) (hW : Below w.heap.size w W) => of_any ao n cap ss W (Arr.below h hW) hv
  have KW := Lib.hid fun (ao : Option Addr) (n cap : Nat) (W : World) (hC : Cells W ao n cap (ofT ss)) => write_any ao n cap (ofT ss) 40 W hC (ofT_ok ss) (by have := hC.len; have := ofT_len ss; omega) (by decide)
  rw [hwr, ← hs] at KW
  obtain ⟨k, hk, hkl⟩ : ∃ k : Nat, (a.tmod (s.size : Int) + s.size).tmod s.size = k ∧ k < s.size := by
    have hp : (0 : Int) < s.size := by omega
    have h1 := tmod_low a _ hp
    have h2 := Int.tmod_lt_of_pos a hp
    have h3 : 0 ≤ a.tmod (s.size : Int) + s.size := by omega
    have h4 := Int.tmod_nonneg (s.size : Int) h3
    have h5 := Int.tmod_lt_of_pos (a.tmod (s.size : Int) + s.size) hp
    exact ⟨((a.tmod (s.size : Int) + s.size).tmod s.size).toNat, by omega, by omega⟩
  obtain ⟨s1, hs1⟩ : ∃ x, x = s.extract 0 k := ⟨_, rfl⟩
  obtain ⟨s2, hs2⟩ : ∃ x, x = s ++ ⟨#[0]⟩ := ⟨_, rfl⟩
  obtain ⟨s3, hs3⟩ : ∃ x, x = s.extract 1 s.size := ⟨_, rfl⟩
  have K1 := Lib.hid fun W => open_no s1 W (by rw [hs1, toList_extract, List.drop_zero]; exact cut_none hT (by omega) (by omega)) (by rw [hs1, ByteArray.size_extract]; omega)
  have K2 := Lib.hid fun W => open_no s2 W (by
    have e : s2.toList = s.toList ++ [0] := by rw [hs2, append_ofL, ofL_toList, show (⟨#[0]⟩ : ByteArray).toList = [0] by rw [Lib.toList_data]]
    rw [e]
    exact long_none hT (by omega) [0] (by decide) (by decide)) (by rw [hs2, ByteArray.size_append]; have : (⟨#[0]⟩ : ByteArray).size = 1 := rfl; omega)
  have K3 := Lib.hid fun W => open_no s3 W (by
    have e : s3.toList = s.toList.drop 1 := by rw [hs3, toList_extract, List.take_of_length_le (by omega)]
    rw [e]
    exact drop_none hT (by omega)) (by rw [hs3, ByteArray.size_extract]; omega)
  have KWo := Lib.hid fun W => works11_any W
  have hHs1 := Lib.hid hs1
  have hHs2 := Lib.hid hs2
  have hHs3 := Lib.hid hs3
  have hm1 : -(s.size : Int) < a.tmod s.size ∧ a.tmod s.size < s.size := ⟨tmod_low a _ (by omega), Int.tmod_lt_of_pos a (by omega)⟩
  obtain ⟨hm1, hm2⟩ := hm1
  obtain ⟨ha1, ha2⟩ := ha
  obtain ⟨q, hq⟩ : ∃ q, q = a.tmod (s.size : Int) := ⟨_, rfl⟩
  have hq' := hq.symm
  rw [← hq] at hk hm1 hm2
  have Hls := Lib.hid hls
  clear hwr hfl hbl hsh hs hst hT hs1 hs2 hs3 h hv hls hq
  refine callsIn_wide.1 (callsIn_of_wp_marks (F := Fence.wide) (n := 20) Try.func4 rfl trivial ?_ rfl); refine wpIn_wide.2 ?_; simp only [Try.ntmps4, List.size_toArray, List.length_cons, List.length_nil, Nat.reduceAdd, Nat.reduceSub, Array.replicate_succ, Array.replicate_zero, List.push_toArray, List.append_toArray, List.nil_append, List.cons_append]
  go_wp2_with fail
  obtain ⟨W0, hW0⟩ : ∃ V : World, V = w.alloc (.cells #[.bool false] 4) := ⟨_, rfl⟩
  have q0 : W0.cell? ⟨w.heap.size, 0, none⟩ = some (.bool false) := by rw [hW0]; go_simp
  have q1 : W0.frozen? ⟨w.heap.size, 0, none⟩ = false := by rw [hW0]; go_simp
  have q3 : Below w.heap.size w W0 := by rw [hW0]; go_grown
  have q4 : W0.heap.size = w.heap.size + 1 := by rw [hW0]; simp
  rw [← hW0]
  obtain ⟨R, hR⟩ : ∃ R, R = w.heap.size := ⟨_, rfl⟩
  rw [← hR] at q0 q1 ⊢
  have HR := Lib.hid hR
  have hRl : R < W0.heap.size := by omega
  clear hW0 q4 hR
  refine (KOf.out W0 q3).mono ?_
  rintro e w1 ⟨v, rfl, hO, hb1⟩
  obtain ⟨ao1, cap1, rfl, hC⟩ := hO.cells
  have HC := Lib.hid hC
  have hb1' := hb1
  have HB1 := Lib.hid (q3.trans (hb1.mono q3.size))
  have p0 := (hb1.cell (p := ⟨R, 0, none⟩) hRl).trans q0
  have p1 := (hb1.frozen (p := ⟨R, 0, none⟩) hRl).trans q1
  have hR1 : R < w1.heap.size := Nat.lt_of_lt_of_le hRl hb1.size
  clear hO hC hb1 hb1' q0 q1 q3 hRl
  go_wp2_with fail
  refine (KW.out ao1 _ cap1 w1 HC.out).mono ?_
  rintro e w2 ⟨rfl, hb2⟩
  have HB2 := Lib.hid (HB1.out.trans (hb2.mono HB1.out.size))
  have a0 := (hb2.cell (p := ⟨R, 0, none⟩) hR1).trans p0
  have a1 := (hb2.frozen (p := ⟨R, 0, none⟩) hR1).trans p1
  have hR2 : R < w2.heap.size := Nat.lt_of_lt_of_le hR1 hb2.size
  clear HC hb2 p0 p1 hR1 HB1
  go_wp2_with fail
  rw [← hHs1.out]
  refine (K1.out w2).mono ?_
  rintro e w3 ⟨rfl, hb3⟩
  have HB3 := Lib.hid (HB2.out.trans (hb3.mono HB2.out.size))
  have b0 := (hb3.cell (p := ⟨R, 0, none⟩) hR2).trans a0
  have b1 := (hb3.frozen (p := ⟨R, 0, none⟩) hR2).trans a1
  have hR3 : R < w3.heap.size := Nat.lt_of_lt_of_le hR2 hb3.size
  clear hb3 a0 a1 hR2 HB2
  go_wp2_with fail
  rw [← hHs2.out]
  refine (K2.out w3).mono ?_
  rintro e w4 ⟨rfl, hb4⟩
  have HB4 := Lib.hid (HB3.out.trans (hb4.mono HB3.out.size))
  have c0 := (hb4.cell (p := ⟨R, 0, none⟩) hR3).trans b0
  have c1 := (hb4.frozen (p := ⟨R, 0, none⟩) hR3).trans b1
  have hR4 : R < w4.heap.size := Nat.lt_of_lt_of_le hR3 hb4.size
  clear hb4 b0 b1 hR3 HB3
  go_wp2_with fail
  rw [← hHs3.out]
  refine (K3.out w4).mono ?_
  rintro e w5 ⟨rfl, hb5⟩
  have HB5 := Lib.hid (HB4.out.trans (hb5.mono HB4.out.size))
  have d0 := (hb5.cell (p := ⟨R, 0, none⟩) hR4).trans c0
  have d1 := (hb5.frozen (p := ⟨R, 0, none⟩) hR4).trans c1
  have hR5 : R < w5.heap.size := Nat.lt_of_lt_of_le hR4 hb5.size
  clear hb5 c0 c1 hR4 HB4
  by_cases h0 : by_.toNat = 0
  · go_wp2_with fail
    refine (KWo.out w5).mono ?_
    rintro e w6 ⟨rfl, hb6⟩
    have HB6 := Lib.hid (HB5.out.trans (hb6.mono HB5.out.size))
    have e0 := (hb6.cell (p := ⟨R, 0, none⟩) hR5).trans d0
    have e1 := (hb6.frozen (p := ⟨R, 0, none⟩) hR5).trans d1
    clear hb6 d0 d1 HB5
    go_wp2_with fail
    have HB7 : Below w.heap.size w (w6.setCell ⟨R, 0, none⟩ (.bool true)) := HB6.out.setCell (p := ⟨R, 0, none⟩) (by have := HR.out; simp only; omega) _
    have g0 : (w6.setCell ⟨R, 0, none⟩ (.bool true)).cell? ⟨R, 0, none⟩ = some (.bool true) := World.cell?_setCell_same _ _ _ e0
    obtain ⟨W7, hW7⟩ : ∃ V : World, V = w6.setCell ⟨R, 0, none⟩ (.bool true) := ⟨_, rfl⟩
    rw [← hW7] at g0 HB7 ⊢
    clear hW7
    exact postM_ret (v := .bool true) rfl (by simp [results, Try.results4, go_sem, g0]) ⟨rfl, HB7⟩
  obtain ⟨vb, w6, hcv, hrow, hb6⟩ := convert_row (P := Try.prog) w5 9 33 5 s Try.underlying9 Try.underlying33 Try.underlying5 (by unfold maxLen; omega)
  obtain ⟨g, bc, rfl, hg5, hbc⟩ := row_some hrow (by rw [Hls.out]; omega)
  rw [Hls.out] at hrow hcv
  have HB6 := Lib.hid (HB5.out.trans (hb6.mono HB5.out.size))
  have e0 := (hb6.cell (p := ⟨R, 0, none⟩) hR5).trans d0
  have e1 := (hb6.frozen (p := ⟨R, 0, none⟩) hR5).trans d1
  have hR6 : R < w6.heap.size := Nat.lt_of_lt_of_le hR5 hb6.size
  obtain ⟨y, hy⟩ : ∃ y, s.toList[k]? = some y := ⟨_, List.getElem?_eq_getElem (by rw [Hls.out]; exact hkl)⟩
  have y1 : w6.cell? ⟨g, k, none⟩ = some (.int .u8 y.toNat) := (Row.cell hrow k (by omega)).trans (by rw [List.getElem?_map, hy]; rfl)
  have y2 : w6.frozen? ⟨g, k, none⟩ = false := Row.free hrow (by omega)
  obtain ⟨yx, hyx⟩ : ∃ u : UInt8, (u.toNat : Int) = bits .xor .u8 y.toNat by_.toNat := by
    have l1 := bits_lo_u8 .xor y.toNat by_.toNat
    have l2 := bits_hi_u8 .xor y.toNat by_.toNat
    refine ⟨UInt8.ofNat (bits .xor .u8 y.toNat by_.toNat).toNat, ?_⟩
    rw [UInt8.toNat_ofNat']
    omega
  have hrow2 : Row (w6.setCell ⟨g, k, none⟩ (.int .u8 (bits .xor .u8 y.toNat by_.toNat))) w5.heap.size 5 1 (.slice (some ⟨g, 0, none⟩) (s.toList.set k yx).length bc) (s.toList.set k yx).length ((s.toList.set k yx).map bval) := by
    rw [List.length_set, Hls.out, List.map_set, ← hyx]
    exact Row.store (k := 0) hrow (by omega) _
  have hcb := convert_back (P := Try.prog) _ 33 9 5 w5.heap.size _ (s.toList.set k yx) Try.underlying33 Try.underlying5 Try.underlying9 hrow2
  rw [List.length_set, Hls.out] at hcb
  obtain ⟨s4, hs4⟩ : ∃ u : ByteArray, u = ⟨(s.toList.set k yx).toArray⟩ := ⟨_, rfl⟩
  have hs4z : s4.size ≤ 80000 := by
    rw [hs4, ← size_list, Lib.toList_data]
    simp only [List.length_set, Hls.out]
    omega
  have Hs4 := Lib.hid hs4
  rw [← hs4] at hcb
  have HB7 : Hid (Below w.heap.size w (w6.setCell ⟨g, k, none⟩ (.int .u8 (bits .xor .u8 y.toNat by_.toNat)))) := Lib.hid (HB6.out.setCell (p := ⟨g, k, none⟩) (by have := HB5.out.size; simp only; omega) _)
  have f0 : (w6.setCell ⟨g, k, none⟩ (.int .u8 (bits .xor .u8 y.toNat by_.toNat))).cell? ⟨R, 0, none⟩ = some (.bool false) := (World.cell?_setCell_other _ _ _ _ (by intro e; cases e; omega)).trans e0
  have f1 : (w6.setCell ⟨g, k, none⟩ (.int .u8 (bits .xor .u8 y.toNat by_.toNat))).frozen? ⟨R, 0, none⟩ = false := by rw [World.frozen?_setCell]; exact e1
  have hR7 : R < (w6.setCell ⟨g, k, none⟩ (.int .u8 (bits .xor .u8 y.toNat by_.toNat))).heap.size := by rw [World.size_setCell]; exact hR6
  obtain ⟨w7, hw7⟩ : ∃ V : World, V = w6.setCell ⟨g, k, none⟩ (.int .u8 (bits .xor .u8 y.toNat by_.toNat)) := ⟨_, rfl⟩
  rw [← hw7] at hcb HB7 f0 f1 hR7
  have hw7' := hw7.symm
  have KO4 := Lib.hid fun W => open_table s4 W hs4z
  clear hrow hrow2 hb6 d0 d1 e0 e1 hy HB5 HB6 hs4 hyx hw7
  go_wp2_with fail
  clear hw7' hcb hcv y1 y2
  refine (KO4.out w7).mono ?_
  rintro e w8 ⟨hcase, hb8⟩
  have HB8 := Lib.hid (HB7.out.trans (hb8.mono HB7.out.size))
  have g0 := (hb8.cell (p := ⟨R, 0, none⟩) hR7).trans f0
  have g1 := (hb8.frozen (p := ⟨R, 0, none⟩) hR7).trans f1
  have hR8 : R < w8.heap.size := Nat.lt_of_lt_of_le hR7 hb8.size
  clear hb8 f0 f1 hR7
  rcases hcase with ⟨css, p, hIs, rfl, hT, hp⟩ | ⟨_, rfl⟩
  case inr =>
    go_wp2_with fail
    refine (KWo.out w8).mono ?_
    rintro e w9 ⟨rfl, hb9⟩
    have e0 := (hb9.cell (p := ⟨R, 0, none⟩) hR8).trans g0
    have e1 := (hb9.frozen (p := ⟨R, 0, none⟩) hR8).trans g1
    have HB9 := Lib.hid (HB8.out.trans (hb9.mono HB8.out.size))
    clear hb9 g0 g1 HB8
    go_wp2_with fail
    have HBA : Below w.heap.size w (w9.setCell ⟨R, 0, none⟩ (.bool true)) := HB9.out.setCell (p := ⟨R, 0, none⟩) (by have := HR.out; simp only; omega) _
    have j0 : (w9.setCell ⟨R, 0, none⟩ (.bool true)).cell? ⟨R, 0, none⟩ = some (.bool true) := World.cell?_setCell_same _ _ _ e0
    obtain ⟨WA, hWA⟩ : ∃ V : World, V = w9.setCell ⟨R, 0, none⟩ (.bool true) := ⟨_, rfl⟩
    rw [← hWA] at j0 HBA ⊢
    clear hWA
    exact postM_ret (v := .bool true) rfl (by simp [results, Try.results4, go_sem, j0]) ⟨rfl, HBA⟩
  clear hp
  have hsm := hIs.small (by rw [size_list]; exact hs4z)
  have hrs := hIs.rise
  have hgd := hIs.good
  have hTM := TableM.of hT
  clear hIs
  go_wp2_with fail
  have HTM := Lib.hid hTM
  have Hrs := Lib.hid hrs
  have Hgd := Lib.hid hgd
  have Hsm := Lib.hid hsm
  clear hTM hrs hgd hsm hT
  have hRw8 : w.heap.size ≤ w8.heap.size := HB8.out.size
  obtain ⟨w9, hw9⟩ : ∃ V : World, V = (w8.alloc (.cells #[.string ⟨#[]⟩, .string ⟨#[]⟩, .int .u64 0, .bool false, .string ⟨#[]⟩] 31)).alloc (.cells #[.int .i64 0] 3) := ⟨_, rfl⟩
  have hz9 : w9.heap.size = w8.heap.size + 2 := by rw [hw9]; simp
  have hb9 : Below w8.heap.size w8 w9 := by rw [hw9]; go_grown
  have x0 : w9.cell? ⟨w8.heap.size, 0, none⟩ = some (.string ⟨#[]⟩) := by rw [hw9]; go_simp
  have x1 : w9.cell? ⟨w8.heap.size, 1, none⟩ = some (.string ⟨#[]⟩) := by rw [hw9]; go_simp
  have x2 : w9.cell? ⟨w8.heap.size, 2, none⟩ = some (.int .u64 0) := by rw [hw9]; go_simp
  have x3 : w9.cell? ⟨w8.heap.size, 3, none⟩ = some (.bool false) := by rw [hw9]; go_simp
  have x4 : w9.cell? ⟨w8.heap.size, 4, none⟩ = some (.string ⟨#[]⟩) := by rw [hw9]; go_simp
  have xf : ∀ o, w9.frozen? ⟨w8.heap.size, o, none⟩ = false := fun o => by rw [hw9]; go_simp
  have n0 : w9.cell? ⟨w8.heap.size + 1, 0, none⟩ = some (.int .i64 0) := by rw [hw9]; go_simp
  have nf : w9.frozen? ⟨w8.heap.size + 1, 0, none⟩ = false := by rw [hw9]; go_simp
  have r0 := (hb9.cell (p := ⟨R, 0, none⟩) hR8).trans g0
  have rf := (hb9.frozen (p := ⟨R, 0, none⟩) hR8).trans g1
  have HI9 : Hid (RefI w w9.heap.size R w8.heap.size (w8.heap.size + 1) zeroC 0 w9) := Lib.hid ⟨HB8.out.trans (hb9.mono HB8.out.size), Nat.le_refl _, r0, rf, x0, x1, x2, x3, x4, xf, n0, nf⟩
  rw [← hw9]
  obtain ⟨X, hX⟩ : ∃ X, X = w8.heap.size := ⟨_, rfl⟩
  have HX := Lib.hid hX
  have HB9 := Lib.hid hb9
  rw [← hX] at HI9 hR8 hz9 ⊢
  clear hw9 hb9 x0 x1 x2 x3 x4 xf n0 nf r0 rf g0 g1 hX
  refine (all_table (some ⟨p, 0, none⟩) w9).mono ?_
  rintro e w10 ⟨rfl, hb10, hz10, k0, k1, k2⟩
  have hRN : R < w10.heap.size ∧ X < w10.heap.size ∧ X + 1 < w10.heap.size := by omega
  have hI10 := HI9.out.own (V' := w10) (r := none) (by omega) (by have := HX.out; omega) (grown_none' hb10) (fun q e => by cases e)
  have HI10 : Hid (RefI w w10.heap.size R X (X + 1) zeroC 0 w10) := Lib.hid { hI10 with size := Nat.le_refl _ }
  have hSq := from1_seq 19 (by omega) w8 p w9.heap.size (w9.heap.size + 1) ⟨#[]⟩ ⟨#[]⟩ css w10 ⟨HTM.out.below (HB9.out.trans (hb10.mono (by have := HX.out; omega))) (Nat.le_refl _), k0, k1, k2⟩ Hgd.out Hrs.out Hsm.out.1
  rw [told_all] at hSq
  have HSeq := Lib.hid hSq
  have HL := Lib.hid (wrongB_false Hrs.out)
  have hLl : css.flatten.length ≤ 32768 := Hsm.out.2
  obtain ⟨L, hL⟩ : ∃ L, L = css.flatten := ⟨_, rfl⟩
  rw [← hL] at HSeq HL hLl
  have hw0 : w.heap.size ≤ X := by have := HX.out; omega
  have hRw : w.heap.size ≤ R := by have := HR.out; omega
  have Hz10 := Lib.hid hz10
  have Hz9 := Lib.hid hz9
  have hzz : w9.heap.size + 2 ≤ w10.heap.size := by omega
  have hXX : w8.heap.size ≤ X := by have := HX.out; omega
  clear hI10 hb10 k0 k1 k2 hz10 hz9 hL hSq HI9 hRw8
  go_wp2
  refine (wpIn_wide (n := 20)).1 ?_
  refine rangeA (n := 20) (by omega) (gf := 23) (lb := #[.pointer (some ⟨w9.heap.size, 0, none⟩), .pointer (some ⟨w9.heap.size + 1, 0, none⟩)]) rfl (enters_of Try.func23 (by kernel_rfl) rfl)
    (F := fromF w8.heap.size w9.heap.size (w9.heap.size + 1)) (fun k h => ?hF) HSeq.out (fun _ => rfl)
    (fun k W => RefI w w10.heap.size R X (X + 1) (lastAt L k) k W) (fun _ _ _ => False) ?hI ?hIx HI10.out ?hround ?done ?stop
  case hF =>
    rcases h with h | h | h <;> omega
  case hI => exact fun k A B r h hg hr => h.own hRN (by omega) hg hr
  case hIx => exact fun _ _ _ _ _ h => h.elim
  case stop => exact fun D cd k W _ _ h => h.elim
  case hround =>
    intro lc k x W hl hlW hx hI
    have hkl := (List.getElem?_eq_some_iff.1 hx).1
    have hlast : 0 < k → cmpC (lastAt L k) x < 0 := fun h0 => by
      obtain ⟨z, hz⟩ : ∃ z, L[k - 1]? = some z := ⟨_, List.getElem?_eq_getElem (by omega)⟩
      unfold lastAt
      rw [if_neg (by omega), hz]
      exact (HL.out k x hx).2 z h0 hz
    have hnext : x = lastAt L (k + 1) := by
      unfold lastAt
      rw [if_neg (by omega), Nat.add_sub_cancel, hx]
      rfl
    obtain ⟨z, hz⟩ : ∃ z, z = lastAt L k := ⟨_, rfl⟩
    rw [← hz] at hlast hI
    have KC := Lib.hid fun W => cmp_any z x W
    have hneg := hlast
    obtain ⟨cz, hcz⟩ : ∃ u, u = cmpC z x := ⟨_, rfl⟩
    rw [← hcz] at KC hneg
    obtain ⟨zr, zc, zv, zg, zl⟩ := z
    obtain ⟨xr, xc, xv, xg, xl⟩ := x
    simp only [CellA.v] at KC ⊢
    have Hnext := Lib.hid hnext
    have HCz := Lib.hid hcz
    clear hx hz hnext hlast hcz
    gi_wp2
    refine ⟨KpC.below ((Below.refl _ _).alloc (Nat.le_refl _) _), fun W2 hg2 hz2 => ?_⟩
    have hz2' : W2.heap.size = W.heap.size + 1 := by rw [hz2, World.size_alloc]
    have hlc : lc < W.heap.size := hlW
    have hc := fun o => grown_cell (o := o) hg2 (b := W.heap.size) (by rw [World.size_alloc]; omega) (by intro e; have := Option.some.inj e; omega)
    have hgA : (W.alloc (.cells #[.string xr, .string xc, .int .u64 xv, .bool xg, .string xl] 31)).grownBy W2 (some lc) := hg2
    have hI1 : RefI w w10.heap.size R X (X + 1) ⟨zr, zc, zv, zg, zl⟩ k (W.alloc (.cells #[.string xr, .string xc, .int .u64 xv, .bool xg, .string xl] 31)) := hI.own hRN (by omega) (grown_none' ((Below.refl _ _).alloc (Nat.le_refl _) _)) (fun q e => by cases e)
    have hI2 := hI1.own hRN (by omega) hgA (fun r e => by cases e; rw [hl]; omega)
    have y0 : W2.cell? ⟨W.heap.size, 0, none⟩ = some (.string xr) := by rw [(hc 0).1]; go_simp
    have y1 : W2.cell? ⟨W.heap.size, 1, none⟩ = some (.string xc) := by rw [(hc 1).1]; go_simp
    have y2 : W2.cell? ⟨W.heap.size, 2, none⟩ = some (.int .u64 xv) := by rw [(hc 2).1]; go_simp
    have y3 : W2.cell? ⟨W.heap.size, 3, none⟩ = some (.bool xg) := by rw [(hc 3).1]; go_simp
    have y4 : W2.cell? ⟨W.heap.size, 4, none⟩ = some (.string xl) := by rw [(hc 4).1]; go_simp
    have HI := Lib.hid hI2
    have v0 := hI2.x0
    have v1 := hI2.x1
    have v2 := hI2.x2
    have v3 := hI2.x3
    have v4 := hI2.x4
    have vf := hI2.xf
    have u0 := hI2.n0
    have uf := hI2.nf
    have hzW := hI.size
    have HK : Hid (KpC (fromF w8.heap.size w9.heap.size (w9.heap.size + 1)) (w10.heap.size + 2) W W2) := Lib.hid ⟨by omega, fun k hk hlt => (hg2.block k (by rw [World.size_alloc]; omega) (fun e => by
      have e1 := Option.some.inj e
      rcases hk with hk | hk
      · rcases hk with hk | hk | hk <;> omega
      · omega)).trans (((Below.refl W.heap.size W).alloc (Nat.le_refl _) _).block k hlt)⟩
    obtain ⟨Y, hY⟩ : ∃ Y, Y = W.heap.size := ⟨_, rfl⟩
    rw [← hY] at y0 y1 y2 y3 y4 ⊢
    have hYl : Y < W2.heap.size := by omega
    have hXl : X + 1 < W2.heap.size := by omega
    clear hI hI1 hI2 hg2 hgA hc hY
    simp only at v0 v1 v2 v3 v4
    by_cases h0k : k = 0
    · subst h0k
      gi_wp2_with fail
      refine ⟨trivial, ?_⟩
      gi_wp2_with fail
      have hz9 := Hz9.out
      have hk1 := kpc_layC (F := fromF w8.heap.size w9.heap.size (w9.heap.size + 1)) (B := w10.heap.size) (X := X) (Below.refl W2.heap.size W2) (fun k hk => by rcases hk with (hk | hk | hk) | hk <;> omega) (.string xr) (.string xc) (.int .u64 xv) (.bool xg) (.string xl) (.int .i64 1)
      refine ⟨⟨hk1, HK.out.trans (hk1.later (by omega))⟩, ?_⟩
      show RefI w w10.heap.size R X (X + 1) (lastAt L (0 + 1)) (0 + 1) _
      rw [← Hnext.out]
      exact HI.out.lay (by omega) hw0 ⟨xr, xc, xv, xg, xl⟩ (0 + 1)
    · have hk0 : (0 : Int) < k := by omega
      have hneg' := hneg (by omega)
      have hngt : ¬ (0 : Int) ≤ cz := by omega
      gi_wp2_with fail
      refine ⟨trivial, ?_⟩
      refine (CallsIn.inRound lc (callsIn_wide.2 (KC.out _))).mono ?_
      rintro e w3 ⟨rfl, hb3⟩
      have y0' := (hb3.cell (p := ⟨Y, 0, none⟩) hYl).trans y0
      have y1' := (hb3.cell (p := ⟨Y, 1, none⟩) hYl).trans y1
      have y2' := (hb3.cell (p := ⟨Y, 2, none⟩) hYl).trans y2
      have y3' := (hb3.cell (p := ⟨Y, 3, none⟩) hYl).trans y3
      have y4' := (hb3.cell (p := ⟨Y, 4, none⟩) hYl).trans y4
      have hI3 := HI.out.below hRN (by omega) hb3
      have v0' := hI3.x0
      have v1' := hI3.x1
      have v2' := hI3.x2
      have v3' := hI3.x3
      have v4' := hI3.x4
      have vf' := hI3.xf
      have u0' := hI3.n0
      have uf' := hI3.nf
      have HI3 := Lib.hid hI3
      have HB3 := Lib.hid hb3
      clear hI3 hb3 y0 y1 y2 y3 y4 v0 v1 v2 v3 v4 vf u0 uf
      simp only at v0' v1' v2' v3' v4'
      gi_wp2_with fail
      have hz9 := Hz9.out
      have hk1 := kpc_layC (F := fromF w8.heap.size w9.heap.size (w9.heap.size + 1)) (B := w10.heap.size) (X := X) HB3.out (fun k hk => by rcases hk with (hk | hk | hk) | hk <;> omega) (.string xr) (.string xc) (.int .u64 xv) (.bool xg) (.string xl) (.int .i64 ((k : Int) + 1))
      refine ⟨⟨hk1, HK.out.trans (hk1.later (by omega))⟩, ?_⟩
      show RefI w w10.heap.size R X (X + 1) (lastAt L (k + 1)) (k + 1) _
      rw [← Hnext.out]
      exact HI3.out.lay (by omega) hw0 ⟨xr, xc, xv, xg, xl⟩ (k + 1)
  case done =>
    intro D W hD hI hd
    have r0 := hI.r0
    have rf := hI.rf
    have hRW : R < W.heap.size := by have := hI.size; omega
    have HI := Lib.hid hI
    have HD := Lib.hid hd
    clear hI hd
    go_wp2_with fail
    refine (KWo.out W).mono ?_
    rintro e w11 ⟨rfl, hb11⟩
    have e0 := (hb11.cell (p := ⟨R, 0, none⟩) hRW).trans r0
    have e1 := (hb11.frozen (p := ⟨R, 0, none⟩) hRW).trans rf
    have HB11 := Lib.hid hb11
    clear hb11 r0 rf
    go_wp2_with fail
    have hd2 : (w11.setCell ⟨R, 0, none⟩ (.bool true)).heap[D]? = some (.deferred (some [])) := by
      have hDl := (Array.getElem?_eq_some_iff.1 HD.out).1
      rw [Below.heap_setCell _ _ _ _ (by simp only; omega), HB11.out.block D hDl]
      exact HD.out
    have j0 := cell_put (o' := .deferred none) hd2 rfl (World.cell?_setCell_same w11 ⟨R, 0, none⟩ (.bool true) e0)
    have hbz := HI.out.bel
    have hbw : Below w.heap.size w (w11.setCell ⟨R, 0, none⟩ (.bool true)) := (hbz.trans (HB11.out.mono hbz.size)).setCell (p := ⟨R, 0, none⟩) hRw _
    obtain ⟨WA, hWA⟩ : ∃ V : World, V = w11.setCell ⟨R, 0, none⟩ (.bool true) := ⟨_, rfl⟩
    rw [← hWA] at j0 hbw hd2 ⊢
    clear hWA
    exact postM_ret1 (v := .bool true) rfl hd2 (by simp [results, Try.results4, go_sem, j0]) ⟨rfl, hbw.trans (below_put hd2 (by omega))⟩
end Go.Proofs.Ytihglmicgccgiaa
