/-
  Tables: the walk of Get.
-/
import Derived.Test.YtihglmicgccgiaaTblLen
import Derived.Stop.RegionWithIn
namespace Go.Proofs.Ytihglmicgccgiaa
open Go.RowKit Go.Shelf

attribute [local go_sem] Oper.semAt_some readsUpon
/-- the newest cell of a place -/
def headP (row col : ByteArray) (L : List CellA) : Option CellA := match L[0]? with
  | some c => if c.row = row ∧ c.col = col then some c else none
  | none => none
def getT (row col : ByteArray) (cs : List CellA) : Option CellA := headP row col (toldT row col cs)
def zeroC : CellA := ⟨⟨#[]⟩, ⟨#[]⟩, 0, false, ⟨#[]⟩⟩
def getVT : Option CellA → Value
  | some c => .tuple #[c.v, .bool true]
  | none => .tuple #[zeroC.v, .bool false]
theorem getT_in {row col : ByteArray} {cs : List CellA} {c : CellA} (h : getT row col cs = some c) : c ∈ cs ∧ c.row = row ∧ c.col = col := by
  unfold getT headP at h
  split at h
  · rename_i x hx
    split at h
    · rename_i hp
      cases h
      exact ⟨(List.mem_filter.1 (List.mem_of_getElem? hx)).1, hp⟩
    · cases h
  · cases h
theorem foldK_has : ∀ (cs : List CellA) (st : KSt), (st.1 ≠ [] → keyL st.2.1.toList st.2.2.toList ∈ st.1) →
    ((cs.foldl stepK st).1 ≠ [] → keyL (cs.foldl stepK st).2.1.toList (cs.foldl stepK st).2.2.toList ∈ (cs.foldl stepK st).1) ∧ (∀ k ∈ st.1, k ∈ (cs.foldl stepK st).1) ∧ ∀ c ∈ cs, keyL c.row.toList c.col.toList ∈ (cs.foldl stepK st).1
  | [], st, h => ⟨h, fun _ h => h, fun c hc => by cases hc⟩
  | c :: cs, st, h => by
    have h1 : ((stepK st c).1 ≠ [] → keyL (stepK st c).2.1.toList (stepK st c).2.2.toList ∈ (stepK st c).1) ∧ (∀ k ∈ st.1, k ∈ (stepK st c).1) ∧ keyL c.row.toList c.col.toList ∈ (stepK st c).1 := by
      unfold stepK
      by_cases hc : st.1 = [] ∨ ¬ (c.row = st.2.1 ∧ c.col = st.2.2)
      · rw [if_pos hc]
        exact ⟨fun _ => List.mem_append.2 (.inr (List.mem_singleton.2 rfl)), fun k hk => List.mem_append.2 (.inl hk), List.mem_append.2 (.inr (List.mem_singleton.2 rfl))⟩
      · rw [if_neg hc]
        refine ⟨h, fun k hk => hk, ?_⟩
        have h2 : st.1 ≠ [] := fun e => hc (.inl e)
        have h3 : c.row = st.2.1 ∧ c.col = st.2.2 := Decidable.byContradiction fun e => hc (.inr e)
        rw [h3.1, h3.2]
        exact h h2
    obtain ⟨i1, i2, i3⟩ := foldK_has cs (stepK st c) h1.1
    refine ⟨i1, fun k hk => i2 k (h1.2.1 k hk), fun d hd => ?_⟩
    rcases List.mem_cons.1 hd with rfl | hd
    · exact i2 _ h1.2.2
    · exact i3 d hd
theorem keysOf_has {cs : List CellA} {c : CellA} (h : c ∈ cs) : keyL c.row.toList c.col.toList ∈ keysOf cs := (foldK_has cs (([], ⟨#[]⟩, ⟨#[]⟩) : KSt) (fun h => absurd rfl h)).2.2 c h
theorem get_has {row col : ByteArray} {bss : List (List CellA)} {c : CellA} (h : getT row col bss.flatten = some c) : hasS (filterL bss) (keyL row.toList col.toList) = true := by
  obtain ⟨h1, rfl, rfl⟩ := getT_in h
  exact makeF_has _ _ (keysOf_has h1)
set_option maxRecDepth 100000 in
set_option maxHeartbeats 4000000 in
theorem get_nil (row col : ByteArray) (w : World) : Calls Try.prog 12 #[.pointer none, .string row, .string col] w fun e w' => e = .returned (getVT none) ∧ Below w.heap.size w w' := by
  have KN := Lib.hid fun W => same_below (tnone_nil W)
  unfold getVT
  simp only [zeroC, CellA.v]
  refine callsIn_wide.1 (callsIn_of_wp_marks (F := Fence.wide) (n := 20) Try.func12 rfl trivial ?_ rfl); refine wpIn_wide.2 ?_; simp only [Try.ntmps12, List.size_toArray, List.length_cons, List.length_nil, Nat.reduceAdd, Nat.reduceSub, Array.replicate_succ, Array.replicate_zero, List.push_toArray, List.append_toArray, List.nil_append, List.cons_append]
  go_wp2_with fail
  refine wp_region_below (by kernel_rfl) (by kernel_rfl) (fun hkept => ?_)
  obtain ⟨r0, rf0⟩ := hkept (w.heap.size) (by go_size); obtain ⟨r1, rf1⟩ := hkept (w.heap.size + 1) (by go_size); clear hkept
  repeat (any_goals (first | go_big_quiet_step (first | (go_at_call 22; exact Calls.regrown_of (KN.out _))) | quiet_step (first | (go_at_call 22; exact Calls.regrown_of (KN.out _))) | (refine wpQuiet_step (fun K hK => ?_); go_simp; split <;> (refine hK _ ?_; clear hK K))))
  all_goals (refine wpQuiet_nil ?_; intro w1 hb; obtain ⟨hB, hS, hk⟩ := after (B := w.heap.size) (w := w) (by go_grown) (by go_size) hb; obtain ⟨c0, f0, z0⟩ := hk (w.heap.size) (by go_size); obtain ⟨c1, f1, z1⟩ := hk (w.heap.size + 1) (by go_size); clear hk hb r0 rf0 r1 rf1)
  have a0 : w1.cell? ⟨w.heap.size, 0, none⟩ = some (.string ⟨#[]⟩) := by rw [c0]; go_simp
  have a1 : w1.cell? ⟨w.heap.size, 1, none⟩ = some (.string ⟨#[]⟩) := by rw [c0]; go_simp
  have a2 : w1.cell? ⟨w.heap.size, 2, none⟩ = some (.int .u64 0) := by rw [c0]; go_simp
  have a3 : w1.cell? ⟨w.heap.size, 3, none⟩ = some (.bool false) := by rw [c0]; go_simp
  have a4 : w1.cell? ⟨w.heap.size, 4, none⟩ = some (.string ⟨#[]⟩) := by rw [c0]; go_simp
  have a5 : w1.cell? ⟨w.heap.size + 1, 0, none⟩ = some (.bool false) := by rw [c1]; go_simp
  have HB := Lib.hid hB
  clear hB c0 c1
  go_wp2_with fail
  obtain ⟨R, hR⟩ : ∃ R, R = w.heap.size := ⟨_, rfl⟩
  rw [← hR] at a0 a1 a2 a3 a4 a5
  have HR := Lib.hid hR
  rw [← hR]
  refine postM_ret (v := .tuple #[.agg #[.string ⟨#[]⟩, .string ⟨#[]⟩, .int .u64 0, .bool false, .string ⟨#[]⟩], .bool false]) rfl ?_ ⟨rfl, ?_⟩
  · clear hR
    simp [results, Try.results12, go_sem, a0, a1, a2, a3, a4, a5]
  · have hw : R ≤ R := Nat.le_refl _
    have HB2 : Below R w w1 := by rw [hR]; exact HB.out
    exact (((((HB2.setCell (p := ⟨R, 0, none⟩) hw _).setCell (p := ⟨R, 1, none⟩) hw _).setCell (p := ⟨R, 2, none⟩) hw _).setCell (p := ⟨R, 3, none⟩) hw _).setCell (p := ⟨R, 4, none⟩) hw _).setCell (p := ⟨R + 1, 0, none⟩) (by simp only; omega) _
/-- what Get keeps: its result's two blocks, the place -/
structure GetI (w : World) (M R : Nat) (row col : ByteArray) (x : CellA) (b : Bool) (V : World) : Prop where
  bel : Below R w V
  size : M ≤ V.heap.size
  a0 : V.cell? ⟨R, 0, none⟩ = some (.string x.row)
  a1 : V.cell? ⟨R, 1, none⟩ = some (.string x.col)
  a2 : V.cell? ⟨R, 2, none⟩ = some (.int .u64 x.ver)
  a3 : V.cell? ⟨R, 3, none⟩ = some (.bool x.gone)
  a4 : V.cell? ⟨R, 4, none⟩ = some (.string x.val)
  a5 : V.cell? ⟨R + 1, 0, none⟩ = some (.bool b)
  b0 : V.cell? ⟨R + 2, 0, none⟩ = some (.string row)
  b1 : V.cell? ⟨R + 2, 1, none⟩ = some (.string col)
  fz : ∀ o, V.frozen? ⟨R, o, none⟩ = false
  fb : V.frozen? ⟨R + 1, 0, none⟩ = false
theorem GetI.own {w : World} {M R : Nat} {row col : ByteArray} {x : CellA} {b : Bool} {V V' : World} {r : Option Nat} (h : GetI w M R row col x b V) (hR : R + 2 < M) (hg : V.grownBy V' r) (hr : ∀ q, r = some q → M ≤ q) : GetI w M R row col x b V' := by
  have hk : ∀ k, k < M → V'.heap[k]? = V.heap[k]? := fun k hk => hg.block k (by have := h.size; omega) (fun e => by have := hr k e.symm; omega)
  have c : ∀ k o, k < M → V'.cell? ⟨k, o, none⟩ = V.cell? ⟨k, o, none⟩ := fun k o hk2 => World.cell?_of_block (a := ⟨k, o, none⟩) (hk k hk2)
  have f : ∀ k o, k < M → V'.frozen? ⟨k, o, none⟩ = V.frozen? ⟨k, o, none⟩ := fun k o hk2 => World.frozen?_of_block (a := ⟨k, o, none⟩) (hk k hk2)
  exact ⟨h.bel.grown hg (by have := h.size; omega) (fun k e => by have := hr k e; omega), Nat.le_trans h.size hg.size, (c _ _ (by omega)).trans h.a0, (c _ _ (by omega)).trans h.a1, (c _ _ (by omega)).trans h.a2, (c _ _ (by omega)).trans h.a3, (c _ _ (by omega)).trans h.a4, (c _ _ (by omega)).trans h.a5, (c _ _ hR).trans h.b0, (c _ _ hR).trans h.b1, fun o => (f _ o (by omega)).trans (h.fz o), (f _ _ (by omega)).trans h.fb⟩
/-- the result is laid -/
theorem GetI.lay {w : World} {M R : Nat} {row col : ByteArray} {x : CellA} {b : Bool} {V : World} (h : GetI w M R row col x b V) (y : CellA) (c : Bool) :
    GetI w M R row col y c ((((((V.setCell ⟨R, 0, none⟩ (.string y.row)).setCell ⟨R, 1, none⟩ (.string y.col)).setCell ⟨R, 2, none⟩ (.int .u64 y.ver)).setCell ⟨R, 3, none⟩ (.bool y.gone)).setCell ⟨R, 4, none⟩ (.string y.val)).setCell ⟨R + 1, 0, none⟩ (.bool c)) := by
  obtain ⟨bel, size, a0, a1, a2, a3, a4, a5, b0, b1, fz, fb⟩ := h
  have hR : R ≤ R := Nat.le_refl _
  refine ⟨(((((bel.setCell (p := ⟨R, 0, none⟩) hR _).setCell (p := ⟨R, 1, none⟩) hR _).setCell (p := ⟨R, 2, none⟩) hR _).setCell (p := ⟨R, 3, none⟩) hR _).setCell (p := ⟨R, 4, none⟩) hR _).setCell (p := ⟨R + 1, 0, none⟩) (by simp only; omega) _, by simp only [World.size_setCell]; exact size, by simp [go_sem, *], by simp [go_sem, *], by simp [go_sem, *], by simp [go_sem, *], by simp [go_sem, *], by simp [go_sem, *], by simp [go_sem, *], by simp [go_sem, *], fun o => by simp only [World.frozen?_setCell]; exact fz o, by simp only [World.frozen?_setCell]; exact fb⟩
theorem kpc_lay {F : Nat → Prop} {B R : Nat} {W V : World} (hb : Below W.heap.size W V) (hne : ∀ k, F k ∨ B ≤ k → k ≠ R ∧ k ≠ R + 1) (u0 u1 u2 u3 u4 u5 : Value) :
    KpC F B W ((((((V.setCell ⟨R, 0, none⟩ u0).setCell ⟨R, 1, none⟩ u1).setCell ⟨R, 2, none⟩ u2).setCell ⟨R, 3, none⟩ u3).setCell ⟨R, 4, none⟩ u4).setCell ⟨R + 1, 0, none⟩ u5) := by
  refine ⟨by simp only [World.size_setCell]; exact hb.size, fun k hk hlt => ?_⟩
  obtain ⟨h1, h2⟩ := hne k hk
  rw [Below.heap_setCell _ _ _ _ (by simp only; exact h2), Below.heap_setCell _ _ _ _ (by simp only; exact h1), Below.heap_setCell _ _ _ _ (by simp only; exact h1), Below.heap_setCell _ _ _ _ (by simp only; exact h1), Below.heap_setCell _ _ _ _ (by simp only; exact h1), Below.heap_setCell _ _ _ _ (by simp only; exact h1)]
  exact hb.block k hlt
/-- the result, and what is kept, behind the range's block for deferred calls -/
theorem GetI.fin {w : World} {M R : Nat} {row col : ByteArray} {x : CellA} {b : Bool} {V : World} (h : GetI w M R row col x b V) {D : Nat} (hd : V.heap[D]? = some (.deferred (some []))) (hD : R ≤ D) :
    ((V.putObj D (.deferred none)).cell? ⟨R, 0, none⟩ = some (.string x.row) ∧ (V.putObj D (.deferred none)).cell? ⟨R, 1, none⟩ = some (.string x.col) ∧ (V.putObj D (.deferred none)).cell? ⟨R, 2, none⟩ = some (.int .u64 x.ver) ∧ (V.putObj D (.deferred none)).cell? ⟨R, 3, none⟩ = some (.bool x.gone) ∧ (V.putObj D (.deferred none)).cell? ⟨R, 4, none⟩ = some (.string x.val) ∧ (V.putObj D (.deferred none)).cell? ⟨R + 1, 0, none⟩ = some (.bool b)) ∧ Below R w (V.putObj D (.deferred none)) :=
  ⟨⟨cell_put hd rfl h.a0, cell_put hd rfl h.a1, cell_put hd rfl h.a2, cell_put hd rfl h.a3, cell_put hd rfl h.a4, cell_put hd rfl h.a5⟩, h.bel.trans (below_put hd hD)⟩
theorem GetI.below {w : World} {M R : Nat} {row col : ByteArray} {x : CellA} {b : Bool} {V V' : World} (h : GetI w M R row col x b V) (hR : R + 2 < M) (hb : Below V.heap.size V V') : GetI w M R row col x b V' := h.own hR (grown_none' hb) (fun q e => by cases e)
theorem getI_new (w : World) (row col : ByteArray) : GetI w (w.heap.size + 3) w.heap.size row col zeroC false (((w.alloc (.cells #[.string ⟨#[]⟩, .string ⟨#[]⟩, .int .u64 0, .bool false, .string ⟨#[]⟩] 31)).alloc (.cells #[.bool false] 4)).alloc (.cells #[.string row, .string col] 62)) := by
  refine ⟨by go_grown, by simp, by go_simp; rfl, by go_simp; rfl, by go_simp; rfl, by go_simp; rfl, by go_simp; rfl, by go_simp, by go_simp, by go_simp, fun o => by go_simp, by go_simp⟩
set_option maxRecDepth 100000 in
set_option maxHeartbeats 8000000 in
theorem get_table (p : Nat) (bss : List (List CellA)) (row col : ByteArray) (w : World) (h : TableAt w p bss) (hg : GoodB bss) (hr : wrongB bss.flatten = false) (hl1 : bss.length ≤ 10000) (hl2 : bss.flatten.length ≤ 32768) (hrow : row.size ≤ 1000000) (hcol : col.size ≤ 1000000) :
    Calls Try.prog 12 #[.pointer (some ⟨p, 0, none⟩), .string row, .string col] w fun e w' => e = .returned (getVT (getT row col bss.flatten)) ∧ Below w.heap.size w w' := by
  obtain ⟨G, hG⟩ : ∃ G, G = getT row col bss.flatten := ⟨_, rfl⟩
  rw [← hG]
  have HT := Lib.hid h
  have Hg := Lib.hid hg
  have Hr := Lib.hid hr
  have hpl := h.lt
  obtain ⟨uk, huk⟩ : ∃ u, u = ofL (keyL row.toList col.toList) := ⟨_, rfl⟩
  obtain ⟨uf, huf⟩ : ∃ u, u = ofL (filterL bss) := ⟨_, rfl⟩
  have huks : uk.size ≤ maxLen := by rw [huk, ofL_size, keyL_len, size_list, size_list]; unfold maxLen; omega
  have hufs : uf.size ≤ maxLen := by
    rw [huf, ofL_size]
    have h1 := makeF_len (keysOf bss.flatten)
    have h2 := keysOf_len bss.flatten
    unfold filterL
    rw [h1]
    unfold makeZ maxLen
    omega
  have hok : okF uf.toList = true := by rw [huf, ofL_toList]; exact makeF_ok _ (Nat.le_trans (keysOf_len _) hl2)
  have KN := Lib.hid fun (V : World) (hV : Below w.heap.size w V) => same_below (tnone_any p V ((h.blocks hV.size hV.block).c2))
  have KK := Lib.hid fun W => key_any row col W hrow hcol
  rw [← huk] at KK
  have KH := Lib.hid fun W => has_any uf uk W hufs huks hok
  rw [show hasS uf.toList uk.toList = hasS (filterL bss) (keyL row.toList col.toList) by rw [huf, huk, ofL_toList, ofL_toList]] at KH
  have hno : hasS (filterL bss) (keyL row.toList col.toList) = false → G = none := fun hn => by
    rw [hG]
    cases hgt : getT row col bss.flatten with
    | none => rfl
    | some c => rw [get_has hgt] at hn; cases hn
  have Hno := Lib.hid hno
  obtain ⟨B, hB0⟩ : ∃ B, B = hasS (filterL bss) (keyL row.toList col.toList) := ⟨_, rfl⟩
  rw [← hB0] at KH Hno
  have tf := h.c1
  rw [← huf] at tf
  have HG := Lib.hid hG
  obtain ⟨R, hR⟩ : ∃ R, R = w.heap.size := ⟨_, rfl⟩
  clear h hg hr huk huf huks hufs hok hno hB0 hG
  refine callsIn_wide.1 (callsIn_of_wp_marks (F := Fence.wide) (n := 20) Try.func12 rfl trivial ?_ rfl); refine wpIn_wide.2 ?_; simp only [Try.ntmps12, List.size_toArray, List.length_cons, List.length_nil, Nat.reduceAdd, Nat.reduceSub, Array.replicate_succ, Array.replicate_zero, List.push_toArray, List.append_toArray, List.nil_append, List.cons_append]
  go_wp2_with fail
  obtain ⟨W0, hW0⟩ : ∃ V : World, V = (((w.alloc (.cells #[.string ⟨#[]⟩, .string ⟨#[]⟩, .int .u64 0, .bool false, .string ⟨#[]⟩] 31)).alloc (.cells #[.bool false] 4)).alloc (.cells #[.string row, .string col] 62)) := ⟨_, rfl⟩
  have hI0 : GetI w (w.heap.size + 3) w.heap.size row col zeroC false W0 := by rw [hW0]; exact getI_new w row col
  have hz0 : W0.heap.size = w.heap.size + 3 := by rw [hW0]; simp
  have hb0 : Below w.heap.size w W0 := hI0.bel
  rw [← hW0]
  have tf0 := (hb0.cell (p := ⟨p, 1, none⟩) hpl).trans tf
  rw [← hR] at hI0 hz0 ⊢
  have g0 := hI0.b0
  have g1 := hI0.b1
  have HI0 := Lib.hid hI0
  have Hb0 := Lib.hid hb0
  have hpW : p < W0.heap.size := by omega
  have hRW : R + 2 < W0.heap.size := by omega
  have HR := Lib.hid hR
  have Hz0 := Lib.hid hz0
  have KN2 := Lib.hid fun V (hV : Below W0.heap.size W0 V) => KN.out V (Hb0.out.trans (hV.mono (by omega)))
  clear hW0 hI0 hb0 hR hz0 tf KN
  refine wp_region_below (by kernel_rfl) (by kernel_rfl) (fun hkept => ?_)
  obtain ⟨r0, rf0⟩ := hkept (p) (by go_size); obtain ⟨r1, rf1⟩ := hkept (R + 2) (by go_size); clear hkept
  repeat (any_goals (first | go_big_quiet_step (first | (go_at_call 22; exact Calls.regrown_of (KN2.out _ (below_regrown _ _ _))) | (go_at_call 31; exact Calls.regrown_of (KK.out _)) | (go_at_call 30; exact Calls.regrown_of (KH.out _))) | quiet_step (first | (go_at_call 22; exact Calls.regrown_of (KN2.out _ (below_regrown _ _ _))) | (go_at_call 31; exact Calls.regrown_of (KK.out _)) | (go_at_call 30; exact Calls.regrown_of (KH.out _))) | (refine wpQuiet_step (fun K hK => ?_); go_simp; split <;> (refine hK _ ?_; clear hK K))))
  all_goals (refine wpQuiet_nil ?_; intro w1 hb; obtain ⟨hB, hS, hk⟩ := after (B := W0.heap.size) (w := W0) (by go_grown) (by go_size) hb; obtain ⟨c0, f0, z0⟩ := hk (p) (by go_size); obtain ⟨c1, f1, z1⟩ := hk (R + 2) (by go_size); clear hk hb r0 rf0 r1 rf1)
  have HI1 := Lib.hid (HI0.out.below (by have := Hz0.out; omega) hB)
  have HB1 := Lib.hid (Hb0.out.trans (hB.mono (by have := Hz0.out; have := HR.out; omega)))
  clear c0 f0 z0 c1 f1 z1 hB HI0 Hb0 KN2 KK KH tf0 g0 g1 hpW hRW
  cases B
  · have HL := Lib.hid (HI1.out.lay zeroC false)
    have x0 := HI1.out.a0
    have x1 := HI1.out.a1
    have x2 := HI1.out.a2
    have x3 := HI1.out.a3
    have x4 := HI1.out.a4
    have x5 := HI1.out.a5
    have xf := HI1.out.fz
    have xb := HI1.out.fb
    have HNo := Lib.hid (Hno.out rfl)
    simp only [zeroC] at x0 x1 x2 x3 x4
    clear HI1
    go_wp2_with fail
    have hI := HL.out
    simp only [zeroC] at hI
    have hbl := hI.bel
    have a0 := hI.a0
    have a1 := hI.a1
    have a2 := hI.a2
    have a3 := hI.a3
    have a4 := hI.a4
    have a5 := hI.a5
    clear x0 x1 x2 x3 x4 x5 xf xb
    obtain ⟨WL, hWL⟩ : ∃ V : World, V = ((((((w1.setCell ⟨R, 0, none⟩ (.string ⟨#[]⟩)).setCell ⟨R, 1, none⟩ (.string ⟨#[]⟩)).setCell ⟨R, 2, none⟩ (.int .u64 0)).setCell ⟨R, 3, none⟩ (.bool false)).setCell ⟨R, 4, none⟩ (.string ⟨#[]⟩)).setCell ⟨R + 1, 0, none⟩ (.bool false)) := ⟨_, rfl⟩
    rw [← hWL] at a0 a1 a2 a3 a4 a5 hbl ⊢
    clear hWL
    refine postM_ret (v := .tuple #[.agg #[.string ⟨#[]⟩, .string ⟨#[]⟩, .int .u64 0, .bool false, .string ⟨#[]⟩], .bool false]) rfl ?_ ⟨by rw [HNo.out]; rfl, by rw [← HR.out]; exact hbl⟩
    simp [results, Try.results12, go_sem, a0, a1, a2, a3, a4, a5]
  · clear Hno
    go_wp2_with fail
    refine (from_any (some ⟨p, 0, none⟩) row col w1).mono ?_
    rintro e w2 ⟨rfl, hb2, hz2, k0, k1, k2⟩
    have hR3 : R + 3 ≤ w1.heap.size := HI1.out.size
    have hI2 := HI1.out.below (by omega) hb2
    have hI2' : GetI w w2.heap.size R row col zeroC false w2 := { hI2 with size := Nat.le_refl _ }
    have HI2 := Lib.hid hI2'
    have hbw := HB1.out.trans (hb2.mono HB1.out.size)
    have HSeq := Lib.hid (from1_seq 19 (by omega) w p w1.heap.size (w1.heap.size + 1) row col bss w2 ⟨(TableM.of HT.out).below hbw (Nat.le_refl _), k0, k1, k2⟩ Hg.out Hr.out hl1)
    have hRw := HR.out
    have hw1 := HB1.out.size
    have Hz2 := Lib.hid hz2
    have HGG : Hid (G = headP row col (toldT row col bss.flatten)) := HG
    obtain ⟨L, hL⟩ : ∃ L, L = toldT row col bss.flatten := ⟨_, rfl⟩
    rw [← hL] at HSeq HGG
    have hR2 : R + 2 < w2.heap.size := by omega
    have hw2 : w1.heap.size + 2 ≤ w2.heap.size := by omega
    have hRw' : w.heap.size ≤ R := by omega
    have HRw := Lib.hid hRw
    clear hI2 hI2' HI1 hb2 k0 k1 k2 hz2 HB1 hL hbw hRw HR HG
    go_wp2
    refine (wpIn_wide (n := 20)).1 ?_
    refine rangeA (n := 20) (by omega) (gf := 23) (lb := #[.pointer (some ⟨w1.heap.size, 0, none⟩), .pointer (some ⟨w1.heap.size + 1, 0, none⟩)]) rfl (enters_of Try.func23 (by kernel_rfl) rfl)
      (F := fromF w.heap.size w1.heap.size (w1.heap.size + 1)) (fun k h => ?hF) HSeq.out (fun _ => rfl)
      (fun k W => k = 0 ∧ GetI w w2.heap.size R row col zeroC false W) (fun cd _ W => (cd = .ret ∧ ∃ x, G = some x ∧ GetI w w2.heap.size R row col x true W) ∨ (cd = .exit 0 ∧ G = none ∧ GetI w w2.heap.size R row col zeroC false W)) ?hI ?hIx ⟨rfl, HI2.out⟩ ?hround ?done ?stop
    case hF =>
      rcases h with h | h | h <;> omega
    case hI => exact fun k A B r h hg hr => ⟨h.1, h.2.own hR2 hg hr⟩
    case hIx =>
      rintro cd k A B r (⟨h1, x, h2, h3⟩ | ⟨h1, h2, h3⟩) hg hr
      · exact .inl ⟨h1, x, h2, h3.own hR2 hg hr⟩
      · exact .inr ⟨h1, h2, h3.own hR2 hg hr⟩
    case hround =>
      rintro lc k x W hl hlW hx ⟨rfl, hI⟩
      obtain ⟨hx0, hxe⟩ : ∃ h : 0 < L.length, x = L[0] := ⟨(List.getElem?_eq_some_iff.1 hx).1, ((List.getElem?_eq_some_iff.1 hx).2).symm⟩
      have hG : G = if x.row = row ∧ x.col = col then some x else none := by
        rw [HGG.out]
        unfold headP
        rw [hx]
      have KO := Lib.hid fun W => tof_any x W
      obtain ⟨xr, xc, xv, xg, xl⟩ := x
      simp only [CellA.v] at KO hG ⊢
      have HG := Lib.hid hG
      clear hx hxe hx0 hG
      gi_wp2
      refine ⟨KpC.below ((Below.refl _ _).alloc (Nat.le_refl _) _), fun W2 hg2 hz2 => ?_⟩
      have hz2' : W2.heap.size = W.heap.size + 1 := by rw [hz2, World.size_alloc]
      have hlc : lc < W.heap.size := hlW
      have hc := fun o => grown_cell (o := o) hg2 (b := W.heap.size) (by rw [World.size_alloc]; omega) (by intro e; have := Option.some.inj e; omega)
      have hgA : (W.alloc (.cells #[.string xr, .string xc, .int .u64 xv, .bool xg, .string xl] 31)).grownBy W2 (some lc) := hg2
      have hI2 := (hI.below hR2 ((Below.refl _ _).alloc (Nat.le_refl _) _)).own hR2 hgA (fun r e => by cases e; rw [hl]; omega)
      have y0 : W2.cell? ⟨W.heap.size, 0, none⟩ = some (.string xr) := by rw [(hc 0).1]; go_simp
      have y1 : W2.cell? ⟨W.heap.size, 1, none⟩ = some (.string xc) := by rw [(hc 1).1]; go_simp
      have y2 : W2.cell? ⟨W.heap.size, 2, none⟩ = some (.int .u64 xv) := by rw [(hc 2).1]; go_simp
      have y3 : W2.cell? ⟨W.heap.size, 3, none⟩ = some (.bool xg) := by rw [(hc 3).1]; go_simp
      have y4 : W2.cell? ⟨W.heap.size, 4, none⟩ = some (.string xl) := by rw [(hc 4).1]; go_simp
      have HI := Lib.hid hI2
      have v0 := hI2.b0
      have v1 := hI2.b1
      have hzW := hI.size
      have HK : Hid (KpC (fromF w.heap.size w1.heap.size (w1.heap.size + 1)) (w2.heap.size + 2) W W2) := Lib.hid ⟨by omega, fun k hk hlt => (hg2.block k (by rw [World.size_alloc]; omega) (fun e => by
        have e1 := Option.some.inj e
        rcases hk with hk | hk
        · rcases hk with hk | hk | hk <;> omega
        · omega)).trans (((Below.refl W.heap.size W).alloc (Nat.le_refl _) _).block k hlt)⟩
      obtain ⟨X, hX⟩ : ∃ X, X = W.heap.size := ⟨_, rfl⟩
      rw [← hX] at y0 y1 y2 y3 y4 ⊢
      have hXl : X < W2.heap.size := by omega
      have hR2l : R + 2 < W2.heap.size := by omega
      clear hI hI2 hg2 hgA hc hX
      by_cases hp : xr = row ∧ xc = col
      · rw [if_pos hp] at HG
        have e1 : xr.toList = row.toList := by rw [hp.1]
        have e2 : xc.toList = col.toList := by rw [hp.2]
        clear hp
        gi_wp2_with fail
        gi_region_with ((refine ⟨trivial, ?_⟩; gi_at_call 26; refine (CallsIn.inRound lc (callsIn_wide.2 (KO.out _))).mono ?_; rintro e w3 ⟨rfl, hb3⟩; have v0' := (hb3.cell (p := ⟨R + 2, 0, none⟩) hR2l).trans v0; have v1' := (hb3.cell (p := ⟨R + 2, 1, none⟩) hR2l).trans v1; have Hb3 : Hid (Below W2.heap.size W2 w3) := Lib.hid ((Below.refl _ _).drew.trans hb3); have y0' := (hb3.cell (p := ⟨X, 0, none⟩) hXl).trans y0; have y1' := (hb3.cell (p := ⟨X, 1, none⟩) hXl).trans y1; have y2' := (hb3.cell (p := ⟨X, 2, none⟩) hXl).trans y2; have y3' := (hb3.cell (p := ⟨X, 3, none⟩) hXl).trans y3; have y4' := (hb3.cell (p := ⟨X, 4, none⟩) hXl).trans y4; clear hb3))
        all_goals have hI3 := HI.out.below hR2 Hb3.out
        all_goals have q0 := hI3.a0
        all_goals have q1 := hI3.a1
        all_goals have q2 := hI3.a2
        all_goals have q3 := hI3.a3
        all_goals have q4 := hI3.a4
        all_goals have q5 := hI3.a5
        all_goals have qf := hI3.fz
        all_goals have qb := hI3.fb
        all_goals have HL := Lib.hid (hI3.lay ⟨xr, xc, xv, xg, xl⟩ true)
        all_goals clear hI3
        all_goals gi_wp2_with fail
        all_goals have hk1 := kpc_lay (F := fromF w.heap.size w1.heap.size (w1.heap.size + 1)) (B := w2.heap.size) (R := R) Hb3.out (fun k hk => by
          have := HRw.out
          rcases hk with (hk | hk | hk) | hk <;> omega) (.string xr) (.string xc) (.int .u64 xv) (.bool xg) (.string xl) (.bool true)
        all_goals exact ⟨⟨hk1, HK.out.trans (hk1.later (by omega))⟩, .inl ⟨rfl, _, HG.out, HL.out⟩⟩
      · rw [if_neg hp] at HG
        have hp2 : (¬ xr.toList = row.toList) ∨ (xr = row ∧ ¬ xc.toList = col.toList) := by
          by_cases h1 : xr = row
          · exact .inr ⟨h1, fun h2 => hp ⟨h1, toList_inj.1 h2⟩⟩
          · exact .inl (ne_of h1).2
        clear hp
        rcases hp2 with h1 | ⟨h1, h2⟩
        · gi_wp2_with fail
          gi_region_with ((refine ⟨trivial, ?_⟩; gi_at_call 26; refine (CallsIn.inRound lc (callsIn_wide.2 (KO.out _))).mono ?_; rintro e w3 ⟨rfl, hb3⟩; have v0' := (hb3.cell (p := ⟨R + 2, 0, none⟩) hR2l).trans v0; have v1' := (hb3.cell (p := ⟨R + 2, 1, none⟩) hR2l).trans v1; have Hb3 : Hid (Below W2.heap.size W2 w3) := Lib.hid ((Below.refl _ _).drew.trans hb3); have y0' := (hb3.cell (p := ⟨X, 0, none⟩) hXl).trans y0; have y1' := (hb3.cell (p := ⟨X, 1, none⟩) hXl).trans y1; have y2' := (hb3.cell (p := ⟨X, 2, none⟩) hXl).trans y2; have y3' := (hb3.cell (p := ⟨X, 3, none⟩) hXl).trans y3; have y4' := (hb3.cell (p := ⟨X, 4, none⟩) hXl).trans y4; clear hb3))
          all_goals have hI3 := Lib.hid (HI.out.below hR2 Hb3.out)
          all_goals gi_wp2_with fail
          all_goals exact ⟨⟨KpC.below Hb3.out, HK.out.trans ((KpC.below Hb3.out))⟩, .inr ⟨rfl, HG.out, hI3.out⟩⟩
        · have e1 : xr.toList = row.toList := by rw [h1]
          clear h1
          gi_wp2_with fail
          gi_region_with ((refine ⟨trivial, ?_⟩; gi_at_call 26; refine (CallsIn.inRound lc (callsIn_wide.2 (KO.out _))).mono ?_; rintro e w3 ⟨rfl, hb3⟩; have v0' := (hb3.cell (p := ⟨R + 2, 0, none⟩) hR2l).trans v0; have v1' := (hb3.cell (p := ⟨R + 2, 1, none⟩) hR2l).trans v1; have Hb3 : Hid (Below W2.heap.size W2 w3) := Lib.hid ((Below.refl _ _).drew.trans hb3); have y0' := (hb3.cell (p := ⟨X, 0, none⟩) hXl).trans y0; have y1' := (hb3.cell (p := ⟨X, 1, none⟩) hXl).trans y1; have y2' := (hb3.cell (p := ⟨X, 2, none⟩) hXl).trans y2; have y3' := (hb3.cell (p := ⟨X, 3, none⟩) hXl).trans y3; have y4' := (hb3.cell (p := ⟨X, 4, none⟩) hXl).trans y4; clear hb3))
          all_goals have hI3 := Lib.hid (HI.out.below hR2 Hb3.out)
          all_goals gi_wp2_with fail
          all_goals exact ⟨⟨KpC.below Hb3.out, HK.out.trans ((KpC.below Hb3.out))⟩, .inr ⟨rfl, HG.out, hI3.out⟩⟩
    case done =>
      rintro D W hD ⟨h0, hI⟩ hd
      have hnone : G = none := by
        rw [HGG.out]
        unfold headP
        rw [show L[0]? = none from List.getElem?_eq_none (by omega)]
      have HN := Lib.hid hnone
      have x0 := hI.a0
      have x1 := hI.a1
      have x2 := hI.a2
      have x3 := hI.a3
      have x4 := hI.a4
      have x5 := hI.a5
      have xf := hI.fz
      have xb := hI.fb
      have HL := Lib.hid (hI.lay zeroC false)
      simp only [zeroC] at x0 x1 x2 x3 x4
      have HD := Lib.hid hd
      have hDl := (Array.getElem?_eq_some_iff.1 hd).1
      clear hI hd hnone h0
      go_wp2_with fail
      clear x0 x1 x2 x3 x4 x5 xf xb
      have hkD := ((kpc_lay (F := fun _ => False) (B := w2.heap.size) (R := R) (Below.refl W.heap.size W) (fun k hk => by rcases hk with hk | hk; exact hk.elim; omega) (.string ⟨#[]⟩) (.string ⟨#[]⟩) (.int .u64 0) (.bool false) (.string ⟨#[]⟩) (.bool false)).same D (.inr hD) hDl).trans HD.out
      have hI := HL.out
      simp only [zeroC] at hI
      obtain ⟨⟨a0, a1, a2, a3, a4, a5⟩, hbl⟩ := hI.fin hkD (by omega)
      simp only at a0 a1 a2 a3 a4
      obtain ⟨WL, hWL⟩ : ∃ V : World, V = ((((((W.setCell ⟨R, 0, none⟩ (.string ⟨#[]⟩)).setCell ⟨R, 1, none⟩ (.string ⟨#[]⟩)).setCell ⟨R, 2, none⟩ (.int .u64 0)).setCell ⟨R, 3, none⟩ (.bool false)).setCell ⟨R, 4, none⟩ (.string ⟨#[]⟩)).setCell ⟨R + 1, 0, none⟩ (.bool false)) := ⟨_, rfl⟩
      rw [← hWL] at a0 a1 a2 a3 a4 a5 hbl hkD ⊢
      clear hWL hI
      refine postM_ret1 (v := .tuple #[.agg #[.string ⟨#[]⟩, .string ⟨#[]⟩, .int .u64 0, .bool false, .string ⟨#[]⟩], .bool false]) rfl hkD ?_ ⟨by rw [HN.out]; rfl, by rw [← HRw.out]; exact hbl⟩
      simp [results, Try.results12, go_sem, a0, a1, a2, a3, a4, a5]
    case stop =>
      rintro D cd k W hD hk2 (⟨rfl, x, hG, hI⟩ | ⟨rfl, hG, hI⟩) hd
      · obtain ⟨⟨a0, a1, a2, a3, a4, a5⟩, hbl⟩ := hI.fin hd (by omega)
        have HN := Lib.hid hG
        obtain ⟨xr, xc, xv, xg, xl⟩ := x
        simp only at a0 a1 a2 a3 a4
        refine wpIn_wide.2 ?_
        clear hG hI
        go_wp2_with fail
        refine postM_ret1 (v := .tuple #[.agg #[.string xr, .string xc, .int .u64 xv, .bool xg, .string xl], .bool true]) rfl hd ?_ ⟨by rw [HN.out]; rfl, by rw [← HRw.out]; exact hbl⟩
        simp [results, Try.results12, go_sem, a0, a1, a2, a3, a4, a5]
      · have hnone := hG
        clear hG
        have HN := Lib.hid hnone
        have x0 := hI.a0
        have x1 := hI.a1
        have x2 := hI.a2
        have x3 := hI.a3
        have x4 := hI.a4
        have x5 := hI.a5
        have xf := hI.fz
        have xb := hI.fb
        have HL := Lib.hid (hI.lay zeroC false)
        simp only [zeroC] at x0 x1 x2 x3 x4
        have HD := Lib.hid hd
        have hDl := (Array.getElem?_eq_some_iff.1 hd).1
        clear hI hd hnone
        refine wpIn_wide.2 ?_
        go_wp2_with fail
        clear x0 x1 x2 x3 x4 x5 xf xb
        have hkD := ((kpc_lay (F := fun _ => False) (B := w2.heap.size) (R := R) (Below.refl W.heap.size W) (fun k hk => by rcases hk with hk | hk; exact hk.elim; omega) (.string ⟨#[]⟩) (.string ⟨#[]⟩) (.int .u64 0) (.bool false) (.string ⟨#[]⟩) (.bool false)).same D (.inr hD) hDl).trans HD.out
        have hI := HL.out
        simp only [zeroC] at hI
        obtain ⟨⟨a0, a1, a2, a3, a4, a5⟩, hbl⟩ := hI.fin hkD (by omega)
        simp only at a0 a1 a2 a3 a4
        obtain ⟨WL, hWL⟩ : ∃ V : World, V = ((((((W.setCell ⟨R, 0, none⟩ (.string ⟨#[]⟩)).setCell ⟨R, 1, none⟩ (.string ⟨#[]⟩)).setCell ⟨R, 2, none⟩ (.int .u64 0)).setCell ⟨R, 3, none⟩ (.bool false)).setCell ⟨R, 4, none⟩ (.string ⟨#[]⟩)).setCell ⟨R + 1, 0, none⟩ (.bool false)) := ⟨_, rfl⟩
        rw [← hWL] at a0 a1 a2 a3 a4 a5 hbl hkD ⊢
        clear hWL hI
        refine postM_ret1 (v := .tuple #[.agg #[.string ⟨#[]⟩, .string ⟨#[]⟩, .int .u64 0, .bool false, .string ⟨#[]⟩], .bool false]) rfl hkD ?_ ⟨by rw [HN.out]; rfl, by rw [← HRw.out]; exact hbl⟩
        simp [results, Try.results12, go_sem, a0, a1, a2, a3, a4, a5]
end Go.Proofs.Ytihglmicgccgiaa
