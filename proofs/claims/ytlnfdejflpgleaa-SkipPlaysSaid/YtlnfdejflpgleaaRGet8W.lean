/-
  acreageref08.Get, From, Counts.
-/
import Derived.Test.YtlnfdejflpgleaaRPut8W
import Derived.Test.YtlnfdejflpgleaaHeightsW
namespace Go.Proofs.Ytlnfdejflpgleaa
open Go.RowKit

def isP (row col : ByteArray) (c : CellA) : Bool := decide (c.row.toList = row.toList) && decide (c.col.toList = col.toList)
/-- what the document's Get finds -/
def getD8 (row col : ByteArray) (l : List CH) : Option CellA := (l.map Prod.fst).find? (isP row col)
def getV8 : Option CellA → Value
  | none => .tuple #[.agg #[.string ⟨#[]⟩, .string ⟨#[]⟩, .int .u64 0, .bool false, .string ⟨#[]⟩], .bool false]
  | some c => .tuple #[.agg #[.string c.row, .string c.col, .int .u64 c.ver, .bool c.gone, .string c.val], .bool true]
theorem find_missed {α : Type} {q : α → Bool} {l : List α} {k : Nat} (h : ∀ x ∈ l.take k, q x = false) : (∀ x, l[k]? = some x → q x = true → l.find? q = some x) ∧ (l.length ≤ k → l.find? q = none) := by
  have h1 : (l.take k).find? q = none := by
    rw [List.find?_eq_none]; intro x hx; rw [h x hx]; exact Bool.false_ne_true
  refine ⟨fun x hx hq => ?_, fun hk => ?_⟩
  · have hi := (List.getElem?_eq_some_iff.1 hx).1
    have e : l = l.take k ++ (x :: l.drop (k + 1)) := by rw [← (List.getElem?_eq_some_iff.1 hx).2, ← List.drop_eq_getElem_cons hi, List.take_append_drop]
    rw [e, List.find?_append, h1, List.find?_cons_of_pos (by rw [hq])]; rfl
  · rw [List.take_of_length_le hk] at h1; exact h1
theorem missed_succ {α : Type} {q : α → Bool} {l : List α} {k : Nat} {x : α} (h : ∀ x ∈ l.take k, q x = false) (hx : l[k]? = some x) (hq : q x = false) : ∀ x ∈ l.take (k + 1), q x = false := fun y hy => by
  rw [List.take_add_one, hx] at hy
  rcases List.mem_append.1 hy with hy | hy
  · exact h y hy
  · simp at hy; subst hy; exact hq
set_option maxRecDepth 100000 in
set_option maxHeartbeats 2000000 in
theorem rget8_any (row col : ByteArray) (l : List CH) (v : Value) (w : World) (hm : LM w v l) :
    Calls Try.prog 16 #[v, .string row, .string col] w fun e w' => e = .returned (getV8 (getD8 row col l)) ∧ Below w.heap.size w w' := by
  obtain ⟨P, hP⟩ : ∃ P : Ending → World → Prop, P = fun e w' => e = .returned (getV8 (getD8 row col l)) ∧ Below w.heap.size w w' := ⟨_, rfl⟩
  rw [← hP]
  have HP := Lib.hid hP
  clear hP
  obtain ⟨ao, cap, ao2, cap2, rfl, hC, _⟩ := hm.ex
  obtain ⟨n, hn⟩ : ∃ n, n = l.length := ⟨_, rfl⟩
  have Hn := Lib.hid hn
  rw [← hn] at hC ⊢
  have HC := Lib.hid hC
  have hnf := Arr.fits hC
  have hnm := Arr.max hC
  unfold maxLen at hnm
  clear hm hC hn
  go_enter Try.func16, Try.ntmps16
  go_wp2_with fail
  obtain ⟨W0, hW0⟩ : ∃ W : World, W = (w.alloc (.cells #[.slice ao n cap, .slice ao2 n cap2] 41)).alloc (.cells #[.string ⟨#[]⟩, .string ⟨#[]⟩, .int .u64 0, .bool false, .string ⟨#[]⟩] 26) := ⟨_, rfl⟩
  obtain ⟨r, hr⟩ : ∃ r, r = w.heap.size := ⟨_, rfl⟩
  obtain ⟨z, hz⟩ : ∃ z, z = w.heap.size + 1 := ⟨_, rfl⟩
  have r0 : W0.cell? ⟨r, 0, none⟩ = some (.slice ao n cap) := by rw [hW0, hr]; go_simp
  have x0 : W0.cell? ⟨z, 0, none⟩ = some (.string ⟨#[]⟩) := by rw [hW0, hz]; go_simp
  have x1 : W0.cell? ⟨z, 1, none⟩ = some (.string ⟨#[]⟩) := by rw [hW0, hz]; go_simp
  have x2 : W0.cell? ⟨z, 2, none⟩ = some (.int .u64 0) := by rw [hW0, hz]; go_simp
  have x3 : W0.cell? ⟨z, 3, none⟩ = some (.bool false) := by rw [hW0, hz]; go_simp
  have x4 : W0.cell? ⟨z, 4, none⟩ = some (.string ⟨#[]⟩) := by rw [hW0, hz]; go_simp
  have y0 : W0.frozen? ⟨z, 0, none⟩ = false := by rw [hW0, hz]; go_simp
  have y1 : W0.frozen? ⟨z, 1, none⟩ = false := by rw [hW0, hz]; go_simp
  have y2 : W0.frozen? ⟨z, 2, none⟩ = false := by rw [hW0, hz]; go_simp
  have y3 : W0.frozen? ⟨z, 3, none⟩ = false := by rw [hW0, hz]; go_simp
  have y4 : W0.frozen? ⟨z, 4, none⟩ = false := by rw [hW0, hz]; go_simp
  have hb0 : Below w.heap.size w W0 := by rw [hW0]; go_grown
  have HC0 := Lib.hid (Arr.below HC.out hb0)
  have HB0 := Lib.hid hb0
  have hzw : w.heap.size ≤ z := by omega
  have lr : r < W0.heap.size := by rw [hW0, hr]; go_size
  have lz : z < W0.heap.size := by rw [hW0, hz]; go_size
  rw [← hW0, ← hz, ← hr]
  clear hW0 hr hz hb0 HC
  go_loopw [8] (fun i wr => ∃ k : Nat, k ≤ n ∧ i = .int .i64 k ∧ Hid (∀ x ∈ (l.map Prod.fst).take k, isP row col x = false) ∧ W0 = wr) (fun i _ => n - (intOf i).toNat)
  case atStart => exact ⟨0, by omega, rfl, Lib.hid (fun x h => by simp at h), rfl⟩
  case round =>
    obtain ⟨k, hk, rfl, hM, rfl⟩ := hrel
    by_cases hlt : k < n
    · obtain ⟨x, hx⟩ : ∃ x, (l.map Prod.fst)[k]? = some x := ⟨_, List.getElem?_eq_getElem (by rw [List.length_map, ← Hn.out]; omega)⟩
      obtain ⟨g, off, rfl, hg, ⟨v0, v1, v2, v3, v4⟩⟩ := Cells.at_ HC0.out hx
      have HX1 := Lib.hid ((find_missed hM.out).1 x hx)
      have HX2 := Lib.hid (missed_succ hM.out hx)
      have Hisc : Hid (isP row col x = (decide (x.row.toList = row.toList) && decide (x.col.toList = col.toList))) := Lib.hid rfl
      have Hout : Hid ((l.map Prod.fst).find? (isP row col) = some x → ∀ w', Below w.heap.size w w' → P (.returned (.tuple #[.agg #[.string x.row, .string x.col, .int .u64 x.ver, .bool x.gone, .string x.val], .bool true])) w') := Lib.hid fun h w' hb => by
        rw [HP.out, getD8, h]; exact ⟨rfl, hb⟩
      obtain ⟨xr, xc, xv, xg, xl⟩ := x
      simp only at v0 v1 v2 v3 v4 Hisc Hout
      clear hx hM
      by_cases hrr : xr = row
      · subst hrr
        by_cases hcc : xc = col
        · subst hcc
          have HN := Lib.hid (HX1.out (by rw [Hisc.out]; simp))
          clear HX1 HX2 Hisc
          go_wp2_with (first | (with_reducible refine bodyPost_ret (v := .tuple #[.agg #[.string xr, .string xc, .int .u64 xv, .bool xg, .string xl], .bool true]) ?hr ?hd ?hR))
          case hd => rfl
          case hR => exact Hout.out HN.out _ (by have hbb := HB0.out; go_grown)
          case hr => simp [results, Try.results16, go_sem, *]
        · have hcc1 := ne_of hcc
          have HN := Lib.hid (HX2.out (by rw [Hisc.out]; simp [hcc1.2]))
          clear HX1 HX2 Hisc
          go_wp2_with fail
          exact ⟨⟨k + 1, by omega, by go_num, HN, trivial⟩, by simp [intOf]; omega⟩
      · have hrr1 := ne_of hrr
        have HN := Lib.hid (HX2.out (by rw [Hisc.out]; simp [hrr1.2]))
        clear HX1 HX2 Hisc
        go_wp2_with fail
        exact ⟨⟨k + 1, by omega, by go_num, HN, trivial⟩, by simp [intOf]; omega⟩
    · have Hse := Lib.hid ((find_missed hM.out).2 (by rw [List.length_map, ← Hn.out]; omega))
      clear hM
      go_wp2_with (first | (with_reducible refine bodyPost_ret (v := .tuple #[.agg #[.string ⟨#[]⟩, .string ⟨#[]⟩, .int .u64 0, .bool false, .string ⟨#[]⟩], .bool false]) ?hr ?hd ?hR))
      case hd => rfl
      case hR => rw [HP.out, getD8, Hse.out]; exact ⟨rfl, by have hbb := HB0.out; go_grown⟩
      case hr => simp [results, Try.results16, go_sem, *]
/-- what the document's From tells -/
def fromD8 (row col : ByteArray) (l : List CH) : List CellA := (l.map Prod.fst).dropWhile (aheadP row col)
theorem dropWhile_at {α : Type} {q : α → Bool} {l : List α} {k : Nat} (h : ∀ x ∈ l.take k, q x = true) : (∀ x, l[k]? = some x → q x = false → l.dropWhile q = l.drop k) ∧ (l.length ≤ k → l.dropWhile q = []) := by
  induction l generalizing k with
  | nil => exact ⟨fun x hx => by simp at hx, fun _ => rfl⟩
  | cons y r ih =>
    cases k with
    | zero => exact ⟨fun x hx hq => by simp at hx; subst hx; rw [List.dropWhile_cons_of_neg (by rw [hq]; exact Bool.false_ne_true)]; rfl, fun h0 => by simp at h0⟩
    | succ k =>
      have hy : q y = true := h y (by simp)
      obtain ⟨i1, i2⟩ := ih (k := k) (fun x hx => h x (by simp [hx]))
      refine ⟨fun x hx hq => ?_, fun hk => ?_⟩
      · rw [List.dropWhile_cons_of_pos hy, i1 x (by simpa using hx) hq]; rfl
      · rw [List.dropWhile_cons_of_pos hy, i2 (by simpa using hk)]
theorem all_succ {α : Type} {q : α → Bool} {l : List α} {k : Nat} {x : α} (h : ∀ x ∈ l.take k, q x = true) (hx : l[k]? = some x) (hq : q x = true) : ∀ x ∈ l.take (k + 1), q x = true := fun y hy => by
  rw [List.take_add_one, hx] at hy
  rcases List.mem_append.1 hy with hy | hy
  · exact h y hy
  · simp at hy; subst hy; exact hq
theorem aheadP_bits (row col : ByteArray) (c : CellA) : aheadP row col c = (Op.bytesLess c.row.toList row.toList || ((c.row.toList == row.toList) && Op.bytesLess c.col.toList col.toList)) := by
  rw [less_eq, less_eq, aheadP, show (c.row.toList == row.toList) = decide (c.row.toList = row.toList) from by by_cases h : c.row.toList = row.toList <;> simp [h]]
set_option maxRecDepth 100000 in
set_option maxHeartbeats 2000000 in
theorem rfrom8_any (row col : ByteArray) (l : List CH) (v : Value) (w : World) (hm : LM w v l) :
    Calls Try.prog 19 #[v, .string row, .string col] w fun e w' => ∃ ao m cap, e = .returned (.slice ao m cap) ∧ Cells w' ao m cap (fromD8 row col l) ∧ Below w.heap.size w w' := by
  obtain ⟨P, hP⟩ : ∃ P : Ending → World → Prop, P = fun e w' => ∃ ao m cap, e = .returned (.slice ao m cap) ∧ Cells w' ao m cap (fromD8 row col l) ∧ Below w.heap.size w w' := ⟨_, rfl⟩
  rw [← hP]
  have HP := Lib.hid hP
  clear hP
  obtain ⟨ao, cap, ao2, cap2, rfl, hC, _⟩ := hm.ex
  obtain ⟨n, hn⟩ : ∃ n, n = l.length := ⟨_, rfl⟩
  have Hn := Lib.hid hn
  rw [← hn] at hC ⊢
  have HC := Lib.hid hC
  have hnf := Arr.fits hC
  have hnm := Arr.max hC
  unfold maxLen at hnm
  clear hm hC hn
  go_enter Try.func19, Try.ntmps19
  go_wp2_with fail
  obtain ⟨W0, hW0⟩ : ∃ W : World, W = w.alloc (.cells #[.slice ao n cap, .slice ao2 n cap2] 41) := ⟨_, rfl⟩
  obtain ⟨r, hr⟩ : ∃ r, r = w.heap.size := ⟨_, rfl⟩
  have r0 : W0.cell? ⟨r, 0, none⟩ = some (.slice ao n cap) := by rw [hW0, hr]; go_simp
  have hb0 : Below w.heap.size w W0 := by rw [hW0]; go_grown
  have HC0 := Lib.hid (Arr.below HC.out hb0)
  have HB0 := Lib.hid hb0
  have lr : r < W0.heap.size := by rw [hW0, hr]; go_size
  rw [← hW0, ← hr]
  clear hW0 hr hb0 HC
  go_loopw [7] (fun i wr => ∃ k : Nat, k ≤ n ∧ i = .int .i64 k ∧ Hid (∀ x ∈ (l.map Prod.fst).take k, aheadP row col x = true) ∧ Hid (Below W0.heap.size W0 wr)) (fun i _ => n - (intOf i).toNat)
  case atStart => exact ⟨0, by omega, rfl, Lib.hid (fun x h => by simp at h), Lib.hid (Below.refl _ _)⟩
  case round =>
    obtain ⟨k, hk, rfl, hM, hD⟩ := hrel
    have q0 := (hD.out.cell (p := ⟨r, 0, none⟩) lr).trans r0
    have hzr := hD.out.size
    have lrr : r < wr.heap.size := Nat.lt_of_lt_of_le lr hzr
    by_cases hlt : k < n
    · obtain ⟨x, hx⟩ : ∃ x, (l.map Prod.fst)[k]? = some x := ⟨_, List.getElem?_eq_getElem (by rw [List.length_map, ← Hn.out]; omega)⟩
      obtain ⟨g, off, rfl, hg, ⟨v0, v1, v2, v3, v4⟩⟩ := Cells.at_ HC0.out hx
      obtain ⟨k0, k0f⟩ := keep_below hD.out g hg
      have hgr : g < wr.heap.size := by omega
      have HX1 := Lib.hid ((dropWhile_at hM.out).1 x hx)
      have HX2 := Lib.hid (all_succ hM.out hx)
      have Hah := Lib.hid (aheadP_bits row col x)
      obtain ⟨xr, xc, xv, xg, xl⟩ := x
      simp only at v0 v1 v2 v3 v4 Hah
      have hgn : ¬ g = wr.heap.size := by omega
      have hrn : ¬ r = wr.heap.size := by omega
      have hkc : ¬ cap = k := by omega
      clear hx hM hg
      obtain ⟨b1, g1⟩ : ∃ b, Op.bytesLess xr.toList row.toList = b := ⟨_, rfl⟩
      obtain ⟨b2, g2⟩ : ∃ b, (xr.toList == row.toList) = b := ⟨_, rfl⟩
      obtain ⟨b3, g3⟩ : ∃ b, Op.bytesLess xc.toList col.toList = b := ⟨_, rfl⟩
      rw [g1, g2, g3] at Hah
      cases b1
      · cases b2
        · have HN := Lib.hid (HX1.out (by rw [Hah.out]; rfl))
          have HS := Lib.hid (arr_drop8 (Arr.below HC0.out hD.out) k (by omega) rfl)
          go_wp2_with fail
          rw [HP.out]
          refine ⟨_, _, _, rfl, ?_, ?_⟩
          · unfold Cells; rw [fromD8, HN.out, List.map_drop]; exact Arr.below HS.out ((Below.refl _ _).alloc (Nat.le_refl _) _)
          · have hbb := HB0.out.trans (hD.out.mono HB0.out.size); have := hbb.size; go_grown
        · have hg2 : ¬ xr.toList ≠ row.toList := by simpa using g2
          cases b3
          · have HN := Lib.hid (HX1.out (by rw [Hah.out]; rfl))
            have HS := Lib.hid (arr_drop8 (Arr.below HC0.out hD.out) k (by omega) rfl)
            go_wp2_with fail
            rw [HP.out]
            refine ⟨_, _, _, rfl, ?_, ?_⟩
            · unfold Cells; rw [fromD8, HN.out, List.map_drop]; exact Arr.below HS.out ((Below.refl _ _).alloc (Nat.le_refl _) _)
            · have hbb := HB0.out.trans (hD.out.mono HB0.out.size); have := hbb.size; go_grown
          · have HN := Lib.hid (HX2.out (by rw [Hah.out]; rfl))
            go_wp2_with fail
            exact ⟨⟨k + 1, by omega, by go_num, HN, Lib.hid (hD.out.alloc hzr _)⟩, by simp [intOf]; omega⟩
      · have HN := Lib.hid (HX2.out (by rw [Hah.out]; rfl))
        cases b2
        · go_wp2_with fail
          exact ⟨⟨k + 1, by omega, by go_num, HN, Lib.hid (hD.out.alloc hzr _)⟩, by simp [intOf]; omega⟩
        · exfalso
          have e : xr.toList = row.toList := by simpa using g2
          rw [e, less_eq] at g1
          simp at g1
          exact absurd g1 (by grind)
    · have Hse := Lib.hid ((dropWhile_at hM.out).2 (by rw [List.length_map, ← Hn.out]; omega))
      clear hM
      go_wp2_with fail
      rw [HP.out]
      exact ⟨none, 0, 0, rfl, by rw [fromD8, Hse.out]; exact Arr.nil _ _, HB0.out.trans (hD.out.mono HB0.out.size)⟩
end Go.Proofs.Ytlnfdejflpgleaa
