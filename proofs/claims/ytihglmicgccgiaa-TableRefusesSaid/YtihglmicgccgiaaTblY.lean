/-
  Tables: single cells build; a table's blocks are one; what Write answers for cells that build alone.
-/
import Derived.Test.YtihglmicgccgiaaTblG
import Derived.Test.YtihglmicgccgiaaReadBW
namespace Go.Proofs.Ytihglmicgccgiaa
open Go.RowKit Go.Shelf

theorem IsT.uniq {s : List UInt8} {bss css : List (List CellA)} (h : IsT s bss) (g : IsT s css) (hs : s.length ≤ 80000) : bss = css := by
  obtain ⟨h1, h2⟩ := h.small hs
  have hf := bodiesL_frames h.good h1 h2
  rw [← tableL_take, ← h.eq] at hf
  have hl := (g.scan hs hf).2.1
  have hb := g.blocks hs hf (css := bss) (k := bss.length) rfl (by simp [bodiesL]) (fun j c hj => by
    obtain ⟨_, _, h3⟩ := h.scan hs hf
    exact ⟨_, h3 j c hj, (h.good.each c (List.mem_of_getElem? hj)).2⟩)
  rw [hb, List.take_of_length_le]
  simp [bodiesL] at hl
  omega
theorem tlT {a : Array UInt8} : (⟨a⟩ : ByteArray).toList = a.toList := Lib.toList_data _
theorem numL_len3 (n : Nat) (h : n < 2097152) : (numL n).length ≤ 3 := by
  have := numL_length 2 n (by omega)
  exact this
theorem layL_one {c : CellA} (h : cellL c = true) : (layL [] c).length ≤ c.val.size + 70 := by
  obtain ⟨h1, h2, h3, h4, h5⟩ := cellL_sizesB h
  have n1 := numL_len3 c.val.size (by omega)
  have n2 := numL_length 5 c.ver.toNat (by omega)
  obtain ⟨t1, t2⟩ := txtL_cell h
  have e : layL [] c = numL 0 ++ txtL c.row.toList ++ txtL c.col.toList ++ numW c.ver ++ [if c.gone then 1 else 0] ++ txtL c.val.toList := by
    simp [layL, alikeL]
  rw [e]
  simp only [List.length_append, txtL, size_list, numW, List.length_cons, List.length_nil] at t1 t2 ⊢
  have : (numL 0).length = 1 := by rw [numL_small (by omega)]; rfl
  omega
theorem wrong_one {c : CellA} (h : cellL c = true) : wrongB [c] = false := by
  refine wrongB_of fun k hk => ?_
  obtain rfl : k = 0 := by simpa using hk
  rw [wrongAt_zero (x := c) rfl, h]; rfl
theorem body_oneT (c : CellA) : bodyTo [c] 1 = layL [] c := by
  rw [bodyTo_succ (c := c) rfl, aheadB, if_pos rfl, bodyTo, List.nil_append, tlT]
theorem block_oneT (c : CellA) : (blockL [c]).length = (layL [] c).length + 4 := by
  rw [blockL, List.length_singleton, List.length_append, List.length_append, body_oneT, placesTo_len]
  simp [twoL]
theorem build_oneT {c : CellA} (h : cellL c = true) (hv : c.val.size ≤ 30000) : buildR [c] = (blockL [c], 0) := by
  have h1 := layL_one h
  have h2 := block_oneT c
  rw [buildR, if_neg (by rw [wrong_one h]; decide), List.length_singleton, body_oneT, if_neg (by omega), if_neg (by omega)]
theorem partsG_zero {most : Int} : ∀ (cs now : List CellA), (∀ c ∈ cs, (buildR [c]).2 = 0) → (partsG most now cs).1 = 0
  | [], now, _ => by rw [partsG]
  | c :: cs, now, h => by
    have hc := h c (List.mem_cons_self ..)
    have ih := fun now => partsG_zero (most := most) cs now (fun x hx => h x (List.mem_cons_of_mem _ hx))
    have pz : ∀ b r, r.1 = 0 → (pcons b r).1 = 0 := fun b r hr => by unfold pcons; rw [if_pos hr]
    rw [partsG]
    split
    · split
      · exact pz _ _ (ih _)
      · exact ih _
    · split
      · exact hc
      · split
        · exact pz _ _ (pz _ _ (ih _))
        · exact pz _ _ (ih _)
/-- Write of cells in order that build alone -/
theorem write_good {cs : List CellA} {most : Int} (h1 : 1 ≤ most) (h2 : most ≤ 32768) (hw : wrongB cs = false) (hb : ∀ c ∈ cs, (buildR [c]).2 = 0) : ∃ bss, partsG most [] cs = (0, bss) ∧ writeR cs most = (tableL bss, 0) ∧ IsT (tableL bss) bss ∧ bss.flatten = cs ∧ bss.length ≤ cs.length := by
  have h0 := partsG_zero (most := most) cs [] hb
  obtain ⟨g1, g2, g3⟩ := partsG_good most cs [] (.inl rfl) h0
  refine ⟨(partsG most [] cs).2, Prod.ext h0 rfl, ?_, ⟨g1, by rw [g2]; exact hw, rfl⟩, g2, by simpa using g3⟩
  unfold writeR
  rw [if_neg (by rw [hw]; rintro (h | h | h) <;> first | omega | cases h), if_neg (by rw [h0]; exact fun h => h rfl)]
/-- a table's bytes are few -/
theorem tableL_short {bss : List (List CellA)} (hg : GoodB bss) (h1 : bss.length ≤ 100) (h2 : bss.flatten.length ≤ 100) : (tableL bss).length ≤ (framesL bss).length + 8000 := by
  have h3 := indexTo_len hg (by omega) bss.length (Nat.le_refl _)
  have h4 := makeF_len (keysOf bss.flatten)
  have h5 := keysOf_len bss.flatten
  have h6 : (filterL bss).length ≤ 1 + 135 := by unfold filterL; rw [h4]; unfold makeZ; omega
  rw [tableL_len]
  unfold partL
  rw [List.length_append, List.length_append, frameB_len, frameB_len]
  unfold indexL
  omega
theorem aheadB_size {cs : List CellA} (h : ∀ c ∈ cs, cellL c = true) (k : Nat) : (aheadB cs k).toList.length ≤ 32 := by
  unfold aheadB
  split
  · rw [tlT]; decide
  · split
    · rename_i p hp
      rw [size_list]
      exact (cellL_sizesB (h p (List.mem_of_getElem? hp))).1
    · rw [tlT]; decide
theorem layL_any {a : List UInt8} (ha : a.length ≤ 32) {c : CellA} (h : cellL c = true) : (layL a c).length ≤ c.val.size + 70 := by
  obtain ⟨h1, h2, h3, h4, h5⟩ := cellL_sizesB h
  have n1 := numL_len3 c.val.size (by omega)
  have n2 := numL_length 5 c.ver.toNat (by omega)
  have hal := (alikeL_le a c.row.toList).1
  obtain ⟨t1, t2⟩ := txtL_cell h
  have e : layL a c = numL (alikeL a c.row.toList) ++ txtL (c.row.toList.drop (alikeL a c.row.toList)) ++ txtL c.col.toList ++ numW c.ver ++ [if c.gone then 1 else 0] ++ txtL c.val.toList := by
    simp [layL]
  have hd : (c.row.toList.drop (alikeL a c.row.toList)).length ≤ 32 := by rw [List.length_drop, size_list]; omega
  rw [e]
  simp only [List.length_append, txtL, size_list, numW, List.length_cons, List.length_nil] at t1 t2 ⊢
  have m1 : (numL (alikeL a c.row.toList)).length = 1 := by rw [numL_small (by omega)]; rfl
  have m2 : (numL (c.row.toList.drop (alikeL a c.row.toList)).length).length = 1 := by rw [numL_small (by omega)]; rfl
  omega
/-- a bound on a block's bytes, where no value is longer than v -/
theorem block_shortT {bs : List CellA} (h : ∀ c ∈ bs, cellL c = true) {v : Nat} (hv : ∀ c ∈ bs, c.val.size ≤ v) : (blockL bs).length ≤ (v + 72) * bs.length + 4 := by
  have hb : ∀ k, k ≤ bs.length → (bodyTo bs k).length ≤ (v + 70) * k := by
    intro k
    induction k with
    | zero => intro _; simp [bodyTo]
    | succ k ih =>
      intro hk
      have hc : bs[k]? = some bs[k] := List.getElem?_eq_getElem (by omega)
      have h1 := layL_any (aheadB_size h k) (h bs[k] (List.getElem_mem _))
      have h2 := hv bs[k] (List.getElem_mem _)
      rw [bodyTo_succ hc, List.length_append, Nat.mul_succ]
      have := ih (by omega)
      omega
  have h1 := hb bs.length (Nat.le_refl _)
  rw [blockL, List.length_append, List.length_append, placesTo_len]
  have e : (v + 72) * bs.length = (v + 70) * bs.length + 2 * bs.length := by rw [← Nat.add_mul]
  simp only [twoL, List.length_cons, List.length_nil]
  omega
theorem framesL_short : ∀ {bss : List (List CellA)}, GoodB bss → ∀ {v : Nat}, (∀ c ∈ bss.flatten, c.val.size ≤ v) → (framesL bss).length ≤ (v + 72) * bss.flatten.length + 12 * bss.length
  | [], _, _, _ => by simp [framesL]
  | bs :: bss, h, v, hv => by
    have hc := h.cells
    have ih := framesL_short (bss := bss) ⟨fun x hx => h.each x (List.mem_cons_of_mem _ hx)⟩ (v := v) (fun c hc => hv c (by rw [List.flatten_cons]; exact List.mem_append.2 (.inr hc)))
    have h1 := block_shortT (bs := bs) (fun c hcm => hc c (by rw [List.flatten_cons]; exact List.mem_append.2 (.inl hcm))) (v := v) (fun c hcm => hv c (by rw [List.flatten_cons]; exact List.mem_append.2 (.inl hcm)))
    have e : framesL (bs :: bss) = frameB (blockL bs) ++ framesL bss := by simp [framesL]
    rw [e, List.length_append, frameB_len, List.flatten_cons, List.length_append, List.length_cons, Nat.mul_add]
    omega
end Go.Proofs.Ytihglmicgccgiaa

/-
  The walk of acreagelaw11.works: three cells.
-/
namespace Go.Proofs.Ytihglmicgccgiaa
open Go.RowKit Go.Shelf

def wc1 : CellA := ⟨⟨#[97]⟩, ⟨#[120]⟩, 2, false, ⟨#[]⟩⟩
def wc2 : CellA := ⟨⟨#[97]⟩, ⟨#[120]⟩, 1, false, ⟨#[]⟩⟩
def wc3 : CellA := ⟨⟨#[98]⟩, ⟨#[120]⟩, 1, false, ⟨#[]⟩⟩
def wcs : List CellA := [wc1, wc2, wc3]
theorem wl1 : ([97] : List UInt8) < [98] := by decide
theorem wl2 : ¬ ([98] : List UInt8) < [97] := by decide
theorem wl3 : ([120] : List UInt8) < [121] := by decide
theorem wl4 : ¬ ([121] : List UInt8) < [120] := by decide
theorem wc_good : wrongB wcs = false := by
  simp [wrongB, wrongAt, wcs, wc1, wc2, wc3, cellL, storedL, cmpC, cmpL, cmpN, orI, tlT, List.range, List.range.loop, wl1, wl2]
theorem wc_cell : ∀ c ∈ wcs, cellL c = true ∧ c.val.size ≤ 30000 := by
  intro c hc
  simp only [wcs, List.mem_cons, List.not_mem_nil, or_false] at hc
  rcases hc with rfl | rfl | rfl
  all_goals exact ⟨by simp [wc1, wc2, wc3, cellL, storedL, tlT], by decide⟩
theorem wc_ok : ∀ c ∈ wcs, c.Ok := fun c hc => cellL_ok (wc_cell c hc).1
theorem wc_parts : partsG 1 [] wcs = (0, [[wc1], [wc2], [wc3]]) := by
  have hb : ∀ c ∈ wcs, (buildR ([] ++ [c])).2 = 0 ∧ (1 : Int) ≤ ((buildR ([] ++ [c])).1.length : Int) := by
    intro c hc
    obtain ⟨h1, h2⟩ := wc_cell c hc
    rw [List.nil_append, build_oneT h1 h2]
    have := block_oneT c
    exact ⟨rfl, by simp only; omega⟩
  obtain ⟨a1, a2⟩ := hb wc1 (by simp [wcs])
  obtain ⟨b1, b2⟩ := hb wc2 (by simp [wcs])
  obtain ⟨c1, c2⟩ := hb wc3 (by simp [wcs])
  unfold wcs
  rw [partsG_big a1 a2, partsG_big b1 b2, partsG_big c1 c2, partsG]
  simp [pcons]
theorem wc_get1 : getT ⟨#[97]⟩ ⟨#[120]⟩ wcs = some wc1 := by
  simp [getT, headP, toldT, wcs, wc1, wc2, wc3, aheadT, aheadL, tlT, wl1, wl2]
theorem wc_get2 : getT ⟨#[97]⟩ ⟨#[121]⟩ wcs = none := by
  simp [getT, headP, toldT, wcs, wc1, wc2, wc3, aheadT, aheadL, tlT, wl1, wl2, wl3]
theorem wc_table : writeR wcs 1 = (tableL [[wc1], [wc2], [wc3]], 0) ∧ IsT (tableL [[wc1], [wc2], [wc3]]) [[wc1], [wc2], [wc3]] ∧ (tableL [[wc1], [wc2], [wc3]]).length ≤ 80000 := by
  obtain ⟨bss, h1, h2, h3, h4, h5⟩ := write_good (cs := wcs) (most := 1) (by decide) (by decide) wc_good (fun c hc => by rw [build_oneT (wc_cell c hc).1 (wc_cell c hc).2])
  rw [wc_parts] at h1
  cases h1
  refine ⟨h2, h3, ?_⟩
  have k1 := tableL_short h3.good (by decide) (by decide)
  have k2 := framesL_short h3.good (v := 0) (fun c hc => by
    have : c ∈ wcs := hc
    simp only [wcs, List.mem_cons, List.not_mem_nil, or_false] at this
    rcases this with rfl | rfl | rfl <;> decide)
  have e1 : ([[wc1], [wc2], [wc3]] : List (List CellA)).flatten.length = 3 := rfl
  have e2 : ([[wc1], [wc2], [wc3]] : List (List CellA)).length = 3 := rfl
  rw [e1, e2] at k2
  omega
/-- Open of bytes that are a table's -/
theorem open_yes (s : ByteArray) (bss : List (List CellA)) (w : World) (h : IsT s.toList bss) (hs : s.size ≤ 80000) :
    Calls Try.prog 7 #[.string s] w fun e w' => ∃ p, e = .returned (.tuple #[.pointer (some ⟨p, 0, none⟩), .int .i64 0]) ∧ TableAt w' p bss ∧ w.heap.size ≤ p ∧ Below w.heap.size w w' :=
  (open_table s w hs).mono fun e w' ⟨hc, hb⟩ => by
    rcases hc with ⟨css, p, h1, he, ht, hp⟩ | ⟨hn, _⟩
    · obtain rfl := h.uniq h1 (by rw [size_list]; exact hs)
      exact ⟨p, he, ht, hp, hb⟩
    · exact absurd h (hn bss)
theorem open_no (s : ByteArray) (w : World) (h : ∀ bss, ¬ IsT s.toList bss) (hs : s.size ≤ 80000) :
    Calls Try.prog 7 #[.string s] w fun e w' => e = .returned (.tuple #[.pointer none, .int .i64 4]) ∧ Below w.heap.size w w' :=
  (open_table s w hs).mono fun e w' ⟨hc, hb⟩ => by
    rcases hc with ⟨css, p, h1, _⟩ | ⟨_, he⟩
    · exact absurd h1 (h css)
    · exact ⟨he, hb⟩
set_option maxRecDepth 100000 in
set_option maxHeartbeats 4000000 in
theorem works11_any (w : World) : Calls Try.prog 13 #[] w fun e w' => e = .returned (.bool true) ∧ Below w.heap.size w w' := by
  obtain ⟨t1, t2, t3⟩ := wc_table
  obtain ⟨s, hs⟩ : ∃ s, s = ofL (tableL [[wc1], [wc2], [wc3]]) := ⟨_, rfl⟩
  have hst : s.toList = tableL [[wc1], [wc2], [wc3]] := by rw [hs, ofL_toList]
  have hss : s.size ≤ 80000 := by rw [hs, ofL_size]; exact t3
  rw [← hst] at t2
  have KW := Lib.hid fun (ao : Option Addr) (cap : Nat) (W : World) (h : Cells W ao 3 cap wcs) => write_any ao 3 cap wcs 1 W h wc_ok (by decide) (by decide)
  rw [t1, ← hs] at KW
  have KOp := Lib.hid fun W => open_yes s _ W t2 hss
  have KG1 := Lib.hid fun (p : Nat) (W : World) (h : TableAt W p [[wc1], [wc2], [wc3]]) => get_table p _ ⟨#[97]⟩ ⟨#[120]⟩ W h t2.good t2.rise (by decide) (by decide) (by decide) (by decide)
  have KG2 := Lib.hid fun (p : Nat) (W : World) (h : TableAt W p [[wc1], [wc2], [wc3]]) => get_table p _ ⟨#[97]⟩ ⟨#[121]⟩ W h t2.good t2.rise (by decide) (by decide) (by decide) (by decide)
  rw [show ([[wc1], [wc2], [wc3]] : List (List CellA)).flatten = wcs from rfl, wc_get1] at KG1
  rw [show ([[wc1], [wc2], [wc3]] : List (List CellA)).flatten = wcs from rfl, wc_get2] at KG2
  have KL := Lib.hid fun (p : Nat) (W : World) (h : TableAt W p [[wc1], [wc2], [wc3]]) => len_table p _ W h t2.good t2.rise (by decide) (by decide)
  have KB := Lib.hid fun (p : Nat) (W : World) (h : TableAt W p [[wc1], [wc2], [wc3]]) => blocks_table p _ W h
  rw [show ([[wc1], [wc2], [wc3]] : List (List CellA)).flatten.length = 3 from rfl] at KL
  rw [show ([[wc1], [wc2], [wc3]] : List (List CellA)).length = 3 from rfl] at KB
  obtain ⟨B3, hB3⟩ : ∃ B, B = ([[wc1], [wc2], [wc3]] : List (List CellA)) := ⟨_, rfl⟩
  rw [← hB3] at KOp KG1 KG2 KL KB
  simp only [getVT, CellA.v, wc1, zeroC] at KG1 KG2
  clear t1 t2 t3 hs hst hss hB3
  go_enter Try.func13, Try.ntmps13
  go_wp2_with fail
  have hc0 := cells_new w 31 wcs _ 3 w.heap.size rfl rfl (by decide) rfl
  refine (KW.out _ 3 _ hc0).mono ?_
  rintro e w1 ⟨rfl, hb1⟩
  have HB1 : Hid (Below w.heap.size w w1) := Lib.hid (((Below.refl _ _).alloc (Nat.le_refl _) _).trans (hb1.mono (by rw [World.size_alloc]; omega)))
  clear hb1 hc0
  go_wp2_with fail
  refine (KOp.out w1).mono ?_
  rintro e w2 ⟨p, rfl, hT, hp, hb2⟩
  have HT := Lib.hid hT
  have HB2 := Lib.hid (HB1.out.trans (hb2.mono HB1.out.size))
  clear hT hb2 HB1
  go_wp2_with fail
  refine (KG1.out p w2 HT.out).mono ?_
  rintro e w3 ⟨rfl, hb3⟩
  have hz2 := HB2.out.size
  have hz3 := hb3.size
  have HT3 := Lib.hid (HT.out.below hb3)
  have HB3 := Lib.hid (HB2.out.trans (hb3.mono hz2))
  clear hb3 HB2 HT
  go_wp2_with fail
  obtain ⟨W4, hW4⟩ : ∃ V : World, V = w3.alloc (.cells #[.string ⟨#[97]⟩, .string ⟨#[120]⟩, .int .u64 2, .bool false, .string ⟨#[]⟩] 31) := ⟨_, rfl⟩
  have q2 : W4.cell? ⟨w3.heap.size, 2, none⟩ = some (.int .u64 2) := by rw [hW4]; go_simp
  have hA : Below w3.heap.size w3 W4 := by rw [hW4]; exact (Below.refl _ _).alloc (Nat.le_refl _) _
  have hq : w3.heap.size < W4.heap.size := by rw [hW4, World.size_alloc]; omega
  rw [← hW4]
  obtain ⟨X, hX⟩ : ∃ X, X = w3.heap.size := ⟨_, rfl⟩
  have HT4 := Lib.hid (HT3.out.below hA)
  have HB4 := Lib.hid (HB3.out.trans (hA.mono HB3.out.size))
  rw [← hX] at q2 hq ⊢
  clear hW4 hA HT3 HB3 hX
  refine (KG2.out p W4 HT4.out).mono ?_
  rintro e w5 ⟨rfl, hb5⟩
  have r2 := (hb5.cell (p := ⟨X, 2, none⟩) hq).trans q2
  have hz4 := HB4.out.size
  have HT5 := Lib.hid (HT4.out.below hb5)
  have HB5 := Lib.hid (HB4.out.trans (hb5.mono hz4))
  have hq5 : X < w5.heap.size := Nat.lt_of_lt_of_le hq hb5.size
  clear hb5 HT4 HB4 q2 hq
  go_wp2_with fail
  obtain ⟨W6, hW6⟩ : ∃ V : World, V = w5.alloc (.cells #[.string ⟨#[]⟩, .string ⟨#[]⟩, .int .u64 0, .bool false, .string ⟨#[]⟩] 31) := ⟨_, rfl⟩
  have hA : Below w5.heap.size w5 W6 := by rw [hW6]; exact (Below.refl _ _).alloc (Nat.le_refl _) _
  rw [← hW6]
  have HT6 := Lib.hid (HT5.out.below hA)
  have HB6 := Lib.hid (HB5.out.trans (hA.mono HB5.out.size))
  clear hW6 hA HT5 HB5
  refine (KL.out p W6 HT6.out).mono ?_
  rintro e w7 ⟨rfl, hb7⟩
  have hz6 := HB6.out.size
  have HT7 := Lib.hid (HT6.out.below hb7)
  have HB7 := Lib.hid (HB6.out.trans (hb7.mono hz6))
  clear hb7 HT6 HB6
  go_wp2_with fail
  refine (KB.out p w7 HT7.out).mono ?_
  rintro e w8 ⟨rfl, rfl⟩
  go_wp2_with fail
  go_returns
  exact ⟨rfl, HB7.out⟩
end Go.Proofs.Ytihglmicgccgiaa
