/-
  Tables: bytes that are cut, lengthened, or without their first: none's. The plain part of TableRefuses.
-/
import Derived.Test.YtihglmicgccgiaaTblZ
import Derived.Test.YtihglmicgccgiaaRSortW
namespace Go.Proofs.Ytihglmicgccgiaa
open Go.RowKit Go.Shelf

/-- frames with which the same bytes begin are the same, as far as both go -/
theorem frames_prefix : ∀ {bs cs : List (List UInt8)} {r q : List UInt8}, (∀ b ∈ bs, b.length ≤ 1048576) → (∀ b ∈ cs, b.length ≤ 1048576) → (bs.map frameB).flatten ++ r = (cs.map frameB).flatten ++ q → ∀ (i : Nat) b c, bs[i]? = some b → cs[i]? = some c → b = c
  | [], _, _, _, _, _, _, i, b, c, hb, _ => by cases hb
  | _ :: _, [], _, _, _, _, _, i, b, c, _, hc => by cases hc
  | x :: bs, y :: cs, r, q, h1, h2, h, i, b, c, hb, hc => by
    rw [List.map_cons, List.flatten_cons, List.append_assoc, List.map_cons, List.flatten_cons, List.append_assoc] at h
    have e1 := openF_frame (h1 x (List.mem_cons_self ..)) ((bs.map frameB).flatten ++ r)
    have e2 := openF_frame (h2 y (List.mem_cons_self ..)) ((cs.map frameB).flatten ++ q)
    rw [h, e2] at e1
    have e : y = x := by injection e1
    subst e
    match i, hb, hc with
    | 0, hb, hc => cases hb; cases hc; rfl
    | i + 1, hb, hc => exact frames_prefix (fun b hb => h1 b (List.mem_cons_of_mem _ hb)) (fun b hb => h2 b (List.mem_cons_of_mem _ hb)) (List.append_cancel_left h) i b c (by simpa using hb) (by simpa using hc)
theorem block_head {bs : List CellA} (hne : bs ≠ []) : ∃ t, blockL bs = 0 :: t := by
  obtain ⟨c, cs, rfl⟩ : ∃ c cs, bs = c :: cs := by cases bs with
    | nil => exact absurd rfl hne
    | cons c cs => exact ⟨c, cs, rfl⟩
  have h1 : bodyTo (c :: cs) 1 = layL [] c := by
    rw [bodyTo_succ (c := c) rfl, aheadB, if_pos rfl, bodyTo, List.nil_append, tlT]
  obtain ⟨r, hr⟩ := bodyTo_pre (c :: cs) (k := 1) (m := (c :: cs).length) (by simp)
  have h2 : ∃ t, layL [] c = 0 :: t := by
    unfold layL
    rw [alikeL_nil_left, numL_small (by omega)]
    exact ⟨_, rfl⟩
  obtain ⟨t, ht⟩ := h2
  unfold blockL
  rw [hr, h1, ht]
  exact ⟨_, rfl⟩
theorem numL_head {n : Nat} {t : List UInt8} (h : numL n = 0 :: t) : n = 0 := by
  by_cases hn : n < 128
  · rw [numL_small hn] at h
    have := congrArg UInt8.toNat (List.cons.inj h).1
    rw [UInt8.toNat_ofNat'] at this
    have z : (0 : UInt8).toNat = 0 := rfl
    rw [z] at this
    omega
  · rw [numL_big (by omega)] at h
    have := congrArg UInt8.toNat (List.cons.inj h).1
    rw [UInt8.toNat_ofNat'] at this
    have z : (0 : UInt8).toNat = 0 := rfl
    rw [z] at this
    omega
theorem indexTo_pre (bss : List (List CellA)) : ∀ k, ∃ t, indexTo bss k = numW (bss.length : Nat) ++ t
  | 0 => ⟨[], by rw [indexTo, List.append_nil]⟩
  | k + 1 => by
    obtain ⟨t, ht⟩ := indexTo_pre bss k
    rw [indexTo, ht, List.append_assoc]
    exact ⟨_, rfl⟩
/-- an index is no block -/
theorem index_block {bss : List (List CellA)} {bs : List CellA} (hne : bs ≠ []) (hb : BlockOf (blockL bs) bs) : indexL bss ≠ blockL bs := by
  intro h
  obtain ⟨t, ht⟩ := block_head hne
  obtain ⟨u, hu⟩ := indexTo_pre bss bss.length
  unfold indexL at h
  rw [hu, ht] at h
  have hp := numL_pos bss.length
  have e0 : numW (bss.length : Nat) = numL bss.length := by simp [numW]
  rw [e0] at h hu
  obtain ⟨x, y, hxy⟩ : ∃ x y, numL bss.length = x :: y := by
    cases hn : numL bss.length with
    | nil => rw [hn] at hp; simp at hp
    | cons x y => exact ⟨x, y, rfl⟩
  rw [hxy] at h
  have hx : x = 0 := (List.cons.inj h).1
  subst hx
  have h0 := numL_head hxy
  have hnil : bss = [] := List.length_eq_zero_iff.1 h0
  subst hnil
  have hl := congrArg List.length h
  rw [← ht, ← hxy] at hl
  have := (block_long hb hne).2
  have := List.length_pos_iff.2 hne
  have hu0 : u = [] := by
    have := congrArg List.length hu
    rw [List.length_append] at this
    simp only [List.length_nil, indexTo] at this
    rw [show numW ((0 : Nat) : Int) = numL 0 by simp [numW]] at this
    exact List.length_eq_zero_iff.1 (by omega)
  subst hu0
  rw [List.length_append] at hl
  simp only [List.length_nil] at hl
  rw [numL_small (by omega)] at hl
  simp at hl
  omega
theorem bodiesL_at {bss : List (List CellA)} {k : Nat} {b : List CellA} (h : bss[k]? = some b) : (bodiesL bss)[k]? = some (blockL b) := by
  have hlt := (List.getElem?_eq_some_iff.1 h).1
  unfold bodiesL
  rw [List.getElem?_append_left (by simpa using hlt), List.getElem?_map, h]
  rfl
theorem bodiesL_index (bss : List (List CellA)) : (bodiesL bss)[bss.length]? = some (indexL bss) := by
  unfold bodiesL
  rw [List.getElem?_append_right (by simp)]
  simp
/-- tables with which the same bytes begin are the same -/
theorem tables_prefix {bss css : List (List CellA)} (hb : GoodB bss) (hc : GoodB css) (b1 : bss.length ≤ 10000) (b2 : bss.flatten.length ≤ 32768) (c1 : css.length ≤ 10000) (c2 : css.flatten.length ≤ 32768) {l r q : List UInt8} (h1 : l = partL bss ++ r) (h2 : l = partL css ++ q) : bss = css := by
  have f1 := bodiesL_frames hb b1 b2
  have f2 := bodiesL_frames hc c1 c2
  have e1 := f1.eq
  have e2 := f2.eq
  rw [List.append_nil] at e1 e2
  rw [e1] at h1
  rw [e2] at h2
  have key := frames_prefix f1.small f2.small (h1.symm.trans h2)
  have hlen : bss.length = css.length := by
    rcases Nat.lt_trichotomy bss.length css.length with h | h | h
    · obtain ⟨x, hx⟩ : ∃ x, css[bss.length]? = some x := ⟨_, List.getElem?_eq_getElem h⟩
      obtain ⟨n1, n2⟩ := hc.each x (List.mem_of_getElem? hx)
      exact absurd (key bss.length _ _ (bodiesL_index bss) (bodiesL_at hx)) (index_block n1 n2)
    · exact h
    · obtain ⟨x, hx⟩ : ∃ x, bss[css.length]? = some x := ⟨_, List.getElem?_eq_getElem h⟩
      obtain ⟨n1, n2⟩ := hb.each x (List.mem_of_getElem? hx)
      exact absurd (key css.length _ _ (bodiesL_at hx) (bodiesL_index css)).symm (index_block n1 n2)
  apply List.ext_getElem?
  intro i
  by_cases hi : i < bss.length
  · obtain ⟨x, hx⟩ : ∃ x, bss[i]? = some x := ⟨_, List.getElem?_eq_getElem hi⟩
    obtain ⟨y, hy⟩ : ∃ y, css[i]? = some y := ⟨_, List.getElem?_eq_getElem (by omega)⟩
    have e := key i _ _ (bodiesL_at hx) (bodiesL_at hy)
    have hbx := (hb.each x (List.mem_of_getElem? hx)).2
    have hby := (hc.each y (List.mem_of_getElem? hy)).2
    rw [← e] at hby
    rw [hx, hy, block_inj hbx hby]
  · rw [List.getElem?_eq_none (by omega), List.getElem?_eq_none (by omega)]
theorem cut_none {s : List UInt8} {bss : List (List CellA)} (h : IsT s bss) (hs : s.length ≤ 80000) {k : Nat} (hk : k < s.length) (css : List (List CellA)) : ¬ IsT (s.take k) css := by
  intro g
  obtain ⟨b1, b2⟩ := h.small hs
  obtain ⟨c1, c2⟩ := g.small (by rw [List.length_take]; omega)
  obtain ⟨t, _, ht⟩ := tableL_eq bss
  obtain ⟨u, _, hu⟩ := tableL_eq css
  have e1 := h.eq
  have e2 := g.eq
  rw [ht] at e1
  rw [hu] at e2
  have e3 : s = partL css ++ (u ++ s.drop k) := by
    rw [← List.append_assoc, ← e2, List.take_append_drop]
  have e := tables_prefix h.good g.good b1 b2 c1 c2 e1 e3
  subst e
  have l1 := congrArg List.length h.eq
  have l2 := congrArg List.length g.eq
  rw [List.length_take] at l2
  omega
theorem long_none {s : List UInt8} {bss : List (List CellA)} (h : IsT s bss) (hs : s.length ≤ 70000) (x : List UInt8) (hx : 0 < x.length) (hx2 : x.length ≤ 1000) (css : List (List CellA)) : ¬ IsT (s ++ x) css := by
  intro g
  obtain ⟨b1, b2⟩ := h.small (by omega)
  obtain ⟨c1, c2⟩ := g.small (by rw [List.length_append]; omega)
  obtain ⟨t, _, ht⟩ := tableL_eq bss
  obtain ⟨u, _, hu⟩ := tableL_eq css
  have e1 := h.eq
  have e2 := g.eq
  rw [ht] at e1
  rw [hu] at e2
  have e3 : s ++ x = partL bss ++ (t ++ x) := by rw [← List.append_assoc, ← e1]
  have e := tables_prefix h.good g.good b1 b2 c1 c2 e3 e2
  subst e
  have l1 := congrArg List.length h.eq
  have l2 := congrArg List.length g.eq
  rw [List.length_append] at l2
  omega
theorem laid_shift {n : Nat} (hn : n < 16777216) (h : ∀ i, i < 3 → (laidL n)[i]? = (laidL n)[i + 1]?) : n = 0 := by
  have h0 := h 0 (by decide)
  have h1 := h 1 (by decide)
  have h2 := h 2 (by decide)
  unfold laidL at h0 h1 h2
  simp only [List.getElem?_cons_zero, List.getElem?_cons_succ, Option.some.injEq] at h0 h1 h2
  have k0 := congrArg UInt8.toNat h0
  have k1 := congrArg UInt8.toNat h1
  have k2 := congrArg UInt8.toNat h2
  simp only [UInt8.toNat_ofNat'] at k0 k1 k2
  have z0 : n / 16777216 = 0 := by omega
  rw [z0] at k0
  have z1 : n / 65536 = 0 := by omega
  rw [z1] at k1
  have z2 : n / 256 = 0 := by omega
  rw [z2] at k2
  omega
theorem drop_none {s : List UInt8} {bss : List (List CellA)} (h : IsT s bss) (hs : s.length ≤ 80000) (css : List (List CellA)) : ¬ IsT (s.drop 1) css := by
  intro g
  obtain ⟨b1, b2⟩ := h.small hs
  obtain ⟨c1, c2⟩ := g.small (by rw [List.length_drop]; omega)
  have hb := indexTo_len h.good b1 bss.length (Nat.le_refl _)
  have hc := indexTo_len g.good c1 css.length (Nat.le_refl _)
  have i1 : ∀ b : List (List CellA), 1 ≤ (indexL b).length := fun b => by
    obtain ⟨t, ht⟩ := indexTo_pre b b.length
    unfold indexL
    rw [ht, List.length_append, show numW ((b.length : Nat) : Int) = numL b.length by simp [numW]]
    have := numL_pos b.length
    omega
  have hls := h.len
  have f1 := framesL_part bss
  have f2 := framesL_part css
  have l1 := tableL_len bss
  have l2 := tableL_len css
  rw [← h.eq] at l1
  rw [← g.eq, List.length_drop] at l2
  have p1 : 18 ≤ (partL bss).length := by
    unfold partL
    rw [List.length_append, List.length_append, frameB_len, frameB_len]
    have := i1 bss
    have h3 := makeF_len (keysOf bss.flatten)
    unfold filterL
    rw [h3]
    unfold makeZ
    omega
  have eb : tableL bss = partL bss ++ (eightL (framesL bss).length ++ eightL (framesL bss ++ frameB (indexL bss)).length) := by simp only [tableL, partL, List.append_assoc]
  have ec : tableL css = partL css ++ (eightL (framesL css).length ++ eightL (framesL css ++ frameB (indexL css)).length) := by simp only [tableL, partL, List.append_assoc]
  have hd : (partL bss).drop 1 ++ (eightL (framesL bss).length ++ eightL (framesL bss ++ frameB (indexL bss)).length) = partL css ++ (eightL (framesL css).length ++ eightL (framesL css ++ frameB (indexL css)).length) := by
    rw [← ec, ← g.eq, h.eq, eb, List.drop_append_of_le_length (by omega)]
  obtain ⟨q1, q2⟩ := List.append_inj hd (by rw [List.length_drop]; omega)
  obtain ⟨q3, q4⟩ := List.append_inj q2 (by rw [eightL_len, eightL_len])
  have a1 := eightL_inj (by omega) (by omega) q3
  have a2 := eightL_inj (by rw [List.length_append, frameB_len]; unfold indexL; omega) (by rw [List.length_append, frameB_len]; unfold indexL; omega) q4
  rw [List.length_append, List.length_append, frameB_len, frameB_len, a1] at a2
  have hn : (indexL bss).length = (indexL css).length := by omega
  have at_ : ∀ (b : List (List CellA)) (i : Nat), i < 4 → (partL b)[(framesL b).length + i]? = (laidL (indexL b).length)[i]? := fun b i hi => by
    unfold partL
    rw [List.append_assoc, List.getElem?_append_right (by omega), Nat.add_sub_cancel_left]
    unfold frameB
    rw [List.append_assoc, List.append_assoc, List.getElem?_append_left (by simp [laidL]; omega)]
  have hz := laid_shift (n := (indexL bss).length) (by unfold indexL; omega) (fun i hi => by
    have e1 := at_ css i (by omega)
    have e2 := at_ bss (i + 1) (by omega)
    rw [← q1, List.getElem?_drop, ← a1, ← hn] at e1
    rw [← e1, ← e2]
    congr 1
    omega)
  have := i1 bss
  omega
end Go.Proofs.Ytihglmicgccgiaa
