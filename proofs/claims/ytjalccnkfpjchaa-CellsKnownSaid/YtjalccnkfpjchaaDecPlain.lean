/-
  Plain facts on lists of cells as bytes: what is read is laid as the same bytes; what is laid is read.
-/
import Derived.Test.YtjalccnkfpjchaaDecW
import Derived.Test.YtjalccnkfpjchaaReadPlain
import Derived.Test.YtjalccnkfpjchaaREncLW
namespace Go.Proofs.Ytjalccnkfpjchaa

theorem byte_sound {l : List UInt8} (h : (byteR l).2.1 = true) : l = (byteR l).1 :: (byteR l).2.2 := by
  cases l with
  | nil => cases h
  | cons c r => rfl

theorem one_byte {d : UInt8} (h : d.toNat ≤ 1) : (if decide (d.toNat = 1) = true then (1 : UInt8) else 0) = d := by
  have h2 : d.toNat = 0 ∨ d.toNat = 1 := by omega
  rcases h2 with h2 | h2
  · rw [h2]; exact (UInt8.toNat.inj (by rw [h2]; rfl)).symm
  · rw [h2]; exact (UInt8.toNat.inj (by rw [h2]; rfl)).symm

structure CellSound (l : List UInt8) (x : CellA) (rest : List UInt8) : Prop where
  bytes : l = encC x ++ rest
  val : cellL x = true
  ok : x.Ok
theorem cell_sound {l : List UInt8} (h : (cellR l).ok = true) : CellSound l (cellR l).x (cellR l).rest := by
  unfold cellR at *
  simp only [Bool.and_eq_true, decide_eq_true_eq] at h ⊢
  obtain ⟨⟨⟨⟨⟨⟨h1, h2⟩, h3⟩, h4⟩, h5⟩, h6⟩, h7⟩ := h
  obtain ⟨a1, a2⟩ := text_sound h1
  obtain ⟨b1, b2⟩ := text_sound h2
  have c1 := num_sound h3
  have d1 := byte_sound h4
  obtain ⟨e1, e2⟩ := text_sound h5
  have c2 := numR_lt (textR 16 (textR 32 l).2.2).2.2
  generalize textR 32 l = ta at *
  generalize textR 16 ta.2.2 = tb at *
  generalize numR tb.2.2 = tc at *
  generalize byteR tc.2.2 = td at *
  generalize textR 65536 td.2.2 = te at *
  refine ⟨?_, h7, ⟨?_, ?_, ?_, ?_, ?_⟩⟩
  · simp only [encC, ofL_size, ofL_toList, one_byte h6, numW, Int.toNat_natCast]
    rw [a1]
    conv => lhs; rw [b1, c1, d1, e1]
    simp
  · simp only [ofL_size]; unfold maxLen; omega
  · simp only [ofL_size]; unfold maxLen; omega
  · simp only [ofL_size]; unfold maxLen; omega
  · simp
  · simp only; omega
theorem dec_sound : ∀ (n : Nat) (l : List UInt8) (cs : List CellA) (r : List UInt8), decR n l = some (cs, r) → l = cs.flatMap encC ++ r ∧ cs.length = n ∧ (∀ c ∈ cs, cellL c = true ∧ c.Ok)
  | 0, l, cs, r, h => by
    simp only [decR, Option.some.injEq, Prod.mk.injEq] at h
    obtain ⟨rfl, rfl⟩ := h
    simp
  | n + 1, l, cs, r, h => by
    rw [decR] at h
    split at h
    · rename_i hk
      cases hd : decR n (cellR l).rest with
      | none => rw [hd] at h; simp at h
      | some q =>
        obtain ⟨cs', r'⟩ := q
        rw [hd] at h
        simp only [Option.map_some, Option.some.injEq, Prod.mk.injEq] at h
        obtain ⟨rfl, rfl⟩ := h
        obtain ⟨i1, i2, i3⟩ := dec_sound n _ _ _ hd
        have hc := cell_sound hk
        refine ⟨?_, by simp [i2], fun c hm => ?_⟩
        · rw [List.flatMap_cons, List.append_assoc, ← i1]; exact hc.bytes
        · rcases List.mem_cons.1 hm with rfl | hm
          · exact ⟨hc.val, hc.ok⟩
          · exact i3 c hm
    · cases h
structure DecSound (l : List UInt8) (cs : List CellA) : Prop where
  bytes : encL cs = l
  good : cs.any badC = false
  ok : ∀ c ∈ cs, c.Ok
  len : l.length ≤ 1048576
theorem decV_sound {l : List UInt8} {cs : List CellA} (h : decV l = some cs) : DecSound l cs := by
  unfold decV at h
  split at h
  · rename_i hc
    obtain ⟨c1, c2, c3⟩ := hc
    have hn := num_sound c1
    cases hd : decR (numR l).1 (numR l).2.2 with
    | none => rw [hd] at h; cases h
    | some q =>
      obtain ⟨cs', r⟩ := q
      rw [hd] at h
      cases r with
      | cons a b => cases h
      | nil =>
        simp only [Option.some.injEq] at h
        subst h
        obtain ⟨i1, i2, i3⟩ := dec_sound _ _ _ _ hd
        refine ⟨?_, ?_, fun c hc => (i3 c hc).2, c2⟩
        · rw [encL, i2]
          rw [List.append_nil] at i1
          rw [← i1]; exact hn.symm
        · rw [List.any_eq_false]
          intro c hc
          simp [badC, (i3 c hc).1]
  · cases h
theorem cell_complete {c : CellA} (h : cellL c = true) (s : List UInt8) : cellR (encC c ++ s) = ⟨c, true, s⟩ := by
  obtain ⟨h1, h2, h3, h4, h5⟩ := cellL_sizes h
  have e : encC c ++ s = numL c.row.toList.length ++ c.row.toList ++ (numL c.col.toList.length ++ c.col.toList ++ (numL c.ver.toNat ++ ((if c.gone then 1 else 0) :: (numL c.val.toList.length ++ c.val.toList ++ s)))) := by
    simp only [encC, size_list, numW]; simp
  have ev : ((c.ver.toNat : Nat) : Int) = c.ver := by omega
  unfold cellR
  rw [e, text_complete 32 _ _ (by rw [size_list]; omega) (by rw [size_list]; omega)]
  simp only
  rw [text_complete 16 _ _ (by rw [size_list]; omega) (by rw [size_list]; omega)]
  simp only
  rw [num_complete _ _ (by omega)]
  simp only [byteR]
  rw [text_complete 65536 _ _ (by rw [size_list]; omega) (by rw [size_list]; omega)]
  obtain ⟨r, cc, v, g, va⟩ := c
  simp only at ev h
  cases g
  · simp [ev, ofL_self, h]
  · simp [ev, ofL_self, h]
theorem dec_complete : ∀ (cs : List CellA) (s : List UInt8), (∀ c ∈ cs, cellL c = true) → decR cs.length (cs.flatMap encC ++ s) = some (cs, s)
  | [], s, _ => rfl
  | c :: cs, s, h => by
    rw [List.length_cons, decR, List.flatMap_cons, List.append_assoc, cell_complete (h c (by simp)), if_pos rfl]
    simp only
    rw [dec_complete cs s (fun c hc => h c (by simp [hc]))]
    rfl
theorem enc_count {cs : List CellA} (h : cs.any badC = false) : cs.length ≤ (encL cs).length := by
  obtain ⟨h1, _, h3⟩ := flat_len h
  rw [encL, List.length_append]; omega
theorem decV_complete {cs : List CellA} (h : cs.any badC = false) (hl : (encL cs).length ≤ 1048576) : decV (encL cs) = some cs := by
  have hc := enc_count h
  have hn : numR (encL cs) = (cs.length, true, cs.flatMap encC) := num_complete _ _ (by omega)
  unfold decV
  rw [hn]
  simp only
  rw [if_pos ⟨trivial, hl, hc⟩]
  have := dec_complete cs [] (fun c hc => some_any h hc)
  rw [List.append_nil] at this
  rw [this]
theorem decV_more {cs : List CellA} (h : cs.any badC = false) (hl : (encL cs).length ≤ 1048576) (d : UInt8) : decV (encL cs ++ [d]) = none := by
  have hc := enc_count h
  have hn : numR (encL cs ++ [d]) = (cs.length, true, cs.flatMap encC ++ [d]) := by
    rw [encL, List.append_assoc]; exact num_complete _ _ (by omega)
  unfold decV
  rw [hn]
  simp only
  split
  · rw [dec_complete cs [d] (fun c hc => some_any h hc)]
  · rfl
theorem decV_less {cs : List CellA} (h : cs.any badC = false) (hl : (encL cs).length ≤ 1048576) {l : List UInt8} {d : UInt8} (he : encL cs = l ++ [d]) : decV l = none := by
  cases hd : decV l with
  | none => rfl
  | some ds =>
    have hs := decV_sound hd
    have := decV_more hs.good (by rw [hs.bytes]; exact hs.len) d
    rw [hs.bytes, ← he, decV_complete h hl] at this
    cases this

end Go.Proofs.Ytjalccnkfpjchaa
