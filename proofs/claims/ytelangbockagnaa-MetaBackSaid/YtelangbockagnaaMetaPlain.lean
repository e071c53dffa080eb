/-
  Plain facts on places as bytes: what is read is laid as the same bytes; what is laid is read; both readers answer alike.
-/
import Derived.Test.YtelangbockagnaaReadPlain
import Derived.Test.YtelangbockagnaaRMetaDW
namespace Go.Proofs.Ytelangbockagnaa

theorem nodesR_sound : ∀ (n : Nat) (l : List UInt8) (nd : List Int) (r : List UInt8), nodesR n l = some (nd, r) → l = nodesB nd ++ r ∧ nd.length = n
  | 0, l, nd, r, h => by
    simp only [nodesR, Option.some.injEq, Prod.mk.injEq] at h
    obtain ⟨rfl, rfl⟩ := h
    simp [nodesB]
  | n + 1, l, nd, r, h => by
    rw [nodesR] at h
    split at h
    · rename_i hk
      cases hd : nodesR n (numR l).2.2 with
      | none => rw [hd] at h; simp at h
      | some q =>
        obtain ⟨nd', r'⟩ := q
        rw [hd] at h
        simp only [Option.map_some, Option.some.injEq, Prod.mk.injEq] at h
        obtain ⟨rfl, rfl⟩ := h
        obtain ⟨i1, i2⟩ := nodesR_sound n _ _ _ hd
        refine ⟨?_, by simp [i2]⟩
        have := num_sound hk.1
        conv => lhs; rw [this, i1]
        simp [nodesB, numW]
    · cases h
theorem node_num {x : Int} (h : 0 ≤ x ∧ x < 5) (s : List UInt8) : numR (numW x ++ s) = (x.toNat, true, s) := num_complete _ _ (by omega)
theorem nodesR_complete : ∀ (nd : List Int) (r : List UInt8), (∀ x ∈ nd, 0 ≤ x ∧ x < 5) → nodesR nd.length (nodesB nd ++ r) = some (nd, r)
  | [], r, _ => rfl
  | x :: nd, r, h => by
    have hx := h x (by simp)
    have e : nodesB (x :: nd) ++ r = numW x ++ (nodesB nd ++ r) := by simp [nodesB]
    rw [List.length_cons, nodesR, e, node_num hx, if_pos ⟨rfl, by simp only; omega⟩]
    simp only
    rw [nodesR_complete nd r (fun y hy => h y (by simp [hy]))]
    simp only [Option.map_some]
    congr 3
    omega
theorem nodesQ_complete : ∀ (nd : List Int) (r : List UInt8), (∀ x ∈ nd, 0 ≤ x ∧ x < 5) → nodesQ nd.length (nodesB nd ++ r) = some (nd, r)
  | [], r, _ => rfl
  | x :: nd, r, h => by
    have hx := h x (by simp)
    have e : nodesB (x :: nd) ++ r = numW x ++ (nodesB nd ++ r) := by simp [nodesB]
    rw [List.length_cons, nodesQ, e, node_num hx, if_pos ⟨rfl, by simp only; omega⟩]
    simp only
    rw [nodesQ_complete nd r (fun y hy => h y (by simp [hy]))]
    simp only [Option.map_some]
    congr 3
    omega

theorem encM_split (c : LocA) (r : List UInt8) : encM c ++ r = numL c.gr.toNat ++ (numL c.lo.toList.length ++ c.lo.toList ++ (numL c.hi.toList.length ++ c.hi.toList ++ (numL c.ep.toNat ++ (numL c.nd.length ++ (nodesB c.nd ++ r))))) := by
  simp only [encM, size_list, numW, List.append_assoc]
theorem metaR_complete {c : LocA} (h : GoodM c) (h0 : 0 ≤ c.ep) (r : List UInt8) : metaR (encM c ++ r) = ⟨c.gr.toNat, true, c.lo.toList, true, c.hi.toList, true, c.ep.toNat, true, c.nd.length, true, nodesB c.nd ++ r⟩ := by
  have g0 := h.g0; have g1 := h.g1; have g2 := h.lo; have g3 := h.hi; have g4 := h.ep; have g5 := h.len
  have l1 := size_list c.lo
  have l2 := size_list c.hi
  unfold metaR mayN
  rw [encM_split]
  simp only [num_complete c.gr.toNat _ (by omega), text_complete 24 c.lo.toList _ (by omega) (by omega), text_complete 24 c.hi.toList _ (by omega) (by omega), num_complete c.ep.toNat _ (by omega), num_complete c.nd.length _ (by omega)]
  have e1 : decide (c.gr.toNat ≤ 12) = true := by simp; omega
  have e2 : decide (c.ep.toNat ≤ 1099511627776) = true := by simp; omega
  have e3 : decide (c.nd.length ≤ 5) = true := by simp; omega
  simp only [e1, e2, e3, Bool.and_self, if_true]
theorem rmetaR_complete {c : LocA} (h : GoodM c) (h0 : 0 ≤ c.ep) (r : List UInt8) : rmetaR (encM c ++ r) = ⟨c.gr.toNat, true, c.lo.toList, true, c.hi.toList, true, c.ep.toNat, true, c.nd.length, true, nodesB c.nd ++ r⟩ := by
  have g0 := h.g0; have g1 := h.g1; have g2 := h.lo; have g3 := h.hi; have g4 := h.ep; have g5 := h.len
  have l1 := size_list c.lo
  have l2 := size_list c.hi
  unfold rmetaR
  rw [encM_split]
  simp only [num_complete c.gr.toNat _ (by omega), text_complete 24 c.lo.toList _ (by omega) (by omega), text_complete 24 c.hi.toList _ (by omega) (by omega), num_complete c.ep.toNat _ (by omega), num_complete c.nd.length _ (by omega)]
theorem loc_back {c : LocA} (h : GoodM c) (h0 : 0 ≤ c.ep) : (⟨(c.gr.toNat : Nat), ofL c.lo.toList, ofL c.hi.toList, (c.ep.toNat : Nat), c.nd⟩ : LocA) = c := by
  have g0 := h.g0
  obtain ⟨gr, lo, hi, ep, nd⟩ := c
  simp only at g0 h0
  simp only [ofL_self, LocA.mk.injEq, and_true, true_and]
  omega
theorem decM_complete {c : LocA} (h : okL c = true) (h0 : 0 ≤ c.ep) : decM (encM c) = some c := by
  have hg := goodM h
  have h1 := metaR_complete hg h0 []
  have h2 := nodesR_complete c.nd [] hg.nd
  rw [List.append_nil] at h1 h2
  unfold decM
  rw [h1]
  simp only [List.append_nil, h2, loc_back hg h0, h, List.isEmpty_nil, Bool.and_self, if_true]
theorem decM_more {c : LocA} (h : okL c = true) (h0 : 0 ≤ c.ep) (d : UInt8) : decM (encM c ++ [d]) = none := by
  have hg := goodM h
  have h1 := metaR_complete hg h0 [d]
  have h2 := nodesR_complete c.nd [d] hg.nd
  unfold decM
  rw [h1]
  simp only [h2, List.isEmpty_cons, Bool.and_false, Bool.false_and, Bool.false_eq_true, if_false]
theorem rdecM_complete {c : LocA} (h : okL c = true) (h0 : 0 ≤ c.ep) : rdecM (encM c) = some c := by
  have hg := goodM h
  have g1 := hg.g1; have g0 := hg.g0; have g5 := hg.len
  have h1 := rmetaR_complete hg h0 []
  have h2 := nodesQ_complete c.nd [] hg.nd
  rw [List.append_nil] at h1 h2
  unfold rdecM
  rw [h1]
  have e1 : decide (c.gr.toNat ≤ 100) = true := by simp; omega
  have e2 : decide (c.nd.length ≤ 100) = true := by simp; omega
  simp only [List.append_nil, h2, loc_back hg h0, h, e1, e2, decide_true, Bool.and_self, if_true]
structure MSound (l : List UInt8) (c : LocA) : Prop where
  ok : okL c = true
  bytes : encM c = l
  e0 : 0 ≤ c.ep
theorem rdecM_sound {l : List UInt8} {c : LocA} (h : rdecM l = some c) : MSound l c := by
  unfold rdecM at h
  split at h
  · split at h
    · split at h
      · rename_i hc
        simp only [Option.some.injEq] at h
        simp only [Bool.and_eq_true, decide_eq_true_eq] at hc
        subst h
        exact ⟨hc.1, hc.2, by simp⟩
      · cases h
    · cases h
  · cases h
theorem decM_sound {l : List UInt8} {c : LocA} (h : decM l = some c) : MSound l c := by
  unfold decM at h
  split at h
  · rename_i nd r hn
    split at h
    · rename_i hc
      simp only [Option.some.injEq] at h
      simp only [Bool.and_eq_true] at hc
      obtain ⟨⟨⟨⟨⟨⟨ha, hb⟩, hcc⟩, hd⟩, he⟩, hr⟩, hok⟩ := hc
      refine ⟨by rw [← h]; exact hok, ?_, by rw [← h]; simp⟩
      unfold metaR at ha hb hcc hd he hn h
      simp only at ha hb hcc hd he hn h
      have ha' := ha
      have hd' := hd
      have he' := he
      simp only [mayN, Bool.and_eq_true] at ha' hd' he'
      have s1 := num_sound ha'.1
      obtain ⟨s2, _⟩ := text_sound hb
      obtain ⟨s3, _⟩ := text_sound hcc
      have s4 := num_sound hd'.1
      have s5 := num_sound he'.1
      simp only [ha, hd, he, if_true] at h hn
      obtain ⟨i1, i2⟩ := nodesR_sound _ _ _ _ hn
      have hr0 : r = [] := List.isEmpty_iff.1 hr
      subst hr0
      rw [List.append_nil] at i1
      subst h
      simp only [encM, numW, ofL_size, ofL_toList, Int.toNat_natCast, i2]
      rw [← i1]
      conv => rhs; rw [s1, s2, s3, s4, s5]
      simp only [List.append_assoc]
    · cases h
  · cases h
theorem decM_same (l : List UInt8) : decM l = rdecM l := by
  cases h : decM l with
  | some c =>
    have s := decM_sound h
    rw [← s.bytes, rdecM_complete s.ok s.e0]
  | none =>
    cases h2 : rdecM l with
    | none => rfl
    | some c =>
      have s := rdecM_sound h2
      rw [← s.bytes, decM_complete s.ok s.e0] at h
      cases h
theorem decM_less {c : LocA} (h : okL c = true) (h0 : 0 ≤ c.ep) {l : List UInt8} {d : UInt8} (he : encM c = l ++ [d]) : decM l = none := by
  cases hd : decM l with
  | none => rfl
  | some c2 =>
    have hs := decM_sound hd
    have := decM_more hs.ok hs.e0 d
    rw [hs.bytes, ← he, decM_complete h h0] at this
    cases this
end Go.Proofs.Ytelangbockagnaa
