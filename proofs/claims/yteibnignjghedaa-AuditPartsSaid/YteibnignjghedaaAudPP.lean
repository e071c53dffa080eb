/-
  Replicas of which each one's log is a part of one log; and one that has an entry otherwise. Plain.
-/
import Derived.Test.YteibnignjghedaaAudOP
namespace Go.Proofs.Yteibnignjghedaa
open Go.RowKit Go.Sort

/-- one log: its entries stand by their indices, terms never fall -/
structure LogA (all : List EntA) : Prop where
  pos : 0 < all.length
  idx : ∀ (j : Nat) (e : EntA), all[j]? = some e → e.idx = (j : Int) + 1
  term : ∀ (j : Nat) (e : EntA), all[j]? = some e → 1 ≤ e.term ∧ e.term ≤ 2 * (j : Int) + 1
  kind : ∀ (j : Nat) (e : EntA), all[j]? = some e → 0 < j → e.kind = 1 ∧ e.cmd.epoch = 0
  mono : ∀ (j : Nat) (e f : EntA), all[j]? = some e → all[j + 1]? = some f → e.term ≤ f.term
/-- a replica whose log is a part of it -/
structure PartOf (all : List EntA) (s : SeenA) (base last : Nat) : Prop where
  b1 : 1 ≤ base
  bl : base ≤ last
  ll : last ≤ all.length
  es : s.es = (all.drop base).take (last - base)
  bidx : s.bidx = (base : Int)
  bterm : ∃ e, all[base - 1]? = some e ∧ s.bterm = e.term
  com0 : (base : Int) ≤ s.com
  com1 : s.com ≤ (last : Int)
  app : s.app = 0
  leads : s.leads = false
  group : s.group = 3
  node0 : 0 ≤ s.node
  node1 : s.node < 5
  bm : s.bm = [0, 1, 2]
section
variable {all : List EntA} {s : SeenA} {base last : Nat}
theorem PartOf.at_ (h : PartOf all s base last) (k : Nat) : s.es[k]? = if k < last - base then all[base + k]? else none := by
  rw [h.es, List.getElem?_take, List.getElem?_drop]
theorem PartOf.len (h : PartOf all s base last) : s.es.length = last - base := by
  have := h.ll
  have := h.bl
  rw [h.es, List.length_take, List.length_drop]
  omega
theorem PartOf.mem (h : PartOf all s base last) {e : EntA} (he : e ∈ s.es) : ∃ j : Nat, base ≤ j ∧ j < last ∧ all[j]? = some e := by
  obtain ⟨k, hk⟩ := List.mem_iff_getElem?.1 he
  rw [h.at_] at hk
  split at hk
  · exact ⟨base + k, by omega, by omega, hk⟩
  · cases hk
theorem LogA.lastT (hl : LogA all) : ∀ (n base : Nat), 1 ≤ base → base + n ≤ all.length → ∀ e0, all[base - 1]? = some e0 → chainL (base : Int) e0.term ((all.drop base).take n) = true ∧
    lastX (base : Int) ((all.drop base).take n) = ((base + n : Nat) : Int) ∧ ∃ e1, all[base + n - 1]? = some e1 ∧ Go.Proofs.Yteibnignjghedaa.lastT e0.term ((all.drop base).take n) = e1.term
  | 0, base, h1, h2, e0, h0 => ⟨rfl, rfl, e0, h0, rfl⟩
  | n + 1, base, h1, h2, e0, h0 => by
    obtain ⟨c1, c2, e1, c3, c4⟩ := LogA.lastT hl n base h1 (by omega) e0 h0
    obtain ⟨e, he⟩ : ∃ e, all[base + n]? = some e := ⟨_, List.getElem?_eq_getElem (by omega)⟩
    have hd : (all.drop base)[n]? = some e := by rw [List.getElem?_drop]; exact he
    have ht : (all.drop base).take (n + 1) = (all.drop base).take n ++ [e] := by rw [List.take_add_one, hd]; rfl
    rw [ht]
    have hi := hl.idx _ _ he
    have htm := hl.term _ _ he
    have hk := hl.kind _ _ he (by omega)
    have hm := hl.mono (base + n - 1) e1 e c3 (by rw [show base + n - 1 + 1 = base + n by omega]; exact he)
    refine ⟨?_, ?_, e, by rw [show base + (n + 1) - 1 = base + n by omega]; exact he, lastT_snoc _ _ _⟩
    · rw [chain_snoc, c1, c2, c4, Bool.true_and, stepL, hk.1]
      simp only [Bool.and_eq_true, decide_eq_true_eq, Bool.or_eq_true, Bool.not_eq_true', decide_eq_false_iff_not]
      exact ⟨⟨⟨by omega, hm⟩, htm.1⟩, .inl (by omega)⟩
    · rw [lastX_snoc]; omega
theorem PartOf.may (hl : LogA all) (h : PartOf all s base last) : mayS s = true := by
  obtain ⟨e0, h0, ht⟩ := h.bterm
  have h1 := h.b1
  have h2 := h.bl
  have h3 := h.ll
  obtain ⟨c1, c2, _⟩ := hl.lastT (last - base) base h1 (by omega) e0 h0
  have hp := (hl.term _ _ h0).1
  have hb := h.bidx
  have hc0 := h.com0
  have hc1 := h.com1
  have hn0 := h.node0
  have hn1 := h.node1
  have hg := h.group
  simp only [mayS, headS, baseS, tailS, Bool.and_eq_true, Bool.or_eq_true, decide_eq_true_eq, Bool.not_eq_true', decide_eq_false_iff_not]
  refine ⟨⟨⟨⟨⟨⟨hn0, hn1⟩, by omega⟩, by omega⟩, .inr ⟨⟨by omega, by omega⟩, by rw [h.bm]; decide⟩⟩, ?_⟩, ⟨by omega, ?_⟩, .inl (.inl h.app)⟩
  · rw [hb, ht, h.es]; exact c1
  · rw [hb, h.es, c2]; omega
theorem PartOf.atX (hl : LogA all) (h : PartOf all s base last) {n : Int} {y : EntA} (hy : atX s n = some y) : ∃ j : Nat, all[j]? = some y ∧ n = (j : Int) + 1 := by
  obtain ⟨h1, h2⟩ := at_mem (h.may hl) hy
  obtain ⟨j, _, _, hj⟩ := h.mem h1
  exact ⟨j, hj, by rw [← h2]; exact hl.idx _ _ hj⟩
theorem same_refl (e : EntA) : sameE e e = true := by simp [sameE]
theorem forms_none : ∀ (l : List (EntA × EntA)), (∀ p ∈ l, sameE p.1 p.2 = true) → formsF false l = false
  | [], _ => rfl
  | p :: r, h => by
    rw [formsF, h p List.mem_cons_self]
    simpa using forms_none r (fun q hq => h q (List.mem_cons_of_mem _ hq))
theorem common_same (hl : LogA all) {a b : SeenA} {b1 l1 b2 l2 : Nat} (ha : PartOf all a b1 l1) (hb : PartOf all b b2 l2) : ∀ p ∈ commonL a b, sameE p.1 p.2 = true := by
  intro p hp
  obtain ⟨h1, h2⟩ := mem_commonL.1 hp
  obtain ⟨i, _, _, hi⟩ := ha.mem h1
  obtain ⟨j, hj, hn⟩ := hb.atX hl h2
  have := hl.idx _ _ hi
  have e : i = j := by omega
  rw [e, hj] at hi
  have e2 := Option.some.inj hi
  rw [e2]
  exact same_refl _
theorem based_none (hl : LogA all) {a b : SeenA} {b1 l1 b2 l2 : Nat} (ha : PartOf all a b1 l1) (hb : PartOf all b b2 l2) (m : Int) : basedL a b m = false := by
  obtain ⟨e1, h1, t1⟩ := ha.bterm
  obtain ⟨e2, h2, t2⟩ := hb.bterm
  have k1 := ha.b1
  have k2 := hb.b1
  have i1 := ha.bidx
  have i2 := hb.bidx
  rw [basedL]
  split
  · rfl
  split
  · rename_i he
    have e : b1 = b2 := by omega
    subst e
    rw [h1] at h2
    cases h2
    rw [t1, t2]; simp
  · cases hx : Go.Proofs.Yteibnignjghedaa.atX b a.bidx with
    | none => rfl
    | some y =>
      obtain ⟨j, hj, hn⟩ := hb.atX hl hx
      have e : b1 - 1 = j := by omega
      rw [e, hj] at h1
      cases h1
      rw [t1]; simp
theorem PartOf.clean (hl : LogA all) {a b : SeenA} {b1 l1 b2 l2 : Nat} (ha : PartOf all a b1 l1) (hb : PartOf all b b2 l2) : Clean a b := fun _ => by
  refine ⟨by rw [leadS, ha.leads]; rfl, forms_none _ (common_same hl ha hb), ?_, by rw [machL, ha.app]; rfl⟩
  rw [busyL, based_none hl ha hb, based_none hl hb ha, Bool.or_false, Bool.or_false, Bool.eq_false_iff]
  intro h
  obtain ⟨p, hp, _, hs⟩ := (busyF_iff _ _).1 h
  rw [common_same hl ha hb p hp] at hs
  cases hs
theorem bestF_none0 (g : Int) : ∀ (l : List SeenA), (∀ s ∈ l, s.app = 0) → ∀ k, bestF g none k l = none
  | [], _, _ => rfl
  | s :: r, h, k => by
    rw [bestF]
    have e : stepB g none k s = none := by
      rw [stepB, h s List.mem_cons_self]
      simp
    rw [e]
    exact bestF_none0 g r (fun x hx => h x (List.mem_cons_of_mem _ hx)) _
theorem tabs_none (l : List SeenA) (h : ∀ s ∈ l, s.app = 0) : tabsL l = [] := by
  have : ∀ m, placesL l m = [] := by
    intro m
    induction m with
    | zero => rfl
    | succ m ih => rw [placesL, ih, bestL, bestF_none0 _ l h]; rfl
  rw [tabsL, this]; rfl
theorem check_parts (hl : LogA all) (l : List SeenA) (h : ∀ s ∈ l, ∃ base last, PartOf all s base last) : checkL l = [] := by
  refine check_nil_iff.2 ⟨fun s hs => ?_, ?_, ?_⟩
  · obtain ⟨b, t, hp⟩ := h s hs
    exact hp.may hl
  · rw [List.pairwise_iff_getElem]
    intro i j hi hj _
    obtain ⟨b, t, hp⟩ := h _ (List.getElem_mem hi)
    obtain ⟨b', t', hp'⟩ := h _ (List.getElem_mem hj)
    exact hp.clean hl hp'
  · rw [tabs_none l (fun s hs => by obtain ⟨b, t, hp⟩ := h s hs; exact hp.app)]
    exact ⟨fun j x hx => by simp at hx, .inl rfl⟩

/-! ### an entry that both have committed is another one -/
def turnE (e : EntA) : EntA := { e with cmd := { e.cmd with epoch := 9 } }
/-- the replica with entry k (of its own entries) turned; where the entries lie now -/
def turnS (s : SeenA) (k : Nat) (e : EntA) (ea : Option Addr) (ec : Nat) : SeenA := { s with es := s.es.set k (turnE e), ea := ea, ec := ec }
theorem chain_set : ∀ (es : List EntA) (k : Nat) (i t : Int) (e : EntA), es[k]? = some e → chainL i t (es.set k (turnE e)) = chainL i t es
  | [], k, i, t, e, h => by simp at h
  | x :: r, 0, i, t, e, h => by
    simp only [List.getElem?_cons_zero, Option.some.injEq] at h
    subst h
    rfl
  | x :: r, k + 1, i, t, e, h => by
    simp only [List.getElem?_cons_succ] at h
    rw [List.set_cons_succ, chainL, chainL, chain_set r k _ _ e h]
theorem lastX_set (es : List EntA) (k : Nat) (i : Int) (e : EntA) (h : es[k]? = some e) : lastX i (es.set k (turnE e)) = lastX i es := by
  unfold lastX
  rw [List.getLast?_eq_getElem?, List.getLast?_eq_getElem?, List.length_set]
  by_cases hk : k = es.length - 1
  · subst hk
    rw [List.getElem?_set_self (List.getElem?_eq_some_iff.1 h).1, h]
    rfl
  · rw [List.getElem?_set_ne hk]
theorem turn_may (hl : LogA all) (h : PartOf all s base last) {k : Nat} {e : EntA} (he : s.es[k]? = some e) (ea : Option Addr) (ec : Nat) : mayS (turnS s k e ea ec) = true := by
  have h1 := h.may hl
  rw [← h1]
  show (headS s && baseS s && chainL s.bidx s.bterm (s.es.set k (turnE e)) && (decide (s.bidx ≤ s.com) && decide (s.com ≤ lastX s.bidx (s.es.set k (turnE e))) && (decide (s.app = 0) || decide (s.group = 0) || mayL s.lo.toList s.hi.toList))) = _
  rw [chain_set _ _ _ _ _ he, lastX_set _ _ _ _ he]
  rfl
theorem mem_addF {is : Bool} {fs : List (Int × Int)} {f x : Int × Int} (h : x ∈ fs) : x ∈ addF is fs f := by cases is <;> simp [addF, h]
theorem check_turned (hl : LogA all) {a b : SeenA} {b1 l1 b2 l2 : Nat} (ha : PartOf all a b1 l1) (hb : PartOf all b b2 l2) (n : Nat) (hn : (n : Int) = min a.com b.com) (h1 : b1 < n) (h2 : b2 < n) {e : EntA} (he : b.es[n - b2 - 1]? = some e) (ea : Option Addr) (ec : Nat) :
    ((6 : Int), (1 : Int)) ∈ checkL [a, turnS b (n - b2 - 1) e ea ec] := by
  obtain ⟨c, hc⟩ : ∃ c, c = turnS b (n - b2 - 1) e ea ec := ⟨_, rfl⟩
  have hcm : mayS c = true := by rw [hc]; exact turn_may hl hb he ea ec
  have ca := ha.com1
  have cb := hb.com1
  have hal := ha.b1
  have hbl := hb.b1
  have hx : all[n - 1]? = some e := by
    have := hb.at_ (n - b2 - 1)
    rw [he] at this
    split at this
    · rw [show b2 + (n - b2 - 1) = n - 1 by omega] at this
      exact this.symm
    · cases this
  have hea : e ∈ a.es := by
    refine List.mem_iff_getElem?.2 ⟨n - 1 - b1, ?_⟩
    rw [ha.at_, if_pos (by omega), show b1 + (n - 1 - b1) = n - 1 by omega]
    exact hx
  have hei : e.idx = (n : Int) := by
    have := hl.idx _ _ hx
    omega
  have hat : atX c e.idx = some (turnE e) := by
    have hlt := (List.getElem?_eq_some_iff.1 he).1
    have e1 : c.bidx = (b2 : Int) := by rw [hc]; exact hb.bidx
    have e2 : c.es = b.es.set (n - b2 - 1) (turnE e) := by rw [hc]; rfl
    unfold Go.Proofs.Yteibnignjghedaa.atX
    rw [hei, e1, e2, List.length_set, if_neg (by omega), show ((n : Int) - (b2 : Int) - 1).toNat = n - b2 - 1 by omega, List.getElem?_set_self hlt]
  have hns : sameE e (turnE e) = false := by
    simp only [sameE, decide_eq_false_iff_not]
    intro h0
    have h0 := congrArg (fun x : Int × Int × Int × CmdA × List Int => x.2.2.2.1.epoch) h0
    simp only [EntA.says, turnE] at h0
    have := (hl.kind _ _ hx (by omega)).2
    omega
  have hbz : busyL a c = true := by
    rw [busyL]
    have : busyF (min a.com c.com) (commonL a c) = true := (busyF_iff _ _).2 ⟨(e, turnE e), mem_commonL.2 ⟨hea, hat⟩, by
      have e3 : c.com = b.com := by rw [hc]; rfl
      simp only
      rw [e3]; omega, hns⟩
    rw [this]; rfl
  have hargs : argsN [a, c] 2 = [] := by
    have := args_nil_iff (l := [a, c])
    refine this.2 fun s hs => ?_
    simp only [List.mem_cons, List.not_mem_nil, or_false] at hs
    rcases hs with rfl | rfl
    · exact ha.may hl
    · exact hcm
  have htabs : tabsL [a, c] = [] := tabs_none _ fun s hs => by
    simp only [List.mem_cons, List.not_mem_nil, or_false] at hs
    rcases hs with rfl | rfl
    · exact ha.app
    · rw [hc]; exact hb.app
  rw [← hc]
  have hg : a.group = c.group := by rw [ha.group, hc]; exact hb.group.symm
  have hp : ((6 : Int), (1 : Int)) ∈ pairsN [a, c] 2 := by
    show _ ∈ pairF a c 1 (rowN [a, c] c 1 (pairsN [a, c] 1) 0)
    rw [pairF, if_pos hg, hbz]
    refine mem_addF ?_
    simp [addF]
  rw [checkL]
  simp only [List.length_cons, List.length_nil, Nat.zero_add, Nat.reduceAdd]
  rw [if_pos hargs, htabs]
  exact hp
end
end Go.Proofs.Yteibnignjghedaa
