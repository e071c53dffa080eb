/-
  A region that draws its order, whose operations read and whose callees read or lay new blocks: one walk, in the order of the text. What an old block holds is kept.
-/
import Derived.Test.YtihglmicgccgiaaRows
import Derived.WalkKit
import Derived.BigQuiet
import Derived.Deep.QuietTactic
import Derived.Lib.QuietBelow
import Derived.StillTail
import Derived.Deep.RegionHeld3
import Derived.Handy
namespace Go.Proofs.Ytihglmicgccgiaa
open Go.RowKit Go.Sort

theorem ret_val {a b : Value} (h : a = b) : Ending.returned a = .returned b := by rw [h]
theorem ret_bool {a b : Bool} (h : a = b) : Ending.returned (.bool a) = .returned (.bool b) := by rw [h]
theorem ret_int {k : IntKind} {a b : Int} (h : a = b) : Ending.returned (.int k a) = .returned (.int k b) := by rw [h]
theorem ret_str {a b : ByteArray} (h : a = b) : Ending.returned (.string a) = .returned (.string b) := by rw [h]
theorem same_below {P : Program} {f : FuncId} {args : Array Value} {w : World} {v : Value} (h : Calls P f args w fun e w' => e = .returned v ∧ w = w') :
    Calls P f args w fun e w' => e = .returned v ∧ Below w.heap.size w w' := h.mono fun _ _ h => ⟨h.1, h.2 ▸ Below.refl _ _⟩

theorem after {B : Nat} {w W w1 : World} (h : Below B w W) (hW : B ≤ W.heap.size) (hb : Below W.heap.size W w1) :
    Below B w w1 ∧ B ≤ w1.heap.size ∧ ∀ b, b < W.heap.size → (∀ o, w1.cell? ⟨b, o, none⟩ = W.cell? ⟨b, o, none⟩) ∧ (∀ o, w1.frozen? ⟨b, o, none⟩ = W.frozen? ⟨b, o, none⟩) ∧ b < w1.heap.size :=
  ⟨h.trans (hb.mono hW), by have := hb.size; omega, fun b hl => ⟨fun o => hb.cell (p := ⟨b, o, none⟩) hl, fun o => hb.frozen (p := ⟨b, o, none⟩) hl, by have := hb.size; omega⟩⟩

theorem wp_region_below {P : Program} {id : Nat} {Q : Exit → Act → World → Prop} {a : Act} {w : World} {l : List Oper} (hm : P.follows .mixedOrders = true) (hB : Region.lexB .any l.toArray = true)
    (h : (∀ b, b < w.heap.size → (∀ o d os, (grow (redrawn w d) os).cell? ⟨b, o, none⟩ = w.cell? ⟨b, o, none⟩) ∧ (∀ o d os, (grow (redrawn w d) os).frozen? ⟨b, o, none⟩ = w.frozen? ⟨b, o, none⟩)) →
      wpQuiet P l.toArray (fun w' => ∃ p : Regrown, w' = grow (redrawn w p.d) p.os) (fun a' => ∀ w', Below w.heap.size w w' → Q .normal a' w') l a) : (Code.region id l.toArray true).wp P Q a w := by
  have h1 := h (fun b hb => ⟨fun o d os => (below_regrown w d os).cell (p := ⟨b, o, none⟩) hb, fun o d os => (below_regrown w d os).frozen (p := ⟨b, o, none⟩) hb⟩)
  have e : (fun a' : Act => ∀ w', Below w.heap.size w w' → Q .normal a' w') = (fun a' => ∀ w', (∃ p : Regrown, w' = grow (redrawn w p.d) p.os) → Q .normal a' w') := by
    funext a'
    apply propext
    constructor
    · rintro h2 w' ⟨p, rfl⟩; exact h2 _ (below_regrown w p.d p.os)
    · intro h2 w' hb; exact h2 _ (regrown_of_below hb)
  rw [e] at h1
  exact wp_region_quiet_below hm hB h1

/-! ### Operations that neither read memory nor write it may be taken first, whatever else the region does -/
section
variable {P : Program} {ops : Array Oper} {md : Region.Mode}

def PureAt (P : Program) (ops : Array Oper) (o : Oper) (v : Value) (a : Act) : Prop :=
  (Region.wanted o (yielded ops a.tmps) = true ∧ ∀ w, (execOp a.eval o).run P w = .ok (.value v) w) ∨ (Region.wanted o (yielded ops a.tmps) = false ∧ v = undef)

theorem PureAt.of_same {o : Oper} {v : Value} {a a' : Act} (h : PureAt P ops o v a) (he : execOp a'.eval o = execOp a.eval o) (hw : Region.wanted o (yielded ops a'.tmps) = Region.wanted o (yielded ops a.tmps)) : PureAt P ops o v a' := by
  unfold PureAt at *; rw [he, hw]; exact h

theorem upon_pure {oi oj : Oper} {v : Value} (hap : oi.apart ops oj = true) (hsi : ∀ cs b, oi.op ≠ .select cs b) {K : Act → World → Prop} {Q : Exit → Act → World → Prop} (hQ : ∀ c a w, ¬ Q (.panic c) a w) {a : Act} (hy : PureAt P ops oi v a) :
    ∀ r : Result Next, oj.upon P (a.put oi.dst v) K Q r → oj.upon P a (fun a' w' => PureAt P ops oi v a' ∧ K (a'.put oi.dst v) w') Q r := by
  obtain ⟨_, h2, h3⟩ := Oper.apart_spec hap
  have keep : ∀ (b : Act), PureAt P ops oi v b → ∀ u, PureAt P ops oi v (b.put oj.dst u) := fun b hb u => hb.of_same (execOp_put oi hsi b oj.dst u h3) (wanted_put oi b oj.dst u h3)
  have comm : ∀ u, (a.put oi.dst v).put oj.dst u = (a.put oj.dst u).put oi.dst v := fun u => Act.put_comm a v u h2
  intro r
  cases r with
  | halt x w' =>
    cases x <;> simp only [Oper.upon] <;> first | exact fun h => (hQ _ _ _ h).elim | exact fun h => h
  | ok n w' =>
    cases n with
    | value u => simp only [Oper.upon]; intro h; exact ⟨keep a hy u, by rw [← comm]; exact h⟩
    | skip => simp only [Oper.upon]; intro h; exact ⟨keep a hy _, by rw [← comm]; exact h⟩
    | defer d =>
      simp only [Oper.upon]
      intro h
      refine ⟨keep { a with defers := d :: a.defers } (hy.of_same rfl rfl) _, ?_⟩
      have e : ({ (a.put oi.dst v) with defers := d :: (a.put oi.dst v).defers } : Act).put oj.dst undef = (({ a with defers := d :: a.defers } : Act).put oj.dst undef).put oi.dst v := by
        rw [← Act.put_comm { a with defers := d :: a.defers } v undef h2]
        congr 1
        cases oi.dst <;> rfl
      rw [← e]; exact h
    | enter f args =>
      simp only [Oper.upon]
      intro h
      refine h.mono fun e w'' he => ?_
      cases e with
      | returned u => exact ⟨keep a hy u, by rw [← comm]; exact he⟩
      | panicked c => exact (hQ _ _ _ he).elim
      | outgrown => exact he
    | row r args =>
      simp only [Oper.upon]
      intro h
      exact h.mono fun u w'' he => ⟨keep a hy u, by rw [← comm]; exact he⟩
    | _ => simp only [Oper.upon]; exact fun h => h

theorem wpOp_pure {i j : Nat} {oi oj : Oper} {v : Value} (hj : ops[j]? = some oj) (hap : oi.apart ops oj = true) (hsi : ∀ cs b, oi.op ≠ .select cs b) (hsj : ∀ cs b, oj.op ≠ .select cs b)
    {K : Act → World → Prop} {Q : Exit → Act → World → Prop} (hQ : ∀ c a w, ¬ Q (.panic c) a w) {a : Act} {w : World} (hy : PureAt P ops oi v a) (h : wpOp P ops Q j K (a.put oi.dst v) w) :
    wpOp P ops Q j (fun a' w' => PureAt P ops oi v a' ∧ K (a'.put oi.dst v) w') a w := by
  obtain ⟨h1, h2, h3⟩ := Oper.apart_spec hap
  unfold wpOp at *
  simp only [hj] at *
  rw [wanted_put oj a oi.dst v h1] at h
  split
  · rename_i hw
    simp only [hw, if_true] at h
    unfold Oper.wp Oper.asks at *
    rw [execOp_put oj hsj a oi.dst v h1] at h
    exact h.imp (upon_pure hap hsi hQ hy _) id
  · rename_i hw
    simp only [hw] at h
    exact ⟨hy.of_same (execOp_put oi hsi a oj.dst _ h3) (wanted_put oi a oj.dst _ h3), by rw [← Act.put_comm a v undef h2]; exact h⟩

theorem wpAny_pure_first {i : Nat} {oi : Oper} {v : Value} (hi : ops[i]? = some oi) (hsel : ∀ (j : Nat) (o : Oper) cs b, ops[j]? = some o → o.op ≠ .select cs b) {Q : Exit → Act → World → Prop} (hQ : ∀ c a w, ¬ Q (.panic c) a w) (fuel : Nat) :
    ∀ (done : Array Bool) (a : Act) (w : World),
      (∀ j oj, ops[j]? = some oj → j ≠ i → done.getD j true = false → (∀ e ∈ oj.after, Region.binds md e = true → e.on ≠ i) → oi.apart ops oj = true) →
      i ∈ Region.ready md ops done → PureAt P ops oi v a → wpAny P md ops Q fuel (done.setIfInBounds i true) (a.put oi.dst v) w → wpAny P md ops Q (fuel + 1) done a w := by
  have one : ∀ (K : Act → World → Prop) (a : Act) (w : World), PureAt P ops oi v a → K (a.put oi.dst v) w → wpOp P ops Q i K a w := by
    intro K a w hy h
    unfold wpOp
    simp only [hi]
    rcases hy with ⟨hw, hr⟩ | ⟨hw, rfl⟩
    · rw [if_pos hw]; left; unfold Oper.wp; rw [hr w]; exact h
    · rw [if_neg (by rw [hw]; exact Bool.false_ne_true)]; exact h
  induction fuel with
  | zero =>
    intro done a w _ hr hy H
    refine ⟨fun h => absurd h (List.ne_nil_of_mem hr), fun j hj => ?_⟩
    rcases Decidable.em (j = i) with rfl | hji
    · exact one _ _ _ hy H
    · have := ready_mono hj hji
      rw [H.1] at this
      cases this
  | succ fuel ih =>
    intro done a w hfree hr hy H
    refine ⟨fun h => absurd h (List.ne_nil_of_mem hr), fun j hj => ?_⟩
    rcases Decidable.em (j = i) with rfl | hji
    · exact one _ _ _ hy H
    · obtain ⟨hjun, oj, hoj, hall⟩ := mem_ready.1 hj
      have hnot : ∀ e ∈ oj.after, Region.binds md e = true → e.on ≠ i := fun e he hb heq => by
        have := hall e he hb
        rw [heq, getD_both (mem_ready.1 hr).1] at this
        cases this
      refine wpOp_mono (fun a' w' h3 => ih _ a' w' ?_ (ready_mono hr (Ne.symm hji)) h3.1 ?_)
        (wpOp_pure (i := i) hoj (hfree j oj hoj hji hjun hnot) (fun cs b => hsel i oi cs b hi) (fun cs b => hsel j oj cs b hoj) hQ hy (H.2 j (ready_mono hj hji)))
      · intro k ok hk hki hun hno
        refine hfree k ok hk hki ?_ hno
        rcases Decidable.em (j = k) with rfl | hjk
        · exact hjun
        · rwa [getD_set_ne true hjk] at hun
      · rw [Array.setIfInBounds_comm _ _ hji]
        exact h3.2

end
/-! ### A quiet head, then a tail in a forced order (the class of worlds: whatever lies below is as it was) -/
section
variable {P : Program} {ops : Array Oper} {md : Region.Mode} {C : World → Prop} {n : Nat}

/-- f operations of the head come up, in whatever order; then L. -/
def headQ (P : Program) (md : Region.Mode) (ops : Array Oper) (C : World → Prop) (n : Nat) (L : Array Bool → Act → Prop) : Nat → Array Bool → Act → Prop
  | 0, done, a => L done a
  | f + 1, done, a => Region.ready md ops done ≠ [] ∧ ∀ i ∈ Region.ready md ops done, i < n ∧ qOp P ops C i (headQ P md ops C n L f (done.setIfInBounds i true)) a

theorem headQ_any {g : Nat} {L : Array Bool → Act → Prop} {Q : Exit → Act → World → Prop} (hL : ∀ done a w, C w → L done a → wpAny P md ops Q g done a w) :
    ∀ f done a w, C w → headQ P md ops C n L f done a → wpAny P md ops Q (f + g) done a w
  | 0, _, _, _, hw, h => by rw [Nat.zero_add]; exact hL _ _ _ hw h
  | f + 1, _, _, _, hw, h => by
    have e : f + 1 + g = (f + g) + 1 := by omega
    rw [e]
    exact ⟨fun h0 => absurd h0 h.1, fun i hi => wpOp_of_qOp hw (fun a' w' hw' h' => headQ_any hL f _ a' w' hw' h') (h.2 i hi).2⟩

/-- Each head operation from p on is waited for by a later one, of the head or the tail's first. -/
def sinkP (md : Region.Mode) (ops : Array Oper) (p n : Nat) : Bool := (List.range n).all fun i => decide (i < p) || (List.range (n + 1)).any fun j => decide (i < j) && Region.waitsFor md ops j i

theorem tail_waitsP {p : Nat} {done : Array Bool} (hs : sinkP md ops p n = true) (hc : Region.chainB md ops n = true) (hn : n < ops.size) (inv : HeadInv md ops n done) (i : Nat) :
    p ≤ i → i < n → done.getD i true = false → ∀ t, n ≤ t → t ∉ Region.ready md ops done := by
  generalize hd : n - i = d
  induction d using Nat.strongRecOn generalizing i with
  | _ d ih =>
    intro hp hi hun t ht hr
    obtain ⟨_, ot, hot, hall⟩ := mem_ready.1 hr
    have htl : t < ops.size := (Array.getElem?_eq_some_iff.1 hot).1
    rcases Nat.lt_or_ge n t with hlt | hge
    · have h1 := List.all_eq_true.1 hc t (List.mem_range.2 htl)
      simp only [Bool.or_eq_true, decide_eq_true_eq] at h1
      rcases h1 with h1 | h1
      · omega
      · obtain ⟨o', ho', e, he, hb, hon⟩ := Region.waitsFor_spec h1
        obtain rfl : o' = ot := Option.some.inj (ho'.symm.trans hot)
        have h2 := hall e he hb
        rw [hon, getD_both (inv.tail (t - 1) (by omega) (by omega))] at h2
        cases h2
    · obtain rfl : t = n := by omega
      have h1 := List.all_eq_true.1 hs i (List.mem_range.2 hi)
      simp only [Bool.or_eq_true, decide_eq_true_eq] at h1
      rcases h1 with h1 | h1
      · omega
      · obtain ⟨j, hj, hj2⟩ := List.any_eq_true.1 h1
        simp only [Bool.and_eq_true, decide_eq_true_eq] at hj2
        obtain ⟨oj, hoj, e, he, hb, hon⟩ := Region.waitsFor_spec hj2.2
        have hjt : j ≤ t := by have := List.mem_range.1 hj; omega
        rcases Nat.lt_or_ge j t with hlt | hge'
        · cases hl : done.getD j false with
          | true =>
            have h2 := inv.closed j oj hoj hl e he hb
            rw [hon, getD_both hun] at h2
            cases h2
          | false => exact ih (t - j) (by omega) j rfl (by omega) hlt (getD_in (by rw [inv.size]; omega) hl) t (Nat.le_refl _) hr
        · obtain rfl : j = t := by omega
          obtain rfl : oj = ot := Option.some.inj (hoj.symm.trans hot)
          have h2 := hall e he hb
          rw [hon, getD_both hun] at h2
          cases h2

/-- What is ready and apart from all that need not wait for it may come first. -/
theorem headQ_first {p i : Nat} {oi : Oper} {v : Value} {L : Array Bool → Act → Prop} (hi : ops[i]? = some oi) (hsel : ∀ (j : Nat) (o : Oper) cs b, ops[j]? = some o → o.op ≠ .select cs b)
    (hs : sinkP md ops p n = true) (hc : Region.chainB md ops n = true) (hn : n < ops.size) (hip : p ≤ i) (hin : i < n)
    (hdone : ∀ done a, L done a → ∀ j ∈ Region.ready md ops done, n ≤ j) (f : Nat) :
    ∀ done a, HeadInv md ops n done →
      (∀ j oj, ops[j]? = some oj → j ≠ i → done.getD j true = false → (∀ e ∈ oj.after, Region.binds md e = true → e.on ≠ i) → oi.apart ops oj = true) →
      i ∈ Region.ready md ops done → YieldsIn P ops C oi v a → headQ P md ops C n L f (done.setIfInBounds i true) (a.put oi.dst v) → headQ P md ops C n L (f + 1) done a := by
  induction f with
  | zero =>
    intro done a inv _ hr hy H
    refine ⟨List.ne_nil_of_mem hr, fun j hj => ?_⟩
    have hjn : j < n := Nat.lt_of_not_le fun h => tail_waitsP hs hc hn inv i hip hin (mem_ready.1 hr).1 j h hj
    refine ⟨hjn, ?_⟩
    rcases Decidable.em (j = i) with rfl | hji
    · exact hy.qOp hi H
    · exact absurd (hdone _ _ H j (ready_mono hj hji)) (by omega)
  | succ f ih =>
    intro done a inv hfree hr hy H
    refine ⟨List.ne_nil_of_mem hr, fun j hj => ?_⟩
    have hjn : j < n := Nat.lt_of_not_le fun h => tail_waitsP hs hc hn inv i hip hin (mem_ready.1 hr).1 j h hj
    refine ⟨hjn, ?_⟩
    rcases Decidable.em (j = i) with rfl | hji
    · exact hy.qOp hi H
    · obtain ⟨hjun, oj, hoj, hall⟩ := mem_ready.1 hj
      have hnot : ∀ e ∈ oj.after, Region.binds md e = true → e.on ≠ i := fun e he hb heq => by
        have := hall e he hb
        rw [heq, getD_both (mem_ready.1 hr).1] at this
        cases this
      refine qOp_mono (fun a' h3 => ih _ a' (inv.set hj hjn) ?_ (ready_mono hr (Ne.symm hji)) h3.1 ?_)
        (qOp_put hoj (hfree j oj hoj hji hjun hnot) (fun cs b => hsel i oi cs b hi) (fun cs b => hsel j oj cs b hoj) hy (H.2 j (ready_mono hj hji)).2)
      · intro k ok hk hki hun hno
        refine hfree k ok hk hki ?_ hno
        rcases Decidable.em (j = k) with rfl | hjk
        · exact hjun
        · rwa [getD_set_ne true hjk] at hun
      · rw [Array.setIfInBounds_comm _ _ hji]
        exact h3.2

theorem headQ_lex {p g : Nat} {Lq : Act → Prop} (hsel : Region.noSelect ops = true) (hs : sinkP md ops p n = true) (hc : Region.chainB md ops n = true) (hn : n < ops.size) :
    ∀ (l : List Oper) (k : Nat) (done : Array Bool) (a : Act), (∀ j, j < l.length → l[j]? = ops[k + j]?) → p ≤ k → k + l.length = n → HeadInv md ops n done →
      Region.lexHead md ops g l.length k done = true → wpQuiet P ops C Lq l a → headQ P md ops C n (fun d a' => Region.seqB md ops g n d = true ∧ Lq a') l.length done a
  | [], k, done, a, _, _, hk, _, hB, h => by
    obtain rfl : k = n := by simpa using hk
    exact ⟨by simpa [Region.lexHead] using hB, h⟩
  | o :: l, k, done, a, hl, hpk, hk, inv, hB, h => by
    simp only [List.length_cons] at hk
    have h0 : ops[k]? = some o := by simpa using (hl 0 (by simp)).symm
    simp only [List.length_cons, Region.lexHead, Bool.and_eq_true] at hB
    have hr : k ∈ Region.ready md ops done := by simpa using hB.1.1
    obtain ⟨v, hy, hK⟩ := yieldsIn_of_qOp h0 (show qOp P ops C k (wpQuiet P ops C Lq l) a by unfold qOp; simp only [h0]; exact h)
    refine headQ_first h0 (Region.noSelect_spec hsel) hs hc hn hpk (by omega) (fun d a' hL => seqB_ready hL.1) l.length done a inv (Region.free_spec h0 hB.1.2) hr hy ?_
    exact headQ_lex hsel hs hc hn l (k + 1) _ _ (fun j hj => by have := hl (j + 1) (by simp; omega); simpa [Nat.add_assoc, Nat.add_comm 1 j] using this) (by omega) (by omega) (inv.set hr (by omega)) hB.2 hK

/-- A walk over operations that neither read nor write. -/
def wpPure (P : Program) (ops : Array Oper) (K : Act → Prop) : List Oper → Act → Prop
  | [], a => K a
  | o :: rest, a => ∃ v, PureAt P ops o v a ∧ wpPure P ops K rest (a.put o.dst v)

theorem any_of_pure {f g : Nat} {Q : Exit → Act → World → Prop} (hQ : ∀ c a w, ¬ Q (.panic c) a w) (hsel : Region.noSelect ops = true) {K : Act → World → Prop} (w : World)
    (hK : ∀ (done : Array Bool) (a : Act) (k : Nat), Region.lexHead md ops g f k done = true → HeadInv md ops n done → k + f = n → K a w → wpAny P md ops Q (f + g) done a w) :
    ∀ (l : List Oper) (k : Nat) (done : Array Bool) (a : Act), (∀ j, j < l.length → l[j]? = ops[k + j]?) → k + (l.length + f) = n → HeadInv md ops n done →
      Region.lexHead md ops g (l.length + f) k done = true → wpPure P ops (fun a' => K a' w) l a → wpAny P md ops Q (l.length + f + g) done a w
  | [], k, done, a, _, hk, inv, hB, h => by
    simp only [List.length_nil, Nat.zero_add] at hB hk ⊢
    exact hK done a k hB inv hk h
  | o :: l, k, done, a, hl, hk, inv, hB, h => by
    simp only [List.length_cons] at hk
    have h0 : ops[k]? = some o := by simpa using (hl 0 (by simp)).symm
    have e1 : (o :: l).length + f = (l.length + f) + 1 := by simp only [List.length_cons]; omega
    rw [e1] at hB ⊢
    simp only [Region.lexHead, Bool.and_eq_true] at hB
    have hr : k ∈ Region.ready md ops done := by simpa using hB.1.1
    obtain ⟨v, hy, hn⟩ := h
    have e2 : l.length + f + 1 + g = (l.length + f + g) + 1 := by omega
    rw [e2]
    refine wpAny_pure_first h0 (Region.noSelect_spec hsel) hQ _ done a w (Region.free_spec h0 hB.1.2) hr hy ?_
    exact any_of_pure hQ hsel w hK l (k + 1) _ _ (fun j hj => by have := hl (j + 1) (by simp; omega); simpa [Nat.add_assoc, Nat.add_comm 1 j] using this) (by omega) (inv.set hr (by omega)) hB.2 hn

def mixB (md : Region.Mode) (ops : Array Oper) (p n : Nat) : Bool :=
  Region.noSelect ops && decide (n < ops.size) && decide (p ≤ n) && sinkP md ops p n && Region.chainB md ops n && Region.lexHead md ops (ops.size - n) n 0 (Array.replicate ops.size false)

/-- THE RULE: p operations that neither read nor write; then, up to the n-th, operations quiet in the class; behind them the rest, one by one, in any world of the class. (No panic in the region.) -/
theorem wp_region_mix {id : Nat} {Q : Exit → Act → World → Prop} {a : Act} {w : World} {l : List Oper} (p n : Nat) (hm : P.follows .mixedOrders = true) (hB : mixB .any l.toArray p n = true) (hC : C { w with drawn := w.drawn + 1 })
    (h : wpPure P l.toArray (fun a1 => wpQuiet P l.toArray C (fun a' => ∀ w', C w' → wpList P l.toArray (NoPanic Q) (l.drop n) a' w') ((l.take n).drop p) a1) (l.take p) a) : (Code.region id l.toArray true).wp P Q a w := by
  simp only [mixB, Bool.and_eq_true, decide_eq_true_eq] at hB
  obtain ⟨⟨⟨⟨⟨hsel, hn⟩, hpn⟩, hs⟩, hc⟩, hlex⟩ := hB
  have hn' : n < l.length := by simpa using hn
  have htl : (l.take p).length = p := by rw [List.length_take]; omega
  have hml : ((l.take n).drop p).length = n - p := by rw [List.length_drop, List.length_take]; omega
  have hdl : (l.drop n).length = l.toArray.size - n := by simp
  have inv : HeadInv .any l.toArray n (Array.replicate l.toArray.size false) :=
    ⟨by simp, fun j _ _ hl => (by rw [getD_replicate_false] at hl; cases hl), fun t _ ht => getD_in (by simpa using ht) (getD_replicate_false _ _)⟩
  refine wp_region_noPanic (wp_region_any hm ?_)
  have R := any_of_pure (P := P) (md := .any) (n := n) (f := n - p) (g := l.toArray.size - n) (Q := NoPanic Q) (fun c a w h => h) hsel
    (K := fun a1 _ => wpQuiet P l.toArray C (fun a' => ∀ w', C w' → wpList P l.toArray (NoPanic Q) (l.drop n) a' w') ((l.take n).drop p) a1) { w with drawn := w.drawn + 1 }
    (fun done a1 k hlex' inv' hk hq => by
      have hkp : k = p := by omega
      subst hkp
      have H := headQ_lex (md := .any) (p := k) (g := l.toArray.size - n) hsel hs hc hn ((l.take n).drop k) k done a1 (fun j hj => by
        rw [hml] at hj
        rw [List.getElem?_drop, List.getElem?_take_of_lt (by omega)]
        simp) (Nat.le_refl _) (by rw [hml]; omega) inv' (by rw [hml]; exact hlex') hq
      have R := headQ_any (Q := NoPanic Q) (g := l.toArray.size - n) (fun done a' w' hw' hL => by
        have := wpAny_of_seq (md := .any) (Q' := NoPanic Q) (l.drop n) n done a' w' (fun j => by simp [List.getElem?_drop]) (by rw [hdl]; exact hL.1) (hL.2 w' hw')
        rwa [hdl] at this) _ _ _ _ hC H
      rwa [hml] at R) (l.take p) 0 _ a (fun j hj => by
        rw [htl] at hj
        rw [List.getElem?_take_of_lt hj]
        simp) (by rw [htl]; omega) inv (by rw [htl, show p + (n - p) = n by omega]; exact hlex) h
  rw [htl, show p + (n - p) + (l.toArray.size - n) = l.toArray.size by omega] at R
  exact R
end

theorem wpPure_nil {P : Program} {ops : Array Oper} {K : Act → Prop} {a : Act} (h : K a) : wpPure P ops K [] a := h
theorem wpPure_step {P : Program} {ops : Array Oper} {K : Act → Prop} {a : Act} {o : Oper} {rest : List Oper} (hg : o.guard = none) (v : Value) (hr : ∀ w, (execOp a.eval o).run P w = .ok (.value v) w) (h : wpPure P ops K rest (a.put o.dst v)) : wpPure P ops K (o :: rest) a :=
  ⟨v, .inl ⟨by simp [Region.wanted, hg], hr⟩, h⟩

theorem wpPure_move {P : Program} {ops : Array Oper} {K : Act → Prop} {a : Act} {o : Oper} {rest : List Oper} (x : Operand) (hg : o.guard = none) (ho : o.op = .move x)
    (h : ∀ K' : Act → Prop, (∀ a, wpPure P ops K rest a → K' a) → K' (a.put o.dst (a.eval x))) : wpPure P ops K (o :: rest) a :=
  wpPure_step hg (a.eval x) (fun w => BigFrame.run_move x ho w) (h _ fun _ h => h)

theorem wp_region_below_mix {P : Program} {id : Nat} {Q : Exit → Act → World → Prop} {a : Act} {w : World} {l : List Oper} (p n : Nat) (hm : P.follows .mixedOrders = true) (hB : mixB .any l.toArray p n = true)
    (h : (∀ b, b < w.heap.size → (∀ o d os, (grow (redrawn w d) os).cell? ⟨b, o, none⟩ = w.cell? ⟨b, o, none⟩) ∧ (∀ o d os, (grow (redrawn w d) os).frozen? ⟨b, o, none⟩ = w.frozen? ⟨b, o, none⟩)) →
      wpPure P l.toArray (fun a1 => wpQuiet P l.toArray (fun w' => ∃ p : Regrown, w' = grow (redrawn w p.d) p.os) (fun a' => ∀ w', Below w.heap.size w w' → wpList P l.toArray (NoPanic Q) (l.drop n) a' w') ((l.take n).drop p) a1) (l.take p) a) : (Code.region id l.toArray true).wp P Q a w := by
  have h1 := h (fun b hb => ⟨fun o d os => (below_regrown w d os).cell (p := ⟨b, o, none⟩) hb, fun o d os => (below_regrown w d os).frozen (p := ⟨b, o, none⟩) hb⟩)
  have e : (fun a' : Act => ∀ w', Below w.heap.size w w' → wpList P l.toArray (NoPanic Q) (l.drop n) a' w') = (fun a' => ∀ w', (∃ p : Regrown, w' = grow (redrawn w p.d) p.os) → wpList P l.toArray (NoPanic Q) (l.drop n) a' w') := by
    funext a'
    apply propext
    constructor
    · rintro h2 w' ⟨p, rfl⟩; exact h2 _ (below_regrown w p.d p.os)
    · intro h2 w' hb; exact h2 _ (regrown_of_below hb)
  rw [e] at h1
  exact wp_region_mix (C := fun w' => ∃ p : Regrown, w' = grow (redrawn w p.d) p.os) p n hm hB ⟨⟨w.drawn + 1, #[]⟩, by rw [grow_empty]; rfl⟩ h1

/-- The same with no operation of the first kind, the region's own panics borne. -/
theorem wp_region_below_tail {P : Program} {id : Nat} {Q : Exit → Act → World → Prop} {a : Act} {w : World} {l : List Oper} (n : Nat) (hm : P.follows .mixedOrders = true) (hB : mixB .any l.toArray 0 n = true)
    (h : (∀ b, b < w.heap.size → (∀ o d os, (grow (redrawn w d) os).cell? ⟨b, o, none⟩ = w.cell? ⟨b, o, none⟩) ∧ (∀ o d os, (grow (redrawn w d) os).frozen? ⟨b, o, none⟩ = w.frozen? ⟨b, o, none⟩)) →
      wpQuiet P l.toArray (fun w' => ∃ p : Regrown, w' = grow (redrawn w p.d) p.os) (fun a' => ∀ w', Below w.heap.size w w' → wpList P l.toArray (NoPanic Q) (l.drop n) a' w') (l.take n) a) : (Code.region id l.toArray true).wp P Q a w :=
  wp_region_below_mix 0 n hm hB (fun hk => h hk)


end Go.Proofs.Ytihglmicgccgiaa
