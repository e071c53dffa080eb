/-
  A region that draws its order, inside a round of a range over a function, whose operations only read: one walk, in the order of the text, in one world.
-/
import Derived.Test.YtihglmicgccgiaaFree
import Derived.OrdersIn
namespace Go.Proofs.Ytihglmicgccgiaa
open Go.RowKit Go.Sort
section
variable {F : Fence} {n : Nat} {P : Program} {ops : Array Oper}

/-- Run in W, it gives a value, in W. -/
def readsUpon (W : World) (R : Value → Prop) : Result Next → Prop
  | .ok (.value v) w' => w' = W ∧ R v
  | _ => False
def wpReads (P : Program) (ops : Array Oper) (W : World) (K : Act → Prop) : List Oper → Act → Prop
  | [], a => K a
  | o :: rest, a => if Region.wanted o (yielded ops a.tmps) then readsUpon W (fun v => wpReads P ops W K rest (a.put o.dst v)) ((execOp a.eval o).run P W) else wpReads P ops W K rest (a.put o.dst undef)
theorem wpReads_nil {W : World} {K : Act → Prop} {a : Act} (h : K a) : wpReads P ops W K [] a := h
theorem readsUpon_mono {W : World} {R R' : Value → Prop} (h : ∀ v, R v → R' v) {r : Result Next} (hr : readsUpon W R r) : readsUpon W R' r := by
  cases r with
  | ok n w => cases n <;> simp only [readsUpon] at hr ⊢; exact ⟨hr.1, h _ hr.2⟩
  | halt x w => exact hr
theorem wpReads_step {W : World} {K : Act → Prop} {a : Act} {o : Oper} {rest : List Oper}
    (h : ∀ K' : Act → Prop, (∀ a, wpReads P ops W K rest a → K' a) → if Region.wanted o (yielded ops a.tmps) then readsUpon W (fun v => K' (a.put o.dst v)) ((execOp a.eval o).run P W) else K' (a.put o.dst undef)) : wpReads P ops W K (o :: rest) a :=
  h _ fun _ h => h

/-- What one operation yields in W. -/
def ReadsAt (P : Program) (ops : Array Oper) (W : World) (o : Oper) (v : Value) (a : Act) : Prop :=
  (Region.wanted o (yielded ops a.tmps) = true ∧ (execOp a.eval o).run P W = .ok (.value v) W) ∨ (Region.wanted o (yielded ops a.tmps) = false ∧ v = undef)
theorem reads_facts {W : World} {K : Act → Prop} : ∀ (l : List Oper) (k : Nat) (a : Act), (∀ j, j < l.length → ops[k + j]? = l[j]?) → wpReads P ops W K l a →
    ∃ f : Nat → Value, K (lexFrom ops f k a l.length) ∧ ∀ j o, j < l.length → ops[k + j]? = some o → ReadsAt P ops W o (f (k + j)) (lexFrom ops f k a j)
  | [], k, a, _, h => ⟨fun _ => undef, h, fun j o hj => by simp at hj⟩
  | o :: l, k, a, hl, h => by
    have ho : ops[k]? = some o := by have := hl 0 (by simp); simpa using this
    have hd : dstOf ops k = o.dst := by simp [dstOf, ho]
    have step : ∃ v, ReadsAt P ops W o v a ∧ wpReads P ops W K l (a.put o.dst v) := by
      simp only [wpReads] at h
      split at h
      · rename_i hw
        generalize hr : (execOp a.eval o).run P W = r at h
        cases r with
        | ok n w1 =>
          cases n <;> simp only [readsUpon] at h
          obtain ⟨rfl, h⟩ := h
          exact ⟨_, .inl ⟨hw, hr⟩, h⟩
        | halt x w1 => simp only [readsUpon] at h
      · rename_i hw
        exact ⟨undef, .inr ⟨by simpa using hw, rfl⟩, h⟩
    obtain ⟨v, h1, h2⟩ := step
    obtain ⟨f, h3, h4⟩ := reads_facts l (k + 1) (a.put o.dst v) (fun j hj => by
      have := hl (j + 1) (by simpa using hj)
      rw [show k + 1 + j = k + (j + 1) by omega, this]; simp) h2
    refine ⟨fun i => if i = k then v else f i, ?_, ?_⟩
    · rw [List.length_cons, Nat.add_comm, lexFrom_add]
      simp only [lexFrom, Nat.add_zero, if_true, hd]
      rw [lexFrom_congr (g := f) (fun i h1 _ => by rw [if_neg (by omega)])]
      exact h3
    · intro j o' hj ho'
      cases j with
      | zero =>
        rw [Nat.add_zero] at ho'
        obtain rfl := Option.some.inj (ho.symm.trans ho')
        simpa [lexFrom] using h1
      | succ j =>
        have h5 := h4 j o' (by simpa using hj) (by rw [show k + 1 + j = k + (j + 1) by omega]; exact ho')
        rw [Nat.add_comm j 1, lexFrom_add]
        simp only [lexFrom, Nat.add_zero, if_true, hd]
        rw [lexFrom_congr (g := f) (fun i h1 _ => by rw [if_neg (by omega)]), if_neg (by omega), show k + (1 + j) = k + 1 + j by omega]
        exact h5

theorem RInv.step {f : Nat → Value} {N : Nat} {a0 : Act} {W : World} {listed : Array Bool} {a : Act} {Q' : Exit → Act → World → Prop} (hfn : ∀ f, F.fn f) (D : ∀ o : Oper, (∃ i : Nat, ops[i]? = some o) → ∀ c, o.op ≠ .defer c) (hns : Region.noSelect ops = true) (G : Free ops [] N) (hN : a0.tmps.size = N)
    (X : ∀ (i : Nat) (o : Oper), ops[i]? = some o → ReadsAt P ops W o (f i) (lexFrom ops f 0 a0 i))
    (h : FInv ops [] f a0 W listed a W) {i : Nat} (hr : i ∈ Region.ready .any ops listed) : wpOpIn F n P ops Q' i (fun a' w' => w' = W ∧ FInv ops [] f a0 W (listed.setIfInBounds i true) a' W) a W := by
  obtain ⟨hl, o, ho, hdep⟩ := ready_spec hr
  obtain ⟨d, hod, hd⟩ := G.dst i o ho (lt_of_some ho)
  have hl' : listed.getD i false = false := by rw [getD_any (by rw [h.len]; exact lt_of_some ho) false true]; exact hl
  have hs : ∀ cs b, o.op ≠ .select cs b := fun cs b => Region.noSelect_spec hns i o cs b ho
  obtain ⟨vs, _, h2⟩ := h.looks G hN (fun _ h => (List.not_mem_nil h).elim) ho hdep
  have e1 := exec_same (ops := ops) (a' := a) hs h2
  have e2 := wanted_same h2
  have hx := X i o ho
  unfold ReadsAt at hx
  simp only [kdOf, Kd.uses, putL] at e1 e2
  rw [← e1, ← e2] at hx
  have hput := h.put G hN (fun _ _ _ _ _ _ => trivial) (Grown.refl W) hd hl' (v := f i) (fun _ => rfl) trivial
  unfold Go.wpOpIn
  simp only [ho]
  rcases hx with ⟨h3, h4⟩ | ⟨h3, h4⟩
  · rw [if_pos h3]
    unfold Oper.wpIn
    refine ⟨fun f _ => hfn f, ?_⟩
    rw [Oper.semAt_eq _ _ _ (D o ⟨i, ho⟩), h4, Oper.uponIn_value, hod]
    exact ⟨rfl, hput⟩
  · rw [if_neg (by rw [h3]; exact Bool.false_ne_true)]
    refine ⟨fun f _ => hfn f, by trivial, ?_⟩
    rw [h4] at hput
    rw [hod]; exact hput

theorem reads_any {f : Nat → Value} {N : Nat} {a0 : Act} {W : World} {Q' : Exit → Act → World → Prop} (hfn : ∀ f, F.fn f) (D : ∀ o : Oper, (∃ i : Nat, ops[i]? = some o) → ∀ c, o.op ≠ .defer c) (hns : Region.noSelect ops = true) (G : Free ops [] N) (hN : a0.tmps.size = N)
    (X : ∀ (i : Nat) (o : Oper), ops[i]? = some o → ReadsAt P ops W o (f i) (lexFrom ops f 0 a0 i)) (hQ : Q' .normal (lexFrom ops f 0 a0 ops.size) W) :
    ∀ (fuel : Nat) (listed : Array Bool) (a : Act), FInv ops [] f a0 W listed a W → listed.toList.count false ≤ fuel → wpAnyIn F n P .any ops Q' fuel listed a W := by
  have done : ∀ (listed : Array Bool) (a : Act), FInv ops [] f a0 W listed a W → Region.ready .any ops listed = [] → Q' .normal a W := fun listed a h hr => by
    obtain ⟨vs, _, rfl⟩ := h.fin G hN (fun j hj => by cases hj) (h.all_listed G hr) (fun j hj => by cases hj)
    exact hQ
  intro fuel
  induction fuel with
  | zero =>
    intro listed a h hc
    have hr : Region.ready .any ops listed = [] := by
      rw [List.eq_nil_iff_forall_not_mem]
      intro i hi
      obtain ⟨hl, o, ho, _⟩ := ready_spec hi
      have hlt : i < listed.size := by rw [h.len]; exact lt_of_some ho
      have : false ∈ listed.toList := by
        rw [Array.getD_eq_getD_getElem?, Array.getElem?_eq_getElem hlt] at hl
        simp only [Option.getD_some] at hl
        rw [← hl]
        simp
      have := List.count_pos_iff.2 this
      omega
    exact ⟨hr, done _ _ h hr⟩
  | succ fuel ih =>
    intro listed a h hc
    refine ⟨done _ _ h, fun i hi => wpOpIn_mono (fun a' w' h' => ?_) (RInv.step hfn D hns G hN X h hi)⟩
    obtain ⟨rfl, h'⟩ := h'
    refine ih _ _ h' ?_
    obtain ⟨hl, o, ho, _⟩ := ready_spec hi
    have hlt : i < listed.size := by rw [h.len]; exact lt_of_some ho
    have hlv : listed[i] = false := by
      rw [Array.getD_eq_getD_getElem?, Array.getElem?_eq_getElem hlt] at hl
      simpa using hl
    have hcs := List.count_set (a := true) (b := false) (l := listed.toList) (i := i) (by simpa using hlt)
    have hpos : 0 < listed.toList.count false := List.count_pos_iff.2 (by rw [← hlv]; simp)
    have hcs' : (listed.setIfInBounds i true).toList.count false = listed.toList.count false - 1 := by
      rw [Array.toList_setIfInBounds, hcs]
      simp [hlv]
    omega

def noDeferB (l : List Oper) : Bool := l.all fun o => match o.op with
  | .defer _ => false
  | _ => true

/-- THE RULE. -/
theorem wpIn_region_reads {id : Nat} {Q : Exit → Act → World → Prop} {a : Act} {w : World} {l : List Oper} (N : Nat) (hfn : ∀ f, F.fn f) (hm : P.follows .mixedOrders = true) (hsel : Region.noSelect l.toArray = true) (hd : noDeferB l = true) (hF : freeB l.toArray [] N = true) (hN : a.tmps.size = N)
    (h : wpReads P l.toArray w.drew (fun a' => Q .normal a' w.drew) l a) : (Code.region id l.toArray true).wpIn F n P Q a w := by
  obtain ⟨f, hK, hf⟩ := reads_facts l 0 a (fun j hj => by simp) h
  simp only [Nat.zero_add] at hf
  refine wpIn_region_any hm ?_
  refine reads_any (f := f) (W := w.drew) hfn (fun o ho c hc => ?_) hsel (Free.of hF) hN (fun i o ho => hf i o (by simpa using lt_of_some ho) ho) ?_ _ _ _ ⟨Grown.refl _, rfl, rfl, by simp, fun _ _ => rfl, fun i t hi => ?_⟩ ?_
  · obtain ⟨i, ho⟩ := ho
    have := List.all_eq_true.1 hd o (by simpa using Array.mem_of_getElem? ho)
    rw [hc] at this
    cases this
  · simpa using hK
  · rw [Array.getD_eq_getD_getElem?, Array.getElem?_replicate] at hi
    split at hi <;> simp at hi
  · simp
end
end Go.Proofs.Ytihglmicgccgiaa

/-
  A region that draws its order inside a fence: its first operations only read, the others wait for all that stand ahead of them: one walk, in the order of the text.
-/
namespace Go.Proofs.Ytihglmicgccgiaa
open Go.RowKit Go.Sort
section
variable {F : Fence} {n : Nat} {P : Program} {ops : Array Oper}

/-- operation i waits for j, through others or not -/
def reach (ops : Array Oper) : Nat → Nat → Nat → Bool
  | 0, _, _ => false
  | k + 1, i, j => match ops[i]? with
    | none => false
    | some o => o.after.any fun e => Region.binds .any e && (e.on == j || reach ops k e.on j)
def DepsIn (L : Nat → Bool) (o : Oper) : Prop := ∀ e ∈ o.after, Region.binds .any e = true → L e.on = true
theorem reach_listed {L : Nat → Bool} (dc : ∀ (i : Nat) (o : Oper), L i = true → ops[i]? = some o → DepsIn L o) : ∀ (k i j : Nat), reach ops k i j = true → (∀ o, ops[i]? = some o → DepsIn L o) → L j = true
  | 0, i, j, h, _ => by cases h
  | k + 1, i, j, h, hd => by
    unfold reach at h
    cases ho : ops[i]? with
    | none => rw [ho] at h; cases h
    | some o =>
      rw [ho] at h
      obtain ⟨q, hq, he⟩ := Array.any_eq_true.1 h
      simp only [Bool.and_eq_true, Bool.or_eq_true, beq_iff_eq] at he
      have h1 := hd o ho _ (Array.getElem_mem hq) he.1
      rcases he.2 with h2 | h2
      · rw [← h2]; exact h1
      · exact reach_listed dc k _ j h2 (fun o2 ho2 => dc _ o2 h1 ho2)
/-- each operation from number m on waits for all ahead of it -/
def tailB (ops : Array Oper) (m : Nat) : Bool :=
  (List.range ops.size).all fun i => match ops[i]? with
    | none => true
    | some o => o.after.all (fun e => decide (e.on < i)) && (decide (i < m) || (List.range i).all fun j => reach ops ops.size i j)
theorem tailB_back {m : Nat} (h : tailB ops m = true) {i : Nat} {o : Oper} (ho : ops[i]? = some o) : ∀ e ∈ o.after, e.on < i := by
  have h1 := List.all_eq_true.1 h i (List.mem_range.2 (lt_of_some ho))
  rw [ho] at h1
  simp only [Bool.and_eq_true] at h1
  exact fun e he => by simpa using (Array.all_eq_true_iff_forall_mem.1 h1.1) e he
theorem tailB_spec {m : Nat} (h : tailB ops m = true) {i : Nat} {o : Oper} (ho : ops[i]? = some o) (hm : m ≤ i) : (∀ e ∈ o.after, e.on < i) ∧ ∀ j, j < i → reach ops ops.size i j = true := by
  have h1 := List.all_eq_true.1 h i (List.mem_range.2 (lt_of_some ho))
  rw [ho] at h1
  simp only [Bool.or_eq_true, decide_eq_true_eq, Bool.and_eq_true] at h1
  refine ⟨tailB_back h ho, fun j hj => ?_⟩
  rcases h1.2 with h2 | h2
  · omega
  · exact List.all_eq_true.1 h2 j (List.mem_range.2 hj)
theorem tail_any {Q : Exit → Act → World → Prop} : ∀ (fuel m : Nat) (listed : Array Bool) (a : Act) (w : World), tailB ops m = true → m ≤ ops.size → listed.size = ops.size → (∀ i, i < ops.size → listed.getD i false = decide (i < m)) → ops.size - m ≤ fuel →
    wpListIn F n P ops Q (ops.toList.drop m) a w → wpAnyIn F n P .any ops Q fuel listed a w := by
  have hend : ∀ (m : Nat) (listed : Array Bool), m = ops.size → listed.size = ops.size → (∀ i, i < ops.size → listed.getD i false = decide (i < m)) → Region.ready .any ops listed = [] := by
    intro m listed hm hl h
    rw [List.eq_nil_iff_forall_not_mem]
    intro i hi
    obtain ⟨h1, o, ho, _⟩ := ready_spec hi
    have hlt := lt_of_some ho
    have h2 := h i hlt
    rw [getD_any (by rw [hl]; exact hlt) false true, h1] at h2
    simp at h2; omega
  have hdone : ∀ (m : Nat) (a : Act) (w : World), m = ops.size → wpListIn F n P ops Q (ops.toList.drop m) a w → Q .normal a w := by
    intro m a w hm h
    rw [List.drop_of_length_le (by rw [hm]; simp)] at h
    exact h
  intro fuel
  induction fuel with
  | zero =>
    intro m listed a w hB hm hl h hf hw
    exact ⟨hend m listed (by omega) hl h, hdone m a w (by omega) hw⟩
  | succ fuel ih =>
    intro m listed a w hB hm hl h hf hw
    rcases Nat.lt_or_ge m ops.size with hlt | hge
    · have ho : ops[m]? = some ops[m] := Array.getElem?_eq_getElem hlt
      have hr : m ∈ Region.ready .any ops listed := by
        simp only [Region.ready, List.mem_filter, List.mem_range, Bool.and_eq_true, Bool.not_eq_true']
        refine ⟨hlt, by rw [getD_any (by rw [hl]; exact hlt) true false, h m hlt]; simp, ?_⟩
        rw [ho]
        simp only [Option.map_some, Option.getD_some]
        refine Array.all_eq_true_iff_forall_mem.2 fun e he => ?_
        have hb := (tailB_spec hB ho (Nat.le_refl _)).1 e he
        rw [h e.on (by omega)]
        simp [hb]
      refine ⟨fun e => (by rw [e] at hr; cases hr), fun i hi => ?_⟩
      obtain ⟨h1, o, ho2, hdep⟩ := ready_spec hi
      have hil := lt_of_some ho2
      have h2 := h i hil
      rw [getD_any (by rw [hl]; exact hil) false true, h1] at h2
      have him : m ≤ i := by
        rcases Nat.lt_or_ge i m with h3 | h3
        · simp [h3] at h2
        · exact h3
      have hie : i = m := by
        rcases Nat.lt_or_ge m i with h3 | h3
        · have h4 := reach_listed (L := fun k => listed.getD k false) (fun k o' hk ho' e he hb => ?_) _ _ _ ((tailB_spec hB ho2 him).2 m h3) (fun o' ho' => by rw [ho2] at ho'; cases ho'; exact hdep)
          · have h5 : listed.getD m false = true := h4
            rw [h m hlt] at h5
            simp at h5
          · have hkl := lt_of_some ho'
            have hk2 : listed.getD k false = true := hk
            rw [h k hkl] at hk2
            have hbk := tailB_back hB ho' e he
            show listed.getD e.on false = true
            rw [h e.on (by omega)]
            simp at hk2 ⊢
            omega
        · omega
      subst hie
      have hd : ops.toList.drop i = ops[i] :: ops.toList.drop (i + 1) := by
        rw [List.drop_eq_getElem_cons (by simpa using hlt)]; simp
      rw [hd] at hw
      have key : ∀ a w, wpListIn F n P ops Q (ops.toList.drop (i + 1)) a w → wpAnyIn F n P .any ops Q fuel (listed.setIfInBounds i true) a w := fun a w hw2 => by
        refine ih (i + 1) _ a w ?_ (by omega) (by rw [Array.size_setIfInBounds, hl]) (fun j hj => ?_) (by omega) hw2
        · unfold tailB at hB ⊢
          rw [List.all_eq_true] at hB ⊢
          intro j hj
          have := hB j hj
          cases hoj : ops[j]? with
          | none => rfl
          | some o =>
            rw [hoj] at this
            simp only [Bool.and_eq_true, Bool.or_eq_true, decide_eq_true_eq] at this ⊢
            exact ⟨this.1, this.2.imp (fun h => by omega) id⟩
        · rw [getD_set _ _ _ (by rw [hl]; exact hlt)]
          by_cases e : i = j
          · subst e; simp
          · rw [if_neg e, h j hj]
            by_cases h3 : j < i
            · simp [h3]; omega
            · simp [h3]; omega
      unfold wpListIn at hw
      unfold wpOpIn
      simp only [ho]
      split
      · rename_i hwn
        rw [if_pos hwn] at hw
        exact Oper.wpIn_mono key hw
      · rename_i hwn
        rw [if_neg hwn] at hw
        exact ⟨hw.1, key _ _ hw.2⟩
    · have hm2 : m = ops.size := by omega
      refine ⟨fun _ => hdone m a w hm2 hw, fun i hi => ?_⟩
      rw [hend m listed hm2 hl h] at hi
      cases hi

theorem RInv.step1 {f : Nat → Value} {N L : Nat} {a0 : Act} {W : World} {listed : Array Bool} {a : Act} {Q' : Exit → Act → World → Prop} (hfn : ∀ f, F.fn f) (hns : Region.noSelect ops = true) (G : Free ops [] N L) (hN : a0.tmps.size = N)
    (h : FInv ops [] f a0 W listed a W) {i : Nat} (hiL : i < L) (hr : i ∈ Region.ready .any ops listed) (hdf : ∀ o : Oper, ops[i]? = some o → ∀ c, o.op ≠ .defer c) (X : ∀ o : Oper, ops[i]? = some o → ReadsAt P ops W o (f i) (lexFrom ops f 0 a0 i)) : wpOpIn F n P ops Q' i (fun a' w' => w' = W ∧ FInv ops [] f a0 W (listed.setIfInBounds i true) a' W) a W := by
  obtain ⟨hl, o, ho, hdep⟩ := ready_spec hr
  obtain ⟨d, hod, hd⟩ := G.dst i o ho hiL
  have hl' : listed.getD i false = false := by rw [getD_any (by rw [h.len]; exact lt_of_some ho) false true]; exact hl
  have hs : ∀ cs b, o.op ≠ .select cs b := fun cs b => Region.noSelect_spec hns i o cs b ho
  obtain ⟨vs, _, h2⟩ := h.looks G hN (fun _ h => (List.not_mem_nil h).elim) ho hdep
  have e1 := exec_same (ops := ops) (a' := a) hs h2
  have e2 := wanted_same h2
  have hx := X o ho
  unfold ReadsAt at hx
  simp only [kdOf, Kd.uses, putL] at e1 e2
  rw [← e1, ← e2] at hx
  have hput := h.put G hN (fun _ _ _ _ _ _ => trivial) (Grown.refl W) hd hl' (v := f i) (fun _ => rfl) trivial
  unfold Go.wpOpIn
  simp only [ho]
  rcases hx with ⟨h3, h4⟩ | ⟨h3, h4⟩
  · rw [if_pos h3]
    unfold Oper.wpIn
    refine ⟨fun f _ => hfn f, ?_⟩
    rw [Oper.semAt_eq _ _ _ (hdf o ho), h4, Oper.uponIn_value, hod]
    exact ⟨rfl, hput⟩
  · rw [if_neg (by rw [h3]; exact Bool.false_ne_true)]
    refine ⟨fun f _ => hfn f, by trivial, ?_⟩
    rw [h4] at hput
    rw [hod]; exact hput

theorem FInv.upto {f : Nat → Value} {N m L : Nat} {a0 : Act} {W : World} {listed : Array Bool} {a : Act} (G : Free ops [] N L) (hN : a0.tmps.size = N) (h : FInv ops [] f a0 W listed a W) (hp : ∀ i, i < ops.size → listed.getD i false = decide (i < m)) (hm : m ≤ ops.size) : a = lexFrom ops f 0 a0 m := by
  have hlist : ∀ i, listed.getD i false = true → i < m := fun i hi => by
    rcases Nat.lt_or_ge i ops.size with h1 | h1
    · rw [hp i h1] at hi; simpa using hi
    · rw [Array.getD_eq_getD_getElem?, Array.getElem?_eq_none (by rw [h.len]; exact h1)] at hi
      simp at hi
  have hdf : a.defers = (lexFrom ops f 0 a0 m).defers := by rw [h.dfr, lexFrom_defers]
  have ht : a.tmps = (lexFrom ops f 0 a0 m).tmps := by
    apply Array.ext_getElem?
    intro t
    by_cases hj : ∃ j, j < m ∧ dstOf ops j = some t
    · obtain ⟨j, hjm, hj⟩ := hj
      obtain ⟨v, h3, h4, _⟩ := h.new j t (by rw [hp j (by omega)]; simpa using hjm) hj
      have hx := lex_some (ops := ops) (f := f) (k := 0) (a := a0) (t := t) (i := j) (by rw [hN]; exact G.bound _ _ hj) (by rw [Nat.zero_add]; exact hj)
        (fun j' hj' he' => absurd (G.uniq j (0 + j') t hj he') (by omega)) hjm
      rw [h3, hx, h4 rfl, Nat.zero_add]
    · rw [h.old t fun i hi hd => hj ⟨i, hlist i hi, hd⟩, lex_none fun i hi hd => hj ⟨i, hi, by rw [Nat.zero_add] at hd; exact hd⟩]
  obtain ⟨tm, df⟩ := a
  simp only at ht hdf
  rw [ht, hdf]

theorem reads_tail_any {f : Nat → Value} {N m : Nat} {a0 : Act} {W : World} {Q' : Exit → Act → World → Prop} (hfn : ∀ f, F.fn f) (hns : Region.noSelect ops = true) (G : Free ops [] N m) (hN : a0.tmps.size = N) (hB : tailB ops m = true) (hm : m ≤ ops.size)
    (D : ∀ (i : Nat) (o : Oper), i < m → ops[i]? = some o → ∀ c, o.op ≠ .defer c) (X : ∀ (i : Nat) (o : Oper), i < m → ops[i]? = some o → ReadsAt P ops W o (f i) (lexFrom ops f 0 a0 i)) (hT : wpListIn F n P ops Q' (ops.toList.drop m) (lexFrom ops f 0 a0 m) W) :
    ∀ (fuel : Nat) (listed : Array Bool) (a : Act), FInv ops [] f a0 W listed a W → (∀ i, listed.getD i false = true → i < m) → (∀ (i : Nat) (o : Oper), listed.getD i false = true → ops[i]? = some o → DepsIn (fun k => listed.getD k false) o) → listed.toList.count false ≤ fuel → wpAnyIn F n P .any ops Q' fuel listed a W := by
  have full : ∀ (fuel : Nat) (listed : Array Bool) (a : Act), FInv ops [] f a0 W listed a W → (∀ i, i < ops.size → listed.getD i false = decide (i < m)) → listed.toList.count false ≤ fuel → wpAnyIn F n P .any ops Q' fuel listed a W := by
    intro fuel listed a h hp hc
    refine tail_any fuel m listed a W hB hm h.len hp ?_ (by rw [h.upto G hN hp hm]; exact hT)
    have h1 : (listed.toList.drop m).count false ≤ listed.toList.count false := (List.drop_sublist m listed.toList).count_le _
    have h2 : ∀ x ∈ listed.toList.drop m, x = false := by
      intro x hx
      obtain ⟨k, hk⟩ := List.mem_iff_getElem?.1 hx
      rw [List.getElem?_drop] at hk
      have hlt : m + k < listed.size := by simpa using (List.getElem?_eq_some_iff.1 hk).1
      have h3 := hp (m + k) (by rw [← h.len]; exact hlt)
      rw [Array.getD_eq_getD_getElem?, ← Array.getElem?_toList, hk, decide_eq_false (by omega : ¬ m + k < m)] at h3
      simpa using h3
    have h3 : (listed.toList.drop m).count false = (listed.toList.drop m).length := by
      rw [List.count_eq_length]
      exact fun x hx => (h2 x hx).symm
    rw [List.length_drop, Array.length_toList, h.len] at h3
    omega
  intro fuel
  induction fuel with
  | zero =>
    intro listed a h hp _ hc
    refine full 0 listed a h (fun i hi => ?_) hc
    have hz : listed.getD i false = true := by
      rw [Array.getD_eq_getD_getElem?, Array.getElem?_eq_getElem (by rw [h.len]; exact hi)]
      simp only [Option.getD_some]
      cases hx : listed[i]'(by rw [h.len]; exact hi) with
      | true => rfl
      | false =>
        have : 0 < listed.toList.count false := List.count_pos_iff.2 (by rw [← hx]; simp)
        omega
    rw [hz]
    simpa using hp i hz
  | succ fuel ih =>
    intro listed a h hp hdc hc
    by_cases hall : ∀ i, i < m → listed.getD i false = true
    · refine full (fuel + 1) listed a h (fun i hi => ?_) hc
      by_cases him : i < m
      · rw [hall i him]; simpa using him
      · cases hx : listed.getD i false with
        | true => exact absurd (hp i hx) him
        | false => simpa using him
    · refine ⟨fun hr => ?_, fun i hi => ?_⟩
      · exfalso
        exact hall fun i him => h.all_listed G hr i (by omega)
      · obtain ⟨hl, o, ho, hdep⟩ := ready_spec hi
        have hil := lt_of_some ho
        have him : i < m := by
          rcases Nat.lt_or_ge i m with h1 | h1
          · exact h1
          · exfalso
            refine hall fun j hj => ?_
            exact reach_listed (L := fun k => listed.getD k false) hdc _ _ _ ((tailB_spec hB ho h1).2 j (by omega)) (fun o' ho' => by rw [ho] at ho'; cases ho'; exact hdep)
        refine wpOpIn_mono (fun a' w' h' => ?_) (RInv.step1 (N := N) hfn hns G hN h him hi (fun o ho => D i o him ho) (fun o ho => X i o him ho))
        obtain ⟨rfl, h'⟩ := h'
        have hlt : i < listed.size := by rw [h.len]; exact hil
        refine ih _ _ h' (fun j hj => ?_) (fun j o' hj ho' e he hb => ?_) ?_
        · rw [getD_set _ _ _ hlt] at hj
          by_cases e : i = j
          · subst e; exact him
          · rw [if_neg e] at hj; exact hp j hj
        · simp only
          rw [getD_set _ _ _ hlt] at hj ⊢
          by_cases e2 : i = e.on
          · rw [if_pos e2]
          · rw [if_neg e2]
            by_cases e3 : i = j
            · subst e3
              rw [ho] at ho'; cases ho'
              exact hdep e he hb
            · rw [if_neg e3] at hj
              exact hdc j o' hj ho' e he hb
        · have hlv : listed[i] = false := by
            rw [Array.getD_eq_getD_getElem?, Array.getElem?_eq_getElem hlt] at hl
            simpa using hl
          have hcs := List.count_set (a := true) (b := false) (l := listed.toList) (i := i) (by simpa using hlt)
          have hpos : 0 < listed.toList.count false := List.count_pos_iff.2 (by rw [← hlv]; simp)
          have hcs' : (listed.setIfInBounds i true).toList.count false = listed.toList.count false - 1 := by
            rw [Array.toList_setIfInBounds, hcs]
            simp [hlv]
          omega

/-- THE RULE. -/
theorem wpIn_region_reads_tail {id : Nat} {Q : Exit → Act → World → Prop} {a : Act} {w : World} {l : List Oper} (N m : Nat) (hfn : ∀ f, F.fn f) (hm : P.follows .mixedOrders = true) (hsel : Region.noSelect l.toArray = true) (hd : noDeferB (l.take m) = true) (hF : freeB l.toArray [] N m = true) (hB : tailB l.toArray m = true) (hml : m ≤ l.length) (hN : a.tmps.size = N)
    (h : wpReads P l.toArray w.drew (fun a' => wpListIn F n P l.toArray Q (l.drop m) a' w.drew) (l.take m) a) : (Code.region id l.toArray true).wpIn F n P Q a w := by
  obtain ⟨f, hK, hf⟩ := reads_facts (l.take m) 0 a (fun j hj => by
    have hj2 : j < m := by rw [List.length_take] at hj; omega
    rw [List.getElem?_take, if_pos hj2]
    simp) h
  simp only [Nat.zero_add, List.length_take, Nat.min_eq_left hml] at hf hK
  refine wpIn_region_any hm ?_
  refine reads_tail_any (f := f) (W := w.drew) (m := m) hfn hsel (Free.of hF) hN hB (by simpa using hml) (fun i o hi ho c hc => ?_) (fun i o hi ho => hf i o hi ho) (by simpa using hK) _ _ _ ⟨Grown.refl _, rfl, rfl, by simp, fun _ _ => rfl, fun i t hi => ?_⟩ (fun i hi => ?_) (fun i o hi => ?_) ?_
  · have h1 : o ∈ l.take m := List.mem_iff_getElem?.2 ⟨i, by rw [List.getElem?_take, if_pos hi]; simpa using ho⟩
    have := List.all_eq_true.1 hd o h1
    rw [hc] at this
    cases this
  · rw [Array.getD_eq_getD_getElem?, Array.getElem?_replicate] at hi
    split at hi <;> simp at hi
  · rw [Array.getD_eq_getD_getElem?, Array.getElem?_replicate] at hi
    split at hi <;> simp at hi
  · rw [Array.getD_eq_getD_getElem?, Array.getElem?_replicate] at hi
    split at hi <;> simp at hi
  · simp
end
end Go.Proofs.Ytihglmicgccgiaa
