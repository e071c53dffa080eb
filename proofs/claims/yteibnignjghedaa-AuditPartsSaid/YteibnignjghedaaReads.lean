/-
  A region that draws its order, inside a round of a range over a function, whose operations only read: one walk, in the order of the text, in one world.
-/
import Derived.Test.YteibnignjghedaaFree
import Derived.OrdersIn
namespace Go.Proofs.Yteibnignjghedaa
open Go.RowKit Go.Sort
section
variable {F : Fence} {n : Nat} {P : Program} {ops : Array Oper}

/-- Run in W, it gives a value, in W. -/
def readsUpon (W : World) (R : Value → Prop) : Result Next → Prop
  | .ok (.value v) w' => w' = W ∧ R v
  | _ => False
def wpReads (P : Program) (ops : Array Oper) (W : World) (K : Act → Prop) : List Oper → Act → Prop
  | [], a => K a
  | o :: rest, a => if Region.wanted o (yielded ops a.tmps) then readsUpon W (fun v => wpReads P ops W K rest (a.put o.dst v)) ((execOp a.eval o).run P W) else wpReads P ops W K rest (a.put o.dst undef)
theorem wpReads_nil {W : World} {K : Act → Prop} {a : Act} (h : K a) : wpReads P ops W K [] a := h
theorem readsUpon_mono {W : World} {R R' : Value → Prop} (h : ∀ v, R v → R' v) {r : Result Next} (hr : readsUpon W R r) : readsUpon W R' r := by
  cases r with
  | ok n w => cases n <;> simp only [readsUpon] at hr ⊢; exact ⟨hr.1, h _ hr.2⟩
  | halt x w => exact hr
theorem wpReads_step {W : World} {K : Act → Prop} {a : Act} {o : Oper} {rest : List Oper}
    (h : ∀ K' : Act → Prop, (∀ a, wpReads P ops W K rest a → K' a) → if Region.wanted o (yielded ops a.tmps) then readsUpon W (fun v => K' (a.put o.dst v)) ((execOp a.eval o).run P W) else K' (a.put o.dst undef)) : wpReads P ops W K (o :: rest) a :=
  h _ fun _ h => h

/-- What one operation yields in W. -/
def ReadsAt (P : Program) (ops : Array Oper) (W : World) (o : Oper) (v : Value) (a : Act) : Prop :=
  (Region.wanted o (yielded ops a.tmps) = true ∧ (execOp a.eval o).run P W = .ok (.value v) W) ∨ (Region.wanted o (yielded ops a.tmps) = false ∧ v = undef)
theorem reads_facts {W : World} {K : Act → Prop} : ∀ (l : List Oper) (k : Nat) (a : Act), (∀ j, j < l.length → ops[k + j]? = l[j]?) → wpReads P ops W K l a →
    ∃ f : Nat → Value, K (lexFrom ops f k a l.length) ∧ ∀ j o, j < l.length → ops[k + j]? = some o → ReadsAt P ops W o (f (k + j)) (lexFrom ops f k a j)
  | [], k, a, _, h => ⟨fun _ => undef, h, fun j o hj => by simp at hj⟩
  | o :: l, k, a, hl, h => by
    have ho : ops[k]? = some o := by have := hl 0 (by simp); simpa using this
    have hd : dstOf ops k = o.dst := by simp [dstOf, ho]
    have step : ∃ v, ReadsAt P ops W o v a ∧ wpReads P ops W K l (a.put o.dst v) := by
      simp only [wpReads] at h
      split at h
      · rename_i hw
        generalize hr : (execOp a.eval o).run P W = r at h
        cases r with
        | ok n w1 =>
          cases n <;> simp only [readsUpon] at h
          obtain ⟨rfl, h⟩ := h
          exact ⟨_, .inl ⟨hw, hr⟩, h⟩
        | halt x w1 => simp only [readsUpon] at h
      · rename_i hw
        exact ⟨undef, .inr ⟨by simpa using hw, rfl⟩, h⟩
    obtain ⟨v, h1, h2⟩ := step
    obtain ⟨f, h3, h4⟩ := reads_facts l (k + 1) (a.put o.dst v) (fun j hj => by
      have := hl (j + 1) (by simpa using hj)
      rw [show k + 1 + j = k + (j + 1) by omega, this]; simp) h2
    refine ⟨fun i => if i = k then v else f i, ?_, ?_⟩
    · rw [List.length_cons, Nat.add_comm, lexFrom_add]
      simp only [lexFrom, Nat.add_zero, if_true, hd]
      rw [lexFrom_congr (g := f) (fun i h1 _ => by rw [if_neg (by omega)])]
      exact h3
    · intro j o' hj ho'
      cases j with
      | zero =>
        rw [Nat.add_zero] at ho'
        obtain rfl := Option.some.inj (ho.symm.trans ho')
        simpa [lexFrom] using h1
      | succ j =>
        have h5 := h4 j o' (by simpa using hj) (by rw [show k + 1 + j = k + (j + 1) by omega]; exact ho')
        rw [Nat.add_comm j 1, lexFrom_add]
        simp only [lexFrom, Nat.add_zero, if_true, hd]
        rw [lexFrom_congr (g := f) (fun i h1 _ => by rw [if_neg (by omega)]), if_neg (by omega), show k + (1 + j) = k + 1 + j by omega]
        exact h5

theorem RInv.step {f : Nat → Value} {N : Nat} {a0 : Act} {W : World} {listed : Array Bool} {a : Act} {Q' : Exit → Act → World → Prop} (hfn : ∀ f, F.fn f) (D : ∀ o : Oper, (∃ i : Nat, ops[i]? = some o) → ∀ c, o.op ≠ .defer c) (hns : Region.noSelect ops = true) (G : Free ops [] N) (hN : a0.tmps.size = N)
    (X : ∀ (i : Nat) (o : Oper), ops[i]? = some o → ReadsAt P ops W o (f i) (lexFrom ops f 0 a0 i))
    (h : FInv ops [] f a0 W listed a W) {i : Nat} (hr : i ∈ Region.ready .any ops listed) : wpOpIn F n P ops Q' i (fun a' w' => w' = W ∧ FInv ops [] f a0 W (listed.setIfInBounds i true) a' W) a W := by
  obtain ⟨hl, o, ho, hdep⟩ := ready_spec hr
  obtain ⟨d, hod, hd⟩ := G.dst i o ho
  have hl' : listed.getD i false = false := by rw [getD_any (by rw [h.len]; exact lt_of_some ho) false true]; exact hl
  have hs : ∀ cs b, o.op ≠ .select cs b := fun cs b => Region.noSelect_spec hns i o cs b ho
  obtain ⟨vs, _, h2⟩ := h.looks G hN ho hdep
  have e1 := exec_same (ops := ops) (a' := a) hs h2
  have e2 := wanted_same h2
  have hx := X i o ho
  unfold ReadsAt at hx
  simp only [kdOf, Kd.uses, putL] at e1 e2
  rw [← e1, ← e2] at hx
  have hput := h.put G hN (fun _ _ _ _ _ _ => trivial) (Grown.refl W) hd hl' (v := f i) (fun _ => rfl) trivial
  unfold Go.wpOpIn
  simp only [ho]
  rcases hx with ⟨h3, h4⟩ | ⟨h3, h4⟩
  · rw [if_pos h3]
    unfold Oper.wpIn
    refine ⟨fun f _ => hfn f, ?_⟩
    rw [Oper.semAt_eq _ _ _ (D o ⟨i, ho⟩), h4, Oper.uponIn_value, hod]
    exact ⟨rfl, hput⟩
  · rw [if_neg (by rw [h3]; exact Bool.false_ne_true)]
    refine ⟨fun f _ => hfn f, by trivial, ?_⟩
    rw [h4] at hput
    rw [hod]; exact hput

theorem reads_any {f : Nat → Value} {N : Nat} {a0 : Act} {W : World} {Q' : Exit → Act → World → Prop} (hfn : ∀ f, F.fn f) (D : ∀ o : Oper, (∃ i : Nat, ops[i]? = some o) → ∀ c, o.op ≠ .defer c) (hns : Region.noSelect ops = true) (G : Free ops [] N) (hN : a0.tmps.size = N)
    (X : ∀ (i : Nat) (o : Oper), ops[i]? = some o → ReadsAt P ops W o (f i) (lexFrom ops f 0 a0 i)) (hQ : Q' .normal (lexFrom ops f 0 a0 ops.size) W) :
    ∀ (fuel : Nat) (listed : Array Bool) (a : Act), FInv ops [] f a0 W listed a W → listed.toList.count false ≤ fuel → wpAnyIn F n P .any ops Q' fuel listed a W := by
  have done : ∀ (listed : Array Bool) (a : Act), FInv ops [] f a0 W listed a W → Region.ready .any ops listed = [] → Q' .normal a W := fun listed a h hr => by
    obtain ⟨vs, _, rfl⟩ := h.fin G hN (fun j hj => by cases hj) (h.all_listed G hr) (fun j hj => by cases hj)
    exact hQ
  intro fuel
  induction fuel with
  | zero =>
    intro listed a h hc
    have hr : Region.ready .any ops listed = [] := by
      rw [List.eq_nil_iff_forall_not_mem]
      intro i hi
      obtain ⟨hl, o, ho, _⟩ := ready_spec hi
      have hlt : i < listed.size := by rw [h.len]; exact lt_of_some ho
      have : false ∈ listed.toList := by
        rw [Array.getD_eq_getD_getElem?, Array.getElem?_eq_getElem hlt] at hl
        simp only [Option.getD_some] at hl
        rw [← hl]
        simp
      have := List.count_pos_iff.2 this
      omega
    exact ⟨hr, done _ _ h hr⟩
  | succ fuel ih =>
    intro listed a h hc
    refine ⟨done _ _ h, fun i hi => wpOpIn_mono (fun a' w' h' => ?_) (RInv.step hfn D hns G hN X h hi)⟩
    obtain ⟨rfl, h'⟩ := h'
    refine ih _ _ h' ?_
    obtain ⟨hl, o, ho, _⟩ := ready_spec hi
    have hlt : i < listed.size := by rw [h.len]; exact lt_of_some ho
    have hlv : listed[i] = false := by
      rw [Array.getD_eq_getD_getElem?, Array.getElem?_eq_getElem hlt] at hl
      simpa using hl
    have hcs := List.count_set (a := true) (b := false) (l := listed.toList) (i := i) (by simpa using hlt)
    have hpos : 0 < listed.toList.count false := List.count_pos_iff.2 (by rw [← hlv]; simp)
    have hcs' : (listed.setIfInBounds i true).toList.count false = listed.toList.count false - 1 := by
      rw [Array.toList_setIfInBounds, hcs]
      simp [hlv]
    omega

def noDeferB (l : List Oper) : Bool := l.all fun o => match o.op with
  | .defer _ => false
  | _ => true

/-- THE RULE. -/
theorem wpIn_region_reads {id : Nat} {Q : Exit → Act → World → Prop} {a : Act} {w : World} {l : List Oper} (N : Nat) (hfn : ∀ f, F.fn f) (hm : P.follows .mixedOrders = true) (hsel : Region.noSelect l.toArray = true) (hd : noDeferB l = true) (hF : freeB l.toArray [] N = true) (hN : a.tmps.size = N)
    (h : wpReads P l.toArray w.drew (fun a' => Q .normal a' w.drew) l a) : (Code.region id l.toArray true).wpIn F n P Q a w := by
  obtain ⟨f, hK, hf⟩ := reads_facts l 0 a (fun j hj => by simp) h
  simp only [Nat.zero_add] at hf
  refine wpIn_region_any hm ?_
  refine reads_any (f := f) (W := w.drew) hfn (fun o ho c hc => ?_) hsel (Free.of hF) hN (fun i o ho => hf i o (by simpa using lt_of_some ho) ho) ?_ _ _ _ ⟨Grown.refl _, rfl, rfl, by simp, fun _ _ => rfl, fun i t hi => ?_⟩ ?_
  · obtain ⟨i, ho⟩ := ho
    have := List.all_eq_true.1 hd o (by simpa using Array.mem_of_getElem? ho)
    rw [hc] at this
    cases this
  · simpa using hK
  · rw [Array.getD_eq_getD_getElem?, Array.getElem?_replicate] at hi
    split at hi <;> simp at hi
  · simp
end
end Go.Proofs.Yteibnignjghedaa
