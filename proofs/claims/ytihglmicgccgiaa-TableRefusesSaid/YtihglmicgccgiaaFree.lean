/-
  A region that draws its order, all of whose operations are quiet in a class of worlds, but one pair: an operation that lays a new block (its value depends on the world), and the one operation that reads it.
-/
import Derived.Test.YtihglmicgccgiaaQuiet
import Derived.Barred
import Derived.Conc.MuLone
import Derived.Conc.EntryLaws
namespace Go.Proofs.Ytihglmicgccgiaa
open Go.RowKit Go.Sort
section
variable {P : Program} {ops : Array Oper}

def dstOf (ops : Array Oper) (i : Nat) : Option Tmp := (ops[i]?).bind (·.dst)

def lexFrom (ops : Array Oper) (f : Nat → Value) (k : Nat) (a : Act) : Nat → Act
  | 0 => a
  | j + 1 => (lexFrom ops f k a j).put (dstOf ops (k + j)) (f (k + j))

theorem lexFrom_congr {f g : Nat → Value} {k : Nat} {a : Act} : ∀ {j : Nat}, (∀ i, k ≤ i → i < k + j → f i = g i) → lexFrom ops f k a j = lexFrom ops g k a j
  | 0, _ => rfl
  | j + 1, h => by
    simp only [lexFrom]
    rw [lexFrom_congr (fun i h1 h2 => h i h1 (by omega)), h (k + j) (by omega) (by omega)]

theorem lexFrom_add {f : Nat → Value} {k : Nat} {a : Act} {i : Nat} : ∀ {j : Nat}, lexFrom ops f k a (i + j) = lexFrom ops f (k + i) (lexFrom ops f k a i) j
  | 0 => rfl
  | j + 1 => by
    rw [show i + (j + 1) = (i + j) + 1 by omega]
    simp only [lexFrom]
    rw [lexFrom_add, Nat.add_assoc]

theorem lexFrom_defers {f : Nat → Value} {k : Nat} {a : Act} : ∀ {j : Nat}, (lexFrom ops f k a j).defers = a.defers
  | 0 => rfl
  | j + 1 => by
    rw [← lexFrom_defers (f := f) (k := k) (a := a) (j := j)]
    simp only [lexFrom]
    cases dstOf ops (k + j) <;> rfl

theorem put_size (a : Act) (d : Option Tmp) (v : Value) : (a.put d v).tmps.size = a.tmps.size := by
  cases d <;> simp [Act.put]
theorem put_ne (a : Act) (d : Option Tmp) (v : Value) (t : Nat) (h : d ≠ some t) : (a.put d v).tmps[t]? = a.tmps[t]? := by
  cases d with
  | none => rfl
  | some e => simp only [Act.put]; rw [Array.getElem?_setIfInBounds_ne (fun he => h (by rw [he]))]
theorem put_eq (a : Act) (v : Value) (t : Nat) (h : t < a.tmps.size) : (a.put (some t) v).tmps[t]? = some v := by
  simp only [Act.put]
  rw [Array.getElem?_setIfInBounds_self_of_lt h]

theorem lexFrom_size {f : Nat → Value} {k : Nat} {a : Act} : ∀ {j : Nat}, (lexFrom ops f k a j).tmps.size = a.tmps.size
  | 0 => rfl
  | j + 1 => by simp only [lexFrom]; rw [put_size, lexFrom_size]

theorem lex_none {f : Nat → Value} {k : Nat} {a : Act} {t : Nat} : ∀ {j : Nat}, (∀ i, i < j → dstOf ops (k + i) ≠ some t) → (lexFrom ops f k a j).tmps[t]? = a.tmps[t]?
  | 0, _ => rfl
  | j + 1, h => by
    simp only [lexFrom]
    rw [put_ne _ _ _ _ (h j (by omega)), lex_none (fun i hi => h i (by omega))]

theorem lex_some {f : Nat → Value} {k : Nat} {a : Act} {t i : Nat} (ht : t < a.tmps.size) (hi : dstOf ops (k + i) = some t) (hu : ∀ j, i < j → dstOf ops (k + j) ≠ some t) :
    ∀ {j : Nat}, i < j → (lexFrom ops f k a j).tmps[t]? = some (f (k + i))
  | 0, h => by omega
  | j + 1, h => by
    simp only [lexFrom]
    by_cases hij : i = j
    · subst hij
      rw [hi, put_eq _ _ _ (by rw [lexFrom_size]; exact ht)]
    · rw [put_ne _ _ _ _ (hu j (by omega)), lex_some ht hi hu (by omega)]

/-- A lexical walk, as a table of values. -/
theorem quiet_facts {C : World → Prop} {K : Act → Prop} : ∀ (l : List Oper) (k : Nat) (a : Act), (∀ j, j < l.length → ops[k + j]? = l[j]?) → wpQuiet P ops C K l a →
    ∃ f : Nat → Value, K (lexFrom ops f k a l.length) ∧ ∀ j o, j < l.length → ops[k + j]? = some o → YieldsIn P ops C o (f (k + j)) (lexFrom ops f k a j)
  | [], k, a, _, h => ⟨fun _ => undef, h, fun j o hj => by simp at hj⟩
  | o :: l, k, a, hl, h => by
    have ho : ops[k]? = some o := by have := hl 0 (by simp); simpa using this
    have hd : dstOf ops k = o.dst := by simp [dstOf, ho]
    have step : ∃ v, YieldsIn P ops C o v a ∧ wpQuiet P ops C K l (a.put o.dst v) := by
      simp only [wpQuiet] at h
      split at h
      · rename_i hw
        obtain ⟨v, h1, h2⟩ := h
        exact ⟨v, .inl ⟨hw, h1⟩, h2⟩
      · rename_i hw
        exact ⟨undef, .inr ⟨by simpa using hw, rfl⟩, h⟩
    obtain ⟨v, h1, h2⟩ := step
    obtain ⟨f, h3, h4⟩ := quiet_facts l (k + 1) (a.put o.dst v) (fun j hj => by
      have := hl (j + 1) (by simpa using hj)
      rw [show k + 1 + j = k + (j + 1) by omega, this]; simp) h2
    refine ⟨fun i => if i = k then v else f i, ?_, ?_⟩
    · rw [List.length_cons, Nat.add_comm, lexFrom_add]
      simp only [lexFrom, Nat.add_zero, if_true, hd]
      rw [lexFrom_congr (g := f) (fun i h1 _ => by rw [if_neg (by omega)])]
      exact h3
    · intro j o' hj ho'
      cases j with
      | zero =>
        rw [Nat.add_zero] at ho'
        obtain rfl := Option.some.inj (ho.symm.trans ho')
        simpa [lexFrom] using h1
      | succ j =>
        have h5 := h4 j o' (by simpa using hj) (by rw [show k + 1 + j = k + (j + 1) by omega]; exact ho')
        rw [Nat.add_comm j 1, lexFrom_add]
        simp only [lexFrom, Nat.add_zero, if_true, hd]
        rw [lexFrom_congr (g := f) (fun i h1 _ => by rw [if_neg (by omega)]), if_neg (by omega), show k + (1 + j) = k + 1 + j by omega]
        exact h5

/-- Two contracts on one call speak of one end (the kit's 'Calls.agree', which lies in a worked proof). -/
theorem calls_agree {f : FuncId} {args : Array Value} {w : World} {v v' : Value} {R R' : World → Prop}
    (h : Calls P f args w fun e w' => e = .returned v ∧ R w') (h' : Calls P f args w fun e w' => e = .returned v' ∧ R' w') (hi : P.inits.idxOf? f = none) : v = v' ∧ ∃ w', R w' ∧ R' w' := by
  obtain ⟨n, u, w1, e1, r1⟩ := Calls.done (R := fun u w' => u = v ∧ R w') (h.mono fun e w' ⟨he, q⟩ => by subst he; exact ⟨rfl, q⟩) hi
  obtain ⟨m, u', w2, e2, r2⟩ := Calls.done (R := fun u w' => u = v' ∧ R' w') (h'.mono fun e w' ⟨he, q⟩ => by subst he; exact ⟨rfl, q⟩) hi
  have a := runN_ended e1 m
  have b := runN_ended e2 n
  rw [Nat.add_comm, a] at b
  injection b with ho hw
  injection ho with hv
  subst hw
  exact ⟨r1.1.symm.trans (hv.trans r2.1), w1, r1.2, r2.2⟩

/-- No operation enters a start-up function. -/
def NoInit (P : Program) (o : Oper) : Prop := ∀ (a : Act) (w w' : World) (f : FuncId) (args : Array Value), (execOp a.eval o).run P w = .ok (.enter f args) w' → P.inits.idxOf? f = none

theorem yields_agree {C C' : World → Prop} {o : Oper} {v v' : Value} {a : Act} {w : World} (hI : NoInit P o) (h : YieldsIn P ops C o v a) (h' : YieldsIn P ops C' o v' a) (hw : C w) (hw' : C' w) : v = v' := by
  rcases h with ⟨h1, h2⟩ | ⟨h1, rfl⟩
  · rcases h' with ⟨_, h4⟩ | ⟨h3, _⟩
    · have q := h2 w hw
      have q' := h4 w hw'
      have hi := hI a w
      unfold Oper.quietAt at q q'
      generalize (execOp a.eval o).run P w = r at q q' hi
      cases r with
      | ok n w1 =>
        cases n <;> simp only [Oper.quietUpon] at q q'
        case value u => rw [← q.2, ← q'.2]
        case skip => rw [q.2, q'.2]
        case enter f args => exact (calls_agree q.2 q'.2 (hi _ _ _ rfl)).1
      | halt x w1 => simp only [Oper.quietUpon] at q
    · rw [h1] at h3; cases h3
  · rcases h' with ⟨h3, _⟩ | ⟨_, rfl⟩
    · rw [h1] at h3; cases h3
    · rfl

/-- The operation, run in w, yields v, and a growth of w. -/
def GrowsTo (P : Program) (ops : Array Oper) (o : Oper) (v : Value) (a : Act) (w : World) (R : World → Prop) : Prop :=
  (Region.wanted o (yielded ops a.tmps) = true ∧ o.quietAt P a R w v) ∨ (Region.wanted o (yielded ops a.tmps) = false ∧ v = undef)

def Grown (w w' : World) : Prop := ∃ p : Regrown, w' = grow (redrawn w p.d) p.os
theorem Grown.below {w w' : World} (h : Grown w w') : Below w.heap.size w w' := by
  obtain ⟨p, rfl⟩ := h; exact below_regrown w p.d p.os
theorem Grown.of {w w' : World} (h : Below w.heap.size w w') : Grown w w' := regrown_of_below h
theorem Grown.refl (w : World) : Grown w w := Grown.of (Below.refl _ _)
theorem Grown.trans {a b c : World} (h : Grown a b) (k : Grown b c) : Grown a c := Grown.of (h.below.trans (k.below.mono h.below.size))

/-- The slots of a at which o looks are as in the lexical walk. -/
theorem yields_of_same {C : World → Prop} {o : Oper} {v : Value} {a a' : Act} (hs : ∀ cs b, o.op ≠ .select cs b) (h : YieldsIn P ops C o v a) (hl : ∀ t ∈ o.looksAt ops, a'.tmps[t]? = a.tmps[t]?) : YieldsIn P ops C o v a' := by
  have he : execOp a'.eval o = execOp a.eval o := execOp_congr o hs fun x hx => by
    cases x with
    | tmp t =>
      have := hl t (List.mem_append_left _ (List.mem_filterMap.2 ⟨.tmp t, by simpa using hx, rfl⟩))
      simp [Act.eval, this]
    | _ => rfl
  have hw : Region.wanted o (yielded ops a'.tmps) = Region.wanted o (yielded ops a.tmps) := by
    unfold Region.wanted
    cases hg : o.guard with
    | none => rfl
    | some gw =>
      obtain ⟨g, want⟩ := gw
      have hy : yielded ops a'.tmps g = yielded ops a.tmps g := by
        unfold yielded
        cases ht : (ops[g]?).bind (·.dst) with
        | none => rfl
        | some t =>
          have := hl t (List.mem_append_right _ (by simp [hg, ht]))
          simp [this]
      simp only [hy]
  unfold YieldsIn Oper.quietAt at *
  rw [he, hw]
  exact h

/-- Each operation has a slot of its own; it looks at slots of operations before it that it waits for; at p's slot looks p + 1 alone. -/
def flowB (ops : Array Oper) (p N : Nat) : Bool :=
  (List.range ops.size).all fun i => match ops[i]? with
    | none => true
    | some o => o.dst.isSome && o.after.all (fun e => decide (e.on < i)) && (List.range ops.size).all fun j => match dstOf ops j with
      | none => true
      | some d => decide (d < N) && (i == j || o.dst != some d) && (!(o.looksAt ops).contains d || (decide (j < i) && o.after.any (fun e => Region.binds .any e && e.on == j) && (j != p || i == p + 1)))

theorem lt_of_some {i : Nat} {o : Oper} (h : ops[i]? = some o) : i < ops.size := by
  rcases Nat.lt_or_ge i ops.size with h1 | h1
  · exact h1
  · rw [Array.getElem?_eq_none h1] at h; cases h
theorem lt_of_dst {i d : Nat} (h : dstOf ops i = some d) : i < ops.size := by
  unfold dstOf at h
  cases ho : ops[i]? with
  | none => rw [ho] at h; cases h
  | some o => exact lt_of_some ho

structure Flow (ops : Array Oper) (p N : Nat) : Prop where
  dst : ∀ (i : Nat) (o : Oper), ops[i]? = some o → ∃ d, o.dst = some d ∧ dstOf ops i = some d
  back : ∀ (i : Nat) (o : Oper), ops[i]? = some o → ∀ e ∈ o.after, e.on < i
  bound : ∀ j d, dstOf ops j = some d → d < N
  uniq : ∀ i j d, dstOf ops i = some d → dstOf ops j = some d → i = j
  looks : ∀ (i : Nat) (o : Oper) (j d : Nat), ops[i]? = some o → dstOf ops j = some d → d ∈ o.looksAt ops → j < i ∧ (∃ e ∈ o.after, Region.binds .any e = true ∧ e.on = j) ∧ (j = p → i = p + 1)

theorem Flow.of {p N : Nat} (h : flowB ops p N = true) : Flow ops p N := by
  have H : ∀ i o, ops[i]? = some o → o.dst.isSome = true ∧ (∀ e ∈ o.after, e.on < i) ∧ ∀ j d, dstOf ops j = some d → d < N ∧ (i = j ∨ o.dst ≠ some d) ∧ (d ∈ o.looksAt ops → j < i ∧ (∃ e ∈ o.after, Region.binds .any e = true ∧ e.on = j) ∧ (j = p → i = p + 1)) := by
    intro i o ho
    have h1 := List.all_eq_true.1 h i (List.mem_range.2 (lt_of_some ho))
    rw [ho] at h1
    simp only [Bool.and_eq_true] at h1
    obtain ⟨⟨h2, h3⟩, h4⟩ := h1
    refine ⟨h2, fun e he => by simpa using (Array.all_eq_true_iff_forall_mem.1 h3) e he, fun j d hj => ?_⟩
    have h5 := List.all_eq_true.1 h4 j (List.mem_range.2 (lt_of_dst hj))
    rw [hj] at h5
    simp only [Bool.and_eq_true, Bool.or_eq_true, decide_eq_true_eq, bne_iff_ne, beq_iff_eq, Bool.not_eq_true', List.contains_eq_mem] at h5
    obtain ⟨⟨h6, h7⟩, h8⟩ := h5
    refine ⟨h6, h7, fun hd => ?_⟩
    rcases h8 with h8 | ⟨⟨h9, h10⟩, h11⟩
    · simp [hd] at h8
    · obtain ⟨k, hk, he⟩ := Array.any_eq_true.1 h10
      simp only [Bool.and_eq_true, beq_iff_eq] at he
      exact ⟨h9, ⟨_, Array.getElem_mem hk, he.1, he.2⟩, fun e => h11.resolve_left (fun hne => hne e)⟩
  have dst : ∀ i o, ops[i]? = some o → ∃ d, o.dst = some d ∧ dstOf ops i = some d := fun i o ho => by
    obtain ⟨d, hd⟩ := Option.isSome_iff_exists.1 (H i o ho).1
    exact ⟨d, hd, by simp [dstOf, ho, hd]⟩
  refine ⟨dst, fun i o ho => (H i o ho).2.1, fun j d hj => ?_, fun i j d hi hj => ?_, fun i o j d ho hj => ((H i o ho).2.2 j d hj).2.2⟩
  · obtain ⟨o, ho⟩ : ∃ o, ops[j]? = some o := ⟨_, Array.getElem?_eq_getElem (lt_of_dst hj)⟩
    exact ((H j o ho).2.2 j d hj).1
  · obtain ⟨o, ho⟩ : ∃ o, ops[i]? = some o := ⟨_, Array.getElem?_eq_getElem (lt_of_dst hi)⟩
    rcases ((H i o ho).2.2 j d hj).2.1 with h1 | h1
    · exact h1
    · exact absurd (by simpa [dstOf, ho] using hi) h1

/-- What holds while the region runs, in whatever order. -/
structure SInv (ops : Array Oper) (f : Nat → Value) (p : Nat) (S : Value → World → Prop) (a0 : Act) (w0 : World) (listed : Array Bool) (a : Act) (w : World) : Prop where
  cls : Grown w0 w
  dfr : a.defers = a0.defers
  size : a.tmps.size = a0.tmps.size
  len : listed.size = ops.size
  old : ∀ t, (∀ i, listed.getD i false = true → dstOf ops i ≠ some t) → a.tmps[t]? = a0.tmps[t]?
  new : ∀ i t, listed.getD i false = true → dstOf ops i = some t → ∃ v, a.tmps[t]? = some v ∧ (i ≠ p → v = f i) ∧ (i = p → S v w)

theorem getD_set (l : Array Bool) (i j : Nat) (hi : i < l.size) : (l.setIfInBounds i true).getD j false = if i = j then true else l.getD j false := by
  simp only [Array.getD_eq_getD_getElem?, Array.getElem?_setIfInBounds]
  split
  · simp [hi]
  · rfl

theorem SInv.put {f : Nat → Value} {p N : Nat} {S : Value → World → Prop} {a0 : Act} {w0 : World} {listed : Array Bool} {a : Act} {w w' : World} (F : Flow ops p N) (hN : a0.tmps.size = N)
    (hS : ∀ v w w', S v w → Grown w w' → S v w') (h : SInv ops f p S a0 w0 listed a w) (hg : Grown w w') {i d : Nat} (hd : dstOf ops i = some d) (hl : listed.getD i false = false) {v : Value} (h1 : i ≠ p → v = f i) (h2 : i = p → S v w') :
    SInv ops f p S a0 w0 (listed.setIfInBounds i true) (a.put (some d) v) w' := by
  have hi : i < listed.size := by rw [h.len]; exact lt_of_dst hd
  refine ⟨h.cls.trans hg, by rw [← h.dfr]; rfl, by rw [put_size, h.size], by rw [Array.size_setIfInBounds, h.len], fun t ht => ?_, fun j t hj ht => ?_⟩
  · have h3 := ht i (by rw [getD_set _ _ _ hi, if_pos rfl])
    rw [put_ne _ _ _ _ (by rw [← hd]; exact h3)]
    exact h.old t fun k hk => ht k (by rw [getD_set _ _ _ hi]; split <;> simp [hk])
  · rw [getD_set _ _ _ hi] at hj
    by_cases hij : i = j
    · subst hij
      obtain rfl := Option.some.inj (hd.symm.trans ht)
      exact ⟨v, put_eq _ _ _ (by rw [h.size, hN]; exact F.bound _ _ hd), h1, h2⟩
    · rw [if_neg hij] at hj
      obtain ⟨u, h3, h4, h5⟩ := h.new j t hj ht
      refine ⟨u, ?_, h4, fun hp => hS _ _ _ (h5 hp) hg⟩
      rw [put_ne _ _ _ _ (fun he => hij (F.uniq i j t (by rw [hd]; exact he) ht)), h3]

theorem ready_spec {listed : Array Bool} {i : Nat} (h : i ∈ Region.ready .any ops listed) : listed.getD i true = false ∧ ∃ o, ops[i]? = some o ∧ ∀ e ∈ o.after, Region.binds .any e = true → listed.getD e.on false = true := by
  simp only [Region.ready, List.mem_filter, List.mem_range, Bool.and_eq_true, Bool.not_eq_true'] at h
  obtain ⟨h1, h2, h3⟩ := h
  refine ⟨h2, ops[i], Array.getElem?_eq_getElem h1, fun e he hb => ?_⟩
  rw [Array.getElem?_eq_getElem h1] at h3
  simp only [Option.map_some, Option.getD_some] at h3
  have := (Array.all_eq_true_iff_forall_mem.1 h3) e he
  simpa [hb] using this

theorem getD_any {l : Array Bool} {i : Nat} (hi : i < l.size) (b c : Bool) : l.getD i b = l.getD i c := by
  simp [Array.getD_eq_getD_getElem?, Array.getElem?_eq_getElem hi]

/-- The slots that operation i looks at are as in the lexical walk. -/
theorem SInv.looks {f : Nat → Value} {p N : Nat} {S : Value → World → Prop} {a0 : Act} {w0 : World} {listed : Array Bool} {a : Act} {w : World} (F : Flow ops p N) (hN : a0.tmps.size = N)
    (h : SInv ops f p S a0 w0 listed a w) {i : Nat} {o : Oper} (ho : ops[i]? = some o) (hr : ∀ e ∈ o.after, Region.binds .any e = true → listed.getD e.on false = true) {t : Nat} (ht : t ∈ o.looksAt ops) (hne : dstOf ops p ≠ some t) {k : Nat} (hk : k ≤ i) (hkp : k = i ∨ (i = p + 1 ∧ k = p)) :
    a.tmps[t]? = (lexFrom ops f 0 a0 k).tmps[t]? := by
  by_cases hj : ∃ j, dstOf ops j = some t
  · obtain ⟨j, hj⟩ := hj
    obtain ⟨h1, ⟨e, he, hb, rfl⟩, _⟩ := F.looks i o j t ho hj ht
    have hjp : e.on ≠ p := fun h => hne (by rw [← h]; exact hj)
    obtain ⟨v, h3, h4, _⟩ := h.new _ t (hr e he hb) hj
    have hlt : e.on < k := by rcases hkp with h5 | ⟨h5, h6⟩ <;> omega
    have hx := lex_some (ops := ops) (f := f) (k := 0) (a := a0) (t := t) (i := e.on) (by rw [hN]; exact F.bound _ _ hj) (by rw [Nat.zero_add]; exact hj)
      (fun j' hj' he' => absurd (F.uniq e.on (0 + j') t hj he') (by omega)) hlt
    rw [h3, hx, h4 hjp, Nat.zero_add]
  · rw [h.old t fun i' _ hi' => hj ⟨i', hi'⟩, lex_none fun i' _ hi' => hj ⟨_, hi'⟩]

/-- The facts that the lexical walk gives, at every base. -/
structure Facts (P : Program) (ops : Array Oper) (f : Nat → Value) (p : Nat) (S : Value → World → Prop) (a0 : Act) (w0 : World) : Prop where
  quiet : ∀ (i : Nat) (o : Oper), ops[i]? = some o → i ≠ p → i ≠ p + 1 → ∀ w1, Grown w0 w1 → YieldsIn P ops (Grown w1) o (f i) (lexFrom ops f 0 a0 i)
  lays : ∀ o, ops[p]? = some o → o.guard = none ∧ ∀ w, Grown w0 w → ∃ v w', (execOp (lexFrom ops f 0 a0 p).eval o).run P w = .ok (.value v) w' ∧ Grown w w' ∧ S v w'
  reads : ∀ o, ops[p + 1]? = some o → o.guard = none ∧ ∀ v w, Grown w0 w → S v w → (execOp ((lexFrom ops f 0 a0 p).put (dstOf ops p) v).eval o).run P w = .ok (.value (f (p + 1))) w
  keeps : ∀ v w w', S v w → Grown w w' → S v w'
  plain : Region.noSelect ops = true
  link : ∀ o, ops[p + 1]? = some o → ∃ t ∈ o.looksAt ops, dstOf ops p = some t

theorem exec_same {o : Oper} {a a' : Act} (hs : ∀ cs b, o.op ≠ .select cs b) (hl : ∀ t ∈ o.looksAt ops, a'.tmps[t]? = a.tmps[t]?) : execOp a'.eval o = execOp a.eval o :=
  execOp_congr o hs fun x hx => by
    cases x with
    | tmp t =>
      have := hl t (List.mem_append_left _ (List.mem_filterMap.2 ⟨.tmp t, by simpa using hx, rfl⟩))
      simp [Act.eval, this]
    | _ => rfl

theorem SInv.step {f : Nat → Value} {p N : Nat} {S : Value → World → Prop} {a0 : Act} {w0 : World} {listed : Array Bool} {a : Act} {w : World} {Q' : Exit → Act → World → Prop} (F : Flow ops p N) (hN : a0.tmps.size = N) (X : Facts P ops f p S a0 w0)
    (h : SInv ops f p S a0 w0 listed a w) {i : Nat} (hr : i ∈ Region.ready .any ops listed) : wpOp P ops Q' i (fun a' w' => SInv ops f p S a0 w0 (listed.setIfInBounds i true) a' w') a w := by
  obtain ⟨hl, o, ho, hdep⟩ := ready_spec hr
  obtain ⟨d, hod, hd⟩ := F.dst i o ho
  have hl' : listed.getD i false = false := by rw [getD_any (by rw [h.len]; exact lt_of_some ho) false true]; exact hl
  have hs : ∀ cs b, o.op ≠ .select cs b := fun cs b => Region.noSelect_spec X.plain i o cs b ho
  by_cases hp : i = p
  · subst hp
    obtain ⟨hg, hrun⟩ := X.lays o ho
    have hsame := exec_same (ops := ops) (a := lexFrom ops f 0 a0 i) (a' := a) hs fun t ht => h.looks F hN ho hdep ht (fun he => by have := (F.looks i o i t ho he ht).1; omega) (Nat.le_refl _) (.inl rfl)
    obtain ⟨v, w', h1, h2, h3⟩ := hrun w h.cls
    unfold wpOp
    simp only [ho]
    rw [if_pos (by simp [Region.wanted, hg])]
    refine .inl ?_
    unfold Oper.wp
    rw [hsame, h1, Oper.upon_value, hod]
    exact h.put F hN X.keeps h2 hd hl' (fun hne => absurd rfl hne) (fun _ => h3)
  · by_cases hp1 : i = p + 1
    · subst hp1
      obtain ⟨hg, hrun⟩ := X.reads o ho
      obtain ⟨t0, ht0, hpt⟩ := X.link o ho
      obtain ⟨_, ⟨e, he, hb, hej⟩, _⟩ := F.looks (p + 1) o p t0 ho hpt ht0
      have hlp := hdep e he hb
      rw [hej] at hlp
      obtain ⟨v, h3, _, h5⟩ := h.new p t0 hlp hpt
      have hsame := exec_same (ops := ops) (a := (lexFrom ops f 0 a0 p).put (dstOf ops p) v) (a' := a) hs fun t ht => by
        by_cases htt : dstOf ops p = some t
        · obtain rfl := Option.some.inj (hpt.symm.trans htt)
          rw [h3, hpt, put_eq _ _ _ (by rw [lexFrom_size, hN]; exact F.bound _ _ hpt)]
        · rw [put_ne _ _ _ _ htt]
          exact h.looks F hN ho hdep ht htt (Nat.le_succ p) (.inr ⟨rfl, rfl⟩)
      unfold wpOp
      simp only [ho]
      rw [if_pos (by simp [Region.wanted, hg])]
      refine .inl ?_
      unfold Oper.wp
      rw [hsame, hrun v w h.cls (h5 rfl), Oper.upon_value, hod]
      exact h.put F hN X.keeps (Grown.refl w) hd hl' (fun _ => rfl) (fun he => absurd he (by omega))
    · have hy := yields_of_same hs (X.quiet i o ho hp hp1 w h.cls) (a' := a) fun t ht => h.looks F hN ho hdep ht (fun he => hp1 ((F.looks i o p t ho he ht).2.2 rfl)) (Nat.le_refl _) (.inl rfl)
      refine wpOp_of_qOp (C := Grown w) (K := fun a' => a' = a.put o.dst (f i)) (Grown.refl w) (fun a' w' hg ha => ?_) ?_
      · rw [ha, hod]
        exact h.put F hN X.keeps hg hd hl' (fun _ => rfl) (fun he => absurd he hp)
      · unfold qOp
        simp only [ho]
        rcases hy with ⟨h1, h2⟩ | ⟨h1, h2⟩
        · rw [if_pos h1]
          exact ⟨_, h2, rfl⟩
        · rw [if_neg (by rw [h1]; exact Bool.false_ne_true), h2]

theorem SInv.all_listed {f : Nat → Value} {p N : Nat} {S : Value → World → Prop} {a0 : Act} {w0 : World} {listed : Array Bool} {a : Act} {w : World} (F : Flow ops p N)
    (h : SInv ops f p S a0 w0 listed a w) (hr : Region.ready .any ops listed = []) : ∀ i, i < ops.size → listed.getD i false = true := by
  intro i
  induction i using Nat.strongRecOn with
  | ind i ih =>
    intro hi
    cases hl : listed.getD i false with
    | true => rfl
    | false =>
      have ho : ops[i]? = some ops[i] := Array.getElem?_eq_getElem hi
      have : i ∈ Region.ready .any ops listed := by
        simp only [Region.ready, List.mem_filter, List.mem_range, Bool.and_eq_true, Bool.not_eq_true']
        refine ⟨hi, by rw [getD_any (by rw [h.len]; exact hi) true false]; exact hl, ?_⟩
        rw [ho]
        simp only [Option.map_some, Option.getD_some]
        refine Array.all_eq_true_iff_forall_mem.2 fun e he => ?_
        have hb := F.back i _ ho e he
        rw [ih e.on hb (by omega)]
        simp
      rw [hr] at this
      cases this

/-- At the end the frame is the lexical walk's, but for p's slot. -/
theorem SInv.fin {f : Nat → Value} {p N : Nat} {S : Value → World → Prop} {a0 : Act} {w0 : World} {listed : Array Bool} {a : Act} {w : World} (F : Flow ops p N) (hN : a0.tmps.size = N) (hp : p < ops.size)
    (h : SInv ops f p S a0 w0 listed a w) (hall : ∀ i, i < ops.size → listed.getD i false = true) : ∃ v, S v w ∧ a = (lexFrom ops f 0 a0 ops.size).put (dstOf ops p) v := by
  obtain ⟨o, ho⟩ : ∃ o, ops[p]? = some o := ⟨_, Array.getElem?_eq_getElem hp⟩
  obtain ⟨d, _, hd⟩ := F.dst p o ho
  obtain ⟨v, h1, _, h2⟩ := h.new p d (hall p hp) hd
  refine ⟨v, h2 rfl, ?_⟩
  rw [hd]
  have hdf : a.defers = ((lexFrom ops f 0 a0 ops.size).put (some d) v).defers := by
    rw [h.dfr]
    exact (lexFrom_defers (ops := ops) (f := f) (k := 0) (a := a0) (j := ops.size)).symm
  have ht : a.tmps = ((lexFrom ops f 0 a0 ops.size).put (some d) v).tmps := by
    apply Array.ext_getElem?
    intro t
    by_cases htd : d = t
    · subst htd
      rw [h1, put_eq _ _ _ (by rw [lexFrom_size, hN]; exact F.bound _ _ hd)]
    · rw [put_ne _ _ _ _ (by simpa using htd)]
      by_cases hj : ∃ j, dstOf ops j = some t
      · obtain ⟨j, hj⟩ := hj
        have hjl := lt_of_dst hj
        obtain ⟨u, h3, h4, _⟩ := h.new j t (hall j hjl) hj
        have hjp : j ≠ p := fun he => htd (Option.some.inj (hd.symm.trans (he ▸ hj)))
        have hx := lex_some (ops := ops) (f := f) (k := 0) (a := a0) (t := t) (i := j) (by rw [hN]; exact F.bound _ _ hj) (by rw [Nat.zero_add]; exact hj)
          (fun j' hj' he' => absurd (F.uniq j (0 + j') t hj he') (by omega)) hjl
        rw [h3, hx, h4 hjp, Nat.zero_add]
      · rw [h.old t fun i' _ hi' => hj ⟨i', hi'⟩, lex_none fun i' _ hi' => hj ⟨_, hi'⟩]
  obtain ⟨tm, df⟩ := a
  simp only at ht hdf
  subst ht hdf
  rfl

theorem stableR_any {f : Nat → Value} {p N : Nat} {S : Value → World → Prop} {a0 : Act} {w0 : World} {Q' : Exit → Act → World → Prop} (F : Flow ops p N) (hN : a0.tmps.size = N) (hp : p < ops.size) (X : Facts P ops f p S a0 w0)
    (hQ : ∀ v w, Grown w0 w → Q' .normal ((lexFrom ops f 0 a0 ops.size).put (dstOf ops p) v) w) : ∀ (fuel : Nat) (listed : Array Bool) (a : Act) (w : World), SInv ops f p S a0 w0 listed a w → listed.toList.count false ≤ fuel → wpAny P .any ops Q' fuel listed a w := by
  have done : ∀ (listed : Array Bool) (a : Act) (w : World), SInv ops f p S a0 w0 listed a w → Region.ready .any ops listed = [] → Q' .normal a w := fun listed a w h hr => by
    obtain ⟨v, _, rfl⟩ := h.fin F hN hp (h.all_listed F hr)
    exact hQ v w h.cls
  intro fuel
  induction fuel with
  | zero =>
    intro listed a w h hc
    have hr : Region.ready .any ops listed = [] := by
      rw [List.eq_nil_iff_forall_not_mem]
      intro i hi
      obtain ⟨hl, o, ho, _⟩ := ready_spec hi
      have hlt : i < listed.size := by rw [h.len]; exact lt_of_some ho
      have : false ∈ listed.toList := by
        rw [Array.getD_eq_getD_getElem?, Array.getElem?_eq_getElem hlt] at hl
        simp only [Option.getD_some] at hl
        rw [← hl]
        simp
      have := List.count_pos_iff.2 this
      omega
    exact ⟨hr, done _ _ _ h hr⟩
  | succ fuel ih =>
    intro listed a w h hc
    refine ⟨done _ _ _ h, fun i hi => wpOp_mono (fun a' w' h' => ih _ _ _ h' ?_) (h.step F hN X hi)⟩
    obtain ⟨hl, o, ho, _⟩ := ready_spec hi
    have hlt : i < listed.size := by rw [h.len]; exact lt_of_some ho
    have hlv : listed[i] = false := by
      rw [Array.getD_eq_getD_getElem?, Array.getElem?_eq_getElem hlt] at hl
      simpa using hl
    have hcs := List.count_set (a := true) (b := false) (l := listed.toList) (i := i) (by simpa using hlt)
    have hpos : 0 < listed.toList.count false := List.count_pos_iff.2 (by rw [← hlv]; simp)
    have hcs' : (listed.setIfInBounds i true).toList.count false = listed.toList.count false - 1 := by
      rw [Array.toList_setIfInBounds, hcs]
      simp [hlv]
    omega

/-- The pair: o1 lays a block (its value: S, in whatever world), o2 reads it: one value. -/
def PairAt (P : Program) (o1 o2 : Oper) (S : Value → World → Prop) (w0 : World) (a1 : Act) (v2 : Value) : Prop :=
  (∀ w', Grown w0 w' → ∃ v w'', (execOp a1.eval o1).run P w' = .ok (.value v) w'' ∧ Grown w' w'' ∧ S v w'') ∧ ∀ v w', Grown w0 w' → S v w' → (execOp (a1.put o1.dst v).eval o2).run P w' = .ok (.value v2) w'

/-- What one lexical walk gives. -/
structure WalkFacts (P : Program) (ops : Array Oper) (f : Nat → Value) (p : Nat) (S : Value → World → Prop) (a0 : Act) (w0 : World) (C : World → Prop) (o1 o2 : Oper) : Prop where
  quiet : ∀ (i : Nat) (o : Oper), ops[i]? = some o → i ≠ p → i ≠ p + 1 → YieldsIn P ops C o (f i) (lexFrom ops f 0 a0 i)
  pair : PairAt P o1 o2 S w0 (lexFrom ops f 0 a0 p) (f (p + 1))
  none : f p = undef

theorem walk_facts {l : List Oper} {p : Nat} {o1 o2 : Oper} {S : Value → World → Prop} {a0 : Act} {w0 : World} {C : World → Prop} {K : Act → Prop} (h1 : l[p]? = some o1) (h2 : l[p + 1]? = some o2)
    (h : wpQuiet P l.toArray C (fun a1 => ∃ v2, PairAt P o1 o2 S w0 a1 v2 ∧ wpQuiet P l.toArray C K (l.drop (p + 2)) ((a1.put o1.dst undef).put o2.dst v2)) (l.take p) a0) :
    ∃ f : Nat → Value, WalkFacts P l.toArray f p S a0 w0 C o1 o2 ∧ K (lexFrom l.toArray f 0 a0 l.length) := by
  have hlen : p + 1 < l.length := by
    rcases Nat.lt_or_ge (p + 1) l.length with h3 | h3
    · exact h3
    · rw [List.getElem?_eq_none h3] at h2; cases h2
  have htl : (l.take p).length = p := by rw [List.length_take]; omega
  obtain ⟨f1, ⟨v2, hp, hq⟩, hf1⟩ := quiet_facts (l.take p) 0 a0 (fun j hj => by
    rw [htl] at hj
    rw [Nat.zero_add, List.getElem?_take_of_lt hj]; simp) h
  rw [htl] at hp hq hf1
  obtain ⟨f2, hK, hf2⟩ := quiet_facts (l.drop (p + 2)) (p + 2) _ (fun j hj => by simp) hq
  have hd1 : dstOf l.toArray p = o1.dst := by simp [dstOf, h1]
  have hd2 : dstOf l.toArray (p + 1) = o2.dst := by simp [dstOf, h2]
  obtain ⟨f, hf⟩ : ∃ f : Nat → Value, f = fun i => if i < p then f1 i else if i = p then undef else if i = p + 1 then v2 else f2 i := ⟨_, rfl⟩
  have e1 : ∀ i, i < p → f i = f1 i := fun i hi => by rw [hf]; simp [hi]
  have e2 : f p = undef := by rw [hf]; simp
  have e3 : f (p + 1) = v2 := by
    rw [hf]
    simp only
    rw [if_neg (by omega), if_neg (by omega)]
    simp
  have e4 : ∀ i, p + 2 ≤ i → f i = f2 i := fun i hi => by
    rw [hf]
    simp only
    rw [if_neg (by omega), if_neg (by omega), if_neg (by omega)]
  have l1 : ∀ i, i ≤ p → lexFrom l.toArray f 0 a0 i = lexFrom l.toArray f1 0 a0 i := fun i hi => lexFrom_congr fun j _ hj => e1 j (by omega)
  have l2 : ∀ j, lexFrom l.toArray f 0 a0 (p + 2 + j) = lexFrom l.toArray f2 (p + 2) (((lexFrom l.toArray f1 0 a0 p).put o1.dst undef).put o2.dst v2) j := fun j => by
    rw [lexFrom_add, Nat.zero_add]
    have : lexFrom l.toArray f 0 a0 (p + 2) = ((lexFrom l.toArray f1 0 a0 p).put o1.dst undef).put o2.dst v2 := by
      simp only [lexFrom, Nat.zero_add]
      rw [l1 p (Nat.le_refl _), hd1, hd2, e2, e3]
    rw [this]
    exact lexFrom_congr fun i hi _ => e4 i hi
  refine ⟨f, ⟨fun i o ho hne hne1 => ?_, ?_, e2⟩, ?_⟩
  · by_cases hip : i < p
    · rw [l1 i (by omega), e1 i hip]
      have := hf1 i o hip (by rw [Nat.zero_add]; exact ho)
      rwa [Nat.zero_add] at this
    · obtain ⟨j, rfl⟩ : ∃ j, i = p + 2 + j := ⟨i - (p + 2), by omega⟩
      rw [l2 j, e4 _ (by omega)]
      refine hf2 j o ?_ ho
      have := lt_of_some ho
      rw [List.length_drop]
      simp at this
      omega
  · rw [l1 p (Nat.le_refl _), e3]; exact hp
  · have e : l.length = p + 2 + (l.drop (p + 2)).length := by rw [List.length_drop]; omega
    rw [e, l2]
    exact hK

theorem same_table {l : List Oper} {p : Nat} {o1 o2 : Oper} {S : Value → World → Prop} {a0 : Act} {w0 w1 : World} {f g : Nat → Value} (hI : ∀ o ∈ l, NoInit P o) (hg : Grown w0 w1) (h1 : l[p]? = some o1) (h2 : l[p + 1]? = some o2)
    (F : WalkFacts P l.toArray f p S a0 w0 (Grown w0) o1 o2) (G : WalkFacts P l.toArray g p S a0 w0 (Grown w1) o1 o2) : ∀ i, i < l.length → f i = g i := by
  intro i
  induction i using Nat.strongRecOn with
  | ind i ih =>
    intro hi
    have hl : ∀ j, j ≤ i → lexFrom l.toArray f 0 a0 j = lexFrom l.toArray g 0 a0 j := fun j hj => lexFrom_congr fun k _ hk => ih k (by omega) (by omega)
    by_cases hip : i = p
    · rw [hip, F.none, G.none]
    · by_cases hip1 : i = p + 1
      · subst hip1
        obtain ⟨v, w', h3, h4, h5⟩ := F.pair.1 w1 hg
        have q1 := F.pair.2 v w' (hg.trans h4) h5
        have q2 := G.pair.2 v w' (hg.trans h4) h5
        rw [hl p (by omega), q2] at q1
        injection q1 with q3
        injection q3 with q4
        exact q4.symm
      · have ho : l.toArray[i]? = some l[i] := by simp [hi]
        have q1 := F.quiet i _ ho hip hip1
        have q2 := G.quiet i _ ho hip hip1
        rw [hl i (Nat.le_refl _)] at q1
        exact yields_agree (hI _ (List.getElem_mem hi)) q1 q2 hg (Grown.refl w1)

/-- THE RULE. -/
theorem wp_region_stable {id : Nat} {Q : Exit → Act → World → Prop} {a : Act} {w : World} {l : List Oper} (p N : Nat) (o1 o2 : Oper) (S : Value → World → Prop) (hm : P.follows .mixedOrders = true) (hsel : Region.noSelect l.toArray = true) (hF : flowB l.toArray p N = true)
    (h1 : l[p]? = some o1) (h2 : l[p + 1]? = some o2) (g1 : o1.guard = none) (g2 : o2.guard = none) (hlink : ∃ t ∈ o2.looksAt l.toArray, o1.dst = some t) (hN : a.tmps.size = N) (hI : ∀ o ∈ l, NoInit P o)
    (hS : ∀ v w w', S v w → Grown w w' → S v w')
    (h : ∀ w1, Below w.heap.size w w1 → wpQuiet P l.toArray (fun w' => ∃ p : Regrown, w' = grow (redrawn w1 p.d) p.os) (fun a1 => ∃ v2, PairAt P o1 o2 S w a1 v2 ∧
      wpQuiet P l.toArray (fun w' => ∃ p : Regrown, w' = grow (redrawn w1 p.d) p.os) (fun a2 => ∀ v w', Below w.heap.size w w' → Q .normal (a2.put o1.dst v) w') (l.drop (p + 2)) ((a1.put o1.dst undef).put o2.dst v2)) (l.take p) a) :
    (Code.region id l.toArray true).wp P Q a w := by
  have F := Flow.of hF
  obtain ⟨f, W, hK⟩ := walk_facts h1 h2 (h w (Below.refl _ _))
  have o1e : l.toArray[p]? = some o1 := by simpa using h1
  have o2e : l.toArray[p + 1]? = some o2 := by simpa using h2
  have hd1 : dstOf l.toArray p = o1.dst := by simp [dstOf, h1]
  have X : Facts P l.toArray f p S a w := by
    refine ⟨fun i o ho hne hne1 w1 hg => ?_, fun o ho => ?_, fun o ho => ?_, hS, hsel, fun o ho => ?_⟩
    · obtain ⟨g, G, _⟩ := walk_facts h1 h2 (h w1 hg.below)
      have hlt := lt_of_some ho
      have hsame := same_table hI hg h1 h2 W G
      have := G.quiet i o ho hne hne1
      rw [← hsame i (by simpa using hlt), lexFrom_congr (g := f) (fun k _ hk => (hsame k (by simp at hlt; omega)).symm)] at this
      exact this
    · obtain rfl := Option.some.inj (o1e.symm.trans ho)
      exact ⟨g1, W.pair.1⟩
    · obtain rfl := Option.some.inj (o2e.symm.trans ho)
      rw [hd1]
      exact ⟨g2, W.pair.2⟩
    · obtain rfl := Option.some.inj (o2e.symm.trans ho)
      rw [hd1]
      exact hlink
  refine wp_region_any hm ?_
  refine stableR_any F hN (lt_of_some o1e) X (fun v w' hg => ?_) _ _ _ _ (S := S) ⟨Grown.of ?_, rfl, rfl, by simp, fun _ _ => rfl, fun i t hi => ?_⟩ ?_
  · have := hK v w' hg.below
    rw [hd1]
    simpa using this
  · exact (Below.refl _ _).drew
  · rw [Array.getD_eq_getD_getElem?, Array.getElem?_replicate] at hi
    split at hi <;> simp at hi
  · simp

/-- A check that an operation enters no start-up function (builtins, closures and methods called through an interface: not served). -/
def noInitB (P : Program) (o : Oper) : Bool :=
  match o.op with
  | .call { callee := .value (.func f), .. } => P.inits.idxOf? f == none && (match P.funcs[f]? with | some fn => fn.body.isSome && !(fn.name == "runtime.NumGoroutine") | none => false)
  | .move _ | .assign _ | .pick .. | .buildSlice .. | .load .. | .binOp .. | .unOp .. | .convert .. | .index .. | .extract .. | .slice .. | .field .. | .fieldAddr .. | .indexAddr .. => true
  | _ => false

theorem no_enter {s : Sem Value} {w w' : World} {f : FuncId} {args : Array Value} (h : (do pure (Next.value (← s)) : Sem Next).run P w = .ok (.enter f args) w') : False := by
  rw [Sem.run_bind] at h
  generalize s.run P w = r at h
  cases r with
  | ok v w1 => cases h
  | halt x w1 => cases h

theorem NoInit.of {o : Oper} (h : noInitB P o = true) : NoInit P o := by
  intro a w w' f args hr
  obtain ⟨dst, op, type, pos, after, guard⟩ := o
  simp only [noInitB] at h
  cases op <;> first | exact absurd h Bool.false_ne_true | skip
  all_goals (unfold execOp at hr; dsimp only at hr)
  all_goals try exact (no_enter hr).elim
  all_goals try (cases hr; done)
  case pick c x y =>
    rw [Sem.run_bind] at hr
    generalize (asBool (a.eval c)).run P w = r at hr
    cases r with
    | ok v w1 => cases hr
    | halt x w1 => cases hr
  case call c =>
    obtain ⟨callee, xs, ats⟩ := c
    cases callee with
    | value x =>
      cases x with
      | func g =>
        simp only [Bool.and_eq_true, beq_iff_eq] at h
        obtain ⟨h1, h2⟩ := h
        cases hf : P.funcs[g]? with
        | none => rw [hf] at h2; cases h2
        | some fn =>
          rw [hf] at h2
          simp only [Bool.and_eq_true, Bool.not_eq_true'] at h2
          obtain ⟨c, hc⟩ := Option.isSome_iff_exists.1 h2.1
          have he : execOp a.eval { dst, op := .call { callee := .value (.func g), args := xs, argTypes := ats }, type, pos, after, guard } = callFunc g (xs.map a.eval) := Conc.execOp_call_func rfl
          have hr2 : (execOp a.eval { dst, op := .call { callee := .value (.func g), args := xs, argTypes := ats }, type, pos, after, guard }).run P w = .ok (.enter f args) w' := hr
          rw [he, MuLone.run_callFunc_enter hf h2.2 hc] at hr2
          injection hr2 with hr3
          injection hr3 with hr4
          rw [← hr4]
          exact h1
      | _ => exact absurd h Bool.false_ne_true
    | _ => exact absurd h Bool.false_ne_true

theorem NoInit.all {l : List Oper} (h : l.all (noInitB P) = true) : ∀ o ∈ l, NoInit P o := fun o ho => NoInit.of (List.all_eq_true.1 h o ho)
end
end Go.Proofs.Ytihglmicgccgiaa

/-
  A region that draws its order, whose operations read, or lay new blocks (their values hang on the world), or read what others of them laid: one walk, in the order of the text.
-/
namespace Go.Proofs.Ytihglmicgccgiaa
open Go.RowKit Go.Sort

/-- What an operation is: it looks at nothing that is laid here; it reads what those of the list laid, and yields v; it lays (and reads what those of the list laid). -/
inductive Kd
  | plain
  | read (l : List Nat) (v : Value)
  | lay (l : List Nat) (S : Value → World → Prop)
def Kd.laid : Kd → Bool
  | .lay _ _ => true
  | _ => false
def Kd.isPlain : Kd → Bool
  | .plain => true
  | _ => false
def Kd.uses : Kd → List Nat
  | .plain => []
  | .read l _ => l
  | .lay l _ => l
def Kd.says : Kd → Value → World → Prop
  | .lay _ S => S
  | _ => fun _ _ => True
def kdOf : List (Nat × Kd) → Nat → Kd
  | [], _ => .plain
  | (i, k) :: l, j => if i = j then k else kdOf l j
def lays : List (Nat × Kd) → List Nat
  | [] => []
  | (i, k) :: l => if k.laid then i :: lays l else lays l

section
variable {P : Program} {ops : Array Oper} {ks : List (Nat × Kd)}

/-- The frame with these letters in the slots of these operations. -/
def putL (ops : Array Oper) (vs : Nat → Value) : List Nat → Act → Act
  | [], a => a
  | j :: l, a => putL ops vs l (a.put (dstOf ops j) (vs j))
theorem putL_size {vs : Nat → Value} : ∀ {l : List Nat} {a : Act}, (putL ops vs l a).tmps.size = a.tmps.size
  | [], _ => rfl
  | j :: l, a => by rw [putL, putL_size, put_size]
theorem putL_defers {vs : Nat → Value} : ∀ {l : List Nat} {a : Act}, (putL ops vs l a).defers = a.defers
  | [], _ => rfl
  | j :: l, a => by rw [putL, putL_defers]; cases dstOf ops j <;> rfl
theorem putL_none {vs : Nat → Value} {t : Nat} : ∀ {l : List Nat} {a : Act}, (∀ j ∈ l, dstOf ops j ≠ some t) → (putL ops vs l a).tmps[t]? = a.tmps[t]?
  | [], _, _ => rfl
  | j :: l, a, h => by rw [putL, putL_none (fun i hi => h i (List.mem_cons_of_mem _ hi)), put_ne _ _ _ _ (h j (List.mem_cons_self ..))]
theorem putL_some {vs : Nat → Value} {t j : Nat} (hj : dstOf ops j = some t) (hu : ∀ i, dstOf ops i = some t → i = j) : ∀ {l : List Nat} {a : Act}, t < a.tmps.size → j ∈ l → (putL ops vs l a).tmps[t]? = some (vs j)
  | i :: l, a, ht, hm => by
    rw [putL]
    by_cases hl : j ∈ l
    · exact putL_some hj hu (by rw [put_size]; exact ht) hl
    · have e : j = i := by simpa [hl] using hm
      subst e
      rw [putL_none (fun i hi he => hl (hu i he ▸ hi)), hj, put_eq _ _ _ ht]

/-- Run in w, it gives a value and a growth of w. -/
def gives (P : Program) (w : World) (R : Value → World → Prop) : Result Next → Prop
  | .ok (.value v) w' => Grown w w' ∧ R v w'
  | .ok .skip w' => Grown w w' ∧ R undef w'
  | .ok (.enter f args) w' => Calls P f args w' fun e w'' => ∃ v, e = .returned v ∧ Grown w w'' ∧ R v w''
  | _ => False
def GivesAt (P : Program) (ops : Array Oper) (o : Oper) (a : Act) (w : World) (R : Value → World → Prop) : Prop :=
  (Region.wanted o (yielded ops a.tmps) = true ∧ gives P w R ((execOp a.eval o).run P w)) ∨ (Region.wanted o (yielded ops a.tmps) = false ∧ R undef w)
/-- What an operation that reads what others laid, or lays, is asked: whatever they laid. -/
def LetterAt (P : Program) (ops : Array Oper) (ks : List (Nat × Kd)) (w0 : World) (l : List Nat) (o : Oper) (a : Act) (R : Value → World → Prop) : Prop :=
  ∀ (vs : Nat → Value) (w : World), Grown w0 w → (∀ j ∈ l, (kdOf ks j).says (vs j) w) → GivesAt P ops o (putL ops vs l a) w R
/-- The walk. -/
def wpFree (P : Program) (ops : Array Oper) (ks : List (Nat × Kd)) (w0 : World) (C : World → Prop) (K : Act → Prop) : List Oper → Nat → Act → Prop
  | [], _, a => K a
  | o :: rest, k, a => match kdOf ks k with
    | .plain => ∃ v, YieldsIn P ops C o v a ∧ wpFree P ops ks w0 C K rest (k + 1) (a.put o.dst v)
    | .read l v => LetterAt P ops ks w0 l o a (fun u _ => u = v) ∧ wpFree P ops ks w0 C K rest (k + 1) (a.put o.dst v)
    | .lay l S => LetterAt P ops ks w0 l o a S ∧ wpFree P ops ks w0 C K rest (k + 1) (a.put o.dst undef)
/-- What the walk shows of one operation. -/
def ObAt (P : Program) (ops : Array Oper) (ks : List (Nat × Kd)) (w0 : World) (C : World → Prop) (i : Nat) (o : Oper) (v : Value) (a : Act) : Prop :=
  match kdOf ks i with
  | .plain => YieldsIn P ops C o v a
  | .read l u => v = u ∧ LetterAt P ops ks w0 l o a (fun x _ => x = u)
  | .lay l S => v = undef ∧ LetterAt P ops ks w0 l o a S

theorem free_facts {w0 : World} {C : World → Prop} {K : Act → Prop} : ∀ (l : List Oper) (k : Nat) (a : Act), (∀ j, j < l.length → ops[k + j]? = l[j]?) → wpFree P ops ks w0 C K l k a →
    ∃ f : Nat → Value, K (lexFrom ops f k a l.length) ∧ ∀ j o, j < l.length → ops[k + j]? = some o → ObAt P ops ks w0 C (k + j) o (f (k + j)) (lexFrom ops f k a j)
  | [], k, a, _, h => ⟨fun _ => undef, h, fun j o hj => by simp at hj⟩
  | o :: l, k, a, hl, h => by
    have ho : ops[k]? = some o := by have := hl 0 (by simp); simpa using this
    have hd : dstOf ops k = o.dst := by simp [dstOf, ho]
    have step : ∃ v, ObAt P ops ks w0 C k o v a ∧ wpFree P ops ks w0 C K l (k + 1) (a.put o.dst v) := by
      simp only [wpFree] at h
      unfold ObAt
      cases hk : kdOf ks k with
      | plain => rw [hk] at h; simpa using h
      | read m v => rw [hk] at h; exact ⟨v, ⟨rfl, h.1⟩, h.2⟩
      | lay m S => rw [hk] at h; exact ⟨undef, ⟨rfl, h.1⟩, h.2⟩
    obtain ⟨v, h1, h2⟩ := step
    obtain ⟨f, h3, h4⟩ := free_facts l (k + 1) (a.put o.dst v) (fun j hj => by
      have := hl (j + 1) (by simpa using hj)
      rw [show k + 1 + j = k + (j + 1) by omega, this]; simp) h2
    refine ⟨fun i => if i = k then v else f i, ?_, ?_⟩
    · rw [List.length_cons, Nat.add_comm, lexFrom_add]
      simp only [lexFrom, Nat.add_zero, if_true, hd]
      rw [lexFrom_congr (g := f) (fun i h1 _ => by rw [if_neg (by omega)])]
      exact h3
    · intro j o' hj ho'
      cases j with
      | zero =>
        rw [Nat.add_zero] at ho'
        obtain rfl := Option.some.inj (ho.symm.trans ho')
        simpa [lexFrom] using h1
      | succ j =>
        have h5 := h4 j o' (by simpa using hj) (by rw [show k + 1 + j = k + (j + 1) by omega]; exact ho')
        rw [Nat.add_comm j 1, lexFrom_add]
        simp only [lexFrom, Nat.add_zero, if_true, hd]
        rw [lexFrom_congr (g := f) (fun i h1 _ => by rw [if_neg (by omega)]), if_neg (by omega), show k + (1 + j) = k + 1 + j by omega]
        exact h5

/-- Each operation has a slot of its own; it looks at slots of operations before it that it waits for; what is laid, those alone look at that say so. -/
def freeB (ops : Array Oper) (ks : List (Nat × Kd)) (N : Nat) (L : Nat := ops.size) : Bool :=
  (List.range ops.size).all fun i => match ops[i]? with
    | none => true
    | some o => (decide (L ≤ i) || o.dst.isSome) && o.after.all (fun e => decide (e.on < i)) && (kdOf ks i).uses.all (fun j => (kdOf ks j).laid && o.after.any (fun e => Region.binds .any e && e.on == j)) && (List.range ops.size).all fun j => match dstOf ops j with
      | none => true
      | some d => decide (d < N) && (i == j || o.dst != some d) && (!(o.looksAt ops).contains d || (decide (j < i) && o.after.any (fun e => Region.binds .any e && e.on == j) && (!(kdOf ks j).laid || (kdOf ks i).uses.contains j)))

/-- (the operations below L have a slot) -/
structure Free (ops : Array Oper) (ks : List (Nat × Kd)) (N : Nat) (L : Nat := ops.size) : Prop where
  dst : ∀ (i : Nat) (o : Oper), ops[i]? = some o → i < L → ∃ d, o.dst = some d ∧ dstOf ops i = some d
  back : ∀ (i : Nat) (o : Oper), ops[i]? = some o → ∀ e ∈ o.after, e.on < i
  bound : ∀ j d, dstOf ops j = some d → d < N
  uniq : ∀ i j d, dstOf ops i = some d → dstOf ops j = some d → i = j
  uses : ∀ (i : Nat) (o : Oper), ops[i]? = some o → ∀ j ∈ (kdOf ks i).uses, (kdOf ks j).laid = true ∧ ∃ e ∈ o.after, Region.binds .any e = true ∧ e.on = j
  looks : ∀ (i : Nat) (o : Oper) (j d : Nat), ops[i]? = some o → dstOf ops j = some d → d ∈ o.looksAt ops → j < i ∧ (∃ e ∈ o.after, Region.binds .any e = true ∧ e.on = j) ∧ ((kdOf ks j).laid = true → j ∈ (kdOf ks i).uses)

theorem Free.of {N L : Nat} (h : freeB ops ks N L = true) : Free ops ks N L := by
  have after_of : ∀ (o : Oper) (j : Nat), (o.after.any fun e => Region.binds .any e && e.on == j) = true → ∃ e ∈ o.after, Region.binds .any e = true ∧ e.on = j := fun o j h10 => by
    obtain ⟨k, hk, he⟩ := Array.any_eq_true.1 h10
    simp only [Bool.and_eq_true, beq_iff_eq] at he
    exact ⟨_, Array.getElem_mem hk, he.1, he.2⟩
  have H : ∀ i o, ops[i]? = some o → (i < L → o.dst.isSome = true) ∧ (∀ e ∈ o.after, e.on < i) ∧ (∀ j ∈ (kdOf ks i).uses, (kdOf ks j).laid = true ∧ ∃ e ∈ o.after, Region.binds .any e = true ∧ e.on = j) ∧
      ∀ j d, dstOf ops j = some d → d < N ∧ (i = j ∨ o.dst ≠ some d) ∧ (d ∈ o.looksAt ops → j < i ∧ (∃ e ∈ o.after, Region.binds .any e = true ∧ e.on = j) ∧ ((kdOf ks j).laid = true → j ∈ (kdOf ks i).uses)) := by
    intro i o ho
    have h1 := List.all_eq_true.1 h i (List.mem_range.2 (lt_of_some ho))
    rw [ho] at h1
    simp only [Bool.and_eq_true] at h1
    obtain ⟨⟨⟨h2, h3⟩, hu⟩, h4⟩ := h1
    refine ⟨fun hi => by simpa [decide_eq_false (show ¬ L ≤ i by omega)] using h2, fun e he => by simpa using (Array.all_eq_true_iff_forall_mem.1 h3) e he, fun j hj => ?_, fun j d hj => ?_⟩
    · have := List.all_eq_true.1 hu j hj
      rw [Bool.and_eq_true] at this
      exact ⟨this.1, after_of o j this.2⟩
    · have h5 := List.all_eq_true.1 h4 j (List.mem_range.2 (lt_of_dst hj))
      rw [hj] at h5
      simp only [Bool.and_eq_true, Bool.or_eq_true, decide_eq_true_eq, bne_iff_ne, beq_iff_eq, Bool.not_eq_true', List.contains_eq_mem] at h5
      obtain ⟨⟨h6, h7⟩, h8⟩ := h5
      refine ⟨h6, h7, fun hd => ?_⟩
      rcases h8 with h8 | ⟨⟨h9, h10⟩, h11⟩
      · simp [hd] at h8
      · exact ⟨h9, after_of o j h10, fun hl => by rcases h11 with h11 | h11; · rw [hl] at h11; cases h11
                                                  · exact h11⟩
  have dst : ∀ i o, ops[i]? = some o → i < L → ∃ d, o.dst = some d ∧ dstOf ops i = some d := fun i o ho hi => by
    obtain ⟨d, hd⟩ := Option.isSome_iff_exists.1 ((H i o ho).1 hi)
    exact ⟨d, hd, by simp [dstOf, ho, hd]⟩
  refine ⟨dst, fun i o ho => (H i o ho).2.1, fun j d hj => ?_, fun i j d hi hj => ?_, fun i o ho => (H i o ho).2.2.1, fun i o j d ho hj => ((H i o ho).2.2.2 j d hj).2.2⟩
  · obtain ⟨o, ho⟩ : ∃ o, ops[j]? = some o := ⟨_, Array.getElem?_eq_getElem (lt_of_dst hj)⟩
    exact ((H j o ho).2.2.2 j d hj).1
  · obtain ⟨o, ho⟩ : ∃ o, ops[i]? = some o := ⟨_, Array.getElem?_eq_getElem (lt_of_dst hi)⟩
    rcases ((H i o ho).2.2.2 j d hj).2.1 with h1 | h1
    · exact h1
    · exact absurd (by simpa [dstOf, ho] using hi) h1

/-- What holds while the region runs, in whatever order. -/
structure FInv (ops : Array Oper) (ks : List (Nat × Kd)) (f : Nat → Value) (a0 : Act) (w0 : World) (listed : Array Bool) (a : Act) (w : World) : Prop where
  cls : Grown w0 w
  dfr : a.defers = a0.defers
  size : a.tmps.size = a0.tmps.size
  len : listed.size = ops.size
  old : ∀ t, (∀ i, listed.getD i false = true → dstOf ops i ≠ some t) → a.tmps[t]? = a0.tmps[t]?
  new : ∀ i t, listed.getD i false = true → dstOf ops i = some t → ∃ v, a.tmps[t]? = some v ∧ ((kdOf ks i).laid = false → v = f i) ∧ (kdOf ks i).says v w
def Keeps (ks : List (Nat × Kd)) : Prop := ∀ i v w w', (kdOf ks i).says v w → Grown w w' → (kdOf ks i).says v w'
theorem FInv.put {f : Nat → Value} {N L : Nat} {a0 : Act} {w0 : World} {listed : Array Bool} {a : Act} {w w' : World} (F : Free ops ks N L) (hN : a0.tmps.size = N) (hS : Keeps ks)
    (h : FInv ops ks f a0 w0 listed a w) (hg : Grown w w') {i d : Nat} (hd : dstOf ops i = some d) (hl : listed.getD i false = false) {v : Value} (h1 : (kdOf ks i).laid = false → v = f i) (h2 : (kdOf ks i).says v w') :
    FInv ops ks f a0 w0 (listed.setIfInBounds i true) (a.put (some d) v) w' := by
  have hi : i < listed.size := by rw [h.len]; exact lt_of_dst hd
  refine ⟨h.cls.trans hg, by rw [← h.dfr]; rfl, by rw [put_size, h.size], by rw [Array.size_setIfInBounds, h.len], fun t ht => ?_, fun j t hj ht => ?_⟩
  · have h3 := ht i (by rw [getD_set _ _ _ hi, if_pos rfl])
    rw [put_ne _ _ _ _ (by rw [← hd]; exact h3)]
    exact h.old t fun k hk => ht k (by rw [getD_set _ _ _ hi]; split <;> simp [hk])
  · rw [getD_set _ _ _ hi] at hj
    by_cases hij : i = j
    · subst hij
      obtain rfl := Option.some.inj (hd.symm.trans ht)
      exact ⟨v, put_eq _ _ _ (by rw [h.size, hN]; exact F.bound _ _ hd), h1, h2⟩
    · rw [if_neg hij] at hj
      obtain ⟨u, h3, h4, h5⟩ := h.new j t hj ht
      refine ⟨u, ?_, h4, hS _ _ _ _ h5 hg⟩
      rw [put_ne _ _ _ _ (fun he => hij (F.uniq i j t (by rw [hd]; exact he) ht)), h3]

/-- The slots that operation i looks at are as in the lexical walk, with what was laid in its place. -/
theorem FInv.looks {f : Nat → Value} {N L : Nat} {a0 : Act} {w0 : World} {listed : Array Bool} {a : Act} {w : World} (F : Free ops ks N L) (hN : a0.tmps.size = N)
    (h : FInv ops ks f a0 w0 listed a w) {i : Nat} {o : Oper} (hul : ∀ j ∈ (kdOf ks i).uses, j < ops.size → j < L) (ho : ops[i]? = some o) (hr : ∀ e ∈ o.after, Region.binds .any e = true → listed.getD e.on false = true) :
    ∃ vs : Nat → Value, (∀ j ∈ (kdOf ks i).uses, (kdOf ks j).says (vs j) w) ∧ ∀ t ∈ o.looksAt ops, a.tmps[t]? = (putL ops vs (kdOf ks i).uses (lexFrom ops f 0 a0 i)).tmps[t]? := by
  obtain ⟨vs, hvs⟩ : ∃ vs : Nat → Value, ∀ j t, listed.getD j false = true → dstOf ops j = some t → a.tmps[t]? = some (vs j) ∧ (kdOf ks j).says (vs j) w := by
    refine ⟨fun j => ((dstOf ops j).bind fun t => a.tmps[t]?).getD undef, fun j t hj ht => ?_⟩
    obtain ⟨v, h3, _, h5⟩ := h.new j t hj ht
    have e : ((dstOf ops j).bind fun t => a.tmps[t]?).getD undef = v := by simp [ht, h3]
    simp only [e]
    exact ⟨h3, h5⟩
  refine ⟨vs, fun j hj => ?_, fun t ht => ?_⟩
  · obtain ⟨_, e, he, hb, rfl⟩ := F.uses i o ho j hj
    have hl := hr e he hb
    have hlt : e.on < ops.size := Nat.lt_trans (F.back i o ho e he) (lt_of_some ho)
    obtain ⟨d, _, hd⟩ := F.dst e.on _ (Array.getElem?_eq_getElem hlt) (hul _ hj hlt)
    exact (hvs _ _ hl hd).2
  · by_cases hj : ∃ j, dstOf ops j = some t
    · obtain ⟨j, hj⟩ := hj
      obtain ⟨hji, ⟨e, he, hb, hej⟩, hlaid⟩ := F.looks i o j t ho hj ht
      have hl : listed.getD j false = true := hej ▸ hr e he hb
      have hsz : t < (lexFrom ops f 0 a0 i).tmps.size := by rw [lexFrom_size, hN]; exact F.bound _ _ hj
      by_cases hu : j ∈ (kdOf ks i).uses
      · rw [putL_some hj (fun k hk => F.uniq k j t hk hj) hsz hu, (hvs j t hl hj).1]
      · have hnl : (kdOf ks j).laid = false := by
          cases hx : (kdOf ks j).laid with
          | false => rfl
          | true => exact absurd (hlaid hx) hu
        rw [putL_none (fun k hk he => hu (F.uniq k j t he hj ▸ hk))]
        obtain ⟨v, h3, h4, _⟩ := h.new j t hl hj
        have hx := lex_some (ops := ops) (f := f) (k := 0) (a := a0) (t := t) (i := j) (by rw [hN]; exact F.bound _ _ hj) (by rw [Nat.zero_add]; exact hj)
          (fun j' hj' he' => absurd (F.uniq j (0 + j') t hj he') (by omega)) hji
        rw [h3, hx, h4 hnl, Nat.zero_add]
    · rw [h.old t fun i' _ hi' => hj ⟨i', hi'⟩, putL_none (fun k _ he => hj ⟨k, he⟩), lex_none fun i' _ hi' => hj ⟨_, hi'⟩]

theorem wanted_same {o : Oper} {a a' : Act} (hl : ∀ t ∈ o.looksAt ops, a'.tmps[t]? = a.tmps[t]?) : Region.wanted o (yielded ops a'.tmps) = Region.wanted o (yielded ops a.tmps) := by
  unfold Region.wanted
  cases hg : o.guard with
  | none => rfl
  | some gw =>
    obtain ⟨g, want⟩ := gw
    have hy : yielded ops a'.tmps g = yielded ops a.tmps g := by
      unfold yielded
      cases ht : (ops[g]?).bind (·.dst) with
      | none => rfl
      | some t =>
        have := hl t (List.mem_append_right _ (by simp [hg, ht]))
        simp [this]
    simp only [hy]
theorem GivesAt.of_same {o : Oper} {a a' : Act} {w : World} {R : Value → World → Prop} (hs : ∀ cs b, o.op ≠ .select cs b) (h : GivesAt P ops o a w R) (hl : ∀ t ∈ o.looksAt ops, a'.tmps[t]? = a.tmps[t]?) : GivesAt P ops o a' w R := by
  unfold GivesAt at *
  rw [exec_same hs hl, wanted_same hl]
  exact h
theorem GivesAt.wpOp {i : Nat} {o : Oper} {a : Act} {w : World} {R : Value → World → Prop} {Q : Exit → Act → World → Prop} {K : Act → World → Prop} (ho : ops[i]? = some o) (h : GivesAt P ops o a w R) (hK : ∀ v w', Grown w w' → R v w' → K (a.put o.dst v) w') : wpOp P ops Q i K a w := by
  unfold Go.wpOp
  simp only [ho]
  rcases h with ⟨h1, h2⟩ | ⟨h1, h2⟩
  · rw [if_pos h1]
    refine .inl ?_
    unfold Oper.wp
    generalize (execOp a.eval o).run P w = r at h2
    cases r with
    | ok n w1 =>
      cases n <;> simp only [gives] at h2 <;> try exact h2.elim
      case value v => exact hK _ _ h2.1 h2.2
      case skip => exact hK _ _ h2.1 h2.2
      case enter f args =>
        rw [Oper.upon_enter]
        refine h2.mono ?_
        rintro e w2 ⟨v, rfl, h3, h4⟩
        exact hK _ _ h3 h4
    | halt x w1 => simp only [gives] at h2
  · rw [if_neg (by rw [h1]; exact Bool.false_ne_true)]
    exact hK _ _ (Grown.refl w) h2

/-- The facts at every base. -/
structure FFacts (P : Program) (ops : Array Oper) (ks : List (Nat × Kd)) (f : Nat → Value) (a0 : Act) (w0 : World) : Prop where
  plain : ∀ (i : Nat) (o : Oper), ops[i]? = some o → kdOf ks i = .plain → ∀ w1, Grown w0 w1 → YieldsIn P ops (Grown w1) o (f i) (lexFrom ops f 0 a0 i)
  read : ∀ (i : Nat) (o : Oper) (l : List Nat) (v : Value), ops[i]? = some o → kdOf ks i = .read l v → f i = v ∧ LetterAt P ops ks w0 l o (lexFrom ops f 0 a0 i) (fun u _ => u = v)
  lay : ∀ (i : Nat) (o : Oper) (l : List Nat) (S : Value → World → Prop), ops[i]? = some o → kdOf ks i = .lay l S → LetterAt P ops ks w0 l o (lexFrom ops f 0 a0 i) S
  noSel : Region.noSelect ops = true

theorem FInv.step {f : Nat → Value} {N : Nat} {a0 : Act} {w0 : World} {listed : Array Bool} {a : Act} {w : World} {Q' : Exit → Act → World → Prop} (F : Free ops ks N) (hN : a0.tmps.size = N) (hS : Keeps ks) (X : FFacts P ops ks f a0 w0)
    (h : FInv ops ks f a0 w0 listed a w) {i : Nat} (hr : i ∈ Region.ready .any ops listed) : wpOp P ops Q' i (fun a' w' => FInv ops ks f a0 w0 (listed.setIfInBounds i true) a' w') a w := by
  obtain ⟨hl, o, ho, hdep⟩ := ready_spec hr
  obtain ⟨d, hod, hd⟩ := F.dst i o ho (lt_of_some ho)
  have hl' : listed.getD i false = false := by rw [getD_any (by rw [h.len]; exact lt_of_some ho) false true]; exact hl
  have hs : ∀ cs b, o.op ≠ .select cs b := fun cs b => Region.noSelect_spec X.noSel i o cs b ho
  obtain ⟨vs, h1, h2⟩ := h.looks F hN (fun _ _ h => h) ho hdep
  cases hk : kdOf ks i with
  | plain =>
    rw [hk] at h2
    have hy := yields_of_same hs (X.plain i o ho hk w h.cls) (a' := a) h2
    refine wpOp_of_qOp (C := Grown w) (K := fun a' => a' = a.put o.dst (f i)) (Grown.refl w) (fun a' w' hg ha => ?_) ?_
    · rw [ha, hod]
      exact h.put F hN hS hg hd hl' (fun _ => rfl) (by rw [hk]; trivial)
    · unfold qOp
      simp only [ho]
      rcases hy with ⟨h1, h2⟩ | ⟨h1, h2⟩
      · rw [if_pos h1]
        exact ⟨_, h2, rfl⟩
      · rw [if_neg (by rw [h1]; exact Bool.false_ne_true), h2]
  | read l v =>
    obtain ⟨e, hL⟩ := X.read i o l v ho hk
    rw [hk] at h1 h2
    refine GivesAt.wpOp ho ((hL vs w h.cls h1).of_same hs h2) ?_
    rintro u w' hg rfl
    rw [hod]
    exact h.put F hN hS hg hd hl' (fun _ => e.symm) (by rw [hk]; trivial)
  | lay l S =>
    have hL := X.lay i o l S ho hk
    rw [hk] at h1 h2
    refine GivesAt.wpOp ho ((hL vs w h.cls h1).of_same hs h2) ?_
    intro u w' hg hu
    rw [hod]
    exact h.put F hN hS hg hd hl' (fun hf => by rw [hk] at hf; cases hf) (by rw [hk]; exact hu)

theorem FInv.all_listed {f : Nat → Value} {N L : Nat} {a0 : Act} {w0 : World} {listed : Array Bool} {a : Act} {w : World} (F : Free ops ks N L)
    (h : FInv ops ks f a0 w0 listed a w) (hr : Region.ready .any ops listed = []) : ∀ i, i < ops.size → listed.getD i false = true := by
  intro i
  induction i using Nat.strongRecOn with
  | ind i ih =>
    intro hi
    cases hl : listed.getD i false with
    | true => rfl
    | false =>
      have ho : ops[i]? = some ops[i] := Array.getElem?_eq_getElem hi
      have : i ∈ Region.ready .any ops listed := by
        simp only [Region.ready, List.mem_filter, List.mem_range, Bool.and_eq_true, Bool.not_eq_true']
        refine ⟨hi, by rw [getD_any (by rw [h.len]; exact hi) true false]; exact hl, ?_⟩
        rw [ho]
        simp only [Option.map_some, Option.getD_some]
        refine Array.all_eq_true_iff_forall_mem.2 fun e he => ?_
        have hb := F.back i _ ho e he
        rw [ih e.on hb (by omega)]
        simp
      rw [hr] at this
      cases this
theorem mem_lays : ∀ {ks : List (Nat × Kd)} {j : Nat}, (kdOf ks j).laid = true → j ∈ lays ks
  | [], j, h => by cases h
  | (i, k) :: ks, j, h => by
    unfold lays
    rw [kdOf] at h
    by_cases e : i = j
    · subst e
      rw [if_pos rfl] at h
      rw [if_pos h]
      exact List.mem_cons_self ..
    · rw [if_neg e] at h
      have := mem_lays h
      split
      · exact List.mem_cons_of_mem _ this
      · exact this
/-- At the end the frame is the lexical walk's, with what was laid in its place. -/
theorem FInv.fin {f : Nat → Value} {N : Nat} {a0 : Act} {w0 : World} {listed : Array Bool} {a : Act} {w : World} (F : Free ops ks N) (hN : a0.tmps.size = N) (hks : ∀ j ∈ lays ks, (kdOf ks j).laid = true)
    (h : FInv ops ks f a0 w0 listed a w) (hall : ∀ i, i < ops.size → listed.getD i false = true) (hin : ∀ j ∈ lays ks, j < ops.size) : ∃ vs : Nat → Value, (∀ j ∈ lays ks, (kdOf ks j).says (vs j) w) ∧ a = putL ops vs (lays ks) (lexFrom ops f 0 a0 ops.size) := by
  obtain ⟨vs, hvs⟩ : ∃ vs : Nat → Value, ∀ j t, listed.getD j false = true → dstOf ops j = some t → a.tmps[t]? = some (vs j) ∧ (kdOf ks j).says (vs j) w := by
    refine ⟨fun j => ((dstOf ops j).bind fun t => a.tmps[t]?).getD undef, fun j t hj ht => ?_⟩
    obtain ⟨v, h3, _, h5⟩ := h.new j t hj ht
    have e : ((dstOf ops j).bind fun t => a.tmps[t]?).getD undef = v := by simp [ht, h3]
    simp only [e]
    exact ⟨h3, h5⟩
  refine ⟨vs, fun j hj => ?_, ?_⟩
  · obtain ⟨d, _, hd⟩ := F.dst j _ (Array.getElem?_eq_getElem (hin j hj)) (hin j hj)
    exact (hvs _ _ (hall j (hin j hj)) hd).2
  · have hdf : a.defers = (putL ops vs (lays ks) (lexFrom ops f 0 a0 ops.size)).defers := by
      rw [h.dfr, putL_defers]
      exact (lexFrom_defers (ops := ops) (f := f) (k := 0) (a := a0) (j := ops.size)).symm
    have ht : a.tmps = (putL ops vs (lays ks) (lexFrom ops f 0 a0 ops.size)).tmps := by
      apply Array.ext_getElem?
      intro t
      by_cases hj : ∃ j, dstOf ops j = some t
      · obtain ⟨j, hj⟩ := hj
        have hjl := lt_of_dst hj
        have hl := hall j hjl
        have hsz : t < (lexFrom ops f 0 a0 ops.size).tmps.size := by rw [lexFrom_size, hN]; exact F.bound _ _ hj
        by_cases hu : j ∈ lays ks
        · rw [putL_some hj (fun k hk => F.uniq k j t hk hj) hsz hu, (hvs j t hl hj).1]
        · have hnl : (kdOf ks j).laid = false := by
            cases hx : (kdOf ks j).laid with
            | false => rfl
            | true => exact absurd (mem_lays hx) hu
          rw [putL_none (fun k hk he => hu (F.uniq k j t he hj ▸ hk))]
          obtain ⟨v, h3, h4, _⟩ := h.new j t hl hj
          have hx := lex_some (ops := ops) (f := f) (k := 0) (a := a0) (t := t) (i := j) (by rw [hN]; exact F.bound _ _ hj) (by rw [Nat.zero_add]; exact hj)
            (fun j' hj' he' => absurd (F.uniq j (0 + j') t hj he') (by omega)) hjl
          rw [h3, hx, h4 hnl, Nat.zero_add]
      · rw [h.old t fun i' _ hi' => hj ⟨i', hi'⟩, putL_none (fun k _ he => hj ⟨k, he⟩), lex_none fun i' _ hi' => hj ⟨_, hi'⟩]
    obtain ⟨tm, df⟩ := a
    simp only at ht hdf
    rw [ht, hdf]

theorem free_any {f : Nat → Value} {N : Nat} {a0 : Act} {w0 : World} {Q' : Exit → Act → World → Prop} (F : Free ops ks N) (hN : a0.tmps.size = N) (hS : Keeps ks) (X : FFacts P ops ks f a0 w0)
    (hQ : ∀ listed a w, FInv ops ks f a0 w0 listed a w → (∀ i, i < ops.size → listed.getD i false = true) → Q' .normal a w) : ∀ (fuel : Nat) (listed : Array Bool) (a : Act) (w : World), FInv ops ks f a0 w0 listed a w → listed.toList.count false ≤ fuel → wpAny P .any ops Q' fuel listed a w := by
  intro fuel
  induction fuel with
  | zero =>
    intro listed a w h hc
    have hr : Region.ready .any ops listed = [] := by
      rw [List.eq_nil_iff_forall_not_mem]
      intro i hi
      obtain ⟨hl, o, ho, _⟩ := ready_spec hi
      have hlt : i < listed.size := by rw [h.len]; exact lt_of_some ho
      have : false ∈ listed.toList := by
        rw [Array.getD_eq_getD_getElem?, Array.getElem?_eq_getElem hlt] at hl
        simp only [Option.getD_some] at hl
        rw [← hl]
        simp
      have := List.count_pos_iff.2 this
      omega
    exact ⟨hr, hQ _ _ _ h (h.all_listed F hr)⟩
  | succ fuel ih =>
    intro listed a w h hc
    refine ⟨fun hr => hQ _ _ _ h (h.all_listed F hr), fun i hi => wpOp_mono (fun a' w' h' => ih _ _ _ h' ?_) (h.step F hN hS X hi)⟩
    obtain ⟨hl, o, ho, _⟩ := ready_spec hi
    have hlt : i < listed.size := by rw [h.len]; exact lt_of_some ho
    have hlv : listed[i] = false := by
      rw [Array.getD_eq_getD_getElem?, Array.getElem?_eq_getElem hlt] at hl
      simpa using hl
    have hcs := List.count_set (a := true) (b := false) (l := listed.toList) (i := i) (by simpa using hlt)
    have hpos : 0 < listed.toList.count false := List.count_pos_iff.2 (by rw [← hlv]; simp)
    have hcs' : (listed.setIfInBounds i true).toList.count false = listed.toList.count false - 1 := by
      rw [Array.toList_setIfInBounds, hcs]
      simp [hlv]
    omega

/-- Two walks, from two bases: one table. -/
theorem free_table {l : List Oper} {a0 : Act} {w0 w1 : World} {f g : Nat → Value} (hI : ∀ i o, l[i]? = some o → (kdOf ks i).isPlain = true → NoInit P o) (hg : Grown w0 w1)
    (hf : ∀ j o, j < l.length → l.toArray[j]? = some o → ObAt P l.toArray ks w0 (Grown w0) j o (f j) (lexFrom l.toArray f 0 a0 j))
    (hh : ∀ j o, j < l.length → l.toArray[j]? = some o → ObAt P l.toArray ks w0 (Grown w1) j o (g j) (lexFrom l.toArray g 0 a0 j)) : ∀ i, i < l.length → f i = g i := by
  intro i
  induction i using Nat.strongRecOn with
  | ind i ih =>
    intro hi
    have hl : ∀ j, j ≤ i → lexFrom l.toArray f 0 a0 j = lexFrom l.toArray g 0 a0 j := fun j hj => lexFrom_congr fun k _ hk => ih k (by omega) (by omega)
    have ho : l.toArray[i]? = some l[i] := by simp [hi]
    have q1 := hf i _ hi ho
    have q2 := hh i _ hi ho
    unfold ObAt at q1 q2
    cases hk : kdOf ks i with
    | plain =>
      rw [hk] at q1 q2
      rw [hl i (Nat.le_refl _)] at q1
      exact yields_agree (hI i _ (by simp) (by rw [hk]; rfl)) q1 q2 hg (Grown.refl w1)
    | read m v => rw [hk] at q1 q2; rw [q1.1, q2.1]
    | lay m S => rw [hk] at q1 q2; rw [q1.1, q2.1]

def laysB (ks : List (Nat × Kd)) (n : Nat) : Bool := (lays ks).all fun j => (kdOf ks j).laid && decide (j < n)

/-- THE RULE. -/
theorem wp_region_free {id : Nat} {Q : Exit → Act → World → Prop} {a : Act} {w : World} {l : List Oper} (ks : List (Nat × Kd)) (N : Nat) (hm : P.follows .mixedOrders = true) (hsel : Region.noSelect l.toArray = true) (hF : freeB l.toArray ks N = true) (hks : laysB ks l.length = true)
    (hN : a.tmps.size = N) (hI : ∀ i o, l[i]? = some o → (kdOf ks i).isPlain = true → NoInit P o) (hS : Keeps ks)
    (h : ∀ w1, Below w.heap.size w w1 → wpFree P l.toArray ks w (fun w' => ∃ p : Regrown, w' = grow (redrawn w1 p.d) p.os) (fun a2 => ∀ (vs : Nat → Value) (w' : World), Below w.heap.size w w' → (∀ j ∈ lays ks, (kdOf ks j).says (vs j) w') → Q .normal (putL l.toArray vs (lays ks) a2) w') l 0 a) :
    (Code.region id l.toArray true).wp P Q a w := by
  have F := Free.of hF
  have hla : ∀ j ∈ lays ks, (kdOf ks j).laid = true ∧ j < l.length := fun j hj => by
    have := List.all_eq_true.1 hks j hj
    simpa using this
  obtain ⟨f, hK, hf⟩ := free_facts l 0 a (fun j hj => by simp) (h w (Below.refl _ _))
  simp only [Nat.zero_add] at hf
  have X : FFacts P l.toArray ks f a w := by
    refine ⟨fun i o ho hk w1 hg => ?_, fun i o m v ho hk => ?_, fun i o m S ho hk => ?_, hsel⟩
    · obtain ⟨g, _, hh⟩ := free_facts l 0 a (fun j hj => by simp) (h w1 hg.below)
      simp only [Nat.zero_add] at hh
      have hi : i < l.length := by simpa using lt_of_some ho
      have hsame := free_table hI hg hf hh
      have := hh i o hi ho
      unfold ObAt at this
      rw [hk] at this
      rw [← hsame i hi, lexFrom_congr (g := f) (fun k _ hk => (hsame k (by omega)).symm)] at this
      exact this
    · have := hf i o (by simpa using lt_of_some ho) ho
      unfold ObAt at this
      rw [hk] at this
      exact this
    · have := hf i o (by simpa using lt_of_some ho) ho
      unfold ObAt at this
      rw [hk] at this
      exact this.2
  refine wp_region_any hm ?_
  refine free_any F hN hS X (fun listed a' w' hv hall => ?_) _ _ _ _ ⟨Grown.of ?_, rfl, rfl, by simp, fun _ _ => rfl, fun i t hi => ?_⟩ ?_
  · obtain ⟨vs, h1, h2⟩ := hv.fin F hN (fun j hj => (hla j hj).1) hall (fun j hj => by simpa using (hla j hj).2)
    have := hK vs w' hv.cls.below h1
    rw [h2]
    simpa using this
  · exact (Below.refl _ _).drew
  · rw [Array.getD_eq_getD_getElem?, Array.getElem?_replicate] at hi
    split at hi <;> simp at hi
  · simp

/-- Plain operations, some at once. -/
theorem free_seg {w0 : World} {C : World → Prop} {K : Act → Prop} : ∀ (m : Nat) {l : List Oper} {k : Nat} {a : Act}, ((List.range m).all fun i => (kdOf ks (k + i)).isPlain) = true → wpQuiet P ops C (fun a' => wpFree P ops ks w0 C K (l.drop m) (k + m) a') (l.take m) a → wpFree P ops ks w0 C K l k a
  | 0, l, k, a, _, h => h
  | m + 1, [], k, a, _, h => h
  | m + 1, o :: l, k, a, hp, h => by
    have hp' : ∀ i, i < m + 1 → (kdOf ks (k + i)).isPlain = true := fun i hi => List.all_eq_true.1 hp i (List.mem_range.2 hi)
    have hk : kdOf ks k = .plain := by
      have := hp' 0 (by omega)
      rw [Nat.add_zero] at this
      cases e : kdOf ks k <;> rw [e] at this <;> first | rfl | cases this
    have hrest : ((List.range m).all fun i => (kdOf ks (k + 1 + i)).isPlain) = true := List.all_eq_true.2 fun i hi => by
      have := hp' (i + 1) (by have := List.mem_range.1 hi; omega)
      rwa [show k + 1 + i = k + (i + 1) by omega]
    simp only [List.take_succ_cons, List.drop_succ_cons, wpQuiet] at h
    simp only [wpFree, hk]
    have ekm : k + (m + 1) = k + 1 + m := by omega
    rw [ekm] at h
    split at h
    · rename_i hw
      obtain ⟨v, h1, h2⟩ := h
      exact ⟨v, .inl ⟨hw, h1⟩, free_seg m hrest h2⟩
    · rename_i hw
      exact ⟨undef, .inr ⟨by simpa using hw, rfl⟩, free_seg m hrest h⟩
theorem free_nil {w0 : World} {C : World → Prop} {K : Act → Prop} {k : Nat} {a : Act} (h : K a) : wpFree P ops ks w0 C K [] k a := h
theorem free_read {w0 : World} {C : World → Prop} {K : Act → Prop} {l : List Oper} {o : Oper} {k : Nat} {a : Act} (m : List Nat) (v : Value) (hk : kdOf ks k = .read m v) (h1 : LetterAt P ops ks w0 m o a (fun u _ => u = v)) (h2 : wpFree P ops ks w0 C K l (k + 1) (a.put o.dst v)) : wpFree P ops ks w0 C K (o :: l) k a := by
  simp only [wpFree, hk]; exact ⟨h1, h2⟩
theorem free_lay {w0 : World} {C : World → Prop} {K : Act → Prop} {l : List Oper} {o : Oper} {k : Nat} {a : Act} (m : List Nat) (S : Value → World → Prop) (hk : kdOf ks k = .lay m S) (h1 : LetterAt P ops ks w0 m o a S) (h2 : wpFree P ops ks w0 C K l (k + 1) (a.put o.dst undef)) : wpFree P ops ks w0 C K (o :: l) k a := by
  simp only [wpFree, hk]; exact ⟨h1, h2⟩
theorem letter0 {w0 : World} {o : Oper} {a : Act} {R : Value → World → Prop} (hg : o.guard = none) (h : ∀ w, Below w0.heap.size w0 w → gives P w R ((execOp a.eval o).run P w)) : LetterAt P ops ks w0 [] o a R :=
  fun vs w hw _ => .inl ⟨by simp [Region.wanted, hg], h w hw.below⟩
theorem letter1 {w0 : World} {o : Oper} {a : Act} {R : Value → World → Prop} (j : Nat) (hg : o.guard = none) (h : ∀ v w, Below w0.heap.size w0 w → (kdOf ks j).says v w → gives P w R ((execOp (a.put (dstOf ops j) v).eval o).run P w)) : LetterAt P ops ks w0 [j] o a R :=
  fun vs w hw hs => .inl ⟨by simp [Region.wanted, hg], h (vs j) w hw.below (hs j (by simp))⟩
theorem letter2 {w0 : World} {o : Oper} {a : Act} {R : Value → World → Prop} (i j : Nat) (hg : o.guard = none) (h : ∀ u v w, Below w0.heap.size w0 w → (kdOf ks i).says u w → (kdOf ks j).says v w → gives P w R ((execOp ((a.put (dstOf ops i) u).put (dstOf ops j) v).eval o).run P w)) : LetterAt P ops ks w0 [i, j] o a R :=
  fun vs w hw hs => .inl ⟨by simp [Region.wanted, hg], h (vs i) (vs j) w hw.below (hs i (by simp)) (hs j (by simp))⟩
/-- A check that a plain operation enters no start-up function. -/
def noInitF (P : Program) (o : Oper) : Bool :=
  noInitB P o || match o.op with
    | .build .. => true
    | .call { callee := .builtin .len, .. } => true
    | _ => false
theorem NoInit.ofF {o : Oper} (h : noInitF P o = true) : NoInit P o := by
  unfold noInitF at h
  rw [Bool.or_eq_true] at h
  rcases h with h | h
  · exact NoInit.of h
  · intro a w w' f args hr
    obtain ⟨dst, op, type, pos, after, guard⟩ := o
    cases op <;> first | exact absurd h Bool.false_ne_true | skip
    case call c =>
      obtain ⟨callee, xs, ats⟩ := c
      cases callee with
      | builtin b =>
        cases b <;> first | exact absurd h Bool.false_ne_true | skip
        have hr2 : (do pure (Next.value (← Builtin.len_ ats type (xs.map a.eval))) : Sem Next).run P w = .ok (.enter f args) w' := hr
        exact (no_enter hr2).elim
      | _ => exact absurd h Bool.false_ne_true
    all_goals (unfold execOp at hr; dsimp only at hr)
    all_goals exact (no_enter hr).elim
def plainNoInit (P : Program) (ks : List (Nat × Kd)) (l : List Oper) : Bool := (List.range l.length).all fun i => !(kdOf ks i).isPlain || match l[i]? with
  | some o => noInitF P o
  | none => true
theorem plainNoInit.of {l : List Oper} (h : plainNoInit P ks l = true) : ∀ i o, l[i]? = some o → (kdOf ks i).isPlain = true → NoInit P o := fun i o ho hk => by
  have := List.all_eq_true.1 h i (List.mem_range.2 (by
    rcases Nat.lt_or_ge i l.length with h1 | h1
    · exact h1
    · rw [List.getElem?_eq_none h1] at ho; cases ho))
  rw [ho, hk] at this
  exact NoInit.ofF (by simpa using this)
theorem kdOf_mem : ∀ {ks : List (Nat × Kd)} {j : Nat}, kdOf ks j = .plain ∨ ∃ i, (i, kdOf ks j) ∈ ks
  | [], j => .inl rfl
  | (i, k) :: ks, j => by
    rw [kdOf]
    by_cases e : i = j
    · rw [if_pos e]; exact .inr ⟨i, List.mem_cons_self ..⟩
    · rw [if_neg e]
      rcases @kdOf_mem ks j with h | ⟨i', h⟩
      · exact .inl h
      · exact .inr ⟨i', List.mem_cons_of_mem _ h⟩
theorem Keeps.of (h : ∀ p ∈ ks, ∀ v w w', p.2.says v w → Grown w w' → p.2.says v w') : Keeps ks := fun i v w w' => by
  rcases @kdOf_mem ks i with e | ⟨i', e⟩
  · rw [e]; exact fun _ _ => trivial
  · exact h _ e v w w'
theorem letter0w {w0 : World} {o : Oper} {a : Act} {R : Value → World → Prop} (hw : Region.wanted o (yielded ops a.tmps) = true) (h : ∀ w, Below w0.heap.size w0 w → gives P w R ((execOp a.eval o).run P w)) : LetterAt P ops ks w0 [] o a R :=
  fun vs w hg _ => .inl ⟨hw, h w hg.below⟩
theorem letter1w {w0 : World} {o : Oper} {a : Act} {R : Value → World → Prop} (j : Nat) (hw : ∀ v, Region.wanted o (yielded ops (a.put (dstOf ops j) v).tmps) = true) (h : ∀ v w, Below w0.heap.size w0 w → (kdOf ks j).says v w → gives P w R ((execOp (a.put (dstOf ops j) v).eval o).run P w)) : LetterAt P ops ks w0 [j] o a R :=
  fun vs w hg hs => .inl ⟨hw _, h (vs j) w hg.below (hs j (by simp))⟩
/-- what a block held holds on, seen from the walk's base -/
theorem base_cell {w0 w1 : World} (h : Below w0.heap.size w0 w1) {b : Nat} (hb : b < w0.heap.size) : (∀ (o : Nat) (d : Nat) (os : Array Obj), (grow (redrawn w1 d) os).cell? ⟨b, o, none⟩ = w0.cell? ⟨b, o, none⟩) ∧ (∀ (o : Nat) (d : Nat) (os : Array Obj), (grow (redrawn w1 d) os).frozen? ⟨b, o, none⟩ = w0.frozen? ⟨b, o, none⟩) :=
  ⟨fun o d os => ((below_regrown w1 d os).cell (p := ⟨b, o, none⟩) (Nat.lt_of_lt_of_le hb h.size)).trans (h.cell (p := ⟨b, o, none⟩) hb), fun o d os => ((below_regrown w1 d os).frozen (p := ⟨b, o, none⟩) (Nat.lt_of_lt_of_le hb h.size)).trans (h.frozen (p := ⟨b, o, none⟩) hb)⟩
theorem base_below {w0 w1 : World} (h : Below w0.heap.size w0 w1) (d : Nat) (os : Array Obj) : Below w0.heap.size w0 (grow (redrawn w1 d) os) := h.trans ((below_regrown w1 d os).mono h.size)
end
end Go.Proofs.Ytihglmicgccgiaa
