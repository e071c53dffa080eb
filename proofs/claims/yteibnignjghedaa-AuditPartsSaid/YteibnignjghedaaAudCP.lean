/-
  What a check finds, plainly; the faults that are told, and the blocks that no telling touches.
-/
import Derived.Test.YteibnignjghedaaAudA
import Derived.Test.YteibnignjghedaaAudX
import Derived.Test.YteibnignjghedaaAudQ
import Derived.Test.YteibnignjghedaaKeysGapW
namespace Go.Proofs.Yteibnignjghedaa
open Go.RowKit Go.Sort

theorem addF_len (is : Bool) (fs : List (Int × Int)) (f : Int × Int) : fs.length ≤ (addF is fs f).length ∧ (addF is fs f).length ≤ fs.length + 1 := by cases is <;> simp [addF]
/-- those that may not be, of the first k -/
def argsN (l : List SeenA) : Nat → List (Int × Int)
  | 0 => []
  | k + 1 => match l[k]? with | none => argsN l k | some s => addF (!mayS s) (argsN l k) (2, (k : Int))
def leadS (a b : SeenA) : Bool := a.leads && b.leads && decide (a.ht = b.ht)
/-- the faults of two -/
noncomputable def pairF (a b : SeenA) (k : Int) (fs : List (Int × Int)) : List (Int × Int) :=
  if a.group = b.group then addF (machL a b) (addF (busyL a b) (addF (formsL a b) (addF (leadS a b) fs (11, k)) (4, k)) (6, k)) (9, k) else fs
noncomputable def rowN (l : List SeenA) (b : SeenA) (k : Int) (fs : List (Int × Int)) : Nat → List (Int × Int)
  | 0 => fs
  | i + 1 => match l[i]? with | none => rowN l b k fs i | some a => pairF a b k (rowN l b k fs i)
noncomputable def pairsN (l : List SeenA) : Nat → List (Int × Int)
  | 0 => []
  | k + 1 => match l[k]? with | none => pairsN l k | some b => rowN l b k (pairsN l k) k
def meetS (r x : Says) : Bool := meetL r.2.1.toList r.2.2.1.toList x.2.1.toList x.2.2.1.toList
def meetN (t : List Says) (x : Says) (k : Int) (fs : List (Int × Int)) : Nat → List (Int × Int)
  | 0 => fs
  | i + 1 => match t[i]? with | none => meetN t x k fs i | some r => addF (meetS r x) (meetN t x k fs i) (8, k)
def meetsN (t : List Says) (fs : List (Int × Int)) : Nat → List (Int × Int)
  | 0 => fs
  | k + 1 => match t[k]? with | none => meetsN t fs k | some x => meetN t x k (meetsN t fs k) k
def rgS (x : Says) : ByteArray × ByteArray := (x.2.1, x.2.2.1)
noncomputable def gapS (t : List Says) : Bool := (gapL (rgL (t.map rgS))).isSome
noncomputable def endF (t : List Says) (fs : List (Int × Int)) : List (Int × Int) := if t.length = 0 then fs else addF (gapS t) fs (5, 0)
noncomputable def checkL (l : List SeenA) : List (Int × Int) :=
  if argsN l l.length = [] then endF (tabsL l) (meetsN (tabsL l) (pairsN l l.length) (tabsL l).length) else argsN l l.length

theorem argsN_succ {l : List SeenA} {k : Nat} {s : SeenA} (h : l[k]? = some s) : argsN l (k + 1) = addF (!mayS s) (argsN l k) (2, (k : Int)) := by rw [argsN, h]
theorem rowN_succ {l : List SeenA} {b : SeenA} {k : Int} {fs : List (Int × Int)} {i : Nat} {a : SeenA} (h : l[i]? = some a) : rowN l b k fs (i + 1) = pairF a b k (rowN l b k fs i) := by rw [rowN, h]
theorem pairsN_succ {l : List SeenA} {k : Nat} {b : SeenA} (h : l[k]? = some b) : pairsN l (k + 1) = rowN l b k (pairsN l k) k := by rw [pairsN, h]
theorem meetN_succ {t : List Says} {x : Says} {k : Int} {fs : List (Int × Int)} {i : Nat} {r : Says} (h : t[i]? = some r) : meetN t x k fs (i + 1) = addF (meetS r x) (meetN t x k fs i) (8, k) := by rw [meetN, h]
theorem meetsN_succ {t : List Says} {fs : List (Int × Int)} {k : Nat} {x : Says} (h : t[k]? = some x) : meetsN t fs (k + 1) = meetN t x k (meetsN t fs k) k := by rw [meetsN, h]
theorem argsN_len (l : List SeenA) : ∀ k, (argsN l k).length ≤ k
  | 0 => Nat.le_refl _
  | k + 1 => by
    have := argsN_len l k
    rw [argsN]
    cases l[k]? with
    | none => simp only; omega
    | some s => have := (addF_len (!mayS s) (argsN l k) (2, (k : Int))).2; simp only; omega
theorem pairF_len (a b : SeenA) (k : Int) (fs : List (Int × Int)) : (pairF a b k fs).length ≤ fs.length + 4 := by
  unfold pairF
  split
  · have h1 := (addF_len (leadS a b) fs (11, k)).2
    have h2 := (addF_len (formsL a b) (addF (leadS a b) fs (11, k)) (4, k)).2
    have h3 := (addF_len (busyL a b) (addF (formsL a b) (addF (leadS a b) fs (11, k)) (4, k)) (6, k)).2
    have h4 := (addF_len (machL a b) (addF (busyL a b) (addF (formsL a b) (addF (leadS a b) fs (11, k)) (4, k)) (6, k)) (9, k)).2
    omega
  · omega
theorem rowN_len (l : List SeenA) (b : SeenA) (k : Int) (fs : List (Int × Int)) : ∀ i, (rowN l b k fs i).length ≤ fs.length + 4 * i
  | 0 => Nat.le_refl _
  | i + 1 => by
    have := rowN_len l b k fs i
    rw [rowN]
    cases l[i]? with
    | none => simp only; omega
    | some a => have := pairF_len a b k (rowN l b k fs i); simp only; omega
theorem pairsN_len (l : List SeenA) (m : Nat) : ∀ k, k ≤ m → (pairsN l k).length ≤ 4 * m * k
  | 0, _ => by simp [pairsN]
  | k + 1, h => by
    have := pairsN_len l m k (by omega)
    rw [pairsN]
    have e : 4 * m * (k + 1) = 4 * m * k + 4 * m := by rw [Nat.mul_add, Nat.mul_one]
    cases l[k]? with
    | none => simp only; omega
    | some a => have := rowN_len l a k (pairsN l k) k; simp only; omega
theorem meetN_len (t : List Says) (x : Says) (k : Int) (fs : List (Int × Int)) : ∀ i, (meetN t x k fs i).length ≤ fs.length + i
  | 0 => Nat.le_refl _
  | i + 1 => by
    have := meetN_len t x k fs i
    rw [meetN]
    cases t[i]? with
    | none => simp only; omega
    | some a => have := (addF_len (meetS a x) (meetN t x k fs i) (8, k)).2; simp only; omega
theorem meetsN_len (t : List Says) (fs : List (Int × Int)) (m : Nat) : ∀ k, k ≤ m → (meetsN t fs k).length ≤ fs.length + m * k
  | 0, _ => by simp [meetsN]
  | k + 1, h => by
    have := meetsN_len t fs m k (by omega)
    rw [meetsN]
    have e : m * (k + 1) = m * k + m := by rw [Nat.mul_add, Nat.mul_one]
    cases t[k]? with
    | none => simp only; omega
    | some a => have := meetN_len t a k (meetsN t fs k) k; simp only; omega
theorem args_nil {l : List SeenA} : ∀ {k : Nat}, argsN l k = [] → ∀ i, i < k → ∀ s, l[i]? = some s → mayS s = true
  | 0, _, i, h, _, _ => by omega
  | k + 1, h, i, hi, s, hs => by
    rw [argsN] at h
    cases hk : l[k]? with
    | none =>
      rw [hk] at h
      rcases Nat.lt_or_ge i k with h1 | h1
      · exact args_nil h i h1 s hs
      · have : i = k := by omega
        rw [this, hk] at hs; cases hs
    | some x =>
      rw [hk] at h
      simp only at h
      cases hm : mayS x with
      | false => rw [hm] at h; simp [addF] at h
      | true =>
        rw [hm] at h
        simp only [Bool.not_true, addF] at h
        rcases Nat.lt_or_ge i k with h1 | h1
        · exact args_nil h i h1 s hs
        · have : i = k := by omega
          rw [this, hk] at hs; cases hs; exact hm
theorem putS_mem {x z : Says} {l : List Says} (h : z ∈ putS x l) : z = x ∨ z ∈ l := by
  rw [putS] at h
  rcases List.mem_append.1 h with h | h
  · exact .inr ((List.takeWhile_sublist _).mem h)
  · rcases List.mem_cons.1 h with h | h
    · exact .inl h
    · exact .inr ((List.dropWhile_sublist _).mem h)
theorem putS_len (x : Says) (l : List Says) : (putS x l).length = l.length + 1 := by
  rw [putS, List.length_append, List.length_cons]
  have := congrArg List.length (List.takeWhile_append_dropWhile (p := fun y : Says => !decide (x.2.1.toList < y.2.1.toList)) (l := l))
  rw [List.length_append] at this
  omega
theorem tabs_len (l : List SeenA) : (tabsL l).length ≤ 9 := by
  have : ∀ (p r : List Says), (p.foldl (fun out x => putS x out) r).length = p.length + r.length := by
    intro p
    induction p with
    | nil => intro r; simp
    | cons x p ih => intro r; rw [List.foldl_cons, ih, putS_len, List.length_cons]; omega
  rw [tabsL, this]
  have := places_len l 9
  simpa using this
theorem places_mem {l : List SeenA} : ∀ {m : Nat} {x : Says}, x ∈ placesL l m → ∃ s ∈ l, ∃ g, x = placeL g s
  | 0, x, h => by cases h
  | m + 1, x, h => by
    rw [placesL] at h
    rcases List.mem_append.1 h with h | h
    · exact places_mem h
    · cases hb : bestL (3 + m) l with
      | none => rw [hb] at h; cases h
      | some q =>
        rw [hb] at h
        rw [List.mem_singleton] at h
        have := (bestL_at (g := 3 + m) (l := l) l.length (Nat.le_refl _) q (by rw [List.take_length]; exact hb)).2
        exact ⟨q.2, List.mem_of_getElem? this, _, h⟩
theorem tabs_mem {l : List SeenA} {x : Says} (h : x ∈ tabsL l) : ∃ s ∈ l, ∃ g, x = placeL g s := by
  have : ∀ (p r : List Says), x ∈ p.foldl (fun out x => putS x out) r → x ∈ p ∨ x ∈ r := by
    intro p
    induction p with
    | nil => intro r h; exact .inr h
    | cons y p ih =>
      intro r h
      rcases ih _ h with h | h
      · exact .inl (by simp [h])
      · rcases putS_mem h with rfl | h
        · exact .inl (by simp)
        · exact .inr h
  rcases this _ _ h with h | h
  · exact places_mem h
  · cases h
theorem tabs_ok {l : List SeenA} (hok : ∀ s ∈ l, s.Ok) : ∀ r ∈ (tabsL l).map rgS, r.1.size ≤ maxLen ∧ r.2.size ≤ maxLen := fun r hr => by
  obtain ⟨x, hx, rfl⟩ := List.mem_map.1 hr
  obtain ⟨s, hs, g, rfl⟩ := tabs_mem hx
  exact ⟨(hok s hs).lo, (hok s hs).hi⟩

/-- the faults so far, and the blocks that no telling touches -/
structure FaultsAt (w V : World) (S : Nat → Prop) (fs : List (Int × Int)) : Prop where
  ex : ∃ v, OutAt V w.heap.size w.heap.size v fs ∧ ∀ k, S k → v.ownBlock ≠ some k
  big : ∀ k, S k → w.heap.size < k ∧ k < V.heap.size
  bel : Below w.heap.size w V
/-- these blocks are as they were -/
structure KeptS (S : Nat → Prop) (V V' : World) : Prop where
  size : V.heap.size ≤ V'.heap.size
  blk : ∀ k, S k → V'.heap[k]? = V.heap[k]?
section
variable {w V V' : World} {S S' : Nat → Prop} {fs : List (Int × Int)}
theorem FaultsAt.below (h : FaultsAt w V S fs) (hb : Below V.heap.size V V') (hS : ∀ k, S' k → S k ∨ (V.heap.size ≤ k ∧ k < V'.heap.size)) : FaultsAt w V' S' fs := by
  obtain ⟨⟨v, ho, ha⟩, hbig, hbel⟩ := h
  have hlt := World.block_lt_of_cell? _ _ ho.c0
  simp only at hlt
  refine ⟨⟨v, ho.below hb, fun k hk => ?_⟩, fun k hk => ?_, hbel.trans (hb.mono hbel.size)⟩
  · rcases hS k hk with h | h
    · exact ha k h
    · intro e
      have := (Row.lt ho.row k e).2
      omega
  · have := hb.size
    rcases hS k hk with h | h
    · have := hbig k h; omega
    · omega
theorem FaultsAt.own (h : FaultsAt w V S fs) {u : Value} (hu : ∀ q, u.ownBlock = some q → S q) (hg : V.grownBy V' u.ownBlock) (hS : ∀ k, S' k → S k ∨ (V.heap.size ≤ k ∧ k < V'.heap.size)) : FaultsAt w V' S' fs := by
  obtain ⟨⟨v, ho, ha⟩, hbig, hbel⟩ := h
  have hlt := World.block_lt_of_cell? _ _ ho.c0
  simp only at hlt
  have hkeep : ∀ k, k < V.heap.size → ¬ S k → V'.heap[k]? = V.heap[k]? := fun k h1 h2 => hg.block k h1 (fun e => h2 (hu k e.symm))
  have hno : ¬ S w.heap.size := fun h => by have := (hbig _ h).1; omega
  refine ⟨⟨v, ⟨?_, ?_, ?_, ho.ap⟩, fun k hk => ?_⟩, fun k hk => ?_, ?_⟩
  · exact (World.cell?_of_block (a := ⟨w.heap.size, 0, none⟩) (hkeep _ hlt hno)).trans ho.c0
  · exact (World.frozen?_of_block (a := ⟨w.heap.size, 0, none⟩) (hkeep _ hlt hno)).trans ho.f0
  · exact Row.of_heap ho.row fun k hk => hkeep k (Row.lt ho.row k hk).2 (fun h => ha k h hk)
  · rcases hS k hk with h | h
    · exact ha k h
    · intro e
      have := (Row.lt ho.row k e).2
      omega
  · have := hg.size
    rcases hS k hk with h | h
    · have := hbig k h; omega
    · omega
  · exact hbel.grown hg hbel.size (fun q e => Nat.le_of_lt (hbig q (hu q e)).1)
theorem KeptS.cell (h : KeptS S V V') {k o : Nat} (hk : S k) : V'.cell? ⟨k, o, none⟩ = V.cell? ⟨k, o, none⟩ := World.cell?_of_block (a := ⟨k, o, none⟩) (h.blk k hk)
theorem KeptS.frozen (h : KeptS S V V') {k o : Nat} (hk : S k) : V'.frozen? ⟨k, o, none⟩ = V.frozen? ⟨k, o, none⟩ := World.frozen?_of_block (a := ⟨k, o, none⟩) (h.blk k hk)
theorem KeptS.below (hb : Below V.heap.size V V') (hS : ∀ k, S k → k < V.heap.size) : KeptS S V V' := ⟨hb.size, fun k hk => hb.block k (hS k hk)⟩
theorem KeptS.trans {U : World} (h : KeptS S U V) (k : KeptS S V V') : KeptS S U V' := ⟨Nat.le_trans h.size k.size, fun j hj => (k.blk j hj).trans (h.blk j hj)⟩
theorem FaultsAt.start (w : World) : FaultsAt w (w.alloc (.cells #[.slice none 0 0] 24)) (fun _ => False) [] :=
  ⟨⟨.slice none 0 0, ⟨by rw [World.cell?_alloc_new]; rfl, by simp, Row.nil _ _ _ _, by simp [Value.ownBlock]⟩, fun _ h => h.elim⟩, fun _ h => h.elim, (Below.refl _ _).alloc (Nat.le_refl _) _⟩
theorem wrong_fa (h : FaultsAt w V S fs) (is : Bool) (code at_ : Int) (hle : fs.length ≤ 1000000) :
    Calls Try.prog 18 #[.bool is, .int .i64 code, .int .i64 at_, .pointer (some ⟨w.heap.size, 0, none⟩)] V fun e V' => e = .returned (.tuple #[]) ∧ FaultsAt w V' S (addF is fs (code, at_)) ∧ KeptS S V V' := by
  obtain ⟨⟨v, ho, ha⟩, hbig, hbel⟩ := h
  refine (wrong_any w.heap.size w.heap.size is code at_ v fs V ho hbel.size hle).mono fun e V' => ?_
  rintro ⟨he, v', ho', hw, hv⟩
  refine ⟨he, ⟨⟨v', ho', fun k hk e => ?_⟩, fun k hk => ?_, ⟨hw.os.trans hbel.os, hw.tape.trans hbel.tape, hw.output.trans hbel.output, Nat.le_trans hbel.size hw.size, fun k hk => ?_⟩⟩, ⟨hw.size, fun k hk => ?_⟩⟩
  · rcases hv with e2 | ⟨q, e2, hq⟩
    · exact ha k hk (e2 ▸ e)
    · rw [e2] at e
      cases e
      have := (hbig k hk).2
      omega
  · have := hbig k hk
    have := hw.size
    omega
  · rw [hw.block k (by have := hbel.size; omega) (by omega) (fun e => by have := (Row.lt ho.row k e).1; omega)]
    exact hbel.block k hk
  · have := hbig k hk
    exact hw.block k this.2 (by omega) (ha k hk)
end
theorem row_arr {w : World} {B : Nat} {T : TypeId} {size n c : Nat} {a : Option Addr} {es : List (List Value)} (hs : 0 < size) (hl : es.length = n) (h : Row w B T size (.slice a n c) n es.flatten) (he : Elems size es) : Arr w size a n c es := by
  subst hl
  obtain ⟨ao, cap, e, hA⟩ := Row.arr hs h he
  cases e
  exact hA
theorem LocI.all (c : LocI) : c.l.toArray.all (·.oneCell') = true := all_oneCell_toArray c.one
theorem LocAt.new (w : World) (c : LocI) (T : TypeId) : LocAt (w.alloc (.cells c.l.toArray T)) w.heap.size 0 c := fun j v hv => by
  rw [Nat.zero_add, World.cell?_alloc_new]
  simpa using hv
def rgC (c : LocI) : ByteArray × ByteArray := (c.lo, c.hi)
theorem rgs_one (w : World) (T : TypeId) (r : ByteArray × ByteArray) (g : Nat) (hg : w.heap.size = g) : Arr (w.alloc (.cells #[.string r.1, .string r.2] T)) 2 (some ⟨g, 0, none⟩) 1 1 ([r].map rgE) := by
  subst hg
  refine ⟨rgE_elems _, rfl, Nat.le_refl _, by unfold maxLen; omega, fun _ => ⟨w.heap.size, 0, rfl, by rw [World.size_alloc]; omega, fun i e he j u hu => ?_⟩⟩
  have hi : i = 0 := by
    have := (List.getElem?_eq_some_iff.1 he).1
    simp at this; exact this
  subst hi
  simp only [List.map_cons, List.map_nil, List.getElem?_cons_zero, Option.some.injEq] at he
  subst he
  simp only [Nat.zero_mul, Nat.zero_add]
  rw [World.cell?_alloc_new]
  simpa [rgE] using hu
theorem tabs_rg {l : List SeenA} {cs : List LocI} (h : cs.map LocI.says = tabsL l) : (tabsL l).map rgS = cs.map rgC := by
  rw [← h, List.map_map]; rfl
theorem Row.keptBy {w w' : World} {B : Nat} {T : TypeId} {size n : Nat} {v u : Value} {xs : List Value} (h : Row w B T size v n xs) (hg : w.grownBy w' u.ownBlock) (ha : ∀ q, u.ownBlock = some q → v.ownBlock ≠ some q) : Row w' B T size v n xs :=
  Row.of_heap h fun q hq => hg.block q (Row.lt h q hq).2 (fun e => ha q e.symm hq)
end Go.Proofs.Yteibnignjghedaa
