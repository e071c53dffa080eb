/-
  Heads of rows, their plain part; those that ended.
-/
import Derived.Test.YtehbikofoidjhaaLzA
namespace Go.Proofs.Ytehbikofoidjhaa.Lz
open Go.RowKit

def HI.p (h : HI) : PH := (h.x, h.rest)
theorem leastH_p (h0 : HI) (tl : List HI) : (leastH h0 tl).x = leastP h0.x (tl.map HI.p) := by
  unfold leastH leastP
  induction tl generalizing h0 with
  | nil => rfl
  | cons h r ih =>
    rw [List.foldl_cons, List.map_cons, List.foldl_cons, ih]
    congr 1
    show (if cmpC h.x h0.x < 0 then h else h0).x = if cmpC h.p.1 h0.x < 0 then h.p.1 else h0.x
    by_cases hc : cmpC h.x h0.x < 0
    · rw [if_pos hc]; exact (if_pos hc).symm
    · rw [if_neg hc]; exact (if_neg hc).symm

def alive (hs : List HI) : List HI := hs.filter fun h => !h.d
theorem adv_alive (h : HI) (hd : h.d = false) (c : CellA) (F' : Nat → Prop) : (if (h.adv c F').d then none else some (h.adv c F').p) = advP c h.p := by
  unfold HI.adv advP HI.p
  by_cases hc : cmpC h.x c = 0
  · rw [if_pos hc, if_pos hc]
    cases dropUp h.x h.rest with
    | nil => rfl
    | cons y r => simp [hd]
  · rw [if_neg hc, if_neg hc]
    simp [hd]
/-- Behind the loop and the deletion: the plain step. -/
theorem gone_alive {c : CellA} {hs hs' : List HI} {w wr : World} (h : Gone c hs hs' hs.length w wr) (hd : ∀ (i : Nat) (a : HI), hs[i]? = some a → a.d = false) : (alive hs').map HI.p = stepP (some c) (hs.map HI.p) := by
  have key : ∀ (l l' : List HI), l'.length = l.length → (∀ (i : Nat) (a : HI), l[i]? = some a → a.d = false) → (∀ (i : Nat) (a : HI), l[i]? = some a → ∃ F', l'[i]? = some (a.adv c F')) → (alive l').map HI.p = (l.map HI.p).filterMap (advP c) := by
    intro l
    induction l with
    | nil => intro l' hl _ _; rw [List.eq_nil_of_length_eq_zero hl]; rfl
    | cons a r ih =>
      intro l' hl h1 h2
      obtain ⟨F', h3⟩ := h2 0 a rfl
      cases l' with
      | nil => simp at h3
      | cons a' r' =>
        simp only [List.getElem?_cons_zero, Option.some.injEq] at h3
        have hi := ih r' (by simpa using hl) (fun i b hb => h1 (i + 1) b (by simpa using hb)) (fun i b hb => by simpa using h2 (i + 1) b (by simpa using hb))
        have ha := adv_alive a (h1 0 a rfl) c F'
        rw [← h3] at ha
        rw [List.map_cons, List.filterMap_cons, ← ha]
        unfold alive at hi ⊢
        rw [List.filter_cons]
        cases a'.d with
        | true => simpa using hi
        | false => simpa using hi
  exact key hs hs' h.len hd (fun i a ha => h.fst i a (List.getElem?_eq_some_iff.1 ha).1 ha)

/-- those that came to their end -/
def HI.toE (h : HI) : EI := ⟨h.f, h.caps, h.St, h.ok, h.F, h.id⟩
def dead (hs : List HI) : List EI := (hs.filter fun h => h.d).map HI.toE
theorem dead_get {hs : List HI} {e : EI} (h : e ∈ dead hs) : ∃ (j : Nat) (a : HI), hs[j]? = some a ∧ a.d = true ∧ e = a.toE := by
  obtain ⟨a, ha, rfl⟩ := List.mem_map.1 h
  rw [List.mem_filter] at ha
  obtain ⟨j, hj⟩ := List.mem_iff_getElem?.1 ha.1
  exact ⟨j, a, hj, by simpa using ha.2, rfl⟩
theorem dead_mem {hs : List HI} {j : Nat} {a : HI} (h : hs[j]? = some a) (hd : a.d = true) : a.toE ∈ dead hs :=
  List.mem_map.2 ⟨a, List.mem_filter.2 ⟨List.mem_of_getElem? h, hd⟩, rfl⟩
theorem alive_mem {hs : List HI} {j : Nat} {a : HI} (h : hs[j]? = some a) (hd : a.d = false) : a ∈ alive hs := List.mem_filter.2 ⟨List.mem_of_getElem? h, by simp [hd]⟩
/-- each head was gone on with, or none was -/
def StepA (last : Option CellA) (hs hs1 : List HI) : Prop := match last with
  | none => hs1 = hs
  | some c => hs1.length = hs.length ∧ ∀ (i : Nat) (a : HI), hs[i]? = some a → ∃ F', hs1[i]? = some (a.adv c F')
def StepG (last : Option CellA) (hs : List HI) (gs : List EI) (hs' : List HI) (gs' : List EI) : Prop := ∃ hs1, StepA last hs hs1 ∧ hs' = alive hs1 ∧ gs' = gs ++ dead hs1
theorem alive_get {hs : List HI} {i : Nat} {a : HI} (h : (alive hs)[i]? = some a) : a.d = false ∧ ∃ j : Nat, hs[j]? = some a := by
  have hm := List.mem_of_getElem? h
  unfold alive at hm
  rw [List.mem_filter] at hm
  exact ⟨by simpa using hm.2, List.mem_iff_getElem?.1 hm.1⟩
theorem apart_filter : ∀ {hs : List HI}, (∀ (i j : Nat) (a b : HI), i ≠ j → hs[i]? = some a → hs[j]? = some b → ∀ k, a.foot k → ¬ b.foot k) →
    ∀ (i j : Nat) (a b : HI), i ≠ j → (alive hs)[i]? = some a → (alive hs)[j]? = some b → ∀ k, a.foot k → ¬ b.foot k := by
  intro hs h
  have hp : hs.Pairwise fun a b => ∀ k, a.foot k → ¬ b.foot k := by
    rw [List.pairwise_iff_getElem]
    intro i j hi hj hij k
    exact h i j _ _ (by omega) (List.getElem?_eq_getElem hi) (List.getElem?_eq_getElem hj) k
  have hq : (alive hs).Pairwise fun a b => ∀ k, a.foot k → ¬ b.foot k := hp.filter _
  rw [List.pairwise_iff_getElem] at hq
  intro i j a b hij ha hb k hk hk2
  obtain ⟨hi, rfl⟩ := List.getElem?_eq_some_iff.1 ha
  obtain ⟨hj, rfl⟩ := List.getElem?_eq_some_iff.1 hb
  rcases Nat.lt_or_gt_of_ne hij with h1 | h1
  · exact hq i j hi hj h1 k hk hk2
  · exact hq j i hj hi h1 k hk2 hk
theorem Heads.alive {hs : List HI} {w : World} (h : Heads hs w) : Heads (alive hs) w :=
  ⟨fun _ _ ha => let ⟨_, j, hj⟩ := alive_get ha; h.at_ j _ hj, apart_filter h.apart⟩
theorem keepP_heads (hs : List HI) : (keepP (hs.map fun h => (h.b, h.d))).map ptrE = (alive hs).map HI.ptr := by
  unfold keepP alive
  rw [List.filter_map, List.map_map]
  rfl
theorem ptr_heads (hs : List HI) : (hs.map fun h => (h.b, h.d)).map ptrE = hs.map HI.ptr := by
  rw [List.map_map]; rfl
theorem flags_heads {hs : List HI} {w : World} (h : Heads hs w) : Flags w (hs.map fun h => (h.b, h.d)) := by
  intro p hp
  obtain ⟨a, ha, rfl⟩ := List.mem_map.1 hp
  obtain ⟨i, hi⟩ := List.mem_iff_getElem?.1 ha
  exact (h.at_ i a hi).head.c6

/-- The deletion, whatever the row of heads. -/
theorem delete_any (hs : List HI) (v : Value) (n B : Nat) (w : World) (hn : hs.length = n) (hrow : Row w B 51 1 v n (hs.map HI.ptr).flatten) (hH : Heads hs w) (hg : ∀ k, v.ownBlock = some k → ∀ (i : Nat) (a : HI), hs[i]? = some a → ¬ a.foot k) :
    Calls Try.prog 34 #[v, .func (.func 35) #[] #[]] w
      fun e w' => ∃ ao cap, e = .returned (.slice ao (alive hs).length cap) ∧ Row w' B 51 1 (.slice ao (alive hs).length cap) (alive hs).length ((alive hs).map HI.ptr).flatten ∧ w.grownBy w' v.ownBlock ∧ (Value.slice ao (alive hs).length cap).ownBlock = v.ownBlock := by
  rcases hrow.form with ⟨rfl, h0⟩ | ⟨g, cap, rfl, h1, h2, h3, h4⟩
  · have : hs = [] := List.eq_nil_of_length_eq_zero (by omega)
    subst this
    refine (delete_nil w).mono ?_
    rintro e w' ⟨rfl, hb⟩
    exact ⟨none, 0, rfl, Row.nil _ _ _ _, ⟨hb.os, hb.tape, hb.output, hb.size, fun k hk _ => hb.block k hk⟩, rfl⟩
  · have hl : (hs.map fun h => (h.b, h.d)).length = n := by rw [List.length_map]; exact hn
    have hrow' := hrow
    rw [← ptr_heads] at hrow'
    refine (delete_heads _ g cap n B w hl hrow' (flags_heads hH) (fun p hp => ?_)).mono ?_
    · obtain ⟨a, ha, rfl⟩ := List.mem_map.1 hp
      obtain ⟨i, hi⟩ := List.mem_iff_getElem?.1 ha
      intro e
      exact hg g rfl i a hi (.inl e.symm)
    · rintro e w' ⟨rfl, hr, hgr⟩
      have hk := keepP_heads hs
      have hkl : (keepP (hs.map fun h => (h.b, h.d))).length = (alive hs).length := by
        have := congrArg List.length hk
        simpa using this
      rw [hk, hkl] at hr
      rw [hkl]
      exact ⟨_, cap, rfl, hr, hgr, rfl⟩
end Go.Proofs.Ytehbikofoidjhaa.Lz
