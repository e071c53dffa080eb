/-
  Rows as one, and how often each row was asked: what All's function keeps, call by call.
-/
import Derived.Test.YtehbikofoidjhaaLz2W
namespace Go.Proofs.Ytehbikofoidjhaa.Lz
open Go.RowKit

def Strict1 (l : List CellA) : Prop := l.Pairwise fun a b => cmpC a b < 0
/-- c was told, as it stands there or otherwise -/
def ToldBy (T : List CellA) (c : CellA) : Prop := ∃ t ∈ T, cmpC c t = 0
/-- of each row: what it told ahead of its head was told on; one that ended was told on whole -/
def Prov (rs : List (Option RI)) (T : List CellA) (hs : List HI) (gs : List EI) : Prop := ∀ (i : Nat) (r : RI), rs[i]? = some (some r) →
  (∃ h ∈ hs, h.St = r.St ∧ ∃ pre, r.cs = pre ++ h.x :: h.rest ∧ ∀ c ∈ pre, ToldBy T c) ∨ (∃ e ∈ gs, e.St = r.St ∧ ∀ c ∈ r.cs, ToldBy T c)
theorem Prov.start {rs : List (Option RI)} {hs : List HI} {gs : List EI} (h : Prov0 rs rs.length hs gs) : Prov rs [] hs gs := fun i r hr => by
  rcases h i r (List.getElem?_eq_some_iff.1 hr).1 hr with ⟨x, hx, h1, h2⟩ | ⟨e, he, h1, h2⟩
  · exact .inl ⟨x, hx, h1, [], h2, fun c hc => by cases hc⟩
  · exact .inr ⟨e, he, h1, fun c hc => by rw [h2] at hc; cases hc⟩
theorem Prov.mono {rs : List (Option RI)} {T T' : List CellA} {hs : List HI} {gs : List EI} (h : Prov rs T hs gs) (hT : ∀ c ∈ T, c ∈ T') : Prov rs T' hs gs := fun i r hr => by
  rcases h i r hr with ⟨x, hx, h1, pre, h2, h3⟩ | ⟨e, he, h1, h2⟩
  · exact .inl ⟨x, hx, h1, pre, h2, fun c hc => by obtain ⟨t, ht, h4⟩ := h3 c hc; exact ⟨t, hT t ht, h4⟩⟩
  · exact .inr ⟨e, he, h1, fun c hc => by obtain ⟨t, ht, h4⟩ := h2 c hc; exact ⟨t, hT t ht, h4⟩⟩
theorem drop_strict {x : CellA} {l : List CellA} (h : Strict1 (x :: l)) : dropUp x l = l := by
  cases l with
  | nil => rfl
  | cons y r =>
    have := (List.pairwise_cons.1 h).1 y (by simp)
    rw [dropUp, if_pos this]
theorem Prov.step {rs : List (Option RI)} {T : List CellA} {last : Option CellA} {hs hs' : List HI} {gs gs' : List EI} (hS : ∀ (i : Nat) (r : RI), rs[i]? = some (some r) → Strict1 r.cs) (hl : ∀ c, last = some c → c ∈ T) (hnd : ∀ (i : Nat) (h : HI), hs[i]? = some h → h.d = false)
    (h : Prov rs T hs gs) (hst : StepG last hs gs hs' gs') : Prov rs T hs' gs' := fun i r hr => by
  obtain ⟨hs1, h1, rfl, rfl⟩ := hst
  rcases h i r hr with ⟨x, hx, hSt, pre, hcs, hpre⟩ | ⟨e, he, hSt, hall⟩
  · obtain ⟨j, hj⟩ := List.mem_iff_getElem?.1 hx
    have hxd := hnd j x hj
    cases last with
    | none =>
      have h2 : hs1 = hs := h1
      rw [h2]
      exact .inl ⟨x, alive_mem hj hxd, hSt, pre, hcs, hpre⟩
    | some c =>
      obtain ⟨F', hF⟩ := h1.2 j x hj
      have hr2 : Strict1 (x.x :: x.rest) := by
        have := hS i r hr
        rw [hcs] at this
        exact (List.pairwise_append.1 this).2.1
      by_cases hc : cmpC x.x c = 0
      · have hx0 : ToldBy T x.x := ⟨c, hl c rfl, hc⟩
        have hpre2 : ∀ y ∈ pre ++ [x.x], ToldBy T y := fun y hy => (List.mem_append.1 hy).elim (hpre y) (fun h => by rw [List.mem_singleton.1 h]; exact hx0)
        have hd := drop_strict hr2
        cases hrest : x.rest with
        | nil =>
          have e : x.adv c F' = { x with rest := [], F := F', d := true } := by
            unfold HI.adv
            rw [if_pos hc, hd, hrest]
          rw [e] at hF
          exact .inr ⟨_, List.mem_append_right _ (dead_mem hF rfl), hSt, fun y hy => hpre2 y (by rw [hcs, hrest] at hy; exact hy)⟩
        | cons y q =>
          have e : x.adv c F' = { x with x := y, rest := q, F := F' } := by
            unfold HI.adv
            rw [if_pos hc, hd, hrest]
          rw [e] at hF
          exact .inl ⟨_, alive_mem hF hxd, hSt, pre ++ [x.x], by rw [hcs, hrest]; simp, hpre2⟩
      · have e : x.adv c F' = x := by
          unfold HI.adv
          rw [if_neg hc]
        rw [e] at hF
        exact .inl ⟨x, alive_mem hF hxd, hSt, pre, hcs, hpre⟩
  · exact .inr ⟨e, List.mem_append_left _ he, hSt, hall⟩

/-- All's function has these cells yet to tell, of C -/
def AllSt (a : AV) (rs : List (Option RI)) (C cs : List CellA) (F : Nat → Prop) (w : World) : Prop :=
  (∃ (ao : Option Addr) (n cap : Nat), New a ao n cap rs F w ∧ Tells none (rs.filterMap headP) cs ∧ cs = C) ∨
  (∃ (v : Value) (hs : List HI) (gs : List EI) (last : Option CellA) (T : List CellA), Beg a v hs gs last F w ∧ Tells last (hs.map HI.p) cs ∧ C = T ++ cs ∧ (∀ c, last = some c → c ∈ T) ∧ Prov rs T hs gs)
theorem BegNext.row {a : AV} {rs : List (Option RI)} {T C : List CellA} {hs : List HI} {gs : List EI} {last : Option CellA} {F : Nat → Prop} {w w' : World} {e : Ending} {cs : List CellA} (hS : ∀ (i : Nat) (r : RI), rs[i]? = some (some r) → Strict1 r.cs)
    (hnd : ∀ (i : Nat) (h : HI), hs[i]? = some h → h.d = false) (hC : C = T ++ cs) (hl : ∀ c, last = some c → c ∈ T) (hP : Prov rs T hs gs) (h : BegNext a hs gs last F w e w') (ht : Tells last (hs.map HI.p) cs) :
    e = .returned (headV cs) ∧ ∃ F', AllSt a rs C cs.tail F' w' ∧ (∀ b, F' b → F b ∨ w.heap.size ≤ b) ∧ Kept F w w' := by
  obtain ⟨h1, ⟨v', hs', gs', F', h2, h2', h3, h4⟩, h5⟩ := h
  have hP2 := hP.step hS hl hnd h2'
  generalize hs.map HI.p = l at *
  cases ht with
  | done h0 =>
    rw [h0] at h1 h2 h3
    exact ⟨h1, F', .inr ⟨v', hs', gs', _, T, h3, by rw [h2]; exact .done (step_nil _), hC, hl, hP2⟩, h4, h5⟩
  | @tell _ _ h tl cs h0 ht =>
    rw [h0] at h1 h2 h3
    exact ⟨h1, F', .inr ⟨v', hs', gs', _, T ++ [leastP h.1 tl], h3, by rw [h2]; exact ht, by rw [hC]; simp, fun c hc => by cases hc; simp, hP2.mono (fun c hc => List.mem_append_left _ hc)⟩, h4, h5⟩
theorem all_row (a : AV) (rs : List (Option RI)) (C : List CellA) (hS : ∀ (i : Nat) (r : RI), rs[i]? = some (some r) → Strict1 r.cs) : RowOf 31 a.caps (AllSt a rs C) := by
  refine ⟨⟨_, _, Try.func31, by kernel_rfl, rfl⟩, fun h hs hb => ?_, fun h => ?_, fun {cs F w} h => ?_⟩
  · rcases h with ⟨ao, n, cap, h1, h2⟩ | ⟨v, l, gs, last, T, h1, h2⟩
    · exact .inl ⟨ao, n, cap, h1.keep hs hb, h2⟩
    · exact .inr ⟨v, l, gs, last, T, h1.keep hs hb, h2⟩
  · rcases h with ⟨ao, n, cap, h1, h2⟩ | ⟨v, l, gs, last, T, h1, h2⟩
    · exact h1.inb
    · exact h1.inb
  · rcases h with ⟨ao, n, cap, h1, h2, h3⟩ | ⟨v, l, gs, last, T, h1, h2, h3, h4, h5⟩
    · refine (all1_first a ao n cap rs F w h1).mono ?_
      rintro e w' ⟨hs, gs, hnd, hp, hp0, hn⟩
      exact hn.row (T := []) hS hnd (by rw [← h3]; rfl) (fun c hc => by cases hc) (Prov.start hp0) (by rw [hp]; exact h2)
    · cases last with
      | none => exact (all1_untold a v l gs F w h1).mono fun e w' hn => hn.row hS h1.nd h3 h4 h5 h2
      | some c => exact (all1_told a v l gs c F w h1).mono fun e w' hn => hn.row hS h1.nd h3 h4 h5 h2
end Go.Proofs.Ytehbikofoidjhaa.Lz
