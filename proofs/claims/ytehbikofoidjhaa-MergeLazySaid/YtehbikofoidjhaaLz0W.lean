/-
  The first call: heads are made of rows; rows that ended at once.
-/
import Derived.Test.YtehbikofoidjhaaLz1P
namespace Go.Proofs.Ytehbikofoidjhaa.Lz
open Go.RowKit

/-- a row, what it has yet to tell, its own blocks -/
structure RI where
  f : FuncId
  caps : Array Value
  St : Option (List CellA) → (Nat → Prop) → World → Prop
  ok : RowE f caps St
  cs : List CellA
  F : Nat → Prop
def valR : Option RI → Value
  | none => .nilFunc
  | some r => .func (.func r.f) #[] r.caps
def rowE (r : Option RI) : List Value := [valR r]
theorem rowE_elems (rs : List (Option RI)) : Elems 1 (rs.map rowE) := fun e he => by
  obtain ⟨r, _, rfl⟩ := List.mem_map.1 he
  refine ⟨rfl, fun u hu => ?_⟩
  simp only [rowE, List.mem_cons, List.not_mem_nil, or_false] at hu
  subst hu
  cases r <;> rfl
theorem arr_rowE {w : World} {ao : Option Addr} {n cap : Nat} {rs : List (Option RI)} (h : Arr w 1 ao n cap (rs.map rowE)) {i : Nat} {p : Option RI} (hp : rs[i]? = some p) :
    ∃ b off, ao = some ⟨b, off, none⟩ ∧ b < w.heap.size ∧ w.cell? ⟨b, off + i, none⟩ = some (valR p) := by
  obtain ⟨b, off, e, hb, hj⟩ := Arr.at_ h (i := i) (e := rowE p) (by simp [hp])
  exact ⟨b, off, e, hb, by have := hj 0 _ rfl; simpa using this⟩
/-- the head that a row gives -/
def headP : Option RI → Option PH
  | none => none
  | some r => match r.cs with
    | [] => none
    | c :: t => some (c, t)
/-- rows, apart from one another and from All's own variables -/
structure Rows0 (a : AV) (rs : List (Option RI)) (w : World) : Prop where
  st : ∀ (i : Nat) (r : RI), rs[i]? = some (some r) → r.St (some r.cs) r.F w
  apart : ∀ (i j : Nat) (r q : RI), i ≠ j → rs[i]? = some (some r) → rs[j]? = some (some q) → ∀ k, r.F k → ¬ q.F k
  own : ∀ (i : Nat) (r : RI), rs[i]? = some (some r) → ∀ k, r.F k → ¬ a.Is k
def RowsF (rs : List (Option RI)) (k : Nat) : Prop := ∃ (i : Nat) (r : RI), rs[i]? = some (some r) ∧ r.F k

/-- each of the first k rows is a head, or ended -/
def Prov0 (rs : List (Option RI)) (k : Nat) (hs : List HI) (gs : List EI) : Prop := ∀ (i : Nat) (r : RI), i < k → rs[i]? = some (some r) → (∃ h ∈ hs, h.St = r.St ∧ r.cs = h.x :: h.rest) ∨ (∃ e ∈ gs, e.St = r.St ∧ r.cs = [])
theorem Prov0.more {rs : List (Option RI)} {k : Nat} {hs hs2 : List HI} {gs gs2 : List EI} (h : Prov0 rs k hs gs) (h1 : ∀ x ∈ hs, x ∈ hs2) (h2 : ∀ x ∈ gs, x ∈ gs2) (hk : ∀ r, rs[k]? = some (some r) → (∃ h ∈ hs2, h.St = r.St ∧ r.cs = h.x :: h.rest) ∨ (∃ e ∈ gs2, e.St = r.St ∧ r.cs = [])) : Prov0 rs (k + 1) hs2 gs2 := fun i r hi hr => by
  by_cases e : i = k
  · subst e; exact hk r hr
  · rcases h i r (by omega) hr with ⟨x, hx, h3⟩ | ⟨x, hx, h3⟩
    · exact .inl ⟨x, h1 x hx, h3⟩
    · exact .inr ⟨x, h2 x hx, h3⟩
/-- heads of the first k rows -/
structure Bld (a : AV) (rs : List (Option RI)) (k : Nat) (v : Value) (hs : List HI) (gs : List EI) (W wr : World) : Prop where
  prov : Prov0 rs k hs gs
  ends : ∀ e ∈ gs, e.St none e.F wr
  eF : ∀ e ∈ gs, ∀ j, e.F j → ((∃ (q : Nat) (r : RI), q < k ∧ rs[q]? = some (some r) ∧ r.F j) ∨ W.heap.size ≤ j) ∧ v.ownBlock ≠ some j ∧ ∀ (i : Nat) (h : HI), hs[i]? = some h → ¬ h.foot j
  c2 : wr.cell? ⟨a.b2, 0, none⟩ = some v
  f2 : ∀ o, wr.frozen? ⟨a.b2, o, none⟩ = false
  row : Row wr 0 51 1 v hs.length (hs.map HI.ptr).flatten
  heads : Heads hs wr
  nd : ∀ (i : Nat) (h : HI), hs[i]? = some h → h.d = false
  plain : hs.map HI.p = (rs.take k).filterMap headP
  rest : ∀ (i : Nat) (r : RI), k ≤ i → rs[i]? = some (some r) → r.St (some r.cs) r.F wr
  gN : ∀ g, v.ownBlock = some g → W.heap.size ≤ g
  hF : ∀ (i : Nat) (h : HI), hs[i]? = some h → ∀ j, h.foot j → (∃ (q : Nat) (r : RI), q < k ∧ rs[q]? = some (some r) ∧ r.F j) ∨ W.heap.size ≤ j
  sep : ∀ g, v.ownBlock = some g → ∀ (i : Nat) (h : HI), hs[i]? = some h → ¬ h.foot g
  len : hs.length ≤ k
  kept : Kept (fun j => j = a.b2 ∨ RowsF rs j) W wr
theorem Bld.zero {a : AV} {rs : List (Option RI)} {W : World} (h : Rows0 a rs W) (c2 : W.cell? ⟨a.b2, 0, none⟩ = some (.slice none 0 0)) (f2 : ∀ o, W.frozen? ⟨a.b2, o, none⟩ = false) : Bld a rs 0 (.slice none 0 0) [] [] W W :=
  ⟨(fun i r hi => by omega), (fun e he => by cases he), (fun e he => by cases he), c2, f2, Row.nil _ _ _ _, ⟨(fun i h hi => by simp at hi), (fun i j a b _ hi => by simp at hi)⟩, (fun i h hi => by simp at hi), rfl, fun i r _ hr => h.st i r hr, (fun g hg => by cases hg), (fun i h hi => by simp at hi), (fun g hg => by cases hg), Nat.le_refl _, Kept.refl _ _⟩
theorem filterMap_next {rs : List (Option RI)} {k : Nat} {p : Option RI} (hp : rs[k]? = some p) : (rs.take (k + 1)).filterMap headP = (rs.take k).filterMap headP ++ (match headP p with | none => [] | some x => [x]) := by
  rw [List.take_add_one, hp, List.filterMap_append]
  congr 1
  simp only [Option.toList_some, List.filterMap_cons, List.filterMap_nil]
  cases headP p <;> rfl
theorem Bld.nil {a : AV} {rs : List (Option RI)} {k : Nat} {v : Value} {hs : List HI} {gs : List EI} {W wr : World} (h : Bld a rs k v hs gs W wr) (hp : rs[k]? = some none) : Bld a rs (k + 1) v hs gs W wr :=
  ⟨h.prov.more (fun _ h => h) (fun _ h => h) (fun r hr => by rw [hp] at hr; cases hr), h.ends, fun e he j hj => ⟨(h.eF e he j hj).1.imp (fun ⟨q, r, h1, h2, h3⟩ => ⟨q, r, by omega, h2, h3⟩) id, (h.eF e he j hj).2⟩, h.c2, h.f2, h.row, h.heads, h.nd, by rw [filterMap_next hp, h.plain]; simp [headP], fun i r hi hr => h.rest i r (by omega) hr, h.gN, fun i x hx j hj => (h.hF i x hx j hj).imp (fun ⟨q, r, h1, h2, h3⟩ => ⟨q, r, by omega, h2, h3⟩) id, h.sep, by have := h.len; omega, h.kept⟩
/-- behind a call of row k: all but its own blocks stands -/
theorem Bld.call {a : AV} {rs : List (Option RI)} {k : Nat} {v : Value} {hs : List HI} {gs : List EI} {W wr w1 : World} (h0 : Rows0 a rs W) (hlt : a.b2 < W.heap.size) (h : Bld a rs k v hs gs W wr) {r : RI} (hr : rs[k]? = some (some r)) (hK : Kept r.F wr w1) :
    (w1.heap[a.b2]? = wr.heap[a.b2]?) ∧ Row w1 0 51 1 v hs.length (hs.map HI.ptr).flatten ∧ Heads hs w1 ∧ (∀ (i : Nat) (q : RI), k + 1 ≤ i → rs[i]? = some (some q) → q.St (some q.cs) q.F w1) ∧ Kept (fun j => j = a.b2 ∨ RowsF rs j) W w1 ∧ ∀ e ∈ gs, e.St none e.F w1 := by
  have hsz := h.kept.size
  have hrF : ∀ j, r.F j → j < W.heap.size := fun j hj => r.ok.inb (h0.st k r hr) j hj
  have hnf : ∀ (i : Nat) (x : HI), hs[i]? = some x → ∀ j, x.foot j → ¬ r.F j := fun i x hx j hj hf => by
    rcases h.hF i x hx j hj with ⟨q, p, h1, h2, h3⟩ | h1
    · exact h0.apart q k p r (by omega) h2 hr j h3 hf
    · have := hrF j hf; omega
  refine ⟨hK.block _ (by omega) (fun hf => h0.own k r hr _ hf (.inr (.inr (.inl rfl)))), Row.of_heap h.row (fun g hg => hK.block g (Row.lt h.row g hg).2 (fun hf => by have := hrF g hf; have := h.gN g hg; omega)), h.heads.keep hK.size (fun i x hx j hj => hK.block j ((h.heads.at_ i x hx).lt j hj) (hnf i x hx j hj)), fun i q hi hq => ?_, h.kept.trans hK (fun j hj => .inl (.inr ⟨k, r, hr, hj⟩)), fun e he => e.ok.keep (h.ends e he) hK.size (fun j hj => hK.block j (e.ok.inb (h.ends e he) j hj) (fun hf => by
    rcases (h.eF e he j hj).1 with ⟨q, p, h1, h2, h3⟩ | h1
    · exact h0.apart q k p r (by omega) h2 hr j h3 hf
    · have := hrF j hf; omega))⟩
  have hq0 := h.rest i q (by omega) hq
  exact q.ok.keep hq0 hK.size (fun j hj => hK.block j (q.ok.inb hq0 j hj) (h0.apart i k q r (by omega) hq hr j hj))
theorem Bld.empty {a : AV} {rs : List (Option RI)} {k : Nat} {v : Value} {hs : List HI} {gs : List EI} {W wr w1 w2 : World} (h0 : Rows0 a rs W) (hlt : a.b2 < W.heap.size) (h : Bld a rs k v hs gs W wr) {r : RI} (hr : rs[k]? = some (some r)) (hc : r.cs = []) {F2 : Nat → Prop} (hS2 : r.St none F2 w1) (hF2 : ∀ j, F2 j → r.F j ∨ wr.heap.size ≤ j) (hK : Kept r.F wr w1) (hB : Below w1.heap.size w1 w2) : Bld a rs (k + 1) v hs (gs ++ [⟨r.f, r.caps, r.St, r.ok, F2, k⟩]) W w2 := by
  obtain ⟨k1, k2, k3, k4, k5, k6⟩ := h.call h0 hlt hr hK
  have hrF : ∀ j, r.F j → j < W.heap.size := fun j hj => r.ok.inb (h0.st k r hr) j hj
  have hs1 := h.kept.size
  have hs2 := hK.size
  have e : w2.heap[a.b2]? = wr.heap[a.b2]? := (hB.block _ (by omega)).trans k1
  refine ⟨h.prov.more (fun _ h => h) (fun _ h => List.mem_append_left _ h) (fun r' hr' => ?_), fun x hx => ?_, fun x hx j hj => ?_, (World.cell?_of_block (a := ⟨a.b2, 0, none⟩) e).trans h.c2, fun o => (World.frozen?_of_block (a := ⟨a.b2, o, none⟩) e).trans (h.f2 o), Row.below k2 hB, k3.below hB, h.nd, by rw [filterMap_next hr, h.plain]; simp [headP, hc],
    fun i q hi hq => q.ok.keep (k4 i q hi hq) hB.size (fun j hj => hB.block j (q.ok.inb (k4 i q hi hq) j hj)), h.gN, fun i x hx j hj => (h.hF i x hx j hj).imp (fun ⟨q, r, h1, h2, h3⟩ => ⟨q, r, by omega, h2, h3⟩) id, h.sep, by have := h.len; omega,
    k5.trans (F' := fun _ => False) (Kept.of_below hB) (fun _ h => h.elim)⟩
  · rw [hr] at hr'
    cases hr'
    exact .inr ⟨_, List.mem_append_right _ (List.mem_singleton.2 rfl), rfl, hc⟩
  · rcases List.mem_append.1 hx with hx | hx
    · exact x.ok.keep (k6 x hx) hB.size (fun j hj => hB.block j (x.ok.inb (k6 x hx) j hj))
    · rw [List.mem_singleton] at hx
      subst hx
      exact r.ok.keep hS2 hB.size (fun j hj => hB.block j (r.ok.inb hS2 j hj))
  · rcases List.mem_append.1 hx with hx | hx
    · exact ⟨(h.eF x hx j hj).1.imp (fun ⟨q, r, h1, h2, h3⟩ => ⟨q, r, by omega, h2, h3⟩) id, (h.eF x hx j hj).2⟩
    · rw [List.mem_singleton] at hx
      subst hx
      have hj2 := hF2 j hj
      refine ⟨hj2.imp (fun h => ⟨k, r, by omega, hr, h⟩) (fun h => by omega), fun e5 => ?_, fun i y hy hf => ?_⟩
      · have h3 := h.gN j e5
        have h4 := (Row.lt h.row j e5).2
        rcases hj2 with h5 | h5
        · have := hrF j h5; omega
        · omega
      · have h4 := (h.heads.at_ i y hy).lt j hf
        rcases hj2 with h5 | h5
        · rcases h.hF i y hy j hf with ⟨q, p, h6, h7, h8⟩ | h6
          · exact h0.apart q k p r (by omega) h7 hr j h8 h5
          · have := hrF j h5; omega
        · omega

/-- behind a call of row k that told c: a head is laid -/
theorem Bld.push {a : AV} {rs : List (Option RI)} {k : Nat} {v v7 : Value} {hs : List HI} {gs : List EI} {W wr w1 X w7 : World} (h0 : Rows0 a rs W) (hlt : a.b2 < W.heap.size) (h : Bld a rs k v hs gs W wr) {r : RI} (hr : rs[k]? = some (some r)) {c : CellA} {t : List CellA} (hc : r.cs = c :: t)
    {F2 : Nat → Prop} (hS2 : r.St (some t) F2 w1) (hF2 : ∀ j, F2 j → r.F j ∨ wr.heap.size ≤ j) (hK : Kept r.F wr w1) (hB : Below w1.heap.size w1 X) {b : Nat} (hb : w1.heap.size ≤ b) (hA : HeadAt X b c r.f r.caps false)
    (hr7 : Row w7 0 51 1 v7 (hs.length + 1) ((hs.map HI.ptr).flatten ++ [.pointer (some ⟨b, 0, none⟩)])) (hg7 : X.grownBy w7 v.ownBlock) (ho7 : v7.ownBlock = v.ownBlock ∨ v7.ownBlock = some X.heap.size) :
    Bld a rs (k + 1) v7 (hs ++ [⟨r.f, r.caps, r.St, r.ok, b, c, t, F2, false, k⟩]) gs W (w7.setCell ⟨a.b2, 0, none⟩ v7) := by
  obtain ⟨k1, k2, k3, k4, k5, k6⟩ := h.call h0 hlt hr hK
  have hs1 := h.kept.size
  have hs2 := hK.size
  have hsX := hB.size
  have hs7 := hg7.size
  have hbX := hA.lt
  obtain ⟨n, hn⟩ : ∃ n : HI, n = ⟨r.f, r.caps, r.St, r.ok, b, c, t, F2, false, k⟩ := ⟨_, rfl⟩
  have hnfoot : ∀ j, n.foot j → r.F j ∨ wr.heap.size ≤ j := fun j hj => by
    rw [hn] at hj
    rcases hj with hj | hj
    · exact .inr (by have : j = b := hj; omega)
    · exact hF2 j hj
  have hF2l : ∀ j, F2 j → j < w1.heap.size := fun j hj => r.ok.inb hS2 j hj
  have hnAt : n.At X := by rw [hn]; exact ⟨hA, r.ok.keep hS2 hsX (fun j hj => hB.block j (hF2l j hj)), fun hf => by have := hF2l b hf; omega⟩
  have hrF : ∀ j, r.F j → j < W.heap.size := fun j hj => r.ok.inb (h0.st k r hr) j hj
  have hoF : ∀ (i : Nat) (x : HI), hs[i]? = some x → ∀ j, x.foot j → j < wr.heap.size ∧ ¬ r.F j := fun i x hx j hj => ⟨(h.heads.at_ i x hx).lt j hj, fun hf => by
    rcases h.hF i x hx j hj with ⟨q, p, h1, h2, h3⟩ | h1
    · exact h0.apart q k p r (by omega) h2 hr j h3 hf
    · have := hrF j hf; omega⟩
  -- all heads, old and new, in X
  have get : ∀ (i : Nat) (x : HI), (hs ++ [n])[i]? = some x → hs[i]? = some x ∨ (i = hs.length ∧ x = n) := fun i x hx => by
    rw [List.getElem?_append] at hx
    split at hx
    · exact .inl hx
    · rename_i hi
      have : i - hs.length = 0 := by
        have := (List.getElem?_eq_some_iff.1 hx).1
        simp at this; omega
      rw [this] at hx
      simp at hx
      exact .inr ⟨by omega, hx.symm⟩
  have hHX : Heads (hs ++ [n]) X := by
    refine ⟨fun i x hx => ?_, fun i j x y hij hx hy l hl hl2 => ?_⟩
    · rcases get i x hx with hx | ⟨_, rfl⟩
      · exact (k3.below hB).at_ i x hx
      · exact hnAt
    · rcases get i x hx with hx' | ⟨hi, rfl⟩
      · rcases get j y hy with hy' | ⟨_, rfl⟩
        · exact h.heads.apart i j x y hij hx' hy' l hl hl2
        · obtain ⟨h1, h2⟩ := hoF i x hx' l hl
          rcases hnfoot l hl2 with h3 | h3
          · exact h2 h3
          · omega
      · rcases get j y hy with hy' | ⟨hj, _⟩
        · obtain ⟨h1, h2⟩ := hoF j y hy' l hl2
          rcases hnfoot l hl with h3 | h3
          · exact h2 h3
          · omega
        · omega
  have hg0 : ∀ g, v.ownBlock = some g → g < wr.heap.size ∧ W.heap.size ≤ g := fun g hg => ⟨(Row.lt h.row g hg).2, h.gN g hg⟩
  have hsepX : ∀ g, v.ownBlock = some g → ∀ (i : Nat) (x : HI), (hs ++ [n])[i]? = some x → ¬ x.foot g := fun g hg i x hx hf => by
    rcases get i x hx with hx | ⟨_, rfl⟩
    · exact h.sep g hg i x hx hf
    · obtain ⟨h1, h2⟩ := hg0 g hg
      rcases hnfoot g hf with h3 | h3
      · have := hrF g h3; omega
      · omega
  have hH7 : Heads (hs ++ [n]) w7 := hHX.keep hs7 (fun i x hx j hj => hg7.block j ((hHX.at_ i x hx).lt j hj) (fun e => hsepX j e.symm i x hx hj))
  have hb2ne : ∀ (i : Nat) (x : HI), (hs ++ [n])[i]? = some x → ∀ j, x.foot j → j ≠ a.b2 := fun i x hx j hj e => by
    subst e
    rcases get i x hx with hx | ⟨_, rfl⟩
    · rcases h.hF i x hx _ hj with ⟨q, p, _, h2, h3⟩ | h1
      · exact h0.own q p h2 _ h3 (.inr (.inr (.inl rfl)))
      · omega
    · rcases hnfoot _ hj with h3 | h3
      · exact h0.own k r hr _ h3 (.inr (.inr (.inl rfl)))
      · omega
  have h7b2 : w7.heap[a.b2]? = wr.heap[a.b2]? := (hg7.block a.b2 (by omega) (fun e => by have := (hg0 _ e.symm).2; omega)).trans ((hB.block _ (by omega)).trans k1)
  have hv7 : ∀ g, v7.ownBlock = some g → W.heap.size ≤ g := fun g hg => by
    rcases ho7 with e | e
    · exact h.gN g (e.symm.trans hg)
    · rw [e] at hg; cases hg; omega
  rw [← hn]
  have heF : ∀ e ∈ gs, ∀ j, e.F j → j < wr.heap.size ∧ j ≠ a.b2 ∧ ¬ r.F j := fun e he j hj => by
    have h1 := e.ok.inb (h.ends e he) j hj
    refine ⟨h1, fun e5 => ?_, fun hf => ?_⟩
    · subst e5
      rcases (h.eF e he _ hj).1 with ⟨q, p, _, h2, h3⟩ | h2
      · exact h0.own q p h2 _ h3 (.inr (.inr (.inl rfl)))
      · omega
    · rcases (h.eF e he j hj).1 with ⟨q, p, h2, h3, h4⟩ | h2
      · exact h0.apart q k p r (by omega) h3 hr j h4 hf
      · have := hrF j hf; omega
  refine ⟨h.prov.more (fun _ h => List.mem_append_left _ h) (fun _ h => h) (fun r' hr' => ?_), fun e he => e.ok.keep (k6 e he) (by rw [World.size_setCell]; omega) (fun j hj => ?_), fun e he j hj => ⟨(h.eF e he j hj).1.imp (fun ⟨q, r, h1, h2, h3⟩ => ⟨q, r, by omega, h2, h3⟩) id, fun e5 => ?_, fun i x hx hf => ?_⟩, World.cell?_setCell_same _ _ _ ((World.cell?_of_block (a := ⟨a.b2, 0, none⟩) h7b2).trans h.c2), fun o => by rw [World.frozen?_setCell, World.frozen?_of_block (a := ⟨a.b2, o, none⟩) h7b2]; exact h.f2 o, ?_, ?_, fun i x hx => ?_, ?_, fun i q hi hq => ?_, hv7, fun i x hx j hj => ?_, fun g hg i x hx hf => ?_, by have := h.len; simp; omega, ?_⟩
  · rw [hr] at hr'
    cases hr'
    exact .inl ⟨n, List.mem_append_right _ (List.mem_singleton.2 rfl), by rw [hn], by rw [hn]; exact hc⟩
  · obtain ⟨h1, h2, _⟩ := heF e he j hj
    rw [Below.heap_setCell _ _ _ _ h2, hg7.block j (by omega) (fun e5 => (h.eF e he j hj).2.1 e5.symm)]
    exact hB.block j (by omega)
  · obtain ⟨h1, h2, _⟩ := heF e he j hj
    rcases ho7 with e6 | e6
    · exact (h.eF e he j hj).2.1 (e6.symm.trans e5)
    · rw [e6] at e5; cases e5; omega
  · obtain ⟨h1, h2, h3⟩ := heF e he j hj
    rcases get i x hx with hx | ⟨_, rfl⟩
    · exact (h.eF e he j hj).2.2 i x hx hf
    · rcases hnfoot j hf with h4 | h4
      · exact h3 h4
      · omega
  · have e : ((hs ++ [n]).map HI.ptr).flatten = (hs.map HI.ptr).flatten ++ [.pointer (some ⟨b, 0, none⟩)] := by rw [hn]; simp [HI.ptr]
    rw [e, List.length_append]
    exact Row.of_heap hr7 (fun g hg => Below.heap_setCell _ _ _ _ (fun e => by have := hv7 g hg; have : g = a.b2 := e; omega))
  · exact hH7.keep (by rw [World.size_setCell]; exact Nat.le_refl _) (fun i x hx j hj => Below.heap_setCell _ _ _ _ (hb2ne i x hx j hj))
  · rcases get i x hx with hx | ⟨_, rfl⟩
    · exact h.nd i x hx
    · rw [hn]
  · rw [filterMap_next hr, List.map_append, h.plain, hn]
    simp [headP, hc, HI.p]
  · have q1 := k4 i q hi hq
    have hqF : ∀ j, q.F j → j < W.heap.size := fun j hj => q.ok.inb (h0.st i q hq) j hj
    exact q.ok.keep q1 (by rw [World.size_setCell]; omega) (fun j hj => by
      have := hqF j hj
      rw [Below.heap_setCell _ _ _ _ (fun e => h0.own i q hq j hj (.inr (.inr (.inl e)))), hg7.block j (by omega) (fun e => by have := (hg0 j e.symm).2; omega)]
      exact hB.block j (by omega))
  · rcases get i x hx with hx | ⟨_, rfl⟩
    · exact (h.hF i x hx j hj).imp (fun ⟨q, p, h1, h2, h3⟩ => ⟨q, p, by omega, h2, h3⟩) id
    · rcases hnfoot j hj with h3 | h3
      · exact .inl ⟨k, r, by omega, hr, h3⟩
      · exact .inr (by omega)
  · rcases ho7 with e | e
    · exact hsepX g (e.symm.trans hg) i x hx hf
    · rw [e] at hg; cases hg
      have := (hHX.at_ i x hx).lt _ hf; omega
  · exact ((k5.trans (F' := fun _ => False) (Kept.of_below hB) (fun _ h => h.elim)).trans (F' := fun j => v.ownBlock = some j) ⟨hg7.os, hg7.tape, hg7.output, hg7.size, fun j hl hn => hg7.block j hl (fun e => hn e.symm)⟩ (fun j hj => .inr (hg0 j hj).2)).setCell (p := ⟨a.b2, 0, none⟩) (.inl (.inl rfl)) v7

noncomputable def allLoop1 : Code := (((Try.f31.body.map loopsOf).getD [])[0]?).getD .skip
theorem Try.info_head : (Try.prog.info? 51).map (fun i => (i.zero, i.size, i.bytes)) = some (some (.pointer none), 1, 8) := by kernel_rfl
theorem arr_ptr1 (w : World) (T : TypeId) (b g : Nat) (hg : w.heap.size = g) : Arr (w.alloc (.cells #[.pointer (some ⟨b, 0, none⟩)] T)) 1 (some ⟨g, 0, none⟩) 1 1 [[.pointer (some ⟨b, 0, none⟩)]] := by
  subst hg
  refine ⟨fun e he => ?_, rfl, Nat.le_refl _, by unfold maxLen; omega, fun _ => ⟨w.heap.size, 0, rfl, by rw [World.size_alloc]; omega, fun i e he j u hu => ?_⟩⟩
  · simp only [List.mem_cons, List.not_mem_nil, or_false] at he
    subst he
    exact ⟨rfl, fun u hu => by simp only [List.mem_cons, List.not_mem_nil, or_false] at hu; subst hu; rfl⟩
  · have hi : i = 0 := by
      have := (List.getElem?_eq_some_iff.1 he).1
      simp at this; exact this
    subst hi
    simp only [List.getElem?_cons_zero, Option.some.injEq] at he
    subst he
    have hj : j = 0 := by
      have := (List.getElem?_eq_some_iff.1 hu).1
      simp at this; exact this
    subst hj
    simp only [List.getElem?_cons_zero, Option.some.injEq] at hu
    subst hu
    simp [World.cell?_alloc_new]

theorem headAt_new (w : World) (T : TypeId) (c : CellA) (f : FuncId) (caps : Array Value) (b : Nat) (hb : w.heap.size = b) : HeadAt (w.alloc (.cells #[.string c.row, .string c.col, .int .u64 c.ver, .bool c.gone, .string c.val, .func (.func f) #[] caps, .bool false] T)) b c f caps false := by
  subst hb
  exact ⟨by simp [World.cell?_alloc_new], by simp [World.cell?_alloc_new], by simp [World.cell?_alloc_new], by simp [World.cell?_alloc_new], by simp [World.cell?_alloc_new], by simp [World.cell?_alloc_new], by simp [World.cell?_alloc_new], fun o => by simp [World.frozen?_alloc_new]⟩
/-- the world in which a new head is laid -/
theorem bld_X (c : CellA) (f : FuncId) (caps : Array Value) (w1 : World) {T1 T2 T3 : TypeId} :
    HeadAt (((w1.alloc (.cells #[.string c.row, .string c.col, .int .u64 c.ver, .bool c.gone, .string c.val] T1)).alloc (.cells #[.string c.row, .string c.col, .int .u64 c.ver, .bool c.gone, .string c.val, .func (.func f) #[] caps, .bool false] T2)).alloc (.cells #[.pointer (some ⟨w1.heap.size + 1, 0, none⟩)] T3)) (w1.heap.size + 1) c f caps false ∧
    Below w1.heap.size w1 (((w1.alloc (.cells #[.string c.row, .string c.col, .int .u64 c.ver, .bool c.gone, .string c.val] T1)).alloc (.cells #[.string c.row, .string c.col, .int .u64 c.ver, .bool c.gone, .string c.val, .func (.func f) #[] caps, .bool false] T2)).alloc (.cells #[.pointer (some ⟨w1.heap.size + 1, 0, none⟩)] T3)) :=
  ⟨(headAt_new _ T2 c f caps _ (World.size_alloc _ _)).same (heap_alloc_old _ _ (by rw [World.size_alloc, World.size_alloc]; exact Nat.lt_succ_self _)),
   (((Below.refl w1.heap.size w1).alloc (Nat.le_refl _) _).alloc (by rw [World.size_alloc]; exact Nat.le_succ _) _).alloc (by rw [World.size_alloc, World.size_alloc]; omega) _⟩

set_option maxRecDepth 1000000 in
set_option maxHeartbeats 8000000 in
theorem all_loop1 {Q0 : Exit → Act → World → Prop} {W : World} {n cap : Nat} {ao : Option Addr} {a : AV} {rs : List (Option RI)}
    {u0 u1 u3 u4 u5 u6 u7 u8 u9 u10 u11 u12 u13 u14 u15 u16 u17 u21 u22 u23 u24 u25 u26 u27 u28 u29 u30 u31 u32 u33 u34 u35 u36 u37 u38 u39 u40 u41 u42 u43 u44 u45 u46 u47 u48 u49 u50 u51 u52 u53 u54 u55 u56 u57 u58 u59 u60 u61 u62 u63 u64 u65 u66 u67 u68 u69 u70 u71 u72 u73 u74 u75 u76 u77 u78 u79 u80 u81 u82 u83 u84 u85 u86 u87 u88 u89 u90 u91 : Value}
    (hA : Arr W 1 ao n cap (rs.map rowE)) (h0 : Rows0 a rs W) (hb2 : a.b2 < W.heap.size) (c2 : W.cell? ⟨a.b2, 0, none⟩ = some (.slice none 0 0)) (f2 : ∀ o, W.frozen? ⟨a.b2, o, none⟩ = false) (hsm : n ≤ 1000000)
    (hog : ∀ p, ao = some p → ¬ a.Is p.block ∧ ¬ RowsF rs p.block)
    (hexit : ∀ (v8 v9 v10 v21 v22 v23 v24 v25 v26 v27 v28 v29 v30 v31 v32 v33 v34 v35 v36 v37 v38 v39 : Value) (v : Value) (hs : List HI) (gs : List EI) (wr : World), Bld a rs n v hs gs W wr → Q0 (.exit 0) ⟨(u0 :: u1 :: (.pointer (some ⟨a.b2, 0, none⟩)) :: u3 :: u4 :: u5 :: u6 :: u7 :: v8 :: v9 :: v10 :: u11 :: u12 :: u13 :: u14 :: u15 :: u16 :: u17 :: (.slice ao n cap) :: (.int .i64 (n : Int)) :: (.int .i64 (n : Int)) :: v21 :: v22 :: v23 :: v24 :: v25 :: v26 :: v27 :: v28 :: v29 :: v30 :: v31 :: v32 :: v33 :: v34 :: v35 :: v36 :: v37 :: v38 :: v39 :: u40 :: u41 :: u42 :: u43 :: u44 :: u45 :: u46 :: u47 :: u48 :: u49 :: u50 :: u51 :: u52 :: u53 :: u54 :: u55 :: u56 :: u57 :: u58 :: u59 :: u60 :: u61 :: u62 :: u63 :: u64 :: u65 :: u66 :: u67 :: u68 :: u69 :: u70 :: u71 :: u72 :: u73 :: u74 :: u75 :: u76 :: u77 :: u78 :: u79 :: u80 :: u81 :: u82 :: u83 :: u84 :: u85 :: u86 :: u87 :: u88 :: u89 :: u90 :: u91 :: []).toArray, []⟩ wr) :
    Code.wp Try.prog (Code.loop allLoop1) Q0 ⟨(u0 :: u1 :: (.pointer (some ⟨a.b2, 0, none⟩)) :: u3 :: u4 :: u5 :: u6 :: u7 :: u8 :: u9 :: u10 :: u11 :: u12 :: u13 :: u14 :: u15 :: u16 :: u17 :: (.slice ao n cap) :: (.int .i64 (n : Int)) :: (.int .i64 0) :: u21 :: u22 :: u23 :: u24 :: u25 :: u26 :: u27 :: u28 :: u29 :: u30 :: u31 :: u32 :: u33 :: u34 :: u35 :: u36 :: u37 :: u38 :: u39 :: u40 :: u41 :: u42 :: u43 :: u44 :: u45 :: u46 :: u47 :: u48 :: u49 :: u50 :: u51 :: u52 :: u53 :: u54 :: u55 :: u56 :: u57 :: u58 :: u59 :: u60 :: u61 :: u62 :: u63 :: u64 :: u65 :: u66 :: u67 :: u68 :: u69 :: u70 :: u71 :: u72 :: u73 :: u74 :: u75 :: u76 :: u77 :: u78 :: u79 :: u80 :: u81 :: u82 :: u83 :: u84 :: u85 :: u86 :: u87 :: u88 :: u89 :: u90 :: u91 :: []).toArray, []⟩ W := by
  obtain ⟨i0, hi, hz0, hz1, hz2⟩ := info_parts Try.info_head
  have Hi := Lib.hid hi
  have hl : rs.length = n := by have := hA.len; rwa [List.length_map] at this
  have hn1 := Arr.fits hA
  have hn2 := Arr.max hA
  unfold maxLen at hn2
  have HA := Lib.hid hA
  have H0 := Lib.hid h0
  have Hog := Lib.hid hog
  have Hl := Lib.hid hl
  have HZ := Lib.hid (Bld.zero h0 c2 f2)
  clear hA h0 hog hl hi c2 f2
  conv => arg 2; arg 1; whnf
  go_loopw [20] (fun i wr => ∃ (k : Nat) (v : Value) (hs : List HI) (gs : List EI), k ≤ n ∧ i = .int .i64 k ∧ Hid (Bld a rs k v hs gs W wr)) (fun i _ => n - (intOf i).toNat)
  case atStart => exact ⟨0, _, _, _, by omega, rfl, HZ⟩
  case round =>
    obtain ⟨k, v, hs, gs, hk, rfl, hD⟩ := hrel
    have hzr := hD.out.kept.size
    by_cases hlt : k < n
    · obtain ⟨p, hp⟩ : ∃ p, rs[k]? = some p := ⟨_, List.getElem?_eq_getElem (by rw [Hl.out]; omega)⟩
      obtain ⟨g, off, rfl, hgl, x0⟩ := arr_rowE HA.out hp
      have kg := hD.out.kept.block g hgl (fun hf => by
        rcases hf with e | hf
        · exact (Hog.out _ rfl).1 (by rw [show g = a.b2 from e]; exact .inr (.inr (.inl rfl)))
        · exact (Hog.out _ rfl).2 hf)
      have x1 := (World.cell?_of_block (a := ⟨g, off + k, none⟩) kg).trans x0
      have hgr : g < wr.heap.size := by omega
      have hlenk := hD.out.len
      clear x0 kg hexit
      cases p with
      | none =>
        have hq := nil_eql
        have hD2 := Lib.hid (hD.out.nil hp)
        simp only [valR] at x1
        go_wp2
        exact ⟨⟨k + 1, v, hs, gs, by omega, by go_num, hD2⟩, by simp [intOf]; omega⟩
      | some r =>
        have hq := func_eql (.func r.f) #[] r.caps
        simp only [valR] at x1
        have hSt := hD.out.rest k r (Nat.le_refl _) hp
        have Hp := Lib.hid hp
        have KN0 := r.ok.next hSt
        have Hfn := Lib.hid r.ok.fn
        cases hc : r.cs with
        | nil =>
          rw [hc] at KN0
          simp only [headV, restO] at KN0
          have KN := Lib.hid KN0
          have Hc := Lib.hid hc
          clear hp hSt KN0 hc
          go_wp2_with (refine wpList_call_row rfl _ rfl (by rfl) Hfn.out ?_; refine KN.out.mono ?_; rintro e w1 ⟨rfl, F2, hS2, hF2, hK2⟩; refine ⟨_, rfl, ?_⟩; have HS2 := Lib.hid hS2; have HF2 := Lib.hid hF2; have HK2 := Lib.hid hK2; have hz1x := hK2.size; clear hS2 hF2 hK2)
          exact ⟨⟨k + 1, v, hs, _, by omega, by go_num, Lib.hid (hD.out.empty H0.out hb2 Hp.out Hc.out HS2.out HF2.out HK2.out ((Below.refl _ _).alloc (Nat.le_refl _) _))⟩, by simp [intOf]; omega⟩
        | cons c t =>
          rw [hc] at KN0
          simp only [headV, restO] at KN0
          have KN := Lib.hid KN0
          have Hc := Lib.hid hc
          clear hp hSt KN0 hc
          obtain ⟨ao3, cap3, rfl⟩ := hD.out.row.shape
          have c2 := hD.out.c2
          have f2 := hD.out.f2
          go_wp2_with (first
            | (refine wpList_call_row rfl _ rfl (by rfl) Hfn.out ?_; refine KN.out.mono ?_; rintro e w1 ⟨rfl, F2, hS2, hF2, hK2⟩; refine ⟨_, rfl, ?_⟩; have HS2 := Lib.hid hS2; have HF2 := Lib.hid hF2; have HK2 := Lib.hid hK2; have hz1x := hK2.size; have hcl := hD.out.call H0.out hb2 Hp.out hK2; have b2h := hcl.1; have c21 := (World.cell?_of_block (a := ⟨a.b2, 0, none⟩) b2h).trans c2; have f21 := fun o => (World.frozen?_of_block (a := ⟨a.b2, o, none⟩) b2h).trans (f2 o); have HR1 := Lib.hid hcl.2.1; have hb21 : a.b2 < w1.heap.size := (by omega); clear hS2 hF2 hK2 hcl b2h)
            | (at_builtin; refine wpList_append_at _ rfl _ _ 50 rfl 0 51 i0 _ 1 8 Try.underlying50 Hi.out hz0 hz1 hz2 rfl (by decide) (.slice ao3 hs.length cap3) _ _ rfl (Row.alloc (Row.alloc (Row.alloc HR1.out _) _) _) rfl (arr_ptr1 _ _ (w1.heap.size + 1) (w1.heap.size + 1 + 1) (by rw [World.size_alloc, World.size_alloc])) (by omega) (by unfold maxLen; omega) (Nat.zero_le _) ?_; intro v7 w7 hr7 hg7 ho7; have HG := Lib.hid (bld_X c r.f r.caps w1 (T1 := 37) (T2 := 53) (T3 := 51)); have hg7s := hg7.size; have h7b2 := World.cell?_of_block (a := ⟨a.b2, 0, none⟩) (hg7.block a.b2 (by have := HG.out.2.size; omega) (fun e => by have := hD.out.gN _ e.symm; omega)); have c27 := h7b2.trans ((World.cell?_of_block (a := ⟨a.b2, 0, none⟩) (HG.out.2.block a.b2 hb21)).trans c21); have f27 := fun o => (World.frozen?_of_block (a := ⟨a.b2, o, none⟩) (hg7.block a.b2 (by have := HG.out.2.size; omega) (fun e => by have := hD.out.gN _ e.symm; omega))).trans ((World.frozen?_of_block (a := ⟨a.b2, o, none⟩) (HG.out.2.block a.b2 hb21)).trans (f21 o)); have hb27 : a.b2 < w7.heap.size := (by have := HG.out.2.size; omega); have HP := Lib.hid (hD.out.push H0.out hb2 Hp.out Hc.out HS2.out HF2.out HK2.out HG.out.2 (Nat.le_succ _) HG.out.1 hr7 hg7 ho7); obtain ⟨ao7, cap7, rfl⟩ := hr7.shape; clear hr7 hg7 ho7 h7b2))
          exact ⟨⟨k + 1, _, _, _, by omega, by go_num, HP⟩, by simp [intOf]; omega⟩
    · obtain rfl : k = n := by omega
      go_wp2
      exact hexit _ _ _ _ _ _ _ _ _ _ _ _ _ _ _ _ _ _ _ _ _ _ v hs gs wr hD.out
end Go.Proofs.Ytehbikofoidjhaa.Lz
