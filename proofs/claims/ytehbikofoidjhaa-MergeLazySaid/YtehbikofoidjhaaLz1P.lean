/-
  The state of All's function, once begun; what one call leaves; rows that ended are kept.
-/
import Derived.Test.YtehbikofoidjhaaLzP
namespace Go.Proofs.Ytehbikofoidjhaa.Lz
open Go.RowKit

/-- All's own variables: begun, the rows, the heads, told, last -/
structure AV where
  b0 : Nat
  b1 : Nat
  b2 : Nat
  b3 : Nat
  b4 : Nat
def AV.caps (a : AV) : Array Value := #[.pointer (some ⟨a.b0, 0, none⟩), .pointer (some ⟨a.b1, 0, none⟩), .pointer (some ⟨a.b2, 0, none⟩), .pointer (some ⟨a.b3, 0, none⟩), .pointer (some ⟨a.b4, 0, none⟩)]
def AV.Is (a : AV) (k : Nat) : Prop := k = a.b0 ∨ k = a.b1 ∨ k = a.b2 ∨ k = a.b3 ∨ k = a.b4
structure AV.Ok (a : AV) : Prop where
  n01 : a.b0 ≠ a.b1
  n02 : a.b0 ≠ a.b2
  n03 : a.b0 ≠ a.b3
  n04 : a.b0 ≠ a.b4
  n12 : a.b1 ≠ a.b2
  n13 : a.b1 ≠ a.b3
  n14 : a.b1 ≠ a.b4
  n23 : a.b2 ≠ a.b3
  n24 : a.b2 ≠ a.b4
  n34 : a.b3 ≠ a.b4
structure LastAt (w : World) (b4 : Nat) (last : Option CellA) : Prop where
  cell : ∀ c, last = some c → CellAt w b4 0 c
  any : ∀ o, o < 5 → ∃ u, w.cell? ⟨b4, o, none⟩ = some u
/-- begun -/
structure Beg (a : AV) (v : Value) (hs : List HI) (gs : List EI) (last : Option CellA) (F : Nat → Prop) (w : World) : Prop where
  ok : a.Ok
  c0 : w.cell? ⟨a.b0, 0, none⟩ = some (.bool true)
  c2 : w.cell? ⟨a.b2, 0, none⟩ = some v
  c3 : w.cell? ⟨a.b3, 0, none⟩ = some (.bool last.isSome)
  c4 : LastAt w a.b4 last
  f : ∀ k o, a.Is k → w.frozen? ⟨k, o, none⟩ = false
  row : Row w 0 51 1 v hs.length (hs.map HI.ptr).flatten
  heads : Heads hs w
  nd : ∀ (i : Nat) (h : HI), hs[i]? = some h → h.d = false
  vF : ∀ k, a.Is k → F k
  gF : ∀ k, v.ownBlock = some k → F k ∧ ¬ a.Is k ∧ ∀ (i : Nat) (h : HI), hs[i]? = some h → ¬ h.foot k
  hF : ∀ (i : Nat) (h : HI), hs[i]? = some h → ∀ k, h.foot k → F k ∧ ¬ a.Is k
  inb : ∀ k, F k → k < w.heap.size
  ends : ∀ e ∈ gs, e.St none e.F w
  eF : ∀ e ∈ gs, ∀ k, e.F k → F k ∧ ¬ a.Is k ∧ v.ownBlock ≠ some k ∧ ∀ (i : Nat) (h : HI), hs[i]? = some h → ¬ h.foot k
theorem CellAt.same {w w' : World} {b off : Nat} {c : CellA} (h : CellAt w b off c) (hs : w'.heap[b]? = w.heap[b]?) : CellAt w' b off c := by
  have k : ∀ o, w'.cell? ⟨b, o, none⟩ = w.cell? ⟨b, o, none⟩ := fun o => World.cell?_of_block (a := ⟨b, o, none⟩) hs
  exact ⟨(k _).trans h.c0, (k _).trans h.c1, (k _).trans h.c2, (k _).trans h.c3, (k _).trans h.c4⟩
theorem LastAt.same {w w' : World} {b4 : Nat} {last : Option CellA} (h : LastAt w b4 last) (hs : w'.heap[b4]? = w.heap[b4]?) : LastAt w' b4 last :=
  ⟨fun c hc => (h.cell c hc).same hs, fun o ho => by obtain ⟨u, hu⟩ := h.any o ho; exact ⟨u, (World.cell?_of_block (a := ⟨b4, o, none⟩) hs).trans hu⟩⟩
theorem Beg.keep {a : AV} {v : Value} {hs : List HI} {gs : List EI} {last : Option CellA} {F : Nat → Prop} {w w' : World} (h : Beg a v hs gs last F w) (hsz : w.heap.size ≤ w'.heap.size) (hb : ∀ k, F k → w'.heap[k]? = w.heap[k]?) : Beg a v hs gs last F w' := by
  have k : ∀ b o, a.Is b → w'.cell? ⟨b, o, none⟩ = w.cell? ⟨b, o, none⟩ := fun b o hi => World.cell?_of_block (a := ⟨b, o, none⟩) (hb b (h.vF b hi))
  exact ⟨h.ok, (k _ _ (.inl rfl)).trans h.c0, (k _ _ (.inr (.inr (.inl rfl)))).trans h.c2, (k _ _ (.inr (.inr (.inr (.inl rfl))))).trans h.c3, h.c4.same (hb _ (h.vF _ (.inr (.inr (.inr (.inr rfl)))))),
    fun b o hi => (World.frozen?_of_block (a := ⟨b, o, none⟩) (hb b (h.vF b hi))).trans (h.f b o hi), Row.of_heap h.row (fun g hg => hb g (h.gF g hg).1), h.heads.keep hsz (fun i x hx j hj => hb j (h.hF i x hx j hj).1), h.nd, h.vF, h.gF, h.hF, fun j hj => Nat.lt_of_lt_of_le (h.inb j hj) hsz, fun e he => e.ok.keep (h.ends e he) hsz (fun k hk => hb k (h.eF e he k hk).1), h.eF⟩
theorem Row.shape {w : World} {B : Nat} {T : TypeId} {size n : Nat} {v : Value} {xs : List Value} (h : Row w B T size v n xs) : ∃ ao cap, v = .slice ao n cap := by
  rcases h.form with ⟨rfl, rfl⟩ | ⟨g, cap, rfl, _⟩
  · exact ⟨none, 0, rfl⟩
  · exact ⟨_, cap, rfl⟩
theorem gone_ptr {c : CellA} {hs hs' : List HI} {w wr : World} (h : Gone c hs hs' hs.length w wr) : hs'.map HI.ptr = hs.map HI.ptr := by
  apply List.ext_getElem?
  intro i
  rw [List.getElem?_map, List.getElem?_map]
  cases ha : hs[i]? with
  | none =>
    have : hs'[i]? = none := by
      rw [List.getElem?_eq_none_iff] at ha ⊢
      rw [h.len]; exact ha
    rw [this]
  | some a =>
    obtain ⟨F', hf⟩ := h.fst i a (List.getElem?_eq_some_iff.1 ha).1 ha
    rw [hf]
    simp only [Option.map_some, HI.ptr, HI.adv_b]

/-- what a call leaves: the plain step's heads; what it tells -/
def toldV : List PH → Value
  | [] => headV []
  | h :: tl => headV [leastP h.1 tl]
def lastV (last : Option CellA) : List PH → Option CellA
  | [] => last
  | h :: tl => some (leastP h.1 tl)
structure BegNext (a : AV) (hs : List HI) (gs : List EI) (last : Option CellA) (F : Nat → Prop) (w : World) (e : Ending) (w' : World) : Prop where
  told : e = .returned (toldV (stepP last (hs.map HI.p)))
  next : ∃ v' hs' gs' F', hs'.map HI.p = stepP last (hs.map HI.p) ∧ StepG last hs gs hs' gs' ∧ Beg a v' hs' gs' (lastV last (stepP last (hs.map HI.p))) F' w' ∧ ∀ k, F' k → F k ∨ w.heap.size ≤ k
  kept : Kept F w w'

/-- behind the loop, the deletion, the store of the heads -/
structure Mid (a : AV) (hs : List HI) (gs : List EI) (last : Option CellA) (F : Nat → Prop) (w W : World) (rb : Nat) (v6 : Value) (hs2 : List HI) (gs2 : List EI) (w7 : World) : Prop where
  step : StepG last hs gs hs2 gs2
  beg : Beg a v6 hs2 gs2 last (fun k => (F k ∨ W.heap.size ≤ k) ∧ k < w7.heap.size) w7
  plain : hs2.map HI.p = stepP last (hs.map HI.p)
  kept : Kept F w w7
  res : ∀ o, w7.cell? ⟨rb, o, none⟩ = W.cell? ⟨rb, o, none⟩
  resf : ∀ o, w7.frozen? ⟨rb, o, none⟩ = W.frozen? ⟨rb, o, none⟩
/-- heads behind whatever went on with them -/
structure After (last : Option CellA) (hs hs' : List HI) (w wr : World) : Prop where
  step : StepA last hs hs'
  heads : Heads hs' wr
  foot : ∀ (i : Nat) (a : HI), hs'[i]? = some a → ∀ j, a.foot j → (∃ b : HI, hs[i]? = some b ∧ b.foot j) ∨ w.heap.size ≤ j
  kept : Kept (fun j => ∃ (i : Nat) (a : HI), hs[i]? = some a ∧ a.foot j) w wr
theorem Gone.after {c : CellA} {hs hs' : List HI} {w wr : World} (h : Gone c hs hs' hs.length w wr) : After (some c) hs hs' w wr := ⟨⟨h.len, fun i a ha => h.fst i a (List.getElem?_eq_some_iff.1 ha).1 ha⟩, h.heads, h.foot, h.kept⟩
theorem After.refl {hs : List HI} {w : World} (h : Heads hs w) : After none hs hs w w := ⟨rfl, h, fun i a ha j hj => .inl ⟨a, ha, hj⟩, Kept.refl _ _⟩
theorem alive_all {hs : List HI} (h : ∀ (i : Nat) (x : HI), hs[i]? = some x → x.d = false) : alive hs = hs := by
  unfold alive
  rw [List.filter_eq_self]
  intro x hx
  obtain ⟨i, hi⟩ := List.mem_iff_getElem?.1 hx
  rw [h i x hi]; rfl
theorem mid_of {a : AV} {v v6 : Value} {hs hs' : List HI} {gs : List EI} {last : Option CellA} {F : Nat → Prop} {w W wr w6 : World} (h : Beg a v hs gs last F W) {rb : Nat} (hK : Kept F w W) (hrb : ¬ F rb) (hz : rb < W.heap.size) (hG : After last hs hs' W wr) (hpl : (alive hs').map HI.p = stepP last (hs.map HI.p))
    (hr : Row w6 0 51 1 v6 (alive hs').length ((alive hs').map HI.ptr).flatten) (hg : wr.grownBy w6 v.ownBlock) (ho : v6.ownBlock = v.ownBlock) : Mid a hs gs last F w W rb v6 (alive hs') (gs ++ dead hs') (w6.setCell ⟨a.b2, 0, none⟩ v6) := by
  have hsz := hG.kept.size
  have hgs := hg.size
  have feet : ∀ k, (∃ (i : Nat) (x : HI), hs[i]? = some x ∧ x.foot k) → F k ∧ ¬ a.Is k := fun k ⟨i, x, hx, hf⟩ => h.hF i x hx k hf
  have kv : ∀ k, a.Is k → w6.heap[k]? = W.heap[k]? := fun k hk => by
    have hl : k < W.heap.size := h.inb k (h.vF k hk)
    rw [hg.block k (by omega) (fun e => (h.gF k e.symm).2.1 hk)]
    exact hG.kept.block k hl (fun hf => (feet k hf).2 hk)
  have hb2 : a.Is a.b2 := .inr (.inr (.inl rfl))
  have cv : ∀ k o, a.Is k → k ≠ a.b2 → (w6.setCell ⟨a.b2, 0, none⟩ v6).cell? ⟨k, o, none⟩ = W.cell? ⟨k, o, none⟩ := fun k o hk hne => by
    rw [World.cell?_setCell_other _ _ _ _ (fun e => hne (by cases e; rfl))]
    exact World.cell?_of_block (a := ⟨k, o, none⟩) (kv k hk)
  have hgr : ∀ k, v.ownBlock = some k → k < W.heap.size := fun k hk => h.inb k (h.gF k hk).1
  have hfoot' : ∀ (i : Nat) (x : HI), hs'[i]? = some x → ∀ k, x.foot k → (F k ∨ W.heap.size ≤ k) ∧ ¬ a.Is k := fun i x hx k hk => by
    rcases hG.foot i x hx k hk with ⟨b, hb, hf⟩ | h1
    · exact ⟨.inl (h.hF i b hb k hf).1, (h.hF i b hb k hf).2⟩
    · exact ⟨.inr h1, fun hi => by have := h.inb k (h.vF k hi); omega⟩
  have hfg : ∀ (i : Nat) (x : HI), hs'[i]? = some x → ∀ k, v.ownBlock = some k → ¬ x.foot k := fun i x hx k hk hf => by
    rcases hG.foot i x hx k hf with ⟨b, hb, hf2⟩ | h1
    · exact (h.gF k hk).2.2 i b hb hf2
    · have := hgr k hk; omega
  have hH6 : Heads (alive hs') w6 := hG.heads.alive.keep hgs (fun i x hx k hk => by
    obtain ⟨_, j, hj⟩ := alive_get hx
    exact hg.block k ((hG.heads.at_ j x hj).lt k hk) (fun e => hfg j x hj k e.symm hk))
  have hH7 : Heads (alive hs') (w6.setCell ⟨a.b2, 0, none⟩ v6) := hH6.keep (by rw [World.size_setCell]; exact Nat.le_refl _) (fun i x hx k hk => Below.heap_setCell _ _ _ _ (fun e => by
    obtain ⟨_, j, hj⟩ := alive_get hx
    exact (hfoot' j x hj k hk).2 (by rw [show k = a.b2 from e]; exact hb2)))
  have hres : w6.heap[rb]? = W.heap[rb]? := by
    rw [hg.block rb (by omega) (fun e => hrb (h.gF _ e.symm).1)]
    exact hG.kept.block _ hz (fun hf => hrb (feet _ hf).1)
  have hb2l : rb ≠ a.b2 := fun e => hrb (e ▸ h.vF _ hb2)
  refine ⟨⟨hs', hG.step, rfl, rfl⟩, ⟨h.ok, (cv _ 0 (.inl rfl) h.ok.n02).trans h.c0, ?_, (cv _ 0 (.inr (.inr (.inr (.inl rfl)))) h.ok.n23.symm).trans h.c3, ?_, fun k o hk => ?_, ?_, hH7, fun i x hx => (alive_get hx).1, fun k hk => ?_, fun k hk => ?_, fun i x hx k hk => ?_, fun k hk => hk.2, fun e he => ?_, fun e he k hk => ?_⟩, hpl, ?_, fun o => ?_, fun o => ?_⟩
  · exact World.cell?_setCell_same _ _ _ ((World.cell?_of_block (a := ⟨a.b2, 0, none⟩) (kv _ hb2)).trans h.c2)
  · exact h.c4.same (by rw [Below.heap_setCell _ _ _ _ (fun e => h.ok.n24 (show a.b4 = a.b2 from e).symm)]; exact kv _ (.inr (.inr (.inr (.inr rfl)))))
  · rw [World.frozen?_setCell, World.frozen?_of_block (a := ⟨k, o, none⟩) (kv k hk)]
    exact h.f k o hk
  · exact Row.of_heap hr (fun k hk => Below.heap_setCell _ _ _ _ (fun e => (h.gF k (ho ▸ hk)).2.1 (by rw [show k = a.b2 from e]; exact hb2)))
  · have := h.inb k (h.vF k hk)
    exact ⟨.inl (h.vF k hk), by rw [World.size_setCell]; omega⟩
  · rw [ho] at hk
    refine ⟨⟨.inl (h.gF k hk).1, by have := hgr k hk; rw [World.size_setCell]; omega⟩, (h.gF k hk).2.1, fun i x hx hf => ?_⟩
    obtain ⟨_, j, hj⟩ := alive_get hx
    exact hfg j x hj k hk hf
  · obtain ⟨_, j, hj⟩ := alive_get hx
    exact ⟨⟨(hfoot' j x hj k hk).1, by rw [World.size_setCell]; exact (hH6.at_ i x hx).lt k hk⟩, (hfoot' j x hj k hk).2⟩
  · rcases List.mem_append.1 he with he | he
    · refine e.ok.keep (h.ends e he) (by rw [World.size_setCell]; omega) (fun k hk => ?_)
      obtain ⟨e1, e2, e3, e4⟩ := h.eF e he k hk
      have hkl := h.inb k e1
      rw [Below.heap_setCell _ _ _ _ (fun e5 => e2 (by rw [show k = a.b2 from e5]; exact hb2)), hg.block k (by omega) (fun e5 => e3 e5.symm)]
      exact hG.kept.block k hkl (fun ⟨i, x, hx, hf⟩ => e4 i x hx hf)
    · obtain ⟨j, x, hx, hd, rfl⟩ := dead_get he
      have hst := (hG.heads.at_ j x hx).st
      rw [hd] at hst
      refine x.ok.keep hst (by rw [World.size_setCell]; omega) (fun k hk => ?_)
      have hkl := (hG.heads.at_ j x hx).lt k (.inr hk)
      rw [Below.heap_setCell _ _ _ _ (fun e5 => (hfoot' j x hx k (.inr hk)).2 (by rw [show k = a.b2 from e5]; exact hb2))]
      exact hg.block k hkl (fun e5 => hfg j x hx k e5.symm (.inr hk))
  · rcases List.mem_append.1 he with he | he
    · obtain ⟨e1, e2, e3, e4⟩ := h.eF e he k hk
      have hkl := h.inb k e1
      refine ⟨⟨.inl e1, by rw [World.size_setCell]; omega⟩, e2, by rw [ho]; exact e3, fun i x hx hf => ?_⟩
      obtain ⟨_, j, hj⟩ := alive_get hx
      rcases hG.foot j x hj k hf with ⟨b, hb, hf2⟩ | h1
      · exact e4 j b hb hf2
      · omega
    · obtain ⟨j, x, hx, hd, rfl⟩ := dead_get he
      have hkl := (hG.heads.at_ j x hx).lt k (.inr hk)
      refine ⟨⟨(hfoot' j x hx k (.inr hk)).1, by rw [World.size_setCell]; omega⟩, (hfoot' j x hx k (.inr hk)).2, by rw [ho]; exact fun e5 => hfg j x hx k e5 (.inr hk), fun i y hy hf => ?_⟩
      obtain ⟨hyd, q, hq⟩ := alive_get hy
      refine hG.heads.apart j q x y (fun e5 => ?_) hx hq k (.inr hk) hf
      subst e5
      rw [hx] at hq
      cases hq
      rw [hd] at hyd
      cases hyd
  · refine (((hK.trans hG.kept (fun k hk => .inl (feet k hk).1)).trans (F' := fun k => v.ownBlock = some k) ⟨hg.os, hg.tape, hg.output, hg.size, fun k hl hn => hg.block k hl (fun e => hn e.symm)⟩ (fun k hk => .inl (h.gF k hk).1)).setCell (p := ⟨a.b2, 0, none⟩) (.inl (h.vF _ hb2)) v6)
  · rw [World.cell?_setCell_other _ _ _ _ (fun e => by have := congrArg Addr.block e; simp only at this; omega)]
    exact World.cell?_of_block (a := ⟨rb, o, none⟩) hres
  · rw [World.frozen?_setCell]
    exact World.frozen?_of_block (a := ⟨rb, o, none⟩) hres

theorem putC_heap (w : World) (b : Nat) (c : CellA) (k : Nat) (h : k ≠ b) : (putC w b c).heap[k]? = w.heap[k]? := by
  unfold putC
  rw [Below.heap_setCell _ _ _ _ h, Below.heap_setCell _ _ _ _ h, Below.heap_setCell _ _ _ _ h, Below.heap_setCell _ _ _ _ h, Below.heap_setCell _ _ _ _ h]
theorem putC_size (w : World) (b : Nat) (c : CellA) : (putC w b c).heap.size = w.heap.size := by
  unfold putC; simp only [World.size_setCell]
theorem Kept.putC {F : Nat → Prop} {a w : World} (h : Kept F a w) {b : Nat} (hp : F b ∨ a.heap.size ≤ b) (c : CellA) : Kept F a (putC w b c) :=
  ((((h.setCell (p := ⟨b, 0, none⟩) hp _).setCell (p := ⟨b, 1, none⟩) hp _).setCell (p := ⟨b, 2, none⟩) hp _).setCell (p := ⟨b, 3, none⟩) hp _).setCell (p := ⟨b, 4, none⟩) hp _
theorem putC_frozen (w : World) (b : Nat) (c : CellA) (p : Addr) : (putC w b c).frozen? p = w.frozen? p := by
  unfold putC; simp only [World.frozen?_setCell]
theorem putC_at {w : World} {b : Nat} (h : ∀ o, o < 5 → ∃ u, w.cell? ⟨b, o, none⟩ = some u) (c : CellA) : CellAt (putC w b c) b 0 c := by
  obtain ⟨u0, c0⟩ := h 0 (by decide)
  obtain ⟨u1, c1⟩ := h 1 (by decide)
  obtain ⟨u2, c2⟩ := h 2 (by decide)
  obtain ⟨u3, c3⟩ := h 3 (by decide)
  obtain ⟨u4, c4⟩ := h 4 (by decide)
  have ne : ∀ (i j : Nat), i ≠ j → (⟨b, i, none⟩ : Addr) ≠ ⟨b, j, none⟩ := fun i j hij e => hij (by cases e; rfl)
  unfold Go.Proofs.Ytehbikofoidjhaa.Lz.putC
  refine ⟨?_, ?_, ?_, ?_, ?_⟩
  · rw [World.cell?_setCell_other _ _ _ _ (ne _ _ (by decide)), World.cell?_setCell_other _ _ _ _ (ne _ _ (by decide)), World.cell?_setCell_other _ _ _ _ (ne _ _ (by decide)), World.cell?_setCell_other _ _ _ _ (ne _ _ (by decide))]
    exact World.cell?_setCell_same _ _ _ c0
  · rw [World.cell?_setCell_other _ _ _ _ (ne _ _ (by decide)), World.cell?_setCell_other _ _ _ _ (ne _ _ (by decide)), World.cell?_setCell_other _ _ _ _ (ne _ _ (by decide))]
    exact World.cell?_setCell_same _ _ _ ((World.cell?_setCell_other _ _ _ _ (ne _ _ (by decide))).trans c1)
  · rw [World.cell?_setCell_other _ _ _ _ (ne _ _ (by decide)), World.cell?_setCell_other _ _ _ _ (ne _ _ (by decide))]
    exact World.cell?_setCell_same _ _ _ ((World.cell?_setCell_other _ _ _ _ (ne _ _ (by decide))).trans ((World.cell?_setCell_other _ _ _ _ (ne _ _ (by decide))).trans c2))
  · rw [World.cell?_setCell_other _ _ _ _ (ne _ _ (by decide))]
    exact World.cell?_setCell_same _ _ _ ((World.cell?_setCell_other _ _ _ _ (ne _ _ (by decide))).trans ((World.cell?_setCell_other _ _ _ _ (ne _ _ (by decide))).trans ((World.cell?_setCell_other _ _ _ _ (ne _ _ (by decide))).trans c3)))
  · exact World.cell?_setCell_same _ _ _ ((World.cell?_setCell_other _ _ _ _ (ne _ _ (by decide))).trans ((World.cell?_setCell_other _ _ _ _ (ne _ _ (by decide))).trans ((World.cell?_setCell_other _ _ _ _ (ne _ _ (by decide))).trans ((World.cell?_setCell_other _ _ _ _ (ne _ _ (by decide))).trans c4))))
/-- the result's block was written, and new blocks laid: the state stands -/
theorem Mid.res_end {a : AV} {hs hs2 : List HI} {gs gs2 : List EI} {last : Option CellA} {F : Nat → Prop} {w W w7 w8 : World} {v6 : Value} {rb : Nat} (h : Mid a hs gs last F w W rb v6 hs2 gs2 w7) (hrb : ¬ F rb) (hz : rb < W.heap.size) (hw : w.heap.size ≤ rb) (hB : Below w7.heap.size w7 w8) (x : CellA) :
    Beg a v6 hs2 gs2 last (fun k => (F k ∨ W.heap.size ≤ k) ∧ k < w7.heap.size) (putC w8 rb x) ∧ Kept F w (putC w8 rb x) :=
  ⟨h.beg.keep (by rw [putC_size]; exact hB.size) (fun k hk => by
    have hne : k ≠ rb := by
      rcases hk.1 with h1 | h1
      · exact fun e => hrb (e ▸ h1)
      · omega
    rw [putC_heap _ _ _ _ hne]
    exact hB.block k hk.2), (h.kept.trans (F' := fun _ => False) (Kept.of_below hB) (fun _ h => h.elim)).putC (.inr hw) x⟩

theorem any5 {w : World} {b : Nat} {last : Option CellA} (h : LastAt w b last) : (∃ u, w.cell? ⟨b, 0, none⟩ = some u) ∧ (∃ u, w.cell? ⟨b, 1, none⟩ = some u) ∧ (∃ u, w.cell? ⟨b, 2, none⟩ = some u) ∧ (∃ u, w.cell? ⟨b, 3, none⟩ = some u) ∧ (∃ u, w.cell? ⟨b, 4, none⟩ = some u) :=
  ⟨h.any 0 (by decide), h.any 1 (by decide), h.any 2 (by decide), h.any 3 (by decide), h.any 4 (by decide)⟩
theorem arr_tailP {w : World} {g off m cap : Nat} {e : List Value} {es : List (List Value)} (h : Arr w 1 (some ⟨g, off, none⟩) (m + 1) cap (e :: es)) : Arr w 1 (some ⟨g, off + 1, none⟩) m (cap - 1) es := by
  have hl := h.len
  simp only [List.length_cons] at hl
  have hf := h.fits
  have hm := h.max
  refine ⟨fun x hx => h.elems x (List.mem_cons_of_mem _ hx), by omega, by omega, by omega, fun h0 => ?_⟩
  obtain ⟨g', off', e', hg, hc⟩ := h.lies (Nat.succ_pos m)
  cases e'
  refine ⟨g, off + 1, rfl, hg, fun i x hx j u hu => ?_⟩
  rw [← hc (i + 1) x (by simpa using hx) j u hu]
  congr 2
  omega
theorem Mid.tell_end {a : AV} {hs hs2 : List HI} {gs gs2 : List EI} {last : Option CellA} {F : Nat → Prop} {w W w7 w8 : World} {v6 : Value} {rb : Nat} (h : Mid a hs gs last F w W rb v6 hs2 gs2 w7) (hrb : ¬ F rb) (hz : rb < W.heap.size) (hw : w.heap.size ≤ rb) (hB : Below w7.heap.size w7 w8) (x : CellA) :
    Beg a v6 hs2 gs2 (some x) (fun k => (F k ∨ W.heap.size ≤ k) ∧ k < w7.heap.size) (putC ((putC w8 a.b4 x).setCell ⟨a.b3, 0, none⟩ (.bool true)) rb x) ∧
    Kept F w (putC ((putC w8 a.b4 x).setCell ⟨a.b3, 0, none⟩ (.bool true)) rb x) := by
  obtain ⟨h0, hK⟩ := h.res_end hrb hz hw hB x
  have hb := h.beg
  have hne : ∀ k, ((F k ∨ W.heap.size ≤ k) ∧ k < w7.heap.size) → k ≠ rb := fun k hk => by
    rcases hk.1 with h1 | h1
    · exact fun e => hrb (e ▸ h1)
    · omega
  have i3 : a.Is a.b3 := .inr (.inr (.inr (.inl rfl)))
  have i4 : a.Is a.b4 := .inr (.inr (.inr (.inr rfl)))
  obtain ⟨Y, hY⟩ : ∃ Y : World, Y = putC ((putC w8 a.b4 x).setCell ⟨a.b3, 0, none⟩ (.bool true)) rb x := ⟨_, rfl⟩
  have hYh : ∀ k, k ≠ rb → k ≠ a.b3 → k ≠ a.b4 → Y.heap[k]? = w8.heap[k]? := fun k h1 h2 h3 => by
    rw [hY, putC_heap _ _ _ _ h1, Below.heap_setCell _ _ _ _ h2, putC_heap _ _ _ _ h3]
  have hY4 : Y.heap[a.b4]? = (putC w8 a.b4 x).heap[a.b4]? := by
    rw [hY, putC_heap _ _ _ _ (hne _ (hb.vF _ i4)), Below.heap_setCell _ _ _ _ (fun e => hb.ok.n34 (show a.b4 = a.b3 from e).symm)]
  have hYf : ∀ p, Y.frozen? p = w8.frozen? p := fun p => by rw [hY, putC_frozen, World.frozen?_setCell, putC_frozen]
  have hYs : Y.heap.size = w8.heap.size := by rw [hY, putC_size, World.size_setCell, putC_size]
  have hs8 := hB.size
  have b8 : Beg a v6 hs2 gs2 last (fun k => (F k ∨ W.heap.size ≤ k) ∧ k < w7.heap.size) w8 := hb.keep hs8 (fun k hk => hB.block k hk.2)
  have cv : ∀ k o, a.Is k → k ≠ a.b3 → k ≠ a.b4 → Y.cell? ⟨k, o, none⟩ = w8.cell? ⟨k, o, none⟩ := fun k o hk h1 h2 => World.cell?_of_block (a := ⟨k, o, none⟩) (hYh k (hne k (hb.vF k hk)) h1 h2)
  have nv : ∀ k, ¬ a.Is k → k ≠ a.b3 ∧ k ≠ a.b4 := fun k hk => ⟨fun e => hk (by rw [e]; exact i3), fun e => hk (by rw [e]; exact i4)⟩
  have hLast : LastAt w8 a.b4 last := b8.c4
  have hca : CellAt Y a.b4 0 x := (putC_at hLast.any x).same hY4
  rw [← hY]
  refine ⟨⟨hb.ok, (cv _ 0 (.inl rfl) hb.ok.n03 hb.ok.n04).trans b8.c0, (cv _ 0 (.inr (.inr (.inl rfl))) hb.ok.n23 hb.ok.n24).trans b8.c2, ?_, ⟨fun y hy => by cases hy; exact hca, fun o ho => ?_⟩, fun k o hk => (hYf _).trans (b8.f k o hk), ?_, ?_, hb.nd, hb.vF, hb.gF, hb.hF, (fun k hk => by rw [hYs]; omega), (fun e he => e.ok.keep (b8.ends e he) (by omega) (fun k hk => hYh k (hne k (hb.eF e he k hk).1) (nv k (hb.eF e he k hk).2.1).1 (nv k (hb.eF e he k hk).2.1).2)), hb.eF⟩, ?_⟩
  · have e : (putC ((putC w8 a.b4 x).setCell ⟨a.b3, 0, none⟩ (.bool true)) rb x).cell? ⟨a.b3, 0, none⟩ = ((putC w8 a.b4 x).setCell ⟨a.b3, 0, none⟩ (.bool true)).cell? ⟨a.b3, 0, none⟩ := World.cell?_of_block (a := ⟨a.b3, 0, none⟩) (putC_heap _ _ _ _ (hne _ (hb.vF _ i3)))
    rw [hY, e]
    exact World.cell?_setCell_same _ _ _ ((World.cell?_of_block (a := ⟨a.b3, 0, none⟩) (putC_heap _ _ _ _ hb.ok.n34)).trans b8.c3)
  · match o, ho with
    | 0, _ => exact ⟨_, hca.c0⟩
    | 1, _ => exact ⟨_, hca.c1⟩
    | 2, _ => exact ⟨_, hca.c2⟩
    | 3, _ => exact ⟨_, hca.c3⟩
    | 4, _ => exact ⟨_, hca.c4⟩
  · exact Row.of_heap b8.row (fun k hk => hYh k (hne k (hb.gF k hk).1) (nv k (hb.gF k hk).2.1).1 (nv k (hb.gF k hk).2.1).2)
  · exact b8.heads.keep (by omega) (fun i y hy k hk => hYh k (hne k (hb.hF i y hy k hk).1) (nv k (hb.hF i y hy k hk).2).1 (nv k (hb.hF i y hy k hk).2).2)
  · rw [hY]
    have h1 : Kept F w w8 := h.kept.trans (F' := fun _ => False) (Kept.of_below hB) (fun _ h => h.elim)
    have f3 : F a.b3 ∨ w.heap.size ≤ a.b3 := by rcases (hb.vF _ i3).1 with e | e; exact .inl e; exact .inr (by omega)
    have f4 : F a.b4 ∨ w.heap.size ≤ a.b4 := by rcases (hb.vF _ i4).1 with e | e; exact .inl e; exact .inr (by omega)
    exact ((h1.putC f4 x).setCell (p := ⟨a.b3, 0, none⟩) f3 _).putC (.inr hw) x

end Go.Proofs.Ytehbikofoidjhaa.Lz
