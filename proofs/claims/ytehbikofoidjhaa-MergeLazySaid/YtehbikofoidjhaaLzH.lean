/-
  Heads of rows that say when they came to their end: the walk of advance.
-/
import Derived.Test.YtehbikofoidjhaaAllCW
namespace Go.Proofs.Ytehbikofoidjhaa.Lz
open Go.RowKit

/-- what is left of a row behind a call: none: it has told its end -/
def restO : List CellA → Option (List CellA)
  | [] => none
  | _ :: r => some r
/-- A row that is asked no more once it told its end. -/
structure RowE (f : FuncId) (caps : Array Value) (St : Option (List CellA) → (Nat → Prop) → World → Prop) : Prop where
  fn : ∃ fn c, Try.prog.funcs[f]? = some fn ∧ (fn.name == "runtime.NumGoroutine") = false ∧ fn.body = some c
  keep : ∀ {o F} {w w' : World}, St o F w → w.heap.size ≤ w'.heap.size → (∀ b, F b → w'.heap[b]? = w.heap[b]?) → St o F w'
  inb : ∀ {o F} {w : World}, St o F w → ∀ b, F b → b < w.heap.size
  next : ∀ {cs F} {w : World}, St (some cs) F w → Calls Try.prog f caps w fun e w' => e = .returned (headV cs) ∧ ∃ F', St (restO cs) F' w' ∧ (∀ b, F' b → F b ∨ w.heap.size ≤ b) ∧ Kept F w w'
/-- while advance looks: the row has l yet to tell -/
structure AdvS (f : FuncId) (caps : Array Value) (St : Option (List CellA) → (Nat → Prop) → World → Prop) (qb : Nat) (x : CellA) (F : Nat → Prop) (w wr : World) (l : Option (List CellA)) (F1 : Nat → Prop) : Prop where
  st : St l F1 wr
  sub : ∀ b, F1 b → F b ∨ w.heap.size ≤ b
  head : HeadAt wr qb x f caps false
  kept : Kept F w wr
  out : ¬ F1 qb
def AdvN (f : FuncId) (caps : Array Value) (St : Option (List CellA) → (Nat → Prop) → World → Prop) (qb : Nat) (x : CellA) (rest : List CellA) (F : Nat → Prop) (w wr : World) (n : Nat) : Prop :=
  ∃ l F1, l.length = n ∧ dropUp x l = dropUp x rest ∧ AdvS f caps St qb x F w wr (some l) F1
/-- what advance leaves -/
structure AdvPost (f : FuncId) (caps : Array Value) (St : Option (List CellA) → (Nat → Prop) → World → Prop) (qb : Nat) (x : CellA) (rest : List CellA) (F : Nat → Prop) (w w' : World) : Prop where
  st : ∃ F', St (restO (dropUp x rest)) F' w' ∧ ∀ b, F' b → F b ∨ w.heap.size ≤ b
  kept : Kept (fun b => b = qb ∨ F b) w w'
  none : dropUp x rest = [] → HeadAt w' qb x f caps true
  some : ∀ c r, dropUp x rest = c :: r → HeadAt w' qb c f caps false

section
variable {f : FuncId} {caps : Array Value} {St : Option (List CellA) → (Nat → Prop) → World → Prop} {qb : Nat} {x : CellA} {F F1 F2 : Nat → Prop} {w wr w1 : World} {l l' : Option (List CellA)} {rest : List CellA}
theorem AdvS.call (h : AdvS f caps St qb x F w wr l F1) (hS : St l' F2 w1) (h2 : ∀ b, F2 b → F1 b ∨ wr.heap.size ≤ b) (hK : Kept F1 wr w1) : AdvS f caps St qb x F w w1 l' F2 := by
  have hl := h.head.lt
  have hs := h.kept.size
  refine ⟨hS, fun b hf => ?_, h.head.same (hK.block qb hl h.out), h.kept.trans hK h.sub, fun hf => ?_⟩
  · rcases h2 b hf with h3 | h3
    · exact h.sub b h3
    · exact .inr (by omega)
  · rcases h2 qb hf with h3 | h3
    · exact h.out h3
    · omega
theorem AdvS.below (hR : RowE f caps St) (h : AdvS f caps St qb x F w wr l F1) (hB : Below wr.heap.size wr w1) : AdvS f caps St qb x F w w1 l F1 :=
  ⟨hR.keep h.st hB.size (fun b hf => hB.block b (hR.inb h.st b hf)), h.sub, h.head.same (hB.block qb h.head.lt), h.kept.trans (F' := fun _ => False) (Kept.of_below hB) (fun _ h => h.elim), h.out⟩
/-- stores into the head's own block -/
theorem AdvS.kept_hb (h : AdvS f caps St qb x F w wr l F1) : Kept (fun b => b = qb ∨ F b) w wr :=
  ⟨h.kept.os, h.kept.tape, h.kept.output, h.kept.size, fun k hk hn => h.kept.block k hk (fun hf => hn (.inr hf))⟩
theorem st_setCell (hR : RowE f caps St) (hS : St l F1 wr) (hn : ¬ F1 qb) (o : Nat) (u : Value) : St l F1 (wr.setCell ⟨qb, o, none⟩ u) :=
  hR.keep hS (by rw [World.size_setCell]; exact Nat.le_refl _) (fun b hf => Below.heap_setCell _ _ _ _ (fun e => hn (by have e2 : b = qb := e; subst e2; exact hf)))
theorem AdvS.done (hR : RowE f caps St) (h : AdvS f caps St qb x F w wr none F1) (hd : dropUp x rest = []) (o : Obj) : AdvPost f caps St qb x rest F w ((wr.setCell ⟨qb, 6, none⟩ (.bool true)).alloc o) := by
  have hB : ∀ W : World, Below W.heap.size W (W.alloc o) := fun W => (Below.refl _ _).alloc (Nat.le_refl _) o
  have hS := st_setCell hR h.st h.out 6 (.bool true)
  refine ⟨⟨F1, ?_, h.sub⟩, ?_, fun _ => ?_, fun c r e => by rw [hd] at e; cases e⟩
  · rw [hd]
    exact hR.keep hS (hB _).size (fun b hf => (hB _).block b (hR.inb hS b hf))
  · exact (h.kept_hb.setCell (p := ⟨qb, 6, none⟩) (.inl (.inl rfl)) _).alloc _
  · have hl := h.head.lt
    obtain ⟨c0, c1, c2, c3, c4, c5, c6, hf⟩ := h.head
    have h1 : HeadAt (wr.setCell ⟨qb, 6, none⟩ (.bool true)) qb x f caps true := by
      have k : ∀ o, o ≠ 6 → (wr.setCell ⟨qb, 6, none⟩ (.bool true)).cell? ⟨qb, o, none⟩ = wr.cell? ⟨qb, o, none⟩ := fun o ho => World.cell?_setCell_other _ _ _ _ (fun e => ho (by cases e; rfl))
      exact ⟨(k _ (by decide)).trans c0, (k _ (by decide)).trans c1, (k _ (by decide)).trans c2, (k _ (by decide)).trans c3, (k _ (by decide)).trans c4, (k _ (by decide)).trans c5, World.cell?_setCell_same _ _ _ c6, fun o => by rw [World.frozen?_setCell]; exact hf o⟩
    exact h1.same ((hB _).block qb (by rw [World.size_setCell]; exact hl))
def putC (w : World) (b : Nat) (c : CellA) : World :=
  ((((w.setCell ⟨b, 0, none⟩ (.string c.row)).setCell ⟨b, 1, none⟩ (.string c.col)).setCell ⟨b, 2, none⟩ (.int .u64 c.ver)).setCell ⟨b, 3, none⟩ (.bool c.gone)).setCell ⟨b, 4, none⟩ (.string c.val)
theorem AdvS.found (hR : RowE f caps St) {c : CellA} {q : List CellA} (h : AdvS f caps St qb x F w wr (some q) F1) (hd : dropUp x rest = c :: q) : AdvPost f caps St qb x rest F w (putC wr qb c) := by
  have hS := st_setCell hR (st_setCell hR (st_setCell hR (st_setCell hR (st_setCell hR h.st h.out 0 (.string c.row)) h.out 1 (.string c.col)) h.out 2 (.int .u64 c.ver)) h.out 3 (.bool c.gone)) h.out 4 (.string c.val)
  refine ⟨⟨F1, by rw [hd]; exact hS, h.sub⟩, ?_, (fun e => by rw [hd] at e; cases e), fun c' r' e => ?_⟩
  · exact ((((h.kept_hb.setCell (p := ⟨qb, 0, none⟩) (.inl (.inl rfl)) _).setCell (p := ⟨qb, 1, none⟩) (.inl (.inl rfl)) _).setCell (p := ⟨qb, 2, none⟩) (.inl (.inl rfl)) _).setCell (p := ⟨qb, 3, none⟩) (.inl (.inl rfl)) _).setCell (p := ⟨qb, 4, none⟩) (.inl (.inl rfl)) _
  · rw [hd] at e
    cases e
    obtain ⟨c0, c1, c2, c3, c4, c5, c6, hf⟩ := h.head
    have ne : ∀ (i j : Nat), i ≠ j → (⟨qb, i, none⟩ : Addr) ≠ ⟨qb, j, none⟩ := fun i j hij e => hij (by cases e; rfl)
    unfold putC
    refine ⟨?_, ?_, ?_, ?_, ?_, ?_, ?_, fun o => by simp only [World.frozen?_setCell]; exact hf o⟩
    · rw [World.cell?_setCell_other _ _ _ _ (ne _ _ (by decide)), World.cell?_setCell_other _ _ _ _ (ne _ _ (by decide)), World.cell?_setCell_other _ _ _ _ (ne _ _ (by decide)), World.cell?_setCell_other _ _ _ _ (ne _ _ (by decide))]
      exact World.cell?_setCell_same _ _ _ c0
    · rw [World.cell?_setCell_other _ _ _ _ (ne _ _ (by decide)), World.cell?_setCell_other _ _ _ _ (ne _ _ (by decide)), World.cell?_setCell_other _ _ _ _ (ne _ _ (by decide))]
      exact World.cell?_setCell_same _ _ _ ((World.cell?_setCell_other _ _ _ _ (ne _ _ (by decide))).trans c1)
    · rw [World.cell?_setCell_other _ _ _ _ (ne _ _ (by decide)), World.cell?_setCell_other _ _ _ _ (ne _ _ (by decide))]
      exact World.cell?_setCell_same _ _ _ ((World.cell?_setCell_other _ _ _ _ (ne _ _ (by decide))).trans ((World.cell?_setCell_other _ _ _ _ (ne _ _ (by decide))).trans c2))
    · rw [World.cell?_setCell_other _ _ _ _ (ne _ _ (by decide))]
      exact World.cell?_setCell_same _ _ _ ((World.cell?_setCell_other _ _ _ _ (ne _ _ (by decide))).trans ((World.cell?_setCell_other _ _ _ _ (ne _ _ (by decide))).trans ((World.cell?_setCell_other _ _ _ _ (ne _ _ (by decide))).trans c3)))
    · exact World.cell?_setCell_same _ _ _ ((World.cell?_setCell_other _ _ _ _ (ne _ _ (by decide))).trans ((World.cell?_setCell_other _ _ _ _ (ne _ _ (by decide))).trans ((World.cell?_setCell_other _ _ _ _ (ne _ _ (by decide))).trans ((World.cell?_setCell_other _ _ _ _ (ne _ _ (by decide))).trans c4))))
    · exact (World.cell?_setCell_other _ _ _ _ (ne _ _ (by decide))).trans ((World.cell?_setCell_other _ _ _ _ (ne _ _ (by decide))).trans ((World.cell?_setCell_other _ _ _ _ (ne _ _ (by decide))).trans ((World.cell?_setCell_other _ _ _ _ (ne _ _ (by decide))).trans ((World.cell?_setCell_other _ _ _ _ (ne _ _ (by decide))).trans (c5)))))
    · exact (World.cell?_setCell_other _ _ _ _ (ne _ _ (by decide))).trans ((World.cell?_setCell_other _ _ _ _ (ne _ _ (by decide))).trans ((World.cell?_setCell_other _ _ _ _ (ne _ _ (by decide))).trans ((World.cell?_setCell_other _ _ _ _ (ne _ _ (by decide))).trans ((World.cell?_setCell_other _ _ _ _ (ne _ _ (by decide))).trans (c6)))))
end

set_option maxRecDepth 100000 in
set_option maxHeartbeats 4000000 in
theorem advance_any (f : FuncId) (caps : Array Value) (St : Option (List CellA) → (Nat → Prop) → World → Prop) (hR : RowE f caps St) (qb : Nat) (x : CellA) (rest : List CellA) (F : Nat → Prop) (w : World)
    (hH : HeadAt w qb x f caps false) (hS : St (some rest) F w) (hn : ¬ F qb) :
    Calls Try.prog 33 #[.pointer (some ⟨qb, 0, none⟩)] w fun e w' => e = .returned (.tuple #[]) ∧ AdvPost f caps St qb x rest F w w' := by
  have HR := Lib.hid hR
  have Hfn := Lib.hid hR.fn
  have hhl := hH.lt
  have hcm := Lib.hid fun c W => cmp_any x c W
  simp only [CellA.v] at hcm
  go_enter Try.func33, Try.ntmps33
  go_wp2
  go_loopw [2, 3] (fun _ _ wr => ∃ n, AdvN f caps St qb x rest F w wr n) (fun _ _ wr => leastN (AdvN f caps St qb x rest F w wr))
  case atStart => exact ⟨rest.length, rest, F, rfl, rfl, hS, fun b h => .inl h, hH, Kept.refl _ _, hn⟩
  case round =>
    have hL := leastN_spec hrel
    obtain ⟨⟨l, F1, hln, hle, hA⟩, _⟩ := hL
    obtain ⟨n0, hn0⟩ : ∃ n, n = leastN (AdvN f caps St qb x rest F w wr) := ⟨_, rfl⟩
    rw [← hn0] at hln ⊢
    have hn1 := hA.out
    have Hle := Lib.hid hle
    clear hrel hle
    have HA := Lib.hid hA
    have hzr := hA.kept.size
    obtain ⟨h0, h1, h2, h3, h4, h5, h6, hf⟩ := hA.head
    have hlr := hA.head.lt
    cases l with
    | nil =>
      have KN := HR.out.next hA.st
      simp only [headV, restO] at KN
      have KN := Lib.hid KN
      clear hA
      go_wp2_with (refine wpList_call_row rfl _ rfl (by rfl) Hfn.out ?_; refine KN.out.mono ?_; rintro e w1 ⟨rfl, F2, hS2, hF2, hK2⟩; refine ⟨_, rfl, ?_⟩; have HC := Lib.hid (HA.out.call hS2 hF2 hK2); have hz1x := hK2.size; have hbk := hK2.block qb hlr hn1; have kc := fun o => World.cell?_of_block (a := ⟨qb, o, none⟩) hbk; have kf := fun o => World.frozen?_of_block (a := ⟨qb, o, none⟩) hbk; have hl1 : qb < w1.heap.size := (by omega); clear hS2 hF2 hK2 hbk)
      go_returns
      exact ⟨rfl, HC.out.done HR.out (by rw [← Hle.out]; rfl) _⟩
    | cons c r =>
      have KN := HR.out.next hA.st
      simp only [headV, restO] at KN
      have KN := Lib.hid KN
      have hcc := Lib.hid fun W => hcm.out c W
      obtain ⟨k0, hk0⟩ : ∃ k, k = cmpC x c := ⟨_, rfl⟩
      rw [← hk0] at hcc
      have hdu : dropUp x (c :: r) = if k0 < 0 then c :: r else dropUp x r := by rw [dropUp, hk0]
      rw [hdu] at Hle
      clear hA hdu hk0
      by_cases hlt : k0 < 0
      · have hd1 : decide (k0 < 0) = true := by simpa using hlt
        have Hd := Lib.hid (show dropUp x rest = c :: r by rw [← Hle.out, if_pos hlt])
        clear Hle
        go_wp2_with (refine wpList_call_row rfl _ rfl (by rfl) Hfn.out ?_; refine KN.out.mono ?_; rintro e w1 ⟨rfl, F2, hS2, hF2, hK2⟩; refine ⟨_, rfl, ?_⟩; have HC := Lib.hid (HA.out.call hS2 hF2 hK2); have hz1x := hK2.size; have hbk := hK2.block qb hlr hn1; have kc := fun o => World.cell?_of_block (a := ⟨qb, o, none⟩) hbk; have kf := fun o => World.frozen?_of_block (a := ⟨qb, o, none⟩) hbk; have hl1 : qb < w1.heap.size := (by omega); clear hS2 hF2 hK2 hbk)
        refine wp_region_below (by kernel_rfl) (by kernel_rfl) (fun hkept => ?_)
        obtain ⟨r0, rf0⟩ := hkept (qb) (by go_size); obtain ⟨r1, rf1⟩ := hkept (w1.heap.size) (by go_size); clear hkept
        repeat (any_goals (first | go_big_quiet_step (first | (go_at_call 32; exact Calls.regrown_of (hcc.out _))) | quiet_step (first | (go_at_call 32; exact Calls.regrown_of (hcc.out _))) | (refine wpQuiet_step (fun K hK => ?_); go_simp; split <;> (refine hK _ ?_; clear hK K))))
        all_goals (refine wpQuiet_nil ?_; intro w5 hb; obtain ⟨hB, hS, hk⟩ := after (B := w1.heap.size) (w := w1) (by go_grown) (by go_size) hb; obtain ⟨c0, f0, z0⟩ := hk (qb) (by go_size); obtain ⟨c1, f1, z1⟩ := hk (w1.heap.size) (by go_size); clear hk hb r0 rf0 r1 rf1)
        have HC5 := Lib.hid (HC.out.below HR.out hB)
        go_wp2
        go_returns
        exact ⟨rfl, HC5.out.found HR.out Hd.out⟩
      · have hd1 : decide (k0 < 0) = false := by simpa using hlt
        have Hd := Lib.hid (show dropUp x r = dropUp x rest by rw [← Hle.out, if_neg hlt])
        clear Hle
        go_wp2_with (refine wpList_call_row rfl _ rfl (by rfl) Hfn.out ?_; refine KN.out.mono ?_; rintro e w1 ⟨rfl, F2, hS2, hF2, hK2⟩; refine ⟨_, rfl, ?_⟩; have HC := Lib.hid (HA.out.call hS2 hF2 hK2); have hz1x := hK2.size; have hbk := hK2.block qb hlr hn1; have kc := fun o => World.cell?_of_block (a := ⟨qb, o, none⟩) hbk; have kf := fun o => World.frozen?_of_block (a := ⟨qb, o, none⟩) hbk; have hl1 : qb < w1.heap.size := (by omega); clear hS2 hF2 hK2 hbk)
        refine wp_region_below (by kernel_rfl) (by kernel_rfl) (fun hkept => ?_)
        obtain ⟨r0, rf0⟩ := hkept (qb) (by go_size); obtain ⟨r1, rf1⟩ := hkept (w1.heap.size) (by go_size); clear hkept
        repeat (any_goals (first | go_big_quiet_step (first | (go_at_call 32; exact Calls.regrown_of (hcc.out _))) | quiet_step (first | (go_at_call 32; exact Calls.regrown_of (hcc.out _))) | (refine wpQuiet_step (fun K hK => ?_); go_simp; split <;> (refine hK _ ?_; clear hK K))))
        all_goals (refine wpQuiet_nil ?_; intro w5 hb; obtain ⟨hB, hS, hk⟩ := after (B := w1.heap.size) (w := w1) (by go_grown) (by go_size) hb; obtain ⟨c0, f0, z0⟩ := hk (qb) (by go_size); obtain ⟨c1, f1, z1⟩ := hk (w1.heap.size) (by go_size); clear hk hb r0 rf0 r1 rf1)
        have HC5 := Lib.hid (HC.out.below HR.out hB)
        go_wp2
        have hex : AdvN f caps St qb x rest F w w5 r.length := ⟨r, _, rfl, Hd.out, HC5.out⟩
        refine ⟨⟨_, hex⟩, ?_⟩
        have := (leastN_spec ⟨_, hex⟩).2 _ hex
        rw [List.length_cons] at hln
        omega
end Go.Proofs.Ytehbikofoidjhaa.Lz
