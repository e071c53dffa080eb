/-
  Rows of cells as functions: the walk of merge.List.
-/
import Derived.Test.YtehbikofoidjhaaRowsW
import Derived.Test.YtehbikofoidjhaaAppendAt
namespace Go.Proofs.Ytehbikofoidjhaa
open Go.RowKit

theorem cells_one (w : World) (T : TypeId) (c : CellA) (g : Nat) (hg : w.heap.size = g) : Cells (w.alloc (.cells #[.string c.row, .string c.col, .int .u64 c.ver, .bool c.gone, .string c.val] T)) (some ⟨g, 0, none⟩) 1 1 [c] := by
  subst hg
  refine ⟨cellE_elems _, rfl, Nat.le_refl _, by unfold maxLen; omega, fun _ => ⟨w.heap.size, 0, rfl, by rw [World.size_alloc]; omega, fun i e he j u hu => ?_⟩⟩
  have hi : i = 0 := by
    have := (List.getElem?_eq_some_iff.1 he).1
    simp at this; exact this
  subst hi
  simp only [List.map_cons, List.map_nil, List.getElem?_cons_zero, Option.some.injEq] at he
  subst he
  match j, hu with
  | 0, hu => simp [cellE] at hu; subst hu; simp [World.cell?_alloc_new]
  | 1, hu => simp [cellE] at hu; subst hu; simp [World.cell?_alloc_new]
  | 2, hu => simp [cellE] at hu; subst hu; simp [World.cell?_alloc_new]
  | 3, hu => simp [cellE] at hu; subst hu; simp [World.cell?_alloc_new]
  | 4, hu => simp [cellE] at hu; subst hu; simp [World.cell?_alloc_new]
  | j + 5, hu => simp [cellE] at hu
theorem own_push {w : World} {B : Nat} {v : Value} {l l' : List CellA} {x : CellA} (e : l' = l ++ [x]) (h : Row w B 37 5 v (l.length + 1) ((l.map cellE).flatten ++ ([x].map cellE).flatten)) : Own w B v l' := by
  subst e
  unfold Own
  rw [List.length_append, List.map_append, List.flatten_append]
  exact h

theorem func_eq_in (d : Nat) (fn : Fn) (f0 caps : Array Value) (w : World) : (Op.equalIn (d + 1) 25 (.func fn f0 caps) .nilFunc).run Try.prog w = .ok false w := by
  simp [Op.equalIn, run_underlying Try.underlying25]
theorem nil_eq_in (d : Nat) (w : World) : (Op.equalIn (d + 1) 25 .nilFunc .nilFunc).run Try.prog w = .ok true w := by
  simp [Op.equalIn, run_underlying Try.underlying25]
theorem func_eq_nil (fn : Fn) (f0 caps : Array Value) (w : World) : (Op.equal 25 (.func fn f0 caps) .nilFunc).run Try.prog w = .ok false w := func_eq_in 9999 fn f0 caps w
theorem nil_eq_nil (w : World) : (Op.equal 25 .nilFunc .nilFunc).run Try.prog w = .ok true w := nil_eq_in 9999 w
theorem func_neq (fn : Fn) (f0 caps : Array Value) (w : World) : (binOp .neq 25 (.func fn f0 caps) .nilFunc).run Try.prog w = .ok (.bool true) w := by
  unfold binOp
  simp only [Sem.run_bind, func_eq_nil, Result.andThen_ok, Sem.run_pure, Bool.not_false]
theorem func_eql (fn : Fn) (f0 caps : Array Value) (w : World) : (binOp .eql 25 (.func fn f0 caps) .nilFunc).run Try.prog w = .ok (.bool false) w := by
  unfold binOp
  simp only [Sem.run_bind, func_eq_nil, Result.andThen_ok, Sem.run_pure]
theorem nil_neq (w : World) : (binOp .neq 25 .nilFunc .nilFunc).run Try.prog w = .ok (.bool false) w := by
  unfold binOp
  simp only [Sem.run_bind, nil_eq_nil, Result.andThen_ok, Sem.run_pure, Bool.not_true]
theorem nil_eql (w : World) : (binOp .eql 25 .nilFunc .nilFunc).run Try.prog w = .ok (.bool true) w := by
  unfold binOp
  simp only [Sem.run_bind, nil_eq_nil, Result.andThen_ok, Sem.run_pure]

def sliceN : Value → Nat
  | .slice _ n _ => n
  | _ => 0

/-- The list so far, beside the row's own blocks. -/
structure LRel (St : List CellA → (Nat → Prop) → World → Prop) (F : Nat → Prop) (w : World) (acc rest : List CellA) (v : Value) (wr : World) : Prop where
  own : Own wr w.heap.size v acc
  rest : ∃ F', St rest F' wr ∧ (∀ b, F' b → F b ∨ w.heap.size ≤ b) ∧ ∀ g, v.ownBlock = some g → ¬ F' g
  kept : Kept F w wr
section
variable {f : FuncId} {caps : Array Value} {St : List CellA → (Nat → Prop) → World → Prop} {F : Nat → Prop} {w wr w1 : World} {acc rest : List CellA} {v : Value}
theorem LRel.below (hR : RowOf f caps St) (h : LRel St F w acc rest v wr) (hb : Below wr.heap.size wr w1) : LRel St F w acc rest v w1 := by
  obtain ⟨ho, ⟨F', h1, h2, h3⟩, hk⟩ := h
  exact ⟨Row.below ho hb, ⟨F', hR.keep h1 hb.size (fun b hf => hb.block b (hR.inb h1 b hf)), h2, h3⟩, hk.trans (F' := fun _ => False) (Kept.of_below hb) (fun _ h => h.elim)⟩
theorem LRel.call (ho : Own wr w.heap.size v acc) (hk : Kept F w wr) {F1 F2 : Nat → Prop} (h1 : ∀ b, F1 b → F b ∨ w.heap.size ≤ b) (h3 : ∀ g, v.ownBlock = some g → ¬ F1 g)
    (hS : St rest F2 w1) (h2 : ∀ b, F2 b → F1 b ∨ wr.heap.size ≤ b) (hK : Kept F1 wr w1) : LRel St F w acc rest v w1 := by
  have hs := hk.size
  refine ⟨Row.of_heap ho (fun g hg => hK.block g (Row.lt ho g hg).2 (h3 g hg)), ⟨F2, hS, fun b hb => ?_, fun g hg hf => ?_⟩, hk.trans hK h1⟩
  · rcases h2 b hb with hb | hb
    · exact h1 b hb
    · exact .inr (by omega)
  · rcases h2 g hf with hb | hb
    · exact h3 g hg hb
    · have := (Row.lt ho g hg).2; omega
theorem LRel.push (hR : RowOf f caps St) (h : LRel St F w acc rest v wr) {x : CellA} {v7 : Value} {w7 : World} {acc' : List CellA} (e : acc' = acc ++ [x])
    (hr : Row w7 w.heap.size 37 5 v7 (acc.length + 1) ((acc.map cellE).flatten ++ ([x].map cellE).flatten)) (hg : wr.grownBy w7 v.ownBlock) (ho : v7.ownBlock = v.ownBlock ∨ v7.ownBlock = some wr.heap.size) : LRel St F w acc' rest v7 w7 := by
  obtain ⟨hw, ⟨F', h1, h2, h3⟩, hk⟩ := h
  have hin := hR.inb h1
  have hlt := Row.lt hw
  refine ⟨own_push e hr, ⟨F', hR.keep h1 hg.size (fun b hf => hg.block b (hin b hf) (fun he => h3 b he.symm hf)), h2, fun g he hf => ?_⟩, ?_⟩
  · rcases ho with ho | ho
    · exact h3 g (ho.symm.trans he) hf
    · rw [ho] at he; cases he
      exact absurd (hin _ hf) (by omega)
  · refine hk.trans (F' := fun k => v.ownBlock = some k) ⟨hg.os, hg.tape, hg.output, hg.size, fun k hl hn => hg.block k hl (fun he => hn he.symm)⟩ (fun i hi => .inr (hlt i hi).1)
end

set_option maxRecDepth 100000 in
set_option maxHeartbeats 4000000 in
theorem list_any (f : FuncId) (caps : Array Value) (St : List CellA → (Nat → Prop) → World → Prop) (hR : RowOf f caps St) (cs : List CellA) (F : Nat → Prop) (w : World) (hS : St cs F w) (most : Int) (m : Nat) (hm : (m : Int) = most ∨ (most ≤ 0 ∧ m = 0)) (hn : cs.length * 64 ≤ 140737488355328) :
    Calls Try.prog 17 #[.func (.func f) #[] caps, .int .i64 most] w fun e w' => ∃ v, e = .returned v ∧ LRel St F w (cs.take m) (cs.drop m) v w' := by
  obtain ⟨i0, hi, hz0, hz1, hz2⟩ := info_parts Try.info_cell
  have Hi := Lib.hid hi
  have HR := Lib.hid hR
  have Hfn := Lib.hid hR.fn
  have hfq := func_neq (.func f) #[] caps
  clear hi hR
  go_enter Try.func17, Try.ntmps17
  go_wp2
  go_loopw [5, 6, 7] (fun v _ _ wr => ∃ (k : Nat) (ao : Option Addr) (cap : Nat), k ≤ m ∧ k ≤ cs.length ∧ v = .slice ao k cap ∧ Hid (LRel St F w (cs.take k) (cs.drop k) v wr)) (fun v _ _ _ => m - sliceN v)
  case atStart => exact ⟨0, none, 0, by omega, by omega, rfl, Lib.hid ⟨Row.nil _ _ _ _, ⟨F, hS, fun b h => .inl h, fun g h => by cases h⟩, Kept.refl _ _⟩⟩
  case round =>
    obtain ⟨k, ao, cap, hk, hkl, rfl, hD⟩ := hrel
    by_cases hlt : k < m
    · have hmm : most = (m : Int) := by rcases hm with h | h <;> omega
      have hd1 : decide ((k : Int) < most) = true := by simp; omega
      clear hmm
      obtain ⟨ho, ⟨F1, hS1, hF1, hv1⟩, hkp⟩ := hD.out
      have Ho := Lib.hid ho
      have Hkp := Lib.hid hkp
      have HF1 := Lib.hid hF1
      have Hv1 := Lib.hid hv1
      have hzr := hkp.size
      cases hl : cs.drop k with
      | nil =>
        rw [hl] at hS1
        have KN := HR.out.next hS1
        simp only [headV, List.tail_nil] at KN
        have KN := Lib.hid KN
        have hlen : cs.length ≤ k := by
          have := congrArg List.length hl
          rw [List.length_drop, List.length_nil] at this; omega
        clear ho hS1 hF1 hv1 hkp
        go_wp2_with (refine wpList_call_row rfl _ rfl (by rfl) Hfn.out ?_; refine KN.out.mono ?_; rintro e w1 ⟨rfl, F2, hS2, hF2, hK2⟩; refine ⟨_, rfl, ?_⟩; have HL := Lib.hid (LRel.call Ho.out Hkp.out HF1.out Hv1.out hS2 hF2 hK2); clear hS2 hF2 hK2)
        have e1 : cs.take m = cs.take k := by rw [List.take_of_length_le (by omega), List.take_of_length_le (by omega)]
        have e2 : cs.drop m = [] := List.drop_of_length_le (by omega)
        go_returns
        refine ⟨_, rfl, ?_⟩
        rw [e1, e2]
        exact LRel.below HR.out HL.out ((Below.refl _ _).alloc (Nat.le_refl _) _)
      | cons c r =>
        rw [hl] at hS1
        have KN := HR.out.next hS1
        simp only [headV, List.tail_cons] at KN
        have KN := Lib.hid KN
        have hklt : k < cs.length := by
          have := congrArg List.length hl
          rw [List.length_drop, List.length_cons] at this; omega
        have hgc : cs[k]? = some c := by
          have := congrArg (fun l => l[0]?) hl
          simpa using this
        have e1 : cs.take (k + 1) = cs.take k ++ [c] := by rw [List.take_add_one, hgc]; rfl
        have e2 : cs.drop (k + 1) = r := by
          have := congrArg (List.drop 1) hl
          rwa [List.drop_drop] at this
        have E1 := Lib.hid e1
        have E2 := Lib.hid e2
        have htk : (cs.take k).length = k := by rw [List.length_take]; omega
        have Htk := Lib.hid htk
        clear ho hS1 hF1 hv1 hkp hl hgc e1 e2 htk
        go_wp2_with (first
          | (refine wpList_call_row rfl _ rfl (by rfl) Hfn.out ?_; refine KN.out.mono ?_; rintro e w1 ⟨rfl, F2, hS2, hF2, hK2⟩; refine ⟨_, rfl, ?_⟩; have HL := Lib.hid (LRel.call Ho.out Hkp.out HF1.out Hv1.out hS2 hF2 hK2); have hz1x := hK2.size; clear hS2 hF2 hK2)
          | (at_builtin; refine wpList_append_at _ rfl _ _ 29 rfl w.heap.size 37 i0 _ 5 64 Try.underlying29 Hi.out hz0 hz1 hz2 rfl (by decide) (.slice ao k cap) _ _ rfl (Row.alloc (Row.alloc HL.out.own _) _) rfl (cells_one _ _ c _ (by rw [World.size_alloc])) (by rw [Htk.out]; omega) (by rw [Htk.out]; unfold maxLen; omega) (by go_size) ?_; intro v7 w7 hr7 hg7 ho7; have HP := LRel.push HR.out (LRel.below HR.out HL.out (((Below.refl w1.heap.size w1).alloc (Nat.le_refl _) _).alloc (by rw [World.size_alloc]; exact Nat.le_succ _) _)) E1.out hr7 hg7 (by rw [World.size_alloc] at ho7 ⊢; exact ho7); obtain ⟨ao7, cap7, rfl, _⟩ := Own.cells HP.own; rw [E1.out, List.length_append, Htk.out, List.length_singleton] at HP ⊢; have HP7 := Lib.hid HP; clear HP hr7 hg7 ho7))
        exact ⟨⟨k + 1, ao7, cap7, by omega, by omega, rfl, Lib.hid (by rw [E1.out, E2.out]; exact HP7.out)⟩, by simp only [sliceN]; omega⟩
    · obtain rfl : k = m := by omega
      have hd1 : decide ((k : Int) < most) = false := by simp; omega
      go_wp2
      go_returns
      exact ⟨_, rfl, hD.out⟩
end Go.Proofs.Ytehbikofoidjhaa
