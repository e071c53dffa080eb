/-
  The walk of seal.table.
-/
import Derived.Test.YtihglmicgccgiaaSlice
import Derived.Test.YtihglmicgccgiaaQuiet
import Derived.Laws.Closers25b
import Derived.Lib.Hide
import Derived.Deep.MidRow
import Derived.Deep.DeepCutAuto
import Derived.Deep.CutBlock
namespace Go.Proofs.Ytihglmicgccgiaa
open Go.RowKit Go.Sort

theorem wpList_store_one {P : Program} {w : World} {ops : Array Oper} {rest : List Oper} {o : Oper} {a : Act} {Q : Exit → Act → World → Prop} {ty : TypeId} {x y : Operand} (p k : Nat) (u : Value) (hg : o.guard = none) (hop : o.op = .store ty x y)
    (hx : a.eval x = .pointer (some ⟨p, k, none⟩)) (hy : a.eval y = u) (hth : w.there p k 1) (hi : (P.info? ty).map (·.size) = some 1) (h1 : u.oneCell' = true)
    (h : wpList P ops Q rest (a.put o.dst undef) (w.setCell ⟨p, k, none⟩ u)) : wpList P ops Q (o :: rest) a w := by
  refine wpList_plain hg fun K hK => ?_
  have h0 : w.there p k (#[u] : Array Value).size := hth
  have hs := run_storeVar_mid (P := P) w p k ty #[u] h0 hi (by simp [h1])
  have hs2 : (storeVar ty ⟨p, k, none⟩ u).run P w = .ok () (w.setCell ⟨p, k, none⟩ u) := by
    have hc : u.cells = #[u] := by cases u <;> first | rfl | cases h1
    have : storeVar ty ⟨p, k, none⟩ u = storeVar ty ⟨p, k, none⟩ (.agg #[u]) := by
      unfold storeVar
      rw [hc]
      rfl
    rw [this]
    exact hs
  unfold Oper.wp execOp
  simp only [hop, hx, hy, Instr.storeAt, Instr.sureAddr, Sem.run_bind, Sem.run_pure, Result.andThen_ok, hs2]
  exact hK _ _ h

/-- one of eight steps -/
def stepT (x : Int) : Int := if (bits .and .u32 x 1 == 1) = true then bits .xor .u32 (x / 2) 3988292384 else x / 2
def iterT : Nat → Int → Int
  | 0, x => x
  | r + 1, x => stepT (iterT r x)
theorem step_in {x : Int} (h : 0 ≤ x ∧ x ≤ 4294967295) : 0 ≤ stepT x ∧ stepT x ≤ 4294967295 := by
  unfold stepT
  split
  · exact ⟨bits_lo_u32 _ _ _, bits_hi_u32 _ _ _⟩
  · omega
theorem iter_in : ∀ (r : Nat) {x : Int}, 0 ≤ x ∧ x ≤ 4294967295 → 0 ≤ iterT r x ∧ iterT r x ≤ 4294967295
  | 0, _, h => h
  | r + 1, _, h => step_in (iter_in r h)
def tabV (i : Nat) : Int := iterT 8 i
theorem tabV_in (i : Nat) (h : i < 256) : 0 ≤ tabV i ∧ tabV i ≤ 4294967295 := iter_in 8 (by omega)
structure TabI (w : World) (p k : Nat) (V : World) : Prop where
  c : ∃ c : Array Value, V.heap[p]? = some (.cells c 142) ∧ c.size = 256 ∧ ∀ j, j < k → c[j]? = some (.int .u32 (tabV j))
  bel : Below w.heap.size w V
theorem TabI.there {w V : World} {p k : Nat} (h : TabI w p k V) {j : Nat} (hj : j < 256) : V.there p j 1 := fun i hi => by
  obtain ⟨c, h1, h2, _⟩ := h.c
  obtain rfl : i = 0 := by omega
  rw [Nat.add_zero]
  constructor
  · rw [cell_of_row V p j c _ (0, 0) h1]
    simp [h2, hj]
  · simp [World.frozen?, h1]
theorem TabI.set {w V : World} {p k : Nat} (h : TabI w p k V) (hk : k < 256) (hp : w.heap.size ≤ p) : TabI w p (k + 1) (V.setCell ⟨p, k, none⟩ (.int .u32 (tabV k))) := by
  obtain ⟨c, h1, h2, h3⟩ := h.c
  refine ⟨⟨c.setIfInBounds k (.int .u32 (tabV k)), ?_, by simpa using h2, fun j hj => ?_⟩, h.bel.setCell hp _⟩
  · rw [setCell_eq_setRow V p k c _ (0, 0) _ h1]
    exact setRow_heap V p c _ _ (0, 0) h1
  · rw [Array.getElem?_setIfInBounds]
    split
    · rename_i e
      subst e
      rw [if_pos (by omega)]
    · exact h3 j (by omega)
theorem TabI.cell {w V : World} {p : Nat} (h : TabI w p 256 V) {j : Nat} (hj : j < 256) : V.cell? ⟨p, j, none⟩ = some (.int .u32 (tabV j)) := by
  obtain ⟨c, h1, h2, h3⟩ := h.c
  rw [cell_of_row V p j c _ (0, 0) h1]
  exact h3 j hj

set_option maxRecDepth 100000 in
set_option maxHeartbeats 2000000 in
theorem table_any (w : World) : Calls Try.prog 81 #[] w fun e w' => ∃ p : Nat, e = .returned (.pointer (some ⟨p, 0, none⟩)) ∧ TabI w p 256 w' ∧ w.heap.size ≤ p := by
  go_enter Try.func81, Try.ntmps81
  go_upto_region 2 with fail
  obtain ⟨p, hp⟩ : ∃ p, p = w.heap.size := ⟨_, rfl⟩
  obtain ⟨W, hW⟩ : ∃ V : World, V = w.alloc (.cells Try.zeroCells142 142) := ⟨_, rfl⟩
  have hbW : Below w.heap.size w W := by rw [hW]; exact (Below.refl _ _).alloc (Nat.le_refl _) _
  have hWp : W.heap[p]? = some (.cells Try.zeroCells142 142) := by rw [hW, hp]; exact heap_alloc_new _ _
  have H0 : Hid (TabI w p 0 W) := Lib.hid ⟨⟨_, hWp, by kernel_rfl, fun j hj => by omega⟩, hbW⟩
  have hpw : w.heap.size ≤ p := by omega
  rw [← hW, ← hp]
  clear hW hp hbW hWp
  go_wp2
  go_loopw [4] (fun i V => ∃ k : Nat, k ≤ 256 ∧ i = .int .i64 k ∧ Hid (TabI w p k V)) (fun i _ => 256 - (intOf i).toNat)
  case atStart => exact ⟨0, by omega, rfl, H0⟩
  case round =>
    obtain ⟨k, hk, rfl, hT⟩ := hrel
    by_cases hlt : k < 256
    · have hkd : decide ((k : Int) < 256) = true := decide_eq_true (by omega)
      obtain ⟨W1, rfl⟩ : ∃ W : World, W = wr := ⟨_, rfl⟩
      go_wp2
      go_loopw [3, 9] (fun x i V => ∃ (r : Nat) (X : Int), r ≤ 8 ∧ i = .int .i64 r ∧ x = .int .u32 X ∧ Hid (X = iterT r k) ∧ W1 = V) (fun _ i _ => 8 - (intOf i).toNat)
      case atStart => exact ⟨0, _, by omega, rfl, rfl, Lib.hid rfl, rfl⟩
      case round =>
        obtain ⟨r, X, hr, rfl, rfl, hX, rfl⟩ := hrel
        obtain ⟨hX0, hX1⟩ : 0 ≤ X ∧ X ≤ 4294967295 := by rw [hX.out]; exact iter_in r (by omega)
        by_cases hlt2 : r < 8
        · have hrd : decide ((r : Int) < 8) = true := decide_eq_true (by omega)
          by_cases hc : (bits .and .u32 X 1 == 1) = true
          · have HX2 : Hid (bits .xor .u32 (X / 2) 3988292384 = iterT (r + 1) k) := Lib.hid (by rw [iterT, ← hX.out, stepT, if_pos hc])
            go_wp2
            exact ⟨⟨r + 1, _, by omega, by go_num, rfl, HX2, by first | trivial | rfl⟩, by simp [intOf]; omega⟩
          · have HX2 : Hid (X / 2 = iterT (r + 1) k) := Lib.hid (by rw [iterT, ← hX.out, stepT, if_neg hc])
            have hc2 : (bits .and .u32 X 1 == 1) = false := by simpa using hc
            clear hc
            go_wp2
            exact ⟨⟨r + 1, _, by omega, by go_num, rfl, HX2, by first | trivial | rfl⟩, by simp [intOf]; omega⟩
        · obtain rfl : r = 8 := by omega
          have hX8 : X = tabV k := hX.out
          subst hX8
          have HT1 := Lib.hid (hT.out.there (j := k) hlt)
          have HS := Lib.hid (hT.out.set hlt hpw)
          clear hX
          go_wp2_with (refine wpList_store_one p k (.int .u32 (tabV k)) rfl rfl rfl rfl ?ht (by kernel_rfl) rfl ?_; (case ht => exact HT1.out); simp only [Act.put, List.setIfInBounds_toArray, List.set_cons_succ, List.set_cons_zero])
          exact ⟨⟨k + 1, by omega, by go_num, HS⟩, by simp [intOf]; omega⟩
    · obtain rfl : k = 256 := by omega
      go_wp2
      go_returns
      exact ⟨p, rfl, hT.out, hpw⟩
end Go.Proofs.Ytihglmicgccgiaa
