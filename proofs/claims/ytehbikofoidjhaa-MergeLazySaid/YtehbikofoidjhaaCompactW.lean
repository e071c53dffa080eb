/-
  The walks of slices.CompactFunc with the two tests of package cells; clear on a row.
-/
import Derived.Test.YtehbikofoidjhaaSortW
namespace Go.Proofs.Ytehbikofoidjhaa
open Go.RowKit Go.Sort

theorem Row.takeRow {w : World} {B : Nat} {T : TypeId} {size g n cap k : Nat} {xs : List Value} (h : Row w B T size (.slice (some ⟨g, 0, none⟩) n cap) n xs) (hk : k ≤ n) : Row w B T size (.slice (some ⟨g, 0, none⟩) k cap) k (xs.take (k * size)) := by
  have h0 := h.1
  have hle : k * size ≤ n * size := Nat.mul_le_mul_right _ hk
  refine ⟨by rw [List.length_take]; omega, ?_⟩
  rcases h.2 with ⟨e, _⟩ | ⟨g', cap', cur, fr, h1, h2, h3, h4, h5, h6, h7, h8⟩
  · cases e
  · cases h1
    exact .inr ⟨g, cap, cur, fr, rfl, h2, h3, h4, by omega, h6, h7, by rw [← h8, List.take_take, Nat.min_eq_left hle]⟩

theorem gb_setRow (w : World) (g : Nat) (cs : Array Value) : w.grownBy (w.setRow g cs) (some g) := by
  refine ⟨rfl, rfl, rfl, by simp [World.setRow], fun k _ hne => ?_⟩
  simp only [World.setRow, Array.getElem?_modify]
  rw [if_neg (fun e => hne (by simp [e]))]

/-- clear(s[k:]), s a row of the call's own: what is left is s[:k]. -/
theorem run_clear_row {P : Program} (w : World) (t e : TypeId) (z : Value) (ht : P.underlying t = some (.slice e)) (hv : ∀ w, (zeroValue e).run P w = .ok z w) {size : Nat} (hz : z.cells.size = size) (h1 : ∀ u ∈ z.cells.toList, u.oneCell' = true) (hs : 0 < size)
    {B : Nat} {T : TypeId} {g n cap k : Nat} {xs : List Value} (h : Row w B T size (.slice (some ⟨g, 0, none⟩) n cap) n xs) (hk : k ≤ n) (c : Nat) :
    ∃ w', (∀ ty, (Builtin.clear_ #[t] ty #[.slice (some ⟨g, k * size, none⟩) (n - k) c]).run P w = .ok (.tuple #[]) w') ∧ Row w' B T size (.slice (some ⟨g, 0, none⟩) k cap) k (xs.take (k * size)) ∧ w.grownBy w' (some g) := by
  rcases Nat.eq_zero_or_pos (n - k) with h0 | h0
  · refine ⟨w, fun ty => ?_, h.takeRow hk, World.grownBy.refl w _⟩
    rw [h0]
    simp [Builtin.clear_, run_underlying ht]
  · rcases h.2 with ⟨e', _⟩ | ⟨g', cap', cur, fr, e1, h2, h3, h4, h5, h6, h7, h8⟩
    · cases e'
    · cases e1
      have hzl : (Builtin.zeroCells z.cells (n - k)).toList.length = (n - k) * size := by simp [Builtin.zeroCells, hz]
      have hz1 : ∀ v ∈ (Builtin.zeroCells z.cells (n - k)).toList, v.oneCell' = true := by
        intro v hv'
        simp only [Builtin.zeroCells, Array.toList_map, List.mem_map] at hv'
        obtain ⟨i, _, rfl⟩ := hv'
        have hi : i % z.cells.size < z.cells.size := Nat.mod_lt _ (by omega)
        rw [getElem!_pos z.cells _ hi]
        exact h1 _ (Array.getElem_mem_toList hi)
      have hmul : n * size ≤ cap * size := Nat.mul_le_mul_right _ h5
      have hadd : k * size + (n - k) * size = n * size := by rw [← Nat.add_mul]; congr 1; omega
      have hst := run_storeCells_row (P := P) g T fr (Builtin.zeroCells z.cells (n - k)).toList (k * size) 0 cur w h3 h4 (by rw [hzl]; omega) hz1
      simp only [Nat.add_zero] at hst
      refine ⟨w.setRow g (cur.toList.take (k * size) ++ (Builtin.zeroCells z.cells (n - k)).toList ++ cur.toList.drop (k * size + (Builtin.zeroCells z.cells (n - k)).toList.length)).toArray, fun ty => ?_, ?_, gb_setRow w g _⟩
      · obtain ⟨m, hm⟩ : ∃ m, n - k = m + 1 := ⟨n - k - 1, by omega⟩
        rw [hm] at hst ⊢
        simp [Builtin.clear_, run_underlying ht, hv, hst]
      · have hcur : k * size ≤ cur.toList.length := by simp; omega
        refine ⟨by rw [List.length_take, h.1]; omega, .inr ⟨g, cap, _, fr, rfl, h2, setRow_heap w g cur _ T fr h3, ?_, by omega, h6, ?_, ?_⟩⟩
        · rcases h4 with h4 | h4
          · exact .inl h4
          · refine .inr ?_
            simp only [List.size_toArray, List.length_append, List.length_take, List.length_drop, hzl, Array.length_toList]
            omega
        · simp only [List.size_toArray, List.length_append, List.length_take, List.length_drop, hzl, Array.length_toList]
          omega
        · rw [← h8, List.take_take, Nat.min_eq_left (by omega), List.append_assoc, List.take_left' (by rw [List.length_take]; omega)]

/-! ### The two tests -/
def sameK (a b : CellA) : Bool := decide (cmpC a b = 0)
def samePl (a b : CellA) : Bool := decide (a.row.toList = b.row.toList) && decide (a.col.toList = b.col.toList)

/-- what the test of cells.Sort has captured -/
structure TestAt (w : World) (gv gb gs : Nat) : Prop where
  c0 : w.cell? ⟨gv, 0, none⟩ = some (.func (.func 62) #[] #[.pointer (some ⟨gb, 0, none⟩)])
  l0 : gv < w.heap.size
  ord : OrderAt w gb gs
theorem TestAt.grown {w w' : World} {gv gb gs g : Nat} (h : TestAt w gv gb gs) (hg : w.grownBy w' (some g)) (h0 : gv ≠ g) (h1 : gb ≠ g) (h2 : gs ≠ g) : TestAt w' gv gb gs :=
  ⟨hg.cell h.c0 (fun e => h0 (Option.some.inj e)), by have := hg.size; have := h.l0; omega, h.ord.grown hg h1 h2⟩
theorem TestAt.below {w w' : World} {gv gb gs : Nat} (h : TestAt w gv gb gs) (hb : Below w.heap.size w w') : TestAt w' gv gb gs :=
  ⟨(hb.cell (p := ⟨gv, 0, none⟩) h.l0).trans h.c0, by have := hb.size; have := h.l0; omega, h.ord.below hb⟩

set_option maxHeartbeats 1000000 in
theorem eqS_any (a b : CellA) (gv gb gs : Nat) (w : World) (h : TestAt w gv gb gs) :
    Calls Try.prog 49 #[a.v, b.v, .pointer (some ⟨gv, 0, none⟩)] w fun e w' => e = .returned (.bool (sameK a b)) ∧ Below w.heap.size w w' := by
  obtain ⟨c0, l0, ho⟩ := h
  have hcm := Lib.hid fun W h => order_any a b gb gs W h
  have Ho := Lib.hid ho
  unfold sameK
  generalize cmpC a b = z at *
  clear ho
  obtain ⟨ar, ac, av, ag, al⟩ := a
  obtain ⟨br, bc, bv, bg, bl⟩ := b
  simp only [CellA.v] at hcm ⊢
  go_enter Try.func49, Try.ntmps49
  go_wp2_with (first | (go_at_call 62; refine (hcm.out _ (Ho.out.below (by go_grown))).mono ?_; rintro e w1 ⟨rfl, hb⟩; obtain ⟨hB, hS, hk⟩ := after (B := w.heap.size) (w := w) (by go_grown) (by go_size) hb; clear hb; clear hk))
  go_returns
  exact ⟨ret_bool (by simp [BEq.beq]), by go_grown⟩

set_option maxHeartbeats 400000 in
theorem of_raw (ar ac : ByteArray) (av : Int) (ag : Bool) (al : ByteArray) (w : World) :
    Calls Try.prog 52 #[.agg #[.string ar, .string ac, .int .u64 av, .bool ag, .string al]] w fun e w' => e = .returned (.agg #[.string ar, .string ac]) ∧ Below w.heap.size w w' := by
  go_enter Try.func52, Try.ntmps52
  go_wp2
  go_returns
  exact ⟨rfl, by go_grown⟩

theorem toList_inj {a b : ByteArray} : a.toList = b.toList ↔ a = b := by
  constructor
  · intro h
    rw [Lib.toList_data, Lib.toList_data] at h
    obtain ⟨⟨x⟩⟩ := a
    obtain ⟨⟨y⟩⟩ := b
    simp only at h
    rw [h]
  · intro h; rw [h]

set_option maxHeartbeats 1000000 in
theorem eqN_raw (ar ac : ByteArray) (av : Int) (ag : Bool) (al br bc : ByteArray) (bv : Int) (bg : Bool) (bl : ByteArray) (w : World) :
    Calls Try.prog 51 #[.agg #[.string ar, .string ac, .int .u64 av, .bool ag, .string al], .agg #[.string br, .string bc, .int .u64 bv, .bool bg, .string bl]] w
      fun e w' => e = .returned (.bool (decide (ar.toList = br.toList) && decide (ac.toList = bc.toList))) ∧ Below w.heap.size w w' := by
  by_cases e1 : ar = br
  · subst e1
    by_cases e2 : ac = bc
    · subst e2
      go_enter Try.func51, Try.ntmps51
      go_wp2
      refine wp_region_below (by kernel_rfl) (by kernel_rfl) (fun hkept => ?_)
      obtain ⟨r0, rf0⟩ := hkept (w.heap.size) (by go_size); obtain ⟨r1, rf1⟩ := hkept (w.heap.size + 1) (by go_size); clear hkept
      repeat (any_goals (first | go_big_quiet_step (first | (go_at_call 52; exact Calls.regrown_of (of_raw _ _ _ _ _ _))) | quiet_step (first | (go_at_call 52; exact Calls.regrown_of (of_raw _ _ _ _ _ _))) | (refine wpQuiet_step (fun K hK => ?_); go_simp; split <;> (refine hK _ ?_; clear hK K))))
      all_goals (refine wpQuiet_nil ?_; intro w1 hb; obtain ⟨hB, hS, hk⟩ := after (B := w.heap.size) (w := w) (by go_grown) (by go_size) hb; obtain ⟨c0, f0, z0⟩ := hk (w.heap.size) (by go_size); obtain ⟨c1, f1, z1⟩ := hk (w.heap.size + 1) (by go_size); clear hk hb r0 rf0 r1 rf1)
      go_wp2
      go_returns
      exact ⟨ret_bool (by simp), by go_grown⟩
    · have n2 : ¬ ac.toList = bc.toList := fun h => e2 (toList_inj.1 h)
      have n3 : (ac.toList == bc.toList) = false := by simpa using n2
      go_enter Try.func51, Try.ntmps51
      go_wp2
      refine wp_region_below (by kernel_rfl) (by kernel_rfl) (fun hkept => ?_)
      obtain ⟨r0, rf0⟩ := hkept (w.heap.size) (by go_size); obtain ⟨r1, rf1⟩ := hkept (w.heap.size + 1) (by go_size); clear hkept
      repeat (any_goals (first | go_big_quiet_step (first | (go_at_call 52; exact Calls.regrown_of (of_raw _ _ _ _ _ _))) | quiet_step (first | (go_at_call 52; exact Calls.regrown_of (of_raw _ _ _ _ _ _))) | (refine wpQuiet_step (fun K hK => ?_); go_simp; split <;> (refine hK _ ?_; clear hK K))))
      all_goals (refine wpQuiet_nil ?_; intro w1 hb; obtain ⟨hB, hS, hk⟩ := after (B := w.heap.size) (w := w) (by go_grown) (by go_size) hb; obtain ⟨c0, f0, z0⟩ := hk (w.heap.size) (by go_size); obtain ⟨c1, f1, z1⟩ := hk (w.heap.size + 1) (by go_size); clear hk hb r0 rf0 r1 rf1)
      go_wp2
      go_returns
      exact ⟨ret_bool (by simp [n2]), by go_grown⟩
  · have n2 : ¬ ar.toList = br.toList := fun h => e1 (toList_inj.1 h)
    have n3 : (ar.toList == br.toList) = false := by simpa using n2
    go_enter Try.func51, Try.ntmps51
    go_wp2
    refine wp_region_below (by kernel_rfl) (by kernel_rfl) (fun hkept => ?_)
    obtain ⟨r0, rf0⟩ := hkept (w.heap.size) (by go_size); obtain ⟨r1, rf1⟩ := hkept (w.heap.size + 1) (by go_size); clear hkept
    repeat (any_goals (first | go_big_quiet_step (first | (go_at_call 52; exact Calls.regrown_of (of_raw _ _ _ _ _ _))) | quiet_step (first | (go_at_call 52; exact Calls.regrown_of (of_raw _ _ _ _ _ _))) | (refine wpQuiet_step (fun K hK => ?_); go_simp; split <;> (refine hK _ ?_; clear hK K))))
    all_goals (refine wpQuiet_nil ?_; intro w1 hb; obtain ⟨hB, hS, hk⟩ := after (B := w.heap.size) (w := w) (by go_grown) (by go_size) hb; obtain ⟨c0, f0, z0⟩ := hk (w.heap.size) (by go_size); obtain ⟨c1, f1, z1⟩ := hk (w.heap.size + 1) (by go_size); clear hk hb r0 rf0 r1 rf1)
    go_wp2
    go_returns
    exact ⟨ret_bool (by simp [n2]), by go_grown⟩
theorem eqN_any (a b : CellA) (w : World) :
    Calls Try.prog 51 #[a.v, b.v] w fun e w' => e = .returned (.bool (samePl a b)) ∧ Below w.heap.size w w' := eqN_raw _ _ _ _ _ _ _ _ _ _ w

def IS (gv gb gs g : Nat) (w : World) : Prop := TestAt w gv gb gs ∧ gv ≠ g ∧ gb ≠ g ∧ gs ≠ g
theorem IS.grown {w w' : World} {gv gb gs g : Nat} (h : IS gv gb gs g w) (hg : w.grownBy w' (some g)) : IS gv gb gs g w' := ⟨h.1.grown hg h.2.1 h.2.2.1 h.2.2.2, h.2⟩
theorem IS.below {w w' : World} {gv gb gs g : Nat} (h : IS gv gb gs g w) (hb : Below w.heap.size w w') : IS gv gb gs g w' := ⟨h.1.below hb, h.2⟩
def IN (_ : Nat) (_ : World) : Prop := True
theorem IN.grown {w w' : World} {g : Nat} (h : IN g w) (_ : w.grownBy w' (some g)) : IN g w' := h
theorem IN.below {w w' : World} {g : Nat} (h : IN g w) (_ : Below w.heap.size w w') : IN g w' := h
theorem eqS_inv (gv gb gs g : Nat) (a b : CellA) (w : World) (h : IS gv gb gs g w) :
    Calls Try.prog 49 #[a.v, b.v, .pointer (some ⟨gv, 0, none⟩)] w fun e w' => e = .returned (.bool (sameK a b)) ∧ Below w.heap.size w w' := eqS_any a b gv gb gs w h.1
theorem eqN_inv (g : Nat) (a b : CellA) (w : World) (_ : IN g w) :
    Calls Try.prog 51 #[a.v, b.v] w fun e w' => e = .returned (.bool (samePl a b)) ∧ Below w.heap.size w w' := eqN_any a b w
theorem compactL_one {p : CellA → CellA → Bool} : ∀ {l : List CellA}, l.length ≤ 1 → compactL p l = l
  | [], _ => rfl
  | [_], _ => rfl
  | _ :: _ :: _, h => by simp at h
theorem compactL_step {p : CellA → CellA → Bool} {cs : List CellA} {j : Nat} {z x : CellA} (hz : cs[j]? = some z) (hx : cs[j + 1]? = some x) : compactL p (cs.take (j + 1 + 1)) = if p x z then compactL p (cs.take (j + 1)) else compactL p (cs.take (j + 1)) ++ [x] := by
  have e1 : cs.take (j + 1) = cs.take j ++ [z] := by rw [List.take_add_one, hz]; rfl
  have e2 : cs.take (j + 1 + 1) = cs.take j ++ [z] ++ [x] := by rw [List.take_add_one, hx, e1]; rfl
  rw [e2, compactL_snoc, e1]
theorem CellAt.eq {w : World} {b o o' : Nat} {c : CellA} (h : CellAt w b o c) (e : o' = o) : CellAt w b o' c := by subst e; exact h

set_option maxRecDepth 100000 in
set_option maxHeartbeats 4000000 in
theorem compactS_any (cs : List CellA) (g cap n B : Nat) (gv gb gs : Nat) (w : World) (hn : cs.length = n) (hrow : Row w B 37 5 (.slice (some ⟨g, 0, none⟩) n cap) n (cs.map cellE).flatten) (hi : IS gv gb gs g w) (hle : n ≤ 1000000) :
    Calls Try.prog 48 #[.slice (some ⟨g, 0, none⟩) n cap, .func (.func 49) #[] #[.pointer (some ⟨gv, 0, none⟩)]] w
      fun e w' => e = .returned (.slice (some ⟨g, 0, none⟩) (compactL sameK cs).length cap) ∧ Row w' B 37 5 (.slice (some ⟨g, 0, none⟩) (compactL sameK cs).length cap) (compactL sameK cs).length ((compactL sameK cs).map cellE).flatten ∧ w.grownBy w' (some g) := by
  have hncap : n ≤ cap ∧ cap ≤ maxLen := by
    rcases hrow.form with ⟨h, _⟩ | ⟨g', c', h, _, _, q1, q2⟩
    · cases h
    · cases h; exact ⟨q1, q2⟩
  obtain ⟨hc1, hc2⟩ := hncap
  unfold maxLen at hc2
  have Hrow := Lib.hid hrow
  have Hi := Lib.hid hi
  have Hn := Lib.hid hn
  clear hrow hi hn
  by_cases h2 : n < 2
  · have hk := compactL_one (p := sameK) (l := cs) (by rw [Hn.out]; omega)
    rw [hk, Hn.out]
    clear hk
    go_enter Try.func48, Try.ntmps48
    go_wp2
    go_returns
    exact ⟨rfl, Hrow.out, gb_row⟩
  · go_enter Try.func48, Try.ntmps48
    go_wp2
    go_loopw [5, 6, 7] (fun i _ _ wr => ∃ j : Nat, j + 1 ≤ n ∧ i = .int .i64 (j + 1 : Nat) ∧ Hid (Row wr B 37 5 (.slice (some ⟨g, 0, none⟩) n cap) n (cs.map cellE).flatten) ∧ Hid (compactL sameK (cs.take (j + 1)) = cs.take (j + 1)) ∧ Hid (IS gv gb gs g wr) ∧ Hid (w.grownBy wr (some g))) (fun i _ _ _ => n - (intOf i).toNat)
    case atStart => exact ⟨0, by omega, rfl, Hrow, Lib.hid (compactL_one (by rw [List.length_take]; omega)), Hi, Lib.hid gb_row⟩
    case round =>
      obtain ⟨j, hj, rfl, hR, hC, hI, hG⟩ := hrel
      by_cases hlt : j + 1 < n
      · obtain ⟨x, hx⟩ : ∃ x, cs[j + 1]? = some x := ⟨_, List.getElem?_eq_getElem (by rw [Hn.out]; omega)⟩
        obtain ⟨z, hz⟩ : ∃ z, cs[j]? = some z := ⟨_, List.getElem?_eq_getElem (by rw [Hn.out]; omega)⟩
        obtain ⟨x0, x1, x2, x3, x4⟩ := hR.out.cellAt Hn.out hx
        obtain ⟨z0, z1, z2, z3, z4⟩ := hR.out.cellAt Hn.out hz
        have Hst := Lib.hid (compactL_step (p := sameK) hz hx)
        have Hx := Lib.hid hx
        have Hz := Lib.hid hz
        have hgl : g < wr.heap.size := World.block_lt_of_cell? _ _ x0
        clear hx hz
        have heq := Lib.hid fun W h => eqS_inv gv gb gs g x z W h
        cases hb : sameK x z
        · rw [hb] at heq
          have Hb := Lib.hid hb
          clear hb
          go_wp2
          refine wp_region_below (by kernel_rfl) (by kernel_rfl) (fun hkept => ?_)
          obtain ⟨r0, rf0⟩ := hkept (g) (by go_size); clear hkept
          repeat (any_goals (first | go_big_quiet_step (first | (go_at_call 49; exact Calls.regrown_of (heq.out _ (hI.out.below (below_regrown _ _ _))))) | quiet_step (first | (go_at_call 49; exact Calls.regrown_of (heq.out _ (hI.out.below (below_regrown _ _ _))))) | (refine wpQuiet_step (fun K hK => ?_); go_simp; split <;> (refine hK _ ?_; clear hK K))))
          all_goals (refine wpQuiet_nil ?_; intro w5 hb; obtain ⟨hB, hS, hk⟩ := after (B := wr.heap.size) (w := wr) (by go_grown) (by go_size) hb; obtain ⟨c0, f0, z0⟩ := hk (g) (by go_size); clear hk hb r0 rf0)
          go_wp2
          have hnx : compactL sameK (cs.take (j + 1 + 1)) = cs.take (j + 1 + 1) := by rw [Hst.out, Hb.out, hC.out, List.take_add_one (i := j + 1), Hx.out]; rfl
          exact ⟨⟨j + 1, by omega, by go_num, Lib.hid (hR.out.below hB), Lib.hid hnx, Lib.hid (hI.out.below hB), Lib.hid (gb_below hG.out hB)⟩, by simp [intOf]; omega⟩
        · rw [hb] at heq
          have Hb := Lib.hid hb
          clear hb
          go_wp2
          refine wp_region_below (by kernel_rfl) (by kernel_rfl) (fun hkept => ?_)
          obtain ⟨r0, rf0⟩ := hkept (g) (by go_size); clear hkept
          repeat (any_goals (first | go_big_quiet_step (first | (go_at_call 49; exact Calls.regrown_of (heq.out _ (hI.out.below (below_regrown _ _ _))))) | quiet_step (first | (go_at_call 49; exact Calls.regrown_of (heq.out _ (hI.out.below (below_regrown _ _ _))))) | (refine wpQuiet_step (fun K hK => ?_); go_simp; split <;> (refine hK _ ?_; clear hK K))))
          all_goals (refine wpQuiet_nil ?_; intro w5 hb; obtain ⟨hB, hS, hk⟩ := after (B := wr.heap.size) (w := wr) (by go_grown) (by go_size) hb; obtain ⟨c0, f0, z0⟩ := hk (g) (by go_size); clear hk hb r0 rf0)
          go_wp2
          have hR5 := Lib.hid (hR.out.below hB)
          have hI5 := Lib.hid (hI.out.below hB)
          have hG5 := Lib.hid (gb_below hG.out hB)
          have hk0 : Hid (compactL sameK (cs.take (j + 1 + 1)) = cs.take (j + 1)) := Lib.hid (by rw [Hst.out, Hb.out, hC.out]; rfl)
          clear x0 x1 x2 x3 x4 z1 z2 z3 z4 c0 f0 z0 hgl hR hI hG heq hB
          go_loopw [5, 7] (fun kk q wr => ∃ (m p : Nat) (D : List CellA), p + 1 + (j + 1) ≤ n ∧ q = .int .i64 (p + 1 : Nat) ∧ kk = .int .i64 m ∧ m ≤ j + 1 + p ∧ Hid (D.length = n) ∧ Hid (Row wr B 37 5 (.slice (some ⟨g, 0, none⟩) n cap) n (D.map cellE).flatten) ∧
            Hid (D.drop (j + 1 + p) = cs.drop (j + 1 + p)) ∧ Hid (D.take m = compactL sameK (cs.take (j + 1 + p + 1))) ∧ Hid (IS gv gb gs g wr) ∧ Hid (w.grownBy wr (some g))) (fun _ q _ => n - (intOf q).toNat)
          case atStart => exact ⟨j + 1, 0, cs, by omega, rfl, rfl, by omega, Hn, hR5, Lib.hid rfl, Lib.hid hk0.out.symm, hI5, hG5⟩
          case round =>
            obtain ⟨m, p, D, hp, rfl, rfl, hm, hDl, hR, hDd, hDt, hI, hG⟩ := hrel
            by_cases hlt2 : p + 1 + (j + 1) < n
            · obtain ⟨x', hx'⟩ : ∃ x', cs[j + 1 + p + 1]? = some x' := ⟨_, List.getElem?_eq_getElem (by rw [Hn.out]; omega)⟩
              obtain ⟨z', hz'⟩ : ∃ z', cs[j + 1 + p]? = some z' := ⟨_, List.getElem?_eq_getElem (by rw [Hn.out]; omega)⟩
              have hDx : D[j + 1 + p + 1]? = some x' := by
                have := congrArg (fun l => l[1]?) hDd.out
                simpa [List.getElem?_drop, hx'] using this
              have hDz : D[j + 1 + p]? = some z' := by
                have := congrArg (fun l => l[0]?) hDd.out
                simpa [List.getElem?_drop, hz'] using this
              obtain ⟨x0, x1, x2, x3, x4⟩ := (hR.out.cellAt hDl.out hDx).eq (o' := (j + 1) * 5 + (p + 1) * 5) (by omega)
              obtain ⟨z0, z1, z2, z3, z4⟩ := (hR.out.cellAt hDl.out hDz).eq (o' := (j + 1) * 5 + p * 5) (by omega)
              obtain ⟨fy0, fy1, fy2, fy3, fy4⟩ := hR.out.cellFree hDl.out (i := m) (by omega)
              obtain ⟨y', hy'⟩ : ∃ y', D[m]? = some y' := ⟨_, List.getElem?_eq_getElem (by rw [hDl.out]; omega)⟩
              obtain ⟨y0, y1, y2, y3, y4⟩ := hR.out.cellAt hDl.out hy'
              have Hst' := Lib.hid (compactL_step (p := sameK) hz' hx')
              have Hx' := Lib.hid hx'
              have hgl : g < wr.heap.size := World.block_lt_of_cell? _ _ x0
              have heq := Lib.hid fun W h => eqS_inv gv gb gs g x' z' W h
              clear hx' hz' hDx hDz hy'
              cases hb : sameK x' z'
              · rw [hb] at heq
                have Hb' := Lib.hid hb
                clear hb
                go_wp2
                refine wp_region_below (by kernel_rfl) (by kernel_rfl) (fun hkept => ?_)
                obtain ⟨r0, rf0⟩ := hkept (g) (by go_size); clear hkept
                repeat (any_goals (first | go_big_quiet_step (first | (go_at_call 49; exact Calls.regrown_of (heq.out _ (hI.out.below (below_regrown _ _ _))))) | quiet_step (first | (go_at_call 49; exact Calls.regrown_of (heq.out _ (hI.out.below (below_regrown _ _ _))))) | (refine wpQuiet_step (fun K hK => ?_); go_simp; split <;> (refine hK _ ?_; clear hK K))))
                all_goals (refine wpQuiet_nil ?_; intro w6 hb; obtain ⟨hB, hS, hk⟩ := after (B := wr.heap.size) (w := wr) (by go_grown) (by go_size) hb; obtain ⟨c0, f0, z0⟩ := hk (g) (by go_size); clear hk hb r0 rf0)
                go_wp2
                have hR6 := (hR.out.below hB).storeC hDl.out (i := m) (by omega) x'
                have hG6 := gb_setC (gb_below hG.out hB) (o := m * 5) x'
                have hI6 := (hI.out.below hB).grown (gb_setC gb_row (o := m * 5) x')
                have e1 : (D.set m x').drop (j + 1 + (p + 1)) = cs.drop (j + 1 + (p + 1)) := by
                  rw [List.drop_set_of_lt (by omega)]
                  have := congrArg (List.drop 1) hDd.out
                  simpa [List.drop_drop, Nat.add_assoc] using this
                have e2 : (D.set m x').take (m + 1) = compactL sameK (cs.take (j + 1 + (p + 1) + 1)) := by
                  have hml : m < D.length := by rw [hDl.out]; omega
                  rw [show j + 1 + (p + 1) + 1 = j + 1 + p + 1 + 1 by omega, Hst'.out, Hb'.out, ← hDt.out, List.take_add_one, List.getElem?_set_self hml, List.take_set_of_le (Nat.le_refl _)]; rfl
                simp only [setC] at hR6 hG6 hI6
                exact ⟨⟨m + 1, p + 1, D.set m x', by omega, by go_num, by go_num, by omega, Lib.hid (by rw [List.length_set]; exact hDl.out), Lib.hid hR6, Lib.hid e1, Lib.hid e2, Lib.hid hI6, Lib.hid hG6⟩, by simp [intOf]; omega⟩
              · rw [hb] at heq
                have Hb' := Lib.hid hb
                clear hb
                go_wp2
                refine wp_region_below (by kernel_rfl) (by kernel_rfl) (fun hkept => ?_)
                obtain ⟨r0, rf0⟩ := hkept (g) (by go_size); clear hkept
                repeat (any_goals (first | go_big_quiet_step (first | (go_at_call 49; exact Calls.regrown_of (heq.out _ (hI.out.below (below_regrown _ _ _))))) | quiet_step (first | (go_at_call 49; exact Calls.regrown_of (heq.out _ (hI.out.below (below_regrown _ _ _))))) | (refine wpQuiet_step (fun K hK => ?_); go_simp; split <;> (refine hK _ ?_; clear hK K))))
                all_goals (refine wpQuiet_nil ?_; intro w6 hb; obtain ⟨hB, hS, hk⟩ := after (B := wr.heap.size) (w := wr) (by go_grown) (by go_size) hb; obtain ⟨c0, f0, z0⟩ := hk (g) (by go_size); clear hk hb r0 rf0)
                go_wp2
                have e1 : D.drop (j + 1 + (p + 1)) = cs.drop (j + 1 + (p + 1)) := by
                  have := congrArg (List.drop 1) hDd.out
                  simpa [List.drop_drop, Nat.add_assoc] using this
                have e2 : D.take m = compactL sameK (cs.take (j + 1 + (p + 1) + 1)) := by
                  rw [show j + 1 + (p + 1) + 1 = j + 1 + p + 1 + 1 by omega, Hst'.out, Hb'.out, ← hDt.out]; rfl
                exact ⟨⟨m, p + 1, D, by omega, by go_num, rfl, by omega, hDl, Lib.hid (hR.out.below hB), Lib.hid e1, Lib.hid e2, Lib.hid (hI.out.below hB), Lib.hid (gb_below hG.out hB)⟩, by simp [intOf]; omega⟩
            · have hall : cs.take (j + 1 + p + 1) = cs := List.take_of_length_le (by rw [Hn.out]; omega)
              have hml : m ≤ D.length := by rw [hDl.out]; omega
              have hlen : (compactL sameK cs).length = m := by rw [← hall, ← hDt.out, List.length_take]; omega
              obtain ⟨w7, hclr, hR7, hG7⟩ := run_clear_row (P := Try.prog) wr 29 37 (.agg #[.string ⟨#[]⟩, .string ⟨#[]⟩, .int .u64 0, .bool false, .string ⟨#[]⟩]) Try.underlying29 (fun w => by kernel_rfl) (size := 5) rfl (by intro u hu; simp [Value.cells] at hu; rcases hu with rfl | rfl | rfl | rfl | rfl <;> rfl) (by decide) hR.out (k := m) (by omega) (cap - m)
              have Hlen := Lib.hid hlen
              have HR7 : Hid (Row w7 B 37 5 (.slice (some ⟨g, 0, none⟩) m cap) m ((compactL sameK cs).map cellE).flatten) := Lib.hid (by
                have e : (D.map cellE).flatten.take (m * 5) = ((compactL sameK cs).map cellE).flatten := by
                  rw [← hall, ← hDt.out, List.map_take]
                  have h1 := flatten_len (size := 5) (es := (D.map cellE).take m) (fun e he => (cellE_elems D).len e (List.mem_of_mem_take he))
                  rw [List.length_take, List.length_map, Nat.min_eq_left hml] at h1
                  have h2 : (D.map cellE).flatten = ((D.map cellE).take m).flatten ++ ((D.map cellE).drop m).flatten := by rw [← List.flatten_append, List.take_append_drop]
                  rw [h2, List.take_left' h1]
                rw [← e]; exact hR7)
              have HG7 := Lib.hid (gb_trans hG.out hG7)
              clear hall hlen hR7 hG7 hml
              go_wp2
              go_returns
              exact ⟨by rw [Hlen.out]; rfl, by rw [Hlen.out]; exact HR7.out, HG7.out⟩
      · have hall : cs.take (j + 1) = cs := List.take_of_length_le (by rw [Hn.out]; omega)
        have hk : compactL sameK cs = cs := by have := hC.out; rwa [hall] at this
        have Hk := Lib.hid hk
        clear hk hall
        go_wp2
        go_returns
        exact ⟨by rw [Hk.out, Hn.out]; rfl, by rw [Hk.out, Hn.out]; exact hR.out, hG.out⟩

set_option maxRecDepth 100000 in
set_option maxHeartbeats 4000000 in
theorem compactN_any (cs : List CellA) (g cap n B : Nat)  (w : World) (hn : cs.length = n) (hrow : Row w B 37 5 (.slice (some ⟨g, 0, none⟩) n cap) n (cs.map cellE).flatten) (hi : IN g w) (hle : n ≤ 1000000) :
    Calls Try.prog 48 #[.slice (some ⟨g, 0, none⟩) n cap, .func (.func 51) #[] #[]] w
      fun e w' => e = .returned (.slice (some ⟨g, 0, none⟩) (compactL samePl cs).length cap) ∧ Row w' B 37 5 (.slice (some ⟨g, 0, none⟩) (compactL samePl cs).length cap) (compactL samePl cs).length ((compactL samePl cs).map cellE).flatten ∧ w.grownBy w' (some g) := by
  have hncap : n ≤ cap ∧ cap ≤ maxLen := by
    rcases hrow.form with ⟨h, _⟩ | ⟨g', c', h, _, _, q1, q2⟩
    · cases h
    · cases h; exact ⟨q1, q2⟩
  obtain ⟨hc1, hc2⟩ := hncap
  unfold maxLen at hc2
  have Hrow := Lib.hid hrow
  have Hi := Lib.hid hi
  have Hn := Lib.hid hn
  clear hrow hi hn
  by_cases h2 : n < 2
  · have hk := compactL_one (p := samePl) (l := cs) (by rw [Hn.out]; omega)
    rw [hk, Hn.out]
    clear hk
    go_enter Try.func48, Try.ntmps48
    go_wp2
    go_returns
    exact ⟨rfl, Hrow.out, gb_row⟩
  · go_enter Try.func48, Try.ntmps48
    go_wp2
    go_loopw [5, 6, 7] (fun i _ _ wr => ∃ j : Nat, j + 1 ≤ n ∧ i = .int .i64 (j + 1 : Nat) ∧ Hid (Row wr B 37 5 (.slice (some ⟨g, 0, none⟩) n cap) n (cs.map cellE).flatten) ∧ Hid (compactL samePl (cs.take (j + 1)) = cs.take (j + 1)) ∧ Hid (IN g wr) ∧ Hid (w.grownBy wr (some g))) (fun i _ _ _ => n - (intOf i).toNat)
    case atStart => exact ⟨0, by omega, rfl, Hrow, Lib.hid (compactL_one (by rw [List.length_take]; omega)), Hi, Lib.hid gb_row⟩
    case round =>
      obtain ⟨j, hj, rfl, hR, hC, hI, hG⟩ := hrel
      by_cases hlt : j + 1 < n
      · obtain ⟨x, hx⟩ : ∃ x, cs[j + 1]? = some x := ⟨_, List.getElem?_eq_getElem (by rw [Hn.out]; omega)⟩
        obtain ⟨z, hz⟩ : ∃ z, cs[j]? = some z := ⟨_, List.getElem?_eq_getElem (by rw [Hn.out]; omega)⟩
        obtain ⟨x0, x1, x2, x3, x4⟩ := hR.out.cellAt Hn.out hx
        obtain ⟨z0, z1, z2, z3, z4⟩ := hR.out.cellAt Hn.out hz
        have Hst := Lib.hid (compactL_step (p := samePl) hz hx)
        have Hx := Lib.hid hx
        have Hz := Lib.hid hz
        have hgl : g < wr.heap.size := World.block_lt_of_cell? _ _ x0
        clear hx hz
        have heq := Lib.hid fun W h => eqN_inv g x z W h
        cases hb : samePl x z
        · rw [hb] at heq
          have Hb := Lib.hid hb
          clear hb
          go_wp2
          refine wp_region_below (by kernel_rfl) (by kernel_rfl) (fun hkept => ?_)
          obtain ⟨r0, rf0⟩ := hkept (g) (by go_size); clear hkept
          repeat (any_goals (first | go_big_quiet_step (first | (go_at_call 51; exact Calls.regrown_of (heq.out _ (hI.out.below (below_regrown _ _ _))))) | quiet_step (first | (go_at_call 51; exact Calls.regrown_of (heq.out _ (hI.out.below (below_regrown _ _ _))))) | (refine wpQuiet_step (fun K hK => ?_); go_simp; split <;> (refine hK _ ?_; clear hK K))))
          all_goals (refine wpQuiet_nil ?_; intro w5 hb; obtain ⟨hB, hS, hk⟩ := after (B := wr.heap.size) (w := wr) (by go_grown) (by go_size) hb; obtain ⟨c0, f0, z0⟩ := hk (g) (by go_size); clear hk hb r0 rf0)
          go_wp2
          have hnx : compactL samePl (cs.take (j + 1 + 1)) = cs.take (j + 1 + 1) := by rw [Hst.out, Hb.out, hC.out, List.take_add_one (i := j + 1), Hx.out]; rfl
          exact ⟨⟨j + 1, by omega, by go_num, Lib.hid (hR.out.below hB), Lib.hid hnx, Lib.hid (hI.out.below hB), Lib.hid (gb_below hG.out hB)⟩, by simp [intOf]; omega⟩
        · rw [hb] at heq
          have Hb := Lib.hid hb
          clear hb
          go_wp2
          refine wp_region_below (by kernel_rfl) (by kernel_rfl) (fun hkept => ?_)
          obtain ⟨r0, rf0⟩ := hkept (g) (by go_size); clear hkept
          repeat (any_goals (first | go_big_quiet_step (first | (go_at_call 51; exact Calls.regrown_of (heq.out _ (hI.out.below (below_regrown _ _ _))))) | quiet_step (first | (go_at_call 51; exact Calls.regrown_of (heq.out _ (hI.out.below (below_regrown _ _ _))))) | (refine wpQuiet_step (fun K hK => ?_); go_simp; split <;> (refine hK _ ?_; clear hK K))))
          all_goals (refine wpQuiet_nil ?_; intro w5 hb; obtain ⟨hB, hS, hk⟩ := after (B := wr.heap.size) (w := wr) (by go_grown) (by go_size) hb; obtain ⟨c0, f0, z0⟩ := hk (g) (by go_size); clear hk hb r0 rf0)
          go_wp2
          have hR5 := Lib.hid (hR.out.below hB)
          have hI5 := Lib.hid (hI.out.below hB)
          have hG5 := Lib.hid (gb_below hG.out hB)
          have hk0 : Hid (compactL samePl (cs.take (j + 1 + 1)) = cs.take (j + 1)) := Lib.hid (by rw [Hst.out, Hb.out, hC.out]; rfl)
          clear x0 x1 x2 x3 x4 z1 z2 z3 z4 c0 f0 z0 hgl hR hI hG heq hB
          go_loopw [5, 7] (fun kk q wr => ∃ (m p : Nat) (D : List CellA), p + 1 + (j + 1) ≤ n ∧ q = .int .i64 (p + 1 : Nat) ∧ kk = .int .i64 m ∧ m ≤ j + 1 + p ∧ Hid (D.length = n) ∧ Hid (Row wr B 37 5 (.slice (some ⟨g, 0, none⟩) n cap) n (D.map cellE).flatten) ∧
            Hid (D.drop (j + 1 + p) = cs.drop (j + 1 + p)) ∧ Hid (D.take m = compactL samePl (cs.take (j + 1 + p + 1))) ∧ Hid (IN g wr) ∧ Hid (w.grownBy wr (some g))) (fun _ q _ => n - (intOf q).toNat)
          case atStart => exact ⟨j + 1, 0, cs, by omega, rfl, rfl, by omega, Hn, hR5, Lib.hid rfl, Lib.hid hk0.out.symm, hI5, hG5⟩
          case round =>
            obtain ⟨m, p, D, hp, rfl, rfl, hm, hDl, hR, hDd, hDt, hI, hG⟩ := hrel
            by_cases hlt2 : p + 1 + (j + 1) < n
            · obtain ⟨x', hx'⟩ : ∃ x', cs[j + 1 + p + 1]? = some x' := ⟨_, List.getElem?_eq_getElem (by rw [Hn.out]; omega)⟩
              obtain ⟨z', hz'⟩ : ∃ z', cs[j + 1 + p]? = some z' := ⟨_, List.getElem?_eq_getElem (by rw [Hn.out]; omega)⟩
              have hDx : D[j + 1 + p + 1]? = some x' := by
                have := congrArg (fun l => l[1]?) hDd.out
                simpa [List.getElem?_drop, hx'] using this
              have hDz : D[j + 1 + p]? = some z' := by
                have := congrArg (fun l => l[0]?) hDd.out
                simpa [List.getElem?_drop, hz'] using this
              obtain ⟨x0, x1, x2, x3, x4⟩ := (hR.out.cellAt hDl.out hDx).eq (o' := (j + 1) * 5 + (p + 1) * 5) (by omega)
              obtain ⟨z0, z1, z2, z3, z4⟩ := (hR.out.cellAt hDl.out hDz).eq (o' := (j + 1) * 5 + p * 5) (by omega)
              obtain ⟨fy0, fy1, fy2, fy3, fy4⟩ := hR.out.cellFree hDl.out (i := m) (by omega)
              obtain ⟨y', hy'⟩ : ∃ y', D[m]? = some y' := ⟨_, List.getElem?_eq_getElem (by rw [hDl.out]; omega)⟩
              obtain ⟨y0, y1, y2, y3, y4⟩ := hR.out.cellAt hDl.out hy'
              have Hst' := Lib.hid (compactL_step (p := samePl) hz' hx')
              have Hx' := Lib.hid hx'
              have hgl : g < wr.heap.size := World.block_lt_of_cell? _ _ x0
              have heq := Lib.hid fun W h => eqN_inv g x' z' W h
              clear hx' hz' hDx hDz hy'
              cases hb : samePl x' z'
              · rw [hb] at heq
                have Hb' := Lib.hid hb
                clear hb
                go_wp2
                refine wp_region_below (by kernel_rfl) (by kernel_rfl) (fun hkept => ?_)
                obtain ⟨r0, rf0⟩ := hkept (g) (by go_size); clear hkept
                repeat (any_goals (first | go_big_quiet_step (first | (go_at_call 51; exact Calls.regrown_of (heq.out _ (hI.out.below (below_regrown _ _ _))))) | quiet_step (first | (go_at_call 51; exact Calls.regrown_of (heq.out _ (hI.out.below (below_regrown _ _ _))))) | (refine wpQuiet_step (fun K hK => ?_); go_simp; split <;> (refine hK _ ?_; clear hK K))))
                all_goals (refine wpQuiet_nil ?_; intro w6 hb; obtain ⟨hB, hS, hk⟩ := after (B := wr.heap.size) (w := wr) (by go_grown) (by go_size) hb; obtain ⟨c0, f0, z0⟩ := hk (g) (by go_size); clear hk hb r0 rf0)
                go_wp2
                have hR6 := (hR.out.below hB).storeC hDl.out (i := m) (by omega) x'
                have hG6 := gb_setC (gb_below hG.out hB) (o := m * 5) x'
                have hI6 := (hI.out.below hB).grown (gb_setC gb_row (o := m * 5) x')
                have e1 : (D.set m x').drop (j + 1 + (p + 1)) = cs.drop (j + 1 + (p + 1)) := by
                  rw [List.drop_set_of_lt (by omega)]
                  have := congrArg (List.drop 1) hDd.out
                  simpa [List.drop_drop, Nat.add_assoc] using this
                have e2 : (D.set m x').take (m + 1) = compactL samePl (cs.take (j + 1 + (p + 1) + 1)) := by
                  have hml : m < D.length := by rw [hDl.out]; omega
                  rw [show j + 1 + (p + 1) + 1 = j + 1 + p + 1 + 1 by omega, Hst'.out, Hb'.out, ← hDt.out, List.take_add_one, List.getElem?_set_self hml, List.take_set_of_le (Nat.le_refl _)]; rfl
                simp only [setC] at hR6 hG6 hI6
                exact ⟨⟨m + 1, p + 1, D.set m x', by omega, by go_num, by go_num, by omega, Lib.hid (by rw [List.length_set]; exact hDl.out), Lib.hid hR6, Lib.hid e1, Lib.hid e2, Lib.hid hI6, Lib.hid hG6⟩, by simp [intOf]; omega⟩
              · rw [hb] at heq
                have Hb' := Lib.hid hb
                clear hb
                go_wp2
                refine wp_region_below (by kernel_rfl) (by kernel_rfl) (fun hkept => ?_)
                obtain ⟨r0, rf0⟩ := hkept (g) (by go_size); clear hkept
                repeat (any_goals (first | go_big_quiet_step (first | (go_at_call 51; exact Calls.regrown_of (heq.out _ (hI.out.below (below_regrown _ _ _))))) | quiet_step (first | (go_at_call 51; exact Calls.regrown_of (heq.out _ (hI.out.below (below_regrown _ _ _))))) | (refine wpQuiet_step (fun K hK => ?_); go_simp; split <;> (refine hK _ ?_; clear hK K))))
                all_goals (refine wpQuiet_nil ?_; intro w6 hb; obtain ⟨hB, hS, hk⟩ := after (B := wr.heap.size) (w := wr) (by go_grown) (by go_size) hb; obtain ⟨c0, f0, z0⟩ := hk (g) (by go_size); clear hk hb r0 rf0)
                go_wp2
                have e1 : D.drop (j + 1 + (p + 1)) = cs.drop (j + 1 + (p + 1)) := by
                  have := congrArg (List.drop 1) hDd.out
                  simpa [List.drop_drop, Nat.add_assoc] using this
                have e2 : D.take m = compactL samePl (cs.take (j + 1 + (p + 1) + 1)) := by
                  rw [show j + 1 + (p + 1) + 1 = j + 1 + p + 1 + 1 by omega, Hst'.out, Hb'.out, ← hDt.out]; rfl
                exact ⟨⟨m, p + 1, D, by omega, by go_num, rfl, by omega, hDl, Lib.hid (hR.out.below hB), Lib.hid e1, Lib.hid e2, Lib.hid (hI.out.below hB), Lib.hid (gb_below hG.out hB)⟩, by simp [intOf]; omega⟩
            · have hall : cs.take (j + 1 + p + 1) = cs := List.take_of_length_le (by rw [Hn.out]; omega)
              have hml : m ≤ D.length := by rw [hDl.out]; omega
              have hlen : (compactL samePl cs).length = m := by rw [← hall, ← hDt.out, List.length_take]; omega
              obtain ⟨w7, hclr, hR7, hG7⟩ := run_clear_row (P := Try.prog) wr 29 37 (.agg #[.string ⟨#[]⟩, .string ⟨#[]⟩, .int .u64 0, .bool false, .string ⟨#[]⟩]) Try.underlying29 (fun w => by kernel_rfl) (size := 5) rfl (by intro u hu; simp [Value.cells] at hu; rcases hu with rfl | rfl | rfl | rfl | rfl <;> rfl) (by decide) hR.out (k := m) (by omega) (cap - m)
              have Hlen := Lib.hid hlen
              have HR7 : Hid (Row w7 B 37 5 (.slice (some ⟨g, 0, none⟩) m cap) m ((compactL samePl cs).map cellE).flatten) := Lib.hid (by
                have e : (D.map cellE).flatten.take (m * 5) = ((compactL samePl cs).map cellE).flatten := by
                  rw [← hall, ← hDt.out, List.map_take]
                  have h1 := flatten_len (size := 5) (es := (D.map cellE).take m) (fun e he => (cellE_elems D).len e (List.mem_of_mem_take he))
                  rw [List.length_take, List.length_map, Nat.min_eq_left hml] at h1
                  have h2 : (D.map cellE).flatten = ((D.map cellE).take m).flatten ++ ((D.map cellE).drop m).flatten := by rw [← List.flatten_append, List.take_append_drop]
                  rw [h2, List.take_left' h1]
                rw [← e]; exact hR7)
              have HG7 := Lib.hid (gb_trans hG.out hG7)
              clear hall hlen hR7 hG7 hml
              go_wp2
              go_returns
              exact ⟨by rw [Hlen.out]; rfl, by rw [Hlen.out]; exact HR7.out, HG7.out⟩
      · have hall : cs.take (j + 1) = cs := List.take_of_length_le (by rw [Hn.out]; omega)
        have hk : compactL samePl cs = cs := by have := hC.out; rwa [hall] at this
        have Hk := Lib.hid hk
        clear hk hall
        go_wp2
        go_returns
        exact ⟨by rw [Hk.out, Hn.out]; rfl, by rw [Hk.out, Hn.out]; exact hR.out, hG.out⟩


end Go.Proofs.Ytehbikofoidjhaa
