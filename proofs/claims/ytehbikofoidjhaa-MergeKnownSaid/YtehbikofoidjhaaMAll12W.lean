/-
  The walk of acreagelaw12.MergeAll.
-/
import Derived.Test.YtehbikofoidjhaaAll12W
namespace Go.Proofs.Ytehbikofoidjhaa
open Go.RowKit Go.Sort

theorem OwnL.lists {w : World} {B : Nat} {v : Value} {es : List LI} (h : OwnL w B v es) {n : Nat} (hn : es.length = n) : ∃ ao cap, v = .slice ao n cap ∧ Arr w 1 ao n cap (es.map LI.e) := by
  subst hn
  obtain ⟨ao, cap, e, hA⟩ := Row.arr (es := es.map LI.e) (by decide) (by rw [List.length_map]; exact h) (liE_elems es)
  rw [List.length_map] at e hA
  exact ⟨ao, cap, e, hA⟩
theorem cut_small (es : List LI) : (∀ s ∈ (es.take 8).map LI.cut, s.n ≤ 100) ∧ ((es.take 8).map LI.cut).length ≤ 8 := by
  refine ⟨fun s hs => ?_, by rw [List.length_map, List.length_take]; omega⟩
  obtain ⟨x, _, rfl⟩ := List.mem_map.1 hs
  exact Nat.min_le_right _ _
theorem RRel.arr {w : World} {rs : List (Option RI)} {ls : List (List CellA)} {v : Value} {wr : World} (h : RRel w rs ls v wr) {n : Nat} (hn : rs.length = n) : ∃ ao cap, v = .slice ao n cap ∧ Arr wr 1 ao n cap (rs.map rowE) := by
  subst hn
  obtain ⟨ao, cap, e, hA⟩ := Row.arr (es := rs.map rowE) (by decide) (by rw [List.length_map]; exact h.row) (rowE_elems rs)
  rw [List.length_map] at e hA
  exact ⟨ao, cap, e, hA⟩
/-- what All gives over rows of lists -/
theorem all_rows {w : World} {rs : List (Option RI)} {ls : List (List CellA)} {ao : Option Addr} {n cap : Nat} {wr : World} (h : RRel w rs ls (.slice ao n cap) wr) (hn : rs.length = n) (hle : n ≤ 1000000) (hA : Arr wr 1 ao n cap (rs.map rowE)) :
    Calls Try.prog 11 #[.slice ao n cap] wr fun e w' => ∃ q : RI, e = .returned (.func (.func q.f) #[] q.caps) ∧ q.cs = sortL (riseAll ls) ∧ q.Here w' ∧ (∀ k, q.F k → w.heap.size ≤ k) ∧ Below w.heap.size w w' := by
  have hT := tells_all (rs.filterMap headP)
  rw [ex_rows, h.cs] at hT
  refine (all_gives ao n cap rs _ wr hA h.at_ hle hT).mono ?_
  rintro e w' ⟨q, rfl, c, hq, hf, hb⟩
  have hz := h.bel.size
  exact ⟨q, rfl, c, hq, fun k hk => (hf k hk).elim (h.far k) (fun h => by omega), h.bel.trans (hb.mono hz)⟩

set_option maxRecDepth 100000 in
set_option maxHeartbeats 4000000 in
theorem mergeall_any (ao : Option Addr) (n cap : Nat) (es : List LI) (w : World) (h : LLs w ao n cap es) :
    Calls Try.prog 3 #[.slice ao n cap] w fun e w' => e = .returned (.bool true) ∧ Below w.heap.size w w' := by
  have H := Lib.hid h
  obtain ⟨es1, he1⟩ : ∃ l, l = (es.take 8).map LI.cut := ⟨_, rfl⟩
  obtain ⟨hs1, hl1⟩ := cut_small es
  have hok1 : ∀ W, Below w.heap.size w W → ∀ s ∈ es1, s.Ok W := fun W hb s hs => by
    rw [he1] at hs
    obtain ⟨x, hx, rfl⟩ := List.mem_map.1 hs
    exact LI.cut_ok (Arr.below (h.ok x (List.mem_of_mem_take hx)) hb)
  have hsh := short_any ao n cap es w h
  rw [← he1] at hs1 hl1 hsh
  obtain ⟨m, hm⟩ : ∃ m, m = es1.length := ⟨_, rfl⟩
  have HM := Lib.hid hm.symm
  rw [← hm] at hl1
  have HS1 := Lib.hid hs1
  have HSH := Lib.hid hsh
  have HOK := Lib.hid hok1
  clear h he1 hs1 hok1 hsh hm
  go_enter Try.func3, Try.ntmps3
  go_wp2_with fail
  refine HSH.out.mono ?_
  rintro e w1 ⟨v1, rfl, o1, b1⟩
  obtain ⟨ao1, cap1, rfl, a1⟩ := OwnL.lists o1 HM.out
  have L1 : Hid (LLs w1 ao1 m cap1 es1) := Lib.hid ⟨a1, HOK.out w1 b1⟩
  have B1 := Lib.hid b1
  have z1 := b1.size
  clear o1 b1 a1
  go_wp2_with fail
  refine (rows_any ao1 m cap1 es1 w1 L1.out (by omega) (fun s hs => Nat.le_trans (HS1.out s hs) (by decide))).mono ?_
  rintro e w2 ⟨v2, rs, rfl, hrl, hr⟩
  have hb2 := hr.bel
  obtain ⟨ao2, cap2, rfl, a2⟩ := hr.arr hrl
  have HR := Lib.hid hr
  have Hrl := Lib.hid hrl
  have A2 := Lib.hid a2
  have B2 := Lib.hid (B1.out.trans (hb2.mono z1))
  have z2 := B2.out.size
  clear hr hrl a2
  go_wp2_with fail
  refine (all_rows HR.out Hrl.out (by omega) A2.out).mono ?_
  rintro e w3 ⟨q, rfl, c3, h3, f3, b3⟩
  have L3 := Lib.hid (L1.out.below b3)
  have B3 := Lib.hid (B1.out.trans (b3.mono z1))
  have z3 := B3.out.size
  have C3 := Lib.hid c3
  have H3 := Lib.hid h3
  have F3 : Hid (∀ k, q.F k → w.heap.size ≤ k) := Lib.hid (fun k hk => Nat.le_trans z1 (f3 k hk))
  clear c3 h3 f3 b3 hb2
  go_wp2_with fail
  refine (rall12_any ao1 m cap1 es1 w3 L3.out hl1 HS1.out).mono ?_
  rintro e w4 ⟨v4, rfl, o4, b4⟩
  obtain ⟨ao4, cap4, rfl, c4⟩ := Own.cells_n o4 rfl
  have B4 := Lib.hid (B3.out.trans (b4.mono z3))
  have z4 := B4.out.size
  have N4 : Hid (∀ p, ao4 = some p → ¬ q.F p.block) := Lib.hid (by
    intro p hp hf
    rcases Row.form o4 with ⟨e, _⟩ | ⟨g, cp, e, hg, _⟩
    · simp only [Value.slice.injEq] at e; rw [e.1] at hp; cases hp
    · simp only [Value.slice.injEq] at e; rw [e.1] at hp; cases hp
      have := H3.out.lt _ hf
      have : w3.heap.size ≤ g := hg
      simp only at *
      omega)
  have H4 := Lib.hid (H3.out.below b4)
  have C4 := Lib.hid c4
  clear o4 c4 b4
  go_wp2_with fail
  refine (tells_true q ao4 _ cap4 w4 H4.out (by rw [C3.out]; exact C4.out) (fun _ p hp => N4.out p hp)).mono ?_
  rintro e w5 ⟨rfl, k5⟩
  have B5 := Lib.hid (B4.out.trans (k5.below F3.out z4))
  have z5 := B5.out.size
  clear k5
  go_wp2_with fail
  refine (works12_any _).mono ?_
  rintro e w9 ⟨rfl, b9⟩
  have B9 := Lib.hid (B5.out.trans (b9.mono z5))
  clear b9
  go_wp2_with fail
  go_returns
  exact ⟨rfl, B9.out⟩
end Go.Proofs.Ytehbikofoidjhaa
