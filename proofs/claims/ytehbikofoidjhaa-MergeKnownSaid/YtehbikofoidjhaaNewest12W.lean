/-
  The walk of acreagelaw12.MergeNewest.
-/
import Derived.Test.YtehbikofoidjhaaWorks12W
import Derived.Test.YtehbikofoidjhaaRef12W
import Derived.Test.YtehbikofoidjhaaListsW
namespace Go.Proofs.Ytehbikofoidjhaa
open Go.RowKit Go.Sort

theorem placeB_same (p c : CellA) : placeB p c = samePl c p := by
  have h : ∀ a b : ByteArray, decide (a = b) = decide (b.toList = a.toList) := fun a b => by
    apply decide_eq_decide.2
    rw [toList_inj]
    exact eq_comm
  unfold placeB samePl
  rw [h p.row, h p.col]
theorem keepL_new : ∀ (l : List CellA), keepL (fun _ => true) none l = compactL samePl l := by
  have key : ∀ (l : List CellA) (z : CellA), keepL (fun _ => true) (some z) l = keepF samePl z l := by
    intro l
    induction l with
    | nil => intro z; rfl
    | cons a l ih =>
      intro z
      rw [keepL, keepF, ih a]
      have hf : freshB (some z) a = !samePl a z := by rw [← placeB_same]; rfl
      rw [hf]
      cases samePl a z <;> rfl
  intro l
  cases l with
  | nil => rfl
  | cons a l => rw [keepL, compactL, key]; rfl
theorem keep_filter (t : CellA → Bool) : ∀ (l : List CellA) (z : Option CellA), keepL t z l = (keepL (fun _ => true) z l).filter t := by
  intro l
  induction l with
  | nil => intro z; rfl
  | cons a l ih =>
    intro z
    rw [keepL, keepL, ih (some a)]
    cases freshB z a with
    | false => rfl
    | true =>
      simp only [Bool.true_and, if_true]
      rw [List.filter_cons]
theorem keepL_alive (l : List CellA) : keepL (fun c => !c.gone) none l = filtL goneC (compactL samePl l) := by
  rw [keep_filter, keepL_new]
  rfl

set_option maxRecDepth 100000 in
set_option maxHeartbeats 4000000 in
theorem mergenewest_any (ao : Option Addr) (n0 n cap : Nat) (cs : List CellA) (w : World) (h : Cells w ao n cap cs) (hn0 : n ≤ 400) (hm : (if (400 : Int) < (n0 : Int) then (400 : Int) else (n0 : Int)) = (n : Int)) (hf : n0 ≤ cap) (hmx : cap ≤ maxLen) :
    Calls Try.prog 5 #[.slice ao n0 cap] w fun e w' => e = .returned (.bool true) ∧ Below w.heap.size w w' := by
  have Hl := Lib.hid h.len
  have H := Lib.hid h
  have hnn : n ≤ n0 := by split at hm <;> omega
  unfold maxLen at hmx
  have hK1 := Lib.hid (keepL_new cs)
  have hK2 := Lib.hid (keepL_alive cs)
  have hL1 := compactL_len samePl cs
  have hL2 := filtL_len goneC (compactL samePl cs)
  obtain ⟨l1, hl1⟩ : ∃ l, l = compactL samePl cs := ⟨_, rfl⟩
  obtain ⟨l2, hl2⟩ : ∃ l, l = filtL goneC (compactL samePl cs) := ⟨_, rfl⟩
  have hR1 := Lib.hid fun W (h : Cells W ao n cap cs) => rnew12_any ao n cap cs W h (by omega)
  have hR2 := Lib.hid fun W (h : Cells W ao n cap cs) => ralive12_any ao n cap cs W h (by omega)
  rw [← hl1] at hK1 hL1 hR1
  rw [← hl2] at hK2 hL2 hR2
  clear h hl1 hl2
  go_enter Try.func5, Try.ntmps5
  have B0 := Lib.hid (Below.refl w.heap.size w)
  have z0 := Nat.le_refl w.heap.size
  go_wp2_with fail
  refine (of_gives ao n cap cs _ (Cells.below H.out B0.out) (by omega)).mono ?_
  rintro e w1a ⟨q1, rfl, d1, h1, f1, b1⟩
  have BA := Lib.hid (B0.out.trans (b1.mono z0))
  have zA := BA.out.size
  have D1 := Lib.hid d1
  have H1 := Lib.hid (show q1.Here w1a from h1)
  have F1 := Lib.hid (fun k hk => Nat.le_trans z0 ((f1 k hk).elim False.elim id))
  clear d1 h1 f1 b1
  go_wp2_with fail
  refine (newest_gives q1 w1a H1.out).mono ?_
  rintro e w1b ⟨q2, rfl, d2, h2, f2, b2⟩
  have BB := Lib.hid (BA.out.trans (b2.mono zA))
  have zB := BB.out.size
  rw [D1.out, hK1.out] at d2
  have D2 := Lib.hid d2
  have H2 := Lib.hid (show q2.Here w1b from h2)
  have LT2 := Lib.hid (H2.out.lt)
  have F2 : Hid (∀ k, q2.F k → w.heap.size ≤ k) := Lib.hid (fun k hk => (f2 k hk).elim (F1.out k) (fun h => Nat.le_trans zA h))
  clear d2 h2 f2 b2
  go_wp2_with fail
  refine (hR1.out w1b (Cells.below H.out BB.out)).mono ?_
  rintro e w1c ⟨v3, rfl, o3, b3⟩
  obtain ⟨ao3, cap3, rfl, c3⟩ := Own.cells_n o3 rfl
  have BC := Lib.hid (BB.out.trans (b3.mono zB))
  have zC := BC.out.size
  have H2 := Lib.hid (H2.out.below b3)
  have C3 := Lib.hid c3
  have N2 : Hid (∀ p, ao3 = some p → ¬ q2.F p.block) := Lib.hid (by
    intro p hp hf
    rcases Row.form o3 with ⟨e, _⟩ | ⟨g, cp, e, hg, _⟩
    · simp only [Value.slice.injEq] at e; rw [e.1] at hp; cases hp
    · simp only [Value.slice.injEq] at e; rw [e.1] at hp; cases hp
      have := LT2.out _ hf
      have : w1b.heap.size ≤ g := hg
      simp only at *
      omega)
  clear o3 b3 c3
  go_wp2_with fail
  refine (tells_true q2 ao3 _ cap3 w1c H2.out (by rw [D2.out]; exact C3.out) (fun _ p hp => N2.out p hp)).mono ?_
  rintro e w1d ⟨rfl, k4⟩
  have B0 := Lib.hid (BC.out.trans (k4.below F2.out zC))
  have z0 := B0.out.size
  clear k4
  go_wp2_with fail
  refine (of_gives ao n cap cs _ (Cells.below H.out B0.out) (by omega)).mono ?_
  rintro e w2a ⟨q1, rfl, d1, h1, f1, b1⟩
  have BA := Lib.hid (B0.out.trans (b1.mono z0))
  have zA := BA.out.size
  have D1 := Lib.hid d1
  have H1 := Lib.hid (show q1.Here w2a from h1)
  have F1 := Lib.hid (fun k hk => Nat.le_trans z0 ((f1 k hk).elim False.elim id))
  clear d1 h1 f1 b1
  go_wp2_with fail
  refine (alive_gives q1 w2a H1.out).mono ?_
  rintro e w2b ⟨q2, rfl, d2, h2, f2, b2⟩
  have BB := Lib.hid (BA.out.trans (b2.mono zA))
  have zB := BB.out.size
  rw [D1.out, hK2.out] at d2
  have D2 := Lib.hid d2
  have H2 := Lib.hid (show q2.Here w2b from h2)
  have LT2 := Lib.hid (H2.out.lt)
  have F2 : Hid (∀ k, q2.F k → w.heap.size ≤ k) := Lib.hid (fun k hk => (f2 k hk).elim (F1.out k) (fun h => Nat.le_trans zA h))
  clear d2 h2 f2 b2
  go_wp2_with fail
  refine (hR2.out w2b (Cells.below H.out BB.out)).mono ?_
  rintro e w2c ⟨v3, rfl, o3, b3⟩
  obtain ⟨ao3, cap3, rfl, c3⟩ := Own.cells_n o3 rfl
  have BC := Lib.hid (BB.out.trans (b3.mono zB))
  have zC := BC.out.size
  have H2 := Lib.hid (H2.out.below b3)
  have C3 := Lib.hid c3
  have N2 : Hid (∀ p, ao3 = some p → ¬ q2.F p.block) := Lib.hid (by
    intro p hp hf
    rcases Row.form o3 with ⟨e, _⟩ | ⟨g, cp, e, hg, _⟩
    · simp only [Value.slice.injEq] at e; rw [e.1] at hp; cases hp
    · simp only [Value.slice.injEq] at e; rw [e.1] at hp; cases hp
      have := LT2.out _ hf
      have : w2b.heap.size ≤ g := hg
      simp only at *
      omega)
  clear o3 b3 c3
  go_wp2_with fail
  refine (tells_true q2 ao3 _ cap3 w2c H2.out (by rw [D2.out]; exact C3.out) (fun _ p hp => N2.out p hp)).mono ?_
  rintro e w2d ⟨rfl, k4⟩
  have B0 := Lib.hid (BC.out.trans (k4.below F2.out zC))
  have z0 := B0.out.size
  clear k4
  go_wp2_with fail
  refine (works12_any _).mono ?_
  rintro e w9 ⟨rfl, b9⟩
  have B9 := Lib.hid (B0.out.trans (b9.mono z0))
  clear b9
  go_wp2_with fail
  go_returns
  exact ⟨rfl, B9.out⟩
end Go.Proofs.Ytehbikofoidjhaa
