/-
  The walk of acreagelaw12.works: the chapter's first rows.
-/
import Derived.Test.YtehbikofoidjhaaTellsW
import Derived.Test.YtehbikofoidjhaaMergePlain
import Derived.Test.YtehbikofoidjhaaLits
namespace Go.Proofs.Ytehbikofoidjhaa
open Go.RowKit

set_option maxHeartbeats 1000000 in
theorem at12_any (r : ByteArray) (v : Int) (g : Bool) (w : World) :
    Calls Try.prog 23 #[.string r, .int .u64 v, .bool g] w fun e w' => e = .returned (.agg #[.string r, .string ⟨#[120]⟩, .int .u64 v, .bool g, .string ⟨#[]⟩]) ∧ Below w.heap.size w w' := by
  go_enter Try.func23, Try.ntmps23
  go_wp2
  go_returns
  exact ⟨rfl, by go_grown⟩

/-- cells of the column x -/
def atX (r : UInt8) (v : Int) (g : Bool) : CellA := ⟨⟨#[r]⟩, ⟨#[120]⟩, v, g, ⟨#[]⟩⟩
theorem lt_one (a b : UInt8) : (([a] : List UInt8) < [b]) ↔ a < b := by
  constructor
  · intro h; cases h with
    | rel h => exact h
    | cons h => cases h
  · intro h; exact List.Lex.rel h
theorem cmp_at (r q : UInt8) (v u : Int) (g h : Bool) : cmpC (atX r v g) (atX q u h) = orI (if r < q then -1 else if q < r then 1 else 0) 0 (cmpN u v) := by
  simp only [cmpC, atX, Lib.toList_data, cmpL_eq]
  congr 1
  simp only [cmpL, lt_one]
def w2a : List CellA := [atX 97 2 false, atX 98 1 false]
def w2b : List CellA := [atX 97 2 true, atX 97 1 false]
def w2c : List CellA := [atX 97 2 false, atX 97 1 false, atX 98 1 false]
def w2n : List CellA := [atX 97 2 false, atX 98 1 false]
theorem w2_sort : sortL (exL [(atX 97 2 false, [atX 98 1 false]), (atX 97 2 true, [atX 97 1 false])]) = w2c := by
  simp [exL, exP, riseL, sortL, isort, isR, insR, w2c, cmp_at, cmpN, orI, compactL, keepF, sameK]
theorem w2_new : keepL (fun _ => true) none w2c = w2n := by
  simp [w2c, w2n, keepL, freshB, placeB, atX]

/-- two rows as a slice of rows -/
theorem arr_two (w : World) (T : TypeId) (q1 q2 : RI) (b : Nat) (hb : b = w.heap.size) : Arr (w.alloc (.cells #[.func (.func q1.f) #[] q1.caps, .func (.func q2.f) #[] q2.caps] T)) 1 (some ⟨b, 0, none⟩) 2 2 ([some q1, some q2].map rowE) := by
  subst hb
  refine ⟨rowE_elems _, rfl, Nat.le_refl _, by unfold maxLen; omega, fun _ => ⟨w.heap.size, 0, rfl, by rw [World.size_alloc]; omega, fun i e he j u hu => ?_⟩⟩
  match i, he with
  | 0, he =>
    simp only [List.map_cons, List.getElem?_cons_zero, Option.some.injEq] at he
    subst he
    match j, hu with
    | 0, hu => simp [rowE, valR] at hu; subst hu; simp [World.cell?_alloc_new]
    | j + 1, hu => simp [rowE] at hu
  | 1, he =>
    simp only [List.map_cons, List.getElem?_cons_succ, List.getElem?_cons_zero, Option.some.injEq] at he
    subst he
    match j, hu with
    | 0, hu => simp [rowE, valR] at hu; subst hu; simp [World.cell?_alloc_new]
    | j + 1, hu => simp [rowE] at hu
  | i + 2, he => simp at he
theorem rows_two {q1 q2 : RI} {w : World} (h1 : q1.Here w) (h2 : q2.Here w) (h : ∀ k, q1.F k → ¬ q2.F k) : RowsAt [some q1, some q2] w := by
  refine ⟨fun i r hr => ?_, fun i j r q hij hr hq k hk hk2 => ?_⟩
  · match i, hr with
    | 0, hr => simp at hr; subst hr; exact h1
    | 1, hr => simp at hr; subst hr; exact h2
    | i + 2, hr => simp at hr
  · match i, j, hr, hq with
    | 0, 0, _, _ => exact hij rfl
    | 0, 1, hr, hq => simp at hr hq; subst hr hq; exact h k hk hk2
    | 1, 0, hr, hq => simp at hr hq; subst hr hq; exact h k hk2 hk
    | 1, 1, _, _ => exact hij rfl
    | i + 2, _, hr, _ => simp at hr
    | 0, j + 2, _, hq => simp at hq
    | 1, j + 2, _, hq => simp at hq

set_option maxRecDepth 100000 in
set_option maxHeartbeats 2000000 in
theorem two_any (w : World) : Calls Try.prog 39 #[] w fun e w' => Gives w2c (fun _ => False) w e w' := by
  go_enter Try.func39, Try.ntmps39
  go_wp2_with fail
  refine (at12_any _ _ _ _).mono ?_
  rintro e w1 ⟨rfl, b1⟩
  have B1 := Lib.hid b1
  have z1 := b1.size
  clear b1
  go_wp2_with fail
  refine (at12_any _ _ _ _).mono ?_
  rintro e w2 ⟨rfl, b2⟩
  have B2 := Lib.hid (B1.out.trans (b2.mono z1))
  have z2 := B2.out.size
  clear b2
  go_wp2_with fail
  refine (of_gives _ 2 2 w2a _ (cells_new _ _ w2a _ 2 _ (by rfl) (by decide) (by decide) rfl) (by decide)).mono ?_
  rintro e w3 ⟨q1, rfl, c1, h1, f1, b3⟩
  have B3 := Lib.hid ((B2.out.alloc z2 _).trans (b3.mono (B2.out.alloc z2 _).size))
  have H1 := Lib.hid (show q1.Here w3 from h1)
  have F1 := Lib.hid (fun k hk => (f1 k hk).elim False.elim id)
  have C1 := Lib.hid c1
  have z3 := B3.out.size
  have z3' := b3.size
  have L1 : Hid (∀ k, q1.F k → k < w3.heap.size) := Lib.hid (RI.Here.lt (q := q1) h1)
  clear b3 h1 f1 c1
  go_wp2_with fail
  refine (at12_any _ _ _ _).mono ?_
  rintro e w4 ⟨rfl, b4⟩
  have B4 := Lib.hid (B3.out.trans (b4.mono z3))
  have H1 := Lib.hid (H1.out.below b4)
  have z4 := B4.out.size
  have z4' := b4.size
  clear b4
  go_wp2_with fail
  refine (at12_any _ _ _ _).mono ?_
  rintro e w5 ⟨rfl, b5⟩
  have B5 := Lib.hid (B4.out.trans (b5.mono z4))
  have H1 := Lib.hid (H1.out.below b5)
  have z5 := B5.out.size
  have z5' := b5.size
  clear b5
  go_wp2_with fail
  refine (of_gives _ 2 2 w2b _ (cells_new _ _ w2b _ 2 _ (by rfl) (by decide) (by decide) rfl) (by decide)).mono ?_
  rintro e w6 ⟨q2, rfl, c2, h2, f2, b6⟩
  have B6 := Lib.hid ((B5.out.alloc z5 _).trans (b6.mono (B5.out.alloc z5 _).size))
  have H1 := Lib.hid ((H1.out.below ((Below.refl _ _).alloc (Nat.le_refl _) _)).below b6)
  have H2 := Lib.hid (show q2.Here w6 from h2)
  have F2 := Lib.hid (fun k hk => (f2 k hk).elim False.elim id)
  have C2 := Lib.hid c2
  have z6 := B6.out.size
  rw [World.size_alloc] at F2
  have Hap : Hid (∀ k, q1.F k → ¬ q2.F k) := Lib.hid (fun k hk hk2 => by
    have := F2.out k hk2
    have := L1.out k hk
    omega)
  clear b6 h2 f2 c2
  go_wp2_with fail
  have hA := arr_two w6 25 q1 q2 _ rfl
  have hC : [some q1, some q2].filterMap headP = [(atX 97 2 false, [atX 98 1 false]), (atX 97 2 true, [atX 97 1 false])] := by
    simp [headP, C1.out, C2.out, w2a, w2b]
  have hT := tells_all ([some q1, some q2].filterMap headP)
  rw [hC, w2_sort, ← hC] at hT
  refine (all_gives _ 2 2 [some q1, some q2] w2c _ hA (rows_two (H1.out.below ((Below.refl _ _).alloc (Nat.le_refl _) _)) (H2.out.below ((Below.refl _ _).alloc (Nat.le_refl _) _)) Hap.out) (by decide) hT).mono ?_
  rintro e w7 ⟨q3, rfl, c3, h3, f3, b7⟩
  have B7 := Lib.hid ((B6.out.alloc z6 _).trans (b7.mono (B6.out.alloc z6 _).size))
  have C3 := Lib.hid c3
  have H3 := Lib.hid h3
  have F3 : Hid (∀ k, q3.F k → w.heap.size ≤ k) := Lib.hid (fun k hk => by
    rcases f3 k hk with ⟨i, r, hr, hf⟩ | h
    · match i, hr with
      | 0, hr => simp at hr; subst hr; have := F1.out k hf; rw [World.size_alloc] at this; omega
      | 1, hr => simp at hr; subst hr; have := F2.out k hf; omega
      | i + 2, hr => simp at hr
    · rw [World.size_alloc] at h; omega)
  clear c3 h3 f3 b7
  go_wp2_with fail
  go_returns
  exact ⟨q3, rfl, C3.out, H3.out, fun k hk => .inr (F3.out k hk), B7.out⟩

set_option maxRecDepth 100000 in
set_option maxHeartbeats 2000000 in
theorem works12_any (w : World) : Calls Try.prog 14 #[] w fun e w' => e = .returned (.bool true) ∧ Below w.heap.size w w' := by
  go_enter Try.func14, Try.ntmps14
  go_wp2_with fail
  refine (two_any w).mono ?_
  rintro e w1 ⟨q1, rfl, c1, h1, f1, b1⟩
  have B1 := Lib.hid b1
  have z1 := b1.size
  have H1 := Lib.hid (show q1.Here w1 from h1)
  have F1 := Lib.hid (fun k hk => (f1 k hk).elim False.elim id)
  have C1 := Lib.hid c1
  clear c1 h1 f1 b1
  go_wp2_with fail
  refine (list_gives q1 w1 H1.out 9 9 (.inl rfl) (by rw [C1.out]; decide)).mono ?_
  rintro e w2 ⟨v2, rfl, o2, _, k2⟩
  have B2 := Lib.hid (B1.out.trans (k2.below F1.out z1))
  have z2 := B2.out.size
  rw [C1.out] at o2
  obtain ⟨ao2, cap2, rfl, l2⟩ := Own.cells_n (n := 3) o2 rfl
  have L2 := Lib.hid (show Cells w2 ao2 3 cap2 w2c from l2)
  clear o2 k2 l2
  go_wp2_with fail
  refine (at12_any _ _ _ _).mono ?_
  rintro e w3 ⟨rfl, b3⟩
  have B3 := Lib.hid (B2.out.trans (b3.mono z2))
  have L2 := Lib.hid (Arr.below L2.out b3)
  have z3 := B3.out.size
  clear b3
  go_wp2_with fail
  refine (at12_any _ _ _ _).mono ?_
  rintro e w4 ⟨rfl, b4⟩
  have B4 := Lib.hid (B3.out.trans (b4.mono z3))
  have L2 := Lib.hid (Arr.below L2.out b4)
  have z4 := B4.out.size
  clear b4
  go_wp2_with fail
  refine (at12_any _ _ _ _).mono ?_
  rintro e w5 ⟨rfl, b5⟩
  have B5 := Lib.hid (B4.out.trans (b5.mono z4))
  have L2 := Lib.hid (Arr.below L2.out b5)
  have z5 := B5.out.size
  clear b5
  go_wp2_with fail
  refine (same12_any _ _ 3 _ 3 3 w2c w2c _ (Arr.below L2.out ((Below.refl _ _).alloc (Nat.le_refl _) _)) (cells_new _ _ w2c _ 3 _ (by rfl) (by decide) (by decide) rfl)).mono ?_
  rintro e w6 ⟨rfl, b6⟩
  have B6 := Lib.hid ((B5.out.alloc z5 _).trans (b6.mono (B5.out.alloc z5 _).size))
  have z6 := B6.out.size
  rw [sameC_self]
  clear b6 L2
  go_wp2_with fail
  refine (two_any w6).mono ?_
  rintro e w7 ⟨q7, rfl, c7, h7, f7, b7⟩
  have B7 := Lib.hid (B6.out.trans (b7.mono z6))
  have z7 := B7.out.size
  have H7 := Lib.hid (show q7.Here w7 from h7)
  have F7 := Lib.hid (fun k hk => Nat.le_trans z6 ((f7 k hk).elim False.elim id))
  have C7 := Lib.hid c7
  clear c7 h7 f7 b7
  go_wp2_with fail
  refine (newest_gives q7 w7 H7.out).mono ?_
  rintro e w8 ⟨q8, rfl, c8, h8, f8, b8⟩
  have B8 := Lib.hid (B7.out.trans (b8.mono z7))
  have z8 := B8.out.size
  have H8 := Lib.hid (show q8.Here w8 from h8)
  have F8 : Hid (∀ k, q8.F k → w.heap.size ≤ k) := Lib.hid (fun k hk => (f8 k hk).elim (F7.out k) (fun h => Nat.le_trans z7 h))
  rw [C7.out, w2_new] at c8
  have C8 := Lib.hid c8
  clear c8 h8 f8 b8
  go_wp2_with fail
  refine (list_gives q8 w8 H8.out 9 9 (.inl rfl) (by rw [C8.out]; decide)).mono ?_
  rintro e w9 ⟨v9, rfl, o9, _, k9⟩
  have B9 := Lib.hid (B8.out.trans (k9.below F8.out z8))
  have z9 := B9.out.size
  rw [C8.out] at o9
  obtain ⟨ao9, cap9, rfl, l9⟩ := Own.cells_n (n := 2) o9 rfl
  have L9 := Lib.hid (show Cells w9 ao9 2 cap9 w2n from l9)
  clear o9 k9 l9
  go_wp2_with fail
  refine (at12_any _ _ _ _).mono ?_
  rintro e w10 ⟨rfl, b10⟩
  have B10 := Lib.hid (B9.out.trans (b10.mono z9))
  have L9 := Lib.hid (Arr.below L9.out b10)
  have z10 := B10.out.size
  clear b10
  go_wp2_with fail
  refine (at12_any _ _ _ _).mono ?_
  rintro e w11 ⟨rfl, b11⟩
  have B11 := Lib.hid (B10.out.trans (b11.mono z10))
  have L9 := Lib.hid (Arr.below L9.out b11)
  have z11 := B11.out.size
  clear b11
  go_wp2_with fail
  refine (same12_any _ _ 2 _ 2 2 w2n w2n _ (Arr.below L9.out ((Below.refl _ _).alloc (Nat.le_refl _) _)) (cells_new _ _ w2n _ 2 _ (by rfl) (by decide) (by decide) rfl)).mono ?_
  rintro e w12 ⟨rfl, b12⟩
  have B12 := Lib.hid ((B11.out.alloc z11 _).trans (b12.mono (B11.out.alloc z11 _).size))
  rw [sameC_self]
  clear b12 L9
  go_wp2_with fail
  go_returns
  exact ⟨rfl, B12.out⟩
end Go.Proofs.Ytehbikofoidjhaa
