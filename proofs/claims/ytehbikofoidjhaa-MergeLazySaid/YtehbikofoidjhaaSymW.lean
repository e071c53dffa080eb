/-
  The walks of slices.SortStableFunc at cells, of any length.
-/
import Derived.Test.YtehbikofoidjhaaSortW
import Derived.Test.YtehbikofoidjhaaSymPlain
namespace Go.Proofs.Ytehbikofoidjhaa
open Go.RowKit Go.Sort

theorem set_two (A C E : List CellA) (x y x' y' : CellA) {i j : Nat} (hi : i = A.length) (hj : j = A.length + 1 + C.length) : ((A ++ x :: (C ++ y :: E)).set i y').set j x' = A ++ y' :: (C ++ x' :: E) := by
  subst hi hj
  rw [List.set_append_right _ _ (Nat.le_refl _), Nat.sub_self, List.set_cons_zero, List.set_append_right _ _ (by omega), show A.length + 1 + C.length - A.length = C.length + 1 by omega, List.set_cons_succ,
    List.set_append_right _ _ (Nat.le_refl _), Nat.sub_self, List.set_cons_zero]
theorem set_two' (A C E : List CellA) (x y x' y' : CellA) {i j : Nat} (hi : i = A.length) (hj : j = A.length + 1 + C.length) : ((A ++ x :: (C ++ y :: E)).set j x').set i y' = A ++ y' :: (C ++ x' :: E) := by
  rw [List.set_comm _ _ (by omega)]
  exact set_two A C E x y x' y' hi hj
theorem drop_at {l : List CellA} {i : Nat} {x : CellA} (h : l[i]? = some x) : l.drop i = x :: l.drop (i + 1) := by
  obtain ⟨h1, rfl⟩ := List.getElem?_eq_some_iff.1 h
  exact List.drop_eq_getElem_cons h1
theorem take_at {l : List CellA} {i : Nat} {x : CellA} (h : l[i]? = some x) : l.take (i + 1) = l.take i ++ [x] := by
  rw [List.take_add_one, h]; rfl

/-- two stretches exchanged, i cells done -/
def swL (P X M Y S : List CellA) (i : Nat) : List CellA := (P ++ Y.take i) ++ (X.drop i ++ M ++ X.take i ++ (Y.drop i ++ S))
theorem swL_at {P X M Y S : List CellA} {i : Nat} {x y : CellA} (hx : X[i]? = some x) (hy : Y[i]? = some y) :
    swL P X M Y S i = (P ++ Y.take i) ++ x :: ((X.drop (i + 1) ++ M ++ X.take i) ++ y :: (Y.drop (i + 1) ++ S)) := by
  rw [swL, drop_at hx, drop_at hy]; simp
theorem swL_next {P X M Y S : List CellA} {i : Nat} {x y : CellA} (hx : X[i]? = some x) (hy : Y[i]? = some y) :
    swL P X M Y S (i + 1) = (P ++ Y.take i) ++ y :: ((X.drop (i + 1) ++ M ++ X.take i) ++ x :: (Y.drop (i + 1) ++ S)) := by
  rw [swL, take_at hx, take_at hy]; simp
theorem swL_zero (P X M Y S : List CellA) : swL P X M Y S 0 = P ++ X ++ M ++ Y ++ S := by simp [swL]
theorem swL_end {P X M Y S : List CellA} {n : Nat} (hx : X.length = n) (hy : Y.length = n) : swL P X M Y S n = P ++ Y ++ M ++ X ++ S := by
  rw [swL, List.take_of_length_le (by omega), List.take_of_length_le (by omega), List.drop_eq_nil_of_le (by omega), List.drop_eq_nil_of_le (by omega)]; simp
theorem swL_len (P X M Y S : List CellA) (i : Nat) : (swL P X M Y S i).length = P.length + X.length + M.length + Y.length + S.length := by
  simp only [swL, List.length_append, List.length_take, List.length_drop]; omega

def CellsRow (w : World) (B g n cap : Nat) (cs : List CellA) : Prop := Row w B 37 5 (.slice (some ⟨g, 0, none⟩) n cap) n (cs.map cellE).flatten

set_option maxRecDepth 100000 in
set_option maxHeartbeats 4000000 in
theorem swaprange_any (P X M Y S : List CellA) (g cap n a b m B : Nat) (fv : Value) (w : World) (ha : P.length = a) (hb : a + m + M.length = b) (hx : X.length = m) (hy : Y.length = m) (hn : (P ++ X ++ M ++ Y ++ S).length = n)
    (hrow : CellsRow w B g n cap (P ++ X ++ M ++ Y ++ S)) (hle : n ≤ 1000000) :
    Calls Try.prog 72 #[.slice (some ⟨g, 0, none⟩) n cap, .int .i64 a, .int .i64 b, .int .i64 m, fv] w
      fun e w' => e = .returned (.tuple #[]) ∧ CellsRow w' B g n cap (P ++ Y ++ M ++ X ++ S) ∧ w.grownBy w' (some g) := by
  have hbn : b + m ≤ n := by rw [← hn, ← hb, ← ha]; simp only [List.length_append]; omega
  have ham : a + m ≤ b := by omega
  have hncap : n ≤ cap ∧ cap ≤ maxLen := by
    rcases hrow.form with ⟨h, _⟩ | ⟨g', c', h, _, _, q1, q2⟩
    · cases h
    · cases h; exact ⟨q1, q2⟩
  obtain ⟨hc1, hc2⟩ := hncap
  unfold maxLen at hc2
  unfold CellsRow at *
  have Hrow := Lib.hid hrow
  have Ha := Lib.hid ha
  have Hb := Lib.hid hb
  have Hx := Lib.hid hx
  have Hy := Lib.hid hy
  have Hn := Lib.hid hn
  clear hrow ha hb hx hy hn
  go_enter Try.func72, Try.ntmps72
  go_wp2

  go_loopw [10] (fun i wr => ∃ k : Nat, k ≤ m ∧ i = .int .i64 k ∧ Hid (Row wr B 37 5 (.slice (some ⟨g, 0, none⟩) n cap) n ((swL P X M Y S k).map cellE).flatten) ∧ Hid (w.grownBy wr (some g))) (fun i _ => m - (intOf i).toNat)
  case atStart => exact ⟨0, by omega, rfl, Lib.hid (by rw [swL_zero]; exact Hrow.out), Lib.hid gb_row⟩
  case round =>
    obtain ⟨k, hk, rfl, hR, hG⟩ := hrel
    by_cases hlt : k < m
    · obtain ⟨x, hx⟩ : ∃ x, X[k]? = some x := ⟨_, List.getElem?_eq_getElem (by rw [Hx.out]; omega)⟩
      obtain ⟨y, hy⟩ : ∃ y, Y[k]? = some y := ⟨_, List.getElem?_eq_getElem (by rw [Hy.out]; omega)⟩
      have hln : (swL P X M Y S k).length = n := by rw [swL_len, ← Hn.out]; simp only [List.length_append]
      have e1 : a + k = (P ++ Y.take k).length := by rw [List.length_append, List.length_take, Ha.out, Hy.out]; omega
      have e2 : b + k = (P ++ Y.take k).length + 1 + (X.drop (k + 1) ++ M ++ X.take k).length := by
        simp only [List.length_append, List.length_take, List.length_drop, Ha.out, Hy.out, Hx.out]; have := Hb.out; omega
      have hix : (swL P X M Y S k)[a + k]? = some x := by rw [swL_at hx hy, e1]; simp
      have hiy : (swL P X M Y S k)[b + k]? = some y := by
        rw [swL_at hx hy, e2, List.getElem?_append_right (by omega), show ((P ++ Y.take k).length + 1 + (X.drop (k + 1) ++ M ++ X.take k).length - (P ++ Y.take k).length) = (X.drop (k + 1) ++ M ++ X.take k).length + 1 by omega, List.getElem?_cons_succ, List.getElem?_append_right (Nat.le_refl _), Nat.sub_self]
        rfl
      have hsw : Hid (((swL P X M Y S k).set (a + k) y).set (b + k) x = swL P X M Y S (k + 1)) := Lib.hid (by
        rw [swL_at hx hy, swL_next hx hy]; exact set_two _ _ _ _ _ _ _ e1 e2)
      obtain ⟨x0, x1, x2, x3, x4⟩ := hR.out.cellAt hln hix
      obtain ⟨y0, y1, y2, y3, y4⟩ := hR.out.cellAt hln hiy
      obtain ⟨fx0, fx1, fx2, fx3, fx4⟩ := hR.out.cellFree hln (i := a + k) (by omega)
      obtain ⟨fy0, fy1, fy2, fy3, fy4⟩ := hR.out.cellFree hln (i := b + k) (by omega)
      have hR5 := Lib.hid ((hR.out.storeC hln (i := a + k) (by omega) y).storeC (by rw [List.length_set]; exact hln) (i := b + k) (by omega) x).drew
      have hG6 := Lib.hid (gb_drew (gb_setC (gb_setC hG.out (o := (a + k) * 5) y) (o := (b + k) * 5) x))
      have hgl : g < wr.heap.size := World.block_lt_of_cell? _ _ x0
      clear hx hy hix hiy e1 e2 hln
      go_wp2
      go_region
      go_wp2
      have hR6 := hR5.out
      have hG7 := hG6.out
      rw [hsw.out] at hR6
      simp only [setC] at hR6 hG7
      exact ⟨⟨k + 1, by omega, by go_num, Lib.hid hR6, Lib.hid hG7⟩, by simp [intOf]; omega⟩
    · obtain rfl : k = m := by omega
      have hend := Lib.hid (swL_end (P := P) (M := M) (S := S) Hx.out Hy.out)
      go_wp2
      go_returns
      exact ⟨rfl, by rw [← hend.out]; exact hR.out, hG.out⟩

/-- where the turning stands -/
structure RotRel (B g n cap m : Nat) (E : List CellA) (P X Y S : List CellA) (wr : World) : Prop where
  row : CellsRow wr B g n cap (P ++ X ++ Y ++ S)
  at_ : P.length + X.length = m
  fin : P ++ Y ++ X ++ S = E
  x0 : 0 < X.length
  y0 : 0 < Y.length
theorem swaprange_z (P X M Y S : List CellA) (g cap n B : Nat) (za zb zm : Int) (fv : Value) (w : World) (ha : za = P.length) (hb : zb = (P.length + X.length + M.length : Nat)) (hx : zm = X.length) (hy : Y.length = X.length) (hn : (P ++ X ++ M ++ Y ++ S).length = n)
    (hrow : CellsRow w B g n cap (P ++ X ++ M ++ Y ++ S)) (hle : n ≤ 1000000) :
    Calls Try.prog 72 #[.slice (some ⟨g, 0, none⟩) n cap, .int .i64 za, .int .i64 zb, .int .i64 zm, fv] w
      fun e w' => e = .returned (.tuple #[]) ∧ CellsRow w' B g n cap (P ++ Y ++ M ++ X ++ S) ∧ w.grownBy w' (some g) := by
  subst ha hb hx
  exact swaprange_any P X M Y S g cap n _ _ _ B fv w rfl rfl rfl hy hn hrow hle
theorem RotRel.len {B g n cap m : Nat} {E P X Y S : List CellA} {wr : World} (h : RotRel B g n cap m E P X Y S wr) (hE : E.length = n) : (P ++ X ++ Y ++ S).length = n := by
  rw [← hE, ← h.fin]; simp only [List.length_append]; omega

set_option maxRecDepth 100000 in
set_option maxHeartbeats 4000000 in
theorem rotate_any (P X Y S : List CellA) (g cap n a m b B : Nat) (fv : Value) (w : World) (ha : P.length = a) (hm : a + X.length = m) (hb : m + Y.length = b) (hx : 0 < X.length) (hy : 0 < Y.length) (hn : (P ++ X ++ Y ++ S).length = n)
    (hrow : CellsRow w B g n cap (P ++ X ++ Y ++ S)) (hle : n ≤ 1000000) :
    Calls Try.prog 71 #[.slice (some ⟨g, 0, none⟩) n cap, .int .i64 a, .int .i64 m, .int .i64 b, fv] w
      fun e w' => e = .returned (.tuple #[]) ∧ CellsRow w' B g n cap (P ++ Y ++ X ++ S) ∧ w.grownBy w' (some g) := by
  have hbn : b ≤ n := by rw [← hn, ← hb, ← hm, ← ha]; simp only [List.length_append]; omega
  obtain ⟨E, hE⟩ : ∃ E, E = P ++ Y ++ X ++ S := ⟨_, rfl⟩
  rw [← hE]
  have Hrel : Hid (RotRel B g n cap m E P X Y S w) := Lib.hid ⟨hrow, by omega, hE.symm, hx, hy⟩
  have HnE : Hid (E.length = n) := Lib.hid (by rw [hE, ← hn]; simp only [List.length_append]; omega)
  obtain ⟨i0, hi0⟩ : ∃ i, i = X.length := ⟨_, rfl⟩
  obtain ⟨j0, hj0⟩ : ∃ j, j = Y.length := ⟨_, rfl⟩
  have Hi0 := Lib.hid hi0.symm
  have Hj0 := Lib.hid hj0.symm
  rw [← hi0] at hm hx
  rw [← hj0] at hb hy
  have Hm := Lib.hid hm
  have Hb := Lib.hid hb
  have ham : a + 1 ≤ m := by omega
  have hmb : m + 1 ≤ b := by omega
  have hi0m : i0 ≤ m := by omega
  clear hrow hn ha hE hi0 hj0 hm hb
  go_enter Try.func71, Try.ntmps71
  go_wp2
  go_loopw [10, 11] (fun i j wr => ∃ (P' X' Y' S' : List CellA) (q r : Nat), i = .int .i64 q ∧ j = .int .i64 r ∧ q ≤ i0 ∧ r ≤ j0 ∧ 0 < q ∧ 0 < r ∧ Hid (X'.length = q) ∧ Hid (Y'.length = r) ∧ Hid (RotRel B g n cap m E P' X' Y' S' wr) ∧ Hid (w.grownBy wr (some g))) (fun i j _ => (intOf i).toNat + (intOf j).toNat)
  case atStart => exact ⟨P, X, Y, S, i0, j0, by congr 1; have := Hm.out; omega, by congr 1; have := Hb.out; omega, Nat.le_refl _, Nat.le_refl _, hx, hy, Hi0, Hj0, Hrel, Lib.hid gb_row⟩
  case round =>
    obtain ⟨P', X', Y', S', q, r, rfl, rfl, hq, hr, hq0, hr0, HX, HY, HR, HG⟩ := hrel
    have hat := HR.out.at_
    obtain ⟨p, hp⟩ : ∃ p, p = P'.length := ⟨_, rfl⟩
    have Hp := Lib.hid hp
    have hpq : Hid (p + q = m) := Lib.hid (by have := HX.out; omega)
    have hpl : p ≤ m := by have := hpq.out; omega
    have hln := Lib.hid (HR.out.len HnE.out)
    have hqm : q ≤ m := by omega
    have hrn : r ≤ 1000000 := by have := Hb.out; omega
    clear hat hp
    rcases Nat.lt_trichotomy q r with hlt | heq | hgt
    · have hd1 : decide ((r : Int) < q) = false := by simp; omega
      have hne : ((q : Int) != r) = true := by rw [bne_iff_ne]; omega
      have hY : Hid (Y' = Y'.take (r - q) ++ Y'.drop (r - q)) := Lib.hid (List.take_append_drop _ _).symm
      obtain ⟨Y1, hY1⟩ : ∃ l, l = Y'.take (r - q) := ⟨_, rfl⟩
      obtain ⟨Y2, hY2⟩ : ∃ l, l = Y'.drop (r - q) := ⟨_, rfl⟩
      rw [← hY1, ← hY2] at hY
      have L1 : Hid (Y1.length = r - q) := Lib.hid (by rw [hY1, List.length_take, HY.out]; omega)
      have L2 : Hid (Y2.length = q) := Lib.hid (by rw [hY2, List.length_drop, HY.out]; omega)
      have Hrow : Hid (CellsRow wr B g n cap (P' ++ X' ++ Y1 ++ Y2 ++ S')) := Lib.hid (by have := HR.out.row; rw [hY.out] at this; simpa only [List.append_assoc] using this)
      have Hn2 : Hid ((P' ++ X' ++ Y1 ++ Y2 ++ S').length = n) := Lib.hid (by have := hln.out; rw [hY.out] at this; simpa only [List.append_assoc] using this)
      have HF : Hid (P' ++ Y1 ++ Y2 ++ (X' ++ S') = E) := Lib.hid (by have := HR.out.fin; rw [hY.out] at this; simpa only [List.append_assoc] using this)
      clear hY1 hY2
      go_wp2_with (go_at_call 72; refine (swaprange_z P' X' Y1 Y2 S' g cap n B _ _ _ _ _ (by have := Hp.out; have := hpq.out; omega) (by have := Hp.out; have := hpq.out; have := L1.out; have := HX.out; omega) (by have := HX.out; omega) (by have := HX.out; have := L2.out; omega) Hn2.out Hrow.out hle).mono ?_; rintro e w1 ⟨rfl, hr1, hg1⟩; have Hr1 := Lib.hid hr1; have Hg1 := Lib.hid (gb_trans HG.out hg1); clear hr1 hg1)
      exact ⟨⟨P', Y2, Y1, X' ++ S', q, r - q, rfl, by go_num, hq, by omega, hq0, by omega, L2, L1, Lib.hid ⟨by have := Hr1.out; simpa only [List.append_assoc] using this, by have := Hp.out; have := hpq.out; have := L2.out; omega, HF.out, by have := L2.out; omega, by have := L1.out; omega⟩, Hg1⟩, by simp [intOf]; omega⟩
    · subst heq
      have hxy := Lib.hid (HX.out.trans HY.out.symm)
      have Hrow : Hid (CellsRow wr B g n cap (P' ++ X' ++ [] ++ Y' ++ S')) := Lib.hid (by have := HR.out.row; simpa only [List.append_nil] using this)
      have Hn2 : Hid ((P' ++ X' ++ [] ++ Y' ++ S').length = n) := Lib.hid (by have := hln.out; simpa only [List.append_nil] using this)
      go_wp2_with (go_at_call 72; refine (swaprange_z P' X' [] Y' S' g cap n B _ _ _ _ _ (by have := Hp.out; have := hpq.out; omega) (by have := Hp.out; have := hpq.out; have := HX.out; simp only [List.length_nil]; omega) (by have := HX.out; omega) hxy.out.symm Hn2.out Hrow.out hle).mono ?_; rintro e w1 ⟨rfl, hr1, hg1⟩; have Hr1 := Lib.hid hr1; have Hg1 := Lib.hid (gb_trans HG.out hg1); clear hr1 hg1)
      go_returns
      exact ⟨rfl, by rw [← HR.out.fin]; have := Hr1.out; simpa only [List.append_nil] using this, Hg1.out⟩
    · have hd1 : decide ((r : Int) < q) = true := by simp; omega
      have hne : ((q : Int) != r) = true := by rw [bne_iff_ne]; omega
      have hX : Hid (X' = X'.take r ++ X'.drop r) := Lib.hid (List.take_append_drop _ _).symm
      obtain ⟨X1, hX1⟩ : ∃ l, l = X'.take r := ⟨_, rfl⟩
      obtain ⟨X2, hX2⟩ : ∃ l, l = X'.drop r := ⟨_, rfl⟩
      rw [← hX1, ← hX2] at hX
      have L1 : Hid (X1.length = r) := Lib.hid (by rw [hX1, List.length_take, HX.out]; omega)
      have L2 : Hid (X2.length = q - r) := Lib.hid (by rw [hX2, List.length_drop, HX.out])
      have Hrow : Hid (CellsRow wr B g n cap (P' ++ X1 ++ X2 ++ Y' ++ S')) := Lib.hid (by have := HR.out.row; rw [hX.out] at this; simpa only [List.append_assoc] using this)
      have Hn2 : Hid ((P' ++ X1 ++ X2 ++ Y' ++ S').length = n) := Lib.hid (by have := hln.out; rw [hX.out] at this; simpa only [List.append_assoc] using this)
      have HF : Hid (P' ++ Y' ++ X1 ++ X2 ++ S' = E) := Lib.hid (by have := HR.out.fin; rw [hX.out] at this; simpa only [List.append_assoc] using this)
      clear hX1 hX2
      go_wp2_with (go_at_call 72; refine (swaprange_z P' X1 X2 Y' S' g cap n B _ _ _ _ _ (by have := Hp.out; have := hpq.out; omega) (by have := Hp.out; have := hpq.out; have := L1.out; have := L2.out; omega) (by have := L1.out; omega) (by have := L1.out; have := HY.out; omega) Hn2.out Hrow.out hle).mono ?_; rintro e w1 ⟨rfl, hr1, hg1⟩; have Hr1 := Lib.hid hr1; have Hg1 := Lib.hid (gb_trans HG.out hg1); clear hr1 hg1)
      exact ⟨⟨P' ++ Y', X2, X1, S', q - r, r, by go_num, rfl, by omega, hr, by omega, hr0, L2, L1, Lib.hid ⟨by have := Hr1.out; simpa only [List.append_assoc] using this, by rw [List.length_append]; have := Hp.out; have := hpq.out; have := L2.out; have := HY.out; omega, HF.out, by have := L2.out; omega, by have := L1.out; omega⟩, Hg1⟩, by simp [intOf]; omega⟩

/-- a search in a sorted list: what holds up to p, and fails from q on -/
structure Cut (P : CellA → Prop) (Y : List CellA) (p q : Nat) : Prop where
  lo : ∀ y ∈ Y.take p, P y
  hi : ∀ y ∈ Y.drop q, ¬ P y
theorem Cut.start (P : CellA → Prop) (Y : List CellA) {q : Nat} (h : Y.length ≤ q) : Cut P Y 0 q := ⟨by simp, by rw [List.drop_eq_nil_of_le h]; simp⟩
theorem Cut.up {P : CellA → Prop} {Y : List CellA} {p q h : Nat} (c : Cut P Y p q) (hs : Srt Y) (hm : ∀ y z, leC z y → P y → P z) {y : CellA} (hy : Y[h]? = some y) (hp : P y) : Cut P Y (h + 1) q := by
  refine ⟨fun z hz => ?_, c.hi⟩
  obtain ⟨i, hi⟩ := List.mem_iff_getElem?.1 hz
  rw [List.getElem?_take] at hi
  split at hi
  · exact hm y z (srt_at hs (by omega) hi hy) hp
  · cases hi
theorem Cut.down {P : CellA → Prop} {Y : List CellA} {p q h : Nat} (c : Cut P Y p q) (hs : Srt Y) (hm : ∀ y z, leC z y → P y → P z) {y : CellA} (hy : Y[h]? = some y) (hp : ¬ P y) : Cut P Y p h := by
  refine ⟨c.lo, fun z hz hp' => ?_⟩
  obtain ⟨i, hi⟩ := List.mem_iff_getElem?.1 hz
  rw [List.getElem?_drop] at hi
  exact hp (hm z y (srt_at hs (by omega) hy hi) hp')

/-- the sort's world: the row, and the comparison beside it -/
structure SortW (w : World) (B g n cap gb gs : Nat) (cs : List CellA) : Prop where
  row : CellsRow w B g n cap cs
  len : cs.length = n
  ord : OrderAt w gb gs
theorem SortW.cap {w : World} {B g n cap gb gs : Nat} {cs : List CellA} (h : SortW w B g n cap gb gs cs) : n ≤ cap ∧ cap ≤ 9223372036854775807 := by
  rcases h.row.form with ⟨h, _⟩ | ⟨g', c', h, _, _, q1, q2⟩
  · cases h
  · cases h; unfold maxLen at q2; exact ⟨q1, by omega⟩
theorem SortW.below {w w' : World} {B g n cap gb gs : Nat} {cs : List CellA} (h : SortW w B g n cap gb gs cs) (hb : Below w.heap.size w w') : SortW w' B g n cap gb gs cs :=
  ⟨Row.below h.row hb, h.len, h.ord.below hb⟩

set_option maxRecDepth 100000 in
set_option maxHeartbeats 4000000 in
theorem symmerge_left (pre : List CellA) (x : CellA) (Y suf : List CellA) (g cap n a m b gb gs B : Nat) (w : World) (ha : pre.length = a) (hm : a + 1 = m) (hb : m + Y.length = b) (hy : Srt Y) (hrow : SortW w B g n cap gb gs (pre ++ [x] ++ Y ++ suf)) (h1 : gb ≠ g) (h2 : gs ≠ g) (hle : n ≤ 1000000) :
    Calls Try.prog 69 #[.slice (some ⟨g, 0, none⟩) n cap, .int .i64 a, .int .i64 m, .int .i64 b, .func (.func 62) #[] #[.pointer (some ⟨gb, 0, none⟩)]] w
      fun e w' => e = .returned (.tuple #[]) ∧ (∃ Z, IsSort Z ([x] ++ Y) ∧ SortW w' B g n cap gb gs (pre ++ Z ++ suf)) ∧ w.grownBy w' (some g) := by
  obtain ⟨hc1, hc2⟩ := hrow.cap
  have hbn : b ≤ n := by rw [← hrow.len, ← hb, ← hm, ← ha]; simp only [List.length_append, List.length_singleton]; omega
  have hab : a < m := by omega
  have hmb : m ≤ b := by omega
  have hd0 : ((m : Int) - (a : Int) == 1) = true := by rw [beq_iff_eq]; omega
  have Hrow := Lib.hid hrow
  have Ha := Lib.hid ha
  have Hm := Lib.hid hm
  have Hb := Lib.hid hb
  have Hy := Lib.hid hy
  clear hrow ha hb hy hm
  go_enter Try.func69, Try.ntmps69
  go_wp2
  go_loopw [10, 11] (fun i j wr => ∃ I J : Nat, i = .int .i64 I ∧ j = .int .i64 J ∧ m ≤ I ∧ I ≤ J ∧ J ≤ b ∧ Hid (Cut (fun y => cmpC y x < 0) Y (I - m) (J - m)) ∧ Hid (SortW wr B g n cap gb gs (pre ++ [x] ++ Y ++ suf)) ∧ Hid (w.grownBy wr (some g))) (fun i j _ => (intOf j).toNat - (intOf i).toNat)
  case atStart => exact ⟨m, b, rfl, rfl, by omega, by omega, by omega, Lib.hid (by rw [Nat.sub_self]; exact Cut.start _ _ (by have := Hb.out; omega)), Hrow, Lib.hid gb_row⟩
  case round =>
    obtain ⟨I, J, rfl, rfl, hI, hIJ, hJ, hC, hW, hG⟩ := hrel
    by_cases hlt : I < J
    · obtain ⟨h, hh⟩ : ∃ h : Nat, h = (I + J) / 2 := ⟨_, rfl⟩
      have hh1 : ((I : Int) + (J : Int)) / 2 = (h : Int) := by omega
      have hh2 : I ≤ h := by omega
      have hh3 : h < J := by omega
      have hhn : h < n := by omega
      obtain ⟨y, hy⟩ : ∃ y, Y[h - m]? = some y := ⟨_, List.getElem?_eq_getElem (by have := Hb.out; omega)⟩
      have hix : (pre ++ [x] ++ Y ++ suf)[a]? = some x := by
        rw [List.append_assoc, List.append_assoc, List.getElem?_append_right (by have := Ha.out; omega), Ha.out, Nat.sub_self]; rfl
      have hiy : (pre ++ [x] ++ Y ++ suf)[h]? = some y := by
        rw [List.append_assoc, List.getElem?_append_right (by have := Ha.out; have := Hm.out; simp only [List.length_append, List.length_singleton]; omega), List.length_append, Ha.out, List.length_singleton, Hm.out,
          List.getElem?_append_left (by have := Hb.out; omega)]
        exact hy
      have hln := hW.out.len
      obtain ⟨x0, x1, x2, x3, x4⟩ := Row.cellAt hW.out.row hln hix
      obtain ⟨y0, y1, y2, y3, y4⟩ := Row.cellAt hW.out.row hln hiy
      have hcm := Lib.hid fun W h => order_any y x gb gs W h
      have Hy2 := Lib.hid hy
      obtain ⟨z, hz⟩ : ∃ z, cmpC y x = z := ⟨_, rfl⟩
      rw [hz] at hcm
      have Hz := Lib.hid hz
      have hgl : g < wr.heap.size := World.block_lt_of_cell? _ _ x0
      clear hz hy hix hiy hln hh
      have hst : h < 4611686018427387904 := by omega
      by_cases hneg : z < 0
      · have hneg1 : decide (z < 0) = true := by simpa using hneg
        go_wp2
        refine wp_region_below (by kernel_rfl) (by kernel_rfl) (fun hkept => ?_)
        obtain ⟨r0, rf0⟩ := hkept (g) (by go_size); clear hkept
        repeat (any_goals (first | go_big_quiet_step (first | (go_at_call 62; exact Calls.regrown_of (hcm.out _ (hW.out.ord.below (below_regrown _ _ _))))) | quiet_step (first | (go_at_call 62; exact Calls.regrown_of (hcm.out _ (hW.out.ord.below (below_regrown _ _ _))))) | (refine wpQuiet_step (fun K hK => ?_); go_simp; split <;> (refine hK _ ?_; clear hK K))))
        all_goals (refine wpQuiet_nil ?_; intro w5 hb; obtain ⟨hB, hS, hk⟩ := after (B := wr.heap.size) (w := wr) (by go_grown) (by go_size) hb; obtain ⟨c0, f0, z0⟩ := hk (g) (by go_size); clear hk hb r0 rf0)
        go_wp2
        exact ⟨⟨h + 1, J, by go_num, rfl, by omega, by omega, hJ, Lib.hid (by
          have := hC.out.up Hy.out (fun _ _ h1 h2 => le_lt_trans h1 h2) Hy2.out (by rw [Hz.out]; exact hneg)
          rwa [show h - m + 1 = h + 1 - m by omega] at this), Lib.hid (hW.out.below hB), Lib.hid (gb_below hG.out hB)⟩, by simp [intOf]; omega⟩
      · have hneg1 : decide (z < 0) = false := by simpa using hneg
        go_wp2
        refine wp_region_below (by kernel_rfl) (by kernel_rfl) (fun hkept => ?_)
        obtain ⟨r0, rf0⟩ := hkept (g) (by go_size); clear hkept
        repeat (any_goals (first | go_big_quiet_step (first | (go_at_call 62; exact Calls.regrown_of (hcm.out _ (hW.out.ord.below (below_regrown _ _ _))))) | quiet_step (first | (go_at_call 62; exact Calls.regrown_of (hcm.out _ (hW.out.ord.below (below_regrown _ _ _))))) | (refine wpQuiet_step (fun K hK => ?_); go_simp; split <;> (refine hK _ ?_; clear hK K))))
        all_goals (refine wpQuiet_nil ?_; intro w5 hb; obtain ⟨hB, hS, hk⟩ := after (B := wr.heap.size) (w := wr) (by go_grown) (by go_size) hb; obtain ⟨c0, f0, z0⟩ := hk (g) (by go_size); clear hk hb r0 rf0)
        go_wp2
        exact ⟨⟨I, h, rfl, rfl, by omega, by omega, by omega, Lib.hid (hC.out.down Hy.out (fun _ _ h1 h2 => le_lt_trans h1 h2) Hy2.out (by rw [Hz.out]; omega)), Lib.hid (hW.out.below hB), Lib.hid (gb_below hG.out hB)⟩, by simp [intOf]; omega⟩
    · obtain rfl : I = J := by omega
      clear hlt hIJ
      obtain ⟨wo, rfl⟩ : ∃ wo : World, wo = wr := ⟨_, rfl⟩
      have hIa : 1 ≤ I := by omega
      go_wp2
      go_loopw [13] (fun k wr => ∃ K : Nat, k = .int .i64 K ∧ a ≤ K ∧ K + 1 ≤ I ∧ Hid (SortW wr B g n cap gb gs (pre ++ (Y.take (K - a) ++ [x] ++ Y.drop (K - a)) ++ suf)) ∧ Hid (w.grownBy wr (some g))) (fun k _ => n - (intOf k).toNat)
      case atStart => exact ⟨a, rfl, by omega, by omega, Lib.hid (by have := hW.out; rw [Nat.sub_self]; simpa only [List.take_zero, List.drop_zero, List.nil_append, List.append_assoc] using this), hG⟩
      case round =>
        obtain ⟨K, rfl, hK, hKI, hS2, hG2⟩ := hrel
        by_cases hlt : K + 1 < I
        · have hd1 : decide ((K : Int) < (I : Int) - 1) = true := by simp; omega
          obtain ⟨y, hy⟩ : ∃ y, Y[K - a]? = some y := ⟨_, List.getElem?_eq_getElem (by have := Hb.out; have := Hm.out; omega)⟩
          have hln := hS2.out.len
          have e0 : pre ++ (Y.take (K - a) ++ [x] ++ Y.drop (K - a)) ++ suf = (pre ++ Y.take (K - a)) ++ x :: ([] ++ y :: (Y.drop (K - a + 1) ++ suf)) := by rw [drop_at hy]; simp
          have e3 : pre ++ (Y.take (K + 1 - a) ++ [x] ++ Y.drop (K + 1 - a)) ++ suf = (pre ++ Y.take (K - a)) ++ y :: ([] ++ x :: (Y.drop (K - a + 1) ++ suf)) := by
            rw [show K + 1 - a = K - a + 1 by omega, take_at hy]; simp
          have e1 : K = (pre ++ Y.take (K - a)).length := by have := Hb.out; have := Hm.out; rw [List.length_append, List.length_take, Ha.out]; omega
          have e2 : K + 1 = (pre ++ Y.take (K - a)).length + 1 + ([] : List CellA).length := by rw [← e1]; rfl
          have hix : (pre ++ (Y.take (K - a) ++ [x] ++ Y.drop (K - a)) ++ suf)[K]? = some x := by rw [e0, List.getElem?_append_right (by omega), ← e1, Nat.sub_self]; rfl
          have hiy : (pre ++ (Y.take (K - a) ++ [x] ++ Y.drop (K - a)) ++ suf)[K + 1]? = some y := by rw [e0, List.getElem?_append_right (by omega), ← e1, show K + 1 - K = 1 by omega]; rfl
          have hsw : Hid (((pre ++ (Y.take (K - a) ++ [x] ++ Y.drop (K - a)) ++ suf).set K y).set (K + 1) x = pre ++ (Y.take (K + 1 - a) ++ [x] ++ Y.drop (K + 1 - a)) ++ suf) := Lib.hid (by
            rw [e0, e3]; exact set_two _ _ _ _ _ _ _ e1 e2)
          obtain ⟨x0, x1, x2, x3, x4⟩ := Row.cellAt hS2.out.row hln hix
          obtain ⟨y0, y1, y2, y3, y4⟩ := Row.cellAt hS2.out.row hln hiy
          obtain ⟨fx0, fx1, fx2, fx3, fx4⟩ := Row.cellFree hS2.out.row hln (i := K) (by omega)
          obtain ⟨fy0, fy1, fy2, fy3, fy4⟩ := Row.cellFree hS2.out.row hln (i := K + 1) (by omega)
          have hR5 := Lib.hid ((Row.storeC hS2.out.row hln (i := K) (by omega) y).storeC (by rw [List.length_set]; exact hln) (i := K + 1) (by omega) x).drew
          have hG6 := Lib.hid (gb_drew (gb_setC (gb_setC hG2.out (o := K * 5) y) (o := (K + 1) * 5) x))
          have hln2 := Lib.hid (show (((pre ++ (Y.take (K - a) ++ [x] ++ Y.drop (K - a)) ++ suf).set K y).set (K + 1) x).length = n by rw [List.length_set, List.length_set]; exact hln)
          have hgl : g < wr.heap.size := World.block_lt_of_cell? _ _ x0
          clear hy hix hiy e1 e2 e0 e3 hln
          go_wp2
          go_region
          go_wp2
          have hR6 := hR5.out
          have hG7 := hG6.out
          have hln3 := hln2.out
          rw [hsw.out] at hR6 hln3
          simp only [setC] at hR6 hG7
          exact ⟨⟨K + 1, by go_num, by omega, by omega, Lib.hid ⟨hR6, hln3, Hrow.out.ord.grown hG7 h1 h2⟩, Lib.hid hG7⟩, by simp [intOf]; omega⟩
        · obtain rfl : I = K + 1 := by omega
          have hd1 : decide ((K : Int) < ((K + 1 : Nat) : Int) - 1) = false := by simp
          have hres : Hid (IsSort (Y.take (K - a) ++ [x] ++ Y.drop (K - a)) ([x] ++ Y)) := Lib.hid (by
            have c := hC.out
            rw [show K + 1 - m = K - a by have := Hm.out; omega] at c
            have := merge_one_left (x := x) (y1 := Y.take (K - a)) (y2 := Y.drop (K - a)) (by rw [List.take_append_drop]; exact Hy.out) c.lo c.hi
            rw [List.take_append_drop] at this
            simpa using this)
          go_wp2
          go_returns
          exact ⟨rfl, ⟨_, hres.out, hS2.out⟩, hG2.out⟩

end Go.Proofs.Ytehbikofoidjhaa
