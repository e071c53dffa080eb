/-
  Plain facts on insertion from the right, and on lists; no program in sight.
-/
import Derived.Test.YtihglmicgccgiaaCellW
import Derived.RegionTactic
import Derived.BigRegion
namespace Go.Proofs.Ytihglmicgccgiaa

/-- x put into a list that stands turned about: behind those that it is ahead of. -/
def insR (x : CellA) : List CellA → List CellA
  | [] => [x]
  | y :: r => if cmpC x y < 0 then y :: insR x r else x :: y :: r
def isR (l : List CellA) : List CellA := l.foldl (fun r x => insR x r) []
def isort (l : List CellA) : List CellA := (isR l).reverse
theorem insR_len (x : CellA) : ∀ r, (insR x r).length = r.length + 1
  | [] => rfl
  | y :: r => by rw [insR]; split <;> simp [insR_len x r]
theorem isR_snoc (l : List CellA) (x : CellA) : isR (l ++ [x]) = insR x (isR l) := by simp [isR]
theorem isR_len (l : List CellA) : (isR l).length = l.length := by
  have : ∀ (l r : List CellA), (l.foldl (fun r x => insR x r) r).length = r.length + l.length := by
    intro l
    induction l with
    | nil => simp
    | cons x l ih => intro r; rw [List.foldl_cons, ih, insR_len, List.length_cons]; omega
  have := this l []
  simpa [isR] using this
theorem isort_len (l : List CellA) : (isort l).length = l.length := by simp [isort, isR_len]
/-- m steps done -/
def Ahead (x : CellA) (r : List CellA) (m : Nat) : Prop := ∀ y ∈ r.take m, cmpC x y < 0
theorem Ahead.zero (x : CellA) (r : List CellA) : Ahead x r 0 := fun y h => by simp at h
theorem Ahead.succ {x : CellA} {r : List CellA} {m : Nat} (h : Ahead x r m) {y : CellA} (hy : r[m]? = some y) (hc : cmpC x y < 0) : Ahead x r (m + 1) := by
  intro z hz
  rw [List.take_add_one, hy] at hz
  rcases List.mem_append.1 hz with hz | hz
  · exact h z hz
  · simp at hz; subst hz; exact hc
theorem insR_at : ∀ (x : CellA) (r : List CellA) (m : Nat), Ahead x r m → (∀ y, r[m]? = some y → ¬ cmpC x y < 0) → insR x r = r.take m ++ x :: r.drop m
  | x, [], m, _, _ => by simp [insR]
  | x, y :: r, 0, _, h => by
    have := h y (by simp)
    rw [insR, if_neg this]; rfl
  | x, y :: r, m + 1, ha, h => by
    have hy : cmpC x y < 0 := ha y (by simp)
    rw [insR, if_pos hy, insR_at x r m (fun z hz => ha z (by simp [hz])) (fun z hz => h z (by simpa using hz))]
    rfl

/-- where the run stands: x has gone m steps to the left -/
def mid (x : CellA) (r t : List CellA) (m : Nat) : List CellA := (r.drop m).reverse ++ x :: ((r.take m).reverse ++ t)
theorem mid_len (x : CellA) (r t : List CellA) (m : Nat) : (mid x r t m).length = r.length + 1 + t.length := by
  simp only [mid, List.length_append, List.length_reverse, List.length_drop, List.length_cons, List.length_take]; omega
theorem mid_x (x : CellA) (r t : List CellA) (m : Nat) (h : m ≤ r.length) : (mid x r t m)[r.length - m]? = some x := by
  rw [mid, List.getElem?_append_right (by simp)]
  simp
theorem drop_rev {r : List CellA} {m : Nat} {y : CellA} (h : r[m]? = some y) : (r.drop m).reverse = (r.drop (m + 1)).reverse ++ [y] := by
  obtain ⟨hm, rfl⟩ := List.getElem?_eq_some_iff.1 h
  rw [List.drop_eq_getElem_cons hm, List.reverse_cons]
theorem take_rev {r : List CellA} {m : Nat} {y : CellA} (h : r[m]? = some y) : (r.take (m + 1)).reverse = y :: (r.take m).reverse := by
  rw [List.take_add_one, h]; simp
theorem mid_y {x : CellA} {r t : List CellA} {m : Nat} {y : CellA} (h : r[m]? = some y) : (mid x r t m)[r.length - m - 1]? = some y := by
  have hm := (List.getElem?_eq_some_iff.1 h).1
  rw [mid, drop_rev h, List.append_assoc, List.getElem?_append_right (by simp; omega)]
  simp
  have : r.length - m - 1 - (r.length - (m + 1)) = 0 := by omega
  rw [this]; rfl
theorem mid_swap {x : CellA} {r t : List CellA} {m : Nat} {y : CellA} (h : r[m]? = some y) : ((mid x r t m).set (r.length - m) y).set (r.length - m - 1) x = mid x r t (m + 1) := by
  have hm := (List.getElem?_eq_some_iff.1 h).1
  unfold mid
  rw [drop_rev h, take_rev h]
  have e1 : ((r.drop (m + 1)).reverse ++ [y]).length = r.length - m := by simp; omega
  rw [List.set_append_right _ _ (by rw [e1]; exact Nat.le_refl _), e1, Nat.sub_self, List.set_cons_zero, List.append_assoc]
  have e2 : ((r.drop (m + 1)).reverse).length = r.length - m - 1 := by simp; omega
  rw [List.set_append_right _ _ (by rw [e2]; exact Nat.le_refl _), e2, Nat.sub_self]
  simp
theorem mid_end {x : CellA} {r t : List CellA} {m : Nat} (ha : Ahead x r m) (h : ∀ y, r[m]? = some y → ¬ cmpC x y < 0) : mid x r t m = (insR x r).reverse ++ t := by
  rw [insR_at x r m ha h, mid]
  simp
theorem mid_start (x : CellA) (r t : List CellA) : mid x r t 0 = r.reverse ++ x :: t := by simp [mid]

/-- of each run of equal neighbours the first -/
def keepF (p : CellA → CellA → Bool) : CellA → List CellA → List CellA
  | _, [] => []
  | z, x :: r => if p x z then keepF p x r else x :: keepF p x r
def compactL (p : CellA → CellA → Bool) : List CellA → List CellA
  | [] => []
  | x :: r => x :: keepF p x r
theorem keepF_len (p : CellA → CellA → Bool) : ∀ r z, (keepF p z r).length ≤ r.length
  | [], _ => Nat.le_refl _
  | x :: r, z => by
    have := keepF_len p r x
    rw [keepF]; split <;> simp <;> omega
theorem compactL_len (p : CellA → CellA → Bool) : ∀ l, (compactL p l).length ≤ l.length
  | [] => Nat.le_refl _
  | x :: r => by simp [compactL, keepF_len]
theorem compactL_snoc (p : CellA → CellA → Bool) (l : List CellA) (z x : CellA) : compactL p (l ++ [z] ++ [x]) = if p x z then compactL p (l ++ [z]) else compactL p (l ++ [z]) ++ [x] := by
  have key : ∀ (l : List CellA) (y : CellA), keepF p y (l ++ [z] ++ [x]) = if p x z then keepF p y (l ++ [z]) else keepF p y (l ++ [z]) ++ [x] := by
    intro l
    induction l with
    | nil => intro y; simp only [List.nil_append, List.cons_append, keepF]; split <;> split <;> simp
    | cons a l ih => intro y; simp only [List.cons_append, keepF]; rw [List.append_assoc] at ih; simp only [List.append_assoc, ih]; split <;> split <;> simp
  cases l with
  | nil => simp only [List.nil_append, List.cons_append, compactL, keepF]; split <;> simp
  | cons a l => simp only [List.cons_append, compactL]; rw [key]; split <;> simp

end Go.Proofs.Ytihglmicgccgiaa

/-
  The walks of slices.SortStableFunc on at most twenty cells, slices.CompactFunc, slices.Clone; of cells.Sort.
-/
namespace Go.Proofs.Ytihglmicgccgiaa
open Go.RowKit Go.Sort

/-- The comparison value of cells.Sort: chain(keys.Cmp). -/
structure OrderAt (w : World) (gb gs : Nat) : Prop where
  c0 : w.cell? ⟨gb, 0, none⟩ = some (.slice (some ⟨gs, 0, none⟩) 1 1)
  c1 : w.cell? ⟨gs, 0, none⟩ = some (.func (.func 15) #[] #[])
  l0 : gb < w.heap.size
  l1 : gs < w.heap.size

set_option maxHeartbeats 1000000 in
theorem order_any (a b : CellA) (gb gs : Nat) (w : World) (h : OrderAt w gb gs) :
    Calls Try.prog 78 #[a.v, b.v, .pointer (some ⟨gb, 0, none⟩)] w fun e w' => e = .returned (.int .i64 (cmpC a b)) ∧ Below w.heap.size w w' := by
  obtain ⟨c0, c1, l0, l1⟩ := h
  have hcm := Lib.hid fun W => cmp_any a b W
  obtain ⟨z, hz⟩ : ∃ z, cmpC a b = z := ⟨_, rfl⟩
  rw [hz] at hcm ⊢
  clear hz
  obtain ⟨ar, ac, av, ag, al⟩ := a
  obtain ⟨br, bc, bv, bg, bl⟩ := b
  simp only [CellA.v] at hcm ⊢
  by_cases hz : z = 0
  · subst hz
    go_enter Try.func78, Try.ntmps78
    go_wp2
    refine wp_loop_rounds 2 ?_
    rw [rounds_succ]
    go_wp2_with (first | (go_at_call 15; refine (hcm.out _).mono ?_; rintro e w1 ⟨rfl, hb⟩; obtain ⟨hB, hS, hk⟩ := after (B := w.heap.size) (w := w) (by go_grown) (by go_size) hb; clear hb; obtain ⟨c0, f0, z0⟩ := hk (w.heap.size) (by go_size); obtain ⟨c1, f1, z1⟩ := hk (w.heap.size + 1) (by go_size); obtain ⟨c2, f2, z2⟩ := hk (gb) (by go_size); obtain ⟨c3, f3, z3⟩ := hk (gs) (by go_size); clear hk))
    rw [rounds_succ]
    go_wp2
    go_returns
    exact ⟨rfl, by go_grown⟩
  · have hz1 : (z != 0) = true := by simpa using hz
    clear hz
    go_enter Try.func78, Try.ntmps78
    go_wp2
    refine wp_loop_rounds 2 ?_
    rw [rounds_succ]
    go_wp2_with (first | (go_at_call 15; refine (hcm.out _).mono ?_; rintro e w1 ⟨rfl, hb⟩; obtain ⟨hB, hS, hk⟩ := after (B := w.heap.size) (w := w) (by go_grown) (by go_size) hb; clear hb; obtain ⟨c0, f0, z0⟩ := hk (w.heap.size) (by go_size); obtain ⟨c1, f1, z1⟩ := hk (w.heap.size + 1) (by go_size); obtain ⟨c2, f2, z2⟩ := hk (gb) (by go_size); obtain ⟨c3, f3, z3⟩ := hk (gs) (by go_size); clear hk))
    go_returns
    exact ⟨rfl, by go_grown⟩

theorem OrderAt.grown {w w' : World} {gb gs g : Nat} (h : OrderAt w gb gs) (hg : w.grownBy w' (some g)) (h1 : gb ≠ g) (h2 : gs ≠ g) : OrderAt w' gb gs :=
  ⟨hg.cell h.c0 (fun e => h1 (Option.some.inj e)), hg.cell h.c1 (fun e => h2 (Option.some.inj e)), by have := hg.size; have := h.l0; omega, by have := hg.size; have := h.l1; omega⟩
theorem OrderAt.below {w w' : World} {gb gs : Nat} (h : OrderAt w gb gs) (hb : Below w.heap.size w w') : OrderAt w' gb gs :=
  ⟨(hb.cell (p := ⟨gb, 0, none⟩) h.l0).trans h.c0, (hb.cell (p := ⟨gs, 0, none⟩) h.l1).trans h.c1, by have := hb.size; have := h.l0; omega, by have := hb.size; have := h.l1; omega⟩
theorem gb_trans {a b c : World} {g : Nat} (h : a.grownBy b (some g)) (k : b.grownBy c (some g)) : a.grownBy c (some g) :=
  ⟨k.os.trans h.os, k.tape.trans h.tape, k.output.trans h.output, Nat.le_trans h.size k.size, fun i hi hne => (k.block i (by have := h.size; omega) hne).trans (h.block i hi hne)⟩
theorem gb_below {a b c : World} {g : Nat} (h : a.grownBy b (some g)) (k : Below b.heap.size b c) : a.grownBy c (some g) :=
  gb_trans h ⟨k.os, k.tape, k.output, k.size, fun i hi _ => k.block i hi⟩
theorem gb_set {a b : World} {g j : Nat} (h : a.grownBy b (some g)) (v : Value) : a.grownBy (b.setCell ⟨g, j, none⟩ v) (some g) :=
  gb_trans h ⟨rfl, rfl, rfl, by simp, fun i _ hne => Below.heap_setCell _ _ _ _ (fun e => hne (by simp [e]))⟩
theorem gb_drew {a b : World} {g : Nat} (h : a.grownBy b (some g)) : a.grownBy b.drew (some g) := gb_below h ((Below.refl _ _).drew)

/-- one cell of a row of cells -/
theorem Row.cellAt {w : World} {B : Nat} {T : TypeId} {g n cap : Nat} {cs : List CellA} (h : Row w B T 5 (.slice (some ⟨g, 0, none⟩) n cap) n (cs.map cellE).flatten) (hl : cs.length = n) {i : Nat} {c : CellA} (hc : cs[i]? = some c) : CellAt w g (i * 5) c := by
  have hi := (List.getElem?_eq_some_iff.1 hc).1
  have key : ∀ j u, (cellE c)[j]? = some u → j < 5 → w.cell? ⟨g, i * 5 + j, none⟩ = some u := fun j u hu hj => by
    rw [h.cell _ (by omega)]
    exact flatten_get (size := 5) (cellE_elems cs).len i (cellE c) (by simp [hc]) j u hu
  exact ⟨key 0 _ rfl (by omega), key 1 _ rfl (by omega), key 2 _ rfl (by omega), key 3 _ rfl (by omega), key 4 _ rfl (by omega)⟩
theorem Row.cellFree {w : World} {B : Nat} {T : TypeId} {g n cap : Nat} {cs : List CellA} (h : Row w B T 5 (.slice (some ⟨g, 0, none⟩) n cap) n (cs.map cellE).flatten) (hl : cs.length = n) {i : Nat} (hi : i < n) :
    w.frozen? ⟨g, i * 5, none⟩ = false ∧ w.frozen? ⟨g, i * 5 + 1, none⟩ = false ∧ w.frozen? ⟨g, i * 5 + 2, none⟩ = false ∧ w.frozen? ⟨g, i * 5 + 3, none⟩ = false ∧ w.frozen? ⟨g, i * 5 + 4, none⟩ = false :=
  ⟨h.free (by omega), h.free (by omega), h.free (by omega), h.free (by omega), h.free (by omega)⟩
/-- a cell stored into a row -/
def setC (w : World) (g o : Nat) (c : CellA) : World :=
  ((((w.setCell ⟨g, o, none⟩ (.string c.row)).setCell ⟨g, o + 1, none⟩ (.string c.col)).setCell ⟨g, o + 2, none⟩ (.int .u64 c.ver)).setCell ⟨g, o + 3, none⟩ (.bool c.gone)).setCell ⟨g, o + 4, none⟩ (.string c.val)
theorem Row.storeC {w : World} {B : Nat} {T : TypeId} {g n cap : Nat} {cs : List CellA} (h : Row w B T 5 (.slice (some ⟨g, 0, none⟩) n cap) n (cs.map cellE).flatten) (hl : cs.length = n) {i : Nat} (hi : i < n) (c : CellA) :
    Row (setC w g (i * 5) c) B T 5 (.slice (some ⟨g, 0, none⟩) n cap) n ((cs.set i c).map cellE).flatten := by
  have := ((((h.store (k := 0) (j := i * 5) (by omega) (.string c.row)).store (k := 0) (j := i * 5 + 1) (by omega) (.string c.col)).store (k := 0) (j := i * 5 + 2) (by omega) (.int .u64 c.ver)).store (k := 0) (j := i * 5 + 3) (by omega) (.bool c.gone)).store (k := 0) (j := i * 5 + 4) (by omega) (.string c.val)
  rw [flatten_set5 _ (cellE_elems cs).len i _ _ _ _ _ (by simpa [hl] using hi)] at this
  rw [List.map_set]
  exact this
theorem gb_setC {a b : World} {g o : Nat} (h : a.grownBy b (some g)) (c : CellA) : a.grownBy (setC b g o c) (some g) := gb_set (gb_set (gb_set (gb_set (gb_set h _) _) _) _) _
theorem gb_row {a : World} {g : Nat} : a.grownBy a (some g) := World.grownBy.refl a _

set_option maxRecDepth 100000 in
set_option maxHeartbeats 4000000 in
theorem insertion_any (pre seg suf : List CellA) (g cap n a b gb gs B : Nat) (w : World) (ha : pre.length = a) (hb : a + seg.length = b) (hn : (pre ++ seg ++ suf).length = n)
    (hrow : Row w B 31 5 (.slice (some ⟨g, 0, none⟩) n cap) n ((pre ++ seg ++ suf).map cellE).flatten) (ho : OrderAt w gb gs) (h1 : gb ≠ g) (h2 : gs ≠ g) (hle : n ≤ 1000000) :
    Calls Try.prog 86 #[.slice (some ⟨g, 0, none⟩) n cap, .int .i64 a, .int .i64 b, .func (.func 78) #[] #[.pointer (some ⟨gb, 0, none⟩)]] w
      fun e w' => e = .returned (.tuple #[]) ∧ Row w' B 31 5 (.slice (some ⟨g, 0, none⟩) n cap) n ((pre ++ isort seg ++ suf).map cellE).flatten ∧ w.grownBy w' (some g) := by
  have hbn : b ≤ n := by rw [← hn, ← hb, ← ha]; simp
  have hncap : n ≤ cap ∧ cap ≤ maxLen := by
    rcases hrow.form with ⟨h, _⟩ | ⟨g', c', h, _, _, q1, q2⟩
    · cases h
    · cases h; exact ⟨q1, q2⟩
  obtain ⟨hc1, hc2⟩ := hncap
  unfold maxLen at hc2
  have Hrow := Lib.hid hrow
  have Ho := Lib.hid ho
  have Ha := Lib.hid ha
  have Hb := Lib.hid hb
  have Hn := Lib.hid hn
  have hab : a ≤ b := by omega
  clear hrow ho ha hb hn
  go_enter Try.func86, Try.ntmps86
  go_wp2
  go_loopw [8, 9] (fun i _ wr => ∃ k p : Nat, Hid (p = a + k) ∧ 1 ≤ k ∧ p ≤ b + 1 ∧ i = .int .i64 p ∧ Hid (Row wr B 31 5 (.slice (some ⟨g, 0, none⟩) n cap) n ((pre ++ ((isR (seg.take k)).reverse ++ seg.drop k) ++ suf).map cellE).flatten) ∧ Hid (OrderAt wr gb gs) ∧ Hid (w.grownBy wr (some g))) (fun i _ _ => b + 1 - (intOf i).toNat)
  case atStart =>
    refine ⟨1, a + 1, Lib.hid rfl, Nat.le_refl _, by omega, by go_num, Lib.hid ?_, Ho, Lib.hid gb_row⟩
    cases seg with
    | nil => exact Hrow.out
    | cons x r => exact Hrow.out
  case round =>
    obtain ⟨k, p, hp, hk, hpb, rfl, hR, hO, hG⟩ := hrel
    by_cases hlt : p < b
    · obtain ⟨x, hx⟩ : ∃ x, seg[k]? = some x := ⟨_, List.getElem?_eq_getElem (by have := Hb.out; have := hp.out; omega)⟩
      have hkm : k < seg.length := (List.getElem?_eq_some_iff.1 hx).1
      obtain ⟨r, hr⟩ : ∃ r, r = isR (seg.take k) := ⟨_, rfl⟩
      obtain ⟨t, ht⟩ : ∃ t, t = seg.drop (k + 1) ++ suf := ⟨_, rfl⟩
      have Hrl : Hid (r.length = k) := Lib.hid (by rw [hr, isR_len, List.length_take]; omega)
      have HD0 : Hid (pre ++ ((isR (seg.take k)).reverse ++ seg.drop k) ++ suf = pre ++ mid x r t 0) := Lib.hid (by
        obtain ⟨_, hx2⟩ := List.getElem?_eq_some_iff.1 hx
        rw [mid_start, hr, ht, List.drop_eq_getElem_cons hkm, hx2]; simp)
      have HDn : Hid (∀ q, q ≤ k → (pre ++ mid x r t q).length = n) := Lib.hid (fun q hq => by
        have h1 := Hn.out
        have h2 := Hrl.out
        rw [List.length_append, mid_len, ht]
        simp only [List.length_append, List.length_drop] at h1 ⊢
        omega)
      have HDe : Hid (pre ++ ((isR (seg.take (k + 1))).reverse ++ seg.drop (k + 1)) ++ suf = pre ++ ((insR x r).reverse ++ t)) := Lib.hid (by
        rw [show seg.take (k + 1) = seg.take k ++ [x] by rw [List.take_add_one, hx]; rfl, isR_snoc, hr, ht]; simp)
      have HR0 : Hid (Row wr B 31 5 (.slice (some ⟨g, 0, none⟩) n cap) n ((pre ++ mid x r t 0).map cellE).flatten) := Lib.hid (by rw [← HD0.out]; exact hR.out)
      clear hR hx hr ht HD0
      go_wp2
      obtain ⟨wo, rfl⟩ : ∃ wo : World, wo = wr := ⟨_, rfl⟩
      go_loopw [9] (fun j wr => ∃ q J : Nat, q ≤ k ∧ Hid (J + q = p) ∧ J ≤ p ∧ j = .int .i64 J ∧ Hid (Ahead x r q) ∧ Hid (Row wr B 31 5 (.slice (some ⟨g, 0, none⟩) n cap) n ((pre ++ mid x r t q).map cellE).flatten) ∧ Hid (OrderAt wr gb gs) ∧ Hid (w.grownBy wr (some g))) (fun j _ => (intOf j).toNat)
      case atStart => exact ⟨0, p, by omega, Lib.hid (by omega), Nat.le_refl _, rfl, Lib.hid (Ahead.zero x r), HR0, hO, hG⟩
      case round =>
        obtain ⟨q, J, hq, hJ, hJp, rfl, hA, hR, hO2, hG2⟩ := hrel
        by_cases hja : a < J
        · have hqk : q < k := by have := hJ.out; have := hp.out; omega
          obtain ⟨y, hy⟩ : ∃ y, r[q]? = some y := ⟨_, List.getElem?_eq_getElem (by have := Hrl.out; omega)⟩
          obtain ⟨J', rfl⟩ : ∃ J', J = J' + 1 := ⟨J - 1, by omega⟩
          have hJ'n : J' + 1 < n := by omega
          have hix : (pre ++ mid x r t q)[J' + 1]? = some x := by
            have := mid_x x r t q (by have := Hrl.out; omega)
            rw [List.getElem?_append_right (by have := Ha.out; omega), ← this]
            congr 1; have := Ha.out; have := Hrl.out; have := hJ.out; have := hp.out; omega
          have hiy : (pre ++ mid x r t q)[J']? = some y := by
            have := mid_y (x := x) (t := t) hy
            rw [List.getElem?_append_right (by have := Ha.out; omega), ← this]
            congr 1; have := Ha.out; have := Hrl.out; have := hJ.out; have := hp.out; omega
          have hln := HDn.out q (by omega)
          obtain ⟨x0, x1, x2, x3, x4⟩ := hR.out.cellAt hln hix
          obtain ⟨y0, y1, y2, y3, y4⟩ := hR.out.cellAt hln hiy
          obtain ⟨fx0, fx1, fx2, fx3, fx4⟩ := hR.out.cellFree hln hJ'n
          obtain ⟨fy0, fy1, fy2, fy3, fy4⟩ := hR.out.cellFree hln (i := J') (by omega)
          have hcm := Lib.hid fun W h => order_any x y gb gs W h
          obtain ⟨z, hz⟩ : ∃ z, cmpC x y = z := ⟨_, rfl⟩
          rw [hz] at hcm
          have Hz := Lib.hid hz
          have Hy := Lib.hid hy
          have hln := Lib.hid hln
          clear hz hy hix hiy
          by_cases hneg : z < 0
          · have hneg1 : decide (z < 0) = true := by simpa using hneg
            have hjd : decide ((a : Int) < (J' : Int) + 1) = true := by simp; omega
            have hgl : g < wr.heap.size := World.block_lt_of_cell? _ _ x0
            go_wp2
            refine wp_region_below (by kernel_rfl) (by kernel_rfl) (fun hkept => ?_)
            obtain ⟨r0, rf0⟩ := hkept (g) (by go_size); clear hkept
            repeat (any_goals (first | go_big_quiet_step (first | (go_at_call 78; exact Calls.regrown_of (hcm.out _ (hO2.out.below (below_regrown _ _ _))))) | quiet_step (first | (go_at_call 78; exact Calls.regrown_of (hcm.out _ (hO2.out.below (below_regrown _ _ _))))) | (refine wpQuiet_step (fun K hK => ?_); go_simp; split <;> (refine hK _ ?_; clear hK K))))
            all_goals (refine wpQuiet_nil ?_; intro w5 hb; obtain ⟨hB, hS, hk⟩ := after (B := wr.heap.size) (w := wr) (by go_grown) (by go_size) hb; obtain ⟨c0, f0, z0⟩ := hk (g) (by go_size); clear hk hb r0 rf0)
            go_wp2
            go_region
            go_wp2
            have hR5 := (hR.out.below hB).storeC hln.out (i := J' + 1) hJ'n y
            have hR6 := (hR5.storeC (by rw [List.length_set]; exact hln.out) (i := J') (by omega) x).drew
            have hsw : ((pre ++ mid x r t q).set (J' + 1) y).set J' x = pre ++ mid x r t (q + 1) := by
              have e1 : J' + 1 = pre.length + (r.length - q) := by have := Ha.out; have := Hrl.out; have := hJ.out; have := hp.out; omega
              have e2 : J' = pre.length + (r.length - q - 1) := by have := Ha.out; have := Hrl.out; have := hJ.out; have := hp.out; omega
              rw [e1, List.set_append_right _ _ (by omega), Nat.add_sub_cancel_left, e2, List.set_append_right _ _ (by omega), Nat.add_sub_cancel_left, mid_swap Hy.out]
            rw [hsw] at hR6
            have hG6 := gb_drew (gb_setC (gb_setC (gb_below hG2.out hB) (o := (J' + 1) * 5) y) (o := J' * 5) x)
            simp only [setC] at hR6 hG6
            exact ⟨⟨q + 1, J', by omega, Lib.hid (by have := hJ.out; omega), by omega, by go_num, Lib.hid (hA.out.succ Hy.out (by rw [Hz.out]; exact hneg)), Lib.hid hR6, Lib.hid (Ho.out.grown hG6 h1 h2), Lib.hid hG6⟩, by simp [intOf]⟩
          · have hneg1 : decide (z < 0) = false := by simpa using hneg
            have hjd : decide ((a : Int) < (J' : Int) + 1) = true := by simp; omega
            have hgl : g < wr.heap.size := World.block_lt_of_cell? _ _ x0
            have Hend := Lib.hid (mid_end (t := t) hA.out (fun y' hy' => by rw [Hy.out] at hy'; obtain rfl := Option.some.inj hy'; rw [Hz.out]; exact hneg))
            go_wp2
            refine wp_region_below (by kernel_rfl) (by kernel_rfl) (fun hkept => ?_)
            obtain ⟨r0, rf0⟩ := hkept (g) (by go_size); clear hkept
            repeat (any_goals (first | go_big_quiet_step (first | (go_at_call 78; exact Calls.regrown_of (hcm.out _ (hO2.out.below (below_regrown _ _ _))))) | quiet_step (first | (go_at_call 78; exact Calls.regrown_of (hcm.out _ (hO2.out.below (below_regrown _ _ _))))) | (refine wpQuiet_step (fun K hK => ?_); go_simp; split <;> (refine hK _ ?_; clear hK K))))
            all_goals (refine wpQuiet_nil ?_; intro w5 hb; obtain ⟨hB, hS, hk⟩ := after (B := wr.heap.size) (w := wr) (by go_grown) (by go_size) hb; obtain ⟨c0, f0, z0⟩ := hk (g) (by go_size); clear hk hb r0 rf0)
            go_wp2
            have hp2 := hp.out
            exact ⟨⟨k + 1, p + 1, Lib.hid (by omega), by omega, by omega, by go_num, Lib.hid (by rw [HDe.out, ← Hend.out]; exact hR.out.below hB), Lib.hid (hO2.out.below hB), Lib.hid (gb_below hG2.out hB)⟩, by simp [intOf]; omega⟩
        · obtain rfl : q = k := by have := hJ.out; have := hp.out; omega
          have hjd : decide ((a : Int) < (J : Int)) = false := by simp; omega
          have Hend := Lib.hid (mid_end (t := t) hA.out (fun y' hy' => by have := (List.getElem?_eq_some_iff.1 hy').1; have := Hrl.out; omega))
          go_wp2
          refine wp_region_below (by kernel_rfl) (by kernel_rfl) (fun hkept => ?_)
          clear hkept
          repeat (any_goals (first | go_big_quiet_step (fail) | quiet_step (fail) | (refine wpQuiet_step (fun K hK => ?_); go_simp; split <;> (refine hK _ ?_; clear hK K))))
          all_goals (refine wpQuiet_nil ?_; intro w5 hb; obtain ⟨hB, hS, hk⟩ := after (B := wr.heap.size) (w := wr) (by go_grown) (by go_size) hb; clear hk hb)
          go_wp2
          have hp2 := hp.out
          exact ⟨⟨q + 1, p + 1, Lib.hid (by omega), by omega, by omega, by go_num, Lib.hid (by rw [HDe.out, ← Hend.out]; exact hR.out.below hB), Lib.hid (hO2.out.below hB), Lib.hid (gb_below hG2.out hB)⟩, by simp [intOf]; omega⟩
    · have hend : (pre ++ ((isR (seg.take k)).reverse ++ seg.drop k) ++ suf) = pre ++ isort seg ++ suf := by
        have h1 := hp.out
        have h2 := Hb.out
        by_cases hk2 : seg.length ≤ k
        · rw [List.take_of_length_le hk2, List.drop_eq_nil_of_le hk2, List.append_nil]; rfl
        · have h0 : seg.length = 0 := by omega
          omega
      have Hend := Lib.hid hend
      clear hend
      go_wp2
      go_returns
      exact ⟨rfl, by rw [← Hend.out]; exact hR.out, hG.out⟩

set_option maxHeartbeats 1000000 in
theorem stable_small (cs : List CellA) (g cap n gb gs B : Nat) (w : World) (hn : cs.length = n) (hle : n < 20)
    (hrow : Row w B 31 5 (.slice (some ⟨g, 0, none⟩) n cap) n (cs.map cellE).flatten) (ho : OrderAt w gb gs) (h1 : gb ≠ g) (h2 : gs ≠ g) :
    Calls Try.prog 79 #[.slice (some ⟨g, 0, none⟩) n cap, .int .i64 n, .func (.func 78) #[] #[.pointer (some ⟨gb, 0, none⟩)]] w
      fun e w' => e = .returned (.tuple #[]) ∧ Row w' B 31 5 (.slice (some ⟨g, 0, none⟩) n cap) n ((isort cs).map cellE).flatten ∧ w.grownBy w' (some g) := by
  have hins := insertion_any [] cs [] g cap n 0 n gb gs B w rfl (by omega) (by simpa using hn) (by simpa using hrow) ho h1 h2 (by omega)
  simp only [List.nil_append, List.append_nil] at hins
  have Hins := Lib.hid hins
  clear hrow ho hn hins
  go_enter Try.func79, Try.ntmps79
  go_wp2
  refine wp_loop_rounds 1 ?_
  rw [rounds_succ]
  go_wp2_with (go_at_call 86; refine Hins.out.mono ?_; rintro e w1 ⟨rfl, hr, hg⟩; have Hr := Lib.hid hr; have Hg := Lib.hid hg; clear hr hg)
  refine wp_loop_rounds 1 ?_
  rw [rounds_succ]
  go_wp2
  go_returns
  exact ⟨rfl, Hr.out, Hg.out⟩

set_option maxHeartbeats 1000000 in
theorem sortStable_small (cs : List CellA) (g cap n gb gs B : Nat) (w : World) (hn : cs.length = n) (hle : n < 20)
    (hrow : Row w B 31 5 (.slice (some ⟨g, 0, none⟩) n cap) n (cs.map cellE).flatten) (ho : OrderAt w gb gs) (h1 : gb ≠ g) (h2 : gs ≠ g) :
    Calls Try.prog 58 #[.slice (some ⟨g, 0, none⟩) n cap, .func (.func 78) #[] #[.pointer (some ⟨gb, 0, none⟩)]] w
      fun e w' => e = .returned (.tuple #[]) ∧ Row w' B 31 5 (.slice (some ⟨g, 0, none⟩) n cap) n ((isort cs).map cellE).flatten ∧ w.grownBy w' (some g) := by
  have Hins := Lib.hid (stable_small cs g cap n gb gs B w hn hle hrow ho h1 h2)
  clear hrow ho hn
  go_enter Try.func58, Try.ntmps58
  go_wp2_with (go_at_call 79; refine Hins.out.mono ?_; rintro e w1 ⟨rfl, hr, hg⟩; have Hr := Lib.hid hr; have Hg := Lib.hid hg; clear hr hg)
  go_returns
  exact ⟨rfl, Hr.out, Hg.out⟩

/-! ### slices.Clone -/
theorem heap_new (w : World) (o : Obj) : (w.alloc o).heap[w.heap.size]? = some o := by
  show (w.heap.push o)[w.heap.size]? = _
  simp
theorem Try.info_cell : (Try.prog.info? 31).map (fun i => (i.zero, i.size, i.bytes)) = some (some (.agg #[.string ⟨#[]⟩, .string ⟨#[]⟩, .int .u64 0, .bool false, .string ⟨#[]⟩]), 5, 64) := by kernel_rfl

set_option maxHeartbeats 1000000 in
theorem clone_any (ao : Option Addr) (n cap : Nat) (cs : List CellA) (w : World) (h : Cells w ao n cap cs) (hle : n * 64 ≤ 140737488355328) :
    Calls Try.prog 56 #[.slice ao n cap] w fun e w' => ∃ v, e = .returned v ∧ Row w' w.heap.size 31 5 v n (cs.map cellE).flatten ∧ Below w.heap.size w w' := by
  have hl := h.len
  have hcap := Arr.fits h
  have hmax := Arr.max h
  unfold maxLen at hmax
  obtain ⟨i0, hi, hz0, hz1, hz2⟩ := info_parts Try.info_cell
  have H := Lib.hid h
  clear h
  cases ao with
  | none =>
    have h0 : n = 0 := by
      rcases Nat.eq_zero_or_pos n with h | h
      · exact h
      · obtain ⟨_, _, e, _⟩ := Arr.base H.out h; cases e
    subst h0
    obtain rfl := List.eq_nil_of_length_eq_zero hl
    have hnil := fun w => Lib.run_eql_slice_nil (P := Try.prog) w 32 31 none 0 cap 0 0 Try.underlying32
    go_enter Try.func56, Try.ntmps56
    go_wp2
    go_returns
    exact ⟨_, rfl, Row.nil _ _ _ _, Below.refl _ _⟩
  | some a =>
    have hnil := fun w => Lib.run_eql_slice_nil (P := Try.prog) w 32 31 (some a) n cap 0 0 Try.underlying32
    have hr0 : Row (w.alloc (.cells #[] 31)) w.heap.size 31 5 (.slice (some ⟨w.heap.size, 0, none⟩) 0 0) 0 [] :=
      ⟨rfl, .inr ⟨w.heap.size, 0, #[], (0, 0), rfl, Nat.le_refl _, heap_new _ _, .inl rfl, Nat.le_refl _, by unfold maxLen; omega, rfl, rfl⟩⟩
    have Hr0 := Lib.hid hr0
    clear hr0
    go_enter Try.func56, Try.ntmps56
    go_wp2_with (at_builtin; refine wpList_append_arr _ rfl _ _ 32 rfl w.heap.size 31 i0 _ 5 64 Try.underlying32 hi hz0 hz1 hz2 rfl (by decide) _ 0 [] rfl Hr0.out rfl (Arr.below H.out ((Below.refl _ _).alloc (Nat.le_refl _) _)) (by omega) (by unfold maxLen; omega) (by go_size) ?_; intro v1 w1 hr1 hb1 hg1)
    go_returns
    refine ⟨_, rfl, by simpa using hr1, ?_⟩
    exact ((Below.refl _ _).alloc (Nat.le_refl _) _).trans hb1

end Go.Proofs.Ytihglmicgccgiaa

/-
  The walks of slices.CompactFunc with the two tests of package cells; clear on a row.
-/
namespace Go.Proofs.Ytihglmicgccgiaa
open Go.RowKit Go.Sort

theorem Row.takeRow {w : World} {B : Nat} {T : TypeId} {size g n cap k : Nat} {xs : List Value} (h : Row w B T size (.slice (some ⟨g, 0, none⟩) n cap) n xs) (hk : k ≤ n) : Row w B T size (.slice (some ⟨g, 0, none⟩) k cap) k (xs.take (k * size)) := by
  have h0 := h.1
  have hle : k * size ≤ n * size := Nat.mul_le_mul_right _ hk
  refine ⟨by rw [List.length_take]; omega, ?_⟩
  rcases h.2 with ⟨e, _⟩ | ⟨g', cap', cur, fr, h1, h2, h3, h4, h5, h6, h7, h8⟩
  · cases e
  · cases h1
    exact .inr ⟨g, cap, cur, fr, rfl, h2, h3, h4, by omega, h6, h7, by rw [← h8, List.take_take, Nat.min_eq_left hle]⟩

theorem gb_setRow (w : World) (g : Nat) (cs : Array Value) : w.grownBy (w.setRow g cs) (some g) := by
  refine ⟨rfl, rfl, rfl, by simp [World.setRow], fun k _ hne => ?_⟩
  simp only [World.setRow, Array.getElem?_modify]
  rw [if_neg (fun e => hne (by simp [e]))]

/-- clear(s[k:]), s a row of the call's own: what is left is s[:k]. -/
theorem run_clear_row {P : Program} (w : World) (t e : TypeId) (z : Value) (ht : P.underlying t = some (.slice e)) (hv : ∀ w, (zeroValue e).run P w = .ok z w) {size : Nat} (hz : z.cells.size = size) (h1 : ∀ u ∈ z.cells.toList, u.oneCell' = true) (hs : 0 < size)
    {B : Nat} {T : TypeId} {g n cap k : Nat} {xs : List Value} (h : Row w B T size (.slice (some ⟨g, 0, none⟩) n cap) n xs) (hk : k ≤ n) (c : Nat) :
    ∃ w', (∀ ty, (Builtin.clear_ #[t] ty #[.slice (some ⟨g, k * size, none⟩) (n - k) c]).run P w = .ok (.tuple #[]) w') ∧ Row w' B T size (.slice (some ⟨g, 0, none⟩) k cap) k (xs.take (k * size)) ∧ w.grownBy w' (some g) := by
  rcases Nat.eq_zero_or_pos (n - k) with h0 | h0
  · refine ⟨w, fun ty => ?_, h.takeRow hk, World.grownBy.refl w _⟩
    rw [h0]
    simp [Builtin.clear_, run_underlying ht]
  · rcases h.2 with ⟨e', _⟩ | ⟨g', cap', cur, fr, e1, h2, h3, h4, h5, h6, h7, h8⟩
    · cases e'
    · cases e1
      have hzl : (Builtin.zeroCells z.cells (n - k)).toList.length = (n - k) * size := by simp [Builtin.zeroCells, hz]
      have hz1 : ∀ v ∈ (Builtin.zeroCells z.cells (n - k)).toList, v.oneCell' = true := by
        intro v hv'
        simp only [Builtin.zeroCells, Array.toList_map, List.mem_map] at hv'
        obtain ⟨i, _, rfl⟩ := hv'
        have hi : i % z.cells.size < z.cells.size := Nat.mod_lt _ (by omega)
        rw [getElem!_pos z.cells _ hi]
        exact h1 _ (Array.getElem_mem_toList hi)
      have hmul : n * size ≤ cap * size := Nat.mul_le_mul_right _ h5
      have hadd : k * size + (n - k) * size = n * size := by rw [← Nat.add_mul]; congr 1; omega
      have hst := run_storeCells_row (P := P) g T fr (Builtin.zeroCells z.cells (n - k)).toList (k * size) 0 cur w h3 h4 (by rw [hzl]; omega) hz1
      simp only [Nat.add_zero] at hst
      refine ⟨w.setRow g (cur.toList.take (k * size) ++ (Builtin.zeroCells z.cells (n - k)).toList ++ cur.toList.drop (k * size + (Builtin.zeroCells z.cells (n - k)).toList.length)).toArray, fun ty => ?_, ?_, gb_setRow w g _⟩
      · obtain ⟨m, hm⟩ : ∃ m, n - k = m + 1 := ⟨n - k - 1, by omega⟩
        rw [hm] at hst ⊢
        simp [Builtin.clear_, run_underlying ht, hv, hst]
      · have hcur : k * size ≤ cur.toList.length := by simp; omega
        refine ⟨by rw [List.length_take, h.1]; omega, .inr ⟨g, cap, _, fr, rfl, h2, setRow_heap w g cur _ T fr h3, ?_, by omega, h6, ?_, ?_⟩⟩
        · rcases h4 with h4 | h4
          · exact .inl h4
          · refine .inr ?_
            simp only [List.size_toArray, List.length_append, List.length_take, List.length_drop, hzl, Array.length_toList]
            omega
        · simp only [List.size_toArray, List.length_append, List.length_take, List.length_drop, hzl, Array.length_toList]
          omega
        · rw [← h8, List.take_take, Nat.min_eq_left (by omega), List.append_assoc, List.take_left' (by rw [List.length_take]; omega)]

/-! ### The two tests -/
def sameK (a b : CellA) : Bool := decide (cmpC a b = 0)
def samePl (a b : CellA) : Bool := decide (a.row.toList = b.row.toList) && decide (a.col.toList = b.col.toList)

/-- what the test of cells.Sort has captured -/
structure TestAt (w : World) (gv gb gs : Nat) : Prop where
  c0 : w.cell? ⟨gv, 0, none⟩ = some (.func (.func 78) #[] #[.pointer (some ⟨gb, 0, none⟩)])
  l0 : gv < w.heap.size
  ord : OrderAt w gb gs
theorem TestAt.grown {w w' : World} {gv gb gs g : Nat} (h : TestAt w gv gb gs) (hg : w.grownBy w' (some g)) (h0 : gv ≠ g) (h1 : gb ≠ g) (h2 : gs ≠ g) : TestAt w' gv gb gs :=
  ⟨hg.cell h.c0 (fun e => h0 (Option.some.inj e)), by have := hg.size; have := h.l0; omega, h.ord.grown hg h1 h2⟩
theorem TestAt.below {w w' : World} {gv gb gs : Nat} (h : TestAt w gv gb gs) (hb : Below w.heap.size w w') : TestAt w' gv gb gs :=
  ⟨(hb.cell (p := ⟨gv, 0, none⟩) h.l0).trans h.c0, by have := hb.size; have := h.l0; omega, h.ord.below hb⟩

set_option maxHeartbeats 1000000 in
theorem eqS_any (a b : CellA) (gv gb gs : Nat) (w : World) (h : TestAt w gv gb gs) :
    Calls Try.prog 59 #[a.v, b.v, .pointer (some ⟨gv, 0, none⟩)] w fun e w' => e = .returned (.bool (sameK a b)) ∧ Below w.heap.size w w' := by
  obtain ⟨c0, l0, ho⟩ := h
  have hcm := Lib.hid fun W h => order_any a b gb gs W h
  have Ho := Lib.hid ho
  unfold sameK
  generalize cmpC a b = z at *
  clear ho
  obtain ⟨ar, ac, av, ag, al⟩ := a
  obtain ⟨br, bc, bv, bg, bl⟩ := b
  simp only [CellA.v] at hcm ⊢
  go_enter Try.func59, Try.ntmps59
  go_wp2_with (first | (go_at_call 78; refine (hcm.out _ (Ho.out.below (by go_grown))).mono ?_; rintro e w1 ⟨rfl, hb⟩; obtain ⟨hB, hS, hk⟩ := after (B := w.heap.size) (w := w) (by go_grown) (by go_size) hb; clear hb; clear hk))
  go_returns
  exact ⟨ret_bool (by simp [BEq.beq]), by go_grown⟩

set_option maxHeartbeats 400000 in
theorem of_raw (ar ac : ByteArray) (av : Int) (ag : Bool) (al : ByteArray) (w : World) :
    Calls Try.prog 38 #[.agg #[.string ar, .string ac, .int .u64 av, .bool ag, .string al]] w fun e w' => e = .returned (.agg #[.string ar, .string ac]) ∧ Below w.heap.size w w' := by
  go_enter Try.func38, Try.ntmps38
  go_wp2
  go_returns
  exact ⟨rfl, by go_grown⟩

theorem toList_inj {a b : ByteArray} : a.toList = b.toList ↔ a = b := by
  constructor
  · intro h
    rw [Lib.toList_data, Lib.toList_data] at h
    obtain ⟨⟨x⟩⟩ := a
    obtain ⟨⟨y⟩⟩ := b
    simp only at h
    rw [h]
  · intro h; rw [h]

set_option maxHeartbeats 1000000 in
theorem eqN_raw (ar ac : ByteArray) (av : Int) (ag : Bool) (al br bc : ByteArray) (bv : Int) (bg : Bool) (bl : ByteArray) (w : World) :
    Calls Try.prog 37 #[.agg #[.string ar, .string ac, .int .u64 av, .bool ag, .string al], .agg #[.string br, .string bc, .int .u64 bv, .bool bg, .string bl]] w
      fun e w' => e = .returned (.bool (decide (ar.toList = br.toList) && decide (ac.toList = bc.toList))) ∧ Below w.heap.size w w' := by
  by_cases e1 : ar = br
  · subst e1
    by_cases e2 : ac = bc
    · subst e2
      go_enter Try.func37, Try.ntmps37
      go_wp2
      refine wp_region_below (by kernel_rfl) (by kernel_rfl) (fun hkept => ?_)
      obtain ⟨r0, rf0⟩ := hkept (w.heap.size) (by go_size); obtain ⟨r1, rf1⟩ := hkept (w.heap.size + 1) (by go_size); clear hkept
      repeat (any_goals (first | go_big_quiet_step (first | (go_at_call 38; exact Calls.regrown_of (of_raw _ _ _ _ _ _))) | quiet_step (first | (go_at_call 38; exact Calls.regrown_of (of_raw _ _ _ _ _ _))) | (refine wpQuiet_step (fun K hK => ?_); go_simp; split <;> (refine hK _ ?_; clear hK K))))
      all_goals (refine wpQuiet_nil ?_; intro w1 hb; obtain ⟨hB, hS, hk⟩ := after (B := w.heap.size) (w := w) (by go_grown) (by go_size) hb; obtain ⟨c0, f0, z0⟩ := hk (w.heap.size) (by go_size); obtain ⟨c1, f1, z1⟩ := hk (w.heap.size + 1) (by go_size); clear hk hb r0 rf0 r1 rf1)
      go_wp2
      go_returns
      exact ⟨ret_bool (by simp), by go_grown⟩
    · have n2 : ¬ ac.toList = bc.toList := fun h => e2 (toList_inj.1 h)
      have n3 : (ac.toList == bc.toList) = false := by simpa using n2
      go_enter Try.func37, Try.ntmps37
      go_wp2
      refine wp_region_below (by kernel_rfl) (by kernel_rfl) (fun hkept => ?_)
      obtain ⟨r0, rf0⟩ := hkept (w.heap.size) (by go_size); obtain ⟨r1, rf1⟩ := hkept (w.heap.size + 1) (by go_size); clear hkept
      repeat (any_goals (first | go_big_quiet_step (first | (go_at_call 38; exact Calls.regrown_of (of_raw _ _ _ _ _ _))) | quiet_step (first | (go_at_call 38; exact Calls.regrown_of (of_raw _ _ _ _ _ _))) | (refine wpQuiet_step (fun K hK => ?_); go_simp; split <;> (refine hK _ ?_; clear hK K))))
      all_goals (refine wpQuiet_nil ?_; intro w1 hb; obtain ⟨hB, hS, hk⟩ := after (B := w.heap.size) (w := w) (by go_grown) (by go_size) hb; obtain ⟨c0, f0, z0⟩ := hk (w.heap.size) (by go_size); obtain ⟨c1, f1, z1⟩ := hk (w.heap.size + 1) (by go_size); clear hk hb r0 rf0 r1 rf1)
      go_wp2
      go_returns
      exact ⟨ret_bool (by simp [n2]), by go_grown⟩
  · have n2 : ¬ ar.toList = br.toList := fun h => e1 (toList_inj.1 h)
    have n3 : (ar.toList == br.toList) = false := by simpa using n2
    go_enter Try.func37, Try.ntmps37
    go_wp2
    refine wp_region_below (by kernel_rfl) (by kernel_rfl) (fun hkept => ?_)
    obtain ⟨r0, rf0⟩ := hkept (w.heap.size) (by go_size); obtain ⟨r1, rf1⟩ := hkept (w.heap.size + 1) (by go_size); clear hkept
    repeat (any_goals (first | go_big_quiet_step (first | (go_at_call 38; exact Calls.regrown_of (of_raw _ _ _ _ _ _))) | quiet_step (first | (go_at_call 38; exact Calls.regrown_of (of_raw _ _ _ _ _ _))) | (refine wpQuiet_step (fun K hK => ?_); go_simp; split <;> (refine hK _ ?_; clear hK K))))
    all_goals (refine wpQuiet_nil ?_; intro w1 hb; obtain ⟨hB, hS, hk⟩ := after (B := w.heap.size) (w := w) (by go_grown) (by go_size) hb; obtain ⟨c0, f0, z0⟩ := hk (w.heap.size) (by go_size); obtain ⟨c1, f1, z1⟩ := hk (w.heap.size + 1) (by go_size); clear hk hb r0 rf0 r1 rf1)
    go_wp2
    go_returns
    exact ⟨ret_bool (by simp [n2]), by go_grown⟩
theorem eqN_any (a b : CellA) (w : World) :
    Calls Try.prog 37 #[a.v, b.v] w fun e w' => e = .returned (.bool (samePl a b)) ∧ Below w.heap.size w w' := eqN_raw _ _ _ _ _ _ _ _ _ _ w

def IS (gv gb gs g : Nat) (w : World) : Prop := TestAt w gv gb gs ∧ gv ≠ g ∧ gb ≠ g ∧ gs ≠ g
theorem IS.grown {w w' : World} {gv gb gs g : Nat} (h : IS gv gb gs g w) (hg : w.grownBy w' (some g)) : IS gv gb gs g w' := ⟨h.1.grown hg h.2.1 h.2.2.1 h.2.2.2, h.2⟩
theorem IS.below {w w' : World} {gv gb gs g : Nat} (h : IS gv gb gs g w) (hb : Below w.heap.size w w') : IS gv gb gs g w' := ⟨h.1.below hb, h.2⟩
def IN (_ : Nat) (_ : World) : Prop := True
theorem IN.grown {w w' : World} {g : Nat} (h : IN g w) (_ : w.grownBy w' (some g)) : IN g w' := h
theorem IN.below {w w' : World} {g : Nat} (h : IN g w) (_ : Below w.heap.size w w') : IN g w' := h
theorem eqS_inv (gv gb gs g : Nat) (a b : CellA) (w : World) (h : IS gv gb gs g w) :
    Calls Try.prog 59 #[a.v, b.v, .pointer (some ⟨gv, 0, none⟩)] w fun e w' => e = .returned (.bool (sameK a b)) ∧ Below w.heap.size w w' := eqS_any a b gv gb gs w h.1
theorem eqN_inv (g : Nat) (a b : CellA) (w : World) (_ : IN g w) :
    Calls Try.prog 37 #[a.v, b.v] w fun e w' => e = .returned (.bool (samePl a b)) ∧ Below w.heap.size w w' := eqN_any a b w
theorem compactL_one {p : CellA → CellA → Bool} : ∀ {l : List CellA}, l.length ≤ 1 → compactL p l = l
  | [], _ => rfl
  | [_], _ => rfl
  | _ :: _ :: _, h => by simp at h
theorem compactL_step {p : CellA → CellA → Bool} {cs : List CellA} {j : Nat} {z x : CellA} (hz : cs[j]? = some z) (hx : cs[j + 1]? = some x) : compactL p (cs.take (j + 1 + 1)) = if p x z then compactL p (cs.take (j + 1)) else compactL p (cs.take (j + 1)) ++ [x] := by
  have e1 : cs.take (j + 1) = cs.take j ++ [z] := by rw [List.take_add_one, hz]; rfl
  have e2 : cs.take (j + 1 + 1) = cs.take j ++ [z] ++ [x] := by rw [List.take_add_one, hx, e1]; rfl
  rw [e2, compactL_snoc, e1]
theorem CellAt.eq {w : World} {b o o' : Nat} {c : CellA} (h : CellAt w b o c) (e : o' = o) : CellAt w b o' c := by subst e; exact h

set_option maxRecDepth 100000 in
set_option maxHeartbeats 4000000 in
theorem compactS_any (cs : List CellA) (g cap n B : Nat) (gv gb gs : Nat) (w : World) (hn : cs.length = n) (hrow : Row w B 31 5 (.slice (some ⟨g, 0, none⟩) n cap) n (cs.map cellE).flatten) (hi : IS gv gb gs g w) (hle : n ≤ 1000000) :
    Calls Try.prog 36 #[.slice (some ⟨g, 0, none⟩) n cap, .func (.func 59) #[] #[.pointer (some ⟨gv, 0, none⟩)]] w
      fun e w' => e = .returned (.slice (some ⟨g, 0, none⟩) (compactL sameK cs).length cap) ∧ Row w' B 31 5 (.slice (some ⟨g, 0, none⟩) (compactL sameK cs).length cap) (compactL sameK cs).length ((compactL sameK cs).map cellE).flatten ∧ w.grownBy w' (some g) := by
  have hncap : n ≤ cap ∧ cap ≤ maxLen := by
    rcases hrow.form with ⟨h, _⟩ | ⟨g', c', h, _, _, q1, q2⟩
    · cases h
    · cases h; exact ⟨q1, q2⟩
  obtain ⟨hc1, hc2⟩ := hncap
  unfold maxLen at hc2
  have Hrow := Lib.hid hrow
  have Hi := Lib.hid hi
  have Hn := Lib.hid hn
  clear hrow hi hn
  by_cases h2 : n < 2
  · have hk := compactL_one (p := sameK) (l := cs) (by rw [Hn.out]; omega)
    rw [hk, Hn.out]
    clear hk
    go_enter Try.func36, Try.ntmps36
    go_wp2
    go_returns
    exact ⟨rfl, Hrow.out, gb_row⟩
  · go_enter Try.func36, Try.ntmps36
    go_wp2
    go_loopw [5, 6, 7] (fun i _ _ wr => ∃ j : Nat, j + 1 ≤ n ∧ i = .int .i64 (j + 1 : Nat) ∧ Hid (Row wr B 31 5 (.slice (some ⟨g, 0, none⟩) n cap) n (cs.map cellE).flatten) ∧ Hid (compactL sameK (cs.take (j + 1)) = cs.take (j + 1)) ∧ Hid (IS gv gb gs g wr) ∧ Hid (w.grownBy wr (some g))) (fun i _ _ _ => n - (intOf i).toNat)
    case atStart => exact ⟨0, by omega, rfl, Hrow, Lib.hid (compactL_one (by rw [List.length_take]; omega)), Hi, Lib.hid gb_row⟩
    case round =>
      obtain ⟨j, hj, rfl, hR, hC, hI, hG⟩ := hrel
      by_cases hlt : j + 1 < n
      · obtain ⟨x, hx⟩ : ∃ x, cs[j + 1]? = some x := ⟨_, List.getElem?_eq_getElem (by rw [Hn.out]; omega)⟩
        obtain ⟨z, hz⟩ : ∃ z, cs[j]? = some z := ⟨_, List.getElem?_eq_getElem (by rw [Hn.out]; omega)⟩
        obtain ⟨x0, x1, x2, x3, x4⟩ := hR.out.cellAt Hn.out hx
        obtain ⟨z0, z1, z2, z3, z4⟩ := hR.out.cellAt Hn.out hz
        have Hst := Lib.hid (compactL_step (p := sameK) hz hx)
        have Hx := Lib.hid hx
        have Hz := Lib.hid hz
        have hgl : g < wr.heap.size := World.block_lt_of_cell? _ _ x0
        clear hx hz
        have heq := Lib.hid fun W h => eqS_inv gv gb gs g x z W h
        cases hb : sameK x z
        · rw [hb] at heq
          have Hb := Lib.hid hb
          clear hb
          go_wp2
          refine wp_region_below (by kernel_rfl) (by kernel_rfl) (fun hkept => ?_)
          obtain ⟨r0, rf0⟩ := hkept (g) (by go_size); clear hkept
          repeat (any_goals (first | go_big_quiet_step (first | (go_at_call 59; exact Calls.regrown_of (heq.out _ (hI.out.below (below_regrown _ _ _))))) | quiet_step (first | (go_at_call 59; exact Calls.regrown_of (heq.out _ (hI.out.below (below_regrown _ _ _))))) | (refine wpQuiet_step (fun K hK => ?_); go_simp; split <;> (refine hK _ ?_; clear hK K))))
          all_goals (refine wpQuiet_nil ?_; intro w5 hb; obtain ⟨hB, hS, hk⟩ := after (B := wr.heap.size) (w := wr) (by go_grown) (by go_size) hb; obtain ⟨c0, f0, z0⟩ := hk (g) (by go_size); clear hk hb r0 rf0)
          go_wp2
          have hnx : compactL sameK (cs.take (j + 1 + 1)) = cs.take (j + 1 + 1) := by rw [Hst.out, Hb.out, hC.out, List.take_add_one (i := j + 1), Hx.out]; rfl
          exact ⟨⟨j + 1, by omega, by go_num, Lib.hid (hR.out.below hB), Lib.hid hnx, Lib.hid (hI.out.below hB), Lib.hid (gb_below hG.out hB)⟩, by simp [intOf]; omega⟩
        · rw [hb] at heq
          have Hb := Lib.hid hb
          clear hb
          go_wp2
          refine wp_region_below (by kernel_rfl) (by kernel_rfl) (fun hkept => ?_)
          obtain ⟨r0, rf0⟩ := hkept (g) (by go_size); clear hkept
          repeat (any_goals (first | go_big_quiet_step (first | (go_at_call 59; exact Calls.regrown_of (heq.out _ (hI.out.below (below_regrown _ _ _))))) | quiet_step (first | (go_at_call 59; exact Calls.regrown_of (heq.out _ (hI.out.below (below_regrown _ _ _))))) | (refine wpQuiet_step (fun K hK => ?_); go_simp; split <;> (refine hK _ ?_; clear hK K))))
          all_goals (refine wpQuiet_nil ?_; intro w5 hb; obtain ⟨hB, hS, hk⟩ := after (B := wr.heap.size) (w := wr) (by go_grown) (by go_size) hb; obtain ⟨c0, f0, z0⟩ := hk (g) (by go_size); clear hk hb r0 rf0)
          go_wp2
          have hR5 := Lib.hid (hR.out.below hB)
          have hI5 := Lib.hid (hI.out.below hB)
          have hG5 := Lib.hid (gb_below hG.out hB)
          have hk0 : Hid (compactL sameK (cs.take (j + 1 + 1)) = cs.take (j + 1)) := Lib.hid (by rw [Hst.out, Hb.out, hC.out]; rfl)
          clear x0 x1 x2 x3 x4 z1 z2 z3 z4 c0 f0 z0 hgl hR hI hG heq hB
          go_loopw [5, 7] (fun kk q wr => ∃ (m p : Nat) (D : List CellA), p + 1 + (j + 1) ≤ n ∧ q = .int .i64 (p + 1 : Nat) ∧ kk = .int .i64 m ∧ m ≤ j + 1 + p ∧ Hid (D.length = n) ∧ Hid (Row wr B 31 5 (.slice (some ⟨g, 0, none⟩) n cap) n (D.map cellE).flatten) ∧
            Hid (D.drop (j + 1 + p) = cs.drop (j + 1 + p)) ∧ Hid (D.take m = compactL sameK (cs.take (j + 1 + p + 1))) ∧ Hid (IS gv gb gs g wr) ∧ Hid (w.grownBy wr (some g))) (fun _ q _ => n - (intOf q).toNat)
          case atStart => exact ⟨j + 1, 0, cs, by omega, rfl, rfl, by omega, Hn, hR5, Lib.hid rfl, Lib.hid hk0.out.symm, hI5, hG5⟩
          case round =>
            obtain ⟨m, p, D, hp, rfl, rfl, hm, hDl, hR, hDd, hDt, hI, hG⟩ := hrel
            by_cases hlt2 : p + 1 + (j + 1) < n
            · obtain ⟨x', hx'⟩ : ∃ x', cs[j + 1 + p + 1]? = some x' := ⟨_, List.getElem?_eq_getElem (by rw [Hn.out]; omega)⟩
              obtain ⟨z', hz'⟩ : ∃ z', cs[j + 1 + p]? = some z' := ⟨_, List.getElem?_eq_getElem (by rw [Hn.out]; omega)⟩
              have hDx : D[j + 1 + p + 1]? = some x' := by
                have := congrArg (fun l => l[1]?) hDd.out
                simpa [List.getElem?_drop, hx'] using this
              have hDz : D[j + 1 + p]? = some z' := by
                have := congrArg (fun l => l[0]?) hDd.out
                simpa [List.getElem?_drop, hz'] using this
              obtain ⟨x0, x1, x2, x3, x4⟩ := (hR.out.cellAt hDl.out hDx).eq (o' := (j + 1) * 5 + (p + 1) * 5) (by omega)
              obtain ⟨z0, z1, z2, z3, z4⟩ := (hR.out.cellAt hDl.out hDz).eq (o' := (j + 1) * 5 + p * 5) (by omega)
              obtain ⟨fy0, fy1, fy2, fy3, fy4⟩ := hR.out.cellFree hDl.out (i := m) (by omega)
              obtain ⟨y', hy'⟩ : ∃ y', D[m]? = some y' := ⟨_, List.getElem?_eq_getElem (by rw [hDl.out]; omega)⟩
              obtain ⟨y0, y1, y2, y3, y4⟩ := hR.out.cellAt hDl.out hy'
              have Hst' := Lib.hid (compactL_step (p := sameK) hz' hx')
              have Hx' := Lib.hid hx'
              have hgl : g < wr.heap.size := World.block_lt_of_cell? _ _ x0
              have heq := Lib.hid fun W h => eqS_inv gv gb gs g x' z' W h
              clear hx' hz' hDx hDz hy'
              cases hb : sameK x' z'
              · rw [hb] at heq
                have Hb' := Lib.hid hb
                clear hb
                go_wp2
                refine wp_region_below (by kernel_rfl) (by kernel_rfl) (fun hkept => ?_)
                obtain ⟨r0, rf0⟩ := hkept (g) (by go_size); clear hkept
                repeat (any_goals (first | go_big_quiet_step (first | (go_at_call 59; exact Calls.regrown_of (heq.out _ (hI.out.below (below_regrown _ _ _))))) | quiet_step (first | (go_at_call 59; exact Calls.regrown_of (heq.out _ (hI.out.below (below_regrown _ _ _))))) | (refine wpQuiet_step (fun K hK => ?_); go_simp; split <;> (refine hK _ ?_; clear hK K))))
                all_goals (refine wpQuiet_nil ?_; intro w6 hb; obtain ⟨hB, hS, hk⟩ := after (B := wr.heap.size) (w := wr) (by go_grown) (by go_size) hb; obtain ⟨c0, f0, z0⟩ := hk (g) (by go_size); clear hk hb r0 rf0)
                go_wp2
                have hR6 := (hR.out.below hB).storeC hDl.out (i := m) (by omega) x'
                have hG6 := gb_setC (gb_below hG.out hB) (o := m * 5) x'
                have hI6 := (hI.out.below hB).grown (gb_setC gb_row (o := m * 5) x')
                have e1 : (D.set m x').drop (j + 1 + (p + 1)) = cs.drop (j + 1 + (p + 1)) := by
                  rw [List.drop_set_of_lt (by omega)]
                  have := congrArg (List.drop 1) hDd.out
                  simpa [List.drop_drop, Nat.add_assoc] using this
                have e2 : (D.set m x').take (m + 1) = compactL sameK (cs.take (j + 1 + (p + 1) + 1)) := by
                  have hml : m < D.length := by rw [hDl.out]; omega
                  rw [show j + 1 + (p + 1) + 1 = j + 1 + p + 1 + 1 by omega, Hst'.out, Hb'.out, ← hDt.out, List.take_add_one, List.getElem?_set_self hml, List.take_set_of_le (Nat.le_refl _)]; rfl
                simp only [setC] at hR6 hG6 hI6
                exact ⟨⟨m + 1, p + 1, D.set m x', by omega, by go_num, by go_num, by omega, Lib.hid (by rw [List.length_set]; exact hDl.out), Lib.hid hR6, Lib.hid e1, Lib.hid e2, Lib.hid hI6, Lib.hid hG6⟩, by simp [intOf]; omega⟩
              · rw [hb] at heq
                have Hb' := Lib.hid hb
                clear hb
                go_wp2
                refine wp_region_below (by kernel_rfl) (by kernel_rfl) (fun hkept => ?_)
                obtain ⟨r0, rf0⟩ := hkept (g) (by go_size); clear hkept
                repeat (any_goals (first | go_big_quiet_step (first | (go_at_call 59; exact Calls.regrown_of (heq.out _ (hI.out.below (below_regrown _ _ _))))) | quiet_step (first | (go_at_call 59; exact Calls.regrown_of (heq.out _ (hI.out.below (below_regrown _ _ _))))) | (refine wpQuiet_step (fun K hK => ?_); go_simp; split <;> (refine hK _ ?_; clear hK K))))
                all_goals (refine wpQuiet_nil ?_; intro w6 hb; obtain ⟨hB, hS, hk⟩ := after (B := wr.heap.size) (w := wr) (by go_grown) (by go_size) hb; obtain ⟨c0, f0, z0⟩ := hk (g) (by go_size); clear hk hb r0 rf0)
                go_wp2
                have e1 : D.drop (j + 1 + (p + 1)) = cs.drop (j + 1 + (p + 1)) := by
                  have := congrArg (List.drop 1) hDd.out
                  simpa [List.drop_drop, Nat.add_assoc] using this
                have e2 : D.take m = compactL sameK (cs.take (j + 1 + (p + 1) + 1)) := by
                  rw [show j + 1 + (p + 1) + 1 = j + 1 + p + 1 + 1 by omega, Hst'.out, Hb'.out, ← hDt.out]; rfl
                exact ⟨⟨m, p + 1, D, by omega, by go_num, rfl, by omega, hDl, Lib.hid (hR.out.below hB), Lib.hid e1, Lib.hid e2, Lib.hid (hI.out.below hB), Lib.hid (gb_below hG.out hB)⟩, by simp [intOf]; omega⟩
            · have hall : cs.take (j + 1 + p + 1) = cs := List.take_of_length_le (by rw [Hn.out]; omega)
              have hml : m ≤ D.length := by rw [hDl.out]; omega
              have hlen : (compactL sameK cs).length = m := by rw [← hall, ← hDt.out, List.length_take]; omega
              obtain ⟨w7, hclr, hR7, hG7⟩ := run_clear_row (P := Try.prog) wr 32 31 (.agg #[.string ⟨#[]⟩, .string ⟨#[]⟩, .int .u64 0, .bool false, .string ⟨#[]⟩]) Try.underlying32 (fun w => by kernel_rfl) (size := 5) rfl (by intro u hu; simp [Value.cells] at hu; rcases hu with rfl | rfl | rfl | rfl | rfl <;> rfl) (by decide) hR.out (k := m) (by omega) (cap - m)
              have Hlen := Lib.hid hlen
              have HR7 : Hid (Row w7 B 31 5 (.slice (some ⟨g, 0, none⟩) m cap) m ((compactL sameK cs).map cellE).flatten) := Lib.hid (by
                have e : (D.map cellE).flatten.take (m * 5) = ((compactL sameK cs).map cellE).flatten := by
                  rw [← hall, ← hDt.out, List.map_take]
                  have h1 := flatten_len (size := 5) (es := (D.map cellE).take m) (fun e he => (cellE_elems D).len e (List.mem_of_mem_take he))
                  rw [List.length_take, List.length_map, Nat.min_eq_left hml] at h1
                  have h2 : (D.map cellE).flatten = ((D.map cellE).take m).flatten ++ ((D.map cellE).drop m).flatten := by rw [← List.flatten_append, List.take_append_drop]
                  rw [h2, List.take_left' h1]
                rw [← e]; exact hR7)
              have HG7 := Lib.hid (gb_trans hG.out hG7)
              clear hall hlen hR7 hG7 hml
              go_wp2
              go_returns
              exact ⟨by rw [Hlen.out]; rfl, by rw [Hlen.out]; exact HR7.out, HG7.out⟩
      · have hall : cs.take (j + 1) = cs := List.take_of_length_le (by rw [Hn.out]; omega)
        have hk : compactL sameK cs = cs := by have := hC.out; rwa [hall] at this
        have Hk := Lib.hid hk
        clear hk hall
        go_wp2
        go_returns
        exact ⟨by rw [Hk.out, Hn.out]; rfl, by rw [Hk.out, Hn.out]; exact hR.out, hG.out⟩

set_option maxRecDepth 100000 in
set_option maxHeartbeats 4000000 in
theorem compactN_any (cs : List CellA) (g cap n B : Nat)  (w : World) (hn : cs.length = n) (hrow : Row w B 31 5 (.slice (some ⟨g, 0, none⟩) n cap) n (cs.map cellE).flatten) (hi : IN g w) (hle : n ≤ 1000000) :
    Calls Try.prog 36 #[.slice (some ⟨g, 0, none⟩) n cap, .func (.func 37) #[] #[]] w
      fun e w' => e = .returned (.slice (some ⟨g, 0, none⟩) (compactL samePl cs).length cap) ∧ Row w' B 31 5 (.slice (some ⟨g, 0, none⟩) (compactL samePl cs).length cap) (compactL samePl cs).length ((compactL samePl cs).map cellE).flatten ∧ w.grownBy w' (some g) := by
  have hncap : n ≤ cap ∧ cap ≤ maxLen := by
    rcases hrow.form with ⟨h, _⟩ | ⟨g', c', h, _, _, q1, q2⟩
    · cases h
    · cases h; exact ⟨q1, q2⟩
  obtain ⟨hc1, hc2⟩ := hncap
  unfold maxLen at hc2
  have Hrow := Lib.hid hrow
  have Hi := Lib.hid hi
  have Hn := Lib.hid hn
  clear hrow hi hn
  by_cases h2 : n < 2
  · have hk := compactL_one (p := samePl) (l := cs) (by rw [Hn.out]; omega)
    rw [hk, Hn.out]
    clear hk
    go_enter Try.func36, Try.ntmps36
    go_wp2
    go_returns
    exact ⟨rfl, Hrow.out, gb_row⟩
  · go_enter Try.func36, Try.ntmps36
    go_wp2
    go_loopw [5, 6, 7] (fun i _ _ wr => ∃ j : Nat, j + 1 ≤ n ∧ i = .int .i64 (j + 1 : Nat) ∧ Hid (Row wr B 31 5 (.slice (some ⟨g, 0, none⟩) n cap) n (cs.map cellE).flatten) ∧ Hid (compactL samePl (cs.take (j + 1)) = cs.take (j + 1)) ∧ Hid (IN g wr) ∧ Hid (w.grownBy wr (some g))) (fun i _ _ _ => n - (intOf i).toNat)
    case atStart => exact ⟨0, by omega, rfl, Hrow, Lib.hid (compactL_one (by rw [List.length_take]; omega)), Hi, Lib.hid gb_row⟩
    case round =>
      obtain ⟨j, hj, rfl, hR, hC, hI, hG⟩ := hrel
      by_cases hlt : j + 1 < n
      · obtain ⟨x, hx⟩ : ∃ x, cs[j + 1]? = some x := ⟨_, List.getElem?_eq_getElem (by rw [Hn.out]; omega)⟩
        obtain ⟨z, hz⟩ : ∃ z, cs[j]? = some z := ⟨_, List.getElem?_eq_getElem (by rw [Hn.out]; omega)⟩
        obtain ⟨x0, x1, x2, x3, x4⟩ := hR.out.cellAt Hn.out hx
        obtain ⟨z0, z1, z2, z3, z4⟩ := hR.out.cellAt Hn.out hz
        have Hst := Lib.hid (compactL_step (p := samePl) hz hx)
        have Hx := Lib.hid hx
        have Hz := Lib.hid hz
        have hgl : g < wr.heap.size := World.block_lt_of_cell? _ _ x0
        clear hx hz
        have heq := Lib.hid fun W h => eqN_inv g x z W h
        cases hb : samePl x z
        · rw [hb] at heq
          have Hb := Lib.hid hb
          clear hb
          go_wp2
          refine wp_region_below (by kernel_rfl) (by kernel_rfl) (fun hkept => ?_)
          obtain ⟨r0, rf0⟩ := hkept (g) (by go_size); clear hkept
          repeat (any_goals (first | go_big_quiet_step (first | (go_at_call 37; exact Calls.regrown_of (heq.out _ (hI.out.below (below_regrown _ _ _))))) | quiet_step (first | (go_at_call 37; exact Calls.regrown_of (heq.out _ (hI.out.below (below_regrown _ _ _))))) | (refine wpQuiet_step (fun K hK => ?_); go_simp; split <;> (refine hK _ ?_; clear hK K))))
          all_goals (refine wpQuiet_nil ?_; intro w5 hb; obtain ⟨hB, hS, hk⟩ := after (B := wr.heap.size) (w := wr) (by go_grown) (by go_size) hb; obtain ⟨c0, f0, z0⟩ := hk (g) (by go_size); clear hk hb r0 rf0)
          go_wp2
          have hnx : compactL samePl (cs.take (j + 1 + 1)) = cs.take (j + 1 + 1) := by rw [Hst.out, Hb.out, hC.out, List.take_add_one (i := j + 1), Hx.out]; rfl
          exact ⟨⟨j + 1, by omega, by go_num, Lib.hid (hR.out.below hB), Lib.hid hnx, Lib.hid (hI.out.below hB), Lib.hid (gb_below hG.out hB)⟩, by simp [intOf]; omega⟩
        · rw [hb] at heq
          have Hb := Lib.hid hb
          clear hb
          go_wp2
          refine wp_region_below (by kernel_rfl) (by kernel_rfl) (fun hkept => ?_)
          obtain ⟨r0, rf0⟩ := hkept (g) (by go_size); clear hkept
          repeat (any_goals (first | go_big_quiet_step (first | (go_at_call 37; exact Calls.regrown_of (heq.out _ (hI.out.below (below_regrown _ _ _))))) | quiet_step (first | (go_at_call 37; exact Calls.regrown_of (heq.out _ (hI.out.below (below_regrown _ _ _))))) | (refine wpQuiet_step (fun K hK => ?_); go_simp; split <;> (refine hK _ ?_; clear hK K))))
          all_goals (refine wpQuiet_nil ?_; intro w5 hb; obtain ⟨hB, hS, hk⟩ := after (B := wr.heap.size) (w := wr) (by go_grown) (by go_size) hb; obtain ⟨c0, f0, z0⟩ := hk (g) (by go_size); clear hk hb r0 rf0)
          go_wp2
          have hR5 := Lib.hid (hR.out.below hB)
          have hI5 := Lib.hid (hI.out.below hB)
          have hG5 := Lib.hid (gb_below hG.out hB)
          have hk0 : Hid (compactL samePl (cs.take (j + 1 + 1)) = cs.take (j + 1)) := Lib.hid (by rw [Hst.out, Hb.out, hC.out]; rfl)
          clear x0 x1 x2 x3 x4 z1 z2 z3 z4 c0 f0 z0 hgl hR hI hG heq hB
          go_loopw [5, 7] (fun kk q wr => ∃ (m p : Nat) (D : List CellA), p + 1 + (j + 1) ≤ n ∧ q = .int .i64 (p + 1 : Nat) ∧ kk = .int .i64 m ∧ m ≤ j + 1 + p ∧ Hid (D.length = n) ∧ Hid (Row wr B 31 5 (.slice (some ⟨g, 0, none⟩) n cap) n (D.map cellE).flatten) ∧
            Hid (D.drop (j + 1 + p) = cs.drop (j + 1 + p)) ∧ Hid (D.take m = compactL samePl (cs.take (j + 1 + p + 1))) ∧ Hid (IN g wr) ∧ Hid (w.grownBy wr (some g))) (fun _ q _ => n - (intOf q).toNat)
          case atStart => exact ⟨j + 1, 0, cs, by omega, rfl, rfl, by omega, Hn, hR5, Lib.hid rfl, Lib.hid hk0.out.symm, hI5, hG5⟩
          case round =>
            obtain ⟨m, p, D, hp, rfl, rfl, hm, hDl, hR, hDd, hDt, hI, hG⟩ := hrel
            by_cases hlt2 : p + 1 + (j + 1) < n
            · obtain ⟨x', hx'⟩ : ∃ x', cs[j + 1 + p + 1]? = some x' := ⟨_, List.getElem?_eq_getElem (by rw [Hn.out]; omega)⟩
              obtain ⟨z', hz'⟩ : ∃ z', cs[j + 1 + p]? = some z' := ⟨_, List.getElem?_eq_getElem (by rw [Hn.out]; omega)⟩
              have hDx : D[j + 1 + p + 1]? = some x' := by
                have := congrArg (fun l => l[1]?) hDd.out
                simpa [List.getElem?_drop, hx'] using this
              have hDz : D[j + 1 + p]? = some z' := by
                have := congrArg (fun l => l[0]?) hDd.out
                simpa [List.getElem?_drop, hz'] using this
              obtain ⟨x0, x1, x2, x3, x4⟩ := (hR.out.cellAt hDl.out hDx).eq (o' := (j + 1) * 5 + (p + 1) * 5) (by omega)
              obtain ⟨z0, z1, z2, z3, z4⟩ := (hR.out.cellAt hDl.out hDz).eq (o' := (j + 1) * 5 + p * 5) (by omega)
              obtain ⟨fy0, fy1, fy2, fy3, fy4⟩ := hR.out.cellFree hDl.out (i := m) (by omega)
              obtain ⟨y', hy'⟩ : ∃ y', D[m]? = some y' := ⟨_, List.getElem?_eq_getElem (by rw [hDl.out]; omega)⟩
              obtain ⟨y0, y1, y2, y3, y4⟩ := hR.out.cellAt hDl.out hy'
              have Hst' := Lib.hid (compactL_step (p := samePl) hz' hx')
              have Hx' := Lib.hid hx'
              have hgl : g < wr.heap.size := World.block_lt_of_cell? _ _ x0
              have heq := Lib.hid fun W h => eqN_inv g x' z' W h
              clear hx' hz' hDx hDz hy'
              cases hb : samePl x' z'
              · rw [hb] at heq
                have Hb' := Lib.hid hb
                clear hb
                go_wp2
                refine wp_region_below (by kernel_rfl) (by kernel_rfl) (fun hkept => ?_)
                obtain ⟨r0, rf0⟩ := hkept (g) (by go_size); clear hkept
                repeat (any_goals (first | go_big_quiet_step (first | (go_at_call 37; exact Calls.regrown_of (heq.out _ (hI.out.below (below_regrown _ _ _))))) | quiet_step (first | (go_at_call 37; exact Calls.regrown_of (heq.out _ (hI.out.below (below_regrown _ _ _))))) | (refine wpQuiet_step (fun K hK => ?_); go_simp; split <;> (refine hK _ ?_; clear hK K))))
                all_goals (refine wpQuiet_nil ?_; intro w6 hb; obtain ⟨hB, hS, hk⟩ := after (B := wr.heap.size) (w := wr) (by go_grown) (by go_size) hb; obtain ⟨c0, f0, z0⟩ := hk (g) (by go_size); clear hk hb r0 rf0)
                go_wp2
                have hR6 := (hR.out.below hB).storeC hDl.out (i := m) (by omega) x'
                have hG6 := gb_setC (gb_below hG.out hB) (o := m * 5) x'
                have hI6 := (hI.out.below hB).grown (gb_setC gb_row (o := m * 5) x')
                have e1 : (D.set m x').drop (j + 1 + (p + 1)) = cs.drop (j + 1 + (p + 1)) := by
                  rw [List.drop_set_of_lt (by omega)]
                  have := congrArg (List.drop 1) hDd.out
                  simpa [List.drop_drop, Nat.add_assoc] using this
                have e2 : (D.set m x').take (m + 1) = compactL samePl (cs.take (j + 1 + (p + 1) + 1)) := by
                  have hml : m < D.length := by rw [hDl.out]; omega
                  rw [show j + 1 + (p + 1) + 1 = j + 1 + p + 1 + 1 by omega, Hst'.out, Hb'.out, ← hDt.out, List.take_add_one, List.getElem?_set_self hml, List.take_set_of_le (Nat.le_refl _)]; rfl
                simp only [setC] at hR6 hG6 hI6
                exact ⟨⟨m + 1, p + 1, D.set m x', by omega, by go_num, by go_num, by omega, Lib.hid (by rw [List.length_set]; exact hDl.out), Lib.hid hR6, Lib.hid e1, Lib.hid e2, Lib.hid hI6, Lib.hid hG6⟩, by simp [intOf]; omega⟩
              · rw [hb] at heq
                have Hb' := Lib.hid hb
                clear hb
                go_wp2
                refine wp_region_below (by kernel_rfl) (by kernel_rfl) (fun hkept => ?_)
                obtain ⟨r0, rf0⟩ := hkept (g) (by go_size); clear hkept
                repeat (any_goals (first | go_big_quiet_step (first | (go_at_call 37; exact Calls.regrown_of (heq.out _ (hI.out.below (below_regrown _ _ _))))) | quiet_step (first | (go_at_call 37; exact Calls.regrown_of (heq.out _ (hI.out.below (below_regrown _ _ _))))) | (refine wpQuiet_step (fun K hK => ?_); go_simp; split <;> (refine hK _ ?_; clear hK K))))
                all_goals (refine wpQuiet_nil ?_; intro w6 hb; obtain ⟨hB, hS, hk⟩ := after (B := wr.heap.size) (w := wr) (by go_grown) (by go_size) hb; obtain ⟨c0, f0, z0⟩ := hk (g) (by go_size); clear hk hb r0 rf0)
                go_wp2
                have e1 : D.drop (j + 1 + (p + 1)) = cs.drop (j + 1 + (p + 1)) := by
                  have := congrArg (List.drop 1) hDd.out
                  simpa [List.drop_drop, Nat.add_assoc] using this
                have e2 : D.take m = compactL samePl (cs.take (j + 1 + (p + 1) + 1)) := by
                  rw [show j + 1 + (p + 1) + 1 = j + 1 + p + 1 + 1 by omega, Hst'.out, Hb'.out, ← hDt.out]; rfl
                exact ⟨⟨m, p + 1, D, by omega, by go_num, rfl, by omega, hDl, Lib.hid (hR.out.below hB), Lib.hid e1, Lib.hid e2, Lib.hid (hI.out.below hB), Lib.hid (gb_below hG.out hB)⟩, by simp [intOf]; omega⟩
            · have hall : cs.take (j + 1 + p + 1) = cs := List.take_of_length_le (by rw [Hn.out]; omega)
              have hml : m ≤ D.length := by rw [hDl.out]; omega
              have hlen : (compactL samePl cs).length = m := by rw [← hall, ← hDt.out, List.length_take]; omega
              obtain ⟨w7, hclr, hR7, hG7⟩ := run_clear_row (P := Try.prog) wr 32 31 (.agg #[.string ⟨#[]⟩, .string ⟨#[]⟩, .int .u64 0, .bool false, .string ⟨#[]⟩]) Try.underlying32 (fun w => by kernel_rfl) (size := 5) rfl (by intro u hu; simp [Value.cells] at hu; rcases hu with rfl | rfl | rfl | rfl | rfl <;> rfl) (by decide) hR.out (k := m) (by omega) (cap - m)
              have Hlen := Lib.hid hlen
              have HR7 : Hid (Row w7 B 31 5 (.slice (some ⟨g, 0, none⟩) m cap) m ((compactL samePl cs).map cellE).flatten) := Lib.hid (by
                have e : (D.map cellE).flatten.take (m * 5) = ((compactL samePl cs).map cellE).flatten := by
                  rw [← hall, ← hDt.out, List.map_take]
                  have h1 := flatten_len (size := 5) (es := (D.map cellE).take m) (fun e he => (cellE_elems D).len e (List.mem_of_mem_take he))
                  rw [List.length_take, List.length_map, Nat.min_eq_left hml] at h1
                  have h2 : (D.map cellE).flatten = ((D.map cellE).take m).flatten ++ ((D.map cellE).drop m).flatten := by rw [← List.flatten_append, List.take_append_drop]
                  rw [h2, List.take_left' h1]
                rw [← e]; exact hR7)
              have HG7 := Lib.hid (gb_trans hG.out hG7)
              clear hall hlen hR7 hG7 hml
              go_wp2
              go_returns
              exact ⟨by rw [Hlen.out]; rfl, by rw [Hlen.out]; exact HR7.out, HG7.out⟩
      · have hall : cs.take (j + 1) = cs := List.take_of_length_le (by rw [Hn.out]; omega)
        have hk : compactL samePl cs = cs := by have := hC.out; rwa [hall] at this
        have Hk := Lib.hid hk
        clear hk hall
        go_wp2
        go_returns
        exact ⟨by rw [Hk.out, Hn.out]; rfl, by rw [Hk.out, Hn.out]; exact hR.out, hG.out⟩


end Go.Proofs.Ytihglmicgccgiaa
