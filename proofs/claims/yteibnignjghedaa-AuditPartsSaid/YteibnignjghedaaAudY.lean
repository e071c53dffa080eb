/-
  Places put in order by their Low: insertion from the right, plainly; the walks of strings.Compare, audit.Tablets$1, slices.insertionSortCmpFunc at places.
-/
import Derived.Test.YteibnignjghedaaAudX
import Derived.Test.YteibnignjghedaaRow
import Derived.Test.YteibnignjghedaaSlice
import Derived.RegionTactic
import Derived.BigRegion
import Derived.Lib.Bytealg
import Derived.Deep.RegionWith
import Derived.Lib.QuietBelow
namespace Go.Proofs.Yteibnignjghedaa
open Go.RowKit Go.Sort

def cmpL (a b : List UInt8) : Int := if a < b then -1 else if b < a then 1 else 0

theorem compareBytes_eq : ∀ a b : List UInt8, Lib.compareBytes a b = cmpL a b
  | [], [] => by simp [Lib.compareBytes, cmpL]
  | [], _ :: _ => by simp [Lib.compareBytes, cmpL]
  | _ :: _, [] => by simp [Lib.compareBytes, cmpL]
  | a :: x, b :: y => by
    rw [Lib.compareBytes, compareBytes_eq x y]
    simp only [cmpL, List.cons_lt_cons_iff]
    by_cases h1 : a < b <;> by_cases h2 : b < a <;> by_cases h3 : a = b <;> simp [h1, h2, h3] <;> grind

set_option maxHeartbeats 400000 in
theorem compare_any (a b : ByteArray) (w : World) :
    Calls Try.prog 34 #[.string a, .string b] w fun e w' => e = .returned (.int .i64 (cmpL a.toList b.toList)) ∧ w = w' := by
  go_enter Try.func34, Try.ntmps34
  go_wp2
  rw [run_callFunc_extern Try.func71 (by kernel_rfl) (by kernel_rfl) (by kernel_rfl) (e := Extern.BytealgCompare.compare) (by kernel_rfl), Lib.run_compareString]
  simp only [Result.andThen]
  rw [Oper.upon_value]
  go_wp2
  go_ret
  exact ⟨ret_int (by rw [compareBytes_eq, Lib.toList_data, Lib.toList_data]), rfl⟩

def cmpLo (a b : LocI) : Int := cmpL a.lo.toList b.lo.toList
/-- x put into a list that stands turned about: behind those that it is ahead of. -/
def insR (x : LocI) : List LocI → List LocI
  | [] => [x]
  | y :: r => if cmpLo x y < 0 then y :: insR x r else x :: y :: r
def isR (l : List LocI) : List LocI := l.foldl (fun r x => insR x r) []
def isort (l : List LocI) : List LocI := (isR l).reverse
theorem insR_len (x : LocI) : ∀ r, (insR x r).length = r.length + 1
  | [] => rfl
  | y :: r => by rw [insR]; split <;> simp [insR_len x r]
theorem isR_snoc (l : List LocI) (x : LocI) : isR (l ++ [x]) = insR x (isR l) := by simp [isR]
theorem isR_len (l : List LocI) : (isR l).length = l.length := by
  have : ∀ (l r : List LocI), (l.foldl (fun r x => insR x r) r).length = r.length + l.length := by
    intro l
    induction l with
    | nil => simp
    | cons x l ih => intro r; rw [List.foldl_cons, ih, insR_len, List.length_cons]; omega
  have := this l []
  simpa [isR] using this
theorem isort_len (l : List LocI) : (isort l).length = l.length := by simp [isort, isR_len]
/-- m steps done -/
def Ahead (x : LocI) (r : List LocI) (m : Nat) : Prop := ∀ y ∈ r.take m, cmpLo x y < 0
theorem Ahead.zero (x : LocI) (r : List LocI) : Ahead x r 0 := fun y h => by simp at h
theorem Ahead.succ {x : LocI} {r : List LocI} {m : Nat} (h : Ahead x r m) {y : LocI} (hy : r[m]? = some y) (hc : cmpLo x y < 0) : Ahead x r (m + 1) := by
  intro z hz
  rw [List.take_add_one, hy] at hz
  rcases List.mem_append.1 hz with hz | hz
  · exact h z hz
  · simp at hz; subst hz; exact hc
theorem insR_at : ∀ (x : LocI) (r : List LocI) (m : Nat), Ahead x r m → (∀ y, r[m]? = some y → ¬ cmpLo x y < 0) → insR x r = r.take m ++ x :: r.drop m
  | x, [], m, _, _ => by simp [insR]
  | x, y :: r, 0, _, h => by
    have := h y (by simp)
    rw [insR, if_neg this]; rfl
  | x, y :: r, m + 1, ha, h => by
    have hy : cmpLo x y < 0 := ha y (by simp)
    rw [insR, if_pos hy, insR_at x r m (fun z hz => ha z (by simp [hz])) (fun z hz => h z (by simpa using hz))]
    rfl

/-- where the run stands: x has gone m steps to the left -/
def mid (x : LocI) (r t : List LocI) (m : Nat) : List LocI := (r.drop m).reverse ++ x :: ((r.take m).reverse ++ t)
theorem mid_len (x : LocI) (r t : List LocI) (m : Nat) : (mid x r t m).length = r.length + 1 + t.length := by
  simp only [mid, List.length_append, List.length_reverse, List.length_drop, List.length_cons, List.length_take]; omega
theorem mid_x (x : LocI) (r t : List LocI) (m : Nat) (h : m ≤ r.length) : (mid x r t m)[r.length - m]? = some x := by
  rw [mid, List.getElem?_append_right (by simp)]
  simp
theorem drop_rev {r : List LocI} {m : Nat} {y : LocI} (h : r[m]? = some y) : (r.drop m).reverse = (r.drop (m + 1)).reverse ++ [y] := by
  obtain ⟨hm, rfl⟩ := List.getElem?_eq_some_iff.1 h
  rw [List.drop_eq_getElem_cons hm, List.reverse_cons]
theorem take_rev {r : List LocI} {m : Nat} {y : LocI} (h : r[m]? = some y) : (r.take (m + 1)).reverse = y :: (r.take m).reverse := by
  rw [List.take_add_one, h]; simp
theorem mid_y {x : LocI} {r t : List LocI} {m : Nat} {y : LocI} (h : r[m]? = some y) : (mid x r t m)[r.length - m - 1]? = some y := by
  have hm := (List.getElem?_eq_some_iff.1 h).1
  rw [mid, drop_rev h, List.append_assoc, List.getElem?_append_right (by simp; omega)]
  simp
  have : r.length - m - 1 - (r.length - (m + 1)) = 0 := by omega
  rw [this]; rfl
theorem mid_swap {x : LocI} {r t : List LocI} {m : Nat} {y : LocI} (h : r[m]? = some y) : ((mid x r t m).set (r.length - m) y).set (r.length - m - 1) x = mid x r t (m + 1) := by
  have hm := (List.getElem?_eq_some_iff.1 h).1
  unfold mid
  rw [drop_rev h, take_rev h]
  have e1 : ((r.drop (m + 1)).reverse ++ [y]).length = r.length - m := by simp; omega
  rw [List.set_append_right _ _ (by rw [e1]; exact Nat.le_refl _), e1, Nat.sub_self, List.set_cons_zero, List.append_assoc]
  have e2 : ((r.drop (m + 1)).reverse).length = r.length - m - 1 := by simp; omega
  rw [List.set_append_right _ _ (by rw [e2]; exact Nat.le_refl _), e2, Nat.sub_self]
  simp
theorem mid_end {x : LocI} {r t : List LocI} {m : Nat} (ha : Ahead x r m) (h : ∀ y, r[m]? = some y → ¬ cmpLo x y < 0) : mid x r t m = (insR x r).reverse ++ t := by
  rw [insR_at x r m ha h, mid]
  simp
theorem mid_start (x : LocI) (r t : List LocI) : mid x r t 0 = r.reverse ++ x :: t := by simp [mid]

set_option maxHeartbeats 1000000 in
theorem lorder_any (a b : LocI) (w : World) :
    Calls Try.prog 33 #[a.v, b.v] w fun e w' => e = .returned (.int .i64 (cmpLo a b)) ∧ Below w.heap.size w w' := by
  have hcm := Lib.hid fun W => compare_any a.lo b.lo W
  obtain ⟨z, hz⟩ : ∃ z, z = cmpLo a b := ⟨_, rfl⟩
  rw [← hz]
  have hcm := Lib.hid fun W => (compare_any a.lo b.lo W).mono (fun e w' (h : e = .returned (.int .i64 (cmpL a.lo.toList b.lo.toList)) ∧ W = w') => (show e = .returned (.int .i64 z) ∧ W = w' from ⟨by rw [h.1, hz]; rfl, h.2⟩))
  clear hz
  obtain ⟨g1, l1, u1, e1, n1, m1, k1, d1⟩ := a
  obtain ⟨g2, l2, u2, e2, n2, m2, k2, d2⟩ := b
  simp only [LocI.v, LocI.l] at hcm ⊢
  go_enter Try.func33, Try.ntmps33
  go_wp2_with (go_at_call 34; refine (hcm.out _).mono ?_; rintro e w1 ⟨rfl, rfl⟩)
  go_returns
  exact ⟨rfl, by go_grown⟩

theorem gb_trans {a b c : World} {g : Nat} (h : a.grownBy b (some g)) (k : b.grownBy c (some g)) : a.grownBy c (some g) :=
  ⟨k.os.trans h.os, k.tape.trans h.tape, k.output.trans h.output, Nat.le_trans h.size k.size, fun i hi hne => (k.block i (by have := h.size; omega) hne).trans (h.block i hi hne)⟩
theorem gb_below {a b c : World} {g : Nat} (h : a.grownBy b (some g)) (k : Below b.heap.size b c) : a.grownBy c (some g) :=
  gb_trans h ⟨k.os, k.tape, k.output, k.size, fun i hi _ => k.block i hi⟩
theorem gb_set {a b : World} {g j : Nat} (h : a.grownBy b (some g)) (v : Value) : a.grownBy (b.setCell ⟨g, j, none⟩ v) (some g) :=
  gb_trans h ⟨rfl, rfl, rfl, by simp, fun i _ hne => Below.heap_setCell _ _ _ _ (fun e => hne (by simp [e]))⟩
theorem gb_drew {a b : World} {g : Nat} (h : a.grownBy b (some g)) : a.grownBy b.drew (some g) := gb_below h ((Below.refl _ _).drew)

/-- a place's cells, one by one -/
structure LocC (w : World) (g o : Nat) (c : LocI) : Prop where
  c0 : w.cell? ⟨g, o, none⟩ = some (.int .i64 c.gr)
  c1 : w.cell? ⟨g, o + 1, none⟩ = some (.string c.lo)
  c2 : w.cell? ⟨g, o + 2, none⟩ = some (.string c.hi)
  c3 : w.cell? ⟨g, o + 3, none⟩ = some (.int .u64 c.ep)
  c4 : w.cell? ⟨g, o + 4, none⟩ = some (.slice c.na c.nn c.nc)
/-- one cell of a row of cells -/
theorem Row.cellAt {w : World} {B : Nat} {T : TypeId} {g n cap : Nat} {cs : List LocI} (h : Row w B T 5 (.slice (some ⟨g, 0, none⟩) n cap) n (cs.map LocI.l).flatten) (hl : cs.length = n) {i : Nat} {c : LocI} (hc : cs[i]? = some c) : LocC w g (i * 5) c := by
  have hi := (List.getElem?_eq_some_iff.1 hc).1
  have key : ∀ j u, c.l[j]? = some u → j < 5 → w.cell? ⟨g, i * 5 + j, none⟩ = some u := fun j u hu hj => by
    rw [h.cell _ (by omega)]
    exact flatten_get (size := 5) (loc_elems cs).len i c.l (by simp [hc]) j u hu
  exact ⟨key 0 _ rfl (by omega), key 1 _ rfl (by omega), key 2 _ rfl (by omega), key 3 _ rfl (by omega), key 4 _ rfl (by omega)⟩
theorem Row.cellFree {w : World} {B : Nat} {T : TypeId} {g n cap : Nat} {cs : List LocI} (h : Row w B T 5 (.slice (some ⟨g, 0, none⟩) n cap) n (cs.map LocI.l).flatten) (hl : cs.length = n) {i : Nat} (hi : i < n) :
    w.frozen? ⟨g, i * 5, none⟩ = false ∧ w.frozen? ⟨g, i * 5 + 1, none⟩ = false ∧ w.frozen? ⟨g, i * 5 + 2, none⟩ = false ∧ w.frozen? ⟨g, i * 5 + 3, none⟩ = false ∧ w.frozen? ⟨g, i * 5 + 4, none⟩ = false :=
  ⟨h.free (by omega), h.free (by omega), h.free (by omega), h.free (by omega), h.free (by omega)⟩
/-- a cell stored into a row -/
def setC (w : World) (g o : Nat) (c : LocI) : World :=
  ((((w.setCell ⟨g, o, none⟩ (.int .i64 c.gr)).setCell ⟨g, o + 1, none⟩ (.string c.lo)).setCell ⟨g, o + 2, none⟩ (.string c.hi)).setCell ⟨g, o + 3, none⟩ (.int .u64 c.ep)).setCell ⟨g, o + 4, none⟩ (.slice c.na c.nn c.nc)
theorem Row.storeC {w : World} {B : Nat} {T : TypeId} {g n cap : Nat} {cs : List LocI} (h : Row w B T 5 (.slice (some ⟨g, 0, none⟩) n cap) n (cs.map LocI.l).flatten) (hl : cs.length = n) {i : Nat} (hi : i < n) (c : LocI) :
    Row (setC w g (i * 5) c) B T 5 (.slice (some ⟨g, 0, none⟩) n cap) n ((cs.set i c).map LocI.l).flatten := by
  have := ((((h.store (k := 0) (j := i * 5) (by omega) (.int .i64 c.gr)).store (k := 0) (j := i * 5 + 1) (by omega) (.string c.lo)).store (k := 0) (j := i * 5 + 2) (by omega) (.string c.hi)).store (k := 0) (j := i * 5 + 3) (by omega) (.int .u64 c.ep)).store (k := 0) (j := i * 5 + 4) (by omega) (.slice c.na c.nn c.nc)
  rw [flatten_set5 _ (loc_elems cs).len i _ _ _ _ _ (by simpa [hl] using hi)] at this
  rw [List.map_set]
  exact this
theorem gb_setC {a b : World} {g o : Nat} (h : a.grownBy b (some g)) (c : LocI) : a.grownBy (setC b g o c) (some g) := gb_set (gb_set (gb_set (gb_set (gb_set h _) _) _) _) _
theorem gb_row {a : World} {g : Nat} : a.grownBy a (some g) := World.grownBy.refl a _

set_option maxRecDepth 100000 in
set_option maxHeartbeats 4000000 in
theorem linsertion_any (pre seg suf : List LocI) (g cap n a b B : Nat) (w : World) (ha : pre.length = a) (hb : a + seg.length = b) (hn : (pre ++ seg ++ suf).length = n)
    (hrow : Row w B 37 5 (.slice (some ⟨g, 0, none⟩) n cap) n ((pre ++ seg ++ suf).map LocI.l).flatten) (hle : n ≤ 1000000) :
    Calls Try.prog 69 #[.slice (some ⟨g, 0, none⟩) n cap, .int .i64 a, .int .i64 b, .func (.func 33) #[] #[]] w
      fun e w' => e = .returned (.tuple #[]) ∧ Row w' B 37 5 (.slice (some ⟨g, 0, none⟩) n cap) n ((pre ++ isort seg ++ suf).map LocI.l).flatten ∧ w.grownBy w' (some g) := by
  have hbn : b ≤ n := by rw [← hn, ← hb, ← ha]; simp
  have hncap : n ≤ cap ∧ cap ≤ maxLen := by
    rcases hrow.form with ⟨h, _⟩ | ⟨g', c', h, _, _, q1, q2⟩
    · cases h
    · cases h; exact ⟨q1, q2⟩
  obtain ⟨hc1, hc2⟩ := hncap
  unfold maxLen at hc2
  have Hrow := Lib.hid hrow
  have Ha := Lib.hid ha
  have Hb := Lib.hid hb
  have Hn := Lib.hid hn
  have hab : a ≤ b := by omega
  clear hrow ha hb hn
  go_enter Try.func69, Try.ntmps69
  go_wp2
  go_loopw [8, 9] (fun i _ wr => ∃ k p : Nat, Hid (p = a + k) ∧ 1 ≤ k ∧ p ≤ b + 1 ∧ i = .int .i64 p ∧ Hid (Row wr B 37 5 (.slice (some ⟨g, 0, none⟩) n cap) n ((pre ++ ((isR (seg.take k)).reverse ++ seg.drop k) ++ suf).map LocI.l).flatten) ∧ Hid (w.grownBy wr (some g))) (fun i _ _ => b + 1 - (intOf i).toNat)
  case atStart =>
    refine ⟨1, a + 1, Lib.hid rfl, Nat.le_refl _, by omega, by go_num, Lib.hid ?_, Lib.hid gb_row⟩
    cases seg with
    | nil => exact Hrow.out
    | cons x r => exact Hrow.out
  case round =>
    obtain ⟨k, p, hp, hk, hpb, rfl, hR, hG⟩ := hrel
    by_cases hlt : p < b
    · obtain ⟨x, hx⟩ : ∃ x, seg[k]? = some x := ⟨_, List.getElem?_eq_getElem (by have := Hb.out; have := hp.out; omega)⟩
      have hkm : k < seg.length := (List.getElem?_eq_some_iff.1 hx).1
      obtain ⟨r, hr⟩ : ∃ r, r = isR (seg.take k) := ⟨_, rfl⟩
      obtain ⟨t, ht⟩ : ∃ t, t = seg.drop (k + 1) ++ suf := ⟨_, rfl⟩
      have Hrl : Hid (r.length = k) := Lib.hid (by rw [hr, isR_len, List.length_take]; omega)
      have HD0 : Hid (pre ++ ((isR (seg.take k)).reverse ++ seg.drop k) ++ suf = pre ++ mid x r t 0) := Lib.hid (by
        obtain ⟨_, hx2⟩ := List.getElem?_eq_some_iff.1 hx
        rw [mid_start, hr, ht, List.drop_eq_getElem_cons hkm, hx2]; simp)
      have HDn : Hid (∀ q, q ≤ k → (pre ++ mid x r t q).length = n) := Lib.hid (fun q hq => by
        have h1 := Hn.out
        have h2 := Hrl.out
        rw [List.length_append, mid_len, ht]
        simp only [List.length_append, List.length_drop] at h1 ⊢
        omega)
      have HDe : Hid (pre ++ ((isR (seg.take (k + 1))).reverse ++ seg.drop (k + 1)) ++ suf = pre ++ ((insR x r).reverse ++ t)) := Lib.hid (by
        rw [show seg.take (k + 1) = seg.take k ++ [x] by rw [List.take_add_one, hx]; rfl, isR_snoc, hr, ht]; simp)
      have HR0 : Hid (Row wr B 37 5 (.slice (some ⟨g, 0, none⟩) n cap) n ((pre ++ mid x r t 0).map LocI.l).flatten) := Lib.hid (by rw [← HD0.out]; exact hR.out)
      clear hR hx hr ht HD0
      go_wp2
      obtain ⟨wo, rfl⟩ : ∃ wo : World, wo = wr := ⟨_, rfl⟩
      go_loopw [9] (fun j wr => ∃ q J : Nat, q ≤ k ∧ Hid (J + q = p) ∧ J ≤ p ∧ j = .int .i64 J ∧ Hid (Ahead x r q) ∧ Hid (Row wr B 37 5 (.slice (some ⟨g, 0, none⟩) n cap) n ((pre ++ mid x r t q).map LocI.l).flatten) ∧ Hid (w.grownBy wr (some g))) (fun j _ => (intOf j).toNat)
      case atStart => exact ⟨0, p, by omega, Lib.hid (by omega), Nat.le_refl _, rfl, Lib.hid (Ahead.zero x r), HR0, hG⟩
      case round =>
        obtain ⟨q, J, hq, hJ, hJp, rfl, hA, hR, hG2⟩ := hrel
        by_cases hja : a < J
        · have hqk : q < k := by have := hJ.out; have := hp.out; omega
          obtain ⟨y, hy⟩ : ∃ y, r[q]? = some y := ⟨_, List.getElem?_eq_getElem (by have := Hrl.out; omega)⟩
          obtain ⟨J', rfl⟩ : ∃ J', J = J' + 1 := ⟨J - 1, by omega⟩
          have hJ'n : J' + 1 < n := by omega
          have hix : (pre ++ mid x r t q)[J' + 1]? = some x := by
            have := mid_x x r t q (by have := Hrl.out; omega)
            rw [List.getElem?_append_right (by have := Ha.out; omega), ← this]
            congr 1; have := Ha.out; have := Hrl.out; have := hJ.out; have := hp.out; omega
          have hiy : (pre ++ mid x r t q)[J']? = some y := by
            have := mid_y (x := x) (t := t) hy
            rw [List.getElem?_append_right (by have := Ha.out; omega), ← this]
            congr 1; have := Ha.out; have := Hrl.out; have := hJ.out; have := hp.out; omega
          have hln := HDn.out q (by omega)
          obtain ⟨x0, x1, x2, x3, x4⟩ := hR.out.cellAt hln hix
          obtain ⟨y0, y1, y2, y3, y4⟩ := hR.out.cellAt hln hiy
          obtain ⟨fx0, fx1, fx2, fx3, fx4⟩ := hR.out.cellFree hln hJ'n
          obtain ⟨fy0, fy1, fy2, fy3, fy4⟩ := hR.out.cellFree hln (i := J') (by omega)
          have hcm := Lib.hid fun W => lorder_any x y W
          simp only [LocI.v, LocI.l] at hcm
          obtain ⟨z, hz⟩ : ∃ z, cmpLo x y = z := ⟨_, rfl⟩
          rw [hz] at hcm
          have Hz := Lib.hid hz
          have Hy := Lib.hid hy
          have hln := Lib.hid hln
          clear hz hy hix hiy
          by_cases hneg : z < 0
          · have hneg1 : decide (z < 0) = true := by simpa using hneg
            have hjd : decide ((a : Int) < (J' : Int) + 1) = true := by simp; omega
            have hgl : g < wr.heap.size := World.block_lt_of_cell? _ _ x0
            go_wp2
            refine wp_region_below (by kernel_rfl) (by kernel_rfl) (fun hkept => ?_)
            obtain ⟨r0, rf0⟩ := hkept (g) (by go_size); clear hkept
            repeat (any_goals (first | go_big_quiet_step (first | (go_at_call 33; exact Calls.regrown_of (hcm.out _))) | quiet_step (first | (go_at_call 33; exact Calls.regrown_of (hcm.out _))) | (refine wpQuiet_step (fun K hK => ?_); go_simp; split <;> (refine hK _ ?_; clear hK K))))
            all_goals (refine wpQuiet_nil ?_; intro w5 hb; obtain ⟨hB, hS, hk⟩ := after (B := wr.heap.size) (w := wr) (by go_grown) (by go_size) hb; obtain ⟨c0, f0, z0⟩ := hk (g) (by go_size); clear hk hb r0 rf0)
            go_wp2
            go_region
            go_wp2
            have hR5 := (hR.out.below hB).storeC hln.out (i := J' + 1) hJ'n y
            have hR6 := (hR5.storeC (by rw [List.length_set]; exact hln.out) (i := J') (by omega) x).drew
            have hsw : ((pre ++ mid x r t q).set (J' + 1) y).set J' x = pre ++ mid x r t (q + 1) := by
              have e1 : J' + 1 = pre.length + (r.length - q) := by have := Ha.out; have := Hrl.out; have := hJ.out; have := hp.out; omega
              have e2 : J' = pre.length + (r.length - q - 1) := by have := Ha.out; have := Hrl.out; have := hJ.out; have := hp.out; omega
              rw [e1, List.set_append_right _ _ (by omega), Nat.add_sub_cancel_left, e2, List.set_append_right _ _ (by omega), Nat.add_sub_cancel_left, mid_swap Hy.out]
            rw [hsw] at hR6
            have hG6 := gb_drew (gb_setC (gb_setC (gb_below hG2.out hB) (o := (J' + 1) * 5) y) (o := J' * 5) x)
            simp only [setC] at hR6 hG6
            exact ⟨⟨q + 1, J', by omega, Lib.hid (by have := hJ.out; omega), by omega, by go_num, Lib.hid (hA.out.succ Hy.out (by rw [Hz.out]; exact hneg)), Lib.hid hR6, Lib.hid hG6⟩, by simp [intOf]⟩
          · have hneg1 : decide (z < 0) = false := by simpa using hneg
            have hjd : decide ((a : Int) < (J' : Int) + 1) = true := by simp; omega
            have hgl : g < wr.heap.size := World.block_lt_of_cell? _ _ x0
            have Hend := Lib.hid (mid_end (t := t) hA.out (fun y' hy' => by rw [Hy.out] at hy'; obtain rfl := Option.some.inj hy'; rw [Hz.out]; exact hneg))
            go_wp2
            refine wp_region_below (by kernel_rfl) (by kernel_rfl) (fun hkept => ?_)
            obtain ⟨r0, rf0⟩ := hkept (g) (by go_size); clear hkept
            repeat (any_goals (first | go_big_quiet_step (first | (go_at_call 33; exact Calls.regrown_of (hcm.out _))) | quiet_step (first | (go_at_call 33; exact Calls.regrown_of (hcm.out _))) | (refine wpQuiet_step (fun K hK => ?_); go_simp; split <;> (refine hK _ ?_; clear hK K))))
            all_goals (refine wpQuiet_nil ?_; intro w5 hb; obtain ⟨hB, hS, hk⟩ := after (B := wr.heap.size) (w := wr) (by go_grown) (by go_size) hb; obtain ⟨c0, f0, z0⟩ := hk (g) (by go_size); clear hk hb r0 rf0)
            go_wp2
            have hp2 := hp.out
            exact ⟨⟨k + 1, p + 1, Lib.hid (by omega), by omega, by omega, by go_num, Lib.hid (by rw [HDe.out, ← Hend.out]; exact hR.out.below hB), Lib.hid (gb_below hG2.out hB)⟩, by simp [intOf]; omega⟩
        · obtain rfl : q = k := by have := hJ.out; have := hp.out; omega
          have hjd : decide ((a : Int) < (J : Int)) = false := by simp; omega
          have Hend := Lib.hid (mid_end (t := t) hA.out (fun y' hy' => by have := (List.getElem?_eq_some_iff.1 hy').1; have := Hrl.out; omega))
          go_wp2
          refine wp_region_below (by kernel_rfl) (by kernel_rfl) (fun hkept => ?_)
          clear hkept
          repeat (any_goals (first | go_big_quiet_step (fail) | quiet_step (fail) | (refine wpQuiet_step (fun K hK => ?_); go_simp; split <;> (refine hK _ ?_; clear hK K))))
          all_goals (refine wpQuiet_nil ?_; intro w5 hb; obtain ⟨hB, hS, hk⟩ := after (B := wr.heap.size) (w := wr) (by go_grown) (by go_size) hb; clear hk hb)
          go_wp2
          have hp2 := hp.out
          exact ⟨⟨q + 1, p + 1, Lib.hid (by omega), by omega, by omega, by go_num, Lib.hid (by rw [HDe.out, ← Hend.out]; exact hR.out.below hB), Lib.hid (gb_below hG2.out hB)⟩, by simp [intOf]; omega⟩
    · have hend : (pre ++ ((isR (seg.take k)).reverse ++ seg.drop k) ++ suf) = pre ++ isort seg ++ suf := by
        have h1 := hp.out
        have h2 := Hb.out
        by_cases hk2 : seg.length ≤ k
        · rw [List.take_of_length_le hk2, List.drop_eq_nil_of_le hk2, List.append_nil]; rfl
        · have h0 : seg.length = 0 := by omega
          omega
      have Hend := Lib.hid hend
      clear hend
      go_wp2
      go_returns
      exact ⟨rfl, by rw [← Hend.out]; exact hR.out, hG.out⟩

end Go.Proofs.Yteibnignjghedaa

/-
  Places: the walks of slices.stableCmpFunc, slices.SortStableFunc at fewer than twenty; slices.Clone at numbers.
-/
namespace Go.Proofs.Yteibnignjghedaa
open Go.RowKit Go.Sort

theorem lsort_nil (w : World) :
    Calls Try.prog 32 #[.slice none 0 0, .func (.func 33) #[] #[]] w
      fun e w' => e = .returned (.tuple #[]) ∧ w = w' := by
  have hins : ∀ w, Calls Try.prog 69 #[.slice none 0 0, .int .i64 0, .int .i64 0, .func (.func 33) #[] #[]] w fun e w' => e = .returned (.tuple #[]) ∧ w = w' := by
    intro w
    go_enter Try.func69, Try.ntmps69
    go_wp2
    refine wp_loop_rounds 1 ?_
    rw [rounds_succ]
    go_wp2
    go_returns
    exact ⟨rfl, rfl⟩
  have Hins := Lib.hid hins
  clear hins
  have hst : ∀ w, Calls Try.prog 56 #[.slice none 0 0, .int .i64 0, .func (.func 33) #[] #[]] w fun e w' => e = .returned (.tuple #[]) ∧ w = w' := by
    intro w
    go_enter Try.func56, Try.ntmps56
    go_wp2
    refine wp_loop_rounds 1 ?_
    rw [rounds_succ]
    go_wp2_with (go_at_call 69; refine (Hins.out _).mono ?_; rintro e w' ⟨rfl, rfl⟩)
    refine wp_loop_rounds 1 ?_
    rw [rounds_succ]
    go_wp2
    go_returns
    exact ⟨rfl, rfl⟩
  have Hst := Lib.hid hst
  clear hst Hins
  go_enter Try.func32, Try.ntmps32
  go_wp2_with (go_at_call 56; refine (Hst.out _).mono ?_; rintro e w' ⟨rfl, rfl⟩)
  go_returns
  exact ⟨rfl, rfl⟩

set_option maxHeartbeats 1000000 in
theorem lstable_small (cs : List LocI) (g cap n B : Nat) (w : World) (hn : cs.length = n) (hle : n < 20)
    (hrow : Row w B 37 5 (.slice (some ⟨g, 0, none⟩) n cap) n (cs.map LocI.l).flatten) :
    Calls Try.prog 56 #[.slice (some ⟨g, 0, none⟩) n cap, .int .i64 n, .func (.func 33) #[] #[]] w
      fun e w' => e = .returned (.tuple #[]) ∧ Row w' B 37 5 (.slice (some ⟨g, 0, none⟩) n cap) n ((isort cs).map LocI.l).flatten ∧ w.grownBy w' (some g) := by
  have hins := linsertion_any [] cs [] g cap n 0 n B w rfl (by omega) (by simpa using hn) (by simpa using hrow) (by omega)
  simp only [List.nil_append, List.append_nil] at hins
  have Hins := Lib.hid hins
  clear hrow hn hins
  go_enter Try.func56, Try.ntmps56
  go_wp2
  refine wp_loop_rounds 1 ?_
  rw [rounds_succ]
  go_wp2_with (go_at_call 69; refine Hins.out.mono ?_; rintro e w1 ⟨rfl, hr, hg⟩; have Hr := Lib.hid hr; have Hg := Lib.hid hg; clear hr hg)
  refine wp_loop_rounds 1 ?_
  rw [rounds_succ]
  go_wp2
  go_returns
  exact ⟨rfl, Hr.out, Hg.out⟩

set_option maxHeartbeats 1000000 in
theorem lsort_small (cs : List LocI) (g cap n B : Nat) (w : World) (hn : cs.length = n) (hle : n < 20)
    (hrow : Row w B 37 5 (.slice (some ⟨g, 0, none⟩) n cap) n (cs.map LocI.l).flatten) :
    Calls Try.prog 32 #[.slice (some ⟨g, 0, none⟩) n cap, .func (.func 33) #[] #[]] w
      fun e w' => e = .returned (.tuple #[]) ∧ Row w' B 37 5 (.slice (some ⟨g, 0, none⟩) n cap) n ((isort cs).map LocI.l).flatten ∧ w.grownBy w' (some g) := by
  have Hins := Lib.hid (lstable_small cs g cap n B w hn hle hrow)
  clear hrow hn
  go_enter Try.func32, Try.ntmps32
  go_wp2_with (go_at_call 56; refine Hins.out.mono ?_; rintro e w1 ⟨rfl, hr, hg⟩; have Hr := Lib.hid hr; have Hg := Lib.hid hg; clear hr hg)
  go_returns
  exact ⟨rfl, Hr.out, Hg.out⟩
/-- places in a row of their own, put in order -/
theorem lsort_any (v : Value) (cs : List LocI) (n B : Nat) (w : World) (hn : cs.length = n) (hle : n < 20) (hrow : Row w B 37 5 v n (cs.map LocI.l).flatten) :
    Calls Try.prog 32 #[v, .func (.func 33) #[] #[]] w
      fun e w' => e = .returned (.tuple #[]) ∧ Row w' B 37 5 v n ((isort cs).map LocI.l).flatten ∧ w.grownBy w' v.ownBlock := by
  rcases hrow.form with ⟨rfl, rfl⟩ | ⟨g, cap, rfl, _⟩
  · obtain rfl := List.eq_nil_of_length_eq_zero hn
    refine (lsort_nil w).mono ?_
    rintro e w' ⟨rfl, rfl⟩
    exact ⟨rfl, hrow, World.grownBy.refl _ _⟩
  · exact lsort_small cs g cap n B w hn hle hrow

/-! ### slices.Clone at numbers -/
theorem heap_new (w : World) (o : Obj) : (w.alloc o).heap[w.heap.size]? = some o := by
  show (w.heap.push o)[w.heap.size]? = _
  simp
theorem Try.info_int : (Try.prog.info? 3).map (fun i => (i.zero, i.size, i.bytes)) = some (some (.int .i64 0), 1, 8) := by kernel_rfl

set_option maxHeartbeats 1000000 in
theorem iclone_any (ao : Option Addr) (n cap : Nat) (cs : List Int) (w : World) (h : Ints w ao n cap cs) (hle : n * 8 ≤ 140737488355328) :
    Calls Try.prog 31 #[.slice ao n cap] w fun e w' => ∃ v, e = .returned v ∧ Row w' w.heap.size 3 1 v n (cs.map intE).flatten ∧ Below w.heap.size w w' := by
  have hl := h.len
  have hcap := Arr.fits h
  have hmax := Arr.max h
  unfold maxLen at hmax
  obtain ⟨i0, hi, hz0, hz1, hz2⟩ := info_parts Try.info_int
  have H := Lib.hid h
  clear h
  cases ao with
  | none =>
    have h0 : n = 0 := by
      rcases Nat.eq_zero_or_pos n with h | h
      · exact h
      · obtain ⟨_, _, e, _⟩ := Arr.base H.out h; cases e
    subst h0
    obtain rfl := List.eq_nil_of_length_eq_zero hl
    have hnil := fun w => Lib.run_eql_slice_nil (P := Try.prog) w 35 3 none 0 cap 0 0 Try.underlying35
    go_enter Try.func31, Try.ntmps31
    go_wp2
    go_returns
    exact ⟨_, rfl, Row.nil _ _ _ _, Below.refl _ _⟩
  | some a =>
    have hnil := fun w => Lib.run_eql_slice_nil (P := Try.prog) w 35 3 (some a) n cap 0 0 Try.underlying35
    have hr0 : Row (w.alloc (.cells #[] 3)) w.heap.size 3 1 (.slice (some ⟨w.heap.size, 0, none⟩) 0 0) 0 [] :=
      ⟨rfl, .inr ⟨w.heap.size, 0, #[], (0, 0), rfl, Nat.le_refl _, heap_new _ _, .inl rfl, Nat.le_refl _, by unfold maxLen; omega, rfl, rfl⟩⟩
    have Hr0 := Lib.hid hr0
    clear hr0
    go_enter Try.func31, Try.ntmps31
    go_wp2_with (at_builtin; refine wpList_append_arr _ rfl _ _ 35 rfl w.heap.size 3 i0 _ 1 8 Try.underlying35 hi hz0 hz1 hz2 rfl (by decide) _ 0 [] rfl Hr0.out rfl (Arr.below H.out ((Below.refl _ _).alloc (Nat.le_refl _) _)) (by omega) (by unfold maxLen; omega) (by go_size) ?_; intro v1 w1 hr1 hb1 hg1)
    go_returns
    refine ⟨_, rfl, by simpa using hr1, ?_⟩
    exact ((Below.refl _ _).alloc (Nat.le_refl _) _).trans hb1
end Go.Proofs.Yteibnignjghedaa

/-
  Which of a group's replicas is the newest: the walk of acreageref32.Newest.
-/
namespace Go.Proofs.Yteibnignjghedaa
open Go.RowKit Go.Sort

/-- what replicas show, in a slice -/
structure Seens (w : World) (ao : Option Addr) (n cap : Nat) (l : List SeenA) : Prop where
  arr : Arr w 19 ao n cap (l.map SeenA.l)
  ins : ∀ s ∈ l, s.In w
section
variable {w w' : World} {ao : Option Addr} {n cap : Nat} {l : List SeenA}
theorem Seens.len (h : Seens w ao n cap l) : l.length = n := by have := Arr.len h.arr; rwa [List.length_map] at this
theorem Seens.below (h : Seens w ao n cap l) (hb : Below w.heap.size w w') : Seens w' ao n cap l := ⟨h.arr.below hb, fun e he => (h.ins e he).below hb⟩
theorem Seens.at_ (h : Seens w ao n cap l) {i : Nat} {s : SeenA} (hs : l[i]? = some s) : ∃ b off, ao = some ⟨b, off, none⟩ ∧ b < w.heap.size ∧ SeenAt w b (off + i * 19) s := by
  obtain ⟨b, off, e1, hb, hc⟩ := Arr.at_ h.arr (i := i) (e := s.l) (by rw [List.getElem?_map, hs]; rfl)
  exact ⟨b, off, e1, hb, fun j v hv => hc j v hv⟩
end
/-- is s newer than the best so far? -/
def newer (acc : Option (Nat × SeenA)) (s : SeenA) : Bool := match acc with | none => true | some q => decide (q.2.app < s.app)
/-- one more looked at -/
def stepB (g : Int) (acc : Option (Nat × SeenA)) (i : Nat) (s : SeenA) : Option (Nat × SeenA) :=
  if (decide (s.group = g) && decide (0 < s.app) && newer acc s) = true then some (i, s) else acc
def bestF (g : Int) : Option (Nat × SeenA) → Nat → List SeenA → Option (Nat × SeenA)
  | acc, _, [] => acc
  | acc, i, s :: r => bestF g (stepB g acc i s) (i + 1) r
theorem bestF_snoc (g : Int) : ∀ (acc : Option (Nat × SeenA)) (i : Nat) (l : List SeenA) (s : SeenA), bestF g acc i (l ++ [s]) = stepB g (bestF g acc i l) (i + l.length) s
  | _, _, [], _ => rfl
  | acc, i, x :: r, s => by
    rw [List.cons_append, bestF, bestF_snoc g _ _ r s, List.length_cons, bestF]
    congr 1; omega
def bestL (g : Int) (l : List SeenA) : Option (Nat × SeenA) := bestF g none 0 l
def bestI (b : Option (Nat × SeenA)) : Int := match b with | none => -1 | some q => q.1
theorem bestL_take {g : Int} {l : List SeenA} {k : Nat} {s : SeenA} (h : l[k]? = some s) : bestL g (l.take (k + 1)) = stepB g (bestL g (l.take k)) k s := by
  have hk := (List.getElem?_eq_some_iff.1 h).1
  rw [List.take_add_one, h]
  show bestL g (l.take k ++ [s]) = _
  rw [bestL, bestF_snoc, List.length_take, Nat.zero_add, Nat.min_eq_left (by omega)]
  rfl
theorem bestL_at {g : Int} {l : List SeenA} : ∀ (k : Nat), k ≤ l.length → ∀ q, bestL g (l.take k) = some q → q.1 < k ∧ l[q.1]? = some q.2
  | 0, _, q, h => by simp [bestL, bestF] at h
  | k + 1, hk, q, h => by
    obtain ⟨s, hs⟩ : ∃ s, l[k]? = some s := ⟨_, List.getElem?_eq_getElem (by omega)⟩
    rw [bestL_take hs, stepB] at h
    split at h
    · cases h; exact ⟨by simp, hs⟩
    · have := bestL_at k (by omega) q h
      exact ⟨by omega, this.2⟩

set_option maxRecDepth 100000 in
set_option maxHeartbeats 8000000 in
theorem rnewest_any (ao : Option Addr) (n cap : Nat) (l : List SeenA) (g : Int) (w : World) (h : Seens w ao n cap l) :
    Calls Try.prog 36 #[.slice ao n cap, .int .i64 g] w fun e w' => e = .returned (.int .i64 (bestI (bestL g l))) ∧ Below w.heap.size w w' := by
  obtain ⟨R, hR⟩ : ∃ R, R = bestI (bestL g l) := ⟨_, rfl⟩
  rw [← hR]
  have HR := Lib.hid hR
  have H := Lib.hid h
  have hc1 := Arr.fits h.arr
  have hc2 := Arr.max h.arr
  unfold maxLen at hc2
  have Hn := Lib.hid h.len
  clear hR h
  go_enter Try.func36, Try.ntmps36
  go_wp2
  go_loopw [5, 6] (fun bst i wr => ∃ k : Nat, k ≤ n ∧ bst = .int .i64 (bestI (bestL g (l.take k))) ∧ i = .int .i64 k ∧ Below w.heap.size w wr) (fun _ i _ => n - (intOf i).toNat)
  case atStart => exact ⟨0, by omega, rfl, rfl, Below.refl _ _⟩
  case round =>
    obtain ⟨k, hk, rfl, rfl, hB0⟩ := hrel
    have hzr := hB0.size
    obtain ⟨acc, hacc⟩ : ∃ acc, acc = bestL g (l.take k) := ⟨_, rfl⟩
    rw [← hacc]
    have Hacc := Lib.hid hacc
    by_cases hlt : k < n
    · obtain ⟨s, hs⟩ : ∃ s, l[k]? = some s := ⟨_, List.getElem?_eq_getElem (by rw [Hn.out]; omega)⟩
      obtain ⟨b, off, e0, hb, xx⟩ := (H.out.below hB0).at_ hs
      have x1 := xx.at_ 1 _ rfl
      have x11 := xx.at_ 11 _ rfl
      have Htk : Hid (bestL g (l.take (k + 1)) = stepB g acc k s) := Lib.hid (by rw [bestL_take hs, hacc])
      have Hq : Hid (∀ q, acc = some q → q.1 < k ∧ l[q.1]? = some q.2) := Lib.hid (fun q hq => bestL_at k (by rw [Hn.out]; omega) q (by rw [← hacc]; exact hq))
      clear hs xx hacc
      cases acc with
      | none =>
        cases e0
        simp only [bestI]
        have t0 : decide ((-1 : Int) < 0) = true := rfl
        by_cases d1 : s.group = g
        · have s1 : (s.group == g) = true := by simpa using d1
          by_cases d2 : 0 < s.app
          · have s2 : decide ((0 : Int) < s.app) = true := by simpa using d2
            have hst : Hid (stepB g none k s = some (k, s)) := Lib.hid (by rw [stepB, if_pos (by simp [d1, d2, newer])])
            clear d1 d2
            go_wp2
            refine wp_region_below (by kernel_rfl) (by kernel_rfl) (fun hkept => ?_)
            obtain ⟨r0, rf0⟩ := hkept (b) (by go_size); clear hkept
            repeat (any_goals (first | go_big_quiet_step (fail) | quiet_step (fail) | (refine wpQuiet_step (fun K hK => ?_); go_simp; split <;> (refine hK _ ?_; clear hK K))))
            all_goals (refine wpQuiet_nil ?_; intro w5 hb; obtain ⟨hB, hS, hk⟩ := after (B := wr.heap.size) (w := wr) (by go_grown) (by go_size) hb; obtain ⟨c0, f0, z0⟩ := hk (b) (by go_size); clear hk hb r0 rf0)
            go_wp2
            exact ⟨⟨k + 1, by omega, by rw [Htk.out, hst.out], by go_num, hB0.trans (hB.mono hzr)⟩, by simp [intOf]; omega⟩
          · have s2 : decide ((0 : Int) < s.app) = false := by simpa using d2
            have hst : Hid (stepB g none k s = none) := Lib.hid (by rw [stepB, if_neg (by simp [d2])])
            clear d1 d2
            go_wp2
            refine wp_region_below (by kernel_rfl) (by kernel_rfl) (fun hkept => ?_)
            obtain ⟨r0, rf0⟩ := hkept (b) (by go_size); clear hkept
            repeat (any_goals (first | go_big_quiet_step (fail) | quiet_step (fail) | (refine wpQuiet_step (fun K hK => ?_); go_simp; split <;> (refine hK _ ?_; clear hK K))))
            all_goals (refine wpQuiet_nil ?_; intro w5 hb; obtain ⟨hB, hS, hk⟩ := after (B := wr.heap.size) (w := wr) (by go_grown) (by go_size) hb; obtain ⟨c0, f0, z0⟩ := hk (b) (by go_size); clear hk hb r0 rf0)
            go_wp2
            exact ⟨⟨k + 1, by omega, by rw [Htk.out, hst.out], by go_num, hB0.trans (hB.mono hzr)⟩, by simp [intOf]; omega⟩
        · have s1 : (s.group == g) = false := by simpa using d1
          have hst : Hid (stepB g none k s = none) := Lib.hid (by rw [stepB, if_neg (by simp [d1])])
          clear d1
          go_wp2
          refine wp_region_below (by kernel_rfl) (by kernel_rfl) (fun hkept => ?_)
          obtain ⟨r0, rf0⟩ := hkept (b) (by go_size); clear hkept
          repeat (any_goals (first | go_big_quiet_step (fail) | quiet_step (fail) | (refine wpQuiet_step (fun K hK => ?_); go_simp; split <;> (refine hK _ ?_; clear hK K))))
          all_goals (refine wpQuiet_nil ?_; intro w5 hb; obtain ⟨hB, hS, hk⟩ := after (B := wr.heap.size) (w := wr) (by go_grown) (by go_size) hb; obtain ⟨c0, f0, z0⟩ := hk (b) (by go_size); clear hk hb r0 rf0)
          go_wp2
          exact ⟨⟨k + 1, by omega, by rw [Htk.out, hst.out], by go_num, hB0.trans (hB.mono hzr)⟩, by simp [intOf]; omega⟩
      | some qq =>
        obtain ⟨qi, q⟩ := qq
        obtain ⟨hq1, hq2⟩ := Hq.out _ rfl
        obtain ⟨b2, off2, e2, hb2, yy⟩ := (H.out.below hB0).at_ hq2
        have y11 := yy.at_ 11 _ rfl
        rw [e0] at e2
        cases e2
        cases e0
        simp only [bestI]
        have t0 : decide ((qi : Int) < 0) = false := by simp
        have hqn : qi < n := by simp only at hq1; omega
        clear yy hq2
        by_cases d1 : s.group = g
        · have s1 : (s.group == g) = true := by simpa using d1
          by_cases d2 : 0 < s.app
          · have s2 : decide ((0 : Int) < s.app) = true := by simpa using d2
            by_cases d3 : q.app < s.app
            · have s3 : decide (q.app < s.app) = true := by simpa using d3
              have hst : Hid (stepB g (some (qi, q)) k s = some (k, s)) := Lib.hid (by rw [stepB, if_pos (by simp [d1, d2, d3, newer])])
              clear d1 d2 d3
              go_wp2
              refine wp_region_below (by kernel_rfl) (by kernel_rfl) (fun hkept => ?_)
              obtain ⟨r0, rf0⟩ := hkept (b) (by go_size); clear hkept
              repeat (any_goals (first | go_big_quiet_step (fail) | quiet_step (fail) | (refine wpQuiet_step (fun K hK => ?_); go_simp; split <;> (refine hK _ ?_; clear hK K))))
              all_goals (refine wpQuiet_nil ?_; intro w5 hb; obtain ⟨hB, hS, hk⟩ := after (B := wr.heap.size) (w := wr) (by go_grown) (by go_size) hb; obtain ⟨c0, f0, z0⟩ := hk (b) (by go_size); clear hk hb r0 rf0)
              go_wp2
              exact ⟨⟨k + 1, by omega, by rw [Htk.out, hst.out], by go_num, hB0.trans (hB.mono hzr)⟩, by simp [intOf]; omega⟩
            · have s3 : decide (q.app < s.app) = false := by simpa using d3
              have hst : Hid (stepB g (some (qi, q)) k s = some (qi, q)) := Lib.hid (by rw [stepB, if_neg (by simp [d3, newer])])
              clear d1 d2 d3
              go_wp2
              refine wp_region_below (by kernel_rfl) (by kernel_rfl) (fun hkept => ?_)
              obtain ⟨r0, rf0⟩ := hkept (b) (by go_size); clear hkept
              repeat (any_goals (first | go_big_quiet_step (fail) | quiet_step (fail) | (refine wpQuiet_step (fun K hK => ?_); go_simp; split <;> (refine hK _ ?_; clear hK K))))
              all_goals (refine wpQuiet_nil ?_; intro w5 hb; obtain ⟨hB, hS, hk⟩ := after (B := wr.heap.size) (w := wr) (by go_grown) (by go_size) hb; obtain ⟨c0, f0, z0⟩ := hk (b) (by go_size); clear hk hb r0 rf0)
              go_wp2
              exact ⟨⟨k + 1, by omega, by rw [Htk.out, hst.out], by go_num, hB0.trans (hB.mono hzr)⟩, by simp [intOf]; omega⟩
          · have s2 : decide ((0 : Int) < s.app) = false := by simpa using d2
            have hst : Hid (stepB g (some (qi, q)) k s = (some (qi, q))) := Lib.hid (by rw [stepB, if_neg (by simp [d2])])
            clear d1 d2
            go_wp2
            refine wp_region_below (by kernel_rfl) (by kernel_rfl) (fun hkept => ?_)
            obtain ⟨r0, rf0⟩ := hkept (b) (by go_size); clear hkept
            repeat (any_goals (first | go_big_quiet_step (fail) | quiet_step (fail) | (refine wpQuiet_step (fun K hK => ?_); go_simp; split <;> (refine hK _ ?_; clear hK K))))
            all_goals (refine wpQuiet_nil ?_; intro w5 hb; obtain ⟨hB, hS, hk⟩ := after (B := wr.heap.size) (w := wr) (by go_grown) (by go_size) hb; obtain ⟨c0, f0, z0⟩ := hk (b) (by go_size); clear hk hb r0 rf0)
            go_wp2
            exact ⟨⟨k + 1, by omega, by rw [Htk.out, hst.out], by go_num, hB0.trans (hB.mono hzr)⟩, by simp [intOf]; omega⟩
        · have s1 : (s.group == g) = false := by simpa using d1
          have hst : Hid (stepB g (some (qi, q)) k s = (some (qi, q))) := Lib.hid (by rw [stepB, if_neg (by simp [d1])])
          clear d1
          go_wp2
          refine wp_region_below (by kernel_rfl) (by kernel_rfl) (fun hkept => ?_)
          obtain ⟨r0, rf0⟩ := hkept (b) (by go_size); clear hkept
          repeat (any_goals (first | go_big_quiet_step (fail) | quiet_step (fail) | (refine wpQuiet_step (fun K hK => ?_); go_simp; split <;> (refine hK _ ?_; clear hK K))))
          all_goals (refine wpQuiet_nil ?_; intro w5 hb; obtain ⟨hB, hS, hk⟩ := after (B := wr.heap.size) (w := wr) (by go_grown) (by go_size) hb; obtain ⟨c0, f0, z0⟩ := hk (b) (by go_size); clear hk hb r0 rf0)
          go_wp2
          exact ⟨⟨k + 1, by omega, by rw [Htk.out, hst.out], by go_num, hB0.trans (hB.mono hzr)⟩, by simp [intOf]; omega⟩
    · obtain rfl : k = n := by omega
      have hRf : Hid (R = bestI acc) := Lib.hid (by
        rw [HR.out, hacc, List.take_of_length_le (by rw [Hn.out]; exact Nat.le_refl _)])
      clear hacc
      go_wp2
      go_returns
      exact ⟨by rw [hRf.out]; rfl, hB0⟩
end Go.Proofs.Yteibnignjghedaa

/-
  Where the tablets are, plainly: places put in order from the right are places put in behind all that are not above them.
-/
namespace Go.Proofs.Yteibnignjghedaa
open Go.RowKit Go.Sort

abbrev Says := Int × ByteArray × ByteArray × Int × List Int
/-- x put in behind all whose Low is not above its own -/
def putS (x : Says) (l : List Says) : List Says := l.takeWhile (fun y => !decide (x.2.1.toList < y.2.1.toList)) ++ x :: l.dropWhile (fun y => !decide (x.2.1.toList < y.2.1.toList))
def putLc (x : LocI) (l : List LocI) : List LocI := l.takeWhile (fun y => !decide (x.lo.toList < y.lo.toList)) ++ x :: l.dropWhile (fun y => !decide (x.lo.toList < y.lo.toList))
theorem putLc_says (x : LocI) (l : List LocI) : (putLc x l).map LocI.says = putS x.says (l.map LocI.says) := by
  rw [putLc, putS, List.map_append, List.map_cons, List.takeWhile_map, List.dropWhile_map]
  rfl
theorem cmpLo_neg (x y : LocI) : cmpLo x y < 0 ↔ x.lo.toList < y.lo.toList := by
  unfold cmpLo cmpL
  split
  · simp_all
  · split <;> simp_all
def Falls (r : List LocI) : Prop := r.Pairwise fun a b => ¬ a.lo.toList < b.lo.toList
theorem low_trans {a b c : List UInt8} (h1 : ¬ a < b) (h2 : ¬ b < c) : ¬ a < c := by
  rw [List.not_lt] at h1 h2 ⊢
  exact List.le_trans h2 h1
theorem insR_mem {x z : LocI} : ∀ {r : List LocI}, z ∈ insR x r → z = x ∨ z ∈ r
  | [], h => by simp [insR] at h; exact .inl h
  | y :: r, h => by
    rw [insR] at h
    split at h
    · rcases List.mem_cons.1 h with rfl | h
      · exact .inr (by simp)
      · rcases insR_mem h with h | h
        · exact .inl h
        · exact .inr (by simp [h])
    · rcases List.mem_cons.1 h with rfl | h
      · exact .inl rfl
      · exact .inr h
theorem insR_falls (x : LocI) : ∀ (r : List LocI), Falls r → Falls (insR x r)
  | [], _ => by simp [insR, Falls]
  | y :: r, h => by
    obtain ⟨h1, h2⟩ := List.pairwise_cons.1 h
    rw [insR]
    split
    · rename_i hc
      rw [cmpLo_neg] at hc
      refine List.pairwise_cons.2 ⟨fun z hz => ?_, insR_falls x r h2⟩
      rcases insR_mem hz with rfl | hz
      · exact List.not_lt.2 (List.le_of_lt hc)
      · exact h1 z hz
    · rename_i hc
      rw [cmpLo_neg] at hc
      refine List.pairwise_cons.2 ⟨fun z hz => ?_, h⟩
      rcases List.mem_cons.1 hz with rfl | hz
      · exact hc
      · exact low_trans hc (h1 z hz)
theorem takeWhile_snoc_no {α : Type} {p : α → Bool} {y : α} (hy : p y = false) : ∀ (l : List α), (l ++ [y]).takeWhile p = l.takeWhile p ∧ (l ++ [y]).dropWhile p = l.dropWhile p ++ [y]
  | [] => by simp [List.takeWhile, List.dropWhile, hy]
  | a :: l => by
    obtain ⟨h1, h2⟩ := takeWhile_snoc_no hy l
    cases ha : p a
    · simp [List.takeWhile, List.dropWhile, ha]
    · simp [List.takeWhile, List.dropWhile, ha, h1, h2]
theorem takeWhile_all' {α : Type} {p : α → Bool} : ∀ (l : List α), (∀ a ∈ l, p a = true) → l.takeWhile p = l ∧ l.dropWhile p = []
  | [], _ => ⟨rfl, rfl⟩
  | a :: l, h => by
    obtain ⟨h1, h2⟩ := takeWhile_all' l (fun b hb => h b (by simp [hb]))
    have ha := h a (by simp)
    simp [List.takeWhile, List.dropWhile, ha, h1, h2]
theorem insR_put (x : LocI) : ∀ (r : List LocI), Falls r → (insR x r).reverse = putLc x r.reverse
  | [], _ => rfl
  | y :: r, h => by
    obtain ⟨h1, h2⟩ := List.pairwise_cons.1 h
    rw [insR]
    split
    · rename_i hc
      rw [cmpLo_neg] at hc
      have hp : (!decide (x.lo.toList < y.lo.toList)) = false := by simpa using hc
      obtain ⟨e1, e2⟩ := takeWhile_snoc_no (p := fun y : LocI => !decide (x.lo.toList < y.lo.toList)) hp r.reverse
      rw [List.reverse_cons, insR_put x r h2, List.reverse_cons, putLc, putLc, e1, e2]
      simp
    · rename_i hc
      rw [cmpLo_neg] at hc
      obtain ⟨e1, e2⟩ := takeWhile_all' (p := fun y : LocI => !decide (x.lo.toList < y.lo.toList)) (y :: r).reverse (fun z hz => by
        simp only [List.mem_reverse, List.mem_cons] at hz
        rcases hz with rfl | hz
        · simpa using hc
        · have := low_trans hc (h1 z hz)
          simpa using this)
      rw [putLc, e1, e2, List.reverse_cons]
theorem isR_falls (l : List LocI) : Falls (isR l) := by
  have : ∀ (l r : List LocI), Falls r → Falls (l.foldl (fun r x => insR x r) r) := by
    intro l
    induction l with
    | nil => intro r h; exact h
    | cons x l ih => intro r h; exact ih _ (insR_falls x r h)
  exact this l [] List.Pairwise.nil
theorem isort_put (l : List LocI) : isort l = l.foldl (fun out x => putLc x out) [] := by
  have : ∀ (l r : List LocI), Falls r → (l.foldl (fun r x => insR x r) r).reverse = l.foldl (fun out x => putLc x out) r.reverse := by
    intro l
    induction l with
    | nil => intro r _; rfl
    | cons x l ih =>
      intro r h
      rw [List.foldl_cons, List.foldl_cons, ih _ (insR_falls x r h), insR_put x r h]
  exact this l [] List.Pairwise.nil
theorem isort_says (l : List LocI) : (isort l).map LocI.says = (l.map LocI.says).foldl (fun out x => putS x out) [] := by
  rw [isort_put]
  have : ∀ (l r : List LocI), (l.foldl (fun out x => putLc x out) r).map LocI.says = (l.map LocI.says).foldl (fun out x => putS x out) (r.map LocI.says) := by
    intro l
    induction l with
    | nil => intro r; rfl
    | cons x l ih => intro r; rw [List.foldl_cons, ih, putLc_says]; rfl
  exact this l []
/-- the nodes of a group, as its newest replica shows: the last change of members that is applied, else the base's -/
def confB (s : SeenA) (e : EntA) : Bool := decide (e.kind = 2) && decide (e.idx ≤ s.app)
def nodesF (s : SeenA) : List Int → List EntA → List Int
  | m, [] => m
  | m, e :: r => nodesF s (if confB s e = true then e.mem else m) r
theorem nodesF_snoc (s : SeenA) : ∀ (m : List Int) (l : List EntA) (e : EntA), nodesF s m (l ++ [e]) = if confB s e = true then e.mem else nodesF s m l
  | m, [], e => rfl
  | m, x :: r, e => by rw [List.cons_append, nodesF, nodesF_snoc s _ r e, nodesF]
def nodesL (s : SeenA) : List Int := nodesF s s.bm s.es
def placeL (g : Int) (s : SeenA) : Says := (g, s.lo, s.hi, s.ep, nodesL s)
/-- the places of the groups from 3 on, m of them looked at, in the groups' order -/
def placesL (l : List SeenA) : Nat → List Says
  | 0 => []
  | m + 1 => placesL l m ++ (match bestL (3 + m) l with | none => [] | some q => [placeL (3 + m) q.2])
def tabsL (l : List SeenA) : List Says := (placesL l 9).foldl (fun out x => putS x out) []
/-- as the document puts them in -/
def rtabsL (l : List SeenA) : Nat → List Says
  | 0 => []
  | m + 1 => match bestL (3 + m) l with | none => rtabsL l m | some q => putS (placeL (3 + m) q.2) (rtabsL l m)
theorem rtabs_eq (l : List SeenA) : ∀ m, rtabsL l m = (placesL l m).foldl (fun out x => putS x out) []
  | 0 => rfl
  | m + 1 => by
    rw [rtabsL, placesL]
    cases bestL (3 + m) l with
    | none => simp [rtabs_eq l m]
    | some q => simp [rtabs_eq l m, List.foldl_append]
theorem places_len (l : List SeenA) : ∀ m, (placesL l m).length ≤ m
  | 0 => Nat.le_refl _
  | m + 1 => by
    have := places_len l m
    rw [placesL, List.length_append]
    cases bestL (3 + m) l <;> simp <;> omega
end Go.Proofs.Yteibnignjghedaa
