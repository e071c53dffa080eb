/-
  The walks of the document's answers for cells: Before, Sort, Place, Newest, Alive (acreageref04); that they are what cells.Sort and its kin make.
-/
import Derived.Test.YtehbikofoidjhaaSortAnyW
import Derived.Test.YtehbikofoidjhaaLits
namespace Go.Proofs.Ytehbikofoidjhaa
open Go.RowKit Go.Sort

/-! ### plain -/
def rins (x : CellA) : List CellA → List CellA
  | [] => [x]
  | y :: r => if cmpC y x < 0 then y :: rins x r else if cmpC y x = 0 then y :: r else x :: y :: r
def rsortL (l : List CellA) : List CellA := l.foldl (fun o x => rins x o) []
theorem rsortL_snoc (l : List CellA) (x : CellA) : rsortL (l ++ [x]) = rins x (rsortL l) := by simp [rsortL]
theorem rins_put {x : CellA} : ∀ {o : List CellA} {p : Nat}, (∀ y ∈ o.take p, cmpC y x < 0) → (∀ y, o[p]? = some y → ¬ cmpC y x < 0 ∧ cmpC y x ≠ 0) → rins x o = o.take p ++ x :: o.drop p
  | [], p, _, _ => by simp [rins]
  | y :: r, 0, _, h => by
    obtain ⟨h1, h2⟩ := h y rfl
    rw [rins, if_neg h1, if_neg h2]; rfl
  | y :: r, p + 1, ha, h => by
    rw [rins, if_pos (ha y (by simp)), rins_put (p := p) (fun z hz => ha z (by simp [hz])) (fun z hz => h z (by simpa using hz))]; rfl
theorem rins_keep {x : CellA} : ∀ {o : List CellA} {p : Nat} {y : CellA}, (∀ y ∈ o.take p, cmpC y x < 0) → o[p]? = some y → cmpC y x = 0 → rins x o = o
  | [], p, y, _, h, _ => by simp at h
  | y :: r, 0, z, _, h, hz => by
    simp only [List.getElem?_cons_zero, Option.some.injEq] at h
    subst h
    rw [rins, if_neg (by omega), if_pos hz]
  | y :: r, p + 1, z, ha, h, hz => by
    rw [rins, if_pos (ha y (by simp)), rins_keep (p := p) (y := z) (fun z hz => ha z (by simp [hz])) (by simpa using h) hz]
theorem rins_len (x : CellA) : ∀ o : List CellA, (rins x o).length ≤ o.length + 1
  | [] => by simp [rins]
  | y :: r => by
    have := rins_len x r
    rw [rins]; split
    · simp; omega
    · split <;> simp
theorem rsortL_len (l : List CellA) : (rsortL l).length ≤ l.length := by
  have key : ∀ (l o : List CellA), (l.foldl (fun o x => rins x o) o).length ≤ o.length + l.length := by
    intro l
    induction l with
    | nil => intro o; simp
    | cons x l ih => intro o; have := ih (rins x o); have := rins_len x o; rw [List.foldl_cons, List.length_cons]; omega
  have := key l []
  rw [List.length_nil, Nat.zero_add] at this
  exact this

/-- strictly in order -/
def Strict (l : List CellA) : Prop := l.Pairwise fun a b => cmpC a b < 0
theorem Strict.srt {l : List CellA} (h : Strict l) : Srt l := List.Pairwise.imp (fun h => lt_leC h) h
/-- of each class the first -/
structure FirstOf (z l : List CellA) : Prop where
  strict : Strict z
  flt : ∀ x, z.filter (eqvC x) = (l.filter (eqvC x)).take 1
theorem first_unique {y z l : List CellA} (h : FirstOf y l) (k : FirstOf z l) : y = z := sort_unique h.strict.srt k.strict.srt fun x => (h.flt x).trans (k.flt x).symm

theorem rins_mem {x : CellA} : ∀ {o : List CellA} {z : CellA}, z ∈ rins x o → z = x ∨ z ∈ o
  | [], z, h => by simp [rins] at h; exact .inl h
  | y :: r, z, h => by
    rw [rins] at h
    split at h
    · rcases List.mem_cons.1 h with h | h
      · exact .inr (by simp [h])
      · rcases rins_mem h with h | h
        · exact .inl h
        · exact .inr (by simp [h])
    · split at h
      · exact .inr h
      · rcases List.mem_cons.1 h with h | h
        · exact .inl h
        · exact .inr h
theorem eqvC_eq {x a b : CellA} (h : cmpC a b = 0) : eqvC x a = eqvC x b := by
  unfold eqvC
  congr 1
  apply propext
  exact ⟨fun k => cmp_eq_trans k h, fun k => cmp_eq_trans k (cmp_zero_flip.1 h)⟩
theorem eqvC_lt {x a b : CellA} (h : cmpC a b < 0) (ha : eqvC x a = true) : eqvC x b = false := by
  simp only [eqvC, decide_eq_true_eq, decide_eq_false_iff_not] at *
  intro hb
  have := cmp_eq_trans (cmp_zero_flip.1 ha) hb
  omega
theorem flt_none {x : CellA} {l : List CellA} {a : CellA} (h : ∀ b ∈ l, cmpC a b < 0) (ha : eqvC x a = true) : l.filter (eqvC x) = [] := by
  rw [List.filter_eq_nil_iff]
  intro b hb
  rw [eqvC_lt (h b hb) ha]; decide
theorem rins_first {x : CellA} : ∀ {o : List CellA}, Strict o → Strict (rins x o) ∧ ∀ z, (rins x o).filter (eqvC z) = if (o.filter (eqvC z)) = [] then [x].filter (eqvC z) else o.filter (eqvC z)
  | [], _ => ⟨by simp [rins, Strict], fun z => by simp [rins]⟩
  | y :: r, h => by
    obtain ⟨h1, h2⟩ := List.pairwise_cons.1 h
    rw [rins]
    by_cases c1 : cmpC y x < 0
    · rw [if_pos c1]
      obtain ⟨i1, i2⟩ := rins_first (x := x) (show Strict r from h2)
      refine ⟨List.pairwise_cons.2 ⟨fun z hz => ?_, i1⟩, fun z => ?_⟩
      · rcases rins_mem hz with rfl | hz
        · exact c1
        · exact h1 z hz
      · rw [List.filter_cons, List.filter_cons, i2 z]
        by_cases hy : eqvC z y = true
        · rw [if_pos hy, if_pos hy, flt_none h1 hy, if_pos rfl, if_neg (by simp)]
          rw [flt_none (l := [x]) (a := y) (by simpa using c1) hy]
        · rw [if_neg hy, if_neg hy]
    · rw [if_neg c1]
      by_cases c2 : cmpC y x = 0
      · rw [if_pos c2]
        refine ⟨h, fun z => ?_⟩
        split
        · rename_i he
          rw [he, List.filter_cons, List.filter_nil]
          rw [List.filter_cons] at he
          by_cases hy : eqvC z y = true
          · rw [if_pos hy] at he; cases he
          · rw [← eqvC_eq c2, if_neg hy]
        · rfl
      · rw [if_neg c2]
        have c3 : cmpC x y < 0 := by have := cmpC_neg x y; omega
        have hlt : ∀ b ∈ y :: r, cmpC x b < 0 := fun b hb => by
          rcases List.mem_cons.1 hb with rfl | hb
          · exact c3
          · exact cmp_lt_trans c3 (h1 b hb)
        refine ⟨List.pairwise_cons.2 ⟨hlt, h⟩, fun z => ?_⟩
        rw [List.filter_cons]
        by_cases hx : eqvC z x = true
        · rw [if_pos hx, flt_none hlt hx, if_pos rfl, List.filter_cons, if_pos hx, List.filter_nil]
        · rw [if_neg hx]
          split
          · rename_i he
            rw [he, List.filter_cons, if_neg hx, List.filter_nil]
          · rfl
theorem take_one_append {a b : List CellA} : (a ++ b).take 1 = if a = [] then b.take 1 else a.take 1 := by
  cases a <;> simp
theorem rsort_first (l : List CellA) : FirstOf (rsortL l) l := by
  have key : ∀ (n : Nat) (l : List CellA), l.length = n → FirstOf (rsortL l) l := by
    intro n
    induction n with
    | zero => intro l h; rw [len_zero h]; exact ⟨by simp [rsortL, Strict], fun x => by simp [rsortL]⟩
    | succ n ih =>
      intro l h
      obtain ⟨r, x, rfl⟩ : ∃ r x, l = r ++ [x] := ⟨l.dropLast, l.getLast (by intro e; subst e; simp at h), (List.dropLast_concat_getLast _).symm⟩
      have hr := ih r (by simpa using h)
      obtain ⟨h1, h2⟩ := rins_first (x := x) hr.strict
      refine ⟨by rw [rsortL_snoc]; exact h1, fun z => ?_⟩
      rw [rsortL_snoc, h2 z, hr.flt z, List.filter_append, take_one_append]
      by_cases he : r.filter (eqvC z) = []
      · rw [if_pos (by rw [he]; rfl), if_pos he, List.filter_cons, List.filter_nil]
        split <;> rfl
      · rw [if_neg he, if_neg]
        intro hc
        cases hr' : r.filter (eqvC z) with
        | nil => exact he hr'
        | cons a b => rw [hr'] at hc; simp at hc
  exact key _ l rfl
theorem keepF_first : ∀ (r : List CellA) (x : CellA), Srt (x :: r) → Strict (x :: keepF sameK x r) ∧ ∀ z, (keepF sameK x r).filter (eqvC z) = if eqvC z x = true then [] else (r.filter (eqvC z)).take 1
  | [], x, _ => ⟨by simp [keepF, Strict], fun z => by simp [keepF]⟩
  | y :: r, x, h => by
    obtain ⟨h1, h2⟩ := List.pairwise_cons.1 h
    obtain ⟨i1, i2⟩ := keepF_first r y h2
    obtain ⟨j1, j2⟩ := List.pairwise_cons.1 i1
    rw [keepF]
    by_cases c : cmpC y x = 0
    · rw [if_pos (by simpa [sameK] using c)]
      refine ⟨List.pairwise_cons.2 ⟨fun b hb => cmp_eq_lt (cmp_zero_flip.1 c) (j1 b hb), j2⟩, fun z => ?_⟩
      rw [i2 z, ← eqvC_eq c]
      by_cases hy : eqvC z y = true
      · rw [if_pos hy, if_pos hy]
      · rw [if_neg hy, if_neg hy, List.filter_cons, if_neg hy]
    · rw [if_neg (by simpa [sameK] using c)]
      have c3 : cmpC x y < 0 := by
        have := h1 y (by simp)
        unfold leC at this
        have := cmpC_neg x y; omega
      refine ⟨List.pairwise_cons.2 ⟨fun b hb => ?_, i1⟩, fun z => ?_⟩
      · rcases List.mem_cons.1 hb with rfl | hb
        · exact c3
        · exact cmp_lt_trans c3 (j1 b hb)
      · rw [List.filter_cons, i2 z]
        by_cases hx : eqvC z x = true
        · have hy : eqvC z y = false := eqvC_lt c3 hx
          have hr : r.filter (eqvC z) = [] := flt_none (fun b hb => lt_le_trans c3 ((List.pairwise_cons.1 h2).1 b hb)) hx
          rw [if_pos hx, hy, hr]; rfl
        · rw [if_neg hx, List.filter_cons]
          by_cases hy : eqvC z y = true
          · rw [if_pos hy, if_pos hy, if_pos hy]; rfl
          · rw [if_neg hy, if_neg hy, if_neg hy]
theorem sort_first (l : List CellA) : FirstOf (sortL l) l := by
  have hs := isort_spec l
  unfold sortL
  cases he : isort l with
  | nil =>
    have h0 : l = [] := len_zero (by rw [← hs.len, he]; rfl)
    exact ⟨by simp [compactL, Strict], fun x => by simp [compactL, h0]⟩
  | cons x r =>
    have h1 := hs.srt
    rw [he] at h1
    obtain ⟨h2, h3⟩ := keepF_first r x h1
    refine ⟨h2, fun z => ?_⟩
    rw [← hs.flt z, he, compactL, List.filter_cons, List.filter_cons, h3 z]
    by_cases hx : eqvC z x = true
    · rw [if_pos hx, if_pos hx, if_pos hx]; rfl
    · rw [if_neg hx, if_neg hx, if_neg hx]
theorem rsort_eq (l : List CellA) : rsortL l = sortL l := first_unique (rsort_first l) (sort_first l)

theorem Arr.drop {w : World} {size n cap : Nat} {b off : Nat} {es : List (List Value)} (h : Arr w size (some ⟨b, off, none⟩) n cap es) (k : Nat) (hk : k ≤ n) {o : Nat} (ho : o = off + k * size) : Arr w size (some ⟨b, o, none⟩) (n - k) (cap - k) (es.drop k) := by
  subst ho
  refine ⟨h.elems.drop k, by rw [List.length_drop, h.len], by have := h.fits; omega, by have := h.max; omega, fun h0 => ?_⟩
  obtain ⟨b', off', e, hl, hc⟩ := h.lies (by omega)
  cases e
  refine ⟨b, off + k * size, rfl, hl, fun i e he j u hu => ?_⟩
  rw [List.getElem?_drop] at he
  have := hc (k + i) e he j u hu
  rwa [show off + k * size + i * size + j = off + (k + i) * size + j by rw [Nat.add_mul]; omega]

/-! ### the walks -/
set_option maxHeartbeats 400000 in
theorem rbefore_any (a b : CellA) (w : World) :
    Calls Try.prog 60 #[a.v, b.v] w fun e w' => e = .returned (.bool (decide (cmpC a b < 0))) ∧ Below w.heap.size w w' := by
  have hcm := Lib.hid fun W => rcmp_any a b W
  obtain ⟨z, hz⟩ : ∃ z, cmpC a b = z := ⟨_, rfl⟩
  rw [hz] at hcm ⊢
  clear hz
  obtain ⟨ar, ac, av, ag, al⟩ := a
  obtain ⟨br, bc, bv, bg, bl⟩ := b
  simp only [CellA.v] at hcm ⊢
  go_enter Try.func60, Try.ntmps60
  go_wp2_with (first | (go_at_call 59; refine (hcm.out _).mono ?_; rintro e w1 ⟨rfl, hb⟩; obtain ⟨hB, hS, hk⟩ := after (B := w.heap.size) (w := w) (by go_grown) (by go_size) hb; clear hb; clear hk))
  go_returns
  exact ⟨rfl, hB⟩

theorem arr_none {w : World} {size c : Nat} {ao : Option Addr} {es : List (List Value)} (h : es = []) (hc : c ≤ maxLen) : Arr w size ao 0 c es := by
  subst h
  exact ⟨fun _ h => by simp at h, rfl, Nat.zero_le _, hc, fun h => by omega⟩
theorem own_cat {w : World} {B B' : Nat} {v : Value} {m nn p : Nat} {x : CellA} {o : List CellA} (hp : p ≤ m) (hB : B' ≤ B) (hm : o.length = m)
    (h : Row w B 37 5 v nn ([] ++ ((o.map cellE).take p).flatten ++ ([x].map cellE).flatten ++ ((o.map cellE).drop p).flatten)) : Own w B' v (o.take p ++ x :: o.drop p) := by
  have e : [] ++ ((o.map cellE).take p).flatten ++ ([x].map cellE).flatten ++ ((o.map cellE).drop p).flatten = ((o.take p ++ x :: o.drop p).map cellE).flatten := by
    rw [List.nil_append, ← List.map_take, ← List.map_drop, ← List.flatten_append, ← List.flatten_append, ← List.map_append, ← List.map_append]
    simp
  rw [e] at h
  have h1 := h.1
  rw [flatten_len (cellE_elems _).len, List.length_map] at h1
  have : nn = (o.take p ++ x :: o.drop p).length := by omega
  rw [this] at h
  exact Row.mono h hB

set_option maxRecDepth 100000 in
set_option maxHeartbeats 4000000 in
theorem rsort_any (ao : Option Addr) (n cap : Nat) (cs : List CellA) (w : World) (h : Cells w ao n cap cs) (hle : n ≤ 1000000) :
    Calls Try.prog 38 #[.slice ao n cap] w fun e w' => ∃ v, e = .returned v ∧ Own w' w.heap.size v (rsortL cs) ∧ Below w.heap.size w w' := by
  obtain ⟨i0, hi, hz0, hz1, hz2⟩ := info_parts Try.info_cell
  have Hi := Lib.hid hi
  have hc1 := Arr.fits h
  have hc2 := Arr.max h
  unfold maxLen at hc2
  have Hl := Lib.hid h.len
  have H := Lib.hid h
  clear h hi
  go_enter Try.func38, Try.ntmps38
  go_wp2
  go_loopw [3, 4] (fun v i wr => ∃ k : Nat, k ≤ n ∧ i = .int .i64 k ∧ Hid (Own wr w.heap.size v (rsortL (cs.take k))) ∧ Below w.heap.size w wr) (fun _ i _ => n - (intOf i).toNat)
  case atStart => exact ⟨0, by omega, rfl, Lib.hid (Row.nil _ _ _ _), Below.refl _ _⟩
  case round =>
    obtain ⟨k, hk, rfl, hO, hB0⟩ := hrel
    by_cases hlt : k < n
    · obtain ⟨x, hx⟩ : ∃ x, cs[k]? = some x := ⟨_, List.getElem?_eq_getElem (by rw [Hl.out]; omega)⟩
      obtain ⟨b, off, rfl, hb, ⟨x0, x1, x2, x3, x4⟩⟩ := Cells.at_ H.out hx
      obtain ⟨k0, k0f⟩ := keep_below hB0 b hb
      have hzr := hB0.size
      have Hst : Hid (rsortL (cs.take (k + 1)) = rins x (rsortL (cs.take k))) := Lib.hid (by rw [List.take_add_one, hx]; exact rsortL_snoc _ _)
      have hql : (rsortL (cs.take k)).length ≤ k := by have := rsortL_len (cs.take k); rw [List.length_take] at this; omega
      obtain ⟨o, ho⟩ : ∃ o, o = rsortL (cs.take k) := ⟨_, rfl⟩
      rw [← ho] at Hst hql hO
      obtain ⟨m, hm⟩ : ∃ m, m = o.length := ⟨_, rfl⟩
      obtain ⟨ao2, cap2, rfl, hc⟩ := hO.out.cells_n hm.symm
      have Hc := Lib.hid hc
      have hf2 := Arr.fits hc
      have hm2 := Arr.max hc
      unfold maxLen at hm2
      rw [← hm] at hql
      have Hm := Lib.hid hm.symm
      clear hx ho hc hm
      obtain ⟨wo, rfl⟩ : ∃ wo : World, wo = wr := ⟨_, rfl⟩
      go_wp2
      go_loopw [5] (fun i wr => ∃ p : Nat, p ≤ m ∧ i = .int .i64 p ∧ Hid (∀ y ∈ o.take p, cmpC y x < 0) ∧ Below wo.heap.size wo wr) (fun i _ => m - (intOf i).toNat)
      case atStart => exact ⟨0, by omega, rfl, Lib.hid (by simp), Below.refl _ _⟩
      case round =>
        obtain ⟨p, hp, rfl, hA, hB1⟩ := hrel
        have hzq := hB1.size
        have hsmall : m ≤ 1000000 := by omega
        have hend : p = m ∨ (p < m ∧ ∃ y, o[p]? = some y ∧ ¬ cmpC y x < 0) → True := fun _ => trivial
        clear hend
        obtain ⟨k2, k2f⟩ := keep_below hB1 b (by omega)
        have HO1 := Lib.hid (hO.out.below hB1)
        have HC1 : Hid (Cells wr ao2 m cap2 o) := Lib.hid (Arr.below Hc.out hB1)
        by_cases hpm : p < m
        · obtain ⟨y, hy⟩ : ∃ y, o[p]? = some y := ⟨_, List.getElem?_eq_getElem (by rw [Hm.out]; exact hpm)⟩
          obtain ⟨g, off2, rfl, hb2, ⟨y0, y1, y2, y3, y4⟩⟩ := Cells.at_ HC1.out hy
          have hcb := Lib.hid fun W => rbefore_any y x W
          have hcc := Lib.hid fun W => rcmp_any y x W
          have Hy := Lib.hid hy
          obtain ⟨z, hz⟩ : ∃ z, cmpC y x = z := ⟨_, rfl⟩
          rw [hz] at hcb hcc
          have Hz := Lib.hid hz
          clear hz hy
          by_cases hneg : z < 0
          · have hneg1 : decide (z < 0) = true := by simpa using hneg
            rw [hneg1] at hcb
            go_wp2
            refine wp_region_below (by kernel_rfl) (by kernel_rfl) (fun hkept => ?_)
            obtain ⟨r0, rf0⟩ := hkept (b) (by go_size); obtain ⟨r1, rf1⟩ := hkept (g) (by go_size); clear hkept
            repeat (any_goals (first | go_big_quiet_step (first | (go_at_call 60; exact Calls.regrown_of (hcb.out _))) | quiet_step (first | (go_at_call 60; exact Calls.regrown_of (hcb.out _))) | (refine wpQuiet_step (fun K hK => ?_); go_simp; split <;> (refine hK _ ?_; clear hK K))))
            all_goals (refine wpQuiet_nil ?_; intro w5 hb; obtain ⟨hB, hS, hk⟩ := after (B := wr.heap.size) (w := wr) (by go_grown) (by go_size) hb; obtain ⟨c0, f0, z0⟩ := hk (b) (by go_size); obtain ⟨c1, f1, z1⟩ := hk (g) (by go_size); clear hk hb r0 rf0 r1 rf1)
            go_wp2
            exact ⟨⟨p + 1, by omega, by go_num, Lib.hid (fun y' hy' => by
              rw [List.take_add_one, Hy.out] at hy'
              rcases List.mem_append.1 hy' with h | h
              · exact hA.out y' h
              · have := List.mem_singleton.1 h; subst this; rw [Hz.out]; exact hneg), hB1.trans (hB.mono hzq)⟩, by simp [intOf]; omega⟩
          · have hneg1 : decide (z < 0) = false := by simpa using hneg
            rw [hneg1] at hcb
            by_cases hz0' : z = 0
            · subst hz0'
              have Hkeep : Hid (rins x o = o) := Lib.hid (rins_keep hA.out Hy.out Hz.out)
              go_wp2
              refine wp_region_below (by kernel_rfl) (by kernel_rfl) (fun hkept => ?_)
              obtain ⟨r0, rf0⟩ := hkept (b) (by go_size); obtain ⟨r1, rf1⟩ := hkept (g) (by go_size); clear hkept
              repeat (any_goals (first | go_big_quiet_step (first | (go_at_call 60; exact Calls.regrown_of (hcb.out _))) | quiet_step (first | (go_at_call 60; exact Calls.regrown_of (hcb.out _))) | (refine wpQuiet_step (fun K hK => ?_); go_simp; split <;> (refine hK _ ?_; clear hK K))))
              all_goals (refine wpQuiet_nil ?_; intro w5 hb; obtain ⟨hB, hS, hk⟩ := after (B := wr.heap.size) (w := wr) (by go_grown) (by go_size) hb; obtain ⟨c0, f0, z0⟩ := hk (b) (by go_size); obtain ⟨c1, f1, z1⟩ := hk (g) (by go_size); clear hk hb r0 rf0 r1 rf1)
              go_wp2
              refine wp_region_below (by kernel_rfl) (by kernel_rfl) (fun hkept => ?_)
              obtain ⟨r0, rf0⟩ := hkept (b) (by go_size); obtain ⟨r1, rf1⟩ := hkept (g) (by go_size); clear hkept
              repeat (any_goals (first | go_big_quiet_step (first | (go_at_call 59; exact Calls.regrown_of (hcc.out _))) | quiet_step (first | (go_at_call 59; exact Calls.regrown_of (hcc.out _))) | (refine wpQuiet_step (fun K hK => ?_); go_simp; split <;> (refine hK _ ?_; clear hK K))))
              all_goals (refine wpQuiet_nil ?_; intro w6 hb; obtain ⟨hB, hS, hk⟩ := after (B := wr.heap.size) (w := wr) (by go_grown) (by go_size) hb; obtain ⟨c0, f0, z0⟩ := hk (b) (by go_size); obtain ⟨c1, f1, z1⟩ := hk (g) (by go_size); clear hk hb r0 rf0 r1 rf1)
              go_wp2
              exact ⟨⟨k + 1, by omega, by go_num, Lib.hid (by rw [Hst.out, Hkeep.out]; have := HO1.out.below hB; unfold Own at this ⊢; rw [Hm.out] at this ⊢; exact this), hB0.trans ((hB1.trans (hB.mono hzq)).mono hzr)⟩, by simp [intOf]; omega⟩
            · have hzb1 : (z == 0) = false := by simpa using hz0'
              have hzb2 : decide (z = 0) = false := by simpa using hz0'
              have Hput : Hid (rins x o = o.take p ++ x :: o.drop p) := Lib.hid (rins_put hA.out (fun y' hy' => by
                rw [Hy.out] at hy'
                have := Option.some.inj hy'; subst this
                rw [Hz.out]; exact ⟨hneg, hz0'⟩))
              go_wp2
              refine wp_region_below (by kernel_rfl) (by kernel_rfl) (fun hkept => ?_)
              obtain ⟨r0, rf0⟩ := hkept (b) (by go_size); obtain ⟨r1, rf1⟩ := hkept (g) (by go_size); clear hkept
              repeat (any_goals (first | go_big_quiet_step (first | (go_at_call 60; exact Calls.regrown_of (hcb.out _))) | quiet_step (first | (go_at_call 60; exact Calls.regrown_of (hcb.out _))) | (refine wpQuiet_step (fun K hK => ?_); go_simp; split <;> (refine hK _ ?_; clear hK K))))
              all_goals (refine wpQuiet_nil ?_; intro w5 hb; obtain ⟨hB, hS, hk⟩ := after (B := wr.heap.size) (w := wr) (by go_grown) (by go_size) hb; obtain ⟨c0, f0, z0⟩ := hk (b) (by go_size); obtain ⟨c1, f1, z1⟩ := hk (g) (by go_size); clear hk hb r0 rf0 r1 rf1)
              go_wp2
              refine wp_region_below (by kernel_rfl) (by kernel_rfl) (fun hkept => ?_)
              obtain ⟨r0, rf0⟩ := hkept (b) (by go_size); obtain ⟨r1, rf1⟩ := hkept (g) (by go_size); clear hkept
              repeat (any_goals (first | go_big_quiet_step (first | (go_at_call 59; exact Calls.regrown_of (hcc.out _))) | quiet_step (first | (go_at_call 59; exact Calls.regrown_of (hcc.out _))) | (refine wpQuiet_step (fun K hK => ?_); go_simp; split <;> (refine hK _ ?_; clear hK K))))
              all_goals (refine wpQuiet_nil ?_; intro w6 hb; obtain ⟨hB, hS, hk⟩ := after (B := wr.heap.size) (w := wr) (by go_grown) (by go_size) hb; obtain ⟨c0, f0, z0⟩ := hk (b) (by go_size); obtain ⟨c1, f1, z1⟩ := hk (g) (by go_size); clear hk hb r0 rf0 r1 rf1)
              have HC6 : Hid (Cells w6 (some ⟨g, off2, none⟩) m cap2 o) := Lib.hid (Arr.below HC1.out hB)
              have HBw : Hid (Below w.heap.size w w6) := Lib.hid (hB0.trans ((hB1.trans (hB.mono hzq)).mono hzr))
              have HB1S : Hid (w.heap.size ≤ w6.heap.size) := Lib.hid HBw.out.size
              have hw6 := HBw.out.size
              go_wp2_with (first
                | (at_builtin; refine wpList_append_arr _ rfl _ _ 29 rfl w6.heap.size 37 i0 _ 5 64 Try.underlying29 Hi.out hz0 hz1 hz2 rfl (by decide) _ _ _ rfl HR8.out rfl (Arr.drop (Arr.below HC6.out HB8.out) p hp rfl) (by omega) (by unfold maxLen; omega) (by have := HB8.out.size; omega) ?_; intro v9 w9 hr9 hb9 hg9; have HR9 := Lib.hid hr9; have HB9 := Lib.hid (HB8.out.trans hb9); clear hr9 hb9 hg9)
                | (at_builtin; refine wpList_append_arr _ rfl _ _ 29 rfl w6.heap.size 37 i0 _ 5 64 Try.underlying29 Hi.out hz0 hz1 hz2 rfl (by decide) _ _ _ rfl (Row.alloc HR7.out _) rfl (cells_new w7 _ [x] _ 1 _ rfl rfl (by decide) rfl) (by omega) (by unfold maxLen; omega) (by have := HB7.out.size; rw [World.size_alloc]; omega) ?_; intro v8 w8 hr8 hb8 hg8; have HR8 := Lib.hid hr8; have HB8 := Lib.hid ((HB7.out.trans ((Below.refl _ _).alloc HB7.out.size _)).trans hb8); clear hr8 hb8 hg8)
                | (at_builtin; refine wpList_append_arr w6 rfl _ _ 29 rfl w6.heap.size 37 i0 _ 5 64 Try.underlying29 Hi.out hz0 hz1 hz2 rfl (by decide) (.slice none 0 0) 0 [] rfl (Row.nil _ _ _ _) rfl (Arr.take HC6.out (by omega)) (by omega) (by unfold maxLen; omega) (Nat.le_refl _) ?_; intro v7 w7 hr7 hb7 hg7; have HR7 := Lib.hid hr7; have HB7 := Lib.hid hb7; have hk7 := Lib.hid (fun o => hb7.cell (p := ⟨b, o, none⟩) (by omega)); have hx7 : CellAt w7 b (off + k * 5) x := ⟨by rw [hk7.out]; go_simp, by rw [hk7.out]; go_simp, by rw [hk7.out]; go_simp, by rw [hk7.out]; go_simp, by rw [hk7.out]; go_simp⟩; obtain ⟨xx0, xx1, xx2, xx3, xx4⟩ := hx7; clear hr7 hb7 hg7))
              exact ⟨⟨k + 1, by omega, by go_num, Lib.hid (by rw [Hst.out, Hput.out]; exact own_cat (by omega) (by have := HB1S.out; omega) Hm.out HR9.out), HBw.out.trans (HB9.out.mono HB1S.out)⟩, by simp [intOf]; omega⟩
        · obtain rfl : p = m := by omega
          have Hput : Hid (rins x o = o.take p ++ x :: o.drop p) := Lib.hid (rins_put hA.out (fun y' hy' => by
            have := (List.getElem?_eq_some_iff.1 hy').1; have := Hm.out; omega))
          go_wp2
          refine wp_region_below (by kernel_rfl) (by kernel_rfl) (fun hkept => ?_)
          obtain ⟨r0, rf0⟩ := hkept (b) (by go_size); clear hkept
          repeat (any_goals (first | go_big_quiet_step (fail) | quiet_step (fail) | (refine wpQuiet_step (fun K hK => ?_); go_simp; split <;> (refine hK _ ?_; clear hK K))))
          all_goals (refine wpQuiet_nil ?_; intro w5 hb; obtain ⟨hB, hS, hk⟩ := after (B := wr.heap.size) (w := wr) (by go_grown) (by go_size) hb; obtain ⟨c0, f0, z0⟩ := hk (b) (by go_size); clear hk hb r0 rf0)
          go_wp2
          refine wp_region_below (by kernel_rfl) (by kernel_rfl) (fun hkept => ?_)
          obtain ⟨r0, rf0⟩ := hkept (b) (by go_size); clear hkept
          repeat (any_goals (first | go_big_quiet_step (fail) | quiet_step (fail) | (refine wpQuiet_step (fun K hK => ?_); go_simp; split <;> (refine hK _ ?_; clear hK K))))
          all_goals (refine wpQuiet_nil ?_; intro w6 hb; obtain ⟨hB, hS, hk⟩ := after (B := wr.heap.size) (w := wr) (by go_grown) (by go_size) hb; obtain ⟨c0, f0, z0⟩ := hk (b) (by go_size); clear hk hb r0 rf0)
          have hwz := hB.size
          cases ao2 with
          | none =>
              obtain rfl : p = 0 := by
                rcases Nat.eq_zero_or_pos p with h | h
                · exact h
                · obtain ⟨_, _, e, _⟩ := Arr.base HC1.out h; cases e
              have HC6 : Hid (Cells w6 none 0 cap2 o) := Lib.hid (Arr.below HC1.out hB)
              have HBw : Hid (Below w.heap.size w w6) := Lib.hid (hB0.trans ((hB1.trans (hB.mono hzq)).mono hzr))
              have HB1S : Hid (w.heap.size ≤ w6.heap.size) := Lib.hid HBw.out.size
              have hw6 := HBw.out.size
              go_wp2_with (first
                | (at_builtin; refine wpList_append_arr _ rfl _ _ 29 rfl w6.heap.size 37 i0 _ 5 64 Try.underlying29 Hi.out hz0 hz1 hz2 rfl (by decide) _ _ _ rfl HR8.out rfl (Arr.below HC6.out HB8.out) (by omega) (by unfold maxLen; omega) (by have := HB8.out.size; omega) ?_; intro v9 w9 hr9 hb9 hg9; have HR9 := Lib.hid hr9; have HB9 := Lib.hid (HB8.out.trans hb9); clear hr9 hb9 hg9)
                | (at_builtin; refine wpList_append_arr _ rfl _ _ 29 rfl w6.heap.size 37 i0 _ 5 64 Try.underlying29 Hi.out hz0 hz1 hz2 rfl (by decide) _ _ _ rfl (Row.alloc HR7.out _) rfl (cells_new w7 _ [x] _ 1 _ rfl rfl (by decide) rfl) (by omega) (by unfold maxLen; omega) (by have := HB7.out.size; rw [World.size_alloc]; omega) ?_; intro v8 w8 hr8 hb8 hg8; have HR8 := Lib.hid hr8; have HB8 := Lib.hid ((HB7.out.trans ((Below.refl _ _).alloc HB7.out.size _)).trans hb8); clear hr8 hb8 hg8)
                | (at_builtin; refine wpList_append_arr w6 rfl _ _ 29 rfl w6.heap.size 37 i0 _ 5 64 Try.underlying29 Hi.out hz0 hz1 hz2 rfl (by decide) (.slice none 0 0) 0 [] rfl (Row.nil _ _ _ _) rfl (Arr.take HC6.out (by omega)) (by omega) (by unfold maxLen; omega) (Nat.le_refl _) ?_; intro v7 w7 hr7 hb7 hg7; have HR7 := Lib.hid hr7; have HB7 := Lib.hid hb7; have hk7 := Lib.hid (fun o => hb7.cell (p := ⟨b, o, none⟩) (by omega)); have hx7 : CellAt w7 b (off + k * 5) x := ⟨by rw [hk7.out]; go_simp, by rw [hk7.out]; go_simp, by rw [hk7.out]; go_simp, by rw [hk7.out]; go_simp, by rw [hk7.out]; go_simp⟩; obtain ⟨xx0, xx1, xx2, xx3, xx4⟩ := hx7; clear hr7 hb7 hg7))
              exact ⟨⟨k + 1, by omega, by go_num, Lib.hid (by rw [Hst.out, Hput.out]; exact own_cat (by omega) (by have := HB1S.out; omega) Hm.out HR9.out), HBw.out.trans (HB9.out.mono HB1S.out)⟩, by simp [intOf]; omega⟩
          | some a2 =>
              have HO2 := HO1.out
              unfold Own at HO2
              rw [Hm.out] at HO2
              rcases Row.form HO2 with ⟨e, _⟩ | ⟨g, c, e, _⟩
              · cases e
              obtain rfl : a2 = ⟨g, 0, none⟩ := by cases e; rfl
              clear HO2 e
              have HC6 : Hid (Cells w6 (some ⟨g, 0, none⟩) p cap2 o) := Lib.hid (Arr.below HC1.out hB)
              have HBw : Hid (Below w.heap.size w w6) := Lib.hid (hB0.trans ((hB1.trans (hB.mono hzq)).mono hzr))
              have HB1S : Hid (w.heap.size ≤ w6.heap.size) := Lib.hid HBw.out.size
              have hw6 := HBw.out.size
              go_wp2_with (first
                | (at_builtin; refine wpList_append_arr _ rfl _ _ 29 rfl w6.heap.size 37 i0 _ 5 64 Try.underlying29 Hi.out hz0 hz1 hz2 rfl (by decide) _ _ _ rfl HR8.out rfl (arr_none (List.drop_eq_nil_of_le (by rw [List.length_map, Hm.out]; exact Nat.le_refl _)) (by unfold maxLen; omega) : Arr w8 5 _ 0 _ ((o.map cellE).drop p)) (by omega) (by unfold maxLen; omega) (by have := HB8.out.size; omega) ?_; intro v9 w9 hr9 hb9 hg9; have HR9 := Lib.hid hr9; have HB9 := Lib.hid (HB8.out.trans hb9); clear hr9 hb9 hg9)
                | (at_builtin; refine wpList_append_arr _ rfl _ _ 29 rfl w6.heap.size 37 i0 _ 5 64 Try.underlying29 Hi.out hz0 hz1 hz2 rfl (by decide) _ _ _ rfl (Row.alloc HR7.out _) rfl (cells_new w7 _ [x] _ 1 _ rfl rfl (by decide) rfl) (by omega) (by unfold maxLen; omega) (by have := HB7.out.size; rw [World.size_alloc]; omega) ?_; intro v8 w8 hr8 hb8 hg8; have HR8 := Lib.hid hr8; have HB8 := Lib.hid ((HB7.out.trans ((Below.refl _ _).alloc HB7.out.size _)).trans hb8); clear hr8 hb8 hg8)
                | (at_builtin; refine wpList_append_arr w6 rfl _ _ 29 rfl w6.heap.size 37 i0 _ 5 64 Try.underlying29 Hi.out hz0 hz1 hz2 rfl (by decide) (.slice none 0 0) 0 [] rfl (Row.nil _ _ _ _) rfl (Arr.take HC6.out (by omega)) (by omega) (by unfold maxLen; omega) (Nat.le_refl _) ?_; intro v7 w7 hr7 hb7 hg7; have HR7 := Lib.hid hr7; have HB7 := Lib.hid hb7; have hk7 := Lib.hid (fun o => hb7.cell (p := ⟨b, o, none⟩) (by omega)); have hx7 : CellAt w7 b (off + k * 5) x := ⟨by rw [hk7.out]; go_simp, by rw [hk7.out]; go_simp, by rw [hk7.out]; go_simp, by rw [hk7.out]; go_simp, by rw [hk7.out]; go_simp⟩; obtain ⟨xx0, xx1, xx2, xx3, xx4⟩ := hx7; clear hr7 hb7 hg7))
              exact ⟨⟨k + 1, by omega, by go_num, Lib.hid (by rw [Hst.out, Hput.out]; exact own_cat (by omega) (by have := HB1S.out; omega) Hm.out HR9.out), HBw.out.trans (HB9.out.mono HB1S.out)⟩, by simp [intOf]; omega⟩
    · obtain rfl : k = n := by omega
      have hall : cs.take k = cs := List.take_of_length_le (by rw [Hl.out]; omega)
      rw [hall] at hO
      clear hall
      go_wp2
      go_returns
      exact ⟨_, rfl, hO.out, hB0⟩

end Go.Proofs.Ytehbikofoidjhaa
