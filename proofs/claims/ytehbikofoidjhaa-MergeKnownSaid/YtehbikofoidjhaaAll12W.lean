/-
  The walks of the document's All for rows (acreageref12), of acreagelaw12.MergeAll.
-/
import Derived.Test.YtehbikofoidjhaaRows12W
import Derived.Test.YtehbikofoidjhaaListsW
namespace Go.Proofs.Ytehbikofoidjhaa
open Go.RowKit Go.Sort

theorem own_join {w : World} {B : Nat} {v : Value} {l l2 l' : List CellA} {m : Nat} (e : l' = l ++ l2) (hm : l2.length = m) (h : Row w B 37 5 v (l.length + m) ((l.map cellE).flatten ++ (l2.map cellE).flatten)) : Own w B v l' := by
  subst e hm
  unfold Own
  rw [List.length_append, List.map_append, List.flatten_append]
  exact h
/-- all rising cells -/
def riseAll (ls : List (List CellA)) : List CellA := (ls.map (riseL none)).flatten
theorem riseAll_snoc (ls : List (List CellA)) (l : List CellA) : riseAll (ls ++ [l]) = riseAll ls ++ riseL none l := by simp [riseAll]
theorem riseAll_len (M : Nat) : ∀ (ls : List (List CellA)), (∀ l ∈ ls, l.length ≤ M) → (riseAll ls).length ≤ ls.length * M
  | [], _ => by simp [riseAll]
  | l :: ls, h => by
    have h1 := riseAll_len M ls (fun x hx => h x (List.mem_cons_of_mem _ hx))
    have h2 := rise_len l none
    have h3 := h l (List.mem_cons_self ..)
    have e : riseAll (l :: ls) = riseL none l ++ riseAll ls := rfl
    rw [e, List.length_append, List.length_cons, Nat.succ_mul]
    omega
theorem ex_rows : ∀ rs : List (Option RI), exL (rs.filterMap headP) = riseAll (rs.map csR)
  | [] => rfl
  | none :: rs => by
    have := ex_rows rs
    rw [List.filterMap_cons]
    exact this
  | some r :: rs => by
    have ih := ex_rows rs
    rw [List.map_cons]
    have e : riseAll (csR (some r) :: rs.map csR) = riseL none r.cs ++ riseAll (rs.map csR) := rfl
    rw [e, List.filterMap_cons]
    cases hc : r.cs with
    | nil => simp only [headP, hc]; exact ih
    | cons c t =>
      simp only [headP, hc]
      have e2 : exL ((c, t) :: rs.filterMap headP) = exP (c, t) ++ exL (rs.filterMap headP) := rfl
      rw [e2, ih]
      rfl

set_option maxRecDepth 100000 in
set_option maxHeartbeats 4000000 in
theorem rall12_any (ao : Option Addr) (n cap : Nat) (es : List LI) (w : World) (h : LLs w ao n cap es) (hn : n ≤ 8) (hs : ∀ s ∈ es, s.n ≤ 100) :
    Calls Try.prog 13 #[.slice ao n cap] w fun e w' => ∃ v, e = .returned v ∧ Own w' w.heap.size v (sortL (riseAll (es.map LI.cs))) ∧ Below w.heap.size w w' := by
  obtain ⟨i0, hi, hz0, hz1, hz2⟩ := info_parts Try.info_cell
  have Hi := Lib.hid hi
  have hf2 := Arr.fits h.arr
  have hm2 := Arr.max h.arr
  unfold maxLen at hm2
  have Hm := Lib.hid h.len
  have H := Lib.hid h
  have Hs := Lib.hid hs
  have HL : Hid (∀ j, (riseAll ((es.take j).map LI.cs)).length ≤ 800) := Lib.hid (fun j => by
    have h1 := riseAll_len 100 ((es.take j).map LI.cs) (fun l hl => by
      obtain ⟨s, hs1, rfl⟩ := List.mem_map.1 hl
      have h2 := List.mem_of_mem_take hs1
      have := Cells.len (h.ok s h2)
      have := hs s h2
      omega)
    have h3 := h.len
    rw [List.length_map, List.length_take] at h1
    have : min j es.length * 100 ≤ 8 * 100 := Nat.mul_le_mul_right _ (by omega)
    omega)
  clear h hi hs
  go_enter Try.func13, Try.ntmps13
  go_wp2
  go_loopw [3, 4] (fun v i wr => ∃ (k : Nat), k ≤ n ∧ i = .int .i64 k ∧ Hid (Own wr w.heap.size v (riseAll ((es.take k).map LI.cs))) ∧ Below w.heap.size w wr) (fun _ i _ => n - (intOf i).toNat)
  case atStart => exact ⟨0, by omega, rfl, Lib.hid (Row.nil _ _ _ _), Below.refl _ _⟩
  case round =>
    obtain ⟨k, hk, rfl, hO, hB0⟩ := hrel
    have hzr := hB0.size
    by_cases hlt : k < n
    · obtain ⟨s, hs⟩ : ∃ s, es[k]? = some s := ⟨_, List.getElem?_eq_getElem (by rw [Hm.out]; omega)⟩
      obtain ⟨b, off, rfl, hb, x0⟩ := LLs.at_ H.out hs
      obtain ⟨k0, k0f⟩ := keep_below hB0 b hb
      have hsok := H.out.ok s (List.mem_of_getElem? hs)
      have hsn := Hs.out s (List.mem_of_getElem? hs)
      have Hst : Hid (riseAll ((es.take (k + 1)).map LI.cs) = riseAll ((es.take k).map LI.cs) ++ riseL none s.cs) := Lib.hid (by rw [List.take_add_one, hs, List.map_append]; exact riseAll_snoc _ _)
      have HS : Hid (Cells wr s.ao s.n s.cap s.cs) := Lib.hid (Arr.below hsok hB0)
      have hl0 := HL.out k
      have hl1 := rise_len s.cs none
      have hl2 := Cells.len HS.out
      obtain ⟨m, hm⟩ : ∃ m, m = (riseL none s.cs).length := ⟨_, rfl⟩
      rw [← hm] at hl1
      have HM := Lib.hid hm.symm
      have HL0 := Lib.hid hl0
      clear hs hsok hm hl0
      obtain ⟨sao, sn, scap, scs⟩ := s
      simp only at x0 hsn HS Hst hl1 hl2 HM
      go_wp2_with (first
        | (go_at_call 37; refine (rrise_any _ _ _ scs _ HS.out (by omega)).mono ?_; rintro e w5 ⟨v5, rfl, o5, b5⟩; obtain ⟨ao5, cap5, rfl, c5⟩ := Own.cells_n o5 HM.out; have C5 := Lib.hid c5; have O5 := Lib.hid (Row.below hO.out b5); have B5 := Lib.hid (hB0.trans (b5.mono hzr)); have z5 := B5.out.size; clear o5 c5 b5)
        | (at_builtin; refine wpList_append_arr _ rfl _ _ 29 rfl w.heap.size 37 i0 _ 5 64 Try.underlying29 Hi.out hz0 hz1 hz2 rfl (by decide) u3 _ _ rfl O5.out rfl C5.out (by have := HL0.out; omega) (by have := HL0.out; unfold maxLen; omega) z5 ?_; intro v1 w6 hr6 hb6 hg6; have HR6 := Lib.hid hr6; have hB6 := B5.out.trans hb6; clear hr6 hb6 hg6))
      exact ⟨⟨k + 1, by omega, by go_num, Lib.hid (own_join Hst.out HM.out HR6.out), hB6⟩, by simp [intOf]; omega⟩
    · obtain rfl : k = n := by omega
      have hall : es.take k = es := List.take_of_length_le (by rw [Hm.out]; omega)
      have hl0 := HL.out k
      rw [hall] at hO hl0
      have HL0 := Lib.hid hl0
      obtain ⟨ao3, cap3, rfl, c3⟩ := Own.cells_n hO.out rfl
      have C3 := Lib.hid c3
      clear hall hl0 c3
      go_wp2_with fail
      refine (rsort_any ao3 _ cap3 _ wr C3.out (by have := HL0.out; omega)).mono ?_
      rintro e w6 ⟨v6, rfl, o6, b6⟩
      rw [rsort_eq] at o6
      have O6 := Lib.hid (Row.mono o6 hzr)
      have B6 := Lib.hid (hB0.trans (b6.mono hzr))
      clear o6 b6
      go_wp2
      go_returns
      exact ⟨_, rfl, O6.out, B6.out⟩
end Go.Proofs.Ytehbikofoidjhaa
