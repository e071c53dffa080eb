/-
  The walk of acreagelaw12.rows: rows of lists.
-/
import Derived.Test.YtehbikofoidjhaaShortW
namespace Go.Proofs.Ytehbikofoidjhaa
open Go.RowKit

def csR : Option RI → List CellA
  | none => []
  | some r => r.cs
structure RRel (w : World) (rs : List (Option RI)) (ls : List (List CellA)) (v : Value) (wr : World) : Prop where
  row : Row wr w.heap.size 25 1 v rs.length (rs.map rowE).flatten
  at_ : RowsAt rs wr
  far : ∀ k, RowsF rs k → w.heap.size ≤ k
  sep : ∀ g, v.ownBlock = some g → ¬ RowsF rs g
  cs : rs.map csR = ls
  bel : Below w.heap.size w wr
theorem RowsAt.keep {rs : List (Option RI)} {w w' : World} (h : RowsAt rs w) (hs : w.heap.size ≤ w'.heap.size) (hb : ∀ k, RowsF rs k → w'.heap[k]? = w.heap[k]?) : RowsAt rs w' :=
  ⟨fun i r hr => r.ok.keep (h.st i r hr) hs (fun k hk => hb k ⟨i, r, hr, hk⟩), h.apart⟩
theorem RRel.below {w : World} {rs : List (Option RI)} {ls : List (List CellA)} {v : Value} {wr w1 : World} (h : RRel w rs ls v wr) (hB : Below wr.heap.size wr w1) : RRel w rs ls v w1 :=
  ⟨Row.below h.row hB, h.at_.keep hB.size (fun k hk => hB.block k (h.at_.inb k hk)), h.far, h.sep, h.cs, h.bel.trans (hB.mono h.bel.size)⟩
theorem get_push {rs : List (Option RI)} {x : Option RI} {i : Nat} {r : RI} (h : (rs ++ [x])[i]? = some (some r)) : rs[i]? = some (some r) ∨ (i = rs.length ∧ x = some r) := by
  rw [List.getElem?_append] at h
  split at h
  · exact .inl h
  · rename_i hi
    have : i - rs.length = 0 := by
      have := (List.getElem?_eq_some_iff.1 h).1
      simp at this; omega
    rw [this] at h
    simp at h
    exact .inr ⟨by omega, h⟩
/-- one row more -/
theorem RRel.push {w : World} {rs : List (Option RI)} {ls : List (List CellA)} {v v7 : Value} {wr X w7 : World} (h : RRel w rs ls v wr) (hB : Below wr.heap.size wr X) {x : Option RI} (hx : ∀ r, x = some r → r.Here X ∧ ∀ k, r.F k → wr.heap.size ≤ k)
    {fs : List (List Value)} (hfs : fs = [rowE x]) (hr : Row w7 w.heap.size 25 1 v7 (rs.length + 1) ((rs.map rowE).flatten ++ fs.flatten)) (hg : X.grownBy w7 v.ownBlock) (ho : v7.ownBlock = v.ownBlock ∨ v7.ownBlock = some X.heap.size) :
    RRel w (rs ++ [x]) (ls ++ [csR x]) v7 w7 := by
  subst hfs
  have hX := h.below hB
  have hwr := h.bel.size
  have hBs := hB.size
  have hgl : ∀ g, v.ownBlock = some g → w.heap.size ≤ g ∧ g < wr.heap.size := fun g hg => Row.lt h.row g hg
  have holdF : ∀ k, RowsF rs k → k < wr.heap.size := fun k hk => h.at_.inb k hk
  have hnF : ∀ k, RowsF (rs ++ [x]) k → v.ownBlock ≠ some k := fun k ⟨i, r, hir, hk⟩ e => by
    rcases get_push hir with h1 | ⟨_, h1⟩
    · exact h.sep k e ⟨i, r, h1, hk⟩
    · have := (hx r h1).2 k hk
      have := (hgl k e).2
      omega
  refine ⟨?_, ⟨fun i r hir => ?_, fun i j r q hij hr1 hq1 k hk hk2 => ?_⟩, fun k ⟨i, r, hir, hk⟩ => ?_, fun g hg7 ⟨i, r, hir, hk⟩ => ?_, by rw [List.map_append, h.cs]; rfl, ?_⟩
  · rw [List.length_append, List.map_append, List.flatten_append]; exact hr
  · have hst : r.Here X := by
      rcases get_push hir with h1 | ⟨_, h1⟩
      · exact hX.at_.st i r h1
      · exact (hx r h1).1
    exact hst.keep hg.size (fun k hk => hg.block k (hst.lt k hk) (fun e => hnF k ⟨i, r, hir, hk⟩ e.symm))
  · rcases get_push hr1 with h1 | ⟨h0, h1⟩
    · rcases get_push hq1 with h2 | ⟨_, h2⟩
      · exact h.at_.apart i j r q hij h1 h2 k hk hk2
      · have := holdF k ⟨i, r, h1, hk⟩
        have := (hx q h2).2 k hk2
        omega
    · rcases get_push hq1 with h2 | ⟨h3, h2⟩
      · have := holdF k ⟨j, q, h2, hk2⟩
        have := (hx r h1).2 k hk
        omega
      · omega
  · rcases get_push hir with h1 | ⟨_, h1⟩
    · exact h.far k ⟨i, r, h1, hk⟩
    · have := (hx r h1).2 k hk
      omega
  · rcases ho with e | e
    · exact hnF g ⟨i, r, hir, hk⟩ (e.symm.trans hg7)
    · rw [e] at hg7
      cases hg7
      rcases get_push hir with h1 | ⟨_, h1⟩
      · have := holdF _ ⟨i, r, h1, hk⟩; omega
      · have := (hx r h1).1.lt _ hk; omega
  · exact hX.bel.grown hg hX.bel.size (fun k hk => (hgl k hk).1)

set_option maxRecDepth 100000 in
set_option maxHeartbeats 4000000 in
theorem rows_any (ao : Option Addr) (n cap : Nat) (es : List LI) (w : World) (h : LLs w ao n cap es) (hn : n ≤ 1000000) (hs : ∀ s ∈ es, s.n ≤ 1000000) :
    Calls Try.prog 12 #[.slice ao n cap] w fun e w' => ∃ v rs, e = .returned v ∧ rs.length = n ∧ RRel w rs (es.map LI.cs) v w' := by
  obtain ⟨i0, hi, hz0, hz1, hz2⟩ := info_parts Try.info_row
  have Hi := Lib.hid hi
  have hf2 := Arr.fits h.arr
  have hm2 := Arr.max h.arr
  unfold maxLen at hm2
  have Hm := Lib.hid h.len
  have H := Lib.hid h
  have Hs := Lib.hid hs
  clear h hi hs
  go_enter Try.func12, Try.ntmps12
  go_wp2
  go_loopw [3, 4] (fun v i wr => ∃ (k : Nat) (rs : List (Option RI)), k ≤ n ∧ i = .int .i64 k ∧ Hid (rs.length = k) ∧ Hid (RRel w rs ((es.take k).map LI.cs) v wr)) (fun _ i _ => n - (intOf i).toNat)
  case atStart => exact ⟨0, [], by omega, rfl, Lib.hid rfl, Lib.hid ⟨Row.nil _ _ _ _, ⟨fun i r h => by simp at h, fun i j r q _ h => by simp at h⟩, fun k ⟨i, r, h, _⟩ => by simp at h, fun g h => (by cases h), rfl, Below.refl _ _⟩⟩
  case round =>
    obtain ⟨k, rs, hk, rfl, hL, hD⟩ := hrel
    have hzr := hD.out.bel.size
    by_cases hlt : k < n
    · obtain ⟨s, hs⟩ : ∃ s, es[k]? = some s := ⟨_, List.getElem?_eq_getElem (by rw [Hm.out]; omega)⟩
      obtain ⟨b, off, rfl, hb, x0⟩ := LLs.at_ H.out hs
      obtain ⟨k0, k0f⟩ := keep_below hD.out.bel b hb
      have hsok := H.out.ok s (List.mem_of_getElem? hs)
      have hsn := Hs.out s (List.mem_of_getElem? hs)
      have Hst : Hid ((es.take (k + 1)).map LI.cs = (es.take k).map LI.cs ++ [s.cs]) := Lib.hid (by rw [List.take_add_one, hs, List.map_append]; rfl)
      have HS : Hid (Cells wr s.ao s.n s.cap s.cs) := Lib.hid (Arr.below hsok hD.out.bel)
      obtain ⟨ao3, cap3, e3⟩ : ∃ ao3 cap3, u3 = .slice ao3 k cap3 := by
        have := Row.shape hD.out.row
        rw [hL.out] at this; exact this
      subst e3
      clear hs hsok
      obtain ⟨sao, sn, scap, scs⟩ := s
      simp only at x0 hsn HS Hst
      by_cases h0 : sn = 0
      · subst h0
        have hcs : scs = [] := List.eq_nil_of_length_eq_zero (Cells.len HS.out)
        subst hcs
        go_wp2_with (at_builtin; refine wpList_append_at _ rfl _ _ 27 rfl w.heap.size 25 i0 _ 1 8 Try.underlying27 Hi.out hz0 hz1 hz2 rfl (by decide) (.slice ao3 k cap3) _ _ rfl (by have := Row.alloc hD.out.row; rw [hL.out] at this; exact this _) rfl (arr_v1 wr _ .nilFunc rfl _ rfl) (by omega) (by unfold maxLen; omega) (by rw [World.size_alloc]; omega) ?_; intro v7 w7 hr7 hg7 ho7; have HP := Lib.hid (hD.out.push (x := none) ((Below.refl _ _).alloc (Nat.le_refl _) _) (fun r h => (by cases h)) rfl (by rw [hL.out]; exact hr7) hg7 ho7); clear hr7 hg7 ho7)
        exact ⟨⟨k + 1, rs ++ [none], by omega, by go_num, Lib.hid (by rw [List.length_append, hL.out]; rfl), Lib.hid (by rw [Hst.out]; exact HP.out)⟩, by simp [intOf]; omega⟩
      · have hn0 : ((sn : Int) == 0) = false := by rw [beq_eq_false_iff_ne]; omega
        go_wp2_with (first
          | (go_at_call 15; refine (own_any _ _ _ scs _ HS.out (by omega)).mono ?_; rintro e w5 ⟨v5, rfl, o5, b5⟩; obtain ⟨ao5, cap5, rfl, c5⟩ := Own.cells_n o5 (Cells.len HS.out); have C5 := Lib.hid c5; have B5 := Lib.hid b5; have z5 := b5.size; clear o5 c5 b5)
          | (go_at_call 16; refine (of_gives ao5 sn cap5 scs _ C5.out (by omega)).mono ?_; rintro e w6 ⟨q, rfl, d6, h6, f6, b6⟩; have D6 := Lib.hid d6; have H6 := Lib.hid (show q.Here w6 from h6); have F6 : Hid (∀ k, q.F k → wr.heap.size ≤ k) := Lib.hid (fun k hk => Nat.le_trans z5 ((f6 k hk).elim False.elim id)); have B6 := Lib.hid (B5.out.trans (b6.mono z5)); have z6 := B6.out.size; clear d6 h6 f6 b6)
          | (at_builtin; refine wpList_append_at _ rfl _ _ 27 rfl w.heap.size 25 i0 _ 1 8 Try.underlying27 Hi.out hz0 hz1 hz2 rfl (by decide) (.slice ao3 k cap3) _ _ rfl (by have := Row.alloc (Row.below hD.out.row B6.out); rw [hL.out] at this; exact this _) rfl (arr_v1 w6 _ (.func (.func q.f) #[] q.caps) rfl _ rfl) (by omega) (by unfold maxLen; omega) (by rw [World.size_alloc]; omega) ?_; intro v7 w7 hr7 hg7 ho7; have HP := Lib.hid (hD.out.push (x := some q) (B6.out.trans ((Below.refl w6.heap.size w6 |>.alloc (Nat.le_refl _) _).mono z6)) (fun r h => by cases h; exact ⟨H6.out.below ((Below.refl _ _).alloc (Nat.le_refl _) _), F6.out⟩) rfl (by rw [hL.out]; exact hr7) hg7 ho7); clear hr7 hg7 ho7))
        exact ⟨⟨k + 1, rs ++ [some q], by omega, by go_num, Lib.hid (by rw [List.length_append, hL.out]; rfl), Lib.hid (by rw [Hst.out, ← D6.out]; exact HP.out)⟩, by simp [intOf]; omega⟩
    · obtain rfl : k = n := by omega
      have hall : es.take k = es := List.take_of_length_le (by rw [Hm.out]; omega)
      rw [hall] at hD
      clear hall
      go_wp2
      go_returns
      exact ⟨_, rs, rfl, hL.out, hD.out⟩
end Go.Proofs.Ytehbikofoidjhaa
