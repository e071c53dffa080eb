/-
  The walks of cells.Sort and cells.Newest on fewer than twenty cells; of same.
-/
import Derived.Test.YtihglmicgccgiaaCompactW
import Derived.Laws.EntriesVeiled
namespace Go.Proofs.Ytihglmicgccgiaa
open Go.RowKit Go.Sort

theorem sortStable_nil (gb : Nat) (w : World) :
    Calls Try.prog 58 #[.slice none 0 0, .func (.func 78) #[] #[.pointer (some ⟨gb, 0, none⟩)]] w
      fun e w' => e = .returned (.tuple #[]) ∧ w = w' := by
  have hins : ∀ w, Calls Try.prog 86 #[.slice none 0 0, .int .i64 0, .int .i64 0, .func (.func 78) #[] #[.pointer (some ⟨gb, 0, none⟩)]] w fun e w' => e = .returned (.tuple #[]) ∧ w = w' := by
    intro w
    go_enter Try.func86, Try.ntmps86
    go_wp2
    refine wp_loop_rounds 1 ?_
    rw [rounds_succ]
    go_wp2
    go_returns
    exact ⟨rfl, rfl⟩
  have Hins := Lib.hid hins
  clear hins
  have hst : ∀ w, Calls Try.prog 79 #[.slice none 0 0, .int .i64 0, .func (.func 78) #[] #[.pointer (some ⟨gb, 0, none⟩)]] w fun e w' => e = .returned (.tuple #[]) ∧ w = w' := by
    intro w
    go_enter Try.func79, Try.ntmps79
    go_wp2
    refine wp_loop_rounds 1 ?_
    rw [rounds_succ]
    go_wp2_with (go_at_call 86; refine (Hins.out _).mono ?_; rintro e w' ⟨rfl, rfl⟩)
    refine wp_loop_rounds 1 ?_
    rw [rounds_succ]
    go_wp2
    go_returns
    exact ⟨rfl, rfl⟩
  have Hst := Lib.hid hst
  clear hst Hins
  go_enter Try.func58, Try.ntmps58
  go_wp2_with (go_at_call 79; refine (Hst.out _).mono ?_; rintro e w' ⟨rfl, rfl⟩)
  go_returns
  exact ⟨rfl, rfl⟩

theorem compact_nil (f : Value) (w : World) :
    Calls Try.prog 36 #[.slice none 0 0, f] w fun e w' => e = .returned (.slice none 0 0) ∧ w = w' := by
  go_enter Try.func36, Try.ntmps36
  go_wp2
  go_returns
  exact ⟨rfl, rfl⟩

theorem chain_any (ao : Option Addr) (w : World) : Calls Try.prog 57 #[.slice ao 1 1] w fun e w' => e = .returned (.func (.func 78) #[] #[.pointer (some ⟨w.heap.size, 0, none⟩)]) ∧ w' = w.alloc (.cells #[.slice ao 1 1] 130) := by
  go_enter Try.func57, Try.ntmps57
  go_wp2
  go_returns
  exact ⟨rfl, rfl⟩
def sortL (l : List CellA) : List CellA := compactL sameK (isort l)
def newestL (l : List CellA) : List CellA := compactL samePl (sortL l)
theorem sortL_len (l : List CellA) : (sortL l).length ≤ l.length := by
  have := compactL_len sameK (isort l)
  rw [isort_len] at this
  exact this

/-- a row of the call's own that holds cells -/
def Own (w : World) (B : Nat) (v : Value) (cs : List CellA) : Prop := Row w B 31 5 v cs.length (cs.map cellE).flatten
theorem Own.below {w w' : World} {B : Nat} {v : Value} {cs : List CellA} (h : Own w B v cs) (hb : Below w.heap.size w w') : Own w' B v cs := Row.below h hb
theorem Own.cells {w : World} {B : Nat} {v : Value} {cs : List CellA} (h : Own w B v cs) : ∃ ao cap, v = .slice ao cs.length cap ∧ Cells w ao cs.length cap cs := by
  have := Row.arr (es := cs.map cellE) (by decide) (by rw [List.length_map]; exact h) (cellE_elems cs)
  rwa [List.length_map] at this

theorem keep_below {B : Nat} {W wr : World} (h : Below B W wr) (b : Nat) (hb : b < B) : (∀ o, wr.cell? ⟨b, o, none⟩ = W.cell? ⟨b, o, none⟩) ∧ (∀ o, wr.frozen? ⟨b, o, none⟩ = W.frozen? ⟨b, o, none⟩) :=
  ⟨fun o => h.cell (p := ⟨b, o, none⟩) hb, fun o => h.frozen (p := ⟨b, o, none⟩) hb⟩

theorem sort_small (ao : Option Addr) (n cap : Nat) (cs : List CellA) (w : World) (h : Cells w ao n cap cs) (hle : n < 20) :
    Calls Try.prog 32 #[.slice ao n cap] w fun e w' => ∃ v, e = .returned v ∧ Own w' w.heap.size v (sortL cs) ∧ Below w.heap.size w w' := by
  have hl := h.len
  have Hcl := Lib.hid (clone_any ao n cap cs w h (by omega))
  have Hl := Lib.hid hl
  clear h hl
  go_enter Try.func32, Try.ntmps32
  go_wp2_with fail
  refine Hcl.out.mono ?_
  rintro e w1 ⟨v, rfl, hr, hb⟩
  have hz1 := hb.size
  have Hr := Lib.hid hr
  rcases hr.form with ⟨rfl, h0⟩ | ⟨g, cp, rfl, hg1, hg2, hg3, hg4⟩
  · have h0' : cs = [] := List.eq_nil_of_length_eq_zero (by rw [Hl.out]; exact h0)
    clear hr
    go_wp2_with (first | (go_at_call 57; refine (chain_any _ _).mono ?_; rintro e w' ⟨rfl, rfl⟩) | (go_at_call 58; refine (sortStable_nil _ _).mono ?_; rintro e w' ⟨rfl, rfl⟩) | (go_at_call 36; refine (compact_nil _ _).mono ?_; rintro e w' ⟨rfl, rfl⟩))
    go_returns
    subst h0'
    exact ⟨_, rfl, Row.nil _ _ _ _, by go_grown⟩
  · clear hr
    go_wp2_with (first
      | (go_at_call 57; refine (chain_any _ _).mono ?_; rintro e w' ⟨rfl, rfl⟩)
      | (go_at_call 58; refine (sortStable_small cs g cp n (w1.heap.size + 1) w1.heap.size w.heap.size _ Hl.out hle (by exact ((Hr.out.alloc _).alloc _).alloc _) ⟨by go_simp, by go_simp, by go_size, by go_size⟩ (by omega) (by omega)).mono ?_; rintro e w2 ⟨rfl, hr2, hgr2⟩; have Hr2 := Lib.hid hr2; have HI2 : Hid (IS (w1.heap.size + 1 + 1) (w1.heap.size + 1) w1.heap.size g w2) := Lib.hid (IS.grown ⟨⟨by go_simp, by go_size, ⟨by go_simp, by go_simp, by go_size, by go_size⟩⟩, by omega, by omega, by omega⟩ hgr2); have hB2 : Below w.heap.size w w2 := Below.grown (by go_grown) hgr2 (by go_size) (fun k e => by cases e; exact hg1); clear hr2 hgr2)
      | (go_at_call 36; refine (compactS_any (isort cs) g cp n w.heap.size _ _ _ _ (by rw [isort_len]; exact Hl.out) Hr2.out HI2.out (by omega)).mono ?_; rintro e w3 ⟨rfl, hr3, hgr3⟩; have Hr3 := Lib.hid hr3; have hB3 : Below w.heap.size w w3 := hB2.grown hgr3 hB2.size (fun k e => by cases e; exact hg1); clear hr3 hgr3))
    go_returns
    exact ⟨_, rfl, Hr3.out, hB3⟩

theorem newest_small (ao : Option Addr) (n cap : Nat) (cs : List CellA) (w : World) (h : Cells w ao n cap cs) (hle : n < 20) :
    Calls Try.prog 16 #[.slice ao n cap] w fun e w' => ∃ v, e = .returned v ∧ Own w' w.heap.size v (newestL cs) ∧ Below w.heap.size w w' := by
  have hl := h.len
  have Hs := Lib.hid (sort_small ao n cap cs w h hle)
  have hsl := sortL_len cs
  clear h
  go_enter Try.func16, Try.ntmps16
  go_wp2_with fail
  refine Hs.out.mono ?_
  rintro e w1 ⟨v, rfl, hr, hb⟩
  have hz1 := hb.size
  have Hr := Lib.hid hr
  rcases Row.form hr with ⟨rfl, h0⟩ | ⟨g, cp, rfl, hg1, hg2, hg3, hg4⟩
  · have h0' : sortL cs = [] := List.eq_nil_of_length_eq_zero h0
    have hn0 : newestL cs = [] := by rw [newestL, h0']; rfl
    clear hr
    go_wp2_with (first | (go_at_call 36; refine (compact_nil _ _).mono ?_; rintro e w' ⟨rfl, rfl⟩))
    go_returns
    exact ⟨_, rfl, by rw [hn0]; exact Row.nil _ _ _ _, by go_grown⟩
  · clear hr
    go_wp2_with (first
      | (go_at_call 36; refine (compactN_any (sortL cs) g cp _ w.heap.size _ rfl Hr.out trivial (by omega)).mono ?_; rintro e w3 ⟨rfl, hr3, hgr3⟩; have Hr3 := Lib.hid hr3; have hB3 : Below w.heap.size w w3 := hb.grown hgr3 hb.size (fun k e => by cases e; exact hg1); clear hr3 hgr3))
    go_returns
    exact ⟨_, rfl, Hr3.out, hB3⟩

/-! ### same -/
open Classical in
noncomputable def sameC (cs ds : List CellA) : Bool := decide (cs = ds)
theorem sameC_self (cs : List CellA) : sameC cs cs = true := by simp [sameC]
theorem CellA.ext' {x y : CellA} (h1 : x.row = y.row) (h2 : x.col = y.col) (h3 : x.ver = y.ver) (h4 : x.gone = y.gone) (h5 : x.val = y.val) : x = y := by
  cases x; cases y; simp_all
theorem ne_of {a b : ByteArray} (h : a ≠ b) : (a.toList == b.toList) = false ∧ ¬ a.toList = b.toList := by
  have : ¬ a.toList = b.toList := fun e => h (toList_inj.1 e)
  exact ⟨by simpa using this, this⟩


end Go.Proofs.Ytihglmicgccgiaa
