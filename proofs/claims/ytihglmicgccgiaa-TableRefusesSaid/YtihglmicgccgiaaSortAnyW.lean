/-
  The walks of cells.Sort, Newest, Alive on lists of any length.
-/
import Derived.Test.YtihglmicgccgiaaCellsSortW
import Derived.Test.YtihglmicgccgiaaStabW
namespace Go.Proofs.Ytihglmicgccgiaa
open Go.RowKit Go.Sort

theorem sortStable_big (cs : List CellA) (g cap n gb gs B : Nat) (w : World) (hn : cs.length = n) (hle : n ≤ 1000000)
    (hrow : Row w B 31 5 (.slice (some ⟨g, 0, none⟩) n cap) n (cs.map cellE).flatten) (ho : OrderAt w gb gs) (h1 : gb ≠ g) (h2 : gs ≠ g) :
    Calls Try.prog 58 #[.slice (some ⟨g, 0, none⟩) n cap, .func (.func 78) #[] #[.pointer (some ⟨gb, 0, none⟩)]] w
      fun e w' => e = .returned (.tuple #[]) ∧ Row w' B 31 5 (.slice (some ⟨g, 0, none⟩) n cap) n ((isort cs).map cellE).flatten ∧ w.grownBy w' (some g) := by
  refine (sortStable_any cs g cap n gb gs B w ⟨hrow, hn, ho⟩ h1 h2 hle).mono ?_
  rintro e w' ⟨rfl, h, hg⟩
  exact ⟨rfl, h.row, hg⟩

theorem sort_any (ao : Option Addr) (n cap : Nat) (cs : List CellA) (w : World) (h : Cells w ao n cap cs) (hle : n ≤ 1000000) :
    Calls Try.prog 32 #[.slice ao n cap] w fun e w' => ∃ v, e = .returned v ∧ Own w' w.heap.size v (sortL cs) ∧ Below w.heap.size w w' := by
  have hl := h.len
  have Hcl := Lib.hid (clone_any ao n cap cs w h (by omega))
  have Hl := Lib.hid hl
  clear h hl
  go_enter Try.func32, Try.ntmps32
  go_wp2_with fail
  refine Hcl.out.mono ?_
  rintro e w1 ⟨v, rfl, hr, hb⟩
  have hz1 := hb.size
  have Hr := Lib.hid hr
  rcases hr.form with ⟨rfl, h0⟩ | ⟨g, cp, rfl, hg1, hg2, hg3, hg4⟩
  · have h0' : cs = [] := List.eq_nil_of_length_eq_zero (by rw [Hl.out]; exact h0)
    clear hr
    go_wp2_with (first | (go_at_call 57; refine (chain_any _ _).mono ?_; rintro e w' ⟨rfl, rfl⟩) | (go_at_call 58; refine (sortStable_nil _ _).mono ?_; rintro e w' ⟨rfl, rfl⟩) | (go_at_call 36; refine (compact_nil _ _).mono ?_; rintro e w' ⟨rfl, rfl⟩))
    go_returns
    subst h0'
    exact ⟨_, rfl, Row.nil _ _ _ _, by go_grown⟩
  · clear hr
    go_wp2_with (first
      | (go_at_call 57; refine (chain_any _ _).mono ?_; rintro e w' ⟨rfl, rfl⟩)
      | (go_at_call 58; refine (sortStable_big cs g cp n (w1.heap.size + 1) w1.heap.size w.heap.size _ Hl.out hle (by exact ((Hr.out.alloc _).alloc _).alloc _) ⟨by go_simp, by go_simp, by go_size, by go_size⟩ (by omega) (by omega)).mono ?_; rintro e w2 ⟨rfl, hr2, hgr2⟩; have Hr2 := Lib.hid hr2; have HI2 : Hid (IS (w1.heap.size + 1 + 1) (w1.heap.size + 1) w1.heap.size g w2) := Lib.hid (IS.grown ⟨⟨by go_simp, by go_size, ⟨by go_simp, by go_simp, by go_size, by go_size⟩⟩, by omega, by omega, by omega⟩ hgr2); have hB2 : Below w.heap.size w w2 := Below.grown (by go_grown) hgr2 (by go_size) (fun k e => by cases e; exact hg1); clear hr2 hgr2)
      | (go_at_call 36; refine (compactS_any (isort cs) g cp n w.heap.size _ _ _ _ (by rw [isort_len]; exact Hl.out) Hr2.out HI2.out (by omega)).mono ?_; rintro e w3 ⟨rfl, hr3, hgr3⟩; have Hr3 := Lib.hid hr3; have hB3 : Below w.heap.size w w3 := hB2.grown hgr3 hB2.size (fun k e => by cases e; exact hg1); clear hr3 hgr3))
    go_returns
    exact ⟨_, rfl, Hr3.out, hB3⟩

theorem newest_any (ao : Option Addr) (n cap : Nat) (cs : List CellA) (w : World) (h : Cells w ao n cap cs) (hle : n ≤ 1000000) :
    Calls Try.prog 16 #[.slice ao n cap] w fun e w' => ∃ v, e = .returned v ∧ Own w' w.heap.size v (newestL cs) ∧ Below w.heap.size w w' := by
  have hl := h.len
  have Hs := Lib.hid (sort_any ao n cap cs w h hle)
  have hsl := sortL_len cs
  clear h
  go_enter Try.func16, Try.ntmps16
  go_wp2_with fail
  refine Hs.out.mono ?_
  rintro e w1 ⟨v, rfl, hr, hb⟩
  have hz1 := hb.size
  have Hr := Lib.hid hr
  rcases Row.form hr with ⟨rfl, h0⟩ | ⟨g, cp, rfl, hg1, hg2, hg3, hg4⟩
  · have h0' : sortL cs = [] := List.eq_nil_of_length_eq_zero h0
    have hn0 : newestL cs = [] := by rw [newestL, h0']; rfl
    clear hr
    go_wp2_with (first | (go_at_call 36; refine (compact_nil _ _).mono ?_; rintro e w' ⟨rfl, rfl⟩))
    go_returns
    exact ⟨_, rfl, by rw [hn0]; exact Row.nil _ _ _ _, by go_grown⟩
  · clear hr
    go_wp2_with (first
      | (go_at_call 36; refine (compactN_any (sortL cs) g cp _ w.heap.size _ rfl Hr.out trivial (by omega)).mono ?_; rintro e w3 ⟨rfl, hr3, hgr3⟩; have Hr3 := Lib.hid hr3; have hB3 : Below w.heap.size w w3 := hb.grown hgr3 hb.size (fun k e => by cases e; exact hg1); clear hr3 hgr3))
    go_returns
    exact ⟨_, rfl, Hr3.out, hB3⟩


theorem keepF_sub (p : CellA → CellA → Bool) : ∀ (r : List CellA) (z : CellA), ∀ c ∈ keepF p z r, c ∈ r
  | [], _, c, h => by simp [keepF] at h
  | x :: r, z, c, h => by
    rw [keepF] at h
    split at h
    · exact List.mem_cons_of_mem _ (keepF_sub p r x c h)
    · rcases List.mem_cons.1 h with h | h
      · rw [h]; exact List.mem_cons_self ..
      · exact List.mem_cons_of_mem _ (keepF_sub p r x c h)
theorem compactL_sub (p : CellA → CellA → Bool) (l : List CellA) : ∀ c ∈ compactL p l, c ∈ l := by
  cases l with
  | nil => intro c h; exact h
  | cons x r =>
    intro c h
    rcases List.mem_cons.1 h with h | h
    · rw [h]; exact List.mem_cons_self ..
    · exact List.mem_cons_of_mem _ (keepF_sub p r x c h)
theorem sortL_sub (l : List CellA) : ∀ c ∈ sortL l, c ∈ l := fun c h => (isort_spec l).mem (compactL_sub _ _ c h)
theorem newestL_sub (l : List CellA) : ∀ c ∈ newestL l, c ∈ l := fun c h => sortL_sub l c (compactL_sub _ _ c h)
theorem newestL_len (l : List CellA) : (newestL l).length ≤ l.length := by
  have := compactL_len samePl (sortL l)
  have := sortL_len l
  unfold newestL; omega
end Go.Proofs.Ytihglmicgccgiaa
