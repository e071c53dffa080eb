/-
  Rows as one (package merge): All's function is a row.
-/
import Derived.Test.YtehbikofoidjhaaAll2W
namespace Go.Proofs.Ytehbikofoidjhaa
open Go.RowKit

/-- All's function has these cells yet to tell -/
def AllSt (a : AV) (cs : List CellA) (F : Nat → Prop) (w : World) : Prop :=
  (∃ (ao : Option Addr) (n cap : Nat) (rs : List (Option RI)), New a ao n cap rs F w ∧ Tells none (rs.filterMap headP) cs) ∨
  (∃ (v : Value) (hs : List HI) (last : Option CellA), Beg a v hs last F w ∧ Tells last (hs.map HI.p) cs)
theorem step_nil (last : Option CellA) : stepP last [] = [] := by cases last <;> rfl
theorem BegNext.row {a : AV} {hs : List HI} {last : Option CellA} {F : Nat → Prop} {w w' : World} {e : Ending} {cs : List CellA} (h : BegNext a hs last F w e w') (ht : Tells last (hs.map HI.p) cs) :
    e = .returned (headV cs) ∧ ∃ F', AllSt a cs.tail F' w' ∧ (∀ b, F' b → F b ∨ w.heap.size ≤ b) ∧ Kept F w w' := by
  obtain ⟨h1, ⟨v', hs', F', h2, h3, h4⟩, h5⟩ := h
  generalize hs.map HI.p = l at *
  cases ht with
  | done h0 =>
    rw [h0] at h1 h2 h3
    exact ⟨h1, F', .inr ⟨v', hs', _, h3, by rw [h2]; exact .done (step_nil _)⟩, h4, h5⟩
  | @tell _ _ h tl cs h0 ht =>
    rw [h0] at h1 h2 h3
    exact ⟨h1, F', .inr ⟨v', hs', _, h3, by rw [h2]; exact ht⟩, h4, h5⟩
theorem all_row (a : AV) : RowOf 31 a.caps (AllSt a) := by
  refine ⟨⟨_, _, Try.func31, by kernel_rfl, rfl⟩, fun h hs hb => ?_, fun h => ?_, fun {cs F w} h => ?_⟩
  · rcases h with ⟨ao, n, cap, rs, h1, h2⟩ | ⟨v, l, last, h1, h2⟩
    · exact .inl ⟨ao, n, cap, rs, h1.keep hs hb, h2⟩
    · exact .inr ⟨v, l, last, h1.keep hs hb, h2⟩
  · rcases h with ⟨ao, n, cap, rs, h1, h2⟩ | ⟨v, l, last, h1, h2⟩
    · exact h1.inb
    · exact h1.inb
  · rcases h with ⟨ao, n, cap, rs, h1, h2⟩ | ⟨v, l, last, h1, h2⟩
    · refine (all1_first a ao n cap rs F w h1).mono ?_
      rintro e w' ⟨hs, hp, hn⟩
      exact hn.row (by rw [hp]; exact h2)
    · cases last with
      | none => exact (all1_untold a v l F w h1).mono fun e w' hn => hn.row h2
      | some c => exact (all1_told a v l c F w h1).mono fun e w' hn => hn.row h2
end Go.Proofs.Ytehbikofoidjhaa
