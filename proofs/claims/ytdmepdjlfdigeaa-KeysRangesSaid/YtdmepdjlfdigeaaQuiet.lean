/-
  A region that draws its order, whose operations read and whose callees read or lay new blocks: one walk, in the order of the text. What an old block holds is kept.
-/
import Derived.Test.YtdmepdjlfdigeaaRows
import Derived.WalkKit
import Derived.BigQuiet
import Derived.Deep.QuietTactic
import Derived.Lib.QuietBelow
import Derived.Handy
namespace Go.Proofs.Ytdmepdjlfdigeaa
open Go.RowKit Go.Sort

theorem after {B : Nat} {w W w1 : World} (h : Below B w W) (hW : B ≤ W.heap.size) (hb : Below W.heap.size W w1) :
    Below B w w1 ∧ B ≤ w1.heap.size ∧ ∀ b, b < W.heap.size → (∀ o, w1.cell? ⟨b, o, none⟩ = W.cell? ⟨b, o, none⟩) ∧ (∀ o, w1.frozen? ⟨b, o, none⟩ = W.frozen? ⟨b, o, none⟩) ∧ b < w1.heap.size :=
  ⟨h.trans (hb.mono hW), by have := hb.size; omega, fun b hl => ⟨fun o => hb.cell (p := ⟨b, o, none⟩) hl, fun o => hb.frozen (p := ⟨b, o, none⟩) hl, by have := hb.size; omega⟩⟩

theorem wp_region_below {P : Program} {id : Nat} {Q : Exit → Act → World → Prop} {a : Act} {w : World} {l : List Oper} (hm : P.follows .mixedOrders = true) (hB : Region.lexB .any l.toArray = true)
    (h : (∀ b, b < w.heap.size → (∀ o d os, (grow (redrawn w d) os).cell? ⟨b, o, none⟩ = w.cell? ⟨b, o, none⟩) ∧ (∀ o d os, (grow (redrawn w d) os).frozen? ⟨b, o, none⟩ = w.frozen? ⟨b, o, none⟩)) →
      wpQuiet P l.toArray (fun w' => ∃ p : Regrown, w' = grow (redrawn w p.d) p.os) (fun a' => ∀ w', Below w.heap.size w w' → Q .normal a' w') l a) : (Code.region id l.toArray true).wp P Q a w := by
  have h1 := h (fun b hb => ⟨fun o d os => (below_regrown w d os).cell (p := ⟨b, o, none⟩) hb, fun o d os => (below_regrown w d os).frozen (p := ⟨b, o, none⟩) hb⟩)
  have e : (fun a' : Act => ∀ w', Below w.heap.size w w' → Q .normal a' w') = (fun a' => ∀ w', (∃ p : Regrown, w' = grow (redrawn w p.d) p.os) → Q .normal a' w') := by
    funext a'
    apply propext
    constructor
    · rintro h2 w' ⟨p, rfl⟩; exact h2 _ (below_regrown w p.d p.os)
    · intro h2 w' hb; exact h2 _ (regrown_of_below hb)
  rw [e] at h1
  exact wp_region_quiet_below hm hB h1

end Go.Proofs.Ytdmepdjlfdigeaa
