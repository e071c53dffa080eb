/-
  What MergeKnown's walk needs: rows laid as a slice; the answers.
-/
import Derived.Test.YtehbikofoidjhaaMAll12W
import Derived.Test.YtehbikofoidjhaaNewest12W
namespace Go.Proofs.Ytehbikofoidjhaa
open Go.RowKit

theorem flatten_rowE (rs : List (Option RI)) : (rs.map rowE).flatten = rs.map valR := by
  induction rs with
  | nil => rfl
  | cons r rs ih => rw [List.map_cons, List.flatten_cons, ih]; rfl
theorem rows_new (w : World) (T : TypeId) (rs : List (Option RI)) (arr : Array Value) (n b : Nat) (h : arr = (rs.map valR).toArray) (hn : rs.length = n) (hm : n ≤ maxLen) (hb : b = w.heap.size) : Arr (w.alloc (.cells arr T)) 1 (some ⟨b, 0, none⟩) n n (rs.map rowE) := by
  subst hn
  rw [← flatten_rowE] at h
  subst h
  subst hb
  refine ⟨rowE_elems rs, by simp, Nat.le_refl _, hm, fun _ => ⟨w.heap.size, 0, rfl, by rw [World.size_alloc]; omega, ?_⟩⟩
  intro i e he j u hu
  have h1 := flatten_get (Elems.len (rowE_elems rs)) i e he j u hu
  simp only [Nat.zero_add, World.cell?_alloc_new]
  simpa using h1
theorem rowsAt_one {q : RI} {w : World} (h : q.Here w) : RowsAt [some q] w := by
  refine ⟨fun i r hr => ?_, fun i j r p hij hr hq k hk hk2 => ?_⟩
  · match i, hr with
    | 0, hr => simp at hr; subst hr; exact h
    | i + 1, hr => simp at hr
  · match i, j, hr, hq with
    | 0, 0, _, _ => exact hij rfl
    | i + 1, _, hr, _ => simp at hr
    | 0, j + 1, _, hq => simp at hq
theorem rowsAt_nil (w : World) (n : Nat) : RowsAt (List.replicate n none) w := by
  have h0 : ∀ (i : Nat) (r : RI), (List.replicate n (none : Option RI))[i]? ≠ some (some r) := fun i r hr => by
    have := List.mem_of_getElem? hr
    rw [List.mem_replicate] at this
    cases this.2
  exact ⟨fun i r hr => absurd hr (h0 i r), fun i j r p _ hr => absurd hr (h0 i r)⟩
theorem rowsF_nil (n k : Nat) : ¬ RowsF (List.replicate n none) k := fun ⟨i, r, hr, _⟩ => by
  have := List.mem_of_getElem? hr
  rw [List.mem_replicate] at this
  cases this.2
theorem rowsF_one {q : RI} {k : Nat} (h : RowsF [some q] k) : q.F k := by
  obtain ⟨i, r, hr, hk⟩ := h
  match i, hr with
  | 0, hr => simp at hr; subst hr; exact hk
  | i + 1, hr => simp at hr
theorem tells_none (n : Nat) : Tells none ((List.replicate n (none : Option RI)).filterMap headP) [] := by
  have h : (List.replicate n (none : Option RI)).filterMap headP = [] := by
    induction n with
    | zero => rfl
    | succ n ih => rw [List.replicate_succ, List.filterMap_cons]; exact ih
  rw [h]
  exact .done rfl

def kl : List CellA := [atX 97 1 false, atX 98 1 false, atX 99 1 false]
def kb : List CellA := [atX 98 1 false]
def ka : List CellA := [atX 97 2 true, atX 97 1 false, atX 98 1 false]
def kba : List CellA := [atX 98 1 false, atX 97 1 false]
theorem ka_alive : keepL (fun c => !c.gone) none ka = kb := by
  simp [ka, kb, keepL, freshB, placeB, atX]
theorem kba_tells {q : RI} (h : q.cs = kba) : Tells none ([some q].filterMap headP) kb := by
  have e : [some q].filterMap headP = [(atX 98 1 false, [atX 97 1 false])] := by simp [headP, h, kba]
  have h2 := tells_all ([some q].filterMap headP)
  rw [e] at h2 ⊢
  have e2 : sortL (exL [(atX 98 1 false, [atX 97 1 false])]) = kb := by
    simp [exL, exP, riseL, sortL, isort, isR, insR, kb, cmp_at, cmpN, orI, compactL, keepF]
  rwa [e2] at h2
theorem k_slice {w : World} {g : Nat} (h : Cells w (some ⟨g, 0, none⟩) 3 3 kl) : Cells w (some ⟨g, 5, none⟩) 1 2 kb := by
  have h1 := cells_dropM h 1 (by decide)
  have e : ((some ⟨g, 0, none⟩ : Option Addr).map fun x => x.add (1 * 5)) = some ⟨g, 5, none⟩ := by simp [Addr.add]
  rw [e] at h1
  exact Cells.short (k := 1) h1 (by decide)
theorem k_short {w : World} {g : Nat} (h : Cells w (some ⟨g, 0, none⟩) 3 3 kl) : Cells w (some ⟨g, 0, none⟩) 2 3 (kl.take 2) := Cells.short h (by decide)
end Go.Proofs.Ytehbikofoidjhaa
