/-
  The walks of slices.IndexFunc and ContainsFunc with the tests of package cells.
-/
import Derived.Test.YtehbikofoidjhaaCellsSortW
namespace Go.Proofs.Ytehbikofoidjhaa
open Go.RowKit Go.Sort

/-- the first one's place -/
def idxL (p : CellA → Bool) : List CellA → Option Nat
  | [] => none
  | x :: r => if p x then some 0 else (idxL p r).map (· + 1)
theorem idxL_none {p : CellA → Bool} : ∀ {l : List CellA}, idxL p l = none ↔ l.any p = false
  | [] => by simp [idxL]
  | x :: r => by
    rw [idxL, List.any_cons]
    by_cases h : p x = true
    · simp [h]
    · have := idxL_none (p := p) (l := r); simp [h, this]
theorem idxL_at {p : CellA → Bool} : ∀ {l : List CellA} {k : Nat} {x : CellA}, (l.take k).any p = false → l[k]? = some x → p x = true → idxL p l = some k
  | [], k, x, _, h, _ => by simp at h
  | y :: r, 0, x, _, h, hp => by
    simp at h; subst h
    simp [idxL, hp]
  | y :: r, k + 1, x, ha, h, hp => by
    rw [List.take_succ_cons, List.any_cons, Bool.or_eq_false_iff] at ha
    rw [idxL, ha.1, idxL_at ha.2 (by simpa using h) hp]; rfl
theorem idxL_lt {p : CellA → Bool} : ∀ {l : List CellA} {k : Nat}, idxL p l = some k → k < l.length
  | [], k, h => by simp [idxL] at h
  | x :: r, k, h => by
    rw [idxL] at h
    split at h
    · simp at h; subst h; simp
    · cases hr : idxL p r with
      | none => rw [hr] at h; simp at h
      | some j => rw [hr] at h; simp at h; subst h; have := idxL_lt hr; simp; omega
def idxI (p : CellA → Bool) (l : List CellA) : Int := match idxL p l with | some k => k | none => -1

def PE (_ : World) : Prop := True
theorem PE.below {w w' : World} (h : PE w) (_ : Below w.heap.size w w') : PE w' := h
def goneC (c : CellA) : Bool := c.gone
set_option maxHeartbeats 400000 in
theorem gone_any (c : CellA) (w : World) (_ : c.Ok) (_ : PE w) :
    Calls Try.prog 54 #[c.v] w fun e w' => e = .returned (.bool (goneC c)) ∧ Below w.heap.size w w' := by
  obtain ⟨ar, ac, av, ag, al⟩ := c
  simp only [CellA.v, goneC]
  go_enter Try.func54, Try.ntmps54
  go_wp2
  go_returns
  exact ⟨rfl, by go_grown⟩

set_option maxRecDepth 100000 in
set_option maxHeartbeats 2000000 in
theorem index_gone  (ao : Option Addr) (n cap : Nat) (cs : List CellA) (w : World) (h : Cells w ao n cap cs) (hok : ∀ c ∈ cs, c.Ok) (hp : PE w) :
    Calls Try.prog 64 #[.slice ao n cap, .func (.func 54) #[] #[]] w fun e w' => e = .returned (.int .i64 (idxI goneC cs)) ∧ Below w.heap.size w w' := by
  have hl := h.len
  have hc1 := Arr.fits h
  have hc2 := Arr.max h
  unfold maxLen at hc2
  have Hl := Lib.hid hl
  have H := Lib.hid h
  have Hok := Lib.hid hok
  have Hp := Lib.hid hp
  clear h hl hok hp
  go_enter Try.func64, Try.ntmps64
  go_wp2
  go_loopw [8] (fun i wr => ∃ k : Nat, k ≤ n ∧ i = .int .i64 k ∧ Hid ((cs.take k).any goneC = false) ∧ Below w.heap.size w wr) (fun i _ => n - (intOf i).toNat)
  case atStart => exact ⟨0, by omega, rfl, Lib.hid rfl, Below.refl _ _⟩
  case round =>
    obtain ⟨k, hk, rfl, hE, hB0⟩ := hrel
    by_cases hlt : k < n
    · obtain ⟨x, hx⟩ : ∃ x, cs[k]? = some x := ⟨_, List.getElem?_eq_getElem (by rw [Hl.out]; omega)⟩
      obtain ⟨b, off, rfl, hb, ⟨x0, x1, x2, x3, x4⟩⟩ := Cells.at_ H.out hx
      obtain ⟨k0, k0f⟩ := keep_below hB0 b hb
      have hzr := hB0.size
      have Hx := Lib.hid hx
      have hcl := Lib.hid fun W h => gone_any x W (Hok.out x (List.mem_of_getElem? hx)) h
      clear hx
      cases hv : goneC x
      · rw [hv] at hcl
        have hnx : Hid ((cs.take (k + 1)).any goneC = false) := Lib.hid (by rw [List.take_add_one, Hx.out, List.any_append, hE.out]; simp [hv])
        clear hv
        go_wp2_with (first | (go_at_call 54; refine (hcl.out _ (Hp.out.below hB0)).mono ?_; rintro e w1 ⟨rfl, hb⟩; obtain ⟨hB, hS, hk⟩ := after (B := w.heap.size) (w := w) (by go_grown) (by go_size) hb; clear hb; obtain ⟨c0, f0, z0⟩ := hk (b) (by go_size); clear hk))
        exact ⟨⟨k + 1, by omega, by go_num, hnx, hB⟩, by simp [intOf]; omega⟩
      · rw [hv] at hcl
        have Hf := Lib.hid (show idxI goneC cs = k by rw [idxI, idxL_at hE.out Hx.out hv])
        clear hv
        go_wp2_with (first | (go_at_call 54; refine (hcl.out _ (Hp.out.below hB0)).mono ?_; rintro e w1 ⟨rfl, hb⟩; obtain ⟨hB, hS, hk⟩ := after (B := w.heap.size) (w := w) (by go_grown) (by go_size) hb; clear hb; obtain ⟨c0, f0, z0⟩ := hk (b) (by go_size); clear hk))
        go_returns
        exact ⟨by rw [Hf.out]; rfl, hB⟩
    · have Hf := Lib.hid (show idxI goneC cs = -1 by
        have h := hE.out
        rw [List.take_of_length_le (by rw [Hl.out]; omega)] at h
        rw [idxI, idxL_none.2 h])
      go_wp2
      go_returns
      exact ⟨by rw [Hf.out]; rfl, hB0⟩


end Go.Proofs.Ytehbikofoidjhaa
