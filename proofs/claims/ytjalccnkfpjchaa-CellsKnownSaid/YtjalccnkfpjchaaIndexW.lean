/-
  The walks of slices.IndexFunc and ContainsFunc with the tests of package cells.
-/
import Derived.Test.YtjalccnkfpjchaaCellsSortW
namespace Go.Proofs.Ytjalccnkfpjchaa
open Go.RowKit Go.Sort

/-- the first one's place -/
def idxL (p : CellA → Bool) : List CellA → Option Nat
  | [] => none
  | x :: r => if p x then some 0 else (idxL p r).map (· + 1)
theorem idxL_none {p : CellA → Bool} : ∀ {l : List CellA}, idxL p l = none ↔ l.any p = false
  | [] => by simp [idxL]
  | x :: r => by
    rw [idxL, List.any_cons]
    by_cases h : p x = true
    · simp [h]
    · have := idxL_none (p := p) (l := r); simp [h, this]
theorem idxL_at {p : CellA → Bool} : ∀ {l : List CellA} {k : Nat} {x : CellA}, (l.take k).any p = false → l[k]? = some x → p x = true → idxL p l = some k
  | [], k, x, _, h, _ => by simp at h
  | y :: r, 0, x, _, h, hp => by
    simp at h; subst h
    simp [idxL, hp]
  | y :: r, k + 1, x, ha, h, hp => by
    rw [List.take_succ_cons, List.any_cons, Bool.or_eq_false_iff] at ha
    rw [idxL, ha.1, idxL_at ha.2 (by simpa using h) hp]; rfl
theorem idxL_lt {p : CellA → Bool} : ∀ {l : List CellA} {k : Nat}, idxL p l = some k → k < l.length
  | [], k, h => by simp [idxL] at h
  | x :: r, k, h => by
    rw [idxL] at h
    split at h
    · simp at h; subst h; simp
    · cases hr : idxL p r with
      | none => rw [hr] at h; simp at h
      | some j => rw [hr] at h; simp at h; subst h; have := idxL_lt hr; simp; omega
def idxI (p : CellA → Bool) (l : List CellA) : Int := match idxL p l with | some k => k | none => -1

def PE (_ : World) : Prop := True
theorem PE.below {w w' : World} (h : PE w) (_ : Below w.heap.size w w') : PE w' := h
def badC (c : CellA) : Bool := !cellL c
set_option maxHeartbeats 400000 in
theorem bad_any (c : CellA) (w : World) (h : c.Ok) (_ : PE w) :
    Calls Try.prog 33 #[c.v] w fun e w' => e = .returned (.bool (badC c)) ∧ Below w.heap.size w w' := by
  have hc := fun W => cell_any c W h
  unfold badC
  generalize cellL c = z at *
  have Hc := Lib.hid hc
  clear hc h
  obtain ⟨ar, ac, av, ag, al⟩ := c
  simp only [CellA.v] at Hc ⊢
  cases z
  all_goals
    go_enter Try.func33, Try.ntmps33
    go_wp2_with (first | (go_at_call 34; refine (Hc.out _).mono ?_; rintro e w1 ⟨rfl, hb⟩; obtain ⟨hB, hS, hk⟩ := after (B := w.heap.size) (w := w) (by go_grown) (by go_size) hb; clear hb; obtain ⟨c0, f0, z0⟩ := hk (w.heap.size) (by go_size); clear hk))
    go_returns
    exact ⟨rfl, by go_grown⟩
def goneC (c : CellA) : Bool := c.gone
set_option maxHeartbeats 400000 in
theorem gone_any (c : CellA) (w : World) (_ : c.Ok) (_ : PE w) :
    Calls Try.prog 51 #[c.v] w fun e w' => e = .returned (.bool (goneC c)) ∧ Below w.heap.size w w' := by
  obtain ⟨ar, ac, av, ag, al⟩ := c
  simp only [CellA.v, goneC]
  go_enter Try.func51, Try.ntmps51
  go_wp2
  go_returns
  exact ⟨rfl, by go_grown⟩
def outC (lo hi : List UInt8) (c : CellA) : Bool := decide (c.row.toList < lo) || !hi.isEmpty && decide (¬ c.row.toList < hi)
def PW (b : Nat) (lo hi : ByteArray) (w : World) : Prop := w.cell? ⟨b, 0, none⟩ = some (.string lo) ∧ w.cell? ⟨b, 1, none⟩ = some (.string hi) ∧ b < w.heap.size
theorem PW.below {b : Nat} {lo hi : ByteArray} {w w' : World} (h : PW b lo hi w) (hb : Below w.heap.size w w') : PW b lo hi w' :=
  ⟨(hb.cell (p := ⟨b, 0, none⟩) h.2.2).trans h.1, (hb.cell (p := ⟨b, 1, none⟩) h.2.2).trans h.2.1, by have := hb.size; have := h.2.2; omega⟩
set_option maxHeartbeats 1000000 in
theorem out_any (b : Nat) (lo hi : ByteArray) (c : CellA) (w : World) (_ : c.Ok) (h : PW b lo hi w) :
    Calls Try.prog 55 #[c.v, .pointer (some ⟨b, 0, none⟩)] w fun e w' => e = .returned (.bool (outC lo.toList hi.toList c)) ∧ Below w.heap.size w w' := by
  obtain ⟨h0, h1, h2⟩ := h
  obtain ⟨ar, ac, av, ag, al⟩ := c
  simp only [CellA.v, outC]
  by_cases g1 : ar.toList < lo.toList
  · have k1 : Op.bytesLess ar.toList lo.toList = true := by rw [less_eq]; simpa using g1
    have Hv := Lib.hid (show (decide (ar.toList < lo.toList) || !hi.toList.isEmpty && decide (¬ ar.toList < hi.toList)) = true by simp [g1])
    clear g1
    go_enter Try.func55, Try.ntmps55
    go_wp2
    go_returns
    exact ⟨by rw [Hv.out]; rfl, by go_grown⟩
  · have k1 : Op.bytesLess ar.toList lo.toList = false := by rw [less_eq]; simpa using g1
    by_cases g2 : hi.toList = []
    · have k2 : hi.toList.isEmpty = true := by simp [g2]
      have Hv := Lib.hid (show (decide (ar.toList < lo.toList) || !hi.toList.isEmpty && decide (¬ ar.toList < hi.toList)) = false by simp [g1, g2])
      clear g1 g2
      go_enter Try.func55, Try.ntmps55
      go_wp2
      go_returns
      exact ⟨by rw [Hv.out]; rfl, by go_grown⟩
    · have k2 : hi.toList.isEmpty = false := by simp [g2]
      by_cases g3 : ar.toList < hi.toList
      · have k3 : Op.bytesLess ar.toList hi.toList = true := by rw [less_eq]; simpa using g3
        have Hv := Lib.hid (show (decide (ar.toList < lo.toList) || !hi.toList.isEmpty && decide (¬ ar.toList < hi.toList)) = false by simp [g1, g3])
        clear g1 g2 g3
        go_enter Try.func55, Try.ntmps55
        go_wp2
        go_returns
        exact ⟨by rw [Hv.out]; rfl, by go_grown⟩
      · have k3 : Op.bytesLess ar.toList hi.toList = false := by rw [less_eq]; simpa using g3
        have Hv := Lib.hid (show (decide (ar.toList < lo.toList) || !hi.toList.isEmpty && decide (¬ ar.toList < hi.toList)) = true by simp [g2, g3])
        clear g1 g2 g3
        go_enter Try.func55, Try.ntmps55
        go_wp2
        go_returns
        exact ⟨by rw [Hv.out]; rfl, by go_grown⟩

set_option maxRecDepth 100000 in
set_option maxHeartbeats 2000000 in
theorem index_bad  (ao : Option Addr) (n cap : Nat) (cs : List CellA) (w : World) (h : Cells w ao n cap cs) (hok : ∀ c ∈ cs, c.Ok) (hp : PE w) :
    Calls Try.prog 66 #[.slice ao n cap, .func (.func 33) #[] #[]] w fun e w' => e = .returned (.int .i64 (idxI badC cs)) ∧ Below w.heap.size w w' := by
  have hl := h.len
  have hc1 := Arr.fits h
  have hc2 := Arr.max h
  unfold maxLen at hc2
  have Hl := Lib.hid hl
  have H := Lib.hid h
  have Hok := Lib.hid hok
  have Hp := Lib.hid hp
  clear h hl hok hp
  go_enter Try.func66, Try.ntmps66
  go_wp2
  go_loopw [8] (fun i wr => ∃ k : Nat, k ≤ n ∧ i = .int .i64 k ∧ Hid ((cs.take k).any badC = false) ∧ Below w.heap.size w wr) (fun i _ => n - (intOf i).toNat)
  case atStart => exact ⟨0, by omega, rfl, Lib.hid rfl, Below.refl _ _⟩
  case round =>
    obtain ⟨k, hk, rfl, hE, hB0⟩ := hrel
    by_cases hlt : k < n
    · obtain ⟨x, hx⟩ : ∃ x, cs[k]? = some x := ⟨_, List.getElem?_eq_getElem (by rw [Hl.out]; omega)⟩
      obtain ⟨b, off, rfl, hb, ⟨x0, x1, x2, x3, x4⟩⟩ := Cells.at_ H.out hx
      obtain ⟨k0, k0f⟩ := keep_below hB0 b hb
      have hzr := hB0.size
      have Hx := Lib.hid hx
      have hcl := Lib.hid fun W h => bad_any x W (Hok.out x (List.mem_of_getElem? hx)) h
      clear hx
      cases hv : badC x
      · rw [hv] at hcl
        have hnx : Hid ((cs.take (k + 1)).any badC = false) := Lib.hid (by rw [List.take_add_one, Hx.out, List.any_append, hE.out]; simp [hv])
        clear hv
        go_wp2_with (first | (go_at_call 33; refine (hcl.out _ (Hp.out.below hB0)).mono ?_; rintro e w1 ⟨rfl, hb⟩; obtain ⟨hB, hS, hk⟩ := after (B := w.heap.size) (w := w) (by go_grown) (by go_size) hb; clear hb; obtain ⟨c0, f0, z0⟩ := hk (b) (by go_size); clear hk))
        exact ⟨⟨k + 1, by omega, by go_num, hnx, hB⟩, by simp [intOf]; omega⟩
      · rw [hv] at hcl
        have Hf := Lib.hid (show idxI badC cs = k by rw [idxI, idxL_at hE.out Hx.out hv])
        clear hv
        go_wp2_with (first | (go_at_call 33; refine (hcl.out _ (Hp.out.below hB0)).mono ?_; rintro e w1 ⟨rfl, hb⟩; obtain ⟨hB, hS, hk⟩ := after (B := w.heap.size) (w := w) (by go_grown) (by go_size) hb; clear hb; obtain ⟨c0, f0, z0⟩ := hk (b) (by go_size); clear hk))
        go_returns
        exact ⟨by rw [Hf.out]; rfl, hB⟩
    · have Hf := Lib.hid (show idxI badC cs = -1 by
        have h := hE.out
        rw [List.take_of_length_le (by rw [Hl.out]; omega)] at h
        rw [idxI, idxL_none.2 h])
      go_wp2
      go_returns
      exact ⟨by rw [Hf.out]; rfl, hB0⟩
set_option maxRecDepth 100000 in
set_option maxHeartbeats 2000000 in
theorem index_gone  (ao : Option Addr) (n cap : Nat) (cs : List CellA) (w : World) (h : Cells w ao n cap cs) (hok : ∀ c ∈ cs, c.Ok) (hp : PE w) :
    Calls Try.prog 66 #[.slice ao n cap, .func (.func 51) #[] #[]] w fun e w' => e = .returned (.int .i64 (idxI goneC cs)) ∧ Below w.heap.size w w' := by
  have hl := h.len
  have hc1 := Arr.fits h
  have hc2 := Arr.max h
  unfold maxLen at hc2
  have Hl := Lib.hid hl
  have H := Lib.hid h
  have Hok := Lib.hid hok
  have Hp := Lib.hid hp
  clear h hl hok hp
  go_enter Try.func66, Try.ntmps66
  go_wp2
  go_loopw [8] (fun i wr => ∃ k : Nat, k ≤ n ∧ i = .int .i64 k ∧ Hid ((cs.take k).any goneC = false) ∧ Below w.heap.size w wr) (fun i _ => n - (intOf i).toNat)
  case atStart => exact ⟨0, by omega, rfl, Lib.hid rfl, Below.refl _ _⟩
  case round =>
    obtain ⟨k, hk, rfl, hE, hB0⟩ := hrel
    by_cases hlt : k < n
    · obtain ⟨x, hx⟩ : ∃ x, cs[k]? = some x := ⟨_, List.getElem?_eq_getElem (by rw [Hl.out]; omega)⟩
      obtain ⟨b, off, rfl, hb, ⟨x0, x1, x2, x3, x4⟩⟩ := Cells.at_ H.out hx
      obtain ⟨k0, k0f⟩ := keep_below hB0 b hb
      have hzr := hB0.size
      have Hx := Lib.hid hx
      have hcl := Lib.hid fun W h => gone_any x W (Hok.out x (List.mem_of_getElem? hx)) h
      clear hx
      cases hv : goneC x
      · rw [hv] at hcl
        have hnx : Hid ((cs.take (k + 1)).any goneC = false) := Lib.hid (by rw [List.take_add_one, Hx.out, List.any_append, hE.out]; simp [hv])
        clear hv
        go_wp2_with (first | (go_at_call 51; refine (hcl.out _ (Hp.out.below hB0)).mono ?_; rintro e w1 ⟨rfl, hb⟩; obtain ⟨hB, hS, hk⟩ := after (B := w.heap.size) (w := w) (by go_grown) (by go_size) hb; clear hb; obtain ⟨c0, f0, z0⟩ := hk (b) (by go_size); clear hk))
        exact ⟨⟨k + 1, by omega, by go_num, hnx, hB⟩, by simp [intOf]; omega⟩
      · rw [hv] at hcl
        have Hf := Lib.hid (show idxI goneC cs = k by rw [idxI, idxL_at hE.out Hx.out hv])
        clear hv
        go_wp2_with (first | (go_at_call 51; refine (hcl.out _ (Hp.out.below hB0)).mono ?_; rintro e w1 ⟨rfl, hb⟩; obtain ⟨hB, hS, hk⟩ := after (B := w.heap.size) (w := w) (by go_grown) (by go_size) hb; clear hb; obtain ⟨c0, f0, z0⟩ := hk (b) (by go_size); clear hk))
        go_returns
        exact ⟨by rw [Hf.out]; rfl, hB⟩
    · have Hf := Lib.hid (show idxI goneC cs = -1 by
        have h := hE.out
        rw [List.take_of_length_le (by rw [Hl.out]; omega)] at h
        rw [idxI, idxL_none.2 h])
      go_wp2
      go_returns
      exact ⟨by rw [Hf.out]; rfl, hB0⟩
set_option maxRecDepth 100000 in
set_option maxHeartbeats 2000000 in
theorem index_out (pb : Nat) (lo hi : ByteArray) (ao : Option Addr) (n cap : Nat) (cs : List CellA) (w : World) (h : Cells w ao n cap cs) (hok : ∀ c ∈ cs, c.Ok) (hp : PW pb lo hi w) :
    Calls Try.prog 66 #[.slice ao n cap, .func (.func 55) #[] #[.pointer (some ⟨pb, 0, none⟩)]] w fun e w' => e = .returned (.int .i64 (idxI (outC lo.toList hi.toList) cs)) ∧ Below w.heap.size w w' := by
  have hl := h.len
  have hc1 := Arr.fits h
  have hc2 := Arr.max h
  unfold maxLen at hc2
  have Hl := Lib.hid hl
  have H := Lib.hid h
  have Hok := Lib.hid hok
  have Hp := Lib.hid hp
  clear h hl hok hp
  go_enter Try.func66, Try.ntmps66
  go_wp2
  go_loopw [8] (fun i wr => ∃ k : Nat, k ≤ n ∧ i = .int .i64 k ∧ Hid ((cs.take k).any (outC lo.toList hi.toList) = false) ∧ Below w.heap.size w wr) (fun i _ => n - (intOf i).toNat)
  case atStart => exact ⟨0, by omega, rfl, Lib.hid rfl, Below.refl _ _⟩
  case round =>
    obtain ⟨k, hk, rfl, hE, hB0⟩ := hrel
    by_cases hlt : k < n
    · obtain ⟨x, hx⟩ : ∃ x, cs[k]? = some x := ⟨_, List.getElem?_eq_getElem (by rw [Hl.out]; omega)⟩
      obtain ⟨b, off, rfl, hb, ⟨x0, x1, x2, x3, x4⟩⟩ := Cells.at_ H.out hx
      obtain ⟨k0, k0f⟩ := keep_below hB0 b hb
      have hzr := hB0.size
      have Hx := Lib.hid hx
      have hcl := Lib.hid fun W h => out_any pb lo hi x W (Hok.out x (List.mem_of_getElem? hx)) h
      clear hx
      cases hv : (outC lo.toList hi.toList) x
      · rw [hv] at hcl
        have hnx : Hid ((cs.take (k + 1)).any (outC lo.toList hi.toList) = false) := Lib.hid (by rw [List.take_add_one, Hx.out, List.any_append, hE.out]; simp [hv])
        clear hv
        go_wp2_with (first | (go_at_call 55; refine (hcl.out _ (Hp.out.below hB0)).mono ?_; rintro e w1 ⟨rfl, hb⟩; obtain ⟨hB, hS, hk⟩ := after (B := w.heap.size) (w := w) (by go_grown) (by go_size) hb; clear hb; obtain ⟨c0, f0, z0⟩ := hk (b) (by go_size); clear hk))
        exact ⟨⟨k + 1, by omega, by go_num, hnx, hB⟩, by simp [intOf]; omega⟩
      · rw [hv] at hcl
        have Hf := Lib.hid (show idxI (outC lo.toList hi.toList) cs = k by rw [idxI, idxL_at hE.out Hx.out hv])
        clear hv
        go_wp2_with (first | (go_at_call 55; refine (hcl.out _ (Hp.out.below hB0)).mono ?_; rintro e w1 ⟨rfl, hb⟩; obtain ⟨hB, hS, hk⟩ := after (B := w.heap.size) (w := w) (by go_grown) (by go_size) hb; clear hb; obtain ⟨c0, f0, z0⟩ := hk (b) (by go_size); clear hk))
        go_returns
        exact ⟨by rw [Hf.out]; rfl, hB⟩
    · have Hf := Lib.hid (show idxI (outC lo.toList hi.toList) cs = -1 by
        have h := hE.out
        rw [List.take_of_length_le (by rw [Hl.out]; omega)] at h
        rw [idxI, idxL_none.2 h])
      go_wp2
      go_returns
      exact ⟨by rw [Hf.out]; rfl, hB0⟩

set_option maxHeartbeats 400000 in
theorem contains_bad (ao : Option Addr) (n cap : Nat) (cs : List CellA) (w : World) (h : Cells w ao n cap cs) (hok : ∀ c ∈ cs, c.Ok) :
    Calls Try.prog 32 #[.slice ao n cap, .func (.func 33) #[] #[]] w fun e w' => e = .returned (.bool (cs.any badC)) ∧ Below w.heap.size w w' := by
  have hi := Lib.hid fun W hb => index_bad ao n cap cs W (Arr.below h hb) hok trivial
  have Hv : Hid (idxI badC cs = -1 ∧ cs.any badC = false ∨ 0 ≤ idxI badC cs ∧ cs.any badC = true) := Lib.hid (by
    unfold idxI
    cases hk : idxL badC cs with
    | none => exact .inl ⟨rfl, idxL_none.1 hk⟩
    | some k =>
      refine .inr ⟨by simp, ?_⟩
      cases ha : cs.any badC with
      | true => rfl
      | false => rw [idxL_none.2 ha] at hk; cases hk)
  generalize idxI badC cs = z at *
  generalize cs.any badC = u at *
  clear h hok
  rcases Hv.out with ⟨rfl, rfl⟩ | ⟨hz, rfl⟩
  all_goals
    clear Hv
    go_enter Try.func32, Try.ntmps32
    go_wp2_with (first | (go_at_call 66; refine (hi.out _ (Below.refl _ _)).mono ?_; rintro e w1 ⟨rfl, hb⟩; obtain ⟨hB, hS, hk⟩ := after (B := w.heap.size) (w := w) (by go_grown) (by go_size) hb; clear hb; clear hk))
    go_returns
    exact ⟨rfl, by go_grown⟩

end Go.Proofs.Ytjalccnkfpjchaa
