/-
  Heads of rows (package merge): the walks of slices.IndexFunc, slices.DeleteFunc on them.
-/
import Derived.Test.YtehbikofoidjhaaHeadW
namespace Go.Proofs.Ytehbikofoidjhaa
open Go.RowKit Go.Sort

theorem gb_setP {a w : World} {g : Nat} (h : a.grownBy w (some g)) (o : Nat) (u : Value) : a.grownBy (w.setCell ⟨g, o, none⟩ u) (some g) :=
  ⟨h.os, h.tape, h.output, by rw [World.size_setCell]; exact h.size, fun k hk hn => (Below.heap_setCell _ _ _ _ (fun e => hn (congrArg some e))).trans (h.block k hk hn)⟩

/-- the first one's place -/
def idxP : List (Nat × Bool) → Option Nat
  | [] => none
  | x :: r => if x.2 then some 0 else (idxP r).map (· + 1)
def anyP (l : List (Nat × Bool)) : Bool := l.any (·.2)
theorem idxP_none : ∀ {l : List (Nat × Bool)}, idxP l = none ↔ anyP l = false
  | [] => by simp [idxP, anyP]
  | x :: r => by
    have ih := idxP_none (l := r)
    unfold anyP at *
    rw [idxP, List.any_cons]
    by_cases h : x.2 = true
    · simp [h]
    · simp [h, ih]
theorem idxP_at : ∀ {l : List (Nat × Bool)} {k : Nat} {x : Nat × Bool}, anyP (l.take k) = false → l[k]? = some x → x.2 = true → idxP l = some k
  | [], k, x, _, h, _ => by simp at h
  | y :: r, 0, x, _, h, hp => by
    simp at h; subst h
    simp [idxP, hp]
  | y :: r, k + 1, x, ha, h, hp => by
    unfold anyP at ha
    rw [List.take_succ_cons, List.any_cons, Bool.or_eq_false_iff] at ha
    rw [idxP, ha.1, idxP_at (l := r) (by unfold anyP; exact ha.2) (by simpa using h) hp]; rfl
theorem idxP_some : ∀ {l : List (Nat × Bool)} {k : Nat}, idxP l = some k → anyP (l.take k) = false ∧ ∃ x, l[k]? = some x ∧ x.2 = true
  | [], k, h => by simp [idxP] at h
  | x :: r, k, h => by
    rw [idxP] at h
    by_cases hp : x.2 = true
    · rw [if_pos hp] at h; cases h
      exact ⟨rfl, x, rfl, hp⟩
    · rw [if_neg hp] at h
      cases hr : idxP r with
      | none => rw [hr] at h; simp at h
      | some j =>
        rw [hr] at h; simp at h; subst h
        obtain ⟨h1, y, h2, h3⟩ := idxP_some hr
        unfold anyP at *
        exact ⟨by rw [List.take_succ_cons, List.any_cons, h1]; simpa using hp, y, by simpa using h2, h3⟩
theorem idxP_lt : ∀ {l : List (Nat × Bool)} {k : Nat}, idxP l = some k → k < l.length := fun h => by
  obtain ⟨_, x, h2, _⟩ := idxP_some h
  exact (List.getElem?_eq_some_iff.1 h2).1
def idxPI (l : List (Nat × Bool)) : Int := match idxP l with | some k => k | none => -1
def keepP (l : List (Nat × Bool)) : List (Nat × Bool) := l.filter fun c => !c.2
theorem keepP_all {l : List (Nat × Bool)} (h : anyP l = false) : keepP l = l := by
  rw [keepP, List.filter_eq_self]
  intro c hc
  unfold anyP at h
  rw [List.any_eq_false] at h
  simpa using h c hc
theorem keepP_succ {l : List (Nat × Bool)} {k : Nat} {x : Nat × Bool} (h : l[k]? = some x) : keepP (l.take (k + 1)) = if x.2 then keepP (l.take k) else keepP (l.take k) ++ [x] := by
  rw [keepP, List.take_add_one, h, keepP, List.filter_append]
  cases hp : x.2 <;> simp [hp]
theorem keepP_len (l : List (Nat × Bool)) : (keepP l).length ≤ l.length := List.length_filter_le _ _

def ptrE (p : Nat × Bool) : List Value := [.pointer (some ⟨p.1, 0, none⟩)]
theorem ptrE_elems (ps : List (Nat × Bool)) : Elems 1 (ps.map ptrE) := fun e he => by
  obtain ⟨r, _, rfl⟩ := List.mem_map.1 he
  exact ⟨rfl, fun u hu => by simp only [ptrE, List.mem_cons, List.not_mem_nil, or_false] at hu; subst hu; rfl⟩
/-- the heads' marks -/
def Flags (w : World) (ps : List (Nat × Bool)) : Prop := ∀ p ∈ ps, w.cell? ⟨p.1, 6, none⟩ = some (.bool p.2)
theorem Flags.lt {w : World} {ps : List (Nat × Bool)} (h : Flags w ps) : ∀ p ∈ ps, p.1 < w.heap.size := fun p hp => World.block_lt_of_cell? _ _ (h p hp)
theorem Flags.below {w w' : World} {ps : List (Nat × Bool)} (h : Flags w ps) (hb : Below w.heap.size w w') : Flags w' ps := fun p hp => (hb.cell (p := ⟨p.1, 6, none⟩) (h.lt p hp)).trans (h p hp)
theorem Flags.grown {w w' : World} {ps : List (Nat × Bool)} {g : Nat} (h : Flags w ps) (hg : w.grownBy w' (some g)) (hn : ∀ p ∈ ps, p.1 ≠ g) : Flags w' ps := fun p hp =>
  (World.cell?_of_block (a := ⟨p.1, 6, none⟩) (hg.block p.1 (h.lt p hp) (fun e => hn p hp (Option.some.inj e)))).trans (h p hp)
theorem arr_ptr {w : World} {ao : Option Addr} {n cap : Nat} {ps : List (Nat × Bool)} (h : Arr w 1 ao n cap (ps.map ptrE)) {i : Nat} {p : Nat × Bool} (hp : ps[i]? = some p) :
    ∃ b off, ao = some ⟨b, off, none⟩ ∧ b < w.heap.size ∧ w.cell? ⟨b, off + i, none⟩ = some (.pointer (some ⟨p.1, 0, none⟩)) := by
  obtain ⟨b, off, e, hb, hj⟩ := Arr.at_ h (i := i) (e := ptrE p) (by simp [hp])
  exact ⟨b, off, e, hb, by have := hj 0 _ rfl; simpa using this⟩

set_option maxHeartbeats 400000 in
theorem done_any (b : Nat) (d : Bool) (w : World) (h : w.cell? ⟨b, 6, none⟩ = some (.bool d)) :
    Calls Try.prog 35 #[.pointer (some ⟨b, 0, none⟩)] w fun e w' => e = .returned (.bool d) ∧ Below w.heap.size w w' := by
  go_enter Try.func35, Try.ntmps35
  go_wp2
  go_returns
  exact ⟨rfl, by go_grown⟩

set_option maxRecDepth 100000 in
set_option maxHeartbeats 2000000 in
theorem index_heads (ao : Option Addr) (n cap : Nat) (ps : List (Nat × Bool)) (w : World) (h : Arr w 1 ao n cap (ps.map ptrE)) (hf : Flags w ps) :
    Calls Try.prog 58 #[.slice ao n cap, .func (.func 35) #[] #[]] w fun e w' => e = .returned (.int .i64 (idxPI ps)) ∧ Below w.heap.size w w' := by
  have hl : ps.length = n := by have := h.len; rwa [List.length_map] at this
  have hc1 := Arr.fits h
  have hc2 := Arr.max h
  unfold maxLen at hc2
  have Hl := Lib.hid hl
  have H := Lib.hid h
  have HF := Lib.hid hf
  clear h hl hf
  go_enter Try.func58, Try.ntmps58
  go_wp2
  go_loopw [8] (fun i wr => ∃ k : Nat, k ≤ n ∧ i = .int .i64 k ∧ Hid (anyP (ps.take k) = false) ∧ Below w.heap.size w wr) (fun i _ => n - (intOf i).toNat)
  case atStart => exact ⟨0, by omega, rfl, Lib.hid rfl, Below.refl _ _⟩
  case round =>
    obtain ⟨k, hk, rfl, hE, hB0⟩ := hrel
    by_cases hlt : k < n
    · obtain ⟨x, hx⟩ : ∃ x, ps[k]? = some x := ⟨_, List.getElem?_eq_getElem (by rw [Hl.out]; omega)⟩
      obtain ⟨b, off, rfl, hbl, x0⟩ := arr_ptr H.out hx
      obtain ⟨k0, k0f⟩ := keep_below hB0 b hbl
      have hzr := hB0.size
      have Hx := Lib.hid hx
      have hmem := List.mem_of_getElem? hx
      have hxl := HF.out.lt x hmem
      have hcl := Lib.hid fun W h => done_any x.1 x.2 W h
      have hfx := (hB0.cell (p := ⟨x.1, 6, none⟩) hxl).trans (HF.out x hmem)
      clear hx hmem
      obtain ⟨xb, xd⟩ := x
      simp only at hcl hfx x0 hxl
      cases xd
      · have hnx : Hid (anyP (ps.take (k + 1)) = false) := Lib.hid (by unfold anyP; rw [List.take_add_one, Hx.out, List.any_append]; have := hE.out; unfold anyP at this; rw [this]; rfl)
        go_wp2_with (first | (go_at_call 35; refine (hcl.out _ hfx).mono ?_; rintro e w1 ⟨rfl, hb⟩; obtain ⟨hB, hS, hk⟩ := after (B := w.heap.size) (w := w) (by go_grown) (by go_size) hb; clear hb; obtain ⟨c0, f0, z0⟩ := hk (b) (by go_size); clear hk))
        exact ⟨⟨k + 1, by omega, by go_num, hnx, hB⟩, by simp [intOf]; omega⟩
      · have Hf := Lib.hid (show idxPI ps = k by rw [idxPI, idxP_at hE.out Hx.out rfl])
        go_wp2_with (first | (go_at_call 35; refine (hcl.out _ hfx).mono ?_; rintro e w1 ⟨rfl, hb⟩; obtain ⟨hB, hS, hk⟩ := after (B := w.heap.size) (w := w) (by go_grown) (by go_size) hb; clear hb; obtain ⟨c0, f0, z0⟩ := hk (b) (by go_size); clear hk))
        go_returns
        exact ⟨by rw [Hf.out]; rfl, hB⟩
    · have Hf := Lib.hid (show idxPI ps = -1 by
        have h := hE.out
        rw [List.take_of_length_le (by rw [Hl.out]; omega)] at h
        rw [idxPI, idxP_none.2 h])
      go_wp2
      go_returns
      exact ⟨by rw [Hf.out]; rfl, hB0⟩

theorem ptr_row {w : World} {B : Nat} {T : TypeId} {g n cap : Nat} {ps : List (Nat × Bool)} (h : Row w B T 1 (.slice (some ⟨g, 0, none⟩) n cap) n (ps.map ptrE).flatten) {i : Nat} {p : Nat × Bool} (hp : ps[i]? = some p) (hl : ps.length = n) :
    w.cell? ⟨g, i, none⟩ = some (.pointer (some ⟨p.1, 0, none⟩)) := by
  have hi := (List.getElem?_eq_some_iff.1 hp).1
  have := flatten_get (size := 1) (ptrE_elems ps).len i (ptrE p) (by simp [hp]) 0 _ rfl
  rw [h.cell _ (by omega)]
  simpa using this
theorem ptr_set : ∀ (ps : List (Nat × Bool)) (i : Nat) (x : Nat × Bool), i < ps.length → (ps.map ptrE).flatten.set i (.pointer (some ⟨x.1, 0, none⟩)) = ((ps.set i x).map ptrE).flatten
  | [], _, _, h => by simp at h
  | p :: ps, 0, x, _ => by simp [ptrE]
  | p :: ps, i + 1, x, h => by
    have := ptr_set ps i x (by simpa using h)
    simp only [List.map_cons, List.flatten_cons, List.set_cons_succ, ← this]
    simp [ptrE]

set_option maxRecDepth 100000 in
set_option maxHeartbeats 4000000 in
theorem delete_heads (ps : List (Nat × Bool)) (g cap n B : Nat) (w : World) (hn : ps.length = n) (hrow : Row w B 51 1 (.slice (some ⟨g, 0, none⟩) n cap) n (ps.map ptrE).flatten) (hf : Flags w ps) (hg : ∀ p ∈ ps, p.1 ≠ g) :
    Calls Try.prog 34 #[.slice (some ⟨g, 0, none⟩) n cap, .func (.func 35) #[] #[]] w
      fun e w' => e = .returned (.slice (some ⟨g, 0, none⟩) (keepP ps).length cap) ∧ Row w' B 51 1 (.slice (some ⟨g, 0, none⟩) (keepP ps).length cap) (keepP ps).length ((keepP ps).map ptrE).flatten ∧ w.grownBy w' (some g) := by
  have hncap : n ≤ cap ∧ cap ≤ maxLen := by
    rcases hrow.form with ⟨h, _⟩ | ⟨g', c', h, _, _, q1, q2⟩
    · cases h
    · cases h; exact ⟨q1, q2⟩
  obtain ⟨hc1, hc2⟩ := hncap
  unfold maxLen at hc2
  have hcells : Arr w 1 (some ⟨g, 0, none⟩) n cap (ps.map ptrE) := by
    obtain ⟨ao, c', e, h⟩ := Row.arr (es := ps.map ptrE) (by decide) (by rw [List.length_map, hn]; exact hrow) (ptrE_elems ps)
    rw [List.length_map, hn] at e h
    cases e
    exact h
  have hix := Lib.hid (index_heads (some ⟨g, 0, none⟩) n cap ps w hcells hf)
  have Hrow := Lib.hid hrow
  have HF := Lib.hid hf
  have HG0 := Lib.hid hg
  have Hn := Lib.hid hn
  clear hrow hf hn hg hcells
  cases hk : idxP ps with
  | none =>
    have hf := keepP_all (idxP_none.1 hk)
    have hv : idxPI ps = -1 := by rw [idxPI, hk]
    rw [hv] at hix
    rw [hf, Hn.out]
    clear hf hv hk
    go_enter Try.func34, Try.ntmps34
    go_wp2_with (first | (go_at_call 58; refine (hix.out).mono ?_; rintro e w1 ⟨rfl, hb⟩; obtain ⟨hB, hS, hk⟩ := after (B := w.heap.size) (w := w) (by go_grown) (by go_size) hb; have Hw1 := Lib.hid hb; clear hb; clear hk))
    go_returns
    exact ⟨rfl, Hrow.out.below Hw1.out, gb_below gb_row Hw1.out⟩
  | some k0 =>
    have hv : idxPI ps = k0 := by rw [idxPI, hk]
    rw [hv] at hix
    obtain ⟨ha, x0, hx0, hp0⟩ := idxP_some hk
    have hklt : k0 < n := by have := idxP_lt hk; rw [Hn.out] at this; exact this
    have hst : Hid (keepP (ps.take (k0 + 1)) = ps.take k0) := Lib.hid (by rw [keepP_succ hx0, if_pos hp0, keepP_all ha])
    clear hv hk ha hx0 hp0
    have hkd1 : ((k0 : Int) == -1) = false := by simp
    have hkd2 : decide ((k0 : Int) = -1) = false := by simp
    go_enter Try.func34, Try.ntmps34
    go_wp2_with (first | (go_at_call 58; refine (hix.out).mono ?_; rintro e w1 ⟨rfl, hb⟩; obtain ⟨hB, hS, hk⟩ := after (B := w.heap.size) (w := w) (by go_grown) (by go_size) hb; have Hw1 := Lib.hid hb; clear hb; clear hk))
    go_loopw [5, 6] (fun i j wr => ∃ (m q : Nat) (D : List (Nat × Bool)), q ≤ n ∧ j = .int .i64 q ∧ i = .int .i64 m ∧ m < q ∧ Hid (D.length = n) ∧ Hid (Row wr B 51 1 (.slice (some ⟨g, 0, none⟩) n cap) n (D.map ptrE).flatten) ∧
        Hid (D.drop q = ps.drop q) ∧ Hid (D.take m = keepP (ps.take q)) ∧ Hid (Flags wr ps) ∧ Hid (w.grownBy wr (some g))) (fun _ j _ => n - (intOf j).toNat)
    case atStart => exact ⟨k0, k0 + 1, ps, by omega, by go_num, rfl, by omega, Hn, Lib.hid (Hrow.out.below Hw1.out), Lib.hid rfl, Lib.hid hst.out.symm, Lib.hid (HF.out.below Hw1.out), Lib.hid (gb_below gb_row Hw1.out)⟩
    case round =>
      obtain ⟨m, q, D, hq, rfl, rfl, hm, hDl, hR, hDd, hDt, hI, hG⟩ := hrel
      by_cases hlt : q < n
      · obtain ⟨x, hx⟩ : ∃ x, ps[q]? = some x := ⟨_, List.getElem?_eq_getElem (by rw [Hn.out]; omega)⟩
        have hDx : D[q]? = some x := by
          have := congrArg (fun l => l[0]?) hDd.out
          simpa [List.getElem?_drop, hx] using this
        have x0 := ptr_row hR.out hDx hDl.out
        have fy0 := hR.out.free (j := m) (by omega)
        obtain ⟨y, hy⟩ : ∃ y, D[m]? = some y := ⟨_, List.getElem?_eq_getElem (by rw [hDl.out]; omega)⟩
        have y0 := ptr_row hR.out hy hDl.out
        have Hst := Lib.hid (keepP_succ hx)
        have hgl : g < wr.heap.size := World.block_lt_of_cell? _ _ x0
        have hmem := List.mem_of_getElem? hx
        have hxl := hI.out.lt x hmem
        have hfx := hI.out x hmem
        have hcl := Lib.hid fun W h => done_any x.1 x.2 W h
        clear hx hDx hy hmem
        obtain ⟨xb, xd⟩ := x
        simp only at hcl hfx x0 hxl
        cases xd
        · go_wp2_with (first | (go_at_call 35; refine (hcl.out _ hfx).mono ?_; rintro e w5 ⟨rfl, hb⟩; obtain ⟨hB, hS, hk⟩ := after (B := wr.heap.size) (w := wr) (by go_grown) (by go_size) hb; clear hb; obtain ⟨c0, f0, z0⟩ := hk (g) (by go_size); clear hk))
          have hR6 := (hR.out.below hB).store (k := 0) (j := m) (by omega) (.pointer (some ⟨xb, 0, none⟩))
          rw [ptr_set D m (xb, false) (by rw [hDl.out]; omega)] at hR6
          have hG6 := gb_setP (gb_below hG.out hB) m (.pointer (some ⟨xb, 0, none⟩))
          have hI6 := (hI.out.below hB).grown (gb_setP (gb_row (a := w5) (g := g)) m (.pointer (some ⟨xb, 0, none⟩))) HG0.out
          have e1 : (D.set m (xb, false)).drop (q + 1) = ps.drop (q + 1) := by
            rw [List.drop_set_of_lt (by omega)]
            have := congrArg (List.drop 1) hDd.out
            simpa [List.drop_drop, Nat.add_comm] using this
          have e2 : (D.set m (xb, false)).take (m + 1) = keepP (ps.take (q + 1)) := by
            have hml : m < D.length := by rw [hDl.out]; omega
            rw [Hst.out, ← hDt.out, List.take_add_one, List.getElem?_set_self hml, List.take_set_of_le (Nat.le_refl _)]; rfl
          exact ⟨⟨m + 1, q + 1, D.set m (xb, false), by omega, by go_num, by go_num, by omega, Lib.hid (by rw [List.length_set]; exact hDl.out), Lib.hid hR6, Lib.hid e1, Lib.hid e2, Lib.hid hI6, Lib.hid hG6⟩, by simp [intOf]; omega⟩
        · go_wp2_with (first | (go_at_call 35; refine (hcl.out _ hfx).mono ?_; rintro e w5 ⟨rfl, hb⟩; obtain ⟨hB, hS, hk⟩ := after (B := wr.heap.size) (w := wr) (by go_grown) (by go_size) hb; clear hb; obtain ⟨c0, f0, z0⟩ := hk (g) (by go_size); clear hk))
          have e1 : D.drop (q + 1) = ps.drop (q + 1) := by
            have := congrArg (List.drop 1) hDd.out
            simpa [List.drop_drop, Nat.add_comm] using this
          have e2 : D.take m = keepP (ps.take (q + 1)) := by
            rw [Hst.out, ← hDt.out]; rfl
          exact ⟨⟨m, q + 1, D, by omega, by go_num, rfl, by omega, hDl, Lib.hid (hR.out.below hB), Lib.hid e1, Lib.hid e2, Lib.hid (hI.out.below hB), Lib.hid (gb_below hG.out hB)⟩, by simp [intOf]; omega⟩
      · have hall : ps.take q = ps := List.take_of_length_le (by rw [Hn.out]; omega)
        have hml : m ≤ D.length := by rw [hDl.out]; omega
        have hlen : (keepP ps).length = m := by rw [← hall, ← hDt.out, List.length_take]; omega
        obtain ⟨w7, hclr, hR7, hG7⟩ := run_clear_row (P := Try.prog) wr 50 51 (.pointer none) Try.underlying50 (fun w => by kernel_rfl) (size := 1) rfl (by intro u hu; simp [Value.cells] at hu; subst hu; rfl) (by decide) hR.out (k := m) (by omega) (cap - m)
        have Hlen := Lib.hid hlen
        have HR7 : Hid (Row w7 B 51 1 (.slice (some ⟨g, 0, none⟩) m cap) m ((keepP ps).map ptrE).flatten) := Lib.hid (by
          have e : (D.map ptrE).flatten.take (m * 1) = ((keepP ps).map ptrE).flatten := by
            rw [← hall, ← hDt.out, List.map_take]
            have h1 := flatten_len (size := 1) (es := (D.map ptrE).take m) (fun e he => (ptrE_elems D).len e (List.mem_of_mem_take he))
            rw [List.length_take, List.length_map, Nat.min_eq_left hml] at h1
            have h2 : (D.map ptrE).flatten = ((D.map ptrE).take m).flatten ++ ((D.map ptrE).drop m).flatten := by rw [← List.flatten_append, List.take_append_drop]
            rw [h2, List.take_left' h1]
          rw [← e]; exact hR7)
        have HG7 := Lib.hid (gb_trans hG.out hG7)
        rw [Nat.mul_one] at hclr
        clear hall hlen hR7 hG7 hml
        go_wp2
        go_returns
        exact ⟨by rw [Hlen.out]; rfl, by rw [Hlen.out]; exact HR7.out, HG7.out⟩
end Go.Proofs.Ytehbikofoidjhaa
