/-
  Places, procedures: the walks of audit.sameLoc, acreageref23.Same.
-/
import Derived.Test.YteibnignjghedaaAudI
namespace Go.Proofs.Yteibnignjghedaa
open Go.RowKit Go.Sort

def LocI.v (c : LocI) : Value := .agg c.l.toArray
/-- do two places say the same? -/
def sameLc (a b : LocI) : Bool := decide (a.gr = b.gr) && decide (a.lo = b.lo) && decide (a.hi = b.hi) && decide (a.ep = b.ep) && decide (a.nd = b.nd)
theorem str_ne {a b : ByteArray} (h : ¬ a = b) : ¬ a.toList = b.toList ∧ (a.toList == b.toList) = false := ⟨fun e => h ((strI a b).1 e), by rw [strB]; simpa using h⟩

set_option maxRecDepth 100000 in
set_option maxHeartbeats 4000000 in
theorem lsame_any (a b : LocI) (w : World) (h : Ints w a.na a.nn a.nc a.nd) (h2 : Ints w b.na b.nn b.nc b.nd) :
    Calls Try.prog 44 #[a.v, b.v] w fun e w' => e = .returned (.bool (sameLc a b)) ∧ Below w.heap.size w w' := by
  obtain ⟨R, hR⟩ : ∃ R, R = sameLc a b := ⟨_, rfl⟩
  rw [← hR]
  have KI := Lib.hid fun (W : World) (hb : Below w.heap.size w W) => eqints_any a.na b.na a.nn a.nc b.nn b.nc a.nd b.nd W (h.below hb) (h2.below hb)
  obtain ⟨M, hM⟩ : ∃ M : Bool, M = decide (a.nd = b.nd) := ⟨_, rfl⟩
  have HR : Hid (R = (decide (a.gr = b.gr) && decide (a.lo = b.lo) && decide (a.hi = b.hi) && decide (a.ep = b.ep) && M)) := Lib.hid (by rw [hR, hM, sameLc])
  rw [← hM] at KI
  clear hR hM h h2
  obtain ⟨g1, l1, u1, e1, n1, m1, k1, d1⟩ := a
  obtain ⟨g2, l2, u2, e2, n2, m2, k2, d2⟩ := b
  simp only [LocI.v, LocI.l]
  simp only at KI HR
  go_enter Try.func44, Try.ntmps44
  by_cases h1 : g1 = g2
  · subst h1
    by_cases h2 : l1 = l2
    · subst h2
      by_cases h3 : u1 = u2
      · subst h3
        by_cases h4 : e1 = e2
        · subst h4
          have hRf : Hid (R = M) := Lib.hid (by rw [HR.out]; simp)
          clear HR
          go_wp2_with (go_at_call 62; refine (KI.out _ (by go_grown)).mono ?_; rintro e w1 ⟨rfl, hb⟩)
          go_returns
          exact ⟨by rw [hRf.out]; rfl, Below.trans (by go_grown) (hb.mono (by go_size))⟩
        · have hRf : Hid (R = false) := Lib.hid (by rw [HR.out]; simp [h4])
          have t4 : (e1 == e2) = false := by simpa using h4
          clear h4
          go_wp2_with fail
          go_returns
          exact ⟨by rw [hRf.out]; rfl, by go_grown⟩
      · have hRf : Hid (R = false) := Lib.hid (by rw [HR.out]; simp [h3])
        have t3 := str_ne h3
        obtain ⟨t3, t4⟩ := t3
        go_wp2_with fail
        go_returns
        exact ⟨by rw [hRf.out]; rfl, by go_grown⟩
    · have hRf : Hid (R = false) := Lib.hid (by rw [HR.out]; simp [h2])
      have t3 := str_ne h2
      obtain ⟨t3, t4⟩ := t3
      go_wp2_with fail
      go_returns
      exact ⟨by rw [hRf.out]; rfl, by go_grown⟩
  · have hRf : Hid (R = false) := Lib.hid (by rw [HR.out]; simp [h1])
    have t4 : (g1 == g2) = false := by simpa using h1
    clear h1
    go_wp2_with fail
    go_returns
    exact ⟨by rw [hRf.out]; rfl, by go_grown⟩

set_option maxRecDepth 100000 in
set_option maxHeartbeats 4000000 in
theorem rlsame_any (a b : LocI) (w : World) (h : Ints w a.na a.nn a.nc a.nd) (h2 : Ints w b.na b.nn b.nc b.nd) :
    Calls Try.prog 68 #[a.v, b.v] w fun e w' => e = .returned (.bool (sameLc a b)) ∧ Below w.heap.size w w' := by
  obtain ⟨R, hR⟩ : ∃ R, R = sameLc a b := ⟨_, rfl⟩
  rw [← hR]
  obtain ⟨M, hM⟩ : ∃ M : Bool, M = decide (a.nd = b.nd) := ⟨_, rfl⟩
  have HR : Hid (R = (decide (a.gr = b.gr) && decide (a.lo = b.lo) && decide (a.hi = b.hi) && decide (a.ep = b.ep) && M)) := Lib.hid (by rw [hR, hM, sameLc])
  have HM := Lib.hid hM
  have hc1 := Arr.fits h
  have hc2 := Arr.max h
  have hc3 := Arr.fits h2
  have hc4 := Arr.max h2
  unfold maxLen at hc2 hc4
  have Hl := Lib.hid h.len
  have Hl2 := Lib.hid h2.len
  have H := Lib.hid h
  have H2 := Lib.hid h2
  clear hR hM h h2
  obtain ⟨g1, l1, u1, e1, n1, m1, k1, d1⟩ := a
  obtain ⟨g2, l2, u2, e2, n2, m2, k2, d2⟩ := b
  simp only [LocI.v, LocI.l]
  simp only at HR HM Hl Hl2 H H2 hc1 hc2 hc3 hc4
  go_enter Try.func68, Try.ntmps68
  by_cases h1 : g1 = g2
  · subst h1
    by_cases h2 : l1 = l2
    · subst h2
      by_cases h3 : u1 = u2
      · subst h3
        by_cases h4 : e1 = e2
        · subst h4
          have hRM : Hid (R = M) := Lib.hid (by rw [HR.out]; simp)
          clear HR
          by_cases h5 : m1 = m2
          · subst h5
            go_wp2
            go_loopw [5] (fun i wr => ∃ k : Nat, k ≤ m1 ∧ i = .int .i64 k ∧ Hid (d1.take k = d2.take k) ∧ Below w.heap.size w wr ∧ w.heap.size + 1 < wr.heap.size ∧ wr.cell? ⟨w.heap.size, 4, none⟩ = some (.slice n1 m1 k1) ∧ wr.cell? ⟨w.heap.size + 1, 4, none⟩ = some (.slice n2 m1 k2)) (fun i _ => m1 - (intOf i).toNat)
            case atStart => exact ⟨0, by omega, rfl, Lib.hid rfl, by go_grown, by go_size, by go_simp, by go_simp⟩
            case round =>
              obtain ⟨k, hk, rfl, hT, hB0, hzl, p4, q4⟩ := hrel
              have hzr := hB0.size
              by_cases hlt : k < m1
              · obtain ⟨x, hx⟩ : ∃ x, d1[k]? = some x := ⟨_, List.getElem?_eq_getElem (by rw [Hl.out]; omega)⟩
                obtain ⟨y, hy⟩ : ∃ y, d2[k]? = some y := ⟨_, List.getElem?_eq_getElem (by rw [Hl2.out]; omega)⟩
                obtain ⟨b, off, e0, hb, x0⟩ := (H.out.below hB0).at_ hx
                cases e0
                obtain ⟨b2, off2, e0, hb2, y0⟩ := (H2.out.below hB0).at_ hy
                cases e0
                have Hx := Lib.hid hx
                have Hy := Lib.hid hy
                have hw0 : w.heap.size < wr.heap.size := by omega
                clear hx hy
                go_wp2
                refine wp_region_below (by kernel_rfl) (by kernel_rfl) (fun hkept => ?_)
                obtain ⟨r0, rf0⟩ := hkept (w.heap.size) (by go_size); obtain ⟨r1, rf1⟩ := hkept (w.heap.size + 1) (by go_size); obtain ⟨r2, rf2⟩ := hkept (b) (by go_size); obtain ⟨r3, rf3⟩ := hkept (b2) (by go_size); clear hkept
                repeat (any_goals (first | go_big_quiet_step (fail) | quiet_step (fail) | (refine wpQuiet_step (fun K hK => ?_); go_simp; split <;> (refine hK _ ?_; clear hK K))))
                all_goals (refine wpQuiet_nil ?_; intro w5 hb; obtain ⟨hB, hS, hk⟩ := after (B := wr.heap.size) (w := wr) (by go_grown) (by go_size) hb; obtain ⟨c0, f0, z0⟩ := hk (w.heap.size) (by go_size); obtain ⟨c1, f1, z1⟩ := hk (w.heap.size + 1) (by go_size); obtain ⟨c2, f2, z2⟩ := hk (b) (by go_size); obtain ⟨c3, f3, z3⟩ := hk (b2) (by go_size); clear hk hb r0 rf0 r1 rf1 r2 rf2 r3 rf3)
                by_cases hxy : x = y
                · subst hxy
                  have hT2 : Hid (d1.take (k + 1) = d2.take (k + 1)) := Lib.hid (by rw [List.take_add_one, List.take_add_one, hT.out, Hx.out, Hy.out])
                  go_wp2
                  exact ⟨⟨k + 1, by omega, by go_num, hT2, hB0.trans (hB.mono hzr), by omega, by rw [c0]; exact p4, by rw [c1]; exact q4⟩, by simp [intOf]; omega⟩
                · have hRf : Hid (R = false) := Lib.hid (by
                    rw [hRM.out, HM.out, decide_eq_false_iff_not]
                    intro e
                    have := Hx.out
                    rw [e, Hy.out] at this
                    exact hxy (Option.some.inj this).symm)
                  have hxy1 : (x != y) = true := by simpa using hxy
                  go_wp2
                  go_returns
                  exact ⟨by rw [hRf.out]; rfl, hB0.trans (hB.mono hzr)⟩
              · obtain rfl : k = m1 := by omega
                have hRt : Hid (R = true) := Lib.hid (by
                  have := hT.out
                  rw [List.take_of_length_le (by rw [Hl.out]; exact Nat.le_refl _), List.take_of_length_le (by rw [Hl2.out]; exact Nat.le_refl _)] at this
                  rw [hRM.out, HM.out, this]; simp)
                go_wp2
                go_returns
                exact ⟨by rw [hRt.out]; rfl, hB0⟩
          · have hRf : Hid (R = false) := Lib.hid (by
              rw [hRM.out, HM.out, decide_eq_false_iff_not]
              intro e
              have h1 := Hl.out
              rw [e, Hl2.out] at h1
              exact h5 h1.symm)
            have t5 : ((m1 : Int) != (m2 : Int)) = true := by rw [bne_iff_ne]; omega
            go_wp2_with fail
            go_returns
            exact ⟨by rw [hRf.out]; rfl, by go_grown⟩
        · have hRf : Hid (R = false) := Lib.hid (by rw [HR.out]; simp [h4])
          have t4 : (e1 != e2) = true := by simpa using h4
          clear h4
          go_wp2_with fail
          go_returns
          exact ⟨by rw [hRf.out]; rfl, by go_grown⟩
      · have hRf : Hid (R = false) := Lib.hid (by rw [HR.out]; simp [h3])
        have t3 := str_ne h3
        obtain ⟨t3, t4⟩ := t3
        go_wp2_with fail
        go_returns
        exact ⟨by rw [hRf.out]; rfl, by go_grown⟩
    · have hRf : Hid (R = false) := Lib.hid (by rw [HR.out]; simp [h2])
      have t3 := str_ne h2
      obtain ⟨t3, t4⟩ := t3
      go_wp2_with fail
      go_returns
      exact ⟨by rw [hRf.out]; rfl, by go_grown⟩
  · have hRf : Hid (R = false) := Lib.hid (by rw [HR.out]; simp [h1])
    have t4 : (g1 != g2) = true := by simpa using h1
    clear h1
    go_wp2_with fail
    go_returns
    exact ⟨by rw [hRf.out]; rfl, by go_grown⟩
end Go.Proofs.Yteibnignjghedaa

/-
  Lists of procedures, of places: the walks of slices.Equal, slices.EqualFunc at them.
-/
namespace Go.Proofs.Yteibnignjghedaa
open Go.RowKit Go.Sort

def ProcA.v (p : ProcA) : Value := .agg p.l.toArray
set_option maxRecDepth 100000 in
set_option maxHeartbeats 4000000 in
theorem proc_ne (a b : ProcA) (w : World) : (binOp .neq 93 a.v b.v).run Try.prog w = .ok (.bool (open Classical in !decide (a = b))) w := by
  obtain ⟨a0, a1, a2, a3, a4, a5, a6, a7, a8⟩ := a
  obtain ⟨b0, b1, b2, b3, b4, b5, b6, b7, b8⟩ := b
  simp only [ProcA.v, ProcA.l]
  go_simp
  simp only [strI]
  by_cases h : a0 = b0
  case neg => simp [h]
  subst h
  by_cases h : a1 = b1
  case neg => simp [h]
  subst h
  by_cases h : a2 = b2
  case neg => simp [h]
  subst h
  by_cases h : a3 = b3
  case neg => simp [h]
  subst h
  by_cases h : a4 = b4
  case neg => simp [h]
  subst h
  by_cases h : a5 = b5
  case neg => simp [h]
  subst h
  by_cases h : a6 = b6
  case neg => simp [h]
  subst h
  by_cases h : a7 = b7
  case neg => simp [h]
  subst h
  by_cases h : a8 = b8
  case neg => simp [h]
  subst h
  simp
def ProcAt (w : World) (b o : Nat) (s : ProcA) : Prop := w.rangeAt b o s.l
section
variable {w w' : World} {b o : Nat} {s : ProcA}
theorem ProcAt.lt (h : ProcAt w b o s) : b < w.heap.size := World.block_lt_of_cell? _ _ (h 0 _ rfl)
theorem ProcAt.same (h : ProcAt w b o s) (hs : w'.heap[b]? = w.heap[b]?) : ProcAt w' b o s := fun j v hv => (World.cell?_of_block (a := ⟨b, o + j, none⟩) hs).trans (h j v hv)
theorem ProcAt.below (h : ProcAt w b o s) (hb : Below w.heap.size w w') : ProcAt w' b o s := h.same (hb.block b h.lt)
theorem ProcAt.load (h : ProcAt w b o s) : (Instr.loadAt 93 (.pointer (some ⟨b, o, none⟩))).run Try.prog w = .ok (.agg s.l.toArray) w :=
  run_loadAt_mid w b o 93 s.l _ h Try.underlying93 rfl (by kernel_rfl)
theorem ProcAt.regrown (h : ProcAt w b o s) (d : Nat) (os : Array Obj) : (Instr.loadAt 93 (.pointer (some ⟨b, o, none⟩))).run Try.prog (grow (redrawn w d) os) = .ok (.agg s.l.toArray) (grow (redrawn w d) os) := (h.below (below_regrown w d os)).load
theorem procs_at {ao : Option Addr} {n cap : Nat} {ps : List ProcA} (h : Arr w 9 ao n cap (ps.map ProcA.l)) {i : Nat} {p : ProcA} (hp : ps[i]? = some p) : ∃ b off, ao = some ⟨b, off, none⟩ ∧ b < w.heap.size ∧ ProcAt w b (off + i * 9) p := by
  obtain ⟨b, off, e1, hb, hc⟩ := Arr.at_ h (i := i) (e := p.l) (by rw [List.getElem?_map, hp]; rfl)
  exact ⟨b, off, e1, hb, fun j v hv => hc j v hv⟩
end
theorem procs_len {w : World} {ao : Option Addr} {n cap : Nat} {ps : List ProcA} (h : Arr w 9 ao n cap (ps.map ProcA.l)) : ps.length = n := by have := Arr.len h; rwa [List.length_map] at this
theorem locs_len {w : World} {ao : Option Addr} {n cap : Nat} {ls : List LocI} (h : LocsI w ao n cap ls) : ls.length = n := by have := Arr.len h.arr; rwa [List.length_map] at this
noncomputable def sameP (l l2 : List ProcA) : Bool := open Classical in decide (l = l2)

set_option maxRecDepth 100000 in
set_option maxHeartbeats 4000000 in
theorem eqprocs_any (ao ao2 : Option Addr) (n cap n2 cap2 : Nat) (l l2 : List ProcA) (w : World) (h : Arr w 9 ao n cap (l.map ProcA.l)) (h2 : Arr w 9 ao2 n2 cap2 (l2.map ProcA.l)) :
    Calls Try.prog 42 #[.slice ao n cap, .slice ao2 n2 cap2] w fun e w' => e = .returned (.bool (sameP l l2)) ∧ Below w.heap.size w w' := by
  have hc1 := Arr.fits h
  have hc2 := Arr.max h
  have hc3 := Arr.fits h2
  have hc4 := Arr.max h2
  unfold maxLen at hc2 hc4
  have Hl := Lib.hid (procs_len h)
  have Hl2 := Lib.hid (procs_len h2)
  have H := Lib.hid h
  have H2 := Lib.hid h2
  obtain ⟨R, hR⟩ : ∃ R, R = sameP l l2 := ⟨_, rfl⟩
  rw [← hR]
  have HR := Lib.hid hR
  clear h h2 hR
  by_cases hne : n = n2
  · subst hne
    have t1 : ((n : Int) == (n : Int)) = true := by simp
    go_enter Try.func42, Try.ntmps42
    go_wp2
    go_loopw [13] (fun i wr => ∃ k : Nat, k ≤ n ∧ i = .int .i64 k ∧ Hid (l.take k = l2.take k) ∧ Below w.heap.size w wr) (fun i _ => n - (intOf i).toNat)
    case atStart => exact ⟨0, by omega, rfl, Lib.hid rfl, Below.refl _ _⟩
    case round =>
      obtain ⟨k, hk, rfl, hT, hB0⟩ := hrel
      have hzr := hB0.size
      by_cases hlt : k < n
      · obtain ⟨x, hx⟩ : ∃ x, l[k]? = some x := ⟨_, List.getElem?_eq_getElem (by rw [Hl.out]; omega)⟩
        obtain ⟨y, hy⟩ : ∃ y, l2[k]? = some y := ⟨_, List.getElem?_eq_getElem (by rw [Hl2.out]; omega)⟩
        obtain ⟨b, off, e0, hb, x0⟩ := procs_at (H.out.below hB0) hx
        cases e0
        obtain ⟨b2, off2, e0, hb2, y0⟩ := procs_at (H2.out.below hB0) hy
        cases e0
        have Hx := Lib.hid hx
        have Hy := Lib.hid hy
        have HLx := Lib.hid x0.regrown
        have HLy := Lib.hid y0.regrown
        obtain ⟨N, hN⟩ : ∃ N : Bool, N = (open Classical in !decide (x = y)) := ⟨_, rfl⟩
        have KC := fun W => proc_ne x y W
        rw [← hN] at KC
        have HN := Lib.hid hN
        simp only [ProcA.v] at KC
        clear hx hy x0 y0 hN
        go_wp2
        refine wp_region_below (by kernel_rfl) (by kernel_rfl) (fun hkept => ?_)
        obtain ⟨r0, rf0⟩ := hkept (b) (by go_size); obtain ⟨r1, rf1⟩ := hkept (b2) (by go_size); clear hkept
        repeat (any_goals (first | go_big_quiet_skip | (refine wpQuiet_loadR (HLx.out) rfl rfl (by rfl) ?_; simp only [Act.put, List.setIfInBounds_toArray, List.set_cons_succ, List.set_cons_zero]) | (refine wpQuiet_loadR (HLy.out) rfl rfl (by rfl) ?_; simp only [Act.put, List.setIfInBounds_toArray, List.set_cons_succ, List.set_cons_zero]) | go_big_quiet_step (fail) | quiet_step (fail) | (refine wpQuiet_step (fun K hK => ?_); go_simp; split <;> (refine hK _ ?_; clear hK K))))
        all_goals (refine wpQuiet_nil ?_; intro w5 hb; obtain ⟨hB, hS, hk⟩ := after (B := wr.heap.size) (w := wr) (by go_grown) (by go_size) hb; obtain ⟨c0, f0, z0⟩ := hk (b) (by go_size); obtain ⟨c1, f1, z1⟩ := hk (b2) (by go_size); clear hk hb r0 rf0 r1 rf1)
        cases N
        · have hxy : x = y := by have := HN.out; simpa using this
          have hT2 : Hid (l.take (k + 1) = l2.take (k + 1)) := Lib.hid (by rw [List.take_add_one, List.take_add_one, hT.out, Hx.out, Hy.out, hxy])
          go_wp2
          exact ⟨⟨k + 1, by omega, by go_num, hT2, hB0.trans (hB.mono hzr)⟩, by simp [intOf]; omega⟩
        · have hRf : Hid (R = false) := Lib.hid (by
            rw [HR.out, sameP, decide_eq_false_iff_not]
            intro e
            have := Hx.out
            rw [e, Hy.out] at this
            have hxy := HN.out
            simp at hxy
            exact hxy (Option.some.inj this).symm)
          go_wp2
          go_returns
          exact ⟨by rw [hRf.out]; rfl, hB0.trans (hB.mono hzr)⟩
      · obtain rfl : k = n := by omega
        have hRt : Hid (R = true) := Lib.hid (by
          have := hT.out
          rw [List.take_of_length_le (by rw [Hl.out]; exact Nat.le_refl _), List.take_of_length_le (by rw [Hl2.out]; exact Nat.le_refl _)] at this
          rw [HR.out, sameP, this]; simp)
        go_wp2
        go_returns
        exact ⟨by rw [hRt.out]; rfl, hB0⟩
  · have t1 : ((n : Int) == (n2 : Int)) = false := by rw [beq_eq_false_iff_ne]; omega
    have hRf : Hid (R = false) := Lib.hid (by
      rw [HR.out, sameP, decide_eq_false_iff_not]
      intro e
      have h1 := Hl.out
      rw [e, Hl2.out] at h1
      exact hne h1.symm)
    go_enter Try.func42, Try.ntmps42
    go_wp2
    go_returns
    exact ⟨by rw [hRf.out]; rfl, by go_grown⟩

/-- what a place says -/
def LocI.says (c : LocI) : Int × ByteArray × ByteArray × Int × List Int := (c.gr, c.lo, c.hi, c.ep, c.nd)
theorem sameLc_says (a b : LocI) : sameLc a b = decide (a.says = b.says) := by
  rw [Bool.eq_iff_iff]
  simp only [sameLc, LocI.says, Bool.and_eq_true, decide_eq_true_eq, Prod.mk.injEq, and_assoc]
def sameLs (l l2 : List LocI) : Bool := decide (l.map LocI.says = l2.map LocI.says)

set_option maxRecDepth 100000 in
set_option maxHeartbeats 4000000 in
theorem eqlocs_any (ao ao2 : Option Addr) (n cap n2 cap2 : Nat) (l l2 : List LocI) (w : World) (h : LocsI w ao n cap l) (h2 : LocsI w ao2 n2 cap2 l2) :
    Calls Try.prog 43 #[.slice ao n cap, .slice ao2 n2 cap2, .func (.func 44) #[] #[]] w fun e w' => e = .returned (.bool (sameLs l l2)) ∧ Below w.heap.size w w' := by
  have hc1 := Arr.fits h.arr
  have hc2 := Arr.max h.arr
  have hc3 := Arr.fits h2.arr
  have hc4 := Arr.max h2.arr
  unfold maxLen at hc2 hc4
  have Hl := Lib.hid (locs_len h)
  have Hl2 := Lib.hid (locs_len h2)
  have H := Lib.hid h
  have H2 := Lib.hid h2
  obtain ⟨R, hR⟩ : ∃ R, R = sameLs l l2 := ⟨_, rfl⟩
  rw [← hR]
  have HR := Lib.hid hR
  clear h h2 hR
  by_cases hne : n = n2
  · subst hne
    have t1 : ((n : Int) != (n : Int)) = false := by simp
    go_enter Try.func43, Try.ntmps43
    go_wp2
    go_loopw [17] (fun i wr => ∃ k : Nat, k ≤ n ∧ i = .int .i64 k ∧ Hid ((l.map LocI.says).take k = (l2.map LocI.says).take k) ∧ Below w.heap.size w wr) (fun i _ => n - (intOf i).toNat)
    case atStart => exact ⟨0, by omega, rfl, Lib.hid rfl, Below.refl _ _⟩
    case round =>
      obtain ⟨k, hk, rfl, hT, hB0⟩ := hrel
      have hzr := hB0.size
      by_cases hlt : k < n
      · obtain ⟨x, hx⟩ : ∃ x, l[k]? = some x := ⟨_, List.getElem?_eq_getElem (by rw [Hl.out]; omega)⟩
        obtain ⟨y, hy⟩ : ∃ y, l2[k]? = some y := ⟨_, List.getElem?_eq_getElem (by rw [Hl2.out]; omega)⟩
        obtain ⟨b, off, e0, hb, x0⟩ := Arr.at_ (H.out.below hB0).arr (i := k) (e := x.l) (by rw [List.getElem?_map, hx]; rfl)
        cases e0
        obtain ⟨b2, off2, e0, hb2, y0⟩ := Arr.at_ (H2.out.below hB0).arr (i := k) (e := y.l) (by rw [List.getElem?_map, hy]; rfl)
        cases e0
        have hxs : (l.map LocI.says)[k]? = some x.says := by rw [List.getElem?_map, hx]; rfl
        have hys : (l2.map LocI.says)[k]? = some y.says := by rw [List.getElem?_map, hy]; rfl
        have Hx := Lib.hid hxs
        have Hy := Lib.hid hys
        have KL := Lib.hid fun (V : World) (hV : Below wr.heap.size wr V) => lsame_any x y V ((((H.out.below hB0).nd x (List.mem_of_getElem? hx))).below hV) ((((H2.out.below hB0).nd y (List.mem_of_getElem? hy))).below hV)
        rw [sameLc_says] at KL
        obtain ⟨N, hN⟩ : ∃ N, N = decide (x.says = y.says) := ⟨_, rfl⟩
        have HN := Lib.hid hN
        have KL := Lib.hid fun (V : World) (hV : Below wr.heap.size wr V) => KL.out V hV
        simp only [← hN] at KL
        obtain ⟨g1, l1, u1, e1, n1, m1, k1, d1⟩ := x
        obtain ⟨g2, l2', u2, e2, n2, m2, k2, d2⟩ := y
        simp only [LocI.v, LocI.l] at KL x0 y0
        have p0 := x0 0 _ rfl
        have p1 := x0 1 _ rfl
        have p2 := x0 2 _ rfl
        have p3 := x0 3 _ rfl
        have p4 := x0 4 _ rfl
        have q0 := y0 0 _ rfl
        have q1 := y0 1 _ rfl
        have q2 := y0 2 _ rfl
        have q3 := y0 3 _ rfl
        have q4 := y0 4 _ rfl
        simp only [Nat.add_zero] at p0 q0
        clear hx hy x0 y0 hN hxs hys
        have hbn : ¬ b2 = wr.heap.size := by omega
        cases N
        · have hRf : Hid (R = false) := Lib.hid (by
            rw [HR.out, sameLs, decide_eq_false_iff_not]
            intro e
            have h9 := Hx.out
            rw [e, Hy.out] at h9
            have hxy := HN.out
            rw [eq_comm, decide_eq_false_iff_not] at hxy
            exact hxy (Option.some.inj h9).symm)
          go_wp2_with (go_at_call 44; refine (KL.out _ (by go_grown)).mono ?_; rintro e w5 ⟨rfl, hb5⟩; have HB5 := Lib.hid (Below.trans (by go_grown : Below wr.heap.size wr _) (hb5.mono (by go_size))); clear hb5)
          go_returns
          exact ⟨by rw [hRf.out]; rfl, hB0.trans (HB5.out.mono hzr)⟩
        · have hT2 : Hid ((l.map LocI.says).take (k + 1) = (l2.map LocI.says).take (k + 1)) := Lib.hid (by
            have hxy := HN.out
            rw [eq_comm, decide_eq_true_eq] at hxy
            rw [List.take_add_one, List.take_add_one, hT.out, Hx.out, Hy.out, hxy])
          go_wp2_with (go_at_call 44; refine (KL.out _ (by go_grown)).mono ?_; rintro e w5 ⟨rfl, hb5⟩; have HB5 := Lib.hid (Below.trans (by go_grown : Below wr.heap.size wr _) (hb5.mono (by go_size))); clear hb5)
          exact ⟨⟨k + 1, by omega, by go_num, hT2, hB0.trans (HB5.out.mono hzr)⟩, by simp [intOf]; omega⟩
      · obtain rfl : k = n := by omega
        have hRt : Hid (R = true) := Lib.hid (by
          have := hT.out
          rw [List.take_of_length_le (by rw [List.length_map, Hl.out]; exact Nat.le_refl _), List.take_of_length_le (by rw [List.length_map, Hl2.out]; exact Nat.le_refl _)] at this
          rw [HR.out, sameLs, this]; simp)
        go_wp2
        go_returns
        exact ⟨by rw [hRt.out]; rfl, hB0⟩
  · have t1 : ((n : Int) != (n2 : Int)) = true := by rw [bne_iff_ne]; omega
    have hRf : Hid (R = false) := Lib.hid (by
      rw [HR.out, sameLs, decide_eq_false_iff_not]
      intro e
      have h1 := congrArg List.length e
      rw [List.length_map, List.length_map, Hl.out, Hl2.out] at h1
      exact hne h1)
    go_enter Try.func43, Try.ntmps43
    go_wp2
    go_returns
    exact ⟨by rw [hRf.out]; rfl, by go_grown⟩
end Go.Proofs.Yteibnignjghedaa
