/-
  The walks of cells.Sort and cells.Newest on fewer than twenty cells; of same.
-/
import Derived.Test.YtehbikofoidjhaaCompactW
import Derived.Laws.EntriesVeiled
namespace Go.Proofs.Ytehbikofoidjhaa
open Go.RowKit Go.Sort

theorem sortStable_nil (gb : Nat) (w : World) :
    Calls Try.prog 47 #[.slice none 0 0, .func (.func 62) #[] #[.pointer (some ⟨gb, 0, none⟩)]] w
      fun e w' => e = .returned (.tuple #[]) ∧ w = w' := by
  have hins : ∀ w, Calls Try.prog 68 #[.slice none 0 0, .int .i64 0, .int .i64 0, .func (.func 62) #[] #[.pointer (some ⟨gb, 0, none⟩)]] w fun e w' => e = .returned (.tuple #[]) ∧ w = w' := by
    intro w
    go_enter Try.func68, Try.ntmps68
    go_wp2
    refine wp_loop_rounds 1 ?_
    rw [rounds_succ]
    go_wp2
    go_returns
    exact ⟨rfl, rfl⟩
  have Hins := Lib.hid hins
  clear hins
  have hst : ∀ w, Calls Try.prog 63 #[.slice none 0 0, .int .i64 0, .func (.func 62) #[] #[.pointer (some ⟨gb, 0, none⟩)]] w fun e w' => e = .returned (.tuple #[]) ∧ w = w' := by
    intro w
    go_enter Try.func63, Try.ntmps63
    go_wp2
    refine wp_loop_rounds 1 ?_
    rw [rounds_succ]
    go_wp2_with (go_at_call 68; refine (Hins.out _).mono ?_; rintro e w' ⟨rfl, rfl⟩)
    refine wp_loop_rounds 1 ?_
    rw [rounds_succ]
    go_wp2
    go_returns
    exact ⟨rfl, rfl⟩
  have Hst := Lib.hid hst
  clear hst Hins
  go_enter Try.func47, Try.ntmps47
  go_wp2_with (go_at_call 63; refine (Hst.out _).mono ?_; rintro e w' ⟨rfl, rfl⟩)
  go_returns
  exact ⟨rfl, rfl⟩

theorem compact_nil (f : Value) (w : World) :
    Calls Try.prog 48 #[.slice none 0 0, f] w fun e w' => e = .returned (.slice none 0 0) ∧ w = w' := by
  go_enter Try.func48, Try.ntmps48
  go_wp2
  go_returns
  exact ⟨rfl, rfl⟩

theorem chain_any (ao : Option Addr) (w : World) : Calls Try.prog 46 #[.slice ao 1 1] w fun e w' => e = .returned (.func (.func 62) #[] #[.pointer (some ⟨w.heap.size, 0, none⟩)]) ∧ w' = w.alloc (.cells #[.slice ao 1 1] 72) := by
  go_enter Try.func46, Try.ntmps46
  go_wp2
  go_returns
  exact ⟨rfl, rfl⟩
def sortL (l : List CellA) : List CellA := compactL sameK (isort l)
def newestL (l : List CellA) : List CellA := compactL samePl (sortL l)
theorem sortL_len (l : List CellA) : (sortL l).length ≤ l.length := by
  have := compactL_len sameK (isort l)
  rw [isort_len] at this
  exact this

/-- a row of the call's own that holds cells -/
def Own (w : World) (B : Nat) (v : Value) (cs : List CellA) : Prop := Row w B 37 5 v cs.length (cs.map cellE).flatten
theorem Own.below {w w' : World} {B : Nat} {v : Value} {cs : List CellA} (h : Own w B v cs) (hb : Below w.heap.size w w') : Own w' B v cs := Row.below h hb
theorem Own.cells {w : World} {B : Nat} {v : Value} {cs : List CellA} (h : Own w B v cs) : ∃ ao cap, v = .slice ao cs.length cap ∧ Cells w ao cs.length cap cs := by
  have := Row.arr (es := cs.map cellE) (by decide) (by rw [List.length_map]; exact h) (cellE_elems cs)
  rwa [List.length_map] at this

theorem keep_below {B : Nat} {W wr : World} (h : Below B W wr) (b : Nat) (hb : b < B) : (∀ o, wr.cell? ⟨b, o, none⟩ = W.cell? ⟨b, o, none⟩) ∧ (∀ o, wr.frozen? ⟨b, o, none⟩ = W.frozen? ⟨b, o, none⟩) :=
  ⟨fun o => h.cell (p := ⟨b, o, none⟩) hb, fun o => h.frozen (p := ⟨b, o, none⟩) hb⟩

theorem sort_small (ao : Option Addr) (n cap : Nat) (cs : List CellA) (w : World) (h : Cells w ao n cap cs) (hle : n < 20) :
    Calls Try.prog 25 #[.slice ao n cap] w fun e w' => ∃ v, e = .returned v ∧ Own w' w.heap.size v (sortL cs) ∧ Below w.heap.size w w' := by
  have hl := h.len
  have Hcl := Lib.hid (clone_any ao n cap cs w h (by omega))
  have Hl := Lib.hid hl
  clear h hl
  go_enter Try.func25, Try.ntmps25
  go_wp2_with fail
  refine Hcl.out.mono ?_
  rintro e w1 ⟨v, rfl, hr, hb⟩
  have hz1 := hb.size
  have Hr := Lib.hid hr
  rcases hr.form with ⟨rfl, h0⟩ | ⟨g, cp, rfl, hg1, hg2, hg3, hg4⟩
  · have h0' : cs = [] := List.eq_nil_of_length_eq_zero (by rw [Hl.out]; exact h0)
    clear hr
    go_wp2_with (first | (go_at_call 46; refine (chain_any _ _).mono ?_; rintro e w' ⟨rfl, rfl⟩) | (go_at_call 47; refine (sortStable_nil _ _).mono ?_; rintro e w' ⟨rfl, rfl⟩) | (go_at_call 48; refine (compact_nil _ _).mono ?_; rintro e w' ⟨rfl, rfl⟩))
    go_returns
    subst h0'
    exact ⟨_, rfl, Row.nil _ _ _ _, by go_grown⟩
  · clear hr
    go_wp2_with (first
      | (go_at_call 46; refine (chain_any _ _).mono ?_; rintro e w' ⟨rfl, rfl⟩)
      | (go_at_call 47; refine (sortStable_small cs g cp n (w1.heap.size + 1) w1.heap.size w.heap.size _ Hl.out hle (by exact ((Hr.out.alloc _).alloc _).alloc _) ⟨by go_simp, by go_simp, by go_size, by go_size⟩ (by omega) (by omega)).mono ?_; rintro e w2 ⟨rfl, hr2, hgr2⟩; have Hr2 := Lib.hid hr2; have HI2 : Hid (IS (w1.heap.size + 1 + 1) (w1.heap.size + 1) w1.heap.size g w2) := Lib.hid (IS.grown ⟨⟨by go_simp, by go_size, ⟨by go_simp, by go_simp, by go_size, by go_size⟩⟩, by omega, by omega, by omega⟩ hgr2); have hB2 : Below w.heap.size w w2 := Below.grown (by go_grown) hgr2 (by go_size) (fun k e => by cases e; exact hg1); clear hr2 hgr2)
      | (go_at_call 48; refine (compactS_any (isort cs) g cp n w.heap.size _ _ _ _ (by rw [isort_len]; exact Hl.out) Hr2.out HI2.out (by omega)).mono ?_; rintro e w3 ⟨rfl, hr3, hgr3⟩; have Hr3 := Lib.hid hr3; have hB3 : Below w.heap.size w w3 := hB2.grown hgr3 hB2.size (fun k e => by cases e; exact hg1); clear hr3 hgr3))
    go_returns
    exact ⟨_, rfl, Hr3.out, hB3⟩

theorem newest_small (ao : Option Addr) (n cap : Nat) (cs : List CellA) (w : World) (h : Cells w ao n cap cs) (hle : n < 20) :
    Calls Try.prog 28 #[.slice ao n cap] w fun e w' => ∃ v, e = .returned v ∧ Own w' w.heap.size v (newestL cs) ∧ Below w.heap.size w w' := by
  have hl := h.len
  have Hs := Lib.hid (sort_small ao n cap cs w h hle)
  have hsl := sortL_len cs
  clear h
  go_enter Try.func28, Try.ntmps28
  go_wp2_with fail
  refine Hs.out.mono ?_
  rintro e w1 ⟨v, rfl, hr, hb⟩
  have hz1 := hb.size
  have Hr := Lib.hid hr
  rcases Row.form hr with ⟨rfl, h0⟩ | ⟨g, cp, rfl, hg1, hg2, hg3, hg4⟩
  · have h0' : sortL cs = [] := List.eq_nil_of_length_eq_zero h0
    have hn0 : newestL cs = [] := by rw [newestL, h0']; rfl
    clear hr
    go_wp2_with (first | (go_at_call 48; refine (compact_nil _ _).mono ?_; rintro e w' ⟨rfl, rfl⟩))
    go_returns
    exact ⟨_, rfl, by rw [hn0]; exact Row.nil _ _ _ _, by go_grown⟩
  · clear hr
    go_wp2_with (first
      | (go_at_call 48; refine (compactN_any (sortL cs) g cp _ w.heap.size _ rfl Hr.out trivial (by omega)).mono ?_; rintro e w3 ⟨rfl, hr3, hgr3⟩; have Hr3 := Lib.hid hr3; have hB3 : Below w.heap.size w w3 := hb.grown hgr3 hb.size (fun k e => by cases e; exact hg1); clear hr3 hgr3))
    go_returns
    exact ⟨_, rfl, Hr3.out, hB3⟩

/-! ### same -/
open Classical in
noncomputable def sameC (cs ds : List CellA) : Bool := decide (cs = ds)
theorem sameC_self (cs : List CellA) : sameC cs cs = true := by simp [sameC]
theorem CellA.ext' {x y : CellA} (h1 : x.row = y.row) (h2 : x.col = y.col) (h3 : x.ver = y.ver) (h4 : x.gone = y.gone) (h5 : x.val = y.val) : x = y := by
  cases x; cases y; simp_all
theorem ne_of {a b : ByteArray} (h : a ≠ b) : (a.toList == b.toList) = false ∧ ¬ a.toList = b.toList := by
  have : ¬ a.toList = b.toList := fun e => h (toList_inj.1 e)
  exact ⟨by simpa using this, this⟩

set_option maxRecDepth 100000 in
set_option maxHeartbeats 4000000 in
theorem rsame_any (ao ao2 : Option Addr) (n cap n2 cap2 : Nat) (cs ds : List CellA) (w : World) (h : Cells w ao n cap cs) (h2 : Cells w ao2 n2 cap2 ds) :
    Calls Try.prog 18 #[.slice ao n cap, .slice ao2 n2 cap2] w fun e w' => e = .returned (.bool (sameC cs ds)) ∧ Below w.heap.size w w' := by
  have hl := h.len
  have hl2 := h2.len
  have hc1 := Arr.fits h
  have hc2 := Arr.max h
  unfold maxLen at hc2
  by_cases hne : n = n2
  · subst hne
    have Hl := Lib.hid hl
    have Hl2 := Lib.hid hl2
    have H := Lib.hid h
    have H2 := Lib.hid h2
    clear h h2 hl hl2
    go_enter Try.func18, Try.ntmps18
    go_wp2
    go_loopw [5] (fun i wr => ∃ k : Nat, k ≤ n ∧ i = .int .i64 k ∧ Hid (cs.take k = ds.take k) ∧ Below w.heap.size w wr) (fun i _ => n - (intOf i).toNat)
    case atStart => exact ⟨0, by omega, rfl, Lib.hid rfl, Below.refl _ _⟩
    case round =>
      obtain ⟨k, hk, rfl, hE, hB0⟩ := hrel
      by_cases hlt : k < n
      · obtain ⟨x, hx⟩ : ∃ x, cs[k]? = some x := ⟨_, List.getElem?_eq_getElem (by rw [Hl.out]; omega)⟩
        obtain ⟨y, hy⟩ : ∃ y, ds[k]? = some y := ⟨_, List.getElem?_eq_getElem (by rw [Hl2.out]; omega)⟩
        obtain ⟨b, off, rfl, hb, ⟨x0, x1, x2, x3, x4⟩⟩ := Cells.at_ H.out hx
        obtain ⟨b2, off2, rfl, hb2, ⟨y0, y1, y2, y3, y4⟩⟩ := Cells.at_ H2.out hy
        obtain ⟨k0, k0f⟩ := keep_below hB0 b hb
        obtain ⟨k1, k1f⟩ := keep_below hB0 b2 hb2
        have hzr := hB0.size
        have Hx := Lib.hid hx
        have Hy := Lib.hid hy
        clear hx hy
        obtain ⟨xr, xc, xv, xg, xl⟩ := x
        obtain ⟨yr, yc, yv, yg, yl⟩ := y
        simp only at x0 x1 x2 x3 x4 y0 y1 y2 y3 y4
        have hfail : Hid ((⟨xr, xc, xv, xg, xl⟩ : CellA) ≠ ⟨yr, yc, yv, yg, yl⟩ → sameC cs ds = false) := Lib.hid (fun hn => by
          simp only [sameC, decide_eq_false_iff_not]
          intro e
          subst e
          have := Hy.out
          rw [Hx.out] at this
          exact hn (Option.some.inj this))
        by_cases e1 : xr = yr
        · by_cases e2 : xc = yc
          · by_cases e3 : xv = yv
            · by_cases e4 : xg = yg
              · by_cases e5 : xl = yl
                · subst e1 e2 e3 e4 e5
                  have hnx : Hid (cs.take (k + 1) = ds.take (k + 1)) := Lib.hid (by rw [List.take_add_one, List.take_add_one, hE.out, Hx.out, Hy.out])
                  go_wp2
                  refine wp_region_below (by kernel_rfl) (by kernel_rfl) (fun hkept => ?_)
                  obtain ⟨r0, rf0⟩ := hkept (b) (by go_size); obtain ⟨r1, rf1⟩ := hkept (b2) (by go_size); clear hkept
                  repeat (any_goals (first | go_big_quiet_step (fail) | quiet_step (fail) | (refine wpQuiet_step (fun K hK => ?_); go_simp; split <;> (refine hK _ ?_; clear hK K))))
                  all_goals (refine wpQuiet_nil ?_; intro w5 hb; obtain ⟨hB, hS, hk⟩ := after (B := w.heap.size) (w := w) (by go_grown) (by go_size) hb; obtain ⟨c0, f0, z0⟩ := hk (b) (by go_size); obtain ⟨c1, f1, z1⟩ := hk (b2) (by go_size); clear hk hb r0 rf0 r1 rf1)
                  go_wp2
                  exact ⟨⟨k + 1, by omega, by go_num, hnx, hB⟩, by simp [intOf]; omega⟩
                · obtain ⟨n1, n2⟩ := ne_of e5
                  have Hf := Lib.hid (hfail.out (fun e => e5 (congrArg CellA.val e)))
                  subst e1 e2 e3 e4
                  clear e5
                  go_wp2
                  refine wp_region_below (by kernel_rfl) (by kernel_rfl) (fun hkept => ?_)
                  obtain ⟨r0, rf0⟩ := hkept (b) (by go_size); obtain ⟨r1, rf1⟩ := hkept (b2) (by go_size); clear hkept
                  repeat (any_goals (first | go_big_quiet_step (fail) | quiet_step (fail) | (refine wpQuiet_step (fun K hK => ?_); go_simp; split <;> (refine hK _ ?_; clear hK K))))
                  all_goals (refine wpQuiet_nil ?_; intro w5 hb; obtain ⟨hB, hS, hk⟩ := after (B := w.heap.size) (w := w) (by go_grown) (by go_size) hb; obtain ⟨c0, f0, z0⟩ := hk (b) (by go_size); obtain ⟨c1, f1, z1⟩ := hk (b2) (by go_size); clear hk hb r0 rf0 r1 rf1)
                  go_wp2
                  go_returns
                  exact ⟨by rw [Hf.out]; rfl, hB⟩
              · have Hf := Lib.hid (hfail.out (fun e => e4 (congrArg CellA.gone e)))
                subst e1 e2 e3
                cases xg <;> cases yg
                · exact absurd rfl e4
                · clear e4
                  go_wp2
                  refine wp_region_below (by kernel_rfl) (by kernel_rfl) (fun hkept => ?_)
                  obtain ⟨r0, rf0⟩ := hkept (b) (by go_size); obtain ⟨r1, rf1⟩ := hkept (b2) (by go_size); clear hkept
                  repeat (any_goals (first | go_big_quiet_step (fail) | quiet_step (fail) | (refine wpQuiet_step (fun K hK => ?_); go_simp; split <;> (refine hK _ ?_; clear hK K))))
                  all_goals (refine wpQuiet_nil ?_; intro w5 hb; obtain ⟨hB, hS, hk⟩ := after (B := w.heap.size) (w := w) (by go_grown) (by go_size) hb; obtain ⟨c0, f0, z0⟩ := hk (b) (by go_size); obtain ⟨c1, f1, z1⟩ := hk (b2) (by go_size); clear hk hb r0 rf0 r1 rf1)
                  go_wp2
                  go_returns
                  exact ⟨by rw [Hf.out]; rfl, hB⟩
                · clear e4
                  go_wp2
                  refine wp_region_below (by kernel_rfl) (by kernel_rfl) (fun hkept => ?_)
                  obtain ⟨r0, rf0⟩ := hkept (b) (by go_size); obtain ⟨r1, rf1⟩ := hkept (b2) (by go_size); clear hkept
                  repeat (any_goals (first | go_big_quiet_step (fail) | quiet_step (fail) | (refine wpQuiet_step (fun K hK => ?_); go_simp; split <;> (refine hK _ ?_; clear hK K))))
                  all_goals (refine wpQuiet_nil ?_; intro w5 hb; obtain ⟨hB, hS, hk⟩ := after (B := w.heap.size) (w := w) (by go_grown) (by go_size) hb; obtain ⟨c0, f0, z0⟩ := hk (b) (by go_size); obtain ⟨c1, f1, z1⟩ := hk (b2) (by go_size); clear hk hb r0 rf0 r1 rf1)
                  go_wp2
                  go_returns
                  exact ⟨by rw [Hf.out]; rfl, hB⟩
                · exact absurd rfl e4
            · have n1 : (xv == yv) = false := by simpa using e3
              have Hf := Lib.hid (hfail.out (fun e => e3 (congrArg CellA.ver e)))
              subst e1 e2
              go_wp2
              refine wp_region_below (by kernel_rfl) (by kernel_rfl) (fun hkept => ?_)
              obtain ⟨r0, rf0⟩ := hkept (b) (by go_size); obtain ⟨r1, rf1⟩ := hkept (b2) (by go_size); clear hkept
              repeat (any_goals (first | go_big_quiet_step (fail) | quiet_step (fail) | (refine wpQuiet_step (fun K hK => ?_); go_simp; split <;> (refine hK _ ?_; clear hK K))))
              all_goals (refine wpQuiet_nil ?_; intro w5 hb; obtain ⟨hB, hS, hk⟩ := after (B := w.heap.size) (w := w) (by go_grown) (by go_size) hb; obtain ⟨c0, f0, z0⟩ := hk (b) (by go_size); obtain ⟨c1, f1, z1⟩ := hk (b2) (by go_size); clear hk hb r0 rf0 r1 rf1)
              go_wp2
              go_returns
              exact ⟨by rw [Hf.out]; rfl, hB⟩
          · obtain ⟨n1, n2⟩ := ne_of e2
            have Hf := Lib.hid (hfail.out (fun e => e2 (congrArg CellA.col e)))
            subst e1
            clear e2
            go_wp2
            refine wp_region_below (by kernel_rfl) (by kernel_rfl) (fun hkept => ?_)
            obtain ⟨r0, rf0⟩ := hkept (b) (by go_size); obtain ⟨r1, rf1⟩ := hkept (b2) (by go_size); clear hkept
            repeat (any_goals (first | go_big_quiet_step (fail) | quiet_step (fail) | (refine wpQuiet_step (fun K hK => ?_); go_simp; split <;> (refine hK _ ?_; clear hK K))))
            all_goals (refine wpQuiet_nil ?_; intro w5 hb; obtain ⟨hB, hS, hk⟩ := after (B := w.heap.size) (w := w) (by go_grown) (by go_size) hb; obtain ⟨c0, f0, z0⟩ := hk (b) (by go_size); obtain ⟨c1, f1, z1⟩ := hk (b2) (by go_size); clear hk hb r0 rf0 r1 rf1)
            go_wp2
            go_returns
            exact ⟨by rw [Hf.out]; rfl, hB⟩
        · obtain ⟨n1, n2⟩ := ne_of e1
          have Hf := Lib.hid (hfail.out (fun e => e1 (congrArg CellA.row e)))
          clear e1
          go_wp2
          refine wp_region_below (by kernel_rfl) (by kernel_rfl) (fun hkept => ?_)
          obtain ⟨r0, rf0⟩ := hkept (b) (by go_size); obtain ⟨r1, rf1⟩ := hkept (b2) (by go_size); clear hkept
          repeat (any_goals (first | go_big_quiet_step (fail) | quiet_step (fail) | (refine wpQuiet_step (fun K hK => ?_); go_simp; split <;> (refine hK _ ?_; clear hK K))))
          all_goals (refine wpQuiet_nil ?_; intro w5 hb; obtain ⟨hB, hS, hk⟩ := after (B := w.heap.size) (w := w) (by go_grown) (by go_size) hb; obtain ⟨c0, f0, z0⟩ := hk (b) (by go_size); obtain ⟨c1, f1, z1⟩ := hk (b2) (by go_size); clear hk hb r0 rf0 r1 rf1)
          go_wp2
          go_returns
          exact ⟨by rw [Hf.out]; rfl, hB⟩
      · have heq : cs = ds := by
          have := hE.out
          rwa [List.take_of_length_le (by rw [Hl.out]; omega), List.take_of_length_le (by rw [Hl2.out]; omega)] at this
        have Hs : Hid (sameC cs ds = true) := Lib.hid (by rw [heq]; exact sameC_self ds)
        clear heq
        go_wp2
        go_returns
        exact ⟨by rw [Hs.out]; rfl, hB0⟩
  · have Hs : Hid (sameC cs ds = false) := Lib.hid (by
      simp only [sameC, decide_eq_false_iff_not]
      intro e; subst e; omega)
    have hnb : ((n : Int) != n2) = true := by rw [bne_iff_ne]; omega
    clear h h2 hl hl2
    go_enter Try.func18, Try.ntmps18
    go_wp2
    go_returns
    exact ⟨by rw [Hs.out]; rfl, Below.refl _ _⟩
set_option maxRecDepth 100000 in
set_option maxHeartbeats 4000000 in
theorem same12_any (ao ao2 : Option Addr) (n cap n2 cap2 : Nat) (cs ds : List CellA) (w : World) (h : Cells w ao n cap cs) (h2 : Cells w ao2 n2 cap2 ds) :
    Calls Try.prog 24 #[.slice ao n cap, .slice ao2 n2 cap2] w fun e w' => e = .returned (.bool (sameC cs ds)) ∧ Below w.heap.size w w' := by
  have hl := h.len
  have hl2 := h2.len
  have hc1 := Arr.fits h
  have hc2 := Arr.max h
  unfold maxLen at hc2
  by_cases hne : n = n2
  · subst hne
    have Hl := Lib.hid hl
    have Hl2 := Lib.hid hl2
    have H := Lib.hid h
    have H2 := Lib.hid h2
    clear h h2 hl hl2
    go_enter Try.func24, Try.ntmps24
    go_wp2
    go_loopw [5] (fun i wr => ∃ k : Nat, k ≤ n ∧ i = .int .i64 k ∧ Hid (cs.take k = ds.take k) ∧ Below w.heap.size w wr) (fun i _ => n - (intOf i).toNat)
    case atStart => exact ⟨0, by omega, rfl, Lib.hid rfl, Below.refl _ _⟩
    case round =>
      obtain ⟨k, hk, rfl, hE, hB0⟩ := hrel
      by_cases hlt : k < n
      · obtain ⟨x, hx⟩ : ∃ x, cs[k]? = some x := ⟨_, List.getElem?_eq_getElem (by rw [Hl.out]; omega)⟩
        obtain ⟨y, hy⟩ : ∃ y, ds[k]? = some y := ⟨_, List.getElem?_eq_getElem (by rw [Hl2.out]; omega)⟩
        obtain ⟨b, off, rfl, hb, ⟨x0, x1, x2, x3, x4⟩⟩ := Cells.at_ H.out hx
        obtain ⟨b2, off2, rfl, hb2, ⟨y0, y1, y2, y3, y4⟩⟩ := Cells.at_ H2.out hy
        obtain ⟨k0, k0f⟩ := keep_below hB0 b hb
        obtain ⟨k1, k1f⟩ := keep_below hB0 b2 hb2
        have hzr := hB0.size
        have Hx := Lib.hid hx
        have Hy := Lib.hid hy
        clear hx hy
        obtain ⟨xr, xc, xv, xg, xl⟩ := x
        obtain ⟨yr, yc, yv, yg, yl⟩ := y
        simp only at x0 x1 x2 x3 x4 y0 y1 y2 y3 y4
        have hfail : Hid ((⟨xr, xc, xv, xg, xl⟩ : CellA) ≠ ⟨yr, yc, yv, yg, yl⟩ → sameC cs ds = false) := Lib.hid (fun hn => by
          simp only [sameC, decide_eq_false_iff_not]
          intro e
          subst e
          have := Hy.out
          rw [Hx.out] at this
          exact hn (Option.some.inj this))
        by_cases e1 : xr = yr
        · by_cases e2 : xc = yc
          · by_cases e3 : xv = yv
            · by_cases e4 : xg = yg
              · by_cases e5 : xl = yl
                · subst e1 e2 e3 e4 e5
                  have hnx : Hid (cs.take (k + 1) = ds.take (k + 1)) := Lib.hid (by rw [List.take_add_one, List.take_add_one, hE.out, Hx.out, Hy.out])
                  go_wp2
                  refine wp_region_below (by kernel_rfl) (by kernel_rfl) (fun hkept => ?_)
                  obtain ⟨r0, rf0⟩ := hkept (b) (by go_size); obtain ⟨r1, rf1⟩ := hkept (b2) (by go_size); clear hkept
                  repeat (any_goals (first | go_big_quiet_step (fail) | quiet_step (fail) | (refine wpQuiet_step (fun K hK => ?_); go_simp; split <;> (refine hK _ ?_; clear hK K))))
                  all_goals (refine wpQuiet_nil ?_; intro w5 hb; obtain ⟨hB, hS, hk⟩ := after (B := w.heap.size) (w := w) (by go_grown) (by go_size) hb; obtain ⟨c0, f0, z0⟩ := hk (b) (by go_size); obtain ⟨c1, f1, z1⟩ := hk (b2) (by go_size); clear hk hb r0 rf0 r1 rf1)
                  go_wp2
                  exact ⟨⟨k + 1, by omega, by go_num, hnx, hB⟩, by simp [intOf]; omega⟩
                · obtain ⟨n1, n2⟩ := ne_of e5
                  have Hf := Lib.hid (hfail.out (fun e => e5 (congrArg CellA.val e)))
                  subst e1 e2 e3 e4
                  clear e5
                  go_wp2
                  refine wp_region_below (by kernel_rfl) (by kernel_rfl) (fun hkept => ?_)
                  obtain ⟨r0, rf0⟩ := hkept (b) (by go_size); obtain ⟨r1, rf1⟩ := hkept (b2) (by go_size); clear hkept
                  repeat (any_goals (first | go_big_quiet_step (fail) | quiet_step (fail) | (refine wpQuiet_step (fun K hK => ?_); go_simp; split <;> (refine hK _ ?_; clear hK K))))
                  all_goals (refine wpQuiet_nil ?_; intro w5 hb; obtain ⟨hB, hS, hk⟩ := after (B := w.heap.size) (w := w) (by go_grown) (by go_size) hb; obtain ⟨c0, f0, z0⟩ := hk (b) (by go_size); obtain ⟨c1, f1, z1⟩ := hk (b2) (by go_size); clear hk hb r0 rf0 r1 rf1)
                  go_wp2
                  go_returns
                  exact ⟨by rw [Hf.out]; rfl, hB⟩
              · have Hf := Lib.hid (hfail.out (fun e => e4 (congrArg CellA.gone e)))
                subst e1 e2 e3
                cases xg <;> cases yg
                · exact absurd rfl e4
                · clear e4
                  go_wp2
                  refine wp_region_below (by kernel_rfl) (by kernel_rfl) (fun hkept => ?_)
                  obtain ⟨r0, rf0⟩ := hkept (b) (by go_size); obtain ⟨r1, rf1⟩ := hkept (b2) (by go_size); clear hkept
                  repeat (any_goals (first | go_big_quiet_step (fail) | quiet_step (fail) | (refine wpQuiet_step (fun K hK => ?_); go_simp; split <;> (refine hK _ ?_; clear hK K))))
                  all_goals (refine wpQuiet_nil ?_; intro w5 hb; obtain ⟨hB, hS, hk⟩ := after (B := w.heap.size) (w := w) (by go_grown) (by go_size) hb; obtain ⟨c0, f0, z0⟩ := hk (b) (by go_size); obtain ⟨c1, f1, z1⟩ := hk (b2) (by go_size); clear hk hb r0 rf0 r1 rf1)
                  go_wp2
                  go_returns
                  exact ⟨by rw [Hf.out]; rfl, hB⟩
                · clear e4
                  go_wp2
                  refine wp_region_below (by kernel_rfl) (by kernel_rfl) (fun hkept => ?_)
                  obtain ⟨r0, rf0⟩ := hkept (b) (by go_size); obtain ⟨r1, rf1⟩ := hkept (b2) (by go_size); clear hkept
                  repeat (any_goals (first | go_big_quiet_step (fail) | quiet_step (fail) | (refine wpQuiet_step (fun K hK => ?_); go_simp; split <;> (refine hK _ ?_; clear hK K))))
                  all_goals (refine wpQuiet_nil ?_; intro w5 hb; obtain ⟨hB, hS, hk⟩ := after (B := w.heap.size) (w := w) (by go_grown) (by go_size) hb; obtain ⟨c0, f0, z0⟩ := hk (b) (by go_size); obtain ⟨c1, f1, z1⟩ := hk (b2) (by go_size); clear hk hb r0 rf0 r1 rf1)
                  go_wp2
                  go_returns
                  exact ⟨by rw [Hf.out]; rfl, hB⟩
                · exact absurd rfl e4
            · have n1 : (xv == yv) = false := by simpa using e3
              have Hf := Lib.hid (hfail.out (fun e => e3 (congrArg CellA.ver e)))
              subst e1 e2
              go_wp2
              refine wp_region_below (by kernel_rfl) (by kernel_rfl) (fun hkept => ?_)
              obtain ⟨r0, rf0⟩ := hkept (b) (by go_size); obtain ⟨r1, rf1⟩ := hkept (b2) (by go_size); clear hkept
              repeat (any_goals (first | go_big_quiet_step (fail) | quiet_step (fail) | (refine wpQuiet_step (fun K hK => ?_); go_simp; split <;> (refine hK _ ?_; clear hK K))))
              all_goals (refine wpQuiet_nil ?_; intro w5 hb; obtain ⟨hB, hS, hk⟩ := after (B := w.heap.size) (w := w) (by go_grown) (by go_size) hb; obtain ⟨c0, f0, z0⟩ := hk (b) (by go_size); obtain ⟨c1, f1, z1⟩ := hk (b2) (by go_size); clear hk hb r0 rf0 r1 rf1)
              go_wp2
              go_returns
              exact ⟨by rw [Hf.out]; rfl, hB⟩
          · obtain ⟨n1, n2⟩ := ne_of e2
            have Hf := Lib.hid (hfail.out (fun e => e2 (congrArg CellA.col e)))
            subst e1
            clear e2
            go_wp2
            refine wp_region_below (by kernel_rfl) (by kernel_rfl) (fun hkept => ?_)
            obtain ⟨r0, rf0⟩ := hkept (b) (by go_size); obtain ⟨r1, rf1⟩ := hkept (b2) (by go_size); clear hkept
            repeat (any_goals (first | go_big_quiet_step (fail) | quiet_step (fail) | (refine wpQuiet_step (fun K hK => ?_); go_simp; split <;> (refine hK _ ?_; clear hK K))))
            all_goals (refine wpQuiet_nil ?_; intro w5 hb; obtain ⟨hB, hS, hk⟩ := after (B := w.heap.size) (w := w) (by go_grown) (by go_size) hb; obtain ⟨c0, f0, z0⟩ := hk (b) (by go_size); obtain ⟨c1, f1, z1⟩ := hk (b2) (by go_size); clear hk hb r0 rf0 r1 rf1)
            go_wp2
            go_returns
            exact ⟨by rw [Hf.out]; rfl, hB⟩
        · obtain ⟨n1, n2⟩ := ne_of e1
          have Hf := Lib.hid (hfail.out (fun e => e1 (congrArg CellA.row e)))
          clear e1
          go_wp2
          refine wp_region_below (by kernel_rfl) (by kernel_rfl) (fun hkept => ?_)
          obtain ⟨r0, rf0⟩ := hkept (b) (by go_size); obtain ⟨r1, rf1⟩ := hkept (b2) (by go_size); clear hkept
          repeat (any_goals (first | go_big_quiet_step (fail) | quiet_step (fail) | (refine wpQuiet_step (fun K hK => ?_); go_simp; split <;> (refine hK _ ?_; clear hK K))))
          all_goals (refine wpQuiet_nil ?_; intro w5 hb; obtain ⟨hB, hS, hk⟩ := after (B := w.heap.size) (w := w) (by go_grown) (by go_size) hb; obtain ⟨c0, f0, z0⟩ := hk (b) (by go_size); obtain ⟨c1, f1, z1⟩ := hk (b2) (by go_size); clear hk hb r0 rf0 r1 rf1)
          go_wp2
          go_returns
          exact ⟨by rw [Hf.out]; rfl, hB⟩
      · have heq : cs = ds := by
          have := hE.out
          rwa [List.take_of_length_le (by rw [Hl.out]; omega), List.take_of_length_le (by rw [Hl2.out]; omega)] at this
        have Hs : Hid (sameC cs ds = true) := Lib.hid (by rw [heq]; exact sameC_self ds)
        clear heq
        go_wp2
        go_returns
        exact ⟨by rw [Hs.out]; rfl, hB0⟩
  · have Hs : Hid (sameC cs ds = false) := Lib.hid (by
      simp only [sameC, decide_eq_false_iff_not]
      intro e; subst e; omega)
    have hnb : ((n : Int) != n2) = true := by rw [bne_iff_ne]; omega
    clear h h2 hl hl2
    go_enter Try.func24, Try.ntmps24
    go_wp2
    go_returns
    exact ⟨by rw [Hs.out]; rfl, Below.refl _ _⟩

end Go.Proofs.Ytehbikofoidjhaa
