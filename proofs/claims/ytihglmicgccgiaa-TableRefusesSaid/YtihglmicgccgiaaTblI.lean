/-
  Tables: sort.Search and slices.BinarySearchFunc with the tests of package table.
-/
import Derived.Test.YtihglmicgccgiaaTblN
namespace Go.Proofs.Ytihglmicgccgiaa
open Go.RowKit Go.Shelf

/-- is a cell ahead of a place? -/
def aheadT (row col : ByteArray) (c : CellA) : Bool := aheadL c.row.toList c.col.toList row.toList col.toList
set_option maxRecDepth 100000 in
set_option maxHeartbeats 2000000 in
theorem from11_any (k b1 b2 p : Nat) (row col : ByteArray) (bss : List (List CellA)) (bs : List CellA) (w : World) (h1 : w.cell? ⟨b1, 0, none⟩ = some (.pointer (some ⟨p, 0, none⟩))) (h2 : w.cell? ⟨b2, 0, none⟩ = some (.string row)) (h3 : w.cell? ⟨b2, 1, none⟩ = some (.string col)) (hT : TableAt w p bss) (hk : bss[k]? = some bs) (hne : bs ≠ []) :
    Calls Try.prog 25 #[.int .i64 k, .pointer (some ⟨b1, 0, none⟩), .pointer (some ⟨b2, 0, none⟩)] w fun e w' => e = .returned (.bool (!aheadT row col (lastC bs))) ∧ Below w.heap.size w w' := by
  obtain ⟨ao, cap, hc0, hB⟩ := hT.ex
  have hkl := (List.getElem?_eq_some_iff.1 hk).1
  have hfit := hB.fits
  have hb2 := World.block_lt_of_cell? _ _ h2
  simp only at hb2
  obtain ⟨b, off, a, c, rfl, hb, hbc, hcs⟩ := hB.at_ hk
  obtain ⟨m, hm⟩ : ∃ m, bs.length = m + 1 := ⟨bs.length - 1, by have := List.length_pos_iff.2 hne; omega⟩
  obtain ⟨hlm, hlx⟩ := lastC_mem hne
  obtain ⟨bx, ox, rfl, hbx, ⟨x0, x1, x2, x3, x4⟩⟩ := Cells.at_ hcs hlx
  have hcl := Arr.fits hcs
  have hcm := Arr.max hcs
  unfold maxLen at hcm
  rw [hm, Nat.add_sub_cancel] at x0 x1 x2 x3 x4
  rw [hm] at hbc hcl
  have KO := Lib.hid fun W => tof_any (lastC bs) W
  have KA := Lib.hid fun W => tahead_any (lastC bs).row (lastC bs).col row col W
  rw [show aheadL (lastC bs).row.toList (lastC bs).col.toList row.toList col.toList = aheadT row col (lastC bs) from rfl] at KA
  obtain ⟨R, hR⟩ : ∃ R, R = aheadT row col (lastC bs) := ⟨_, rfl⟩
  rw [← hR] at KA ⊢
  obtain ⟨q, hq⟩ : ∃ q, q = bss.length := ⟨_, rfl⟩
  rw [← hq] at hc0 hkl hfit
  generalize lastC bs = x at *
  obtain ⟨xr, xc, xv, xg, xl⟩ := x
  simp only at x0 x1 x2 x3 x4 KA
  simp only [CellA.v] at KO
  clear hT hB hcs hk hR hq hlm hlx hne
  go_enter Try.func25, Try.ntmps25
  go_wp2_with fail
  refine wp_region_below (by kernel_rfl) (by kernel_rfl) (fun hkept => ?_)
  obtain ⟨r0, rf0⟩ := hkept (bx) (by go_size); obtain ⟨r1, rf1⟩ := hkept (b2) (by go_size); clear hkept
  repeat (any_goals (first | go_big_quiet_step (first | (go_at_call 26; exact Calls.regrown_of (KO.out _)) | (go_at_call 27; exact Calls.regrown_of (KA.out _))) | quiet_step (first | (go_at_call 26; exact Calls.regrown_of (KO.out _)) | (go_at_call 27; exact Calls.regrown_of (KA.out _))) | (refine wpQuiet_step (fun K hK => ?_); go_simp; split <;> (refine hK _ ?_; clear hK K))))
  all_goals (refine wpQuiet_nil ?_; intro w1 hb; obtain ⟨hB, hS, hk⟩ := after (B := w.heap.size) (w := w) (by go_grown) (by go_size) hb; obtain ⟨c0, f0, z0⟩ := hk (bx) (by go_size); obtain ⟨c1, f1, z1⟩ := hk (b2) (by go_size); clear hk hb r0 rf0 r1 rf1)
  go_wp2
  go_returns
  exact ⟨by cases R <;> rfl, hB⟩
set_option maxRecDepth 100000 in
set_option maxHeartbeats 2000000 in
theorem from12_any (c : CellA) (row col : ByteArray) (w : World) :
    Calls Try.prog 29 #[c.v, .agg #[.string row, .string col]] w fun e w' => e = .returned (.int .i64 (if aheadT row col c then -1 else 1)) ∧ Below w.heap.size w w' := by
  have KO := Lib.hid fun W => tof_any c W
  have KA := Lib.hid fun W => tahead_any c.row c.col row col W
  rw [show aheadL c.row.toList c.col.toList row.toList col.toList = aheadT row col c from rfl] at KA
  obtain ⟨R, hR⟩ : ∃ R, R = aheadT row col c := ⟨_, rfl⟩
  rw [← hR] at KA ⊢
  obtain ⟨xr, xc, xv, xg, xl⟩ := c
  simp only [CellA.v] at KO KA ⊢
  clear hR
  cases R
  · go_enter Try.func29, Try.ntmps29
    go_wp2_with fail
    refine wp_region_below (by kernel_rfl) (by kernel_rfl) (fun hkept => ?_)
    obtain ⟨r0, rf0⟩ := hkept (w.heap.size) (by go_size); obtain ⟨r1, rf1⟩ := hkept (w.heap.size + 1) (by go_size); clear hkept
    repeat (any_goals (first | go_big_quiet_step (first | (go_at_call 26; exact Calls.regrown_of (KO.out _)) | (go_at_call 27; exact Calls.regrown_of (KA.out _))) | quiet_step (first | (go_at_call 26; exact Calls.regrown_of (KO.out _)) | (go_at_call 27; exact Calls.regrown_of (KA.out _))) | (refine wpQuiet_step (fun K hK => ?_); go_simp; split <;> (refine hK _ ?_; clear hK K))))
    all_goals (refine wpQuiet_nil ?_; intro w1 hb; obtain ⟨hB, hS, hk⟩ := after (B := w.heap.size) (w := w) (by go_grown) (by go_size) hb; obtain ⟨c0, f0, z0⟩ := hk (w.heap.size) (by go_size); obtain ⟨c1, f1, z1⟩ := hk (w.heap.size + 1) (by go_size); clear hk hb r0 rf0 r1 rf1)
    go_wp2
    go_returns
    exact ⟨rfl, hB⟩
  · go_enter Try.func29, Try.ntmps29
    go_wp2_with fail
    refine wp_region_below (by kernel_rfl) (by kernel_rfl) (fun hkept => ?_)
    obtain ⟨r0, rf0⟩ := hkept (w.heap.size) (by go_size); obtain ⟨r1, rf1⟩ := hkept (w.heap.size + 1) (by go_size); clear hkept
    repeat (any_goals (first | go_big_quiet_step (first | (go_at_call 26; exact Calls.regrown_of (KO.out _)) | (go_at_call 27; exact Calls.regrown_of (KA.out _))) | quiet_step (first | (go_at_call 26; exact Calls.regrown_of (KO.out _)) | (go_at_call 27; exact Calls.regrown_of (KA.out _))) | (refine wpQuiet_step (fun K hK => ?_); go_simp; split <;> (refine hK _ ?_; clear hK K))))
    all_goals (refine wpQuiet_nil ?_; intro w1 hb; obtain ⟨hB, hS, hk⟩ := after (B := w.heap.size) (w := w) (by go_grown) (by go_size) hb; obtain ⟨c0, f0, z0⟩ := hk (w.heap.size) (by go_size); obtain ⟨c1, f1, z1⟩ := hk (w.heap.size + 1) (by go_size); clear hk hb r0 rf0 r1 rf1)
    go_wp2
    go_returns
    exact ⟨rfl, hB⟩
/-- where a test that rises turns true -/
structure CutF (f : Nat → Bool) (n k : Nat) : Prop where
  le : k ≤ n
  lo : ∀ i, i < k → f i = false
  hi : ∀ i, k ≤ i → i < n → f i = true
theorem CutF.uniq {f : Nat → Bool} {n j k : Nat} (h : CutF f n j) (g : CutF f n k) : j = k := by
  rcases Nat.lt_trichotomy j k with h1 | h1 | h1
  · have := h.hi j (Nat.le_refl _) (by have := g.le; omega)
    rw [g.lo j h1] at this
    cases this
  · exact h1
  · have := g.hi k (Nat.le_refl _) (by have := h.le; omega)
    rw [h.lo k h1] at this
    cases this
set_option maxRecDepth 100000 in
set_option maxHeartbeats 2000000 in
theorem search_any (n : Nat) (f : Nat → Bool) (hmono : ∀ i j, i ≤ j → j < n → f i = true → f j = true) (b1 b2 : Nat) (w : World) (hn : n ≤ 1000000)
    (hcall : ∀ i, i < n → ∀ W, Below w.heap.size w W → Calls Try.prog 25 #[.int .i64 i, .pointer (some ⟨b1, 0, none⟩), .pointer (some ⟨b2, 0, none⟩)] W fun e w' => e = .returned (.bool (f i)) ∧ Below W.heap.size W w') :
    Calls Try.prog 24 #[.int .i64 n, .func (.func 25) #[] #[.pointer (some ⟨b1, 0, none⟩), .pointer (some ⟨b2, 0, none⟩)]] w fun e w' => ∃ k, CutF f n k ∧ e = .returned (.int .i64 k) ∧ Below w.heap.size w w' := by
  have HC := Lib.hid hcall
  have HM := Lib.hid hmono
  clear hcall hmono
  go_enter Try.func24, Try.ntmps24
  go_wp2_with fail
  go_loopw [5, 6] (fun i j wr => ∃ a b : Nat, a ≤ b ∧ b ≤ n ∧ i = .int .i64 a ∧ j = .int .i64 b ∧ Hid (∀ x, x < a → f x = false) ∧ Hid (∀ x, b ≤ x → x < n → f x = true) ∧ Hid (Below w.heap.size w wr)) (fun i j _ => (intOf j).toNat - (intOf i).toNat)
  case atStart => exact ⟨0, n, by omega, by omega, rfl, rfl, Lib.hid (fun x h => by omega), Lib.hid (fun x h1 h2 => by omega), Lib.hid (Below.refl _ _)⟩
  case round =>
    obtain ⟨a, b, hab, hbn, rfl, rfl, hlo, hhi, hB⟩ := hrel
    by_cases hlt : a < b
    · obtain ⟨h, hh⟩ : ∃ h : Nat, ((a : Int) + b) / 2 = h := ⟨((a + b) / 2 : Nat), by omega⟩
      have hh1 : a ≤ h ∧ h < b := by omega
      obtain ⟨hh1, hh2⟩ := hh1
      have KC := Lib.hid (HC.out h (by omega) wr hB.out)
      have Hm := Lib.hid fun (x y : Nat) (h1 : x ≤ y) (h2 : y < n) (h3 : f x = true) => HM.out x y h1 h2 h3
      cases hf : f h
      · have HL : Hid (∀ x, x < h + 1 → f x = false) := Lib.hid fun x hx => by
          by_cases e : x = h
          · rw [e, hf]
          · cases hfx : f x with
            | false => rfl
            | true =>
              have := Hm.out x h (by omega) (by omega) hfx
              rw [hf] at this
              cases this
        rw [hf] at KC
        clear hf hlo
        go_wp2_with fail
        refine KC.out.mono ?_
        rintro e w2 ⟨rfl, hb2⟩
        have HB2 := Lib.hid (hB.out.trans (hb2.mono hB.out.size))
        clear hb2 hB
        go_wp2_with fail
        exact ⟨⟨h + 1, b, by omega, by omega, by go_num, rfl, HL, hhi, HB2⟩, by simp [intOf]; omega⟩
      · have HH : Hid (∀ x, h ≤ x → x < n → f x = true) := Lib.hid fun x h1 h2 => Hm.out h x h1 h2 hf
        rw [hf] at KC
        clear hf hhi
        go_wp2_with fail
        refine KC.out.mono ?_
        rintro e w2 ⟨rfl, hb2⟩
        have HB2 := Lib.hid (hB.out.trans (hb2.mono hB.out.size))
        clear hb2 hB
        go_wp2_with fail
        exact ⟨⟨a, h, by omega, by omega, rfl, rfl, hlo, HH, HB2⟩, by simp [intOf]; omega⟩
    · obtain rfl : a = b := by omega
      have HK := Lib.hid (CutF.mk hbn hlo.out hhi.out)
      go_wp2_with fail
      go_returns
      exact ⟨a, HK.out, rfl, hB.out⟩
/-- the test at the cells of a list -/
def atC (row col : ByteArray) (bs : List CellA) (i : Nat) : Bool := match bs[i]? with
  | some c => !aheadT row col c
  | none => true
set_option maxRecDepth 100000 in
set_option maxHeartbeats 4000000 in
theorem bsearch_any (ao : Option Addr) (n cap : Nat) (bs : List CellA) (row col : ByteArray) (w : World) (h : Cells w ao n cap bs) (hmono : ∀ i j, i ≤ j → j < n → atC row col bs i = true → atC row col bs j = true) (hn : n ≤ 1000000) :
    Calls Try.prog 28 #[.slice ao n cap, .agg #[.string row, .string col], .func (.func 29) #[] #[]] w fun e w' => ∃ k, CutF (atC row col bs) n k ∧ e = .returned (.tuple #[.int .i64 k, .bool false]) ∧ Below w.heap.size w w' := by
  have hl := h.len
  have hc1 := Arr.fits h
  have hc2 := Arr.max h
  unfold maxLen at hc2
  have H := Lib.hid h
  have Hl := Lib.hid hl
  have HM := Lib.hid hmono
  clear h hl hmono
  go_enter Try.func28, Try.ntmps28
  go_wp2_with fail
  have HT0 : Hid ((w.alloc (.cells #[.string row, .string col] 62)).cell? ⟨w.heap.size, 0, none⟩ = some (.string row) ∧ (w.alloc (.cells #[.string row, .string col] 62)).cell? ⟨w.heap.size, 1, none⟩ = some (.string col)) := Lib.hid ⟨by go_simp, by go_simp⟩
  have HB0 : Hid (Below w.heap.size w (w.alloc (.cells #[.string row, .string col] 62))) := Lib.hid (by go_grown)
  go_loopw [9, 10] (fun i j wr => ∃ a b : Nat, a ≤ b ∧ b ≤ n ∧ i = .int .i64 a ∧ j = .int .i64 b ∧ Hid (∀ x, x < a → atC row col bs x = false) ∧ Hid (∀ x, b ≤ x → x < n → atC row col bs x = true) ∧ Hid (Below w.heap.size w wr) ∧ Hid (wr.cell? ⟨w.heap.size, 0, none⟩ = some (.string row) ∧ wr.cell? ⟨w.heap.size, 1, none⟩ = some (.string col))) (fun i j _ => (intOf j).toNat - (intOf i).toNat)
  case atStart => exact ⟨0, n, by omega, by omega, rfl, rfl, Lib.hid (fun x h => by omega), Lib.hid (fun x h1 h2 => by omega), HB0, HT0⟩
  case round =>
    clear HB0 HT0
    obtain ⟨a, b, hab, hbn, rfl, rfl, hlo, hhi, hBw, hT⟩ := hrel
    have hzr := hBw.out.size
    obtain ⟨t0, t1⟩ := hT.out
    have htl := World.block_lt_of_cell? _ _ t0
    simp only at htl
    by_cases hlt : a < b
    · obtain ⟨h, hh⟩ : ∃ h : Nat, ((a : Int) + b) / 2 = h := ⟨((a + b) / 2 : Nat), by omega⟩
      have hh1 : a ≤ h ∧ h < b := by omega
      obtain ⟨hh1, hh2⟩ := hh1
      obtain ⟨x, hx⟩ : ∃ x, bs[h]? = some x := ⟨_, List.getElem?_eq_getElem (by rw [Hl.out]; omega)⟩
      obtain ⟨bx, ox, rfl, hbx, ⟨x0, x1, x2, x3, x4⟩⟩ := Cells.at_ H.out hx
      obtain ⟨k0, k0f⟩ := keep_below hBw.out bx hbx
      have KC := Lib.hid fun W => from12_any x row col W
      have hat : atC row col bs h = !aheadT row col x := by unfold atC; rw [hx]
      have Hm := Lib.hid fun (x y : Nat) (h1 : x ≤ y) (h2 : y < n) (h3 : atC row col bs x = true) => HM.out x y h1 h2 h3
      cases hf : aheadT row col x
      · have HH : Hid (∀ x, h ≤ x → x < n → atC row col bs x = true) := Lib.hid fun x h1 h2 => Hm.out h x h1 h2 (by rw [hat, hf]; rfl)
        rw [hf] at KC
        obtain ⟨xr, xc, xv, xg, xl⟩ := x
        simp only [CellA.v] at KC x0 x1 x2 x3 x4
        have KC : Hid (∀ W, Calls Try.prog 29 #[.agg #[.string xr, .string xc, .int .u64 xv, .bool xg, .string xl], .agg #[.string row, .string col]] W fun e w' => e = .returned (.int .i64 1) ∧ Below W.heap.size W w') := KC
        clear hf hhi hat hx
        go_wp2_with fail
        refine wp_region_below (by kernel_rfl) (by kernel_rfl) (fun hkept => ?_)
        obtain ⟨r0, rf0⟩ := hkept (bx) (by go_size); obtain ⟨r1, rf1⟩ := hkept (w.heap.size) (by go_size); clear hkept
        repeat (any_goals (first | go_big_quiet_step (first | (go_at_call 29; exact Calls.regrown_of (KC.out _))) | quiet_step (first | (go_at_call 29; exact Calls.regrown_of (KC.out _))) | (refine wpQuiet_step (fun K hK => ?_); go_simp; split <;> (refine hK _ ?_; clear hK K))))
        all_goals (refine wpQuiet_nil ?_; intro w2 hb; obtain ⟨hB, hS, hk⟩ := after (B := wr.heap.size) (w := wr) (by go_grown) (by go_size) hb; obtain ⟨c0, f0, z0⟩ := hk (bx) (by go_size); obtain ⟨c1, f1, z1⟩ := hk (w.heap.size) (by go_size); clear hk hb r0 rf0 r1 rf1)
        have HB2 := Lib.hid (hBw.out.trans (hB.mono hzr))
        have HT2 := Lib.hid (And.intro ((c1 0).trans t0) ((c1 1).trans t1))
        go_wp2_with fail
        exact ⟨⟨a, h, by omega, by omega, rfl, rfl, hlo, HH, HB2, HT2⟩, by simp [intOf]; omega⟩
      · have HL : Hid (∀ x, x < h + 1 → atC row col bs x = false) := Lib.hid fun x hx => by
          by_cases e : x = h
          · rw [e, hat, hf]; rfl
          · cases hfx : atC row col bs x with
            | false => rfl
            | true =>
              have := Hm.out x h (by omega) (by omega) hfx
              rw [hat, hf] at this
              cases this
        rw [hf] at KC
        obtain ⟨xr, xc, xv, xg, xl⟩ := x
        simp only [CellA.v] at KC x0 x1 x2 x3 x4
        have KC : Hid (∀ W, Calls Try.prog 29 #[.agg #[.string xr, .string xc, .int .u64 xv, .bool xg, .string xl], .agg #[.string row, .string col]] W fun e w' => e = .returned (.int .i64 (-1)) ∧ Below W.heap.size W w') := KC
        clear hf hlo hat hx
        go_wp2_with fail
        refine wp_region_below (by kernel_rfl) (by kernel_rfl) (fun hkept => ?_)
        obtain ⟨r0, rf0⟩ := hkept (bx) (by go_size); obtain ⟨r1, rf1⟩ := hkept (w.heap.size) (by go_size); clear hkept
        repeat (any_goals (first | go_big_quiet_step (first | (go_at_call 29; exact Calls.regrown_of (KC.out _))) | quiet_step (first | (go_at_call 29; exact Calls.regrown_of (KC.out _))) | (refine wpQuiet_step (fun K hK => ?_); go_simp; split <;> (refine hK _ ?_; clear hK K))))
        all_goals (refine wpQuiet_nil ?_; intro w2 hb; obtain ⟨hB, hS, hk⟩ := after (B := wr.heap.size) (w := wr) (by go_grown) (by go_size) hb; obtain ⟨c0, f0, z0⟩ := hk (bx) (by go_size); obtain ⟨c1, f1, z1⟩ := hk (w.heap.size) (by go_size); clear hk hb r0 rf0 r1 rf1)
        have HB2 := Lib.hid (hBw.out.trans (hB.mono hzr))
        have HT2 := Lib.hid (And.intro ((c1 0).trans t0) ((c1 1).trans t1))
        go_wp2_with fail
        exact ⟨⟨h + 1, b, by omega, by omega, by go_num, rfl, HL, hhi, HB2, HT2⟩, by simp [intOf]; omega⟩
    · obtain rfl : a = b := by omega
      have HK := Lib.hid (CutF.mk hbn hlo.out hhi.out)
      by_cases hend : a < n
      · obtain ⟨x, hx⟩ : ∃ x, bs[a]? = some x := ⟨_, List.getElem?_eq_getElem (by rw [Hl.out]; omega)⟩
        obtain ⟨bx, ox, rfl, hbx, ⟨x0, x1, x2, x3, x4⟩⟩ := Cells.at_ H.out hx
        obtain ⟨k0, k0f⟩ := keep_below hBw.out bx hbx
        have KC := Lib.hid fun W => from12_any x row col W
        have hat : aheadT row col x = false := by
          have := hhi.out a (Nat.le_refl _) hend
          unfold atC at this
          rw [hx] at this
          simpa using this
        rw [hat] at KC
        obtain ⟨xr, xc, xv, xg, xl⟩ := x
        simp only [CellA.v] at KC x0 x1 x2 x3 x4
        have KC : Hid (∀ W, Calls Try.prog 29 #[.agg #[.string xr, .string xc, .int .u64 xv, .bool xg, .string xl], .agg #[.string row, .string col]] W fun e w' => e = .returned (.int .i64 1) ∧ Below W.heap.size W w') := KC
        clear hlo hhi hat hx
        go_wp2_with fail
        refine wp_region_below (by kernel_rfl) (by kernel_rfl) (fun hkept => ?_)
        obtain ⟨r0, rf0⟩ := hkept (bx) (by go_size); obtain ⟨r1, rf1⟩ := hkept (w.heap.size) (by go_size); clear hkept
        repeat (any_goals (first | go_big_quiet_step (first | (go_at_call 29; exact Calls.regrown_of (KC.out _))) | quiet_step (first | (go_at_call 29; exact Calls.regrown_of (KC.out _))) | (refine wpQuiet_step (fun K hK => ?_); go_simp; split <;> (refine hK _ ?_; clear hK K))))
        all_goals (refine wpQuiet_nil ?_; intro w2 hb; obtain ⟨hB, hS, hk⟩ := after (B := wr.heap.size) (w := wr) (by go_grown) (by go_size) hb; obtain ⟨c0, f0, z0⟩ := hk (bx) (by go_size); obtain ⟨c1, f1, z1⟩ := hk (w.heap.size) (by go_size); clear hk hb r0 rf0 r1 rf1)
        go_wp2_with fail
        go_returns
        exact ⟨a, HK.out, rfl, hBw.out.trans (hB.mono hzr)⟩
      · obtain rfl : a = n := by omega
        clear hlo hhi
        go_wp2_with fail
        refine wp_region_below (by kernel_rfl) (by kernel_rfl) (fun hkept => ?_)
        obtain ⟨r0, rf0⟩ := hkept (w.heap.size) (by go_size); clear hkept
        repeat (any_goals (first | go_big_quiet_step (fail) | quiet_step (fail) | (refine wpQuiet_step (fun K hK => ?_); go_simp; split <;> (refine hK _ ?_; clear hK K))))
        all_goals (refine wpQuiet_nil ?_; intro w2 hb; obtain ⟨hB, hS, hk⟩ := after (B := wr.heap.size) (w := wr) (by go_grown) (by go_size) hb; obtain ⟨c0, f0, z0⟩ := hk (w.heap.size) (by go_size); clear hk hb r0 rf0)
        go_wp2_with fail
        go_returns
        exact ⟨a, HK.out, rfl, hBw.out.trans (hB.mono hzr)⟩
end Go.Proofs.Ytihglmicgccgiaa

/-
  Tables: what From tells; the plain part. A table that stood in a world.
-/
namespace Go.Proofs.Ytihglmicgccgiaa
open Go.RowKit Go.Shelf

/-- the cells from a place on -/
def toldT (row col : ByteArray) (cs : List CellA) : List CellA := cs.filter fun c => !aheadT row col c
theorem toldT_append (row col : ByteArray) (a b : List CellA) : toldT row col (a ++ b) = toldT row col a ++ toldT row col b := List.filter_append ..
theorem cmp_place {p c : CellA} (h : cmpC p c < 0) : p.row.toList < c.row.toList ∨ (p.row.toList = c.row.toList ∧ (p.col.toList < c.col.toList ∨ (p.col.toList = c.col.toList ∧ c.ver < p.ver))) := by
  unfold cmpC orI at h
  have hl : ∀ a b : List UInt8, cmpL a b = -1 ∧ a < b ∨ cmpL a b = 1 ∧ b < a ∨ cmpL a b = 0 ∧ a = b := by
    intro a b
    unfold cmpL
    by_cases h1 : a < b
    · simp [h1]
    · by_cases h2 : b < a
      · simp [h1, h2]
      · rw [if_neg h1, if_neg h2]
        exact .inr (.inr ⟨rfl, by grind⟩)
  rcases hl p.row.toList c.row.toList with ⟨h1, h2⟩ | ⟨h1, h2⟩ | ⟨h1, h2⟩
  · exact .inl h2
  · rw [h1] at h; simp at h
  · rw [h1] at h
    simp only [ne_eq, not_true, if_false] at h
    rcases hl p.col.toList c.col.toList with ⟨h3, h4⟩ | ⟨h3, h4⟩ | ⟨h3, h4⟩
    · exact .inr ⟨h2, .inl h4⟩
    · rw [h3] at h; simp at h
    · rw [h3] at h
      simp only [ne_eq, not_true, if_false] at h
      refine .inr ⟨h2, .inr ⟨h4, ?_⟩⟩
      unfold cmpN at h
      split at h
      · assumption
      · split at h <;> omega
theorem ahead_back {p c : CellA} (h : cmpC p c < 0) (row col : ByteArray) (ha : aheadT row col c = true) : aheadT row col p = true := by
  have h1 := cmp_place h
  unfold aheadT aheadL at ha ⊢
  simp only [Bool.or_eq_true, Bool.and_eq_true, decide_eq_true_eq] at ha ⊢
  grind
theorem atC_mono {cs : List CellA} (h : wrongB cs = false) (row col : ByteArray) : ∀ i j, i ≤ j → j < cs.length → atC row col cs i = true → atC row col cs j = true := by
  intro i j hij
  induction j with
  | zero => intro _ h0; rw [show i = 0 by omega] at h0; exact h0
  | succ j ih =>
    intro hj h0
    by_cases e : i = j + 1
    · rw [← e]; exact h0
    · have h1 := ih (by omega) (by omega) h0
      obtain ⟨p, hp⟩ : ∃ p, cs[j]? = some p := ⟨_, List.getElem?_eq_getElem (by omega)⟩
      obtain ⟨c, hc⟩ : ∃ c, cs[j + 1]? = some c := ⟨_, List.getElem?_eq_getElem hj⟩
      have hcmp := (wrongB_false h (j + 1) c hc).2 p (by omega) (by simpa using hp)
      unfold atC at h1 ⊢
      rw [hp] at h1
      rw [hc]
      simp only [Bool.not_eq_true'] at h1 ⊢
      cases ha : aheadT row col c with
      | false => rfl
      | true => rw [ahead_back hcmp row col ha] at h1; cases h1
theorem cut_told {cs : List CellA} {row col : ByteArray} {k : Nat} (h : CutF (atC row col cs) cs.length k) : toldT row col cs = cs.drop k := by
  conv => lhs; rw [← List.take_append_drop k cs, toldT_append]
  have e1 : toldT row col (cs.take k) = [] := by
    unfold toldT
    rw [List.filter_eq_nil_iff]
    intro c hc
    obtain ⟨i, hi⟩ := List.mem_iff_getElem?.1 hc
    have hil := (List.getElem?_eq_some_iff.1 hi).1
    rw [List.length_take] at hil
    rw [List.getElem?_take_of_lt (by omega)] at hi
    have := h.lo i (by omega)
    unfold atC at this
    rw [hi] at this
    simpa using this
  have e2 : toldT row col (cs.drop k) = cs.drop k := by
    unfold toldT
    rw [List.filter_eq_self]
    intro c hc
    obtain ⟨i, hi⟩ := List.mem_iff_getElem?.1 hc
    rw [List.getElem?_drop] at hi
    have hil := (List.getElem?_eq_some_iff.1 hi).1
    have := h.hi (k + i) (by omega) hil
    unfold atC at this
    rw [hi] at this
    exact this
  rw [e1, e2, List.nil_append]
/-- how many are told of the first blocks -/
def toldN (row col : ByteArray) (bss : List (List CellA)) (m : Nat) : Nat := (toldT row col (bss.take m).flatten).length
theorem toldN_succ {row col : ByteArray} {bss : List (List CellA)} {m : Nat} {bs : List CellA} (h : bss[m]? = some bs) : toldN row col bss (m + 1) = toldN row col bss m + (toldT row col bs).length := by
  unfold toldN
  rw [List.take_add_one, h, Option.toList_some, List.flatten_append, toldT_append, List.length_append, List.flatten_singleton]
theorem toldN_all (row col : ByteArray) (bss : List (List CellA)) : toldN row col bss bss.length = (toldT row col bss.flatten).length := by unfold toldN; rw [List.take_of_length_le (Nat.le_refl _)]
theorem told_get {row col : ByteArray} {bss : List (List CellA)} {m i : Nat} {bs : List CellA} {c : CellA} (h : bss[m]? = some bs) (hc : (toldT row col bs)[i]? = some c) : (toldT row col bss.flatten)[toldN row col bss m + i]? = some c := by
  have e : bss.flatten = (bss.take m).flatten ++ (bs ++ (bss.drop (m + 1)).flatten) := by
    conv => lhs; rw [← List.take_append_drop m bss, List.flatten_append]
    rw [List.drop_eq_getElem_cons (List.getElem?_eq_some_iff.1 h).1, List.flatten_cons]
    rw [List.getElem?_eq_getElem (List.getElem?_eq_some_iff.1 h).1] at h
    rw [Option.some.inj h]
  rw [e, toldT_append, toldT_append, toldN, List.getElem?_append_right (by omega), Nat.add_sub_cancel_left, List.getElem?_append_left (List.getElem?_eq_some_iff.1 hc).1]
  exact hc
/-- the place of a block's last cell -/
def idxB (bss : List (List CellA)) (i : Nat) : Nat := (bss.take (i + 1)).flatten.length - 1
theorem take_flat {bss : List (List CellA)} {i : Nat} {bs : List CellA} (h : bss[i]? = some bs) : (bss.take (i + 1)).flatten = (bss.take i).flatten ++ bs := by
  rw [List.take_add_one, h, Option.toList_some, List.flatten_append, List.flatten_singleton]
theorem flat_pre (bss : List (List CellA)) (i : Nat) : ∃ r, bss.flatten = (bss.take i).flatten ++ r := ⟨(bss.drop i).flatten, by rw [← List.flatten_append, List.take_append_drop]⟩
theorem idxB_last {bss : List (List CellA)} {i : Nat} {bs : List CellA} (h : bss[i]? = some bs) (hne : bs ≠ []) : bss.flatten[idxB bss i]? = some (lastC bs) := by
  obtain ⟨r, hr⟩ := flat_pre bss (i + 1)
  have hl := List.length_pos_iff.2 hne
  have e := take_flat h
  unfold idxB
  rw [hr, e, List.length_append, List.append_assoc, List.getElem?_append_right (by omega), show (bss.take i).flatten.length + bs.length - 1 - (bss.take i).flatten.length = bs.length - 1 by omega, List.getElem?_append_left (by omega)]
  exact (lastC_mem hne).2
theorem idxB_mono (bss : List (List CellA)) {i j : Nat} (h : i ≤ j) : idxB bss i ≤ idxB bss j := by
  have : ∀ d, (bss.take (i + 1)).flatten.length ≤ (bss.take (i + 1 + d)).flatten.length := by
    intro d
    induction d with
    | zero => exact Nat.le_refl _
    | succ d ih =>
      refine Nat.le_trans ih ?_
      cases hb : bss[i + 1 + d]? with
      | none => rw [show i + 1 + (d + 1) = i + 1 + d + 1 by omega, List.take_add_one, hb]; simp
      | some bs => rw [show i + 1 + (d + 1) = i + 1 + d + 1 by omega, take_flat hb, List.length_append]; omega
  have := this (j - i)
  unfold idxB
  rw [show i + 1 + (j - i) = j + 1 by omega] at this
  omega
/-- the test at the blocks -/
def atB (row col : ByteArray) (bss : List (List CellA)) (i : Nat) : Bool := match bss[i]? with
  | some bs => !aheadT row col (lastC bs)
  | none => true
theorem atB_flat {bss : List (List CellA)} (hg : GoodB bss) (row col : ByteArray) {i : Nat} (hi : i < bss.length) : atB row col bss i = atC row col bss.flatten (idxB bss i) := by
  have hb : bss[i]? = some bss[i] := List.getElem?_eq_getElem hi
  unfold atB atC
  rw [hb, idxB_last hb (hg.each _ (List.getElem_mem _)).1]
theorem idxB_lt {bss : List (List CellA)} (hg : GoodB bss) {i : Nat} (hi : i < bss.length) : idxB bss i < bss.flatten.length := by
  have hb : bss[i]? = some bss[i] := List.getElem?_eq_getElem hi
  exact (List.getElem?_eq_some_iff.1 (idxB_last hb (hg.each _ (List.getElem_mem _)).1)).1
theorem atB_mono {bss : List (List CellA)} (hg : GoodB bss) (h : wrongB bss.flatten = false) (row col : ByteArray) : ∀ i j, i ≤ j → j < bss.length → atB row col bss i = true → atB row col bss j = true := by
  intro i j hij hj h0
  rw [atB_flat hg row col (by omega)] at h0
  rw [atB_flat hg row col hj]
  exact atC_mono h row col _ _ (idxB_mono bss hij) (idxB_lt hg hj) h0
/-- of the blocks ahead nothing is told -/
theorem told_zero {bss : List (List CellA)} (hg : GoodB bss) (row col : ByteArray) {k : Nat} (h : CutF (atB row col bss) bss.length k) : ∀ m, m ≤ k → toldN row col bss m = 0
  | 0, _ => by simp [toldN, toldT]
  | m + 1, hm => by
    have hkl := h.le
    have hb : bss[m]? = some bss[m] := List.getElem?_eq_getElem (by omega)
    rw [toldN_succ hb, told_zero hg row col h m (by omega), Nat.zero_add]
    obtain ⟨hne, hbk⟩ := hg.each bss[m] (List.getElem_mem _)
    have h1 := h.lo m (by omega)
    unfold atB at h1
    rw [hb] at h1
    simp only [Bool.not_eq_false'] at h1
    have : toldT row col bss[m] = [] := by
      unfold toldT
      rw [List.filter_eq_nil_iff]
      intro c hc
      obtain ⟨i, hi⟩ := List.mem_iff_getElem?.1 hc
      have hil := (List.getElem?_eq_some_iff.1 hi).1
      have hl := lastC_mem hne
      have := atC_mono hbk.good row col i (bss[m].length - 1) (by omega) (by omega)
      unfold atC at this
      rw [hi, hl.2] at this
      simp only [h1] at this
      simpa using this
    rw [this]
    rfl

theorem Arr.blocks {w w' : World} {size n cap : Nat} {ao : Option Addr} {es : List (List Value)} (h : Arr w size ao n cap es) (hs : w.heap.size ≤ w'.heap.size) (hk : ∀ k, k < w.heap.size → w'.heap[k]? = w.heap[k]?) : Arr w' size ao n cap es :=
  ⟨h.elems, h.len, h.fits, h.max, fun h0 => by
    obtain ⟨b, off, e, hl, hc⟩ := h.lies h0
    exact ⟨b, off, e, by omega, fun i e he j u hu => (World.cell?_of_block (a := ⟨b, _, none⟩) (hk b hl)).trans (hc i e he j u hu)⟩⟩
theorem TableAt.blocks {w w' : World} {p : Nat} {bss : List (List CellA)} (h : TableAt w p bss) (hs : w.heap.size ≤ w'.heap.size) (hk : ∀ k, k < w.heap.size → w'.heap[k]? = w.heap[k]?) : TableAt w' p bss := by
  obtain ⟨ao, cap, h1, h2⟩ := h.ex
  obtain ⟨es, h3, h4, h5⟩ := h2.ex
  have hc := fun o => World.cell?_of_block (w := w) (w' := w') (a := ⟨p, o, none⟩) (hk p h.lt)
  refine ⟨⟨ao, cap, (hc 0).trans h1, ⟨es, h3, h4.blocks hs hk, fun i e bs he hbs => ?_⟩⟩, (hc 1).trans h.c1, (hc 2).trans h.c2⟩
  obtain ⟨a, c, h6, h7⟩ := h5 i e bs he hbs
  exact ⟨a, c, h6, Arr.blocks h7 hs hk⟩
theorem BB.blocks {w w' : World} {ao : Option Addr} {n cap : Nat} {bss : List (List CellA)} (h : BB w ao n cap bss) (hs : w.heap.size ≤ w'.heap.size) (hk : ∀ k, k < w.heap.size → w'.heap[k]? = w.heap[k]?) : BB w' ao n cap bss := by
  obtain ⟨es, h3, h4, h5⟩ := h.ex
  refine ⟨es, h3, h4.blocks hs hk, fun i e bs he hbs => ?_⟩
  obtain ⟨a, c, h6, h7⟩ := h5 i e bs he hbs
  exact ⟨a, c, h6, Arr.blocks h7 hs hk⟩
/-- a table that stood in the world W0, all of whose blocks are as they were -/
structure TableM (W0 : World) (p : Nat) (bss : List (List CellA)) (w : World) : Prop where
  tab : TableAt W0 p bss
  le : W0.heap.size ≤ w.heap.size
  same : ∀ k, k < W0.heap.size → w.heap[k]? = W0.heap[k]?
theorem TableM.of {w : World} {p : Nat} {bss : List (List CellA)} (h : TableAt w p bss) : TableM w p bss w := ⟨h, Nat.le_refl _, fun _ _ => rfl⟩
theorem TableM.at_ {w W0 : World} {p : Nat} {bss : List (List CellA)} (h : TableM W0 p bss w) : TableAt w p bss := h.tab.blocks h.le h.same
theorem TableM.keep {w w' W0 : World} {p : Nat} {bss : List (List CellA)} (h : TableM W0 p bss w) (hs : W0.heap.size ≤ w'.heap.size) (hk : ∀ k, k < W0.heap.size → w'.heap[k]? = w.heap[k]?) : TableM W0 p bss w' :=
  ⟨h.tab, hs, fun k hk2 => (hk k hk2).trans (h.same k hk2)⟩
theorem TableM.below {w w' W0 : World} {B p : Nat} {bss : List (List CellA)} (h : TableM W0 p bss w) (hb : Below B w w') (hB : W0.heap.size ≤ B) : TableM W0 p bss w' := h.keep (Nat.le_trans h.le hb.size) fun k hk => hb.block k (by omega)
theorem TableM.cell {w W0 : World} {p : Nat} {bss : List (List CellA)} (h : TableM W0 p bss w) {b o : Nat} (hb : b < W0.heap.size) : w.cell? ⟨b, o, none⟩ = W0.cell? ⟨b, o, none⟩ := World.cell?_of_block (a := ⟨b, o, none⟩) (h.same b hb)
end Go.Proofs.Ytihglmicgccgiaa
