/-
  block.Build.
-/
import Derived.Test.YtihglmicgccgiaaBlkRead
namespace Go.Proofs.Ytihglmicgccgiaa
open Go.RowKit

/-- two builders beside one another -/
structure TwoB (b1 b2 : Nat) (l1 l2 : List UInt8) (F1 F2 : Nat → Prop) (w : World) : Prop where
  x : Bl b1 l1 F1 w
  y : Bl b2 l2 F2 w
  apart : ∀ k, F1 k → ¬ F2 k
section
variable {b1 b2 : Nat} {l1 l2 : List UInt8} {F1 F2 : Nat → Prop} {w w' : World}
theorem TwoB.below (h : TwoB b1 b2 l1 l2 F1 F2 w) (hb : Below w.heap.size w w') : TwoB b1 b2 l1 l2 F1 F2 w' := ⟨h.x.below hb, h.y.below hb, h.apart⟩
theorem lay2 (h : TwoB b1 b2 l1 l2 F1 F2 w) (a : ByteArray) (c : CellA) (ha : a.size ≤ maxLen) (hc : SmallC c) (hl : l1.length ≤ 1000000000) :
    Calls Try.prog 53 #[.pointer (some ⟨b1, 0, none⟩), .string a, .agg #[.string c.row, .string c.col, .int .u64 c.ver, .bool c.gone, .string c.val]] w fun e w' => e = .returned (.tuple #[]) ∧
      ∃ F1', TwoB b1 b2 (l1 ++ layL a.toList c) l2 F1' F2 w' ∧ Kept F1 w w' ∧ ∀ k, F1' k → F1 k ∨ w.heap.size ≤ k := by
  refine (lay_any b1 l1 F1 a c w h.x ha hc hl).mono ?_
  rintro e w' ⟨rfl, F', h1, h2, h3⟩
  refine ⟨rfl, F', ⟨h1, h.y.keep (fun k hk => h2.block k (h.y.inb k hk) (fun hf => h.apart k hf hk)), fun k hk hf => ?_⟩, h2, h3⟩
  rcases h3 k hk with h4 | h4
  · exact h.apart k h4 hf
  · have := h.y.inb k hf; omega
theorem write2 (h : TwoB b1 b2 l1 l2 F1 F2 w) (s : ByteArray) (hl : l2.length + s.size ≤ 140737488355328) :
    Calls Try.prog 43 #[.pointer (some ⟨b2, 0, none⟩), .string s] w fun e w' => e = .returned (.tuple #[.int .i64 s.size, .nilIface]) ∧
      ∃ F2', TwoB b1 b2 l1 (l2 ++ s.toList) F1 F2' w' ∧ Kept F2 w w' ∧ ∀ k, F2' k → F2 k ∨ w.heap.size ≤ k := by
  refine (writestring_bl b2 l2 F2 s w h.y hl).mono ?_
  rintro e w' ⟨rfl, F', h1, h2, h3⟩
  refine ⟨rfl, F', ⟨h.x.keep (fun k hk => h2.block k (h.x.inb k hk) (fun hf => h.apart k hk hf)), h1, fun k hk hf => ?_⟩, h2, h3⟩
  rcases h3 k hf with h4 | h4
  · exact h.apart k hk h4
  · have := h.x.inb k hk; omega
theorem len_raw (b : Nat) (ao : Option Addr) (n cap : Nat) (w : World) (c1 : w.cell? ⟨b, 1, none⟩ = some (.slice ao n cap)) :
    Calls Try.prog 45 #[.pointer (some ⟨b, 0, none⟩)] w fun e w' => e = .returned (.int .i64 n) ∧ w = w' := by
  go_enter Try.func45, Try.ntmps45
  go_wp2
  go_ret
  exact ⟨rfl, rfl⟩
/-- a builder's length stands in its second cell -/
theorem Bl.raw {b : Nat} {l : List UInt8} {F : Nat → Prop} (h : Bl b l F w) : ∃ ao cap, w.cell? ⟨b, 1, none⟩ = some (.slice ao l.length cap) := by
  obtain ⟨p, v, h1, h2, h3, h4, rfl⟩ := h.ex
  obtain ⟨ao, cap, rfl⟩ := row_slice h3
  exact ⟨ao, cap, by simp [World.cell?, h1]⟩
end
theorem cellL_small {c : CellA} (h : cellL c = true) : SmallC c := by
  simp only [cellL, storedL, Bool.and_eq_true, decide_eq_true_eq, size_list] at h
  exact ⟨by omega, by omega, by omega, ⟨by omega, by omega⟩⟩
/-- the row ahead of the k-th cell -/
def prevB (cs : List CellA) (k : Nat) : ByteArray := if k = 0 then ⟨#[]⟩ else match cs[k - 1]? with
  | some c => c.row
  | none => ⟨#[]⟩
theorem prevB_succ {cs : List CellA} {k : Nat} {c : CellA} (h : cs[k]? = some c) : prevB cs (k + 1) = c.row := by simp [prevB, h]
theorem aheadB_zero {cs : List CellA} {k : Nat} (h : k % 8 = 0) : aheadB cs k = ⟨#[]⟩ := by rw [aheadB, if_pos h]
theorem aheadB_prev {cs : List CellA} {k : Nat} (h : k % 8 ≠ 0) : aheadB cs k = prevB cs k := by rw [aheadB, if_neg h, prevB, if_neg (by omega)]; cases cs[k - 1]? <;> rfl
theorem wrongAt_zero {cs : List CellA} {x : CellA} (h : cs[0]? = some x) : wrongAt cs 0 = !cellL x := by simp [wrongAt, h]
theorem wrongAt_succ {cs : List CellA} {j : Nat} {x y : CellA} (hx : cs[j + 1]? = some x) (hy : cs[j]? = some y) : wrongAt cs (j + 1) = (!cellL x || decide (0 ≤ cmpC y x)) := by simp [wrongAt, hx, hy]
theorem wrongAt_bad {cs : List CellA} {k : Nat} {x : CellA} (hx : cs[k]? = some x) (h : cellL x = false) : wrongAt cs k = true := by simp [wrongAt, hx, h]
theorem prevB_max {cs : List CellA} (h : ∀ c ∈ cs, c.Ok) (k : Nat) : (prevB cs k).size ≤ maxLen := by
  unfold prevB
  split
  · decide
  · split
    · rename_i c hc; exact (h c (List.mem_of_getElem? hc)).row
    · decide
theorem two_new (w : World) : TwoB w.heap.size (w.heap.size + 1) [] [] (fun k => k = w.heap.size) (fun k => k = w.heap.size + 1) ((w.alloc (.cells #[.pointer none, .slice none 0 0] 85)).alloc (.cells #[.pointer none, .slice none 0 0] 85)) := by
  have h2 := bl_new (w.alloc (.cells #[.pointer none, .slice none 0 0] 85))
  simp only [World.size_alloc] at h2
  exact ⟨(bl_new w).below ((Below.refl _ _).alloc (Nat.le_refl _) _), h2, fun k h1 h2 => by omega⟩
/-- the second loop of Build -/
structure BuildI (cs : List CellA) (w0 : World) (b1 b2 k : Nat) (wr : World) : Prop where
  ex : ∃ F1 F2, TwoB b1 b2 (bodyTo cs k) (placesTo cs k) F1 F2 wr ∧ (∀ x, F1 x → w0.heap.size ≤ x) ∧ ∀ x, F2 x → w0.heap.size ≤ x
  le : (bodyTo cs k).length ≤ 32768
  bel : Below w0.heap.size w0 wr
theorem places_short (cs : List CellA) (k : Nat) (hk : k ≤ cs.length) (h : (bodyTo cs k).length ≤ 32768) : (placesTo cs k).length ≤ 1400 ∧ k ≤ 5461 := by
  have h1 := bodyTo_long cs k hk
  have h2 := placesTo_len cs k
  omega

set_option maxRecDepth 100000 in
set_option maxHeartbeats 4000000 in
theorem build_any (ao : Option Addr) (n cap : Nat) (cs : List CellA) (w : World) (h : Cells w ao n cap cs) (hok : ∀ c ∈ cs, c.Ok) :
    Calls Try.prog 40 #[.slice ao n cap] w fun e w' => e = .returned (.tuple #[.string (ofL (buildR cs).1), .int .i64 (buildR cs).2]) ∧ Below w.heap.size w w' := by
  have hl := h.len
  have hc1 := Arr.fits h
  have hc2 := Arr.max h
  unfold maxLen at hc2
  obtain ⟨R1, hR1⟩ : ∃ R, R = ofL (buildR cs).1 := ⟨_, rfl⟩
  obtain ⟨R2, hR2⟩ : ∃ R, R = (buildR cs).2 := ⟨_, rfl⟩
  rw [← hR1, ← hR2]
  have HR1 : Hid (wrongB cs = true → R1 = ⟨#[]⟩ ∧ R2 = 2) := Lib.hid fun h => by rw [hR1, hR2, buildR, if_pos h]; exact ⟨rfl, rfl⟩
  have HR2 : Hid (wrongB cs = false → 32768 < (bodyTo cs n).length → R1 = ⟨#[]⟩ ∧ R2 = 3) := Lib.hid fun h h2 => by rw [hR1, hR2, buildR, if_neg (by rw [h]; decide), hl, if_pos h2]; exact ⟨rfl, rfl⟩
  have HR3 : Hid (wrongB cs = false → (bodyTo cs n).length ≤ 32768 → 32768 < (blockL cs).length → R1 = ⟨#[]⟩ ∧ R2 = 3) := Lib.hid fun h h2 h3 => by rw [hR1, hR2, buildR, if_neg (by rw [h]; decide), hl, if_neg (by omega), if_pos h3]; exact ⟨rfl, rfl⟩
  have HR4 : Hid (wrongB cs = false → (bodyTo cs n).length ≤ 32768 → (blockL cs).length ≤ 32768 → R1 = ofL (blockL cs) ∧ R2 = 0) := Lib.hid fun h h2 h3 => by rw [hR1, hR2, buildR, if_neg (by rw [h]; decide), hl, if_neg (by omega), if_neg (by omega)]; exact ⟨rfl, rfl⟩
  clear hR1 hR2
  have Hl := Lib.hid hl
  have H := Lib.hid h
  have Hok := Lib.hid hok
  clear h hl hok
  go_enter Try.func40, Try.ntmps40
  go_wp2
  go_loopw [14] (fun i wr => ∃ k : Nat, k ≤ n ∧ i = .int .i64 k ∧ Hid (∀ j, j < k → wrongAt cs j = false) ∧ Hid (Below w.heap.size w wr)) (fun i _ => n - (intOf i).toNat)
  case atStart => exact ⟨0, by omega, rfl, Lib.hid (fun j h => by omega), Lib.hid (Below.refl _ _)⟩
  case round =>
    obtain ⟨k, hk, rfl, hW, hD⟩ := hrel
    have hzr := hD.out.size
    by_cases hlt : k < n
    · obtain ⟨x, hx⟩ : ∃ x, cs[k]? = some x := ⟨_, List.getElem?_eq_getElem (by rw [Hl.out]; omega)⟩
      obtain ⟨b, off, rfl, hb, ⟨x0, x1, x2, x3, x4⟩⟩ := Cells.at_ H.out hx
      obtain ⟨k0, k0f⟩ := keep_below hD.out b hb
      have KC := Lib.hid fun W => cell_any x W (Hok.out x (List.mem_of_getElem? hx))
      have Hwr : Hid (wrongAt cs k = true → R1 = ⟨#[]⟩ ∧ R2 = 2) := Lib.hid fun h => HR1.out (wrongB_true (by rw [Hl.out]; exact hlt) h)
      have Hwn : Hid (wrongAt cs k = false → ∀ j, j < k + 1 → wrongAt cs j = false) := Lib.hid fun h j hj => by
        by_cases e : j = k
        · rw [e]; exact h
        · exact hW.out j (by omega)
      by_cases hcx : cellL x = true
      · rw [hcx] at KC
        have KC : Hid (∀ W, Calls Try.prog 39 #[x.v] W fun e w' => e = .returned (.int .i64 0) ∧ Below W.heap.size W w') := KC
        cases k with
        | zero =>
          have HN := Lib.hid (Hwn.out ((wrongAt_zero hx).trans (by rw [hcx]; rfl)))
          obtain ⟨xr, xc, xv, xg, xl⟩ := x
          simp only [Nat.zero_mul, Nat.add_zero] at x0 x1 x2 x3 x4
          clear Hwr Hwn hx hW hcx
          go_wp2_with fail
          refine wp_region_below (by kernel_rfl) (by kernel_rfl) (fun hkept => ?_)
          obtain ⟨r0, rf0⟩ := hkept (wr.heap.size) (by go_size); clear hkept
          repeat (any_goals (first | go_big_quiet_step (first | (go_at_call 39; exact Calls.regrown_of (KC.out _))) | quiet_step (first | (go_at_call 39; exact Calls.regrown_of (KC.out _))) | (refine wpQuiet_step (fun K hK => ?_); go_simp; split <;> (refine hK _ ?_; clear hK K))))
          all_goals (refine wpQuiet_nil ?_; intro w1 hb; obtain ⟨hB, hS, hk⟩ := after (B := wr.heap.size) (w := wr) (by go_grown) (by go_size) hb; obtain ⟨c0, f0, z0⟩ := hk (wr.heap.size) (by go_size); clear hk hb r0 rf0)
          go_wp2
          exact ⟨⟨1, by omega, by go_num, HN, Lib.hid (hD.out.trans (hB.mono hzr))⟩, by simp [intOf]; omega⟩
        | succ j =>
          obtain ⟨y, hy⟩ : ∃ y, cs[j]? = some y := ⟨_, List.getElem?_eq_getElem (by rw [Hl.out]; omega)⟩
          obtain ⟨b', off', e', hb', ⟨y0, y1, y2, y3, y4⟩⟩ := Cells.at_ H.out hy
          cases e'
          have hcm := Lib.hid fun W => cmp_any y x W
          obtain ⟨c, hc⟩ : ∃ c, cmpC y x = c := ⟨_, rfl⟩
          have Hxw : Hid (wrongAt cs (j + 1) = decide (0 ≤ c)) := Lib.hid ((wrongAt_succ hx hy).trans (by rw [hcx, hc]; rfl))
          rw [hc] at hcm
          obtain ⟨xr, xc, xv, xg, xl⟩ := x
          obtain ⟨yr, yc, yv, yg, yl⟩ := y
          simp only at x0 x1 x2 x3 x4 y0 y1 y2 y3 y4
          clear hy hb' hc hx hW hcx
          have hbr : b < wr.heap.size := Nat.lt_of_lt_of_le hb hzr
          have hbn : ¬ b = wr.heap.size := by omega
          by_cases hneg : 0 ≤ c
          · have hneg1 : decide (0 ≤ c) = true := by simp; omega
            have HN := Lib.hid (Hwr.out (Hxw.out.trans hneg1))
            clear Hwr Hwn Hxw
            go_wp2_with fail
            refine wp_region_below (by kernel_rfl) (by kernel_rfl) (fun hkept => ?_)
            obtain ⟨r0, rf0⟩ := hkept (wr.heap.size) (by go_size); obtain ⟨r1, rf1⟩ := hkept (b) (by go_size); clear hkept
            repeat (any_goals (first | go_big_quiet_step (first | (go_at_call 39; exact Calls.regrown_of (KC.out _)) | (go_at_call 15; exact Calls.regrown_of (hcm.out _))) | quiet_step (first | (go_at_call 39; exact Calls.regrown_of (KC.out _)) | (go_at_call 15; exact Calls.regrown_of (hcm.out _))) | (refine wpQuiet_step (fun K hK => ?_); go_simp; split <;> (refine hK _ ?_; clear hK K))))
            all_goals (refine wpQuiet_nil ?_; intro w1 hb; obtain ⟨hB, hS, hk⟩ := after (B := wr.heap.size) (w := wr) (by go_grown) (by go_size) hb; obtain ⟨c0, f0, z0⟩ := hk (wr.heap.size) (by go_size); obtain ⟨c1, f1, z1⟩ := hk (b) (by go_size); clear hk hb r0 rf0 r1 rf1)
            go_wp2
            go_returns
            exact ⟨by rw [HN.out.1, HN.out.2]; rfl, hD.out.trans (hB.mono hzr)⟩
          · have hneg1 : decide (0 ≤ c) = false := by simp; omega
            have HN := Lib.hid (Hwn.out (Hxw.out.trans hneg1))
            clear Hwr Hwn Hxw
            go_wp2_with fail
            refine wp_region_below (by kernel_rfl) (by kernel_rfl) (fun hkept => ?_)
            obtain ⟨r0, rf0⟩ := hkept (wr.heap.size) (by go_size); obtain ⟨r1, rf1⟩ := hkept (b) (by go_size); clear hkept
            repeat (any_goals (first | go_big_quiet_step (first | (go_at_call 39; exact Calls.regrown_of (KC.out _)) | (go_at_call 15; exact Calls.regrown_of (hcm.out _))) | quiet_step (first | (go_at_call 39; exact Calls.regrown_of (KC.out _)) | (go_at_call 15; exact Calls.regrown_of (hcm.out _))) | (refine wpQuiet_step (fun K hK => ?_); go_simp; split <;> (refine hK _ ?_; clear hK K))))
            all_goals (refine wpQuiet_nil ?_; intro w1 hb; obtain ⟨hB, hS, hk⟩ := after (B := wr.heap.size) (w := wr) (by go_grown) (by go_size) hb; obtain ⟨c0, f0, z0⟩ := hk (wr.heap.size) (by go_size); obtain ⟨c1, f1, z1⟩ := hk (b) (by go_size); clear hk hb r0 rf0 r1 rf1)
            go_wp2
            exact ⟨⟨j + 1 + 1, by omega, by go_num, HN, Lib.hid (hD.out.trans (hB.mono hzr))⟩, by simp [intOf]; omega⟩
      · rw [Bool.not_eq_true] at hcx
        rw [hcx] at KC
        have KC : Hid (∀ W, Calls Try.prog 39 #[x.v] W fun e w' => e = .returned (.int .i64 2) ∧ Below W.heap.size W w') := KC
        have HN := Lib.hid (Hwr.out (wrongAt_bad hx hcx))
        obtain ⟨xr, xc, xv, xg, xl⟩ := x
        simp only at x0 x1 x2 x3 x4
        clear Hwr Hwn hx hW hcx
        go_wp2_with fail
        refine wp_region_below (by kernel_rfl) (by kernel_rfl) (fun hkept => ?_)
        obtain ⟨r0, rf0⟩ := hkept (wr.heap.size) (by go_size); clear hkept
        repeat (any_goals (first | go_big_quiet_step (first | (go_at_call 39; exact Calls.regrown_of (KC.out _))) | quiet_step (first | (go_at_call 39; exact Calls.regrown_of (KC.out _))) | (refine wpQuiet_step (fun K hK => ?_); go_simp; split <;> (refine hK _ ?_; clear hK K))))
        all_goals (refine wpQuiet_nil ?_; intro w1 hb; obtain ⟨hB, hS, hk⟩ := after (B := wr.heap.size) (w := wr) (by go_grown) (by go_size) hb; obtain ⟨c0, f0, z0⟩ := hk (wr.heap.size) (by go_size); clear hk hb r0 rf0)
        go_wp2
        go_returns
        exact ⟨by rw [HN.out.1, HN.out.2]; rfl, hD.out.trans (hB.mono hzr)⟩
    · obtain rfl : n = k := by omega
      have HW : Hid (wrongB cs = false) := Lib.hid (wrongB_of (fun j hj => hW.out j (by rw [← Hl.out]; exact hj)))
      have hin := wrongB_false HW.out
      have HIn := Lib.hid hin
      clear hW hin
      clear hk hlt
      obtain ⟨wo, rfl⟩ : ∃ wo : World, wo = wr := ⟨_, rfl⟩
      go_wp2_with fail
      have hT0 := Lib.hid (two_new wo)
      obtain ⟨b1, hb1⟩ : ∃ X, X = wo.heap.size := ⟨_, rfl⟩
      obtain ⟨b2, hb2⟩ : ∃ X, X = wo.heap.size + 1 := ⟨_, rfl⟩
      rw [← hb2, ← hb1] at hT0
      have HI0 : Hid (BuildI cs w b1 b2 0 _) := Lib.hid ⟨⟨_, _, hT0.out, fun x h => by subst h; omega, fun x h => by subst h; omega⟩, by simp [bodyTo], (hD.out.alloc hzr _).alloc (by rw [World.size_alloc]; omega) _⟩
      rw [← hb2, ← hb1]
      clear hD hzr hT0 hb1 hb2
      go_loopw [8, 39] (fun a i wr => ∃ k : Nat, k ≤ n ∧ i = .int .i64 k ∧ a = .string (prevB cs k) ∧ Hid (BuildI cs w b1 b2 k wr)) (fun _ i _ => n - (intOf i).toNat)
      case atStart => exact ⟨0, by omega, rfl, rfl, HI0⟩
      case round =>
        obtain ⟨k, hk, rfl, rfl, hI⟩ := hrel
        have hzr := hI.out.bel.size
        by_cases hlt : k < n
        · obtain ⟨x, hx⟩ : ∃ x, cs[k]? = some x := ⟨_, List.getElem?_eq_getElem (by rw [Hl.out]; omega)⟩
          obtain ⟨b, off, rfl, hb, ⟨x0, x1, x2, x3, x4⟩⟩ := Cells.at_ H.out hx
          obtain ⟨k0, k0f⟩ := keep_below hI.out.bel b hb
          have hsm := Lib.hid (cellL_small (HIn.out k x hx).1)
          have HBd := Lib.hid (bodyTo_succ hx)
          have HPv := Lib.hid (prevB_succ hx)
          obtain ⟨F1, F2, hT, hF1, hF2⟩ := hI.out.ex
          have hle := hI.out.le
          have hps := places_short cs k (by rw [Hl.out]; exact hk) hle
          have HmN : Hid ((bodyTo cs (k + 1)).length ≤ (bodyTo cs n).length) := Lib.hid (bodyTo_le cs (by omega))
          obtain ⟨xr, xc, xv, xg, xl⟩ := x
          simp only at x0 x1 x2 x3 x4
          have HA := Lib.hid (hT.below ((Below.refl _ _).alloc (Nat.le_refl _) (.cells #[.string xr, .string xc, .int .u64 xv, .bool xg, .string xl] 31)))
          have hq1 : ∀ y, F1 y → y < wr.heap.size := hT.x.inb
          have hq2 : ∀ y, F2 y → y < wr.heap.size := hT.y.inb
          have HBA := Lib.hid (hI.out.bel.alloc hzr (.cells #[.string xr, .string xc, .int .u64 xv, .bool xg, .string xl] 31))
          have HF1 := Lib.hid hF1
          have HF2 := Lib.hid hF2
          have HQ1 : Hid (¬ F1 wr.heap.size) := Lib.hid fun h => Nat.lt_irrefl _ (hq1 _ h)
          have HQ2 : Hid (¬ F2 wr.heap.size) := Lib.hid fun h => Nat.lt_irrefl _ (hq2 _ h)
          clear hx hI hT hF1 hF2 hq1 hq2
          by_cases h8 : k % 8 = 0
          · have h8i : ((k : Int) % 8) = 0 := by omega
            have HE : Hid (bodyTo cs k ++ layL (⟨#[]⟩ : ByteArray).toList ⟨xr, xc, xv, xg, xl⟩ = bodyTo cs (k + 1)) := Lib.hid (by rw [HBd.out, aheadB_zero h8])
            have HP : Hid (placesTo cs k ++ (ofL (twoL (bodyTo cs k).length)).toList = placesTo cs (k + 1)) := Lib.hid (by rw [ofL_toList, placesTo, if_pos h8])
            clear HBd
            go_wp2_with fail
            obtain ⟨q, hq⟩ : ∃ q, q = wr.heap.size := ⟨_, rfl⟩
            obtain ⟨wA, hwA⟩ : ∃ X : World, X = wr.alloc (.cells #[.string xr, .string xc, .int .u64 xv, .bool xg, .string xl] 31) := ⟨_, rfl⟩
            have d0 : wA.cell? ⟨q, 0, none⟩ = some (.string xr) := by rw [hwA, hq]; go_simp
            have d1 : wA.cell? ⟨q, 1, none⟩ = some (.string xc) := by rw [hwA, hq]; go_simp
            have d2 : wA.cell? ⟨q, 2, none⟩ = some (.int .u64 xv) := by rw [hwA, hq]; go_simp
            have d3 : wA.cell? ⟨q, 3, none⟩ = some (.bool xg) := by rw [hwA, hq]; go_simp
            have d4 : wA.cell? ⟨q, 4, none⟩ = some (.string xl) := by rw [hwA, hq]; go_simp
            have zq : q < wA.heap.size := by rw [hwA, hq, World.size_alloc]; omega
            have zc : w.heap.size ≤ wA.heap.size := by rw [hwA, World.size_alloc]; omega
            rw [← hwA] at HA HBA ⊢
            rw [← hq] at HQ1 HQ2 ⊢
            clear hwA hq k0 k0f x0 x1 x2 x3 x4
            refine (len_bl b1 _ F1 _ HA.out.x).mono ?_
            rintro e w3 ⟨rfl, rfl⟩
            go_wp2_with fail
            refine (two_any _ _ (by omega)).mono ?_
            rintro e w3 ⟨rfl, hb3⟩
            have HT3 := Lib.hid (HA.out.below hb3)
            have HB3 := Lib.hid (HBA.out.trans (hb3.mono zc))
            have zq3 := Nat.lt_of_lt_of_le zq hb3.size
            have zc3 := Nat.le_trans zc hb3.size
            have e0 := (hb3.cell (p := ⟨q, 0, none⟩) zq).trans d0
            have e1 := (hb3.cell (p := ⟨q, 1, none⟩) zq).trans d1
            have e2 := (hb3.cell (p := ⟨q, 2, none⟩) zq).trans d2
            have e3 := (hb3.cell (p := ⟨q, 3, none⟩) zq).trans d3
            have e4 := (hb3.cell (p := ⟨q, 4, none⟩) zq).trans d4
            clear hb3 HA HBA zq zc d0 d1 d2 d3 d4
            go_wp2_with fail
            refine (write2 HT3.out _ (by rw [ofL_size]; simp [twoL]; omega)).mono ?_
            rintro e w4 ⟨rfl, F2', hT4, hk4, hF4⟩
            rw [HP.out] at hT4
            have HTc := Lib.hid hT4
            have HBc := Lib.hid (HB3.out.trans (hk4.below HF2.out zc3))
            have zq := Nat.lt_of_lt_of_le zq3 hk4.size
            have zc := Nat.le_trans zc3 hk4.size
            have d0 := (World.cell?_of_block (a := ⟨q, 0, none⟩) (hk4.block q zq3 HQ2.out)).trans e0
            have d1 := (World.cell?_of_block (a := ⟨q, 1, none⟩) (hk4.block q zq3 HQ2.out)).trans e1
            have d2 := (World.cell?_of_block (a := ⟨q, 2, none⟩) (hk4.block q zq3 HQ2.out)).trans e2
            have d3 := (World.cell?_of_block (a := ⟨q, 3, none⟩) (hk4.block q zq3 HQ2.out)).trans e3
            have d4 := (World.cell?_of_block (a := ⟨q, 4, none⟩) (hk4.block q zq3 HQ2.out)).trans e4
            have HFc : Hid (∀ y, F2' y → w.heap.size ≤ y) := Lib.hid fun y hy => (hF4 y hy).elim (HF2.out y) (fun h => Nat.le_trans zc3 h)
            clear hT4 hk4 hF4 e0 e1 e2 e3 e4 HT3 HB3 zq3 zc3
            go_wp2_with fail
            have Hsm' := hsm.out
            refine (lay2 HTc.out ⟨#[]⟩ ⟨xr, xc, xv, xg, xl⟩ (by decide) Hsm' (by omega)).mono ?_
            rintro e w5 ⟨rfl, F1', hT5, hk5, hF5⟩
            rw [HE.out] at hT5
            have c5 : w5.cell? ⟨q, 0, none⟩ = some (.string xr) := (World.cell?_of_block (a := ⟨q, 0, none⟩) (hk5.block q zq HQ1.out)).trans d0
            have HB5 := Lib.hid (HBc.out.trans (hk5.below HF1.out zc))
            have HT5 := Lib.hid hT5
            have HF5 : Hid (∀ y, F1' y → w.heap.size ≤ y) := Lib.hid fun y hy => (hF5 y hy).elim (HF1.out y) (fun h => Nat.le_trans zc h)
            clear hT5 hk5 hF5 d0 d1 d2 d3 d4 Hsm'
            go_wp2_with fail
            refine (len_bl b1 _ F1' _ HT5.out.x).mono ?_
            rintro e w6 ⟨rfl, rfl⟩
            obtain ⟨m, hm⟩ : ∃ m, m = (bodyTo cs (k + 1)).length := ⟨_, rfl⟩
            rw [← hm]
            have Hm := Lib.hid hm
            clear hm
            by_cases hbig : 32768 < m
            · have HR := Lib.hid (HR2.out HW.out (by have := HmN.out; rw [← Hm.out] at this; omega))
              go_wp2
              go_returns
              exact ⟨by rw [HR.out.1, HR.out.2]; rfl, HB5.out⟩
            · go_wp2
              exact ⟨⟨k + 1, by omega, by go_num, by rw [HPv.out], Lib.hid ⟨⟨_, _, HT5.out, HF5.out, HFc.out⟩, by rw [← Hm.out]; omega, HB5.out⟩⟩, by simp [intOf]; omega⟩
          · have h8i : ¬ ((k : Int) % 8) = 0 := by omega
            have HE : Hid (bodyTo cs k ++ layL (prevB cs k).toList ⟨xr, xc, xv, xg, xl⟩ = bodyTo cs (k + 1)) := Lib.hid (by rw [HBd.out, aheadB_prev h8])
            have HP : Hid (placesTo cs k = placesTo cs (k + 1)) := Lib.hid (by rw [placesTo, if_neg h8])
            have hpm := Lib.hid (prevB_max Hok.out k)
            clear HBd
            go_wp2_with fail
            obtain ⟨q, hq⟩ : ∃ q, q = wr.heap.size := ⟨_, rfl⟩
            obtain ⟨wA, hwA⟩ : ∃ X : World, X = wr.alloc (.cells #[.string xr, .string xc, .int .u64 xv, .bool xg, .string xl] 31) := ⟨_, rfl⟩
            have d0 : wA.cell? ⟨q, 0, none⟩ = some (.string xr) := by rw [hwA, hq]; go_simp
            have d1 : wA.cell? ⟨q, 1, none⟩ = some (.string xc) := by rw [hwA, hq]; go_simp
            have d2 : wA.cell? ⟨q, 2, none⟩ = some (.int .u64 xv) := by rw [hwA, hq]; go_simp
            have d3 : wA.cell? ⟨q, 3, none⟩ = some (.bool xg) := by rw [hwA, hq]; go_simp
            have d4 : wA.cell? ⟨q, 4, none⟩ = some (.string xl) := by rw [hwA, hq]; go_simp
            have zq : q < wA.heap.size := by rw [hwA, hq, World.size_alloc]; omega
            have zc : w.heap.size ≤ wA.heap.size := by rw [hwA, World.size_alloc]; omega
            rw [← hwA] at HA HBA ⊢
            rw [← hq] at HQ1 HQ2 ⊢
            clear hwA hq k0 k0f x0 x1 x2 x3 x4
            rw [HP.out] at HA
            have HTc := HA
            have HBc := HBA
            have HFc := HF2
            clear HA HBA
            have Hsm' := hsm.out
            refine (lay2 HTc.out (prevB cs k) ⟨xr, xc, xv, xg, xl⟩ (by exact hpm.out) Hsm' (by omega)).mono ?_
            rintro e w5 ⟨rfl, F1', hT5, hk5, hF5⟩
            rw [HE.out] at hT5
            have c5 : w5.cell? ⟨q, 0, none⟩ = some (.string xr) := (World.cell?_of_block (a := ⟨q, 0, none⟩) (hk5.block q zq HQ1.out)).trans d0
            have HB5 := Lib.hid (HBc.out.trans (hk5.below HF1.out zc))
            have HT5 := Lib.hid hT5
            have HF5 : Hid (∀ y, F1' y → w.heap.size ≤ y) := Lib.hid fun y hy => (hF5 y hy).elim (HF1.out y) (fun h => Nat.le_trans zc h)
            clear hT5 hk5 hF5 d0 d1 d2 d3 d4 Hsm'
            go_wp2_with fail
            refine (len_bl b1 _ F1' _ HT5.out.x).mono ?_
            rintro e w6 ⟨rfl, rfl⟩
            obtain ⟨m, hm⟩ : ∃ m, m = (bodyTo cs (k + 1)).length := ⟨_, rfl⟩
            rw [← hm]
            have Hm := Lib.hid hm
            clear hm
            by_cases hbig : 32768 < m
            · have HR := Lib.hid (HR2.out HW.out (by have := HmN.out; rw [← Hm.out] at this; omega))
              go_wp2
              go_returns
              exact ⟨by rw [HR.out.1, HR.out.2]; rfl, HB5.out⟩
            · go_wp2
              exact ⟨⟨k + 1, by omega, by go_num, by rw [HPv.out], Lib.hid ⟨⟨_, _, HT5.out, HF5.out, HFc.out⟩, by rw [← Hm.out]; omega, HB5.out⟩⟩, by simp [intOf]; omega⟩
        · obtain rfl : k = n := by omega
          obtain ⟨F1, F2, hT, hF1, hF2⟩ := hI.out.ex
          have hle := hI.out.le
          have HB0 := Lib.hid hI.out.bel
          have hps := places_short cs k (by rw [Hl.out]; exact hk) hle
          have hpl := placesTo_len cs k
          obtain ⟨P, hP⟩ : ∃ P, P = (k + 7) / 8 := ⟨_, rfl⟩
          rw [← hP] at hpl
          have HT := Lib.hid hT
          have HF1 := Lib.hid hF1
          have HF2 := Lib.hid hF2
          obtain ⟨sb, hsb⟩ : ∃ s, s = ofL (bodyTo cs k) := ⟨_, rfl⟩
          obtain ⟨sp, hsp⟩ : ∃ s, s = ofL (placesTo cs k) := ⟨_, rfl⟩
          obtain ⟨s2, hs2⟩ : ∃ s, s = ofL (twoL P) := ⟨_, rfl⟩
          have hz1 : sb.size = (bodyTo cs k).length := by rw [hsb, ofL_size]
          have hz2 : sp.size = 2 * P := by rw [hsp, ofL_size, hpl]
          have hz3 : s2.size = 2 := by rw [hs2, ofL_size]; rfl
          have HS : Hid (sb ++ sp ++ s2 = ofL (blockL cs)) := Lib.hid (by rw [append_ofL, append_ofL, hsb, hsp, hs2, ofL_toList, ofL_toList, ofL_toList, ofL_toList, blockL, Hl.out, ← hP])
          have HSz : Hid (sb.size + sp.size + s2.size = (blockL cs).length) := Lib.hid (by rw [← ofL_size (blockL cs), ← HS.out, ByteArray.size_append, ByteArray.size_append])
          have KS1 := Lib.hid fun W F h => string_bl b1 (bodyTo cs k) F W h
          have KS2 := Lib.hid fun W F h => string_bl b2 (placesTo cs k) F W h
          have K2 := Lib.hid fun W => two_any P W (by omega)
          rw [← hsb] at KS1
          rw [← hsp] at KS2
          rw [← hs2] at K2
          clear hI hT hF1 hF2 hsb hsp hs2 hk hlt HI0 hP
          go_wp2_with fail
          refine (KS1.out _ F1 HT.out.x).mono ?_
          rintro e w6 ⟨rfl, hk6, _⟩
          have HY := Lib.hid (HT.out.y.keep (fun y hy => hk6.block y (HT.out.y.inb y hy) (fun hf => HT.out.apart y hf hy)))
          have HB6 := Lib.hid (HB0.out.trans (hk6.below HF1.out hzr))
          clear hk6
          have z6 := HB6.out.size
          obtain ⟨ao2, cap2, hraw⟩ := HY.out.raw
          have Hraw := Lib.hid hraw
          clear hraw
          go_wp2_with fail
          refine (KS2.out _ F2 HY.out).mono ?_
          rintro e w7 ⟨rfl, hk7, hc7⟩
          have HC7 := Lib.hid ((hc7 1).trans Hraw.out)
          have HB7 := Lib.hid (HB6.out.trans (hk7.below HF2.out z6))
          clear hk7 hc7
          have z7 := HB7.out.size
          go_wp2_with fail
          refine (len_raw b2 _ _ _ _ HC7.out).mono ?_
          rintro e w8 ⟨rfl, rfl⟩
          rw [hpl]
          go_wp2_with fail
          refine (K2.out _).mono ?_
          rintro e w9 ⟨rfl, hb9⟩
          have HB9 := Lib.hid (HB7.out.trans (hb9.mono z7))
          clear hb9
          have Hle := Lib.hid hle
          have hzs : sb.size + sp.size + s2.size ≤ 9223372036854775807 := by omega
          clear hz1 hz2 hz3 hpl hle hps
          by_cases hbig : 32768 < sb.size + sp.size + s2.size
          · have HR := Lib.hid (HR3.out HW.out Hle.out (by rw [← HSz.out]; exact hbig))
            go_wp2
            go_returns
            exact ⟨by rw [HR.out.1, HR.out.2]; rfl, HB9.out⟩
          · have HR := Lib.hid (HR4.out HW.out Hle.out (by rw [← HSz.out]; omega))
            go_wp2
            go_returns
            exact ⟨by rw [HR.out.1, HR.out.2, ← HS.out]; rfl, HB9.out⟩
end Go.Proofs.Ytihglmicgccgiaa
