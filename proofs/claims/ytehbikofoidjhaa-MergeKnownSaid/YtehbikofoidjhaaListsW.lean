/-
  The walk of acreagelaw12.MergeLists.
-/
import Derived.Test.YtehbikofoidjhaaWorks12W
namespace Go.Proofs.Ytehbikofoidjhaa
open Go.RowKit

/-- the cell that is laid over the list -/
def cellX : CellA := ⟨⟨#[120]⟩, ⟨#[]⟩, 0, false, ⟨#[]⟩⟩

theorem cells_dropM {w : World} {ao : Option Addr} {n cap : Nat} {cs : List CellA} (h : Cells w ao n cap cs) (N : Nat) (hN : N ≤ n) : Cells w (ao.map fun x => x.add (N * 5)) (n - N) (cap - N) (cs.drop N) := by
  have hf := Arr.fits h
  have hm := Arr.max h
  have hl := Cells.len h
  rcases Nat.eq_zero_or_pos (n - N) with h0 | h0
  · have : cs.drop N = [] := List.drop_of_length_le (by omega)
    rw [this, h0]
    exact cells_none (by omega)
  · obtain ⟨b, off, e, _⟩ := Arr.base h (by omega)
    subst e
    have := Arr.drop h N hN (o := off + N * 5) rfl
    rw [← List.map_drop] at this
    have e2 : (⟨b, off, none⟩ : Addr).add (N * 5) = ⟨b, off + N * 5, none⟩ := by simp [Addr.add]
    rw [Option.map_some, e2]
    exact this
theorem cells_far {w : World} {ao : Option Addr} {n cap : Nat} {cs : List CellA} (h : Cells w ao n cap cs) {F : Nat → Prop} (hF : ∀ k, F k → w.heap.size ≤ k) : 0 < n → ∀ p, ao = some p → ¬ F p.block := fun h0 p hp hf => by
  obtain ⟨b, off, e, hl⟩ := Arr.base h h0
  rw [e] at hp
  cases hp
  have := hF _ hf
  simp only at this
  omega

set_option maxRecDepth 100000 in
set_option maxHeartbeats 4000000 in
theorem mergelists_any (ao : Option Addr) (n cap : Nat) (cs : List CellA) (most : Int) (w : World) (h : Cells w ao n cap cs) (hn : n * 64 ≤ 140737488355328) :
    Calls Try.prog 4 #[.slice ao n cap, .int .i64 most] w fun e w' => e = .returned (.bool true) ∧ Below w.heap.size w w' := by
  have Hl := Lib.hid h.len
  have H := Lib.hid h
  have hn1 := Arr.fits h
  have hn2 := Arr.max h
  unfold maxLen at hn2
  clear h
  go_enter Try.func4, Try.ntmps4
  go_wp2_with fail
  refine (own_any _ _ _ cs _ H.out hn).mono ?_
  rintro e w1 ⟨v1, rfl, o1, b1⟩
  obtain ⟨ao1, cap1, rfl, c1⟩ := Own.cells_n o1 Hl.out
  have B1 := Lib.hid b1
  have z1 := b1.size
  have O1 := Lib.hid o1
  have C1 := Lib.hid c1
  clear b1 o1 c1
  go_wp2_with fail
  refine (of_gives ao1 n cap1 cs _ C1.out hn).mono ?_
  rintro e w2 ⟨q1, rfl, d1, h1, f1, b2⟩
  have B2 := Lib.hid (B1.out.trans (b2.mono z1))
  have z2 := B2.out.size
  have D1 := Lib.hid d1
  have H1 := Lib.hid (show q1.Here w2 from h1)
  have F1 := Lib.hid (fun k hk => (f1 k hk).elim False.elim id)
  have HZ : Hid (∃ ds : List CellA, ds.length = n ∧ Row w2 w.heap.size 37 5 (.slice ao1 n cap1) n (ds.map cellE).flatten) := Lib.hid ⟨cs, Hl.out, by have := Row.below O1.out b2; unfold Own at O1; rw [Hl.out] at this; exact this⟩
  have G1 : Hid (∀ g, (Value.slice ao1 n cap1).ownBlock = some g → g < w1.heap.size) := Lib.hid (fun g hg => (Row.lt O1.out g hg).2)
  have hf1 := Arr.fits C1.out
  have hf2 := Arr.max C1.out
  unfold maxLen at hf2
  clear d1 h1 f1 b2 O1 C1
  go_wp2
  go_loopw [7] (fun i wr => ∃ k : Nat, k ≤ n ∧ i = .int .i64 k ∧ Hid (q1.Here wr) ∧ Hid (Below w.heap.size w wr) ∧ Hid (∃ ds : List CellA, ds.length = n ∧ Row wr w.heap.size 37 5 (.slice ao1 n cap1) n (ds.map cellE).flatten)) (fun i _ => n - (intOf i).toNat)
  case atStart => exact ⟨0, by omega, rfl, H1, B2, HZ⟩
  case round =>
    obtain ⟨k, hk, rfl, hQ, hB, hR⟩ := hrel
    have hzr := hB.out.size
    by_cases hlt : k < n
    · obtain ⟨ds, hdl, hr⟩ := hR.out
      obtain ⟨g, rfl⟩ : ∃ g, ao1 = some ⟨g, 0, none⟩ := by
        rcases Row.form hr with ⟨_, h0⟩ | ⟨g, cp, e, _⟩
        · omega
        · cases e; exact ⟨g, rfl⟩
      have hgl := (Row.lt hr g rfl).2
      have hgw := (Row.lt hr g rfl).1
      have hg1 := G1.out g rfl
      obtain ⟨x, hx⟩ : ∃ x, ds[k]? = some x := ⟨_, List.getElem?_eq_getElem (by omega)⟩
      obtain ⟨x0, x1, x2, x3, x4⟩ := hr.cellAt hdl hx
      obtain ⟨y0, y1, y2, y3, y4⟩ := hr.cellFree hdl hlt
      have hR5 := Lib.hid (hr.storeC hdl hlt cellX)
      have hS := Lib.hid ((show ∃ ds : List CellA, ds.length = n ∧ Row (setC wr g (k * 5) cellX) w.heap.size 37 5 (.slice (some ⟨g, 0, none⟩) n cap1) n (ds.map cellE).flatten from ⟨ds.set k cellX, by rw [List.length_set]; exact hdl, hR5.out⟩))
      have hgs : ∀ j, j ≠ g → (setC wr g (k * 5) cellX).heap[j]? = wr.heap[j]? := fun j hj => by
        unfold setC
        rw [Below.heap_setCell _ _ _ _ hj, Below.heap_setCell _ _ _ _ hj, Below.heap_setCell _ _ _ _ hj, Below.heap_setCell _ _ _ _ hj, Below.heap_setCell _ _ _ _ hj]
      have hss : (setC wr g (k * 5) cellX).heap.size = wr.heap.size := by unfold setC; simp only [World.size_setCell]
      have hQ2 := Lib.hid (hQ.out.keep (by rw [hss]; exact Nat.le_refl _) (fun j hj => hgs j (fun e => by have := F1.out j hj; omega)))
      have hB2 : Hid (Below w.heap.size w (setC wr g (k * 5) cellX)) := Lib.hid (by
        unfold setC
        exact ((((hB.out.setCell (p := ⟨g, _, none⟩) hgw _).setCell (p := ⟨g, _, none⟩) hgw _).setCell (p := ⟨g, _, none⟩) hgw _).setCell (p := ⟨g, _, none⟩) hgw _).setCell (p := ⟨g, _, none⟩) hgw _)
      simp only [setC, cellX] at hS hQ2 hB2
      clear hr hx hR5 hgs hss HZ hQ hB hR
      go_wp2
      exact ⟨⟨k + 1, by omega, by go_num, hQ2, hB2, hS⟩, by simp [intOf]; omega⟩
    · obtain rfl : k = n := by omega
      clear H1 B2 HZ hR
      go_wp2_with fail
      refine (list_gives q1 _ hQ.out most most.toNat (by omega) (by rw [D1.out, Hl.out]; exact hn)).mono ?_
      rintro e w8 ⟨v8, rfl, o8, ⟨q2, e2f, e2c, d2, h2, f2⟩, k8⟩
      have B8 := Lib.hid (hB.out.trans (k8.below (fun k hk => Nat.le_trans z1 (F1.out k hk)) hzr))
      have z8 := B8.out.size
      have H2 := Lib.hid h2
      have F2 : Hid (∀ k, q2.F k → w.heap.size ≤ k) := Lib.hid (fun k hk => (f2 k hk).elim (fun h => Nat.le_trans z1 (F1.out k h)) (fun h => Nat.le_trans hzr h))
      rw [D1.out] at o8 d2
      have D2 := Lib.hid d2
      have O8 := Lib.hid o8
      have E2 := Lib.hid (And.intro e2f e2c)
      clear e2f e2c d2 h2 f2 k8 o8
      go_upto_region 9 with fail
      obtain ⟨N, hNe⟩ : ∃ N : Nat, N = min most.toNat k := ⟨_, rfl⟩
      have hN : (if (0 : Int) < (if (k : Int) < most then (k : Int) else most) then (if (k : Int) < most then (k : Int) else most) else 0) = (N : Int) := by
        split <;> split at * <;> omega
      rw [hN]
      generalize (if (k : Int) < most then (k : Int) else most) = M30
      have hNk : N ≤ k := by omega
      have hHL := Arr.below H.out B8.out
      have hS8 := Lib.hid (Cells.short (show Cells w8 ao k cap cs from hHL) hNk)
      have hT8 : Hid (cs.take most.toNat = cs.take N) := Lib.hid (by
        rw [hNe]
        rcases Nat.le_total most.toNat k with h | h
        · rw [Nat.min_eq_left h]
        · rw [Nat.min_eq_right h, List.take_of_length_le (by rw [Hl.out]; exact h), List.take_of_length_le (by rw [Hl.out]; exact Nat.le_refl _)])
      have hD8 : Hid (cs.drop most.toNat = cs.drop N) := Lib.hid (by
        rw [hNe]
        rcases Nat.le_total most.toNat k with h | h
        · rw [Nat.min_eq_left h]
        · rw [Nat.min_eq_right h, List.drop_of_length_le (by rw [Hl.out]; exact h), List.drop_of_length_le (by rw [Hl.out]; exact Nat.le_refl _)])
      obtain ⟨ao8, cap8, rfl, hc8⟩ := Own.cells_n (n := N) O8.out (by rw [hT8.out, List.length_take, Hl.out]; omega)
      rw [hT8.out] at hc8
      have C8 := Lib.hid hc8
      have HL := Lib.hid hHL
      clear hN hNe hHL hc8
      go_wp2_with fail
      refine (rsame_any _ _ N _ N _ (cs.take N) (cs.take N) _ C8.out hS8.out).mono ?_
      rintro e w9 ⟨rfl, b9⟩
      have B9 := Lib.hid (B8.out.trans (b9.mono z8))
      have z9 := B9.out.size
      rw [sameC_self]
      have H2 := Lib.hid (H2.out.below b9)
      have hAB : Hid (Cells w9 ao k cap cs) := Lib.hid (Arr.below HL.out b9)
      clear b9 C8 hS8 HL
      have HF := Lib.hid (cells_far H.out F2.out)
      have Htl := Lib.hid fun ao' n' cap' hc hf => tells_true q2 ao' n' cap' w9 H2.out hc hf
      rw [E2.out.1, E2.out.2, D2.out, hD8.out] at Htl
      go_wp2_with fail
      · refine (Htl.out ao (k - N) 0 ?_ ?_).mono ?_
        · have h0 : k - N = 0 := by omega
          have : cs.drop N = [] := List.drop_of_length_le (by rw [Hl.out]; omega)
          rw [this, h0]
          exact cells_none (by omega)
        · intro h0; omega
        rintro e w10 ⟨rfl, k10⟩
        have B10 := Lib.hid (B9.out.trans (k10.below F2.out z9))
        have z10 := B10.out.size
        clear k10
        go_wp2_with fail
        refine (works12_any _).mono ?_
        rintro e w11 ⟨rfl, b11⟩
        have B11 := Lib.hid (B10.out.trans (b11.mono z10))
        clear b11
        go_wp2_with fail
        go_returns
        exact ⟨rfl, B11.out⟩
      · refine (Htl.out _ (k - N) (cap - N) (cells_dropM hAB.out N hNk) ?_).mono ?_
        · intro h0 p hp hf
          cases ao with
          | none => cases hp
          | some a =>
            simp only [Option.map_some, Option.some.injEq] at hp
            subst hp
            have e2 : (a.add (N * 5)).block = a.block := by simp only [Addr.add]; split <;> rfl
            rw [e2] at hf
            exact HF.out (by omega) a rfl hf
        rintro e w10 ⟨rfl, k10⟩
        have B10 := Lib.hid (B9.out.trans (k10.below F2.out z9))
        have z10 := B10.out.size
        clear k10
        go_wp2_with fail
        refine (works12_any _).mono ?_
        rintro e w11 ⟨rfl, b11⟩
        have B11 := Lib.hid (B10.out.trans (b11.mono z10))
        clear b11
        go_wp2_with fail
        go_returns
        exact ⟨rfl, B11.out⟩
end Go.Proofs.Ytehbikofoidjhaa
