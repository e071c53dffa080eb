/-
  The walk of acreagelaw04.CellsSorts.
-/
import Derived.Test.YtjalccnkfpjchaaRNewW
import Derived.Test.YtjalccnkfpjchaaOwnW
namespace Go.Proofs.Ytjalccnkfpjchaa
open Go.RowKit Go.Sort

theorem Cells.short {w : World} {ao : Option Addr} {n cap k : Nat} {cs : List CellA} (h : Cells w ao n cap cs) (hk : k ≤ n) : Cells w ao k cap (cs.take k) := by
  have := Arr.take h hk
  rw [← List.map_take] at this
  exact this
theorem Cells.below {w w' : World} {ao : Option Addr} {n cap : Nat} {cs : List CellA} (h : Cells w ao n cap cs) (hb : Below w.heap.size w w') : Cells w' ao n cap cs := Arr.below h hb
theorem Own.apart {w w' : World} {B : Nat} {v u : Value} {cs : List CellA} (h : Own w B v cs) (hg : w.grownBy w' u.ownBlock) (hu : ∀ k, u.ownBlock = some k → k < B) : Own w' B v cs :=
  Row.of_heap h fun k hk => hg.block k (Row.lt h k hk).2 (by
    have h1 := (Row.lt h k hk).1
    intro e
    have := hu k e.symm
    omega)
theorem Own.lt {w : World} {B : Nat} {v : Value} {cs : List CellA} (h : Own w B v cs) : ∀ k, v.ownBlock = some k → k < w.heap.size := fun k hk => (Row.lt h k hk).2
theorem Own.spoiled {w w' : World} {B C : Nat} {v : Value} {cs : List CellA} (h : Own w B v cs) (hg : w.grownBy w' v.ownBlock) (hC : C ≤ B) (hw : B ≤ w.heap.size) : Below C w w' :=
  (Below.refl _ _).grown hg (Nat.le_trans hC hw) fun k e => Nat.le_trans hC (Row.lt h k e).1

set_option maxHeartbeats 2000000 in
theorem spoil_gb (v : Value) (cs : List CellA) (B : Nat) (w : World) (h : Own w B v cs) (hB : B ≤ w.heap.size) :
    Calls Try.prog 26 #[v] w fun e w' => e = .returned (.tuple #[]) ∧ w.grownBy w' v.ownBlock := by
  rcases Row.form h with ⟨rfl, h0⟩ | ⟨g, cp, rfl, hg1, hg2, hg3, hg4⟩
  · go_enter Try.func26, Try.ntmps26
    go_wp2
    go_rounds 1
    go_returns
    exact ⟨rfl, World.grownBy.refl _ _⟩
  · obtain ⟨n, hn⟩ : ∃ n, n = cs.length := ⟨_, rfl⟩
    have hrow := Lib.hid h
    unfold Own at hrow
    rw [← hn] at hrow hg3 ⊢
    have hg5 := hg4
    unfold maxLen at hg5
    have Hn := Lib.hid hn
    clear h hn
    go_enter Try.func26, Try.ntmps26
    go_wp2
    go_loopw [2] (fun i wr => ∃ (k : Nat) (D : List CellA), k ≤ n ∧ i = .int .i64 k ∧ Hid (D.length = n) ∧ Hid (Row wr B 32 5 (.slice (some ⟨g, 0, none⟩) n cp) n (D.map cellE).flatten) ∧ Hid (w.grownBy wr (some g))) (fun i _ => n - (intOf i).toNat)
    case atStart => exact ⟨0, cs, by omega, rfl, Lib.hid Hn.out.symm, hrow, Lib.hid gb_row⟩
    case round =>
      obtain ⟨k, D, hk, rfl, hDl, hR, hG⟩ := hrel
      by_cases hlt : k < n
      · obtain ⟨y, hy⟩ : ∃ y, D[k]? = some y := ⟨_, List.getElem?_eq_getElem (by rw [hDl.out]; omega)⟩
        obtain ⟨y0, y1, y2, y3, y4⟩ := hR.out.cellAt hDl.out hy
        obtain ⟨fy0, fy1, fy2, fy3, fy4⟩ := hR.out.cellFree hDl.out (i := k) (by omega)
        clear hy
        go_wp2
        have hR6 := hR.out.storeC hDl.out (i := k) (by omega) ⟨⟨#[120]⟩, ⟨#[]⟩, 77, false, ⟨#[]⟩⟩
        have hG6 := gb_setC hG.out (o := k * 5) ⟨⟨#[120]⟩, ⟨#[]⟩, 77, false, ⟨#[]⟩⟩
        simp only [setC] at hR6 hG6
        exact ⟨⟨k + 1, _, by omega, by go_num, Lib.hid (by rw [List.length_set]; exact hDl.out), Lib.hid hR6, Lib.hid hG6⟩, by simp [intOf]; omega⟩
      · go_wp2
        go_returns
        exact ⟨rfl, hG.out⟩
theorem Own.cells_m {w : World} {B m cap : Nat} {ao : Option Addr} {cs : List CellA} (h : Own w B (.slice ao m cap) cs) (hm : cs.length = m) : Cells w ao m cap cs := by
  obtain ⟨ao', cap', e, hc⟩ := h.cells_n hm
  cases e
  exact hc

set_option maxRecDepth 100000 in
set_option maxHeartbeats 4000000 in
theorem cellssorts_any (ao : Option Addr) (n0 n cap : Nat) (cs : List CellA) (w : World) (h : Cells w ao n cap cs) (hok : ∀ c ∈ cs, c.Ok) (hn : n ≤ 400) (hmin : (if n0 ≤ 400 then n0 else 400) = n) (hcap : n0 ≤ cap) (hcm : cap ≤ maxLen) :
    Calls Try.prog 6 #[.slice ao n0 cap] w fun e w' => e = .returned (.bool true) ∧ Below w.heap.size w w' := by
  unfold maxLen at hcm
  have Hl := Lib.hid h.len
  have H := Lib.hid h
  have Hok := Lib.hid hok
  have K1 := Lib.hid fun W ao cap (h : Cells W ao n cap cs) => sort_any ao n cap cs W h (by omega)
  have K2 := Lib.hid fun W ao cap (h : Cells W ao n cap cs) => newest_any ao n cap cs W h (by omega)
  have K3 := Lib.hid fun W ao cap (h : Cells W ao n cap cs) => alive_any ao n cap cs W h hok (by omega)
  have R1 := Lib.hid fun W ao cap (h : Cells W ao n cap cs) => rsort_any ao n cap cs W h (by omega)
  have R2 := Lib.hid fun W ao cap (h : Cells W ao n cap cs) => rnewest_any ao n cap cs W h (by omega)
  have R3 := Lib.hid fun W ao cap (h : Cells W ao n cap cs) => ralive_any ao n cap cs W h (by omega)
  rw [rsort_eq] at R1
  have S := Lib.hid fun W (ds : List CellA) ao ao2 n cap n2 cap2 (h : Cells W ao n cap ds) (h2 : Cells W ao2 n2 cap2 ds) => rsame_any ao ao2 n cap n2 cap2 ds ds W h h2
  simp only [sameC_self] at S
  obtain ⟨l1, hl1⟩ : ∃ l, l = sortL cs := ⟨_, rfl⟩
  obtain ⟨l2, hl2⟩ : ∃ l, l = newestL cs := ⟨_, rfl⟩
  obtain ⟨l3, hl3⟩ : ∃ l, l = aliveL cs := ⟨_, rfl⟩
  rw [← hl1] at K1 R1
  rw [← hl2] at K2 R2
  rw [← hl3] at K3 R3
  obtain ⟨m1, hm1⟩ : ∃ m, m = l1.length := ⟨_, rfl⟩
  obtain ⟨m2, hm2⟩ : ∃ m, m = l2.length := ⟨_, rfl⟩
  obtain ⟨m3, hm3⟩ : ∃ m, m = l3.length := ⟨_, rfl⟩
  have Hm1 := Lib.hid hm1.symm
  have Hm2 := Lib.hid hm2.symm
  have Hm3 := Lib.hid hm3.symm
  have Hmin := Lib.hid hmin
  clear h hok hl1 hl2 hl3 hmin hm1 hm2 hm3
  rcases Nat.lt_or_ge 400 n0 with hlt | hge
  · obtain rfl : n = 400 := by have := Hmin.out; rw [if_neg (by omega)] at this; exact this.symm
    go_enter Try.func6, Try.ntmps6
    go_wp2_with (first
      | (go_at_call 13; refine (own_any _ _ _ cs _ H.out (by omega)).mono ?_; rintro e w1 ⟨v, rfl, hO, hb⟩; obtain ⟨ao1, cap1, rfl, hc⟩ := hO.cells_n Hl.out; have HO1 := Lib.hid hc; have HL1 := Lib.hid (Cells.below H.out hb); have HB1 := Lib.hid hb; have hz1 := hb.size; clear hO hc hb)
      | (go_at_call 18; refine (K1.out _ _ _ HO1.out).mono ?_; rintro e w2 ⟨v, rfl, hO, hb⟩; obtain ⟨aoA, capA, rfl, hc⟩ := hO.cells_n Hm1.out; have HA2 := Lib.hid hO; have HO2 := Lib.hid (Arr.below HO1.out hb); have HL2 := Lib.hid (Arr.below HL1.out hb); have HB2 := Lib.hid hb; have hz2 := hb.size; clear hO hc hb)
      | (go_at_call 21; refine (K2.out _ _ _ HO2.out).mono ?_; rintro e w3 ⟨v, rfl, hO, hb⟩; obtain ⟨aoB, capB, rfl, hc⟩ := hO.cells_n Hm2.out; have HB3 := Lib.hid hO; have HO3 := Lib.hid (Arr.below HO2.out hb); have HL3 := Lib.hid (Arr.below HL2.out hb); have HA3 := Lib.hid (Own.below HA2.out hb); have Hb3 := Lib.hid hb; have hz3 := hb.size; clear hO hc hb)
      | (go_at_call 22; refine (K3.out _ _ _ HO3.out).mono ?_; rintro e w4 ⟨v, rfl, hO, hb⟩; obtain ⟨aoC, capC, rfl, hc⟩ := hO.cells_n Hm3.out; have HC4 := Lib.hid hO; have HO4 := Lib.hid (Arr.below HO3.out hb); have HL4 := Lib.hid (Arr.below HL3.out hb); have HA4 := Lib.hid (Own.below HA3.out hb); have HB4 := Lib.hid (Own.below HB3.out hb); have Hb4 := Lib.hid hb; have hz4 := hb.size; have HX4 : Hid (Below w.heap.size w w4) := Lib.hid (HB1.out.trans ((HB2.out.mono hz1).trans ((Hb3.out.mono (by omega)).trans (hb.mono (by omega))))); clear hO hc hb)
      | (go_at_call 23; refine (R1.out _ _ _ HL4.out).mono ?_; rintro e w5 ⟨v, rfl, hO, hb⟩; obtain ⟨ao5, cap5, rfl, hc⟩ := hO.cells_n Hm1.out; have HR5 := Lib.hid hc; have HX5 := Lib.hid hb; clear hO hc hb)
      | (go_at_call 16; (with_reducible refine (S.out _ l1 _ _ _ _ _ _ (Own.cells_m (Own.below HA4.out HX5.out) Hm1.out) HR5.out).mono ?_); rintro e w6 ⟨rfl, hb⟩; have HX6 := Lib.hid (HX5.out.trans (hb.mono HX5.out.size)); clear hb)
      | (go_at_call 24; refine (R2.out _ _ _ (Arr.below HL4.out HX6.out)).mono ?_; rintro e w7 ⟨v, rfl, hO, hb⟩; obtain ⟨ao7, cap7, rfl, hc⟩ := hO.cells_n Hm2.out; have HR7 := Lib.hid hc; have HX7 := Lib.hid (HX6.out.trans (hb.mono HX6.out.size)); clear hO hc hb)
      | (go_at_call 16; (with_reducible refine (S.out _ l2 _ _ _ _ _ _ (Own.cells_m (Own.below HB4.out HX7.out) Hm2.out) HR7.out).mono ?_); rintro e w8 ⟨rfl, hb⟩; have HX8 := Lib.hid (HX7.out.trans (hb.mono HX7.out.size)); clear hb)
      | (go_at_call 25; refine (R3.out _ _ _ (Arr.below HL4.out HX8.out)).mono ?_; rintro e w9 ⟨v, rfl, hO, hb⟩; obtain ⟨ao9, cap9, rfl, hc⟩ := hO.cells_n Hm3.out; have HR9 := Lib.hid hc; have HX9 := Lib.hid (HX8.out.trans (hb.mono HX8.out.size)); clear hO hc hb)
      | (go_at_call 16; (with_reducible refine (S.out _ l3 _ _ _ _ _ _ (Own.cells_m (Own.below HC4.out HX9.out) Hm3.out) HR9.out).mono ?_); rintro e w10 ⟨rfl, hb⟩; have HX10 := Lib.hid (HX9.out.trans (hb.mono HX9.out.size)); have hz10 := HX10.out.size; clear hb)
      | (go_at_call 26; (with_reducible refine (spoil_gb (.slice aoA m1 capA) l1 w1.heap.size _ (Own.below HA4.out HX10.out) (by omega)).mono ?_); rintro e w11 ⟨rfl, hg⟩; have HY11 : Hid (Below w1.heap.size w10 w11) := Lib.hid (Own.spoiled (Own.below HA4.out HX10.out) hg (Nat.le_refl _) (by omega)); have HB11 := Lib.hid (Own.apart (Own.below HB4.out HX10.out) hg (Own.lt HA2.out)); have HC11 := Lib.hid (Own.apart (Own.below HC4.out HX10.out) hg (fun k e => Nat.lt_of_lt_of_le (Own.lt HA2.out k e) hz3)); have hz11 := hg.size; clear hg)
      | (go_at_call 26; (with_reducible refine (spoil_gb (.slice aoB m2 capB) l2 w2.heap.size _ HB11.out (by omega)).mono ?_); rintro e w12 ⟨rfl, hg⟩; have HY12 : Hid (Below w1.heap.size w10 w12) := Lib.hid (HY11.out.trans (Own.spoiled HB11.out hg hz2 (by omega))); have HC12 := Lib.hid (Own.apart HC11.out hg (Own.lt HB3.out)); have hz12 := hg.size; clear hg)
      | (go_at_call 26; (with_reducible refine (spoil_gb (.slice aoC m3 capC) l3 w3.heap.size _ HC12.out (by omega)).mono ?_); rintro e w13 ⟨rfl, hg⟩; have HY13 : Hid (Below w1.heap.size w1 w13) := Lib.hid ((HB2.out.trans ((Hb3.out.mono (by omega)).trans ((Hb4.out.mono (by omega)).trans (HX10.out.mono (by omega))))).trans (HY12.out.trans (Own.spoiled HC12.out hg (by omega) (by omega)))); have HX13 : Hid (Below w.heap.size w w13) := Lib.hid (HB1.out.trans (HY13.out.mono hz1)); have hz13 := HX13.out.size; clear hg)
      | (go_at_call 16; (with_reducible refine (S.out _ cs _ _ _ _ _ _ (Cells.below HO1.out HY13.out) (Cells.below HL1.out HY13.out)).mono ?_); rintro e w14 ⟨rfl, hb⟩; have HX14 : Hid (Below w.heap.size w w14) := Lib.hid (HX13.out.trans (hb.mono hz13)); have hz14 := HX14.out.size; clear hb)
      | (go_at_call 17; refine (works_any _).mono ?_; rintro e w15 ⟨rfl, hb⟩; have HX15 : Hid (Below w.heap.size w w15) := Lib.hid (HX14.out.trans (hb.mono hz14)); clear hb))
    go_returns
    exact ⟨rfl, HX15.out⟩
  · obtain rfl : n0 = n := by have := Hmin.out; rw [if_pos hge] at this; exact this
    go_enter Try.func6, Try.ntmps6
    go_wp2_with (first
      | (go_at_call 13; refine (own_any _ _ _ cs _ H.out (by omega)).mono ?_; rintro e w1 ⟨v, rfl, hO, hb⟩; obtain ⟨ao1, cap1, rfl, hc⟩ := hO.cells_n Hl.out; have HO1 := Lib.hid hc; have HL1 := Lib.hid (Cells.below H.out hb); have HB1 := Lib.hid hb; have hz1 := hb.size; clear hO hc hb)
      | (go_at_call 18; refine (K1.out _ _ _ HO1.out).mono ?_; rintro e w2 ⟨v, rfl, hO, hb⟩; obtain ⟨aoA, capA, rfl, hc⟩ := hO.cells_n Hm1.out; have HA2 := Lib.hid hO; have HO2 := Lib.hid (Arr.below HO1.out hb); have HL2 := Lib.hid (Arr.below HL1.out hb); have HB2 := Lib.hid hb; have hz2 := hb.size; clear hO hc hb)
      | (go_at_call 21; refine (K2.out _ _ _ HO2.out).mono ?_; rintro e w3 ⟨v, rfl, hO, hb⟩; obtain ⟨aoB, capB, rfl, hc⟩ := hO.cells_n Hm2.out; have HB3 := Lib.hid hO; have HO3 := Lib.hid (Arr.below HO2.out hb); have HL3 := Lib.hid (Arr.below HL2.out hb); have HA3 := Lib.hid (Own.below HA2.out hb); have Hb3 := Lib.hid hb; have hz3 := hb.size; clear hO hc hb)
      | (go_at_call 22; refine (K3.out _ _ _ HO3.out).mono ?_; rintro e w4 ⟨v, rfl, hO, hb⟩; obtain ⟨aoC, capC, rfl, hc⟩ := hO.cells_n Hm3.out; have HC4 := Lib.hid hO; have HO4 := Lib.hid (Arr.below HO3.out hb); have HL4 := Lib.hid (Arr.below HL3.out hb); have HA4 := Lib.hid (Own.below HA3.out hb); have HB4 := Lib.hid (Own.below HB3.out hb); have Hb4 := Lib.hid hb; have hz4 := hb.size; have HX4 : Hid (Below w.heap.size w w4) := Lib.hid (HB1.out.trans ((HB2.out.mono hz1).trans ((Hb3.out.mono (by omega)).trans (hb.mono (by omega))))); clear hO hc hb)
      | (go_at_call 23; refine (R1.out _ _ _ HL4.out).mono ?_; rintro e w5 ⟨v, rfl, hO, hb⟩; obtain ⟨ao5, cap5, rfl, hc⟩ := hO.cells_n Hm1.out; have HR5 := Lib.hid hc; have HX5 := Lib.hid hb; clear hO hc hb)
      | (go_at_call 16; (with_reducible refine (S.out _ l1 _ _ _ _ _ _ (Own.cells_m (Own.below HA4.out HX5.out) Hm1.out) HR5.out).mono ?_); rintro e w6 ⟨rfl, hb⟩; have HX6 := Lib.hid (HX5.out.trans (hb.mono HX5.out.size)); clear hb)
      | (go_at_call 24; refine (R2.out _ _ _ (Arr.below HL4.out HX6.out)).mono ?_; rintro e w7 ⟨v, rfl, hO, hb⟩; obtain ⟨ao7, cap7, rfl, hc⟩ := hO.cells_n Hm2.out; have HR7 := Lib.hid hc; have HX7 := Lib.hid (HX6.out.trans (hb.mono HX6.out.size)); clear hO hc hb)
      | (go_at_call 16; (with_reducible refine (S.out _ l2 _ _ _ _ _ _ (Own.cells_m (Own.below HB4.out HX7.out) Hm2.out) HR7.out).mono ?_); rintro e w8 ⟨rfl, hb⟩; have HX8 := Lib.hid (HX7.out.trans (hb.mono HX7.out.size)); clear hb)
      | (go_at_call 25; refine (R3.out _ _ _ (Arr.below HL4.out HX8.out)).mono ?_; rintro e w9 ⟨v, rfl, hO, hb⟩; obtain ⟨ao9, cap9, rfl, hc⟩ := hO.cells_n Hm3.out; have HR9 := Lib.hid hc; have HX9 := Lib.hid (HX8.out.trans (hb.mono HX8.out.size)); clear hO hc hb)
      | (go_at_call 16; (with_reducible refine (S.out _ l3 _ _ _ _ _ _ (Own.cells_m (Own.below HC4.out HX9.out) Hm3.out) HR9.out).mono ?_); rintro e w10 ⟨rfl, hb⟩; have HX10 := Lib.hid (HX9.out.trans (hb.mono HX9.out.size)); have hz10 := HX10.out.size; clear hb)
      | (go_at_call 26; (with_reducible refine (spoil_gb (.slice aoA m1 capA) l1 w1.heap.size _ (Own.below HA4.out HX10.out) (by omega)).mono ?_); rintro e w11 ⟨rfl, hg⟩; have HY11 : Hid (Below w1.heap.size w10 w11) := Lib.hid (Own.spoiled (Own.below HA4.out HX10.out) hg (Nat.le_refl _) (by omega)); have HB11 := Lib.hid (Own.apart (Own.below HB4.out HX10.out) hg (Own.lt HA2.out)); have HC11 := Lib.hid (Own.apart (Own.below HC4.out HX10.out) hg (fun k e => Nat.lt_of_lt_of_le (Own.lt HA2.out k e) hz3)); have hz11 := hg.size; clear hg)
      | (go_at_call 26; (with_reducible refine (spoil_gb (.slice aoB m2 capB) l2 w2.heap.size _ HB11.out (by omega)).mono ?_); rintro e w12 ⟨rfl, hg⟩; have HY12 : Hid (Below w1.heap.size w10 w12) := Lib.hid (HY11.out.trans (Own.spoiled HB11.out hg hz2 (by omega))); have HC12 := Lib.hid (Own.apart HC11.out hg (Own.lt HB3.out)); have hz12 := hg.size; clear hg)
      | (go_at_call 26; (with_reducible refine (spoil_gb (.slice aoC m3 capC) l3 w3.heap.size _ HC12.out (by omega)).mono ?_); rintro e w13 ⟨rfl, hg⟩; have HY13 : Hid (Below w1.heap.size w1 w13) := Lib.hid ((HB2.out.trans ((Hb3.out.mono (by omega)).trans ((Hb4.out.mono (by omega)).trans (HX10.out.mono (by omega))))).trans (HY12.out.trans (Own.spoiled HC12.out hg (by omega) (by omega)))); have HX13 : Hid (Below w.heap.size w w13) := Lib.hid (HB1.out.trans (HY13.out.mono hz1)); have hz13 := HX13.out.size; clear hg)
      | (go_at_call 16; (with_reducible refine (S.out _ cs _ _ _ _ _ _ (Cells.below HO1.out HY13.out) (Cells.below HL1.out HY13.out)).mono ?_); rintro e w14 ⟨rfl, hb⟩; have HX14 : Hid (Below w.heap.size w w14) := Lib.hid (HX13.out.trans (hb.mono hz13)); have hz14 := HX14.out.size; clear hb)
      | (go_at_call 17; refine (works_any _).mono ?_; rintro e w15 ⟨rfl, hb⟩; have HX15 : Hid (Below w.heap.size w w15) := Lib.hid (HX14.out.trans (hb.mono hz14)); clear hb))
    go_returns
    exact ⟨rfl, HX15.out⟩
end Go.Proofs.Ytjalccnkfpjchaa
