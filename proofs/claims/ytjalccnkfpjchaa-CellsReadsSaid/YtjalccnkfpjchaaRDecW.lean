/-
  The walk of the document's Decode of cells (acreageref04).
-/
import Derived.Test.YtjalccnkfpjchaaDecW
import Derived.Test.YtjalccnkfpjchaaRReadW
import Derived.Test.YtjalccnkfpjchaaREncLW
namespace Go.Proofs.Ytjalccnkfpjchaa
open Go.RowKit

def zcells : Array Value := #[.string ⟨#[]⟩, .string ⟨#[]⟩, .int .u64 0, .bool false, .string ⟨#[]⟩]
theorem new_cells {wr w5 : World} {b : Nat} {T : TypeId} (h : (wr.alloc (.cells #[.string ⟨#[]⟩, .string ⟨#[]⟩, .int .u64 0, .bool false, .string ⟨#[]⟩] T)).grownBy w5 (some b)) (hb : b < wr.heap.size) :
    w5.cell? ⟨wr.heap.size, 0, none⟩ = some (.string ⟨#[]⟩) ∧ w5.cell? ⟨wr.heap.size, 1, none⟩ = some (.string ⟨#[]⟩) ∧ w5.cell? ⟨wr.heap.size, 2, none⟩ = some (.int .u64 0) ∧ w5.cell? ⟨wr.heap.size, 3, none⟩ = some (.bool false) ∧ w5.cell? ⟨wr.heap.size, 4, none⟩ = some (.string ⟨#[]⟩) := by
  have hne : (some b : Option Nat) ≠ some wr.heap.size := fun e => by cases e; omega
  refine ⟨h.cell ?_ (fun e => hne e.symm), h.cell ?_ (fun e => hne e.symm), h.cell ?_ (fun e => hne e.symm), h.cell ?_ (fun e => hne e.symm), h.cell ?_ (fun e => hne e.symm)⟩ <;> simp [World.cell?_alloc_new]
theorem new_free {wr w5 : World} {b : Nat} {T : TypeId} {cs : Array Value} (h : (wr.alloc (.cells cs T)).grownBy w5 (some b)) (hb : b < wr.heap.size) :
    w5.frozen? ⟨wr.heap.size, 0, none⟩ = false ∧ w5.frozen? ⟨wr.heap.size, 1, none⟩ = false ∧ w5.frozen? ⟨wr.heap.size, 2, none⟩ = false ∧ w5.frozen? ⟨wr.heap.size, 3, none⟩ = false ∧ w5.frozen? ⟨wr.heap.size, 4, none⟩ = false := by
  have hk := h.block wr.heap.size (by rw [World.size_alloc]; omega) (fun e => by cases e; omega)
  have key : ∀ o, w5.frozen? ⟨wr.heap.size, o, none⟩ = false := fun o => by
    rw [World.frozen?_of_block hk]; unfold World.frozen?; rw [heap_alloc_new]; rfl
  exact ⟨key 0, key 1, key 2, key 3, key 4⟩
theorem own_apart {w w' : World} {B C : Nat} {v : Value} {cs : List CellA} (h : Own w B v cs) (hg : w.grownBy w' (some C)) (hu : ∀ k, v.ownBlock = some k → k < C) : Own w' B v cs :=
  Row.of_heap h fun k hk => hg.block k (Row.lt h k hk).2 (fun e => by
    have := hu k hk
    cases e
    omega)
theorem left_apart {w w' : World} {b C : Nat} {l : List UInt8} (h : Left w b l) (hg : w.grownBy w' (some C)) (hu : b < C) : Left w' b l := by
  have hl : b < w.heap.size := World.block_lt_of_cell? _ _ h.cell
  have hk := hg.block b hl (fun e => by cases e; omega)
  exact ⟨by rw [World.cell?_of_block hk]; exact h.cell, by rw [World.frozen?_of_block hk]; exact h.fro⟩

set_option maxRecDepth 100000 in
set_option maxHeartbeats 16000000 in
theorem rdecode_any (s : ByteArray) (w : World) (hs : s.size ≤ maxLen) :
    Calls Try.prog 30 #[.string s] w fun e w' =>
      ((∃ cs v, decV s.toList = some cs ∧ e = .returned (.tuple #[v, .int .i64 0]) ∧ Own w' w.heap.size v cs) ∨ (decV s.toList = none ∧ e = .returned (.tuple #[.slice none 0 0, .int .i64 4]))) ∧ Below w.heap.size w w' := by
  obtain ⟨i0, hi, hz0, hz1, hz2⟩ := info_parts Try.info_cell
  have Hi := Lib.hid hi
  have hsl : s.toList.length = s.size := size_list s
  have Hnew := Lib.hid (rnew_any s w)
  have hl0 : Left (w.alloc (.cells #[.string s] 87)) w.heap.size s.toList := ⟨by rw [ofL_self]; simp [World.cell?_alloc_new], by unfold World.frozen?; rw [heap_alloc_new]; rfl⟩
  have hK := rnum_r w.heap.size s.toList _ (by rw [hsl]; exact hs) hl0
  obtain ⟨P, hP⟩ : ∃ P : Ending → World → Prop, P = fun e w' => ((∃ cs v, decV s.toList = some cs ∧ e = .returned (.tuple #[v, .int .i64 0]) ∧ Own w' w.heap.size v cs) ∨ (decV s.toList = none ∧ e = .returned (.tuple #[.slice none 0 0, .int .i64 4]))) ∧ Below w.heap.size w w' := ⟨_, rfl⟩
  rw [← hP]
  have HP := Lib.hid hP
  obtain ⟨v0, hv0⟩ : ∃ v, v = (numR s.toList).1 := ⟨_, rfl⟩
  obtain ⟨is0, his⟩ : ∃ v, v = (numR s.toList).2.1 := ⟨_, rfl⟩
  rw [← hv0, ← his] at hK
  have HK := Lib.hid hK
  unfold maxLen at hs
  have hvn : (numR s.toList).1 < 2 ^ 64 := numR_lt _
  rw [← hv0] at hvn
  clear hi hP hK hl0
  by_cases hgo : is0 = true ∧ s.size ≤ 1048576 ∧ v0 ≤ s.size
  · obtain ⟨rfl, hg1, hg2⟩ := hgo
    have hl1 := numR_rest s.toList
    have hdv : decV s.toList = match decR v0 (numR s.toList).2.2 with | some (cs, []) => some cs | _ => none := by
      unfold decV; rw [if_pos (by rw [← his, ← hv0, hsl]; exact ⟨rfl, hg1, hg2⟩), ← hv0]; rfl
    obtain ⟨l1, hl1e⟩ : ∃ l, l = (numR s.toList).2.2 := ⟨_, rfl⟩
    rw [← hl1e] at hdv hl1 HK
    have Hdv := Lib.hid hdv
    rw [hsl] at hl1
    clear hdv hl1e hsl his hv0 hvn
    have hdz : decide (1048576 < (s.size : Int)) = false := by simp; omega
    have hdz1 : decide (1048576 < s.size) = false := by simp; omega
    have hdz2 : decide ((s.size : Int) < (v0 : Int)) = false := by simp; omega
    have hdz3 : decide (s.size < v0) = false := by simp; omega
    go_enter Try.func30, Try.ntmps30
    go_wp2_with (first
        | (go_at_call 61; refine Hnew.out.mono ?_; rintro e w' ⟨rfl, rfl⟩)
        | (go_at_call 62; refine HK.out.mono ?_; rintro e w1 ⟨rfl, hT⟩; have HB1 : Hid (Below w.heap.size w w1) := Lib.hid (((Below.refl _ _).alloc (Nat.le_refl _) _).grown hT.gb (by rw [World.size_alloc]; omega) (fun k e => by cases e; exact Nat.le_refl _)); have HL1 := Lib.hid hT.left; clear hT))
    go_loopw [7, 8] (fun v i wr => ∃ (k : Nat) (acc : List CellA) (rest : List UInt8), k ≤ v0 ∧ i = .int .u64 k ∧ Hid (DecRel w v0 k l1 acc rest v wr)) (fun _ i _ => v0 - (intOf i).toNat)
    case atStart => exact ⟨0, [], l1, by omega, rfl, Lib.hid ⟨by simp, rfl, by omega, Row.nil _ _ _ _, HL1.out, HB1.out⟩⟩
    case round =>
      obtain ⟨k, acc, rest, hk, rfl, hD⟩ := hrel
      have hrl := hD.out.le
      have hwr : w.heap.size < wr.heap.size := World.block_lt_of_cell? _ _ hD.out.left.cell
      by_cases hlt : k < v0
      · have n1 := textR_rest 32 rest
        obtain ⟨⟨ta, ia, ra⟩, hA⟩ : ∃ x, x = textR 32 rest := ⟨_, rfl⟩
        rw [← hA] at n1
        have m1 := textR_len 32 rest
        rw [← hA] at m1
        have n2 := textR_rest 16 ra
        have m2 := textR_len 16 ra
        obtain ⟨⟨tb, ib, rb⟩, hB⟩ : ∃ x, x = textR 16 ra := ⟨_, rfl⟩
        rw [← hB] at n2 m2
        have n3 := numR_rest rb
        have m3 := numR_lt rb
        obtain ⟨⟨vc, ic, rc⟩, hC⟩ : ∃ x, x = numR rb := ⟨_, rfl⟩
        rw [← hC] at n3 m3
        have n4 := byteR_rest rc
        obtain ⟨⟨gd, id, rd⟩, hDd⟩ : ∃ x, x = byteR rc := ⟨_, rfl⟩
        rw [← hDd] at n4
        have n5 := textR_rest 65536 rd
        have m5 := textR_len 65536 rd
        obtain ⟨⟨te, ie, re⟩, hE⟩ : ∃ x, x = textR 65536 rd := ⟨_, rfl⟩
        rw [← hE] at n5 m5
        simp only at m1 m2 m3 m5
        simp only at n1 n2 n3 n4 n5
        have K1 := Lib.hid fun W h => rtext_r w.heap.size 32 rest W (by decide) (by unfold maxLen; omega) h
        have K2 := Lib.hid fun W h => rtext_r w.heap.size 16 ra W (by decide) (by unfold maxLen; omega) h
        have K3 := Lib.hid fun W h => rnum_r w.heap.size rb W (by unfold maxLen; omega) h
        have K4 := Lib.hid fun W h => rbyte_r w.heap.size rc W (by unfold maxLen; omega) h
        have K5 := Lib.hid fun W h => rtext_r w.heap.size 65536 rd W (by decide) (by unfold maxLen; omega) h
        have HCR : Hid (cellR rest = ⟨⟨ofL ta, ofL tb, vc, decide (gd.toNat = 1), ofL te⟩, ia && ib && ic && id && ie && decide (gd.toNat ≤ 1) && cellL ⟨ofL ta, ofL tb, vc, decide (gd.toNat = 1), ofL te⟩, re⟩) := Lib.hid (by
          unfold cellR; simp only [← hA, ← hB, ← hC, ← hDd, ← hE])
        rw [← hA] at K1
        rw [← hB] at K2
        rw [← hC] at K3
        rw [← hDd] at K4
        rw [← hE] at K5
        simp only at K1 K2 K3 K4 K5
        clear hA hB hC hDd hE
        obtain ⟨sa, hsa⟩ : ∃ s, s = ofL ta := ⟨_, rfl⟩
        obtain ⟨sb, hsb⟩ : ∃ s, s = ofL tb := ⟨_, rfl⟩
        obtain ⟨se, hse⟩ : ∃ s, s = ofL te := ⟨_, rfl⟩
        obtain ⟨dn, hdn⟩ : ∃ d, d = gd.toNat := ⟨_, rfl⟩
        rw [← hsa, ← hsb, ← hse, ← hdn] at HCR
        rw [← hsa] at K1
        rw [← hsb] at K2
        rw [← hdn] at K4
        rw [← hse] at K5
        have hdl : dn < 256 := by rw [hdn]; exact gd.toNat_lt
        have hza : sa.size ≤ maxLen := by rw [hsa, ofL_size]; unfold maxLen; omega
        have hzb : sb.size ≤ maxLen := by rw [hsb, ofL_size]; unfold maxLen; omega
        have hze : se.size ≤ maxLen := by rw [hse, ofL_size]; unfold maxLen; omega
        clear hsa hsb hse hdn m1 m2 m5
        have hwa : Below wr.heap.size wr (wr.alloc (.cells #[.string ⟨#[]⟩, .string ⟨#[]⟩, .int .u64 0, .bool false, .string ⟨#[]⟩] 32)) := (Below.refl _ _).alloc (Nat.le_refl _) _
        have HL0 := Lib.hid (Left.keep hD.out.left hwa)
        have HB00 := Lib.hid (hD.out.bel.trans (hwa.mono (Nat.le_of_lt hwr)))
        have HO00 := Lib.hid (Row.below hD.out.own hwa)
        have HOlt : Hid (∀ k, u7.ownBlock = some k → k < wr.heap.size) := Lib.hid fun k e => (Row.lt hD.out.own k e).2
        have HLT : Hid (w.heap.size < wr.heap.size) := Lib.hid hwr
        clear hwa
        have Hbad : Hid ((cellR rest).ok = false → ∀ w', Below w.heap.size w w' → P (.returned (.tuple #[.slice none 0 0, .int .i64 4])) w') := Lib.hid fun hb w' h => by
          have h1 := hD.out.all
          obtain ⟨m, hm⟩ : ∃ m, v0 - k = m + 1 := ⟨v0 - k - 1, by omega⟩
          rw [hm, decR, hb] at h1
          simp only [Bool.false_eq_true, if_false, Option.map_none] at h1
          rw [HP.out]
          exact ⟨.inr ⟨by rw [Hdv.out, h1], rfl⟩, h⟩
        cases ia
        · have Hend := Lib.hid (Hbad.out (by rw [HCR.out]; simp))
          go_wp2_with (first
          | (go_at_call 63; (with_reducible refine (K1.out _ HL0.out).mono ?_); rintro e w1 ⟨rfl, hT⟩; have HT1 := Lib.hid hT; clear hT)
          | (go_at_call 63; (with_reducible refine (K2.out _ HT1.out.left).mono ?_); rintro e w2 ⟨rfl, hT⟩; have HT2 := Lib.hid hT; clear hT)
          | (go_at_call 62; (with_reducible refine (K3.out _ HT2.out.left).mono ?_); rintro e w3 ⟨rfl, hT⟩; have HT3 := Lib.hid hT; clear hT)
          | (go_at_call 64; (with_reducible refine (K4.out _ HT3.out.left).mono ?_); rintro e w4 ⟨rfl, hT⟩; have HT4 := Lib.hid hT; clear hT)
          | (go_at_call 63; (with_reducible refine (K5.out _ HT4.out.left).mono ?_); rintro e w5 ⟨rfl, hT⟩; have HT5 := Lib.hid hT; clear hT; have HG := Lib.hid (gb_trans HT1.out.gb (gb_trans HT2.out.gb (gb_trans HT3.out.gb (gb_trans HT4.out.gb HT5.out.gb)))); have HB5 : Below w.heap.size w w5 := HB00.out.grown HG.out HB00.out.size (fun k e => by cases e; exact Nat.le_refl _); have HS5 := HB5.size; have HO5 := Lib.hid (Own.took HO00.out (Nat.lt_succ_self _) HG.out); have HW5 : wr.heap.size < w5.heap.size := (by have := HG.out.size; rw [World.size_alloc] at this; omega); obtain ⟨y0, y1, y2, y3, y4⟩ := new_cells HG.out (by omega); obtain ⟨fy0, fy1, fy2, fy3, fy4⟩ := new_free HG.out (by omega); have HS9 := Lib.hid (gb_setC (gb_row (a := w5) (g := wr.heap.size)) (o := 0) ⟨sa, sb, vc, ((dn : Int) == 1), se⟩); have HB9 := Lib.hid (HB5.grown HS9.out HS5 (fun k e => by cases e; omega))))
          have hb9 := HB9.out
          simp only [setC] at hb9
          exact Hend.out _ hb9
        · skip
          cases ib
          · have Hend := Lib.hid (Hbad.out (by rw [HCR.out]; simp))
            go_wp2_with (first
            | (go_at_call 63; (with_reducible refine (K1.out _ HL0.out).mono ?_); rintro e w1 ⟨rfl, hT⟩; have HT1 := Lib.hid hT; clear hT)
            | (go_at_call 63; (with_reducible refine (K2.out _ HT1.out.left).mono ?_); rintro e w2 ⟨rfl, hT⟩; have HT2 := Lib.hid hT; clear hT)
            | (go_at_call 62; (with_reducible refine (K3.out _ HT2.out.left).mono ?_); rintro e w3 ⟨rfl, hT⟩; have HT3 := Lib.hid hT; clear hT)
            | (go_at_call 64; (with_reducible refine (K4.out _ HT3.out.left).mono ?_); rintro e w4 ⟨rfl, hT⟩; have HT4 := Lib.hid hT; clear hT)
            | (go_at_call 63; (with_reducible refine (K5.out _ HT4.out.left).mono ?_); rintro e w5 ⟨rfl, hT⟩; have HT5 := Lib.hid hT; clear hT; have HG := Lib.hid (gb_trans HT1.out.gb (gb_trans HT2.out.gb (gb_trans HT3.out.gb (gb_trans HT4.out.gb HT5.out.gb)))); have HB5 : Below w.heap.size w w5 := HB00.out.grown HG.out HB00.out.size (fun k e => by cases e; exact Nat.le_refl _); have HS5 := HB5.size; have HO5 := Lib.hid (Own.took HO00.out (Nat.lt_succ_self _) HG.out); have HW5 : wr.heap.size < w5.heap.size := (by have := HG.out.size; rw [World.size_alloc] at this; omega); obtain ⟨y0, y1, y2, y3, y4⟩ := new_cells HG.out (by omega); obtain ⟨fy0, fy1, fy2, fy3, fy4⟩ := new_free HG.out (by omega); have HS9 := Lib.hid (gb_setC (gb_row (a := w5) (g := wr.heap.size)) (o := 0) ⟨sa, sb, vc, ((dn : Int) == 1), se⟩); have HB9 := Lib.hid (HB5.grown HS9.out HS5 (fun k e => by cases e; omega))))
            have hb9 := HB9.out
            simp only [setC] at hb9
            exact Hend.out _ hb9
          · skip
            cases ic
            · have Hend := Lib.hid (Hbad.out (by rw [HCR.out]; simp))
              go_wp2_with (first
              | (go_at_call 63; (with_reducible refine (K1.out _ HL0.out).mono ?_); rintro e w1 ⟨rfl, hT⟩; have HT1 := Lib.hid hT; clear hT)
              | (go_at_call 63; (with_reducible refine (K2.out _ HT1.out.left).mono ?_); rintro e w2 ⟨rfl, hT⟩; have HT2 := Lib.hid hT; clear hT)
              | (go_at_call 62; (with_reducible refine (K3.out _ HT2.out.left).mono ?_); rintro e w3 ⟨rfl, hT⟩; have HT3 := Lib.hid hT; clear hT)
              | (go_at_call 64; (with_reducible refine (K4.out _ HT3.out.left).mono ?_); rintro e w4 ⟨rfl, hT⟩; have HT4 := Lib.hid hT; clear hT)
              | (go_at_call 63; (with_reducible refine (K5.out _ HT4.out.left).mono ?_); rintro e w5 ⟨rfl, hT⟩; have HT5 := Lib.hid hT; clear hT; have HG := Lib.hid (gb_trans HT1.out.gb (gb_trans HT2.out.gb (gb_trans HT3.out.gb (gb_trans HT4.out.gb HT5.out.gb)))); have HB5 : Below w.heap.size w w5 := HB00.out.grown HG.out HB00.out.size (fun k e => by cases e; exact Nat.le_refl _); have HS5 := HB5.size; have HO5 := Lib.hid (Own.took HO00.out (Nat.lt_succ_self _) HG.out); have HW5 : wr.heap.size < w5.heap.size := (by have := HG.out.size; rw [World.size_alloc] at this; omega); obtain ⟨y0, y1, y2, y3, y4⟩ := new_cells HG.out (by omega); obtain ⟨fy0, fy1, fy2, fy3, fy4⟩ := new_free HG.out (by omega); have HS9 := Lib.hid (gb_setC (gb_row (a := w5) (g := wr.heap.size)) (o := 0) ⟨sa, sb, vc, ((dn : Int) == 1), se⟩); have HB9 := Lib.hid (HB5.grown HS9.out HS5 (fun k e => by cases e; omega))))
              have hb9 := HB9.out
              simp only [setC] at hb9
              exact Hend.out _ hb9
            · skip
              cases id
              · have Hend := Lib.hid (Hbad.out (by rw [HCR.out]; simp))
                go_wp2_with (first
                | (go_at_call 63; (with_reducible refine (K1.out _ HL0.out).mono ?_); rintro e w1 ⟨rfl, hT⟩; have HT1 := Lib.hid hT; clear hT)
                | (go_at_call 63; (with_reducible refine (K2.out _ HT1.out.left).mono ?_); rintro e w2 ⟨rfl, hT⟩; have HT2 := Lib.hid hT; clear hT)
                | (go_at_call 62; (with_reducible refine (K3.out _ HT2.out.left).mono ?_); rintro e w3 ⟨rfl, hT⟩; have HT3 := Lib.hid hT; clear hT)
                | (go_at_call 64; (with_reducible refine (K4.out _ HT3.out.left).mono ?_); rintro e w4 ⟨rfl, hT⟩; have HT4 := Lib.hid hT; clear hT)
                | (go_at_call 63; (with_reducible refine (K5.out _ HT4.out.left).mono ?_); rintro e w5 ⟨rfl, hT⟩; have HT5 := Lib.hid hT; clear hT; have HG := Lib.hid (gb_trans HT1.out.gb (gb_trans HT2.out.gb (gb_trans HT3.out.gb (gb_trans HT4.out.gb HT5.out.gb)))); have HB5 : Below w.heap.size w w5 := HB00.out.grown HG.out HB00.out.size (fun k e => by cases e; exact Nat.le_refl _); have HS5 := HB5.size; have HO5 := Lib.hid (Own.took HO00.out (Nat.lt_succ_self _) HG.out); have HW5 : wr.heap.size < w5.heap.size := (by have := HG.out.size; rw [World.size_alloc] at this; omega); obtain ⟨y0, y1, y2, y3, y4⟩ := new_cells HG.out (by omega); obtain ⟨fy0, fy1, fy2, fy3, fy4⟩ := new_free HG.out (by omega); have HS9 := Lib.hid (gb_setC (gb_row (a := w5) (g := wr.heap.size)) (o := 0) ⟨sa, sb, vc, ((dn : Int) == 1), se⟩); have HB9 := Lib.hid (HB5.grown HS9.out HS5 (fun k e => by cases e; omega))))
                have hb9 := HB9.out
                simp only [setC] at hb9
                exact Hend.out _ hb9
              · skip
                cases ie
                · have Hend := Lib.hid (Hbad.out (by rw [HCR.out]; simp))
                  go_wp2_with (first
                  | (go_at_call 63; (with_reducible refine (K1.out _ HL0.out).mono ?_); rintro e w1 ⟨rfl, hT⟩; have HT1 := Lib.hid hT; clear hT)
                  | (go_at_call 63; (with_reducible refine (K2.out _ HT1.out.left).mono ?_); rintro e w2 ⟨rfl, hT⟩; have HT2 := Lib.hid hT; clear hT)
                  | (go_at_call 62; (with_reducible refine (K3.out _ HT2.out.left).mono ?_); rintro e w3 ⟨rfl, hT⟩; have HT3 := Lib.hid hT; clear hT)
                  | (go_at_call 64; (with_reducible refine (K4.out _ HT3.out.left).mono ?_); rintro e w4 ⟨rfl, hT⟩; have HT4 := Lib.hid hT; clear hT)
                  | (go_at_call 63; (with_reducible refine (K5.out _ HT4.out.left).mono ?_); rintro e w5 ⟨rfl, hT⟩; have HT5 := Lib.hid hT; clear hT; have HG := Lib.hid (gb_trans HT1.out.gb (gb_trans HT2.out.gb (gb_trans HT3.out.gb (gb_trans HT4.out.gb HT5.out.gb)))); have HB5 : Below w.heap.size w w5 := HB00.out.grown HG.out HB00.out.size (fun k e => by cases e; exact Nat.le_refl _); have HS5 := HB5.size; have HO5 := Lib.hid (Own.took HO00.out (Nat.lt_succ_self _) HG.out); have HW5 : wr.heap.size < w5.heap.size := (by have := HG.out.size; rw [World.size_alloc] at this; omega); obtain ⟨y0, y1, y2, y3, y4⟩ := new_cells HG.out (by omega); obtain ⟨fy0, fy1, fy2, fy3, fy4⟩ := new_free HG.out (by omega); have HS9 := Lib.hid (gb_setC (gb_row (a := w5) (g := wr.heap.size)) (o := 0) ⟨sa, sb, vc, ((dn : Int) == 1), se⟩); have HB9 := Lib.hid (HB5.grown HS9.out HS5 (fun k e => by cases e; omega))))
                  have hb9 := HB9.out
                  simp only [setC] at hb9
                  exact Hend.out _ hb9
                · skip
                  by_cases hd1 : 1 < dn
                  · have Hend := Lib.hid (Hbad.out (by rw [HCR.out]; simp; omega))
                    go_wp2_with (first
                    | (go_at_call 63; (with_reducible refine (K1.out _ HL0.out).mono ?_); rintro e w1 ⟨rfl, hT⟩; have HT1 := Lib.hid hT; clear hT)
                    | (go_at_call 63; (with_reducible refine (K2.out _ HT1.out.left).mono ?_); rintro e w2 ⟨rfl, hT⟩; have HT2 := Lib.hid hT; clear hT)
                    | (go_at_call 62; (with_reducible refine (K3.out _ HT2.out.left).mono ?_); rintro e w3 ⟨rfl, hT⟩; have HT3 := Lib.hid hT; clear hT)
                    | (go_at_call 64; (with_reducible refine (K4.out _ HT3.out.left).mono ?_); rintro e w4 ⟨rfl, hT⟩; have HT4 := Lib.hid hT; clear hT)
                    | (go_at_call 63; (with_reducible refine (K5.out _ HT4.out.left).mono ?_); rintro e w5 ⟨rfl, hT⟩; have HT5 := Lib.hid hT; clear hT; have HG := Lib.hid (gb_trans HT1.out.gb (gb_trans HT2.out.gb (gb_trans HT3.out.gb (gb_trans HT4.out.gb HT5.out.gb)))); have HB5 : Below w.heap.size w w5 := HB00.out.grown HG.out HB00.out.size (fun k e => by cases e; exact Nat.le_refl _); have HS5 := HB5.size; have HO5 := Lib.hid (Own.took HO00.out (Nat.lt_succ_self _) HG.out); have HW5 : wr.heap.size < w5.heap.size := (by have := HG.out.size; rw [World.size_alloc] at this; omega); obtain ⟨y0, y1, y2, y3, y4⟩ := new_cells HG.out (by omega); obtain ⟨fy0, fy1, fy2, fy3, fy4⟩ := new_free HG.out (by omega); have HS9 := Lib.hid (gb_setC (gb_row (a := w5) (g := wr.heap.size)) (o := 0) ⟨sa, sb, vc, ((dn : Int) == 1), se⟩); have HB9 := Lib.hid (HB5.grown HS9.out HS5 (fun k e => by cases e; omega))))
                    have hb9 := HB9.out
                    simp only [setC] at hb9
                    exact Hend.out _ hb9
                  · have hd2 : dn = 0 ∨ dn = 1 := by omega
                    clear hd1 hdl
                    rcases hd2 with rfl | rfl
                    · simp only [Nat.reduceEqDiff, Nat.reduceLeDiff, decide_true, decide_false, Nat.zero_le, Bool.true_and, Bool.and_true, Nat.zero_ne_one, Nat.le_refl] at HCR
                      have hxo : ∀ g : Bool, (⟨sa, sb, vc, g, se⟩ : CellA).Ok := fun g => ⟨hza, hzb, hze, by simp, by simp only; omega⟩
                      rcases Bool.eq_false_or_eq_true (cellL ⟨sa, sb, vc, false, se⟩) with hv | hv
                      · have K6 := Lib.hid fun W => rcell_ok ⟨sa, sb, vc, false, se⟩ W (hxo false) (by simp [badC, hv])
                        have HN : Hid (decR v0 l1 = (decR (v0 - (k + 1)) re).map fun r => ((acc ++ [(⟨sa, sb, vc, false, se⟩ : CellA)]) ++ r.1, r.2)) := Lib.hid (by
                          have h1 := hD.out.all
                          obtain ⟨m, hm⟩ : ∃ m, v0 - k = m + 1 := ⟨v0 - k - 1, by omega⟩
                          rw [hm, decR, HCR.out] at h1
                          rw [h1, show v0 - (k + 1) = m by omega]
                          simp only [hv, if_true, Option.map_map]
                          congr 1; funext r; simp)
                        have hln := Lib.hid (show (acc.length + 1) * 64 ≤ 140737488355328 by have := hD.out.len; omega)
                        clear hv hxo hza hzb hze
                        go_wp2_with (first
                        | (go_at_call 63; (with_reducible refine (K1.out _ HL0.out).mono ?_); rintro e w1 ⟨rfl, hT⟩; have HT1 := Lib.hid hT; clear hT)
                        | (go_at_call 63; (with_reducible refine (K2.out _ HT1.out.left).mono ?_); rintro e w2 ⟨rfl, hT⟩; have HT2 := Lib.hid hT; clear hT)
                        | (go_at_call 62; (with_reducible refine (K3.out _ HT2.out.left).mono ?_); rintro e w3 ⟨rfl, hT⟩; have HT3 := Lib.hid hT; clear hT)
                        | (go_at_call 64; (with_reducible refine (K4.out _ HT3.out.left).mono ?_); rintro e w4 ⟨rfl, hT⟩; have HT4 := Lib.hid hT; clear hT)
                        | (go_at_call 63; (with_reducible refine (K5.out _ HT4.out.left).mono ?_); rintro e w5 ⟨rfl, hT⟩; have HT5 := Lib.hid hT; clear hT; have HG := Lib.hid (gb_trans HT1.out.gb (gb_trans HT2.out.gb (gb_trans HT3.out.gb (gb_trans HT4.out.gb HT5.out.gb)))); have HB5 : Below w.heap.size w w5 := HB00.out.grown HG.out HB00.out.size (fun k e => by cases e; exact Nat.le_refl _); have HS5 := HB5.size; have HO5 := Lib.hid (Own.took HO00.out (Nat.lt_succ_self _) HG.out); have HW5 : wr.heap.size < w5.heap.size := (by have := HG.out.size; rw [World.size_alloc] at this; omega); obtain ⟨y0, y1, y2, y3, y4⟩ := new_cells HG.out (by omega); obtain ⟨fy0, fy1, fy2, fy3, fy4⟩ := new_free HG.out (by omega); have HS9 := Lib.hid (gb_setC (gb_row (a := w5) (g := wr.heap.size)) (o := 0) ⟨sa, sb, vc, false, se⟩); have HB9 := Lib.hid (HB5.grown HS9.out HS5 (fun k e => by cases e; omega)))
                          | (go_at_call 38; refine (K6.out _).mono ?_; rintro e w6 ⟨rfl, hb⟩; have hs9 := HS9.out; have hb9 := HB9.out; simp only [setC, Nat.zero_add] at hs9 hb9; have HW6 := Lib.hid hb; have HB6 := Lib.hid (hb9.trans (hb.mono hb9.size)); have HO6 := Lib.hid (Row.below (own_apart HO5.out hs9 HOlt.out) hb); have HL6 := Lib.hid (Left.keep (left_apart HT5.out.left hs9 HLT.out) hb); have hz6 := hb.size; have hk6 := fun o => hb.cell (p := ⟨wr.heap.size, o, none⟩) (by go_size); have q0 := hk6 0; have q1 := hk6 1; have q2 := hk6 2; have q3 := hk6 3; have q4 := hk6 4; simp only [World.size_setCell] at hz6; clear hb hs9 hb9 hk6)
                          | (at_builtin; refine wpList_append_arr _ rfl _ _ 22 rfl (w.heap.size + 1) 32 i0 _ 5 64 Try.underlying22 Hi.out hz0 hz1 hz2 rfl (by decide) u7 _ _ rfl (Row.alloc HO6.out _) rfl (cells_new w6 _ [⟨sa, sb, vc, false, se⟩] _ 1 _ rfl rfl (by decide) rfl) hln.out (by have := hln.out; unfold maxLen; omega) (by rw [World.size_alloc]; have := HLT.out; omega) ?_; intro v1 w7 hr7 hb7 hg7; have HR7 := Lib.hid hr7; have HB7 := Lib.hid (HB6.out.trans (((Below.refl _ _).alloc HB6.out.size _).trans (hb7.mono (Nat.le_succ _)))); have HL7 := Lib.hid (Left.upto (Left.upto HL6.out ((Below.refl _ _).alloc (Nat.le_refl _) _) (by have := HLT.out; omega)) hb7 (Nat.lt_succ_self _)); clear hr7 hb7 hg7))
                        exact ⟨⟨k + 1, _, re, by omega, by go_num, Lib.hid ⟨HN.out, by rw [List.length_append, hD.out.len]; rfl, by omega, own_snoc rfl HR7.out, HL7.out, HB7.out⟩⟩, by simp [intOf]; omega⟩
                      · have Hend := Lib.hid (Hbad.out (by rw [HCR.out]; simp only [hv]))
                        have K6 := Lib.hid fun W => rcell_bad ⟨sa, sb, vc, false, se⟩ W (hxo false) (by simp [badC, hv])
                        clear hv hxo
                        go_wp2_with (first
                        | (go_at_call 63; (with_reducible refine (K1.out _ HL0.out).mono ?_); rintro e w1 ⟨rfl, hT⟩; have HT1 := Lib.hid hT; clear hT)
                        | (go_at_call 63; (with_reducible refine (K2.out _ HT1.out.left).mono ?_); rintro e w2 ⟨rfl, hT⟩; have HT2 := Lib.hid hT; clear hT)
                        | (go_at_call 62; (with_reducible refine (K3.out _ HT2.out.left).mono ?_); rintro e w3 ⟨rfl, hT⟩; have HT3 := Lib.hid hT; clear hT)
                        | (go_at_call 64; (with_reducible refine (K4.out _ HT3.out.left).mono ?_); rintro e w4 ⟨rfl, hT⟩; have HT4 := Lib.hid hT; clear hT)
                        | (go_at_call 63; (with_reducible refine (K5.out _ HT4.out.left).mono ?_); rintro e w5 ⟨rfl, hT⟩; have HT5 := Lib.hid hT; clear hT; have HG := Lib.hid (gb_trans HT1.out.gb (gb_trans HT2.out.gb (gb_trans HT3.out.gb (gb_trans HT4.out.gb HT5.out.gb)))); have HB5 : Below w.heap.size w w5 := HB00.out.grown HG.out HB00.out.size (fun k e => by cases e; exact Nat.le_refl _); have HS5 := HB5.size; have HO5 := Lib.hid (Own.took HO00.out (Nat.lt_succ_self _) HG.out); have HW5 : wr.heap.size < w5.heap.size := (by have := HG.out.size; rw [World.size_alloc] at this; omega); obtain ⟨y0, y1, y2, y3, y4⟩ := new_cells HG.out (by omega); obtain ⟨fy0, fy1, fy2, fy3, fy4⟩ := new_free HG.out (by omega); have HS9 := Lib.hid (gb_setC (gb_row (a := w5) (g := wr.heap.size)) (o := 0) ⟨sa, sb, vc, false, se⟩); have HB9 := Lib.hid (HB5.grown HS9.out HS5 (fun k e => by cases e; omega)))
                          | (go_at_call 38; refine (K6.out _).mono ?_; rintro e w6 ⟨rfl, hb⟩; have hs9 := HS9.out; have hb9 := HB9.out; simp only [setC, Nat.zero_add] at hs9 hb9; have HW6 := Lib.hid hb; have HB6 := Lib.hid (hb9.trans (hb.mono hb9.size)); have HO6 := Lib.hid (Row.below (own_apart HO5.out hs9 HOlt.out) hb); have HL6 := Lib.hid (Left.keep (left_apart HT5.out.left hs9 HLT.out) hb); have hz6 := hb.size; have hk6 := fun o => hb.cell (p := ⟨wr.heap.size, o, none⟩) (by go_size); have q0 := hk6 0; have q1 := hk6 1; have q2 := hk6 2; have q3 := hk6 3; have q4 := hk6 4; simp only [World.size_setCell] at hz6; clear hb hs9 hb9 hk6))
                        exact Hend.out _ HB6.out
                    · simp only [Nat.reduceEqDiff, Nat.reduceLeDiff, decide_true, decide_false, Nat.zero_le, Bool.true_and, Bool.and_true, Nat.zero_ne_one, Nat.le_refl] at HCR
                      have hxo : ∀ g : Bool, (⟨sa, sb, vc, g, se⟩ : CellA).Ok := fun g => ⟨hza, hzb, hze, by simp, by simp only; omega⟩
                      rcases Bool.eq_false_or_eq_true (cellL ⟨sa, sb, vc, true, se⟩) with hv | hv
                      · have K6 := Lib.hid fun W => rcell_ok ⟨sa, sb, vc, true, se⟩ W (hxo true) (by simp [badC, hv])
                        have HN : Hid (decR v0 l1 = (decR (v0 - (k + 1)) re).map fun r => ((acc ++ [(⟨sa, sb, vc, true, se⟩ : CellA)]) ++ r.1, r.2)) := Lib.hid (by
                          have h1 := hD.out.all
                          obtain ⟨m, hm⟩ : ∃ m, v0 - k = m + 1 := ⟨v0 - k - 1, by omega⟩
                          rw [hm, decR, HCR.out] at h1
                          rw [h1, show v0 - (k + 1) = m by omega]
                          simp only [hv, if_true, Option.map_map]
                          congr 1; funext r; simp)
                        have hln := Lib.hid (show (acc.length + 1) * 64 ≤ 140737488355328 by have := hD.out.len; omega)
                        clear hv hxo hza hzb hze
                        go_wp2_with (first
                        | (go_at_call 63; (with_reducible refine (K1.out _ HL0.out).mono ?_); rintro e w1 ⟨rfl, hT⟩; have HT1 := Lib.hid hT; clear hT)
                        | (go_at_call 63; (with_reducible refine (K2.out _ HT1.out.left).mono ?_); rintro e w2 ⟨rfl, hT⟩; have HT2 := Lib.hid hT; clear hT)
                        | (go_at_call 62; (with_reducible refine (K3.out _ HT2.out.left).mono ?_); rintro e w3 ⟨rfl, hT⟩; have HT3 := Lib.hid hT; clear hT)
                        | (go_at_call 64; (with_reducible refine (K4.out _ HT3.out.left).mono ?_); rintro e w4 ⟨rfl, hT⟩; have HT4 := Lib.hid hT; clear hT)
                        | (go_at_call 63; (with_reducible refine (K5.out _ HT4.out.left).mono ?_); rintro e w5 ⟨rfl, hT⟩; have HT5 := Lib.hid hT; clear hT; have HG := Lib.hid (gb_trans HT1.out.gb (gb_trans HT2.out.gb (gb_trans HT3.out.gb (gb_trans HT4.out.gb HT5.out.gb)))); have HB5 : Below w.heap.size w w5 := HB00.out.grown HG.out HB00.out.size (fun k e => by cases e; exact Nat.le_refl _); have HS5 := HB5.size; have HO5 := Lib.hid (Own.took HO00.out (Nat.lt_succ_self _) HG.out); have HW5 : wr.heap.size < w5.heap.size := (by have := HG.out.size; rw [World.size_alloc] at this; omega); obtain ⟨y0, y1, y2, y3, y4⟩ := new_cells HG.out (by omega); obtain ⟨fy0, fy1, fy2, fy3, fy4⟩ := new_free HG.out (by omega); have HS9 := Lib.hid (gb_setC (gb_row (a := w5) (g := wr.heap.size)) (o := 0) ⟨sa, sb, vc, true, se⟩); have HB9 := Lib.hid (HB5.grown HS9.out HS5 (fun k e => by cases e; omega)))
                          | (go_at_call 38; refine (K6.out _).mono ?_; rintro e w6 ⟨rfl, hb⟩; have hs9 := HS9.out; have hb9 := HB9.out; simp only [setC, Nat.zero_add] at hs9 hb9; have HW6 := Lib.hid hb; have HB6 := Lib.hid (hb9.trans (hb.mono hb9.size)); have HO6 := Lib.hid (Row.below (own_apart HO5.out hs9 HOlt.out) hb); have HL6 := Lib.hid (Left.keep (left_apart HT5.out.left hs9 HLT.out) hb); have hz6 := hb.size; have hk6 := fun o => hb.cell (p := ⟨wr.heap.size, o, none⟩) (by go_size); have q0 := hk6 0; have q1 := hk6 1; have q2 := hk6 2; have q3 := hk6 3; have q4 := hk6 4; simp only [World.size_setCell] at hz6; clear hb hs9 hb9 hk6)
                          | (at_builtin; refine wpList_append_arr _ rfl _ _ 22 rfl (w.heap.size + 1) 32 i0 _ 5 64 Try.underlying22 Hi.out hz0 hz1 hz2 rfl (by decide) u7 _ _ rfl (Row.alloc HO6.out _) rfl (cells_new w6 _ [⟨sa, sb, vc, true, se⟩] _ 1 _ rfl rfl (by decide) rfl) hln.out (by have := hln.out; unfold maxLen; omega) (by rw [World.size_alloc]; have := HLT.out; omega) ?_; intro v1 w7 hr7 hb7 hg7; have HR7 := Lib.hid hr7; have HB7 := Lib.hid (HB6.out.trans (((Below.refl _ _).alloc HB6.out.size _).trans (hb7.mono (Nat.le_succ _)))); have HL7 := Lib.hid (Left.upto (Left.upto HL6.out ((Below.refl _ _).alloc (Nat.le_refl _) _) (by have := HLT.out; omega)) hb7 (Nat.lt_succ_self _)); clear hr7 hb7 hg7))
                        exact ⟨⟨k + 1, _, re, by omega, by go_num, Lib.hid ⟨HN.out, by rw [List.length_append, hD.out.len]; rfl, by omega, own_snoc rfl HR7.out, HL7.out, HB7.out⟩⟩, by simp [intOf]; omega⟩
                      · have Hend := Lib.hid (Hbad.out (by rw [HCR.out]; simp only [hv]))
                        have K6 := Lib.hid fun W => rcell_bad ⟨sa, sb, vc, true, se⟩ W (hxo true) (by simp [badC, hv])
                        clear hv hxo
                        go_wp2_with (first
                        | (go_at_call 63; (with_reducible refine (K1.out _ HL0.out).mono ?_); rintro e w1 ⟨rfl, hT⟩; have HT1 := Lib.hid hT; clear hT)
                        | (go_at_call 63; (with_reducible refine (K2.out _ HT1.out.left).mono ?_); rintro e w2 ⟨rfl, hT⟩; have HT2 := Lib.hid hT; clear hT)
                        | (go_at_call 62; (with_reducible refine (K3.out _ HT2.out.left).mono ?_); rintro e w3 ⟨rfl, hT⟩; have HT3 := Lib.hid hT; clear hT)
                        | (go_at_call 64; (with_reducible refine (K4.out _ HT3.out.left).mono ?_); rintro e w4 ⟨rfl, hT⟩; have HT4 := Lib.hid hT; clear hT)
                        | (go_at_call 63; (with_reducible refine (K5.out _ HT4.out.left).mono ?_); rintro e w5 ⟨rfl, hT⟩; have HT5 := Lib.hid hT; clear hT; have HG := Lib.hid (gb_trans HT1.out.gb (gb_trans HT2.out.gb (gb_trans HT3.out.gb (gb_trans HT4.out.gb HT5.out.gb)))); have HB5 : Below w.heap.size w w5 := HB00.out.grown HG.out HB00.out.size (fun k e => by cases e; exact Nat.le_refl _); have HS5 := HB5.size; have HO5 := Lib.hid (Own.took HO00.out (Nat.lt_succ_self _) HG.out); have HW5 : wr.heap.size < w5.heap.size := (by have := HG.out.size; rw [World.size_alloc] at this; omega); obtain ⟨y0, y1, y2, y3, y4⟩ := new_cells HG.out (by omega); obtain ⟨fy0, fy1, fy2, fy3, fy4⟩ := new_free HG.out (by omega); have HS9 := Lib.hid (gb_setC (gb_row (a := w5) (g := wr.heap.size)) (o := 0) ⟨sa, sb, vc, true, se⟩); have HB9 := Lib.hid (HB5.grown HS9.out HS5 (fun k e => by cases e; omega)))
                          | (go_at_call 38; refine (K6.out _).mono ?_; rintro e w6 ⟨rfl, hb⟩; have hs9 := HS9.out; have hb9 := HB9.out; simp only [setC, Nat.zero_add] at hs9 hb9; have HW6 := Lib.hid hb; have HB6 := Lib.hid (hb9.trans (hb.mono hb9.size)); have HO6 := Lib.hid (Row.below (own_apart HO5.out hs9 HOlt.out) hb); have HL6 := Lib.hid (Left.keep (left_apart HT5.out.left hs9 HLT.out) hb); have hz6 := hb.size; have hk6 := fun o => hb.cell (p := ⟨wr.heap.size, o, none⟩) (by go_size); have q0 := hk6 0; have q1 := hk6 1; have q2 := hk6 2; have q3 := hk6 3; have q4 := hk6 4; simp only [World.size_setCell] at hz6; clear hb hs9 hb9 hk6))
                        exact Hend.out _ HB6.out
      · obtain rfl : k = v0 := by omega
        have hall := hD.out.all
        rw [Nat.sub_self, decR, Option.map_some, List.append_nil] at hall
        have hlf := Lib.hid fun W (h : Left W w.heap.size rest) => rleft_any rest w.heap.size W h
        obtain ⟨sz, hsz⟩ : ∃ z, z = rest.length := ⟨_, rfl⟩
        have Hsz := Lib.hid hsz
        rw [← hsz] at hlf hrl
        clear hsz
        by_cases hz : sz = 0
        · subst hz
          have hr0 : rest = [] := List.eq_nil_of_length_eq_zero Hsz.out.symm
          have Hend : Hid (∀ w' v, Below w.heap.size w w' → Own w' w.heap.size v acc → P (.returned (.tuple #[v, .int .i64 0])) w') := Lib.hid fun w' v h ho => by
            rw [HP.out]
            exact ⟨.inl ⟨acc, v, by rw [Hdv.out, hall, hr0], rfl, ho⟩, h⟩
          clear hr0 hall
          go_wp2_with (go_at_call 65; refine (hlf.out _ hD.out.left).mono ?_; rintro e w' ⟨rfl, rfl⟩)
          exact Hend.out _ _ hD.out.bel (Row.mono hD.out.own (Nat.le_succ _))
        · have Hend : Hid (∀ w', Below w.heap.size w w' → P (.returned (.tuple #[.slice none 0 0, .int .i64 4])) w') := Lib.hid fun w' h => by
            rw [HP.out]
            refine ⟨.inr ⟨?_, rfl⟩, h⟩
            rw [Hdv.out, hall]
            cases rest with
            | nil => exact absurd Hsz.out hz
            | cons c r => rfl
          have hz1 : 0 < sz := by omega
          clear hall
          go_wp2_with (go_at_call 65; refine (hlf.out _ hD.out.left).mono ?_; rintro e w' ⟨rfl, rfl⟩)
          exact Hend.out _ hD.out.bel
  · have hn : decV s.toList = none := by unfold decV; rw [if_neg (by rw [← his, ← hv0, hsl]; exact hgo)]
    have Hn := Lib.hid hn
    have Hend : Hid (∀ w', Below w.heap.size w w' → P (.returned (.tuple #[.slice none 0 0, .int .i64 4])) w') := Lib.hid fun w' h => by rw [HP.out]; exact ⟨.inr ⟨Hn.out, rfl⟩, h⟩
    clear hn hsl
    by_cases h0 : 1048576 < s.size
    · clear hgo his hv0
      go_enter Try.func30, Try.ntmps30
      go_wp2
      exact Hend.out _ (Below.refl _ _)
    · have h3 : is0 = false ∨ (is0 = true ∧ s.size < v0) := by
        cases is0
        · simp
        · simp only [true_and] at hgo ⊢
          right; omega
      clear hgo
      rcases h3 with rfl | ⟨rfl, h4⟩
      all_goals
        clear his hv0
        go_enter Try.func30, Try.ntmps30
        go_wp2_with (first
          | (go_at_call 61; refine Hnew.out.mono ?_; rintro e w' ⟨rfl, rfl⟩)
          | (go_at_call 62; refine HK.out.mono ?_; rintro e w1 ⟨rfl, hT⟩; have HB1 : Hid (Below w.heap.size w w1) := Lib.hid (((Below.refl _ _).alloc (Nat.le_refl _) _).grown hT.gb (by rw [World.size_alloc]; omega) (fun k e => by cases e; exact Nat.le_refl _)); clear hT))
        exact Hend.out _ HB1.out
end Go.Proofs.Ytjalccnkfpjchaa
