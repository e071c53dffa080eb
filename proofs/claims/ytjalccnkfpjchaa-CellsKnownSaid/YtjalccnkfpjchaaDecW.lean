/-
  The walk of cells.Decode.
-/
import Derived.Test.YtjalccnkfpjchaaReadW
import Derived.Test.YtjalccnkfpjchaaWorks4W
import Derived.Test.YtjalccnkfpjchaaWithinW
namespace Go.Proofs.Ytjalccnkfpjchaa
open Go.RowKit

/-- one cell at the beginning of bytes: the cell, whether it may be, what is left -/
structure CellR where
  x : CellA
  ok : Bool
  rest : List UInt8
def cellR (l : List UInt8) : CellR :=
  let a := textR 32 l
  let b := textR 16 a.2.2
  let c := numR b.2.2
  let d := byteR c.2.2
  let e := textR 65536 d.2.2
  let x : CellA := ⟨ofL a.1, ofL b.1, c.1, decide (d.1.toNat = 1), ofL e.1⟩
  ⟨x, a.2.1 && b.2.1 && c.2.1 && d.2.1 && e.2.1 && decide (d.1.toNat ≤ 1) && cellL x, e.2.2⟩
def decR : Nat → List UInt8 → Option (List CellA × List UInt8)
  | 0, l => some ([], l)
  | n + 1, l => if (cellR l).ok then (decR n (cellR l).rest).map fun r => ((cellR l).x :: r.1, r.2) else none
def decV (l : List UInt8) : Option (List CellA) :=
  if (numR l).2.1 = true ∧ l.length ≤ 1048576 ∧ (numR l).1 ≤ l.length then
    match decR (numR l).1 (numR l).2.2 with
    | some (cs, []) => some cs
    | _ => none
  else none

theorem numR_rest (l : List UInt8) : (numR l).2.2.length ≤ l.length := by
  unfold numR; cases takeL l <;> simp
theorem textR_rest (m : Int) (l : List UInt8) : (textR m l).2.2.length ≤ l.length := by
  unfold textR; cases textL l m <;> simp
theorem byteR_rest (l : List UInt8) : (byteR l).2.2.length ≤ l.length := by
  unfold byteR; cases l <;> simp
theorem Left.upto {w w' : World} {b B : Nat} {l : List UInt8} (h : Left w b l) (hb : Below B w w') (hl : b < B) : Left w' b l :=
  ⟨(hb.cell (p := ⟨b, 0, none⟩) hl).trans h.cell, (hb.frozen (p := ⟨b, 0, none⟩) hl).trans h.fro⟩
theorem cell_ok (c : CellA) (w : World) (h : c.Ok) (hv : cellL c = true) :
    Calls Try.prog 34 #[c.v] w fun e w' => e = .returned (.int .i64 0) ∧ Below w.heap.size w w' := by
  have := cell_any c w h; rw [hv] at this; exact this
theorem cell_bad (c : CellA) (w : World) (h : c.Ok) (hv : cellL c = false) :
    Calls Try.prog 34 #[c.v] w fun e w' => e = .returned (.int .i64 2) ∧ Below w.heap.size w w' := by
  have := cell_any c w h; rw [hv] at this; exact this
theorem Own.took {w w' : World} {B b : Nat} {v : Value} {cs : List CellA} (h : Own w B v cs) (hb : b < B) (g : w.grownBy w' (some b)) : Own w' B v cs :=
  Row.of_heap h fun k hk => g.block k (Row.lt h k hk).2 (by have := (Row.lt h k hk).1; simp; omega)
theorem Left.below {w w' : World} {b : Nat} {l : List UInt8} (h : Left w b l) (hb : Below w.heap.size w w') : Left w' b l := by
  have hl : b < w.heap.size := World.block_lt_of_cell? _ _ h.cell
  exact ⟨(hb.cell (p := ⟨b, 0, none⟩) hl).trans h.cell, (hb.frozen (p := ⟨b, 0, none⟩) hl).trans h.fro⟩

/-- Decode after k cells. -/
structure DecRel (w : World) (n k : Nat) (l0 : List UInt8) (acc : List CellA) (rest : List UInt8) (v : Value) (wr : World) : Prop where
  all : decR n l0 = (decR (n - k) rest).map fun r => (acc ++ r.1, r.2)
  len : acc.length = k
  le : rest.length ≤ 1048576
  own : Own wr (w.heap.size + 1) v acc
  left : Left wr w.heap.size rest
  bel : Below w.heap.size w wr

set_option maxRecDepth 100000 in
set_option maxHeartbeats 8000000 in
theorem decode_any (s : ByteArray) (w : World) (hs : s.size ≤ maxLen) :
    Calls Try.prog 29 #[.string s] w fun e w' =>
      ((∃ cs v, decV s.toList = some cs ∧ e = .returned (.tuple #[v, .int .i64 0]) ∧ Own w' w.heap.size v cs) ∨ (decV s.toList = none ∧ e = .returned (.tuple #[.slice none 0 0, .int .i64 4]))) ∧ Below w.heap.size w w' := by
  obtain ⟨i0, hi, hz0, hz1, hz2⟩ := info_parts Try.info_cell
  have Hi := Lib.hid hi
  have hsl : s.toList.length = s.size := size_list s
  have Hnew := Lib.hid (new_any s w)
  have hl0 : Left (w.alloc (.cells #[.string s] 82)) w.heap.size s.toList := ⟨by rw [ofL_self]; simp [World.cell?_alloc_new], by unfold World.frozen?; rw [heap_alloc_new]; rfl⟩
  have hK := num_r w.heap.size s.toList _ (by rw [hsl]; exact hs) hl0
  obtain ⟨P, hP⟩ : ∃ P : Ending → World → Prop, P = fun e w' => ((∃ cs v, decV s.toList = some cs ∧ e = .returned (.tuple #[v, .int .i64 0]) ∧ Own w' w.heap.size v cs) ∨ (decV s.toList = none ∧ e = .returned (.tuple #[.slice none 0 0, .int .i64 4]))) ∧ Below w.heap.size w w' := ⟨_, rfl⟩
  rw [← hP]
  have HP := Lib.hid hP
  obtain ⟨v0, hv0⟩ : ∃ v, v = (numR s.toList).1 := ⟨_, rfl⟩
  obtain ⟨is0, his⟩ : ∃ v, v = (numR s.toList).2.1 := ⟨_, rfl⟩
  rw [← hv0, ← his] at hK
  have HK := Lib.hid hK
  unfold maxLen at hs
  have hvn : (numR s.toList).1 < 2 ^ 64 := by
    unfold numR
    cases ht : takeL s.toList with
    | none => simp
    | some r => exact (takeL_bounds ht).2.2.2
  rw [← hv0] at hvn
  clear hi hP hK hl0
  by_cases hgo : is0 = true ∧ s.size ≤ 1048576 ∧ v0 ≤ s.size
  · obtain ⟨rfl, hg1, hg2⟩ := hgo
    have hl1 := numR_rest s.toList
    have hdv : decV s.toList = match decR v0 (numR s.toList).2.2 with | some (cs, []) => some cs | _ => none := by
      unfold decV; rw [if_pos (by rw [← his, ← hv0, hsl]; exact ⟨rfl, hg1, hg2⟩), ← hv0]
    obtain ⟨l1, hl1e⟩ : ∃ l, l = (numR s.toList).2.2 := ⟨_, rfl⟩
    rw [← hl1e] at hdv hl1 HK
    have Hdv := Lib.hid hdv
    rw [hsl] at hl1
    clear hdv hl1e hsl his hv0 hvn
    have hdz : decide (1048576 < (s.size : Int)) = false := by simp; omega
    have hdz1 : decide (1048576 < s.size) = false := by simp; omega
    have hdz2 : decide ((s.size : Int) < (v0 : Int)) = false := by simp; omega
    have hdz3 : decide (s.size < v0) = false := by simp; omega
    go_enter Try.func29, Try.ntmps29
    go_wp2_with (first
        | (go_at_call 56; refine Hnew.out.mono ?_; rintro e w' ⟨rfl, rfl⟩)
        | (go_at_call 57; refine HK.out.mono ?_; rintro e w1 ⟨rfl, hT⟩; have HB1 : Hid (Below w.heap.size w w1) := Lib.hid (((Below.refl _ _).alloc (Nat.le_refl _) _).grown hT.gb (by rw [World.size_alloc]; omega) (fun k e => by cases e; exact Nat.le_refl _)); have HL1 := Lib.hid hT.left; clear hT))
    go_loopw [7, 41] (fun v i wr => ∃ (k : Nat) (acc : List CellA) (rest : List UInt8), k ≤ v0 ∧ i = .int .u64 k ∧ Hid (DecRel w v0 k l1 acc rest v wr)) (fun _ i _ => v0 - (intOf i).toNat)
    case atStart => exact ⟨0, [], l1, by omega, rfl, Lib.hid ⟨by simp, rfl, by omega, Row.nil _ _ _ _, HL1.out, HB1.out⟩⟩
    case round =>
      obtain ⟨k, acc, rest, hk, rfl, hD⟩ := hrel
      have HB0 := Lib.hid hD.out.bel
      have hrl := hD.out.le
      by_cases hlt : k < v0
      · have n1 := textR_rest 32 rest
        obtain ⟨⟨ta, ia, ra⟩, hA⟩ : ∃ x, x = textR 32 rest := ⟨_, rfl⟩
        rw [← hA] at n1
        have m1 := textR_len 32 rest
        rw [← hA] at m1
        have n2 := textR_rest 16 ra
        have m2 := textR_len 16 ra
        obtain ⟨⟨tb, ib, rb⟩, hB⟩ : ∃ x, x = textR 16 ra := ⟨_, rfl⟩
        rw [← hB] at n2 m2
        have n3 := numR_rest rb
        have m3 := numR_lt rb
        obtain ⟨⟨vc, ic, rc⟩, hC⟩ : ∃ x, x = numR rb := ⟨_, rfl⟩
        rw [← hC] at n3 m3
        have n4 := byteR_rest rc
        obtain ⟨⟨gd, id, rd⟩, hDd⟩ : ∃ x, x = byteR rc := ⟨_, rfl⟩
        rw [← hDd] at n4
        have n5 := textR_rest 65536 rd
        have m5 := textR_len 65536 rd
        obtain ⟨⟨te, ie, re⟩, hE⟩ : ∃ x, x = textR 65536 rd := ⟨_, rfl⟩
        rw [← hE] at n5 m5
        simp only at m1 m2 m3 m5
        simp only at n1 n2 n3 n4 n5
        have K1 := Lib.hid fun W h => text_r w.heap.size 32 rest W (by decide) (by unfold maxLen; omega) h
        have K2 := Lib.hid fun W h => text_r w.heap.size 16 ra W (by decide) (by unfold maxLen; omega) h
        have K3 := Lib.hid fun W h => num_r w.heap.size rb W (by unfold maxLen; omega) h
        have K4 := Lib.hid fun W h => byte_r w.heap.size rc W (by unfold maxLen; omega) h
        have K5 := Lib.hid fun W h => text_r w.heap.size 65536 rd W (by decide) (by unfold maxLen; omega) h
        have HCR : Hid (cellR rest = ⟨⟨ofL ta, ofL tb, vc, decide (gd.toNat = 1), ofL te⟩, ia && ib && ic && id && ie && decide (gd.toNat ≤ 1) && cellL ⟨ofL ta, ofL tb, vc, decide (gd.toNat = 1), ofL te⟩, re⟩) := Lib.hid (by
          unfold cellR; simp only [← hA, ← hB, ← hC, ← hDd, ← hE])
        rw [← hA] at K1
        rw [← hB] at K2
        rw [← hC] at K3
        rw [← hDd] at K4
        rw [← hE] at K5
        simp only at K1 K2 K3 K4 K5
        clear hA hB hC hDd hE
        obtain ⟨sa, hsa⟩ : ∃ s, s = ofL ta := ⟨_, rfl⟩
        obtain ⟨sb, hsb⟩ : ∃ s, s = ofL tb := ⟨_, rfl⟩
        obtain ⟨se, hse⟩ : ∃ s, s = ofL te := ⟨_, rfl⟩
        obtain ⟨dn, hdn⟩ : ∃ d, d = gd.toNat := ⟨_, rfl⟩
        rw [← hsa, ← hsb, ← hse, ← hdn] at HCR
        rw [← hsa] at K1
        rw [← hsb] at K2
        rw [← hdn] at K4
        rw [← hse] at K5
        have hdl : dn < 256 := by rw [hdn]; exact gd.toNat_lt
        have hza : sa.size ≤ maxLen := by rw [hsa, ofL_size]; unfold maxLen; omega
        have hzb : sb.size ≤ maxLen := by rw [hsb, ofL_size]; unfold maxLen; omega
        have hze : se.size ≤ maxLen := by rw [hse, ofL_size]; unfold maxLen; omega
        clear hsa hsb hse hdn m1 m2 m5
        have Hbad : Hid ((cellR rest).ok = false → ∀ w', Below w.heap.size w w' → P (.returned (.tuple #[.slice none 0 0, .int .i64 4])) w') := Lib.hid fun hb w' h => by
          have h1 := hD.out.all
          obtain ⟨m, hm⟩ : ∃ m, v0 - k = m + 1 := ⟨v0 - k - 1, by omega⟩
          rw [hm, decR, hb] at h1
          simp only [Bool.false_eq_true, if_false, Option.map_none] at h1
          rw [HP.out]
          exact ⟨.inr ⟨by rw [Hdv.out, h1], rfl⟩, h⟩
        cases ia
        · have Hend := Lib.hid (Hbad.out (by rw [HCR.out]; rfl))
          go_wp2_with (first
          | (go_at_call 58; (with_reducible refine (K1.out _ hD.out.left).mono ?_); rintro e w1 ⟨rfl, hT⟩; have HT1 := Lib.hid hT; clear hT)
          | (go_at_call 58; (with_reducible refine (K2.out _ HT1.out.left).mono ?_); rintro e w2 ⟨rfl, hT⟩; have HT2 := Lib.hid hT; clear hT)
          | (go_at_call 57; (with_reducible refine (K3.out _ HT2.out.left).mono ?_); rintro e w3 ⟨rfl, hT⟩; have HT3 := Lib.hid hT; clear hT)
          | (go_at_call 59; (with_reducible refine (K4.out _ HT3.out.left).mono ?_); rintro e w4 ⟨rfl, hT⟩; have HT4 := Lib.hid hT; clear hT)
          | (go_at_call 58; (with_reducible refine (K5.out _ HT4.out.left).mono ?_); rintro e w5 ⟨rfl, hT⟩; have HT5 := Lib.hid hT; clear hT; have HG := Lib.hid (gb_trans HT1.out.gb (gb_trans HT2.out.gb (gb_trans HT3.out.gb (gb_trans HT4.out.gb HT5.out.gb)))); have HB5 : Below w.heap.size w w5 := HB0.out.grown HG.out HB0.out.size (fun k e => by cases e; exact Nat.le_refl _); have HS5 := HB5.size; have HO5 := Lib.hid (Own.took hD.out.own (Nat.lt_succ_self _) HG.out); have HW5 : w.heap.size < w5.heap.size := World.block_lt_of_cell? _ _ HT5.out.left.cell))
          exact Hend.out _ (HB5.trans ((Below.refl _ _).alloc HS5 _))
        · cases ib
          · have Hend := Lib.hid (Hbad.out (by rw [HCR.out]; simp))
            go_wp2_with (first
            | (go_at_call 58; (with_reducible refine (K1.out _ hD.out.left).mono ?_); rintro e w1 ⟨rfl, hT⟩; have HT1 := Lib.hid hT; clear hT)
            | (go_at_call 58; (with_reducible refine (K2.out _ HT1.out.left).mono ?_); rintro e w2 ⟨rfl, hT⟩; have HT2 := Lib.hid hT; clear hT)
            | (go_at_call 57; (with_reducible refine (K3.out _ HT2.out.left).mono ?_); rintro e w3 ⟨rfl, hT⟩; have HT3 := Lib.hid hT; clear hT)
            | (go_at_call 59; (with_reducible refine (K4.out _ HT3.out.left).mono ?_); rintro e w4 ⟨rfl, hT⟩; have HT4 := Lib.hid hT; clear hT)
            | (go_at_call 58; (with_reducible refine (K5.out _ HT4.out.left).mono ?_); rintro e w5 ⟨rfl, hT⟩; have HT5 := Lib.hid hT; clear hT; have HG := Lib.hid (gb_trans HT1.out.gb (gb_trans HT2.out.gb (gb_trans HT3.out.gb (gb_trans HT4.out.gb HT5.out.gb)))); have HB5 : Below w.heap.size w w5 := HB0.out.grown HG.out HB0.out.size (fun k e => by cases e; exact Nat.le_refl _); have HS5 := HB5.size; have HO5 := Lib.hid (Own.took hD.out.own (Nat.lt_succ_self _) HG.out); have HW5 : w.heap.size < w5.heap.size := World.block_lt_of_cell? _ _ HT5.out.left.cell))
            exact Hend.out _ (HB5.trans ((Below.refl _ _).alloc HS5 _))
          · cases ic
            · have Hend := Lib.hid (Hbad.out (by rw [HCR.out]; simp))
              go_wp2_with (first
              | (go_at_call 58; (with_reducible refine (K1.out _ hD.out.left).mono ?_); rintro e w1 ⟨rfl, hT⟩; have HT1 := Lib.hid hT; clear hT)
              | (go_at_call 58; (with_reducible refine (K2.out _ HT1.out.left).mono ?_); rintro e w2 ⟨rfl, hT⟩; have HT2 := Lib.hid hT; clear hT)
              | (go_at_call 57; (with_reducible refine (K3.out _ HT2.out.left).mono ?_); rintro e w3 ⟨rfl, hT⟩; have HT3 := Lib.hid hT; clear hT)
              | (go_at_call 59; (with_reducible refine (K4.out _ HT3.out.left).mono ?_); rintro e w4 ⟨rfl, hT⟩; have HT4 := Lib.hid hT; clear hT)
              | (go_at_call 58; (with_reducible refine (K5.out _ HT4.out.left).mono ?_); rintro e w5 ⟨rfl, hT⟩; have HT5 := Lib.hid hT; clear hT; have HG := Lib.hid (gb_trans HT1.out.gb (gb_trans HT2.out.gb (gb_trans HT3.out.gb (gb_trans HT4.out.gb HT5.out.gb)))); have HB5 : Below w.heap.size w w5 := HB0.out.grown HG.out HB0.out.size (fun k e => by cases e; exact Nat.le_refl _); have HS5 := HB5.size; have HO5 := Lib.hid (Own.took hD.out.own (Nat.lt_succ_self _) HG.out); have HW5 : w.heap.size < w5.heap.size := World.block_lt_of_cell? _ _ HT5.out.left.cell))
              exact Hend.out _ (HB5.trans ((Below.refl _ _).alloc HS5 _))
            · cases id
              · have Hend := Lib.hid (Hbad.out (by rw [HCR.out]; simp))
                go_wp2_with (first
                | (go_at_call 58; (with_reducible refine (K1.out _ hD.out.left).mono ?_); rintro e w1 ⟨rfl, hT⟩; have HT1 := Lib.hid hT; clear hT)
                | (go_at_call 58; (with_reducible refine (K2.out _ HT1.out.left).mono ?_); rintro e w2 ⟨rfl, hT⟩; have HT2 := Lib.hid hT; clear hT)
                | (go_at_call 57; (with_reducible refine (K3.out _ HT2.out.left).mono ?_); rintro e w3 ⟨rfl, hT⟩; have HT3 := Lib.hid hT; clear hT)
                | (go_at_call 59; (with_reducible refine (K4.out _ HT3.out.left).mono ?_); rintro e w4 ⟨rfl, hT⟩; have HT4 := Lib.hid hT; clear hT)
                | (go_at_call 58; (with_reducible refine (K5.out _ HT4.out.left).mono ?_); rintro e w5 ⟨rfl, hT⟩; have HT5 := Lib.hid hT; clear hT; have HG := Lib.hid (gb_trans HT1.out.gb (gb_trans HT2.out.gb (gb_trans HT3.out.gb (gb_trans HT4.out.gb HT5.out.gb)))); have HB5 : Below w.heap.size w w5 := HB0.out.grown HG.out HB0.out.size (fun k e => by cases e; exact Nat.le_refl _); have HS5 := HB5.size; have HO5 := Lib.hid (Own.took hD.out.own (Nat.lt_succ_self _) HG.out); have HW5 : w.heap.size < w5.heap.size := World.block_lt_of_cell? _ _ HT5.out.left.cell))
                exact Hend.out _ (HB5.trans ((Below.refl _ _).alloc HS5 _))
              · cases ie
                · have Hend := Lib.hid (Hbad.out (by rw [HCR.out]; simp))
                  go_wp2_with (first
                  | (go_at_call 58; (with_reducible refine (K1.out _ hD.out.left).mono ?_); rintro e w1 ⟨rfl, hT⟩; have HT1 := Lib.hid hT; clear hT)
                  | (go_at_call 58; (with_reducible refine (K2.out _ HT1.out.left).mono ?_); rintro e w2 ⟨rfl, hT⟩; have HT2 := Lib.hid hT; clear hT)
                  | (go_at_call 57; (with_reducible refine (K3.out _ HT2.out.left).mono ?_); rintro e w3 ⟨rfl, hT⟩; have HT3 := Lib.hid hT; clear hT)
                  | (go_at_call 59; (with_reducible refine (K4.out _ HT3.out.left).mono ?_); rintro e w4 ⟨rfl, hT⟩; have HT4 := Lib.hid hT; clear hT)
                  | (go_at_call 58; (with_reducible refine (K5.out _ HT4.out.left).mono ?_); rintro e w5 ⟨rfl, hT⟩; have HT5 := Lib.hid hT; clear hT; have HG := Lib.hid (gb_trans HT1.out.gb (gb_trans HT2.out.gb (gb_trans HT3.out.gb (gb_trans HT4.out.gb HT5.out.gb)))); have HB5 : Below w.heap.size w w5 := HB0.out.grown HG.out HB0.out.size (fun k e => by cases e; exact Nat.le_refl _); have HS5 := HB5.size; have HO5 := Lib.hid (Own.took hD.out.own (Nat.lt_succ_self _) HG.out); have HW5 : w.heap.size < w5.heap.size := World.block_lt_of_cell? _ _ HT5.out.left.cell))
                  exact Hend.out _ (HB5.trans ((Below.refl _ _).alloc HS5 _))
                · by_cases hd1 : 1 < dn
                  · have Hend := Lib.hid (Hbad.out (by rw [HCR.out]; simp; omega))
                    go_wp2_with (first
                    | (go_at_call 58; (with_reducible refine (K1.out _ hD.out.left).mono ?_); rintro e w1 ⟨rfl, hT⟩; have HT1 := Lib.hid hT; clear hT)
                    | (go_at_call 58; (with_reducible refine (K2.out _ HT1.out.left).mono ?_); rintro e w2 ⟨rfl, hT⟩; have HT2 := Lib.hid hT; clear hT)
                    | (go_at_call 57; (with_reducible refine (K3.out _ HT2.out.left).mono ?_); rintro e w3 ⟨rfl, hT⟩; have HT3 := Lib.hid hT; clear hT)
                    | (go_at_call 59; (with_reducible refine (K4.out _ HT3.out.left).mono ?_); rintro e w4 ⟨rfl, hT⟩; have HT4 := Lib.hid hT; clear hT)
                    | (go_at_call 58; (with_reducible refine (K5.out _ HT4.out.left).mono ?_); rintro e w5 ⟨rfl, hT⟩; have HT5 := Lib.hid hT; clear hT; have HG := Lib.hid (gb_trans HT1.out.gb (gb_trans HT2.out.gb (gb_trans HT3.out.gb (gb_trans HT4.out.gb HT5.out.gb)))); have HB5 : Below w.heap.size w w5 := HB0.out.grown HG.out HB0.out.size (fun k e => by cases e; exact Nat.le_refl _); have HS5 := HB5.size; have HO5 := Lib.hid (Own.took hD.out.own (Nat.lt_succ_self _) HG.out); have HW5 : w.heap.size < w5.heap.size := World.block_lt_of_cell? _ _ HT5.out.left.cell))
                    exact Hend.out _ (HB5.trans ((Below.refl _ _).alloc HS5 _))
                  · have hd2 : dn = 0 ∨ dn = 1 := by omega
                    clear hd1 hdl
                    rcases hd2 with rfl | rfl
                    · simp only [Nat.reduceEqDiff, Nat.reduceLeDiff, decide_true, decide_false, Nat.zero_le, Bool.true_and, Bool.and_true, Nat.zero_ne_one, Nat.le_refl] at HCR
                      have hxo : ∀ g : Bool, (⟨sa, sb, vc, g, se⟩ : CellA).Ok := fun g => ⟨hza, hzb, hze, by simp, by simp only; omega⟩
                      rcases Bool.eq_false_or_eq_true (cellL ⟨sa, sb, vc, false, se⟩) with hv | hv
                      · have K6 := Lib.hid fun W => cell_ok _ W (hxo false) hv
                        have HN : Hid (decR v0 l1 = (decR (v0 - (k + 1)) re).map fun r => ((acc ++ [(⟨sa, sb, vc, false, se⟩ : CellA)]) ++ r.1, r.2)) := Lib.hid (by
                          have h1 := hD.out.all
                          obtain ⟨m, hm⟩ : ∃ m, v0 - k = m + 1 := ⟨v0 - k - 1, by omega⟩
                          rw [hm, decR, HCR.out] at h1
                          rw [h1, show v0 - (k + 1) = m by omega]
                          simp only [hv, if_true, Option.map_map]
                          congr 1; funext r; simp)
                        have hln := Lib.hid (show (acc.length + 1) * 64 ≤ 140737488355328 by have := hD.out.len; omega)
                        clear hv hxo hza hzb hze
                        go_wp2_with (first
                        | (go_at_call 58; (with_reducible refine (K1.out _ hD.out.left).mono ?_); rintro e w1 ⟨rfl, hT⟩; have HT1 := Lib.hid hT; clear hT)
                        | (go_at_call 58; (with_reducible refine (K2.out _ HT1.out.left).mono ?_); rintro e w2 ⟨rfl, hT⟩; have HT2 := Lib.hid hT; clear hT)
                        | (go_at_call 57; (with_reducible refine (K3.out _ HT2.out.left).mono ?_); rintro e w3 ⟨rfl, hT⟩; have HT3 := Lib.hid hT; clear hT)
                        | (go_at_call 59; (with_reducible refine (K4.out _ HT3.out.left).mono ?_); rintro e w4 ⟨rfl, hT⟩; have HT4 := Lib.hid hT; clear hT)
                        | (go_at_call 58; (with_reducible refine (K5.out _ HT4.out.left).mono ?_); rintro e w5 ⟨rfl, hT⟩; have HT5 := Lib.hid hT; clear hT; have HG := Lib.hid (gb_trans HT1.out.gb (gb_trans HT2.out.gb (gb_trans HT3.out.gb (gb_trans HT4.out.gb HT5.out.gb)))); have HB5 : Below w.heap.size w w5 := HB0.out.grown HG.out HB0.out.size (fun k e => by cases e; exact Nat.le_refl _); have HS5 := HB5.size; have HO5 := Lib.hid (Own.took hD.out.own (Nat.lt_succ_self _) HG.out); have HW5 : w.heap.size < w5.heap.size := World.block_lt_of_cell? _ _ HT5.out.left.cell)
                          | (go_at_call 34; refine (K6.out _).mono ?_; rintro e w6 ⟨rfl, hb⟩; obtain ⟨hB, hS, hk⟩ := after (B := w5.heap.size) (w := w5) (by go_grown) (by go_size) hb; have Hw6 := Lib.hid hb; clear hb; obtain ⟨c0, f0, z0⟩ := hk (w5.heap.size) (by go_size); clear hk)
                          | (at_builtin; refine wpList_append_arr _ rfl _ _ 22 rfl (w.heap.size + 1) 32 i0 _ 5 64 Try.underlying22 Hi.out hz0 hz1 hz2 rfl (by decide) u7 _ _ rfl (Row.alloc (Row.below HO5.out hB) _) rfl (cells_new w6 _ [⟨sa, sb, vc, false, se⟩] _ 1 _ rfl rfl (by decide) rfl) hln.out (by have := hln.out; unfold maxLen; omega) (by rw [World.size_alloc]; omega) ?_; intro v1 w7 hr7 hb7 hg7; have HR7 := Lib.hid hr7; have hB6 := HB5.trans (hB.mono HS5); have HB7 := Lib.hid (hB6.trans (((Below.refl _ _).alloc hB6.size _).trans (hb7.mono (Nat.le_succ _)))); have HL7 := Lib.hid (Left.upto (Left.upto (Left.upto HT5.out.left hB HW5) ((Below.refl _ _).alloc (Nat.le_refl _) _) (by omega)) hb7 (Nat.lt_succ_self _)); clear hr7 hb7 hg7))
                        exact ⟨⟨k + 1, _, re, by omega, by go_num, Lib.hid ⟨HN.out, by rw [List.length_append, hD.out.len]; rfl, by omega, own_snoc rfl HR7.out, HL7.out, HB7.out⟩⟩, by simp [intOf]; omega⟩
                      · have Hend := Lib.hid (Hbad.out (by rw [HCR.out]; simp only [hv]))
                        have K6 := Lib.hid fun W => cell_bad _ W (hxo false) hv
                        clear hv hxo
                        go_wp2_with (first
                        | (go_at_call 58; (with_reducible refine (K1.out _ hD.out.left).mono ?_); rintro e w1 ⟨rfl, hT⟩; have HT1 := Lib.hid hT; clear hT)
                        | (go_at_call 58; (with_reducible refine (K2.out _ HT1.out.left).mono ?_); rintro e w2 ⟨rfl, hT⟩; have HT2 := Lib.hid hT; clear hT)
                        | (go_at_call 57; (with_reducible refine (K3.out _ HT2.out.left).mono ?_); rintro e w3 ⟨rfl, hT⟩; have HT3 := Lib.hid hT; clear hT)
                        | (go_at_call 59; (with_reducible refine (K4.out _ HT3.out.left).mono ?_); rintro e w4 ⟨rfl, hT⟩; have HT4 := Lib.hid hT; clear hT)
                        | (go_at_call 58; (with_reducible refine (K5.out _ HT4.out.left).mono ?_); rintro e w5 ⟨rfl, hT⟩; have HT5 := Lib.hid hT; clear hT; have HG := Lib.hid (gb_trans HT1.out.gb (gb_trans HT2.out.gb (gb_trans HT3.out.gb (gb_trans HT4.out.gb HT5.out.gb)))); have HB5 : Below w.heap.size w w5 := HB0.out.grown HG.out HB0.out.size (fun k e => by cases e; exact Nat.le_refl _); have HS5 := HB5.size; have HO5 := Lib.hid (Own.took hD.out.own (Nat.lt_succ_self _) HG.out); have HW5 : w.heap.size < w5.heap.size := World.block_lt_of_cell? _ _ HT5.out.left.cell)
                          | (go_at_call 34; refine (K6.out _).mono ?_; rintro e w6 ⟨rfl, hb⟩; obtain ⟨hB, hS, hk⟩ := after (B := w5.heap.size) (w := w5) (by go_grown) (by go_size) hb; have Hw6 := Lib.hid hb; clear hb; obtain ⟨c0, f0, z0⟩ := hk (w5.heap.size) (by go_size); clear hk))
                        exact Hend.out _ (HB5.trans (hB.mono HS5))
                    · simp only [Nat.reduceEqDiff, Nat.reduceLeDiff, decide_true, decide_false, Nat.zero_le, Bool.true_and, Bool.and_true, Nat.zero_ne_one, Nat.le_refl] at HCR
                      have hxo : ∀ g : Bool, (⟨sa, sb, vc, g, se⟩ : CellA).Ok := fun g => ⟨hza, hzb, hze, by simp, by simp only; omega⟩
                      rcases Bool.eq_false_or_eq_true (cellL ⟨sa, sb, vc, true, se⟩) with hv | hv
                      · have K6 := Lib.hid fun W => cell_ok _ W (hxo true) hv
                        have HN : Hid (decR v0 l1 = (decR (v0 - (k + 1)) re).map fun r => ((acc ++ [(⟨sa, sb, vc, true, se⟩ : CellA)]) ++ r.1, r.2)) := Lib.hid (by
                          have h1 := hD.out.all
                          obtain ⟨m, hm⟩ : ∃ m, v0 - k = m + 1 := ⟨v0 - k - 1, by omega⟩
                          rw [hm, decR, HCR.out] at h1
                          rw [h1, show v0 - (k + 1) = m by omega]
                          simp only [hv, if_true, Option.map_map]
                          congr 1; funext r; simp)
                        have hln := Lib.hid (show (acc.length + 1) * 64 ≤ 140737488355328 by have := hD.out.len; omega)
                        clear hv hxo hza hzb hze
                        go_wp2_with (first
                        | (go_at_call 58; (with_reducible refine (K1.out _ hD.out.left).mono ?_); rintro e w1 ⟨rfl, hT⟩; have HT1 := Lib.hid hT; clear hT)
                        | (go_at_call 58; (with_reducible refine (K2.out _ HT1.out.left).mono ?_); rintro e w2 ⟨rfl, hT⟩; have HT2 := Lib.hid hT; clear hT)
                        | (go_at_call 57; (with_reducible refine (K3.out _ HT2.out.left).mono ?_); rintro e w3 ⟨rfl, hT⟩; have HT3 := Lib.hid hT; clear hT)
                        | (go_at_call 59; (with_reducible refine (K4.out _ HT3.out.left).mono ?_); rintro e w4 ⟨rfl, hT⟩; have HT4 := Lib.hid hT; clear hT)
                        | (go_at_call 58; (with_reducible refine (K5.out _ HT4.out.left).mono ?_); rintro e w5 ⟨rfl, hT⟩; have HT5 := Lib.hid hT; clear hT; have HG := Lib.hid (gb_trans HT1.out.gb (gb_trans HT2.out.gb (gb_trans HT3.out.gb (gb_trans HT4.out.gb HT5.out.gb)))); have HB5 : Below w.heap.size w w5 := HB0.out.grown HG.out HB0.out.size (fun k e => by cases e; exact Nat.le_refl _); have HS5 := HB5.size; have HO5 := Lib.hid (Own.took hD.out.own (Nat.lt_succ_self _) HG.out); have HW5 : w.heap.size < w5.heap.size := World.block_lt_of_cell? _ _ HT5.out.left.cell)
                          | (go_at_call 34; refine (K6.out _).mono ?_; rintro e w6 ⟨rfl, hb⟩; obtain ⟨hB, hS, hk⟩ := after (B := w5.heap.size) (w := w5) (by go_grown) (by go_size) hb; have Hw6 := Lib.hid hb; clear hb; obtain ⟨c0, f0, z0⟩ := hk (w5.heap.size) (by go_size); clear hk)
                          | (at_builtin; refine wpList_append_arr _ rfl _ _ 22 rfl (w.heap.size + 1) 32 i0 _ 5 64 Try.underlying22 Hi.out hz0 hz1 hz2 rfl (by decide) u7 _ _ rfl (Row.alloc (Row.below HO5.out hB) _) rfl (cells_new w6 _ [⟨sa, sb, vc, true, se⟩] _ 1 _ rfl rfl (by decide) rfl) hln.out (by have := hln.out; unfold maxLen; omega) (by rw [World.size_alloc]; omega) ?_; intro v1 w7 hr7 hb7 hg7; have HR7 := Lib.hid hr7; have hB6 := HB5.trans (hB.mono HS5); have HB7 := Lib.hid (hB6.trans (((Below.refl _ _).alloc hB6.size _).trans (hb7.mono (Nat.le_succ _)))); have HL7 := Lib.hid (Left.upto (Left.upto (Left.upto HT5.out.left hB HW5) ((Below.refl _ _).alloc (Nat.le_refl _) _) (by omega)) hb7 (Nat.lt_succ_self _)); clear hr7 hb7 hg7))
                        exact ⟨⟨k + 1, _, re, by omega, by go_num, Lib.hid ⟨HN.out, by rw [List.length_append, hD.out.len]; rfl, by omega, own_snoc rfl HR7.out, HL7.out, HB7.out⟩⟩, by simp [intOf]; omega⟩
                      · have Hend := Lib.hid (Hbad.out (by rw [HCR.out]; simp only [hv]))
                        have K6 := Lib.hid fun W => cell_bad _ W (hxo true) hv
                        clear hv hxo
                        go_wp2_with (first
                        | (go_at_call 58; (with_reducible refine (K1.out _ hD.out.left).mono ?_); rintro e w1 ⟨rfl, hT⟩; have HT1 := Lib.hid hT; clear hT)
                        | (go_at_call 58; (with_reducible refine (K2.out _ HT1.out.left).mono ?_); rintro e w2 ⟨rfl, hT⟩; have HT2 := Lib.hid hT; clear hT)
                        | (go_at_call 57; (with_reducible refine (K3.out _ HT2.out.left).mono ?_); rintro e w3 ⟨rfl, hT⟩; have HT3 := Lib.hid hT; clear hT)
                        | (go_at_call 59; (with_reducible refine (K4.out _ HT3.out.left).mono ?_); rintro e w4 ⟨rfl, hT⟩; have HT4 := Lib.hid hT; clear hT)
                        | (go_at_call 58; (with_reducible refine (K5.out _ HT4.out.left).mono ?_); rintro e w5 ⟨rfl, hT⟩; have HT5 := Lib.hid hT; clear hT; have HG := Lib.hid (gb_trans HT1.out.gb (gb_trans HT2.out.gb (gb_trans HT3.out.gb (gb_trans HT4.out.gb HT5.out.gb)))); have HB5 : Below w.heap.size w w5 := HB0.out.grown HG.out HB0.out.size (fun k e => by cases e; exact Nat.le_refl _); have HS5 := HB5.size; have HO5 := Lib.hid (Own.took hD.out.own (Nat.lt_succ_self _) HG.out); have HW5 : w.heap.size < w5.heap.size := World.block_lt_of_cell? _ _ HT5.out.left.cell)
                          | (go_at_call 34; refine (K6.out _).mono ?_; rintro e w6 ⟨rfl, hb⟩; obtain ⟨hB, hS, hk⟩ := after (B := w5.heap.size) (w := w5) (by go_grown) (by go_size) hb; have Hw6 := Lib.hid hb; clear hb; obtain ⟨c0, f0, z0⟩ := hk (w5.heap.size) (by go_size); clear hk))
                        exact Hend.out _ (HB5.trans (hB.mono HS5))
      · obtain rfl : k = v0 := by omega
        have hall := hD.out.all
        rw [Nat.sub_self, decR, Option.map_some, List.append_nil] at hall
        have hlf := Lib.hid fun W (h : Left W w.heap.size rest) => left_any (ofL rest) w.heap.size W h.cell
        obtain ⟨sz, hsz⟩ : ∃ z, z = (ofL rest).size := ⟨_, rfl⟩
        have Hsz : Hid (sz = rest.length) := Lib.hid (by rw [hsz, ofL_size])
        rw [← hsz] at hlf
        have hszb : sz ≤ 1048576 := by have := Hsz.out; omega
        clear hsz
        by_cases hz : sz = 0
        · subst hz
          have hr0 : rest = [] := List.eq_nil_of_length_eq_zero Hsz.out.symm
          have Hend : Hid (∀ w' v, Below w.heap.size w w' → Own w' w.heap.size v acc → P (.returned (.tuple #[v, .int .i64 0])) w') := Lib.hid fun w' v h ho => by
            rw [HP.out]
            exact ⟨.inl ⟨acc, v, by rw [Hdv.out, hall, hr0], rfl, ho⟩, h⟩
          clear hr0 hall
          go_wp2_with (go_at_call 60; refine (hlf.out _ hD.out.left).mono ?_; rintro e w' ⟨rfl, rfl⟩)
          exact Hend.out _ _ hD.out.bel (Row.mono hD.out.own (Nat.le_succ _))
        · have Hend : Hid (∀ w', Below w.heap.size w w' → P (.returned (.tuple #[.slice none 0 0, .int .i64 4])) w') := Lib.hid fun w' h => by
            rw [HP.out]
            refine ⟨.inr ⟨?_, rfl⟩, h⟩
            rw [Hdv.out, hall]
            cases rest with
            | nil => exact absurd Hsz.out hz
            | cons c r => rfl
          have hz1 : 0 < sz := by omega
          clear hall
          go_wp2_with (go_at_call 60; refine (hlf.out _ hD.out.left).mono ?_; rintro e w' ⟨rfl, rfl⟩)
          exact Hend.out _ hD.out.bel
  · have hn : decV s.toList = none := by unfold decV; rw [if_neg (by rw [← his, ← hv0, hsl]; exact hgo)]
    have Hn := Lib.hid hn
    have Hend : Hid (∀ w', Below w.heap.size w w' → P (.returned (.tuple #[.slice none 0 0, .int .i64 4])) w') := Lib.hid fun w' h => by rw [HP.out]; exact ⟨.inr ⟨Hn.out, rfl⟩, h⟩
    clear hn hsl
    have h3 : is0 = false ∨ (is0 = true ∧ 1048576 < s.size) ∨ (is0 = true ∧ s.size ≤ 1048576 ∧ s.size < v0) := by
      cases is0
      · simp
      · simp only [true_and] at hgo
        rcases Nat.lt_or_ge 1048576 s.size with h | h
        · exact .inr (.inl ⟨rfl, h⟩)
        · exact .inr (.inr ⟨rfl, h, by omega⟩)
    clear hgo
    rcases h3 with rfl | ⟨rfl, h3⟩ | ⟨rfl, h3, h4⟩
    all_goals
      clear his hv0
      go_enter Try.func29, Try.ntmps29
      go_wp2_with (first
        | (go_at_call 56; refine Hnew.out.mono ?_; rintro e w' ⟨rfl, rfl⟩)
        | (go_at_call 57; refine HK.out.mono ?_; rintro e w1 ⟨rfl, hT⟩; have HB1 : Hid (Below w.heap.size w w1) := Lib.hid (((Below.refl _ _).alloc (Nat.le_refl _) _).grown hT.gb (by rw [World.size_alloc]; omega) (fun k e => by cases e; exact Nat.le_refl _)); clear hT))
      exact Hend.out _ HB1.out
end Go.Proofs.Ytjalccnkfpjchaa
