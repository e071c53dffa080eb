/-
  Places: the walk of the document's Decode.
-/
import Derived.Test.YtelangbockagnaaMetaDP
import Derived.Test.YtelangbockagnaaRReadW
import Derived.Deep.RegionWith
import Derived.Deep.DeepCutAuto
namespace Go.Proofs.Ytelangbockagnaa
open Go.RowKit

/-- nodes, one behind the other, each a hundred at most -/
def nodesQ : Nat → List UInt8 → Option (List Int × List UInt8)
  | 0, l => some ([], l)
  | n + 1, l => if (numR l).2.1 = true ∧ (numR l).1 ≤ 100 then (nodesQ n (numR l).2.2).map fun r => (((numR l).1 : Int) :: r.1, r.2) else none
def rmetaR (l : List UInt8) : MParse :=
  let a := numR l
  let b := textR 24 a.2.2
  let c := textR 24 b.2.2
  let d := numR c.2.2
  let e := numR d.2.2
  ⟨a.1, a.2.1, b.1, b.2.1, c.1, c.2.1, d.1, d.2.1, e.1, e.2.1, e.2.2⟩
def rdecM (l : List UInt8) : Option LocA :=
  if ((rmetaR l).wa && (rmetaR l).wb && (rmetaR l).wc && (rmetaR l).wd && (rmetaR l).we && decide ((rmetaR l).g ≤ 100) && decide ((rmetaR l).n ≤ 100)) = true then
    match nodesQ (rmetaR l).n (rmetaR l).rest with
    | some (nd, _) => if (okL ⟨(rmetaR l).g, ofL (rmetaR l).lo, ofL (rmetaR l).hi, (rmetaR l).ep, nd⟩ && decide (encM ⟨(rmetaR l).g, ofL (rmetaR l).lo, ofL (rmetaR l).hi, (rmetaR l).ep, nd⟩ = l)) = true then some ⟨(rmetaR l).g, ofL (rmetaR l).lo, ofL (rmetaR l).hi, (rmetaR l).ep, nd⟩ else none
    | none => none
  else none
theorem left_new {w : World} {T : TypeId} {s : ByteArray} {l : List UInt8} {b : Nat} (hb : b = w.heap.size) (h : l = s.toList) : Left (w.alloc (.cells #[.string s] T)) b l := by
  subst hb h
  exact ⟨by rw [ofL_self]; simp [World.cell?_alloc_new], by unfold World.frozen?; rw [heap_alloc_new]; rfl⟩
structure QRel (w W0 : World) (bl nn : Nat) (l5 : List UInt8) (k : Nat) (acc : List Int) (rest : List UInt8) (v : Value) (wr : World) : Prop where
  all : nodesQ nn l5 = (nodesQ (nn - k) rest).map fun r => (acc ++ r.1, r.2)
  len : acc.length = k
  le : rest.length ≤ 1000
  left : Left wr (w.heap.size + 1) rest
  row : Row wr (bl + 1) 3 1 v k (acc.map intE).flatten
  nodes : wr.cell? ⟨bl, 4, none⟩ = some v
  keep : ∀ b, b = w.heap.size → wr.heap[b]? = W0.heap[b]?
  lo : ∀ o, o < 4 → wr.cell? ⟨bl, o, none⟩ = W0.cell? ⟨bl, o, none⟩
  fro : ∀ o, wr.frozen? ⟨bl, o, none⟩ = W0.frozen? ⟨bl, o, none⟩
  size : W0.heap.size ≤ wr.heap.size
  bel : Below w.heap.size w wr
theorem qrel_next {w W0 : World} {bl nn : Nat} {l5 : List UInt8} {k : Nat} {acc : List Int} {rest r6 : List UInt8} {v v7 u : Value} {wr w6 w7 : World} {o : Obj} {x : Int} (h : QRel w W0 bl nn l5 k acc rest v wr) (hbl : w.heap.size + 1 < bl) (hlt : bl < wr.heap.size)
    (hT : Took (w.heap.size + 1) r6 wr w6) (hb7 : Below (bl + 1) (w6.alloc o) w7) (hr7 : Row w7 (bl + 1) 3 1 v7 (k + 1) ((acc.map intE).flatten ++ ([x].map intE).flatten))
    (hall : nodesQ nn l5 = (nodesQ (nn - (k + 1)) r6).map fun r => ((acc ++ [x]) ++ r.1, r.2)) (hle : r6.length ≤ 1000) (hu : w7.cell? ⟨bl, 4, none⟩ = some u) : QRel w W0 bl nn l5 (k + 1) (acc ++ [x]) r6 v7 (w7.setCell ⟨bl, 4, none⟩ v7) := by
  have hs6 := hT.gb.size
  have hs7 := hb7.size
  rw [World.size_alloc] at hs7
  have key : ∀ b, b < bl + 1 → b ≠ w.heap.size + 1 → w7.heap[b]? = wr.heap[b]? := fun b hb hne => by
    rw [hb7.block b hb, show (w6.alloc o).heap[b]? = w6.heap[b]? from ((Below.refl w6.heap.size w6).alloc (Nat.le_refl _) o).block b (by omega)]
    exact hT.gb.block b (by omega) (fun e => hne (Option.some.inj e))
  refine ⟨hall, by rw [List.length_append, h.len]; rfl, hle, left_set (left_upto (left_alloc hT.left o) hb7 (by omega)) (by simp only; omega), ?_, ?_, fun b hb => ?_, fun j hj => ?_, fun j => ?_, ?_, ?_⟩
  · have : ((acc ++ [x]).map intE).flatten = (acc.map intE).flatten ++ ([x].map intE).flatten := by simp
    rw [this]
    exact row_set hr7 (by simp only; omega) _
  · exact World.cell?_setCell_same _ _ _ hu
  · rw [Below.heap_setCell _ _ _ _ (fun e => by simp only at e; omega), key b (by omega) (by omega)]
    exact h.keep b hb
  · rw [World.cell?_setCell_other _ _ _ _ (fun e => by cases e; omega), World.cell?_of_block (a := ⟨bl, j, none⟩) (key bl (by omega) (by omega))]
    exact h.lo j hj
  · rw [World.frozen?_setCell, World.frozen?_of_block (a := ⟨bl, j, none⟩) (key bl (by omega) (by omega))]
    exact h.fro j
  · have := h.size
    simp only [World.size_setCell]; omega
  · have h1 : Below w.heap.size w w6 := h.bel.grown hT.gb h.bel.size (fun k e => by cases e; omega)
    have h2 : Below w.heap.size w w7 := (h1.alloc h1.size o).trans (hb7.mono (by omega))
    exact h2.setCell (by simp only; omega) _

set_option maxRecDepth 100000 in
set_option maxHeartbeats 16000000 in
theorem rmdecode_any (s : ByteArray) (w : World) (hs : s.size ≤ 1000) :
    Calls Try.prog 11 #[.string s] w fun e w' => ((∃ c ao n cap, rdecM s.toList = some c ∧ e = .returned (.tuple #[c.v ao n cap, .int .i64 0]) ∧ Ints w' ao n cap c.nd) ∨ (rdecM s.toList = none ∧ e = .returned (.tuple #[zeroLoc, .int .i64 4]))) ∧ Below w.heap.size w w' := by
  have Hnew := Lib.hid fun W => rnew_any s W
  have hsl : s.toList.length = s.size := size_list s
  obtain ⟨l0, hl0⟩ : ∃ l, l = s.toList := ⟨_, rfl⟩
  have n0 : l0.length ≤ 1000 := by rw [hl0, hsl]; exact hs
  have n1 := numR_rest' l0
  obtain ⟨⟨g0, wa, l1⟩, hb1⟩ : ∃ x, x = numR l0 := ⟨_, rfl⟩
  rw [← hb1] at n1
  have n2 := textR_rest' 24 l1
  have m2 := textR_len 24 l1
  obtain ⟨⟨tb, wb, l2⟩, hb2⟩ : ∃ x, x = textR 24 l1 := ⟨_, rfl⟩
  rw [← hb2] at n2 m2
  have n3 := textR_rest' 24 l2
  have m3 := textR_len 24 l2
  obtain ⟨⟨tc, wc, l3⟩, hb3⟩ : ∃ x, x = textR 24 l2 := ⟨_, rfl⟩
  rw [← hb3] at n3 m3
  have n4 := numR_rest' l3
  have m4 := numR_lt l3
  obtain ⟨⟨ep, wd, l4⟩, hb4⟩ : ∃ x, x = numR l3 := ⟨_, rfl⟩
  rw [← hb4] at n4 m4
  have n5 := numR_rest' l4
  obtain ⟨⟨nn, we, l5⟩, hb5⟩ : ∃ x, x = numR l4 := ⟨_, rfl⟩
  rw [← hb5] at n5
  simp only at n1 n2 n3 n4 n5 m2 m3 m4
  have K1 := Lib.hid fun W h => rnum_r (w.heap.size + 1) l0 W (by unfold maxLen; omega) h
  have K2 := Lib.hid fun W h => rtext_r (w.heap.size + 1) 24 l1 W (by decide) (by unfold maxLen; omega) h
  have K3 := Lib.hid fun W h => rtext_r (w.heap.size + 1) 24 l2 W (by decide) (by unfold maxLen; omega) h
  have K4 := Lib.hid fun W h => rnum_r (w.heap.size + 1) l3 W (by unfold maxLen; omega) h
  have K5 := Lib.hid fun W h => rnum_r (w.heap.size + 1) l4 W (by unfold maxLen; omega) h
  rw [← hb1] at K1
  rw [← hb2] at K2
  rw [← hb3] at K3
  rw [← hb4] at K4
  rw [← hb5] at K5
  simp only at K1 K2 K3 K4 K5
  have HP : Hid (rmetaR s.toList = ⟨g0, wa, tb, wb, tc, wc, ep, wd, nn, we, l5⟩) := Lib.hid (by
    rw [← hl0]
    unfold rmetaR
    simp only [← hb1, ← hb2, ← hb3, ← hb4, ← hb5])
  obtain ⟨sb, hsb⟩ : ∃ s, s = ofL tb := ⟨_, rfl⟩
  obtain ⟨sc, hsc⟩ : ∃ s, s = ofL tc := ⟨_, rfl⟩
  rw [← hsb] at K2
  rw [← hsc] at K3
  have Hsb := Lib.hid hsb
  have Hsc := Lib.hid hsc
  have z2 : sb.size ≤ 1000 := by rw [hsb, ofL_size]; omega
  have z3 : sc.size ≤ 1000 := by rw [hsc, ofL_size]; omega
  have Hl0 := Lib.hid hl0
  clear hsl hl0 hb1 hb2 hb3 hb4 hb5 hsb hsc m2 m3
  obtain ⟨P, hP⟩ : ∃ P : Ending → World → Prop, P = fun e w' => ((∃ c ao n cap, rdecM s.toList = some c ∧ e = .returned (.tuple #[c.v ao n cap, .int .i64 0]) ∧ Ints w' ao n cap c.nd) ∨ (rdecM s.toList = none ∧ e = .returned (.tuple #[zeroLoc, .int .i64 4]))) ∧ Below w.heap.size w w' := ⟨_, rfl⟩
  rw [← hP]
  have HP2 := Lib.hid hP
  clear hP
  obtain ⟨i0, hi, hz0, hz1x, hz2x⟩ := info_parts Try.info_int
  have Hi := Lib.hid hi
  clear hi
  have Hbad : Hid (rdecM s.toList = none → ∀ w', Below w.heap.size w w' → P (.returned (.tuple #[zeroLoc, .int .i64 4])) w') := Lib.hid fun h w' hb => by rw [HP2.out]; exact ⟨.inr ⟨h, rfl⟩, hb⟩
  have HbadA : Hid ((wa && wb && wc && wd && we && decide (g0 ≤ 100) && decide (nn ≤ 100)) = false → ∀ w', Below w.heap.size w w' → P (.returned (.tuple #[zeroLoc, .int .i64 4])) w') := Lib.hid fun h => Hbad.out (by
    unfold rdecM
    rw [HP.out]
    simp only [h, Bool.false_eq_true, if_false])
  go_enter Try.func11, Try.ntmps11
  go_upto_region 7 with (first
    | (go_at_call 25; refine (Hnew.out _).mono ?_; rintro e w' ⟨rfl, rfl⟩)
    | (go_at_call 26; (with_reducible refine (K1.out _ ?_).mono ?_); (exact left_new (World.size_alloc _ _).symm Hl0.out); rintro e w1 ⟨rfl, hT⟩; have hz1 := hT.gb.size; (try simp only [World.size_alloc, World.size_setCell] at hz1); have HLL := Lib.hid hT.left; have hbel1 : Below w.heap.size w w1 := Below.grown (by go_grown) hT.gb (by go_size) (fun k e => by cases e; omega); obtain ⟨ca1, fa1⟩ := keep_took hT w.heap.size (by go_size) (by omega); clear hT)
    | (go_at_call 27; (with_reducible refine (K2.out _ ?_).mono ?_); (repeat (first | exact HLL.out | refine left_set ?_ (by simp only; omega) | refine left_alloc ?_ _)); rintro e w2 ⟨rfl, hT⟩; have hz2 := hT.gb.size; (try simp only [World.size_alloc, World.size_setCell] at hz2); clear HLL; have HLL := Lib.hid hT.left; have hbel2 : Below w.heap.size w w2 := Below.grown (by go_grown) hT.gb (by go_size) (fun k e => by cases e; omega); obtain ⟨ca2, fa2⟩ := keep_took hT w.heap.size (by go_size) (by omega); clear hT)
    | (go_at_call 27; (with_reducible refine (K3.out _ ?_).mono ?_); (repeat (first | exact HLL.out | refine left_set ?_ (by simp only; omega) | refine left_alloc ?_ _)); rintro e w3 ⟨rfl, hT⟩; have hz3 := hT.gb.size; (try simp only [World.size_alloc, World.size_setCell] at hz3); clear HLL; have HLL := Lib.hid hT.left; have hbel3 : Below w.heap.size w w3 := Below.grown (by go_grown) hT.gb (by go_size) (fun k e => by cases e; omega); obtain ⟨ca3, fa3⟩ := keep_took hT w.heap.size (by go_size) (by omega); clear hT)
    | (go_at_call 26; (with_reducible refine (K4.out _ ?_).mono ?_); (repeat (first | exact HLL.out | refine left_set ?_ (by simp only; omega) | refine left_alloc ?_ _)); rintro e w4 ⟨rfl, hT⟩; have hz4 := hT.gb.size; (try simp only [World.size_alloc, World.size_setCell] at hz4); clear HLL; have HLL := Lib.hid hT.left; have hbel4 : Below w.heap.size w w4 := Below.grown (by go_grown) hT.gb (by go_size) (fun k e => by cases e; omega); obtain ⟨ca4, fa4⟩ := keep_took hT w.heap.size (by go_size) (by omega); clear hT)
    | (go_at_call 26; (with_reducible refine (K5.out _ ?_).mono ?_); (repeat (first | exact HLL.out | refine left_set ?_ (by simp only; omega) | refine left_alloc ?_ _)); rintro e w5 ⟨rfl, hT⟩; have hz5 := hT.gb.size; (try simp only [World.size_alloc, World.size_setCell] at hz5); clear HLL; have HLL := Lib.hid hT.left; have hbel5 : Below w.heap.size w w5 := Below.grown (by go_grown) hT.gb (by go_size) (fun k e => by cases e; omega); obtain ⟨ca5, fa5⟩ := keep_took hT w.heap.size (by go_size) (by omega); clear hT))
  have q0 : w5.cell? ⟨w.heap.size, 0, none⟩ = some (.int .i64 0) := by rw [ca5, ca4, ca3, ca2, ca1]; go_simp
  have q1 : w5.cell? ⟨w.heap.size, 1, none⟩ = some (.string ⟨#[]⟩) := by rw [ca5, ca4, ca3, ca2, ca1]; go_simp
  have q2 : w5.cell? ⟨w.heap.size, 2, none⟩ = some (.string ⟨#[]⟩) := by rw [ca5, ca4, ca3, ca2, ca1]; go_simp
  have q3 : w5.cell? ⟨w.heap.size, 3, none⟩ = some (.int .u64 0) := by rw [ca5, ca4, ca3, ca2, ca1]; go_simp
  have q4 : w5.cell? ⟨w.heap.size, 4, none⟩ = some (.slice none 0 0) := by rw [ca5, ca4, ca3, ca2, ca1]; go_simp
  have qf : ∀ o, w5.frozen? ⟨w.heap.size, o, none⟩ = false := fun o => by rw [fa5, fa4, fa3, fa2, fa1]; go_simp
  clear ca1 ca2 ca3 ca4 ca5 fa1 fa2 fa3 fa4 fa5
  cases wa
  · have Hend := Lib.hid (HbadA.out (by simp))
    go_wp2
    refine bodyPost_ret (v := .tuple #[zeroLoc, .int .i64 4]) (by simp [results, Try.results11, go_sem, zeroLoc, *]) rfl (Hend.out _ (by go_grown))
  cases wb
  · have Hend := Lib.hid (HbadA.out (by simp))
    go_wp2
    refine bodyPost_ret (v := .tuple #[zeroLoc, .int .i64 4]) (by simp [results, Try.results11, go_sem, zeroLoc, *]) rfl (Hend.out _ (by go_grown))
  cases wc
  · have Hend := Lib.hid (HbadA.out (by simp))
    go_wp2
    refine bodyPost_ret (v := .tuple #[zeroLoc, .int .i64 4]) (by simp [results, Try.results11, go_sem, zeroLoc, *]) rfl (Hend.out _ (by go_grown))
  cases wd
  · have Hend := Lib.hid (HbadA.out (by simp))
    go_wp2
    refine bodyPost_ret (v := .tuple #[zeroLoc, .int .i64 4]) (by simp [results, Try.results11, go_sem, zeroLoc, *]) rfl (Hend.out _ (by go_grown))
  cases we
  · have Hend := Lib.hid (HbadA.out (by simp))
    go_wp2
    refine bodyPost_ret (v := .tuple #[zeroLoc, .int .i64 4]) (by simp [results, Try.results11, go_sem, zeroLoc, *]) rfl (Hend.out _ (by go_grown))
  by_cases hg : 100 < g0
  · have Hend := Lib.hid (HbadA.out (by simp; omega))
    go_wp2
    refine bodyPost_ret (v := .tuple #[zeroLoc, .int .i64 4]) (by simp [results, Try.results11, go_sem, zeroLoc, *]) rfl (Hend.out _ (by go_grown))
  by_cases hn : 100 < nn
  · have Hend := Lib.hid (HbadA.out (by simp; omega))
    go_wp2
    refine bodyPost_ret (v := .tuple #[zeroLoc, .int .i64 4]) (by simp [results, Try.results11, go_sem, zeroLoc, *]) rfl (Hend.out _ (by go_grown))
  have hgd1 : decide (100 < (g0 : Int)) = false := by simp; omega
  have hgd2 : decide (100 < g0) = false := by simp; omega
  have hgd3 : decide (100 < (nn : Int)) = false := by simp; omega
  have hgd4 : decide (100 < nn) = false := by simp; omega
  have hzB : w.heap.size + 1 < w5.heap.size := by omega
  clear HbadA
  go_wp2_with fail
  have n50 : l5.length ≤ 1000 := by omega
  go_loopw [16] (fun i wr => ∃ (k : Nat) (acc : List Int) (rest : List UInt8) (v : Value), k ≤ nn ∧ i = .int .u64 k ∧ Hid (QRel w (w5.alloc (.cells #[.int .i64 (g0 : Int), .string sb, .string sc, .int .u64 (ep : Int), .slice none 0 0] 27)) w5.heap.size nn l5 k acc rest v wr)) (fun i _ => nn - (intOf i).toNat)
  case atStart => exact ⟨0, [], l5, .slice none 0 0, by omega, rfl, Lib.hid ⟨by simp, rfl, n50, left_alloc HLL.out _, Row.nil _ _ _ _, by go_simp, fun _ _ => rfl, fun _ _ => rfl, fun _ => rfl, Nat.le_refl _, by go_grown⟩⟩
  case round =>
    obtain ⟨k, acc, rest, v, hk, rfl, hD⟩ := hrel
    have hzw := hD.out.size
    simp only [World.size_alloc] at hzw
    have kb1 : ∀ o, wr.cell? ⟨w.heap.size, o, none⟩ = w5.cell? ⟨w.heap.size, o, none⟩ := fun o => (World.cell?_of_block (a := ⟨w.heap.size, o, none⟩) (hD.out.keep _ rfl)).trans (((Below.refl w5.heap.size w5).alloc (Nat.le_refl _) _).cell (p := ⟨w.heap.size, o, none⟩) (by simp only; omega))
    have kf1 : ∀ o, wr.frozen? ⟨w.heap.size, o, none⟩ = w5.frozen? ⟨w.heap.size, o, none⟩ := fun o => (World.frozen?_of_block (a := ⟨w.heap.size, o, none⟩) (hD.out.keep _ rfl)).trans (((Below.refl w5.heap.size w5).alloc (Nat.le_refl _) _).frozen (p := ⟨w.heap.size, o, none⟩) (by simp only; omega))
    have kl0 := hD.out.lo 0 (by decide)
    have kl1 := hD.out.lo 1 (by decide)
    have kl2 := hD.out.lo 2 (by decide)
    have kl3 := hD.out.lo 3 (by decide)
    have kl4 := hD.out.nodes
    have klf := hD.out.fro
    have hbr := hD.out.bel
    have zra : w.heap.size < wr.heap.size := by omega
    have zre : w.heap.size + 1 < wr.heap.size := by omega
    have zrd : w5.heap.size < wr.heap.size := by omega
    by_cases hlt : k < nn
    · have hrl := hD.out.le
      have K6 := Lib.hid fun W h => rnum_r (w.heap.size + 1) rest W (by unfold maxLen; omega) h
      have n6 := numR_rest' rest
      obtain ⟨⟨v6, is6, r6⟩, h6⟩ : ∃ x, x = numR rest := ⟨_, rfl⟩
      rw [← h6] at K6 n6
      simp only at K6 n6
      have hstep : nodesQ (nn - k) rest = if is6 = true ∧ v6 ≤ 100 then (nodesQ (nn - (k + 1)) r6).map fun r => ((v6 : Int) :: r.1, r.2) else none := by
        obtain ⟨m, hm⟩ : ∃ m, nn - k = m + 1 := ⟨nn - k - 1, by omega⟩
        rw [hm, nodesQ, ← h6, show nn - (k + 1) = m by omega]
      have Hno : Hid (¬ (is6 = true ∧ v6 ≤ 100) → rdecM s.toList = none) := Lib.hid fun hn => by
        have h1 := hD.out.all
        rw [hstep, if_neg hn, Option.map_none] at h1
        unfold rdecM
        rw [HP.out]
        simp only [h1, ite_self]
      have Hst := Lib.hid hstep
      clear h6 hstep
      cases is6
      · skip
        have Hend := Lib.hid (Hbad.out (Hno.out (by simp)))
        go_wp2_with (first
          | (go_at_call 26; refine (K6.out _ hD.out.left).mono ?_; rintro e w6 ⟨rfl, hT⟩; have hz6 := hT.gb.size; have hbel6 : Below w.heap.size w w6 := Below.grown hbr hT.gb (by omega) (fun k e => by cases e; omega); obtain ⟨ca6, fa6⟩ := keep_took hT w.heap.size (by omega) (by omega); clear hT))
        have r0 : w6.cell? ⟨w.heap.size, 0, none⟩ = some (.int .i64 0) := by rw [ca6, kb1]; go_simp
        have r1 : w6.cell? ⟨w.heap.size, 1, none⟩ = some (.string ⟨#[]⟩) := by rw [ca6, kb1]; go_simp
        have r2 : w6.cell? ⟨w.heap.size, 2, none⟩ = some (.string ⟨#[]⟩) := by rw [ca6, kb1]; go_simp
        have r3 : w6.cell? ⟨w.heap.size, 3, none⟩ = some (.int .u64 0) := by rw [ca6, kb1]; go_simp
        have r4 : w6.cell? ⟨w.heap.size, 4, none⟩ = some (.slice none 0 0) := by rw [ca6, kb1]; go_simp
        clear ca6 kb1 kl0 kl1 kl2 kl3 kl4
        refine bodyPost_ret (v := .tuple #[zeroLoc, .int .i64 4]) (by simp [results, Try.results11, go_sem, zeroLoc, *]) rfl (Hend.out _ (by go_grown))
      · by_cases hv5 : v6 ≤ 100
        · have hall : Hid (nodesQ nn l5 = (nodesQ (nn - (k + 1)) r6).map fun r => ((acc ++ [(v6 : Int)]) ++ r.1, r.2)) := Lib.hid (by
            rw [hD.out.all, Hst.out, if_pos ⟨rfl, hv5⟩, Option.map_map]
            congr 1; funext r; simp)
          have hd5 : decide (100 < v6) = false := by simp; omega
          have hd6 : decide (100 < (v6 : Int)) = false := by simp; omega
          go_wp2_with (first
            | (go_at_call 26; refine (K6.out _ hD.out.left).mono ?_; rintro e w6 ⟨rfl, hT⟩; have hz6 := hT.gb.size; have hbel6 : Below w.heap.size w w6 := Below.grown hbr hT.gb (by omega) (fun k e => by cases e; omega); obtain ⟨cd6, fd6⟩ := keep_took hT w5.heap.size (by omega) (by omega); have HT6 := Lib.hid hT; have HRow6 := Lib.hid (row_took hD.out.row hT (by omega)); have zd6 : w5.heap.size < w6.heap.size := (by omega); clear hT)
            | (at_builtin; refine wpList_append_arr _ rfl _ _ 25 rfl (w5.heap.size + 1) 3 i0 _ 1 8 Try.underlying25 Hi.out hz0 hz1x hz2x rfl (by decide) v _ _ rfl (Row.alloc HRow6.out _) rfl (ints_new w6 _ (v6 : Int)) (by omega) (by unfold maxLen; omega) (by rw [World.size_alloc]; omega) ?_; intro v7 w7 hr7 hb7 hg7; obtain ⟨g7, c7, rfl⟩ := row_pos hr7 (Nat.succ_pos _); have HR7 := Lib.hid hr7; have HB7 := Lib.hid hb7; have hk7 := fun o => hb7.cell (p := ⟨w5.heap.size, o, none⟩) (Nat.lt_succ_self _); have hkf7 := fun o => hb7.frozen (p := ⟨w5.heap.size, o, none⟩) (Nat.lt_succ_self _); have hz7 := hb7.size; rw [World.size_alloc] at hz7; clear hr7 hb7 hg7))
          have hcell4 : w7.cell? ⟨w5.heap.size, 4, none⟩ = some v := by rw [hk7]; go_simp
          exact ⟨⟨k + 1, acc ++ [(v6 : Int)], r6, _, by omega, by go_num, Lib.hid (qrel_next hD.out (by omega) zrd HT6.out HB7.out HR7.out hall.out (by omega) hcell4)⟩, by simp [intOf]; omega⟩
        · have hd5 : decide (100 < v6) = true := by simp; omega
          have hd6 : decide (100 < (v6 : Int)) = true := by simp; omega
          have Hend := Lib.hid (Hbad.out (Hno.out (fun h => hv5 h.2)))
          go_wp2_with (first
            | (go_at_call 26; refine (K6.out _ hD.out.left).mono ?_; rintro e w6 ⟨rfl, hT⟩; have hz6 := hT.gb.size; have hbel6 : Below w.heap.size w w6 := Below.grown hbr hT.gb (by omega) (fun k e => by cases e; omega); obtain ⟨ca6, fa6⟩ := keep_took hT w.heap.size (by omega) (by omega); clear hT))
          have r0 : w6.cell? ⟨w.heap.size, 0, none⟩ = some (.int .i64 0) := by rw [ca6, kb1]; go_simp
          have r1 : w6.cell? ⟨w.heap.size, 1, none⟩ = some (.string ⟨#[]⟩) := by rw [ca6, kb1]; go_simp
          have r2 : w6.cell? ⟨w.heap.size, 2, none⟩ = some (.string ⟨#[]⟩) := by rw [ca6, kb1]; go_simp
          have r3 : w6.cell? ⟨w.heap.size, 3, none⟩ = some (.int .u64 0) := by rw [ca6, kb1]; go_simp
          have r4 : w6.cell? ⟨w.heap.size, 4, none⟩ = some (.slice none 0 0) := by rw [ca6, kb1]; go_simp
          clear ca6 kb1 kl0 kl1 kl2 kl3 kl4
          refine bodyPost_ret (v := .tuple #[zeroLoc, .int .i64 4]) (by simp [results, Try.results11, go_sem, zeroLoc, *]) rfl (Hend.out _ (by go_grown))
    · obtain rfl : k = nn := by omega
      have hall := hD.out.all
      rw [Nat.sub_self, nodesQ, Option.map_some, List.append_nil] at hall
      have HdM : Hid (rdecM s.toList = if (okL ⟨g0, sb, sc, ep, acc⟩ && decide (encM ⟨g0, sb, sc, ep, acc⟩ = s.toList)) = true then some ⟨g0, sb, sc, ep, acc⟩ else none) := Lib.hid (by
        unfold rdecM
        rw [HP.out]
        have e1 : decide (g0 ≤ 100) = true := by simp; omega
        have e2 : decide (k ≤ 100) = true := by simp; omega
        simp only [hall, ← Hsb.out, ← Hsc.out, e1, e2, Bool.and_self, if_true])
      have hlen := hD.out.len
      have hrow := hD.out.row
      obtain ⟨ao, cap, rfl, _⟩ := Row.arr (es := acc.map intE) (by decide) (by rw [List.length_map, hlen]; exact hrow) (intE_elems acc)
      rw [List.length_map, hlen] at hrow kl4
      have Hrow := Lib.hid hrow
      have hints := Lib.hid (ints_of_row hrow hlen)
      have hok : Hid (LocA.Ok ⟨g0, sb, sc, ep, acc⟩) := Lib.hid ⟨by simp only; unfold maxLen; omega, by simp only; unfold maxLen; omega, by simp, by simp only; omega⟩
      have Hlen := Lib.hid hlen
      clear hall hrow hlen
      obtain ⟨ob, hob⟩ : ∃ b, b = okL ⟨g0, sb, sc, ep, acc⟩ := ⟨_, rfl⟩
      cases ob
      · have Hend := Lib.hid (Hbad.out (by rw [HdM.out, ← hob]; rfl))
        have K7 := Lib.hid fun W (h : Ints W ao k cap acc) => rmencode_bad ⟨g0, sb, sc, ep, acc⟩ ao k cap W hok.out h hob.symm
        simp only [LocA.v] at K7
        clear hob
        go_wp2_with (first
          | (go_at_call 6; refine (K7.out _ hints.out).mono ?_; rintro e w9 ⟨rfl, hb⟩; obtain ⟨hB, hS, hk⟩ := after (B := wr.heap.size) (w := wr) (by go_grown) (by go_size) hb; clear hb; obtain ⟨c0, f0, z0⟩ := hk (w.heap.size) (by go_size); obtain ⟨c1, f1, z1⟩ := hk (w5.heap.size) (by go_size); clear hk))
        have hb9 : Below w.heap.size w w9 := hbr.trans (hB.mono (by omega))
        have r0 : w9.cell? ⟨w.heap.size, 0, none⟩ = some (.int .i64 0) := by rw [c0, kb1]; go_simp
        have r1 : w9.cell? ⟨w.heap.size, 1, none⟩ = some (.string ⟨#[]⟩) := by rw [c0, kb1]; go_simp
        have r2 : w9.cell? ⟨w.heap.size, 2, none⟩ = some (.string ⟨#[]⟩) := by rw [c0, kb1]; go_simp
        have r3 : w9.cell? ⟨w.heap.size, 3, none⟩ = some (.int .u64 0) := by rw [c0, kb1]; go_simp
        have r4 : w9.cell? ⟨w.heap.size, 4, none⟩ = some (.slice none 0 0) := by rw [c0, kb1]; go_simp
        clear c0 c1 kb1 kl0 kl1 kl2 kl3 kl4
        refine bodyPost_ret (v := .tuple #[zeroLoc, .int .i64 4]) (by simp [results, Try.results11, go_sem, zeroLoc, *]) rfl (Hend.out _ (by go_grown))
      · have K7 := Lib.hid fun W (h : Ints W ao k cap acc) => rmencode_good ⟨g0, sb, sc, ep, acc⟩ ao k cap W hok.out h hob.symm
        simp only [LocA.v] at K7
        have HdM2 : Hid (rdecM s.toList = if (decide (encM ⟨g0, sb, sc, ep, acc⟩ = s.toList)) = true then some ⟨g0, sb, sc, ep, acc⟩ else none) := Lib.hid (by rw [HdM.out, ← hob, Bool.true_and])
        clear hob
        obtain ⟨R, hR⟩ : ∃ R, R = ofL (encM ⟨g0, sb, sc, ep, acc⟩) := ⟨_, rfl⟩
        rw [← hR] at K7
        by_cases hRs : R = s
        · have he : encM ⟨g0, sb, sc, ep, acc⟩ = s.toList := by rw [← hRs, hR, ofL_toList]
          have Hend : Hid (∀ w', Below w.heap.size w w' → Ints w' ao k cap acc → P (.returned (.tuple #[.agg #[.int .i64 (g0 : Int), .string sb, .string sc, .int .u64 (ep : Int), .slice ao k cap], .int .i64 0])) w') := Lib.hid fun w' hb hi => by
            rw [HP2.out]
            exact ⟨.inl ⟨⟨g0, sb, sc, ep, acc⟩, ao, k, cap, by rw [HdM2.out, he]; simp, rfl, hi⟩, hb⟩
          clear he hR
          subst hRs
          go_wp2_with (first
            | (go_at_call 6; refine (K7.out _ hints.out).mono ?_; rintro e w9 ⟨rfl, hb⟩; obtain ⟨hB, hS, hk⟩ := after (B := wr.heap.size) (w := wr) (by go_grown) (by go_size) hb; clear hb; obtain ⟨c0, f0, z0⟩ := hk (w.heap.size) (by go_size); obtain ⟨c1, f1, z1⟩ := hk (w5.heap.size) (by go_size); clear hk))
          have hb9 : Below w.heap.size w w9 := hbr.trans (hB.mono (by omega))
          have r0 : w9.cell? ⟨w.heap.size, 0, none⟩ = some (.int .i64 0) := by rw [c0, kb1]; go_simp
          have r1 : w9.cell? ⟨w.heap.size, 1, none⟩ = some (.string ⟨#[]⟩) := by rw [c0, kb1]; go_simp
          have r2 : w9.cell? ⟨w.heap.size, 2, none⟩ = some (.string ⟨#[]⟩) := by rw [c0, kb1]; go_simp
          have r3 : w9.cell? ⟨w.heap.size, 3, none⟩ = some (.int .u64 0) := by rw [c0, kb1]; go_simp
          have r4 : w9.cell? ⟨w.heap.size, 4, none⟩ = some (.slice none 0 0) := by rw [c0, kb1]; go_simp
          clear c0 c1 kb1 kl0 kl1 kl2 kl3 kl4
          refine bodyPost_ret (v := .tuple #[.agg #[.int .i64 (g0 : Int), .string sb, .string sc, .int .u64 (ep : Int), .slice ao k cap], .int .i64 0]) (by simp [results, Try.results11, go_sem, *]) rfl (Hend.out _ (by go_grown) ?_)
          exact ints_of_row (row_set (row_set (row_set (row_set (row_set (Row.below Hrow.out hB) (by simp only; omega) _) (by simp only; omega) _) (by simp only; omega) _) (by simp only; omega) _) (by simp only; omega) _) Hlen.out
        · have Hend := Lib.hid (Hbad.out (by
            rw [HdM2.out]
            have : decide (encM ⟨g0, sb, sc, ep, acc⟩ = s.toList) = false := by
              rw [decide_eq_false_iff_not]
              intro h
              exact hRs (toList_inj.1 (by rw [hR, ofL_toList, h]))
            rw [this]; rfl))
          clear hR
          have hne1 : (R.toList == s.toList) = false := by rw [beq_eq_false_iff_ne]; exact fun h => hRs (toList_inj.1 h)
          go_wp2_with (first
            | (go_at_call 6; refine (K7.out _ hints.out).mono ?_; rintro e w9 ⟨rfl, hb⟩; obtain ⟨hB, hS, hk⟩ := after (B := wr.heap.size) (w := wr) (by go_grown) (by go_size) hb; clear hb; obtain ⟨c0, f0, z0⟩ := hk (w.heap.size) (by go_size); obtain ⟨c1, f1, z1⟩ := hk (w5.heap.size) (by go_size); clear hk))
          have hb9 : Below w.heap.size w w9 := hbr.trans (hB.mono (by omega))
          have r0 : w9.cell? ⟨w.heap.size, 0, none⟩ = some (.int .i64 0) := by rw [c0, kb1]; go_simp
          have r1 : w9.cell? ⟨w.heap.size, 1, none⟩ = some (.string ⟨#[]⟩) := by rw [c0, kb1]; go_simp
          have r2 : w9.cell? ⟨w.heap.size, 2, none⟩ = some (.string ⟨#[]⟩) := by rw [c0, kb1]; go_simp
          have r3 : w9.cell? ⟨w.heap.size, 3, none⟩ = some (.int .u64 0) := by rw [c0, kb1]; go_simp
          have r4 : w9.cell? ⟨w.heap.size, 4, none⟩ = some (.slice none 0 0) := by rw [c0, kb1]; go_simp
          clear c0 c1 kb1 kl0 kl1 kl2 kl3 kl4
          refine bodyPost_ret (v := .tuple #[zeroLoc, .int .i64 4]) (by simp [results, Try.results11, go_sem, zeroLoc, *]) rfl (Hend.out _ (by go_grown))

end Go.Proofs.Ytelangbockagnaa
