/-
  Skip lists: the walk of the iterator that From hands back.
-/
import Derived.Test.YtlnfdejflpgleaaFromP
import Derived.WalkMore
namespace Go.Proofs.Ytlnfdejflpgleaa
open Go.RowKit Go.Shelf

attribute [local go_sem] Oper.semAt_some
/-- the row of the list's cells, while a loop's body runs -/
structure Snap (Sf : Nat → World → Prop) (ao : Option Addr) (W5 W : World) : Prop where
  size : W5.heap.size ≤ W.heap.size
  row : ∀ a, ao = some a → Sf a.block W ∧ W.heap[a.block]? = W5.heap[a.block]?
theorem Snap.start {w W W5 : World} {Sf : Nat → World → Prop} {ao : Option Addr} {n cap : Nat} {L : List CellA} (hS : Safe w Sf) (hW : Below w.heap.size w W) (h5 : Below W.heap.size W W5) (ho : Own W5 W.heap.size (.slice ao n cap) L) : Snap Sf ao W5 W5 := by
  refine ⟨Nat.le_refl _, fun a e => ⟨?_, rfl⟩⟩
  subst e
  rcases ho.2 with ⟨h, _⟩ | ⟨g, cp, cur, fr, e, hg, h1, _⟩
  · cases h
  · cases e
    exact hS.new g W W5 hW h5 hg (Array.getElem?_eq_some_iff.1 h1).1 ⟨_, _, _, h1, by decide⟩
theorem Snap.step {w W5 W W1 W3 : World} {Sf : Nat → World → Prop} {ao : Option Addr} (hS : Safe w Sf) (h : Snap Sf ao W5 W) (hb : Below W.heap.size W W1) {B : Nat} (hk : KpS Sf B W1 W3) : Snap Sf ao W5 W3 :=
  ⟨Nat.le_trans h.size (Nat.le_trans hb.size hk.size), fun a e => by
    obtain ⟨h1, h2⟩ := h.row a e
    obtain ⟨k1, k2⟩ := (KpS.below (B := B) hS hb).same _ h1
    obtain ⟨q1, q2⟩ := hk.same _ k2
    exact ⟨q2, q1.trans (k1.trans h2)⟩⟩

set_option maxRecDepth 100000 in
set_option maxHeartbeats 4000000 in
theorem from1_stops (n : Nat) (hn : 1 ≤ n) (row col : ByteArray) (bL bR bC lb : Nat) (hd : Nd) (ns : List Nd) (k : Nat) (w : World) (hS : SkipAt w lb hd ns) (hC : CutAt (aheadP row col) (hd :: ns) k)
    (hbL : w.cell? ⟨bL, 0, none⟩ = some (.pointer (some ⟨lb, 0, none⟩))) (hbR : w.cell? ⟨bR, 0, none⟩ = some (.string row)) (hbC : w.cell? ⟨bC, 0, none⟩ = some (.string col)) (hlen : ns.length < 1000000) (Sf : Nat → World → Prop) (hSf : Safe w Sf) (B : Nat) :
    SeqStopsK (α := { c : CellA // c ∈ cellsFrom (hd :: ns) k }) Fence.wide n Try.prog 36 #[.pointer (some ⟨bL, 0, none⟩), .pointer (some ⟨bR, 0, none⟩), .pointer (some ⟨bC, 0, none⟩)]
      (fun x => #[.agg #[.string x.1.row, .string x.1.col, .int .u64 x.1.ver, .bool x.1.gone, .string x.1.val]]) (KpS Sf B) (fun xs => xs.map (·.1) = cellsFrom (hd :: ns) k) (fun pre => pre.map (·.1) <+: cellsFrom (hd :: ns) k) (cellsFrom (hd :: ns) k).length w := by
  intro l J Jx W hW hJ hJx hY h0
  obtain ⟨i0, hi, iz0, iz1, iz2⟩ := info_parts Try.info_cell
  have Hi := Lib.hid hi
  have HSf := Lib.hid hSf
  have HY := Lib.hid hY
  have HJ := Lib.hid hJ
  have H0 := Lib.hid h0
  have HW := Lib.hid hW
  have HS := Lib.hid (hS.below hW)
  have HC := Lib.hid hC
  have c1 := (hW.cell (p := ⟨bL, 0, none⟩) (World.block_lt_of_cell? _ _ hbL)).trans hbL
  have c2 := (hW.cell (p := ⟨bR, 0, none⟩) (World.block_lt_of_cell? _ _ hbR)).trans hbR
  have c3 := (hW.cell (p := ⟨bC, 0, none⟩) (World.block_lt_of_cell? _ _ hbC)).trans hbC
  have KN := Lib.hid fun (V : World) (h : Below W.heap.size W V) => snone_any lb hd ns V ((hS.below hW).below h)
  have KF := Lib.hid fun (V : World) (h : Below W.heap.size W V) => first_any row col lb hd ns k V ((hS.below hW).below h) hC
  obtain ⟨L, hL⟩ : ∃ L, L = cellsFrom (hd :: ns) k := ⟨_, rfl⟩
  have hLl : L.length < 1000001 := by rw [hL, cellsFrom_len, List.length_cons]; omega
  have HL := Lib.hid hL
  clear hi hSf hY hJ h0 hJx hC hS hbL hbR hbC hL hlen hW
  refine callsIn_of_wp (F := Fence.wide) Try.func36 rfl trivial ?_ rfl
  refine wpIn_wide.2 ?_
  simp only [Try.ntmps36, List.size_toArray, List.length_cons, List.length_nil, Nat.reduceAdd, Nat.reduceSub, Array.replicate_succ, Array.replicate_zero, List.push_toArray, List.append_toArray, List.nil_append, List.cons_append]
  go_wp2_with fail
  refine (KN.out _ (Below.refl _ _)).mono ?_
  rintro e w0 ⟨rfl, rfl⟩
  go_wp2_with fail
  refine (KF.out _ (Below.refl _ _)).mono ?_
  rintro e w1 ⟨rfl, hb⟩
  have Hb1 := Lib.hid hb
  have hz1 := hb.size
  clear hb
  go_wp2_with fail
  go_loopw [5, 6] (fun v x wr => ∃ (j : Nat) (ao : Option Addr) (cap : Nat), j ≤ L.length ∧ v = .slice ao j cap ∧ x = ptrN (hd :: ns)[k + j]? ∧ Hid (Own wr W.heap.size v (L.take j)) ∧ Hid (Below W.heap.size W wr)) (fun v _ _ => L.length - sliceN v)
  case atStart => exact ⟨0, none, 0, Nat.zero_le _, rfl, rfl, Lib.hid (Row.nil _ _ _ _), Hb1⟩
  case round =>
    clear Hb1
    obtain ⟨j, ao, cap, hj, rfl, rfl, hO, hB⟩ := hrel
    cases ho : (hd :: ns)[k + j]? with
    | some nd =>
      have Ho := Lib.hid ho
      have hjl : j < L.length := by have h1 := (List.getElem?_eq_some_iff.1 ho).1; rw [HL.out, cellsFrom_len]; omega
      have htk := Lib.hid (show L.take (j + 1) = L.take j ++ [nd.c] by rw [HL.out]; exact cellsFrom_take ho)
      have hN0 := HS.out.tow (k + j) nd ho
      have hN := (HS.out.below hB.out).tow (k + j) nd ho
      have hnl0 := hN0.lt
      have Hx5 := Lib.hid fun (V : World) (h : Below W.heap.size W V) => (h.cell (p := ⟨nd.b, 6 + 0, none⟩) hnl0).trans (hN0.t 0 (by decide))
      clear hN0
      obtain ⟨x0, x1, x2, x3, x4⟩ := hN.cell
      have hnl := hN.lt
      have hz := hB.out.size
      have htl : (L.take j).length = j := by rw [List.length_take]; omega
      have Htl := Lib.hid htl
      have hnx : towN nd 0 ((hd :: ns).drop (k + j + 1)) = (hd :: ns)[k + (j + 1)]? := by
        rw [towN, if_pos (by have := (HS.out.high nd (List.mem_of_getElem? ho)).1; omega), nxt_zero (fun n hn => (HS.out.high n (List.mem_of_mem_drop hn)).1), List.getElem?_drop]
        rfl
      rw [hnx] at Hx5
      simp only [Nat.add_zero] at Hx5
      simp only [Nat.zero_add, Nat.add_zero] at x0 x1 x2 x3 x4
      clear ho hN htl hnx
      rw [show ptrN (some nd) = Value.pointer (some ⟨nd.b, 0, none⟩) from rfl]
      obtain ⟨R, hR⟩ : ∃ R, R = (hd :: ns)[k + (j + 1)]? := ⟨_, rfl⟩
      rw [← hR] at Hx5
      have HR := Lib.hid hR
      clear hR
      go_wp2_with (at_builtin; go_loud (refine wpList_append_at _ rfl _ _ 22 rfl W.heap.size 26 i0 _ 5 64 Try.underlying22 Hi.out iz0 iz1 iz2 rfl (by decide) (.slice ao j cap) _ _ rfl (Row.alloc hO.out _) rfl (cells_one _ _ nd.c _ rfl) (by rw [Htl.out]; omega) (by rw [Htl.out]; unfold maxLen; omega) (by go_size) ?_; intro v7 w7 hr7 hg7 ho7; obtain ⟨hB7, ao7, cap7, rfl, hO7⟩ := push_all hO.out hB.out htk.out Htl.out hr7 hg7; have HB7 := Lib.hid hB7; have HO7 := Lib.hid hO7; have y5 := Hx5.out w7 hB7; clear hr7 hg7 ho7 hB7 hO7))
      exact ⟨⟨j + 1, ao7, cap7, by omega, rfl, by rw [HR.out], HO7, HB7⟩, by simp only [sliceN]; omega⟩
    | none =>
      have hjl : j = L.length := by have h1 := List.getElem?_eq_none_iff.1 ho; have h2 := HL.out; rw [h2, cellsFrom_len] at hj ⊢; omega
      clear ho
      rw [show ptrN none = Value.pointer none from rfl]
      obtain ⟨W5, rfl⟩ : ∃ V : World, V = wr := ⟨_, rfl⟩
      subst hjl
      have ho5 := hO.out
      rw [List.take_of_length_le (Nat.le_refl _)] at ho5
      have HO5 := Lib.hid ho5
      have HSn := Lib.hid (Snap.start HSf.out HW.out hB.out ho5)
      have HJ5 : Hid (J (came (cellsFrom (hd :: ns) k) 0) W5) := Lib.hid (HJ.out _ _ _ none H0.out (grown_none hB.out) (fun r e => by cases e))
      have hz5 := hB.out.size
      obtain ⟨n5, hn5⟩ : ∃ n5, n5 = L.length := ⟨_, rfl⟩
      have Hn5 := Lib.hid hn5
      rw [← hn5] at hLl ⊢
      clear ho5 hO hn5
      go_wp2
      refine (wpIn_wide (n := n)).1 ?_
      gi_loopw [31] (fun i wr => ∃ j : Nat, j ≤ n5 ∧ i = .int .i64 j ∧ Hid (J (came (cellsFrom (hd :: ns) k) j) wr) ∧ Hid (Snap Sf ao W5 wr)) (fun i _ => n5 - (intOf i).toNat)
      case atStart => exact ⟨0, Nat.zero_le _, rfl, HJ5, HSn⟩
      case round =>
        clear HJ5 HSn
        obtain ⟨j, hj, rfl, hJ5, hSn⟩ := hrel
        by_cases hlt : j < n5
        · obtain ⟨c, hc⟩ : ∃ c, L[j]? = some c := ⟨_, List.getElem?_eq_getElem (by rw [← Hn5.out]; exact hlt)⟩
          obtain ⟨ao', cap', e', hcs⟩ := Own.cells HO5.out
          cases e'
          obtain ⟨b, off, rfl, hbl, ⟨x0, x1, x2, x3, x4⟩⟩ := Cells.at_ hcs hc
          have hrow := (hSn.out.row _ rfl).2
          have hz6 := hSn.out.size
          simp only at hrow
          have y0 := (World.cell?_of_block (a := ⟨b, _, none⟩) hrow).trans x0
          have y1 := (World.cell?_of_block (a := ⟨b, _, none⟩) hrow).trans x1
          have y2 := (World.cell?_of_block (a := ⟨b, _, none⟩) hrow).trans x2
          have y3 := (World.cell?_of_block (a := ⟨b, _, none⟩) hrow).trans x3
          have y4 := (World.cell?_of_block (a := ⟨b, _, none⟩) hrow).trans x4
          have hmem : c ∈ cellsFrom (hd :: ns) k := by rw [← HL.out]; exact List.mem_of_getElem? hc
          have hbA : Below wr.heap.size wr (wr.alloc (.cells #[.string c.row, .string c.col, .int .u64 c.ver, .bool c.gone, .string c.val] 26)) := (Below.refl _ _).alloc (Nat.le_refl _) _
          have hlc := Lib.hid (show (came (cellsFrom (hd :: ns) k) j).length = j from came_len (by rw [← HL.out, ← Hn5.out]; exact hj))
          obtain ⟨fn, tmps, assign, body, hy, hR⟩ := HY.out (came (cellsFrom (hd :: ns) k) j) ⟨c, hmem⟩ _ (HJ.out _ _ _ none hJ5.out (grown_none hbA) (fun r e => by cases e)) (by rw [hlc.out, ← HL.out, ← Hn5.out]; exact hlt)
          dsimp only at hy
          have HR := Lib.hid hR
          have HbA := Lib.hid hbA
          have Hst := Lib.hid (show came (cellsFrom (hd :: ns) k) (j + 1) = came (cellsFrom (hd :: ns) k) j ++ [⟨c, hmem⟩] from came_succ (by rw [← HL.out]; exact hc))
          clear x0 x1 x2 x3 x4 hrow hR hbA hc hcs
          gi_wp2
          refine HR.out.mono ?_
          rintro e W3 (⟨rfl, hJ3, hk3⟩ | ⟨rfl, hJx3⟩)
          · have hSn3 := Lib.hid (hSn.out.step HSf.out HbA.out hk3)
            have hJ4 : Hid (J (came (cellsFrom (hd :: ns) k) (j + 1)) W3) := Lib.hid (by rw [Hst.out]; exact hJ3)
            clear hJ3 hk3
            gi_wp2
            go_roundw
            case rel => exact ⟨j + 1, by omega, by go_num, hJ4, hSn3⟩
            case measure => simp [intOf]; omega
          · have hJ4 : Hid (Jx (came (cellsFrom (hd :: ns) k) (j + 1)) W3) := Lib.hid (by rw [Hst.out]; exact hJx3)
            clear hJx3
            gi_wp2
            refine bodyPost_ret (results_none rfl _ _ _) rfl ?_
            exact ⟨⟨_, rfl⟩, .inr ⟨_, by rw [came_map]; exact List.take_prefix _ _, hJ4.out⟩⟩
        · obtain rfl : j = n5 := by omega
          gi_wp2
          go_end0
          exact ⟨⟨_, rfl⟩, .inl ⟨_, by rw [came_map, List.take_of_length_le (by rw [← HL.out, ← Hn5.out]; exact Nat.le_refl _)], hJ5.out⟩⟩
end Go.Proofs.Ytlnfdejflpgleaa
