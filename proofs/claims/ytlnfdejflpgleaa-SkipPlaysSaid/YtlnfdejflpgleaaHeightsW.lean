/-
  Skip lists: the walk of Heights.
-/
import Derived.Test.YtlnfdejflpgleaaFirstW
import Derived.Laws.OwnMore
namespace Go.Proofs.Ytlnfdejflpgleaa
open Go.RowKit

/-- how many are higher than L -/
def cntH (l : List Nd) (L : Nat) : Nat := (l.filter fun n => decide (L < n.h)).length
theorem nxt_cnt {L : Nat} : ∀ {l : List Nd} {m : Nd}, nxt L l = some m → ∃ q : Nat, l[q]? = some m ∧ L < m.h ∧ cntH l L = 1 + cntH (l.drop (q + 1)) L
  | [], m, h => by simp [nxt] at h
  | n :: l, m, h => by
    rw [nxt_cons] at h
    by_cases hn : L < n.h
    · rw [if_pos hn] at h
      cases h
      exact ⟨0, rfl, hn, by simp [cntH, hn]; omega⟩
    · rw [if_neg hn] at h
      obtain ⟨q, h1, h2, h3⟩ := nxt_cnt h
      refine ⟨q + 1, by simpa using h1, h2, ?_⟩
      have e : cntH (n :: l) L = cntH l L := by simp [cntH, hn]
      rw [e, h3, List.drop_succ_cons]
theorem cnt_none {L : Nat} {l : List Nd} (h : nxt L l = none) : cntH l L = 0 := by
  unfold cntH
  rw [List.length_eq_zero_iff, List.filter_eq_nil_iff]
  intro n hn
  have := nxt_none h n hn
  simp; omega
theorem cntH_le (l : List Nd) (L : Nat) : cntH l L ≤ l.length := List.length_filter_le _ _
/-- how far a pointer at a node is from the end -/
def farN (ns : List Nd) : Value → Nat
  | .pointer (some a) => ns.length - ns.findIdx (fun n => n.b == a.block)
  | _ => 0
theorem farN_at {ns : List Nd} (h : ns.Pairwise fun a b => a.b ≠ b.b) {i : Nat} {q : Nd} (hq : ns[i]? = some q) : farN ns (.pointer (some ⟨q.b, 0, none⟩)) = ns.length - i := by
  have := idxV_at h hq
  unfold idxV at this
  unfold farN
  simp only at this ⊢
  rw [this]
theorem Try.info_int : (Try.prog.info? 3).map (fun i => (i.zero, i.size, i.bytes)) = some (some (.int .i64 0), 1, 8) := by kernel_rfl
/-- twelve numbers in a block of their own -/
structure Twelve (w : World) (g : Nat) (f : Nat → Int) : Prop where
  lt : g < w.heap.size
  c : ∀ L, L < 12 → w.cell? ⟨g, L, none⟩ = some (.int .i64 (f L))
  fr : ∀ o, w.frozen? ⟨g, o, none⟩ = false
theorem Twelve.below {w w' : World} {g : Nat} {f : Nat → Int} (h : Twelve w g f) (hb : Below w.heap.size w w') : Twelve w' g f :=
  ⟨Nat.lt_of_lt_of_le h.lt hb.size, fun L hL => (hb.cell (p := ⟨g, L, none⟩) h.lt).trans (h.c L hL), fun o => (hb.frozen (p := ⟨g, o, none⟩) h.lt).trans (h.fr o)⟩
theorem Twelve.keep {w w' : World} {g : Nat} {f : Nat → Int} (h : Twelve w g f) (hs : w.heap.size ≤ w'.heap.size) (hb : w'.heap[g]? = w.heap[g]?) : Twelve w' g f :=
  ⟨Nat.lt_of_lt_of_le h.lt hs, fun L hL => (World.cell?_of_block (a := ⟨g, L, none⟩) hb).trans (h.c L hL), fun o => (World.frozen?_of_block (a := ⟨g, o, none⟩) hb).trans (h.fr o)⟩
theorem Twelve.put {w : World} {g : Nat} {f : Nat → Int} (h : Twelve w g f) {m : Nat} (hm : m < 12) (v : Int) : Twelve (w.setCell ⟨g, m, none⟩ (.int .i64 v)) g (fun L => if L = m then v else f L) := by
  refine ⟨by rw [World.size_setCell]; exact h.lt, fun L hL => ?_, fun o => by rw [World.frozen?_setCell]; exact h.fr o⟩
  by_cases e : L = m
  · subst e
    rw [if_pos rfl]
    exact World.cell?_setCell_same _ _ _ (h.c L hL)
  · rw [if_neg e, World.cell?_setCell_other _ _ _ _ (fun e2 => e (by have := congrArg Addr.off e2; simpa using this.symm))]
    exact h.c L hL
theorem twelve_made {w w' : World} {T : TypeId} (h : w'.ownsRow w.heap.size T 1 (.slice (some ⟨w.heap.size, 0, none⟩) 12 12) 12 (madeCells (Value.int .i64 0).cells (12 * 1)).toList) : Twelve w' w.heap.size (fun _ => 0) := by
  have e : (madeCells (Value.int .i64 0).cells (12 * 1)).toList = List.replicate 12 (Value.int .i64 0) := by
    show (madeCells #[Value.int .i64 0] 12).toList = _
    rw [toList_madeCells_one]
  rw [e] at h
  rcases h.2 with ⟨h0, _⟩ | ⟨g, cap, cur, h1, h2, h3, h4, h5, h6, h7⟩
  · cases h0
  · cases h1
    refine ⟨(Array.getElem?_eq_some_iff.1 h3).1, fun L hL => ?_, fun o => by simp [World.frozen?, h3]⟩
    have h8 : cur.toList[L]? = (List.replicate 12 (Value.int .i64 0))[L]? := by rw [← h7, List.getElem?_take_of_lt (by omega)]
    rw [List.getElem?_replicate, if_pos hL] at h8
    simp only [World.cell?, h3]
    simpa using h8
/-- while Heights counts: w is its beginning, the levels up to m are done, of m there are c -/
structure HtI (ns : List Nd) (w wr : World) (m : Nat) (c : Int) : Prop where
  bel : Below w.heap.size w wr
  t : ∃ f : Nat → Int, Twelve wr w.heap.size f ∧ (∀ L, L < m → f L = cntH ns L) ∧ f m = c ∧ ∀ L, m < L → f L = 0

set_option maxRecDepth 100000 in
set_option maxHeartbeats 4000000 in
theorem heights_any (lb : Nat) (hd : Nd) (ns : List Nd) (w : World) (hS : SkipAt w lb hd ns) (hlen : ns.length < 1000000) :
    Calls Try.prog 20 #[.pointer (some ⟨lb, 0, none⟩)] w fun e w' => e = .returned (.slice (some ⟨w.heap.size, 0, none⟩) 12 12) ∧ Twelve w' w.heap.size (fun L => cntH ns L) ∧ Below w.heap.size w w' := by
  obtain ⟨i, hi, hz0, hz1, hz2⟩ := info_parts Try.info_int
  obtain ⟨w1, hm, hO, hg⟩ := run_makeSlice_full (P := Try.prog) w w.heap.size 39 3 i _ 1 (by kernel_rfl) hi hz0 hz1 .i64 .i64 12 (by omega) (by rw [hz2]; omega) (by unfold maxLen; omega) (Nat.le_refl _)
  have hT := Lib.hid (twelve_made hO)
  have hb1 : Below w.heap.size w w1 := (Below.refl _ _).grown hg (Nat.le_refl _) (fun k e => by cases e)
  have hB1 := Lib.hid hb1
  have HS := Lib.hid hS
  have KN := Lib.hid (snone_any lb hd ns w hS)
  have l0 := (hb1.cell (p := ⟨lb, 0, none⟩) (World.block_lt_of_cell? _ _ hS.l0)).trans hS.l0
  have hlb : lb < w.heap.size := World.block_lt_of_cell? _ _ hS.l0
  have hne := hS.ne
  rw [List.pairwise_cons] at hne
  have Hne := Lib.hid hne.2
  have h0 := hS.tow 0 hd rfl
  have hdl := h0.lt
  have Hh0 := Lib.hid h0
  have hh := Lib.hid hS.hh
  have hm : (Instr.makeSlice 39 (.int .i64 12) (.int .i64 12)).run Try.prog w = .ok (.slice (some ⟨w.heap.size, 0, none⟩) 12 12) w1 := hm
  clear hi hO hg hb1 hS hne h0
  go_enter Try.func20, Try.ntmps20
  go_wp2_with fail
  refine KN.out.mono ?_
  rintro e w' ⟨rfl, rfl⟩
  go_wp2_with fail
  go_loopw [11] (fun i wr => ∃ m : Nat, m ≤ 12 ∧ i = .int .i64 m ∧ Hid (HtI ns w wr m 0)) (fun i _ => 12 - (intOf i).toNat)
  case atStart => exact ⟨0, by omega, rfl, Lib.hid ⟨hB1.out, _, hT.out, fun L h => by omega, rfl, fun _ _ => rfl⟩⟩
  case round =>
    clear hT hB1 hm l0
    obtain ⟨m, hm, rfl, hI⟩ := hrel
    have hB := hI.out.bel
    have l0 := (hB.cell (p := ⟨lb, 0, none⟩) hlb).trans HS.out.l0
    by_cases hlt : m < 12
    · have t0 := (hB.cell (p := ⟨hd.b, 6 + m, none⟩) hdl).trans (Hh0.out.t m hlt)
      have e0 : towN hd m ((hd :: ns).drop (0 + 1)) = nxt m ns := by
        rw [towN, if_pos (by rw [hh.out]; exact hlt)]; rfl
      rw [e0] at t0
      have hz := hB.size
      have HB := Lib.hid hB
      clear hB e0
      go_wp2_with fail
      go_loopw [5] (fun x wr => ∃ (j : Nat) (c : Int), j ≤ ns.length ∧ x = ptrN (nxt m (ns.drop j)) ∧ Hid (c + cntH (ns.drop j) m = cntH ns m) ∧ 0 ≤ c ∧ Hid (HtI ns w wr m c)) (fun x _ => farN ns x)
      case atStart => exact ⟨0, 0, by omega, rfl, Lib.hid (by simp), by omega, hI⟩
      case round =>
        clear hI HB l0 t0 hz
        obtain ⟨j, c, hj, rfl, hc, hc0, hI⟩ := hrel
        cases hn : nxt m (ns.drop j) with
        | none =>
          rw [cnt_none hn] at hc
          have Hc := Lib.hid (show c = (cntH ns m : Int) by have := hc.out; omega)
          clear hc hn
          simp only [ptrN, adrN]
          go_wp2
          refine ⟨⟨m + 1, by omega, by go_num, Lib.hid ⟨hI.out.bel, ?_⟩⟩, by simp [intOf]; omega⟩
          obtain ⟨f, h1, h2, h3, h4⟩ := hI.out.t
          refine ⟨f, h1, fun L hL => ?_, h4 _ (by omega), fun L hL => h4 L (by omega)⟩
          by_cases e : L = m
          · subst e; rw [h3]; exact Hc.out
          · exact h2 L (by omega)
        | some n =>
          obtain ⟨q, hq, hmn, hcn⟩ := nxt_cnt hn
          rw [List.getElem?_drop] at hq
          rw [List.drop_drop] at hcn
          have hql := (List.getElem?_eq_some_iff.1 hq).1
          have hN := HS.out.tow (j + q + 1) n (by simpa using hq)
          have hnl := hN.lt
          have hB := hI.out.bel
          have t1 := (hB.cell (p := ⟨n.b, 6 + m, none⟩) hnl).trans (hN.t m hlt)
          have e1 : towN n m ((hd :: ns).drop (j + q + 1 + 1)) = nxt m (ns.drop (j + q + 1)) := by
            rw [towN, if_pos hmn, List.drop_succ_cons]
          rw [e1] at t1
          obtain ⟨f, hT, h2, h3, h4⟩ := hI.out.t
          have hcm := hT.c m hlt
          have hcf := hT.fr m
          rw [h3] at hcm
          have hcl : c ≤ ns.length := by have := hc.out; have := cntH_le ns m; omega
          have Hfar := Lib.hid (farN_at Hne.out hq)
          have hbel2 := hB.setCell (p := ⟨w.heap.size, m, none⟩) (Nat.le_refl _) (.int .i64 (c + 1))
          have HI2 : Hid (HtI ns w (wr.setCell ⟨w.heap.size, m, none⟩ (.int .i64 (c + 1))) m (c + 1)) := Lib.hid ⟨hbel2, _, hT.put hlt (c + 1), fun L hL => by rw [if_neg (by omega)]; exact h2 L hL, by simp, fun L hL => by rw [if_neg (by omega)]; exact h4 L hL⟩
          have Hc2 : Hid (c + 1 + cntH (ns.drop (j + q + 1)) m = cntH ns m) := Lib.hid (by
            have := hc.out
            rw [hcn, show j + (q + 1) = j + q + 1 by omega] at this
            omega)
          have hTg := hT.lt
          have hnw : n.b ≠ w.heap.size := by omega
          have HNx : Hid (∀ n', nxt m (ns.drop (j + q + 1)) = some n' → farN ns (ptrN (some n')) < ns.length - (j + q)) := Lib.hid (fun n' e => by
            obtain ⟨q', hq', _, _⟩ := nxt_cnt e
            rw [List.getElem?_drop] at hq'
            have hl' := (List.getElem?_eq_some_iff.1 hq').1
            show farN ns (.pointer (some ⟨n'.b, 0, none⟩)) < _
            rw [farN_at Hne.out hq']
            omega)
          have hsz := hB.size
          obtain ⟨R, hR⟩ : ∃ R, R = nxt m (ns.drop (j + q + 1)) := ⟨_, rfl⟩
          rw [← hR] at t1 HNx
          have HR := Lib.hid hR
          clear hn hq hcn hN hB e1 hT h2 h3 h4 hc hbel2 hR hI
          rw [show ptrN (some n) = Value.pointer (some ⟨n.b, 0, none⟩) from rfl]
          go_wp2
          refine ⟨⟨j + q + 1, c + 1, by omega, by rw [HR.out], Hc2, by omega, HI2⟩, ?_⟩
          rw [Hfar.out]
          cases R with
          | none => show 0 < _; omega
          | some n' => exact HNx.out n' rfl
    · obtain rfl : m = 12 := by omega
      obtain ⟨f, h1, h2, h3, h4⟩ := hI.out.t
      have HF := Lib.hid h1
      have HF2 := Lib.hid h2
      clear h1 h2 h3 h4
      have HB := Lib.hid hB
      clear hB
      go_wp2
      go_ret
      exact ⟨rfl, ⟨HF.out.lt, fun L hL => by rw [← HF2.out L hL]; exact HF.out.c L hL, HF.out.fr⟩, HB.out⟩
end Go.Proofs.Ytlnfdejflpgleaa
