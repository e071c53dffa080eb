/-
  Skip lists: the walks of none, first, Get, Len.
-/
import Derived.Test.YtlnfdejflpgleaaAheadW
namespace Go.Proofs.Ytlnfdejflpgleaa
open Go.RowKit

set_option maxHeartbeats 400000 in
theorem snone_any (lb : Nat) (hd : Nd) (ns : List Nd) (w : World) (h : SkipAt w lb hd ns) :
    Calls Try.prog 28 #[.pointer (some ⟨lb, 0, none⟩)] w fun e w' => e = .returned (.bool false) ∧ w = w' := by
  have h0 := h.l0
  clear h
  go_enter Try.func28, Try.ntmps28
  go_wp2
  go_ret
  exact ⟨rfl, rfl⟩

/-- the test of first -/
def aheadP (row col : ByteArray) (c : CellA) : Bool := decide (c.row.toList < row.toList) || (decide (c.row.toList = row.toList) && decide (c.col.toList < col.toList))
set_option maxHeartbeats 1000000 in
theorem first1_any (c : CellA) (row col : ByteArray) (r q : Nat) (w : World) (hr : w.cell? ⟨r, 0, none⟩ = some (.string row)) (hq : w.cell? ⟨q, 0, none⟩ = some (.string col)) (hrl : r < w.heap.size) (hql : q < w.heap.size) :
    Calls Try.prog 53 #[.agg #[.string c.row, .string c.col, .int .u64 c.ver, .bool c.gone, .string c.val], .pointer (some ⟨r, 0, none⟩), .pointer (some ⟨q, 0, none⟩)] w fun e w' => e = .returned (.bool (aheadP row col c)) ∧ Below w.heap.size w w' := by
  go_enter Try.func53, Try.ntmps53
  go_wp2
  all_goals (go_ret; refine ⟨ret_bool ?_, by go_grown⟩)
  all_goals (simp only [less_eq, aheadP] at * <;> grind)
theorem last_zero {l : List Nd} {k i : Nat} (h : LastAtL l k 0 i) (hh : ∀ n ∈ l, 1 ≤ n.h) (hk : k ≤ l.length) : i + 1 = k := by
  have h1 := h.lt
  rcases Nat.lt_or_ge (i + 1) k with h2 | h2
  · have hl : k - 1 < l.length := by omega
    have := h.low (k - 1) l[k - 1] (by omega) (by omega) (List.getElem?_eq_getElem hl)
    have := hh l[k - 1] (List.getElem_mem hl)
    omega
  · omega
theorem nxt_zero : ∀ {l : List Nd}, (∀ n ∈ l, 1 ≤ n.h) → nxt 0 l = l[0]?
  | [], _ => rfl
  | n :: l, h => by
    rw [nxt_cons, if_pos (by have := h n (List.mem_cons_self ..); omega)]
    rfl
/-- the place of the first one that is not ahead -/
structure CutAt (pr : CellA → Bool) (l : List Nd) (k : Nat) : Prop where
  pos : 0 < k
  le : k ≤ l.length
  yes : ∀ (i : Nat) n, 1 ≤ i → i < k → l[i]? = some n → pr n.c = true
  no : ∀ (i : Nat) n, k ≤ i → l[i]? = some n → pr n.c = false

theorem index12_0 (p0 p1 p2 p3 p4 p5 p6 p7 p8 p9 p10 p11 : Option Addr) (w : World) : (Instr.index 68 (.agg #[.pointer p0, .pointer p1, .pointer p2, .pointer p3, .pointer p4, .pointer p5, .pointer p6, .pointer p7, .pointer p8, .pointer p9, .pointer p10, .pointer p11]) (.int .i64 0)).run Try.prog w = .ok (.pointer p0) w := by kernel_rfl

set_option maxRecDepth 100000 in
set_option maxHeartbeats 2000000 in
theorem first_any (row col : ByteArray) (lb : Nat) (hd : Nd) (ns : List Nd) (k : Nat) (w : World) (hS : SkipAt w lb hd ns) (hC : CutAt (aheadP row col) (hd :: ns) k) :
    Calls Try.prog 35 #[.pointer (some ⟨lb, 0, none⟩), .string row, .string col] w fun e w' => e = .returned (ptrN (hd :: ns)[k]?) ∧ Below w.heap.size w w' := by
  have hAsk : ∀ W0 : World, W0.cell? ⟨w.heap.size, 0, none⟩ = some (.string row) → W0.cell? ⟨w.heap.size + 1, 0, none⟩ = some (.string col) → w.heap.size + 1 < W0.heap.size → Asks 53 #[.pointer (some ⟨w.heap.size, 0, none⟩), .pointer (some ⟨w.heap.size + 1, 0, none⟩)] (aheadP row col) ns W0 := by
    intro W0 h0 h1 h2 n hn W hB
    have hz := hB.size
    exact first1_any n.c row col _ _ W ((hB.cell (p := ⟨_, _, none⟩) (by simp only; omega)).trans h0) ((hB.cell (p := ⟨_, _, none⟩) (by simp only; omega)).trans h1) (by omega) (by omega)
  have hFn : Fun 53 := ⟨_, _, Try.func53, by kernel_rfl, rfl⟩
  have KA : ∀ W0 : World, Below w.heap.size w W0 → W0.cell? ⟨w.heap.size, 0, none⟩ = some (.string row) → W0.cell? ⟨w.heap.size + 1, 0, none⟩ = some (.string col) → w.heap.size + 1 < W0.heap.size →
      Calls Try.prog 30 #[.pointer (some ⟨lb, 0, none⟩), .func (.func 53) #[] #[.pointer (some ⟨w.heap.size, 0, none⟩), .pointer (some ⟨w.heap.size + 1, 0, none⟩)]] W0 fun e w' =>
        ∃ (f : Nat → Nat) (q : Nd), e = .returned (atV (hd :: ns) f) ∧ Hid (adrN (hd :: ns)[f 0]? = some ⟨q.b, 0, none⟩) ∧ Hid (w'.cell? ⟨q.b, 6, none⟩ = some (ptrN (hd :: ns)[k]?)) ∧ Below W0.heap.size W0 w' := by
    intro W0 hB h0 h1 h2
    refine (ahead_any _ _ hFn (aheadP row col) lb hd ns k W0 (hS.below hB) hC.pos hC.le hC.yes hC.no (hAsk W0 h0 h1 h2)).mono ?_
    rintro e w' ⟨f, hf, rfl, hb⟩
    have hh : ∀ n ∈ hd :: ns, 1 ≤ n.h := fun n hn => (hS.high n hn).1
    have h3 := last_zero (hf 0 (by decide)) hh hC.le
    have hkl := hC.le
    have hl : f 0 < (hd :: ns).length := by omega
    refine ⟨f, (hd :: ns)[f 0], rfl, Lib.hid (by rw [List.getElem?_eq_getElem hl]; rfl), Lib.hid ?_, hb⟩
    have ht := ((hS.below (hB.trans (hb.mono hB.size))).tow (f 0) _ (List.getElem?_eq_getElem hl)).t 0 (by decide)
    have he : towN (hd :: ns)[f 0] 0 ((hd :: ns).drop (f 0 + 1)) = (hd :: ns)[k]? := by
      rw [towN, if_pos (by have := hh _ (List.getElem_mem hl); omega), nxt_zero (fun n hn => hh n (List.mem_of_mem_drop hn)), List.getElem?_drop, h3]
    rw [he] at ht
    exact ht
  simp only [atV] at KA
  have KA := Lib.hid KA
  have hlb := hS.inb lb (.inl rfl)
  have hnb : ∀ q : Nd, True := fun _ => trivial
  obtain ⟨R, hR⟩ : ∃ R, R = (hd :: ns)[k]? := ⟨_, rfl⟩
  rw [← hR] at KA ⊢
  clear hR hS hC hAsk hFn hnb
  have hix := index12_0
  go_enter Try.func35, Try.ntmps35
  go_wp2_with (go_at_call 30; refine (KA.out _ (by go_grown) (by go_simp) (by go_simp) (by simp)).mono ?_; rintro e w1 ⟨f, q, rfl, hq, hc, hb⟩; have hq1 := hq.out; have hc1 := hc.out; obtain ⟨hB, hSz, hk⟩ := after (B := w.heap.size) (w := w) (by go_grown) (by go_size) hb; have HB := Lib.hid hB; clear hq hc hb hB hSz hk)
  go_ret
  exact ⟨rfl, HB.out⟩

/-- what Get answers, by the first node that is not ahead -/
def getV (row col : ByteArray) : Option Nd → Value
  | none => .tuple #[.agg #[.string ⟨#[]⟩, .string ⟨#[]⟩, .int .u64 0, .bool false, .string ⟨#[]⟩], .bool false]
  | some n => if n.c.row.toList = row.toList ∧ n.c.col.toList = col.toList then .tuple #[.agg #[.string n.c.row, .string n.c.col, .int .u64 n.c.ver, .bool n.c.gone, .string n.c.val], .bool true] else .tuple #[.agg #[.string ⟨#[]⟩, .string ⟨#[]⟩, .int .u64 0, .bool false, .string ⟨#[]⟩], .bool false]

set_option maxRecDepth 100000 in
set_option maxHeartbeats 2000000 in
theorem get_any (row col : ByteArray) (lb : Nat) (hd : Nd) (ns : List Nd) (k : Nat) (w : World) (hS : SkipAt w lb hd ns) (hC : CutAt (aheadP row col) (hd :: ns) k) :
    Calls Try.prog 15 #[.pointer (some ⟨lb, 0, none⟩), .string row, .string col] w fun e w' => e = .returned (getV row col (hd :: ns)[k]?) ∧ Below w.heap.size w w' := by
  have HS := Lib.hid hS
  have KF := Lib.hid fun (W : World) (h : Below w.heap.size w W) => first_any row col lb hd ns k W (hS.below h) hC
  have KN := Lib.hid fun (W : World) (h : Below w.heap.size w W) => snone_any lb hd ns W (hS.below h)
  obtain ⟨R, hR⟩ : ∃ R, R = (hd :: ns)[k]? := ⟨_, rfl⟩
  have HR := Lib.hid hR
  rw [← hR] at KF ⊢
  clear hS hR
  cases R with
  | none =>
    simp only [ptrN, adrN] at KF
    go_enter Try.func15, Try.ntmps15
    go_wp2_with (first
      | (go_at_call 28; refine (KN.out _ (by go_grown)).mono ?_; rintro e w' ⟨rfl, rfl⟩)
      | (go_at_call 35; refine (KF.out _ (by go_grown)).mono ?_; rintro e w1 ⟨rfl, hb⟩; obtain ⟨hB, hS, hk⟩ := after (B := w.heap.size) (w := w) (by go_grown) (by go_size) hb; clear hb; obtain ⟨c0, f0, z0⟩ := hk (w.heap.size) (by go_size); clear hk))
    refine bodyPost_ret (v := getV row col none) (by simp [results, Try.results15, go_sem, getV, *]) rfl ⟨rfl, by go_grown⟩
  | some n =>
    obtain ⟨i, hi⟩ : ∃ i : Nat, (hd :: ns)[i]? = some n := ⟨k, HR.out.symm⟩
    have hN := HS.out.tow i n hi
    have hnl := hN.lt
    obtain ⟨c0, c1, c2, c3, c4⟩ := hN.cell
    simp only [Nat.zero_add] at c0 c1 c2 c3 c4
    simp only [ptrN, adrN] at KF
    have HC := Lib.hid fun (W : World) (h : Below w.heap.size w W) => (⟨(h.cell (p := ⟨_, _, none⟩) hnl).trans c0, (h.cell (p := ⟨_, _, none⟩) hnl).trans c1, (h.cell (p := ⟨_, _, none⟩) hnl).trans c2, (h.cell (p := ⟨_, _, none⟩) hnl).trans c3, (h.cell (p := ⟨_, _, none⟩) hnl).trans c4⟩ : W.cell? ⟨n.b, 0, none⟩ = some (.string n.c.row) ∧ W.cell? ⟨n.b, 1, none⟩ = some (.string n.c.col) ∧ W.cell? ⟨n.b, 2, none⟩ = some (.int .u64 n.c.ver) ∧ W.cell? ⟨n.b, 3, none⟩ = some (.bool n.c.gone) ∧ W.cell? ⟨n.b, 4, none⟩ = some (.string n.c.val))
    clear hN c0 c1 c2 c3 c4
    by_cases hr : n.c.row.toList = row.toList
    · have t1 : (n.c.row.toList == row.toList) = true := by simp [hr]
      by_cases hc : n.c.col.toList = col.toList
      · have Hv := Lib.hid (show getV row col (some n) = .tuple #[.agg #[.string n.c.row, .string n.c.col, .int .u64 n.c.ver, .bool n.c.gone, .string n.c.val], .bool true] by rw [getV, if_pos ⟨hr, hc⟩])
        have t2 : (n.c.col.toList == col.toList) = true := by simp [hc]
        clear hr hc
        go_enter Try.func15, Try.ntmps15
        go_wp2_with (first
          | (go_at_call 28; refine (KN.out _ (by go_grown)).mono ?_; rintro e w' ⟨rfl, rfl⟩)
          | (go_at_call 35; refine (KF.out _ (by go_grown)).mono ?_; rintro e w1 ⟨rfl, hb⟩; obtain ⟨hB, hS, hk⟩ := after (B := w.heap.size) (w := w) (by go_grown) (by go_size) hb; clear hb; obtain ⟨c0, f0, z0⟩ := hk (w.heap.size) (by go_size); clear hk; obtain ⟨d0, d1, d2, d3, d4⟩ := HC.out w1 hB))
        rw [Hv.out]
        refine bodyPost_ret (v := .tuple #[.agg #[.string n.c.row, .string n.c.col, .int .u64 n.c.ver, .bool n.c.gone, .string n.c.val], .bool true]) (by simp [results, Try.results15, go_sem, *]) rfl ⟨rfl, by go_grown⟩
      · have Hv := Lib.hid (show getV row col (some n) = .tuple #[.agg #[.string ⟨#[]⟩, .string ⟨#[]⟩, .int .u64 0, .bool false, .string ⟨#[]⟩], .bool false] by rw [getV, if_neg (fun h => hc h.2)])
        have t2 : (n.c.col.toList == col.toList) = false := by simp [hc]
        clear hr hc
        go_enter Try.func15, Try.ntmps15
        go_wp2_with (first
          | (go_at_call 28; refine (KN.out _ (by go_grown)).mono ?_; rintro e w' ⟨rfl, rfl⟩)
          | (go_at_call 35; refine (KF.out _ (by go_grown)).mono ?_; rintro e w1 ⟨rfl, hb⟩; obtain ⟨hB, hS, hk⟩ := after (B := w.heap.size) (w := w) (by go_grown) (by go_size) hb; clear hb; obtain ⟨c0, f0, z0⟩ := hk (w.heap.size) (by go_size); clear hk; obtain ⟨d0, d1, d2, d3, d4⟩ := HC.out w1 hB))
        rw [Hv.out]
        refine bodyPost_ret (v := .tuple #[.agg #[.string ⟨#[]⟩, .string ⟨#[]⟩, .int .u64 0, .bool false, .string ⟨#[]⟩], .bool false]) (by simp [results, Try.results15, go_sem, *]) rfl ⟨rfl, by go_grown⟩
    · have Hv := Lib.hid (show getV row col (some n) = .tuple #[.agg #[.string ⟨#[]⟩, .string ⟨#[]⟩, .int .u64 0, .bool false, .string ⟨#[]⟩], .bool false] by rw [getV, if_neg (fun h => hr h.1)])
      have t1 : (n.c.row.toList == row.toList) = false := by simp [hr]
      clear hr
      go_enter Try.func15, Try.ntmps15
      go_wp2_with (first
        | (go_at_call 28; refine (KN.out _ (by go_grown)).mono ?_; rintro e w' ⟨rfl, rfl⟩)
        | (go_at_call 35; refine (KF.out _ (by go_grown)).mono ?_; rintro e w1 ⟨rfl, hb⟩; obtain ⟨hB, hS, hk⟩ := after (B := w.heap.size) (w := w) (by go_grown) (by go_size) hb; clear hb; obtain ⟨c0, f0, z0⟩ := hk (w.heap.size) (by go_size); clear hk; obtain ⟨d0, d1, d2, d3, d4⟩ := HC.out w1 hB))
      rw [Hv.out]
      refine bodyPost_ret (v := .tuple #[.agg #[.string ⟨#[]⟩, .string ⟨#[]⟩, .int .u64 0, .bool false, .string ⟨#[]⟩], .bool false]) (by simp [results, Try.results15, go_sem, *]) rfl ⟨rfl, by go_grown⟩

set_option maxHeartbeats 400000 in
theorem len_any (lb : Nat) (hd : Nd) (ns : List Nd) (w : World) (hS : SkipAt w lb hd ns) :
    Calls Try.prog 17 #[.pointer (some ⟨lb, 0, none⟩)] w fun e w' => e = .returned (.int .i64 ns.length) ∧ w = w' := by
  have h1 := hS.l1
  have KN := Lib.hid fun (W : World) (h : SkipAt W lb hd ns) => snone_any lb hd ns W h
  have HS := Lib.hid hS
  clear hS
  go_enter Try.func17, Try.ntmps17
  go_wp2_with (go_at_call 28; refine (KN.out _ HS.out).mono ?_; rintro e w' ⟨rfl, rfl⟩)
  go_ret
  exact ⟨rfl, rfl⟩
end Go.Proofs.Ytlnfdejflpgleaa
