/-
  block.lay; the document's one.
-/
import Derived.Test.YtihglmicgccgiaaBlkW
namespace Go.Proofs.Ytihglmicgccgiaa
open Go.RowKit

/-- a cell of short texts -/
structure SmallC (c : CellA) : Prop where
  row : c.row.size ≤ 1000000
  col : c.col.size ≤ 1000000
  val : c.val.size ≤ 1000000
  u : U64 c.ver
structure LaidB (a : ByteArray) (c : CellA) (n : Nat) (q s1 s2 s3 s4 s5 s6 : ByteArray) : Prop where
  cut : q = c.row.extract n c.row.size
  nle : n ≤ c.row.size
  ka : ∀ W, Calls Try.prog 74 #[.string a, .string c.row] W fun e w' => e = .returned (.int .i64 n) ∧ Below W.heap.size W w'
  k1 : ∀ W, Calls Try.prog 44 #[.string ⟨#[]⟩, .int .u64 n] W fun e w' => e = .returned (.string s1) ∧ Below W.heap.size W w'
  k2 : ∀ W, Calls Try.prog 46 #[.string s1, .string q] W fun e w' => e = .returned (.string s2) ∧ Below W.heap.size W w'
  k3 : ∀ W, Calls Try.prog 46 #[.string s2, .string c.col] W fun e w' => e = .returned (.string s3) ∧ Below W.heap.size W w'
  k4 : ∀ W, Calls Try.prog 44 #[.string s3, .int .u64 c.ver] W fun e w' => e = .returned (.string s4) ∧ Below W.heap.size W w'
  k5 : ∀ W, Calls Try.prog 75 #[.string s4, .int .u8 (if c.gone then 1 else 0)] W fun e w' => e = .returned (.string s5) ∧ Below W.heap.size W w'
  k6 : ∀ W, Calls Try.prog 46 #[.string s5, .string c.val] W fun e w' => e = .returned (.string s6) ∧ Below W.heap.size W w'
  e5 : s4 ++ (⟨#[if c.gone then 1 else 0]⟩ : ByteArray) = s5
  s5le : s5.size ≤ 4000000
  val : s6.toList = layL a.toList c
  big : (layL a.toList c).length ≤ 4000000
theorem txtL_len {l : List UInt8} (h : l.length ≤ 1000000) : (txtL l).length ≤ 1000010 := by
  have := numL_ten (v := l.length) (by omega)
  rw [txtL, List.length_append]; omega
theorem layL_big {a : List UInt8} {c : CellA} (h : SmallC c) : (layL a c).length ≤ 4000000 := by
  have hr := h.row; have hc := h.col; have hv := h.val
  rw [← size_list] at hr hc hv
  have hle := (alikeL_le a c.row.toList).2
  have n0 := numL_ten (v := alikeL a c.row.toList) (by omega)
  have n1 := txtL_len (l := c.row.toList.drop (alikeL a c.row.toList)) (by rw [List.length_drop]; omega)
  have n2 := txtL_len hc
  have n3 := txtL_len hv
  have n4 := numW_len c.ver h.u
  simp only [layL, List.length_append, List.length_cons, List.length_nil]
  omega
theorem laidB (a : ByteArray) (c : CellA) (ha : a.size ≤ maxLen) (h : SmallC c) : ∃ n q s1 s2 s3 s4 s5 s6, LaidB a c n q s1 s2 s3 s4 s5 s6 := by
  have hr := h.row; have hc := h.col; have hv := h.val; have hu := h.u
  have hle : alikeL a.toList c.row.toList ≤ c.row.size := by have := (alikeL_le a.toList c.row.toList).2; rwa [size_list] at this
  have hm : c.row.size ≤ maxLen := by unfold maxLen; omega
  obtain ⟨n, hn⟩ : ∃ n, n = alikeL a.toList c.row.toList := ⟨_, rfl⟩
  rw [← hn] at hle
  have hq : (c.row.extract n c.row.size).toList = c.row.toList.drop n := by
    rw [toList_extract, ← size_list, List.take_length]
  have hqs : (c.row.extract n c.row.size).size ≤ 1000000 := by rw [← size_list, hq, List.length_drop, size_list]; omega
  have hun : U64 (n : Int) := ⟨by omega, by omega⟩
  have l1 := numW_len (n : Int) hun
  have l4 := numW_len c.ver hu
  have t1 := txtL_len (l := (c.row.extract n c.row.size).toList) (by rw [size_list]; exact hqs)
  have t2 := txtL_len (l := c.col.toList) (by rw [size_list]; exact hc)
  refine ⟨n, c.row.extract n c.row.size, ofL (numW n), ofL (numW n ++ txtL (c.row.extract n c.row.size).toList), ofL (numW n ++ txtL (c.row.extract n c.row.size).toList ++ txtL c.col.toList), ofL (numW n ++ txtL (c.row.extract n c.row.size).toList ++ txtL c.col.toList ++ numW c.ver),
    ofL (numW n ++ txtL (c.row.extract n c.row.size).toList ++ txtL c.col.toList ++ numW c.ver ++ [if c.gone then 1 else 0]), ofL (numW n ++ txtL (c.row.extract n c.row.size).toList ++ txtL c.col.toList ++ numW c.ver ++ [if c.gone then 1 else 0] ++ txtL c.val.toList), ?_⟩
  refine ⟨rfl, hle, fun W => by rw [hn]; exact alike_any a c.row W ha hm, fun W => ?_, fun W => ptL _ _ W ?_ (by omega), fun W => ptL _ _ W ?_ (by omega), fun W => pnL _ _ W ?_ hu, fun W => ?_, fun W => ptL _ _ W ?_ (by omega),
    ?_, ?_, ?_, layL_big h⟩
  all_goals try (first | omega | (simp only [List.length_append, List.length_nil, List.length_singleton]; omega))
  · have := pnL [] n W (by simp) hun
    exact this
  · have := pbL (numW n ++ txtL (c.row.extract n c.row.size).toList ++ txtL c.col.toList ++ numW c.ver) (if c.gone then 1 else 0) W (by simp only [List.length_append]; omega) (by split <;> omega) (by split <;> omega)
    refine this.mono ?_
    rintro e w' ⟨rfl, hb⟩
    refine ⟨?_, hb⟩
    cases c.gone <;> rfl
  · rw [append_ofL, ofL_toList, show (⟨#[if c.gone then 1 else 0]⟩ : ByteArray).toList = [if c.gone then 1 else 0] from Lib.toList_data _]
  · rw [ofL_size]; simp only [List.length_append, List.length_singleton]; omega
  · rw [ofL_toList, layL, hq, ← hn]
    rfl

set_option maxRecDepth 100000 in
set_option maxHeartbeats 4000000 in
theorem lay_any (b : Nat) (l : List UInt8) (F : Nat → Prop) (a : ByteArray) (c : CellA) (w : World) (h : Bl b l F w) (ha : a.size ≤ maxLen) (hc : SmallC c) (hl : l.length ≤ 1000000000) :
    Calls Try.prog 53 #[.pointer (some ⟨b, 0, none⟩), .string a, .agg #[.string c.row, .string c.col, .int .u64 c.ver, .bool c.gone, .string c.val]] w fun e w' => e = .returned (.tuple #[]) ∧
      ∃ F', Bl b (l ++ layL a.toList c) F' w' ∧ Kept F w w' ∧ ∀ k, F' k → F k ∨ w.heap.size ≤ k := by
  obtain ⟨n, q, s1, s2, s3, s4, s5, s6, hK⟩ := laidB a c ha hc
  have HK := Lib.hid hK
  have hcut := hK.cut
  have hnle := hK.nle
  have hk5 := hK.k5
  have hk2 := hK.k2
  rw [hcut] at hk2
  obtain ⟨xr, xc, xv, xg, xl⟩ := c
  simp only at hk5 hk2 hnle
  have Hk2 := Lib.hid hk2
  clear hk2 hcut
  have hrm := hc.row
  simp only at hrm
  have HB := Lib.hid h
  have Hl := Lib.hid hl
  have Hk5 := Lib.hid hk5
  clear hk5
  have hbl := h.inb b h.own
  clear hK h ha hc hl
  simp only
  go_enter Try.func53, Try.ntmps53
  cases xg
  all_goals
    simp only [Bool.false_eq_true, if_false, if_true] at Hk5
    have hk6 := HK.out.k6
    go_wp2_with (first | (go_at_call 74; refine (HK.out.ka _).mono ?_; rintro e w1 ⟨rfl, hb⟩; obtain ⟨hB, hS, hk⟩ := after (B := w.heap.size) (w := w) (by go_grown) (by go_size) hb; clear hb; obtain ⟨c0, f0, z0⟩ := hk (w.heap.size) (by go_size); clear hk))
    refine wp_region_below (by kernel_rfl) (by kernel_rfl) (fun hkept => ?_)
    obtain ⟨r0, rf0⟩ := hkept (w.heap.size) (by go_size); clear hkept
    repeat (any_goals (first | go_big_quiet_step (first | (go_at_call 44; exact Calls.regrown_of (HK.out.k1 _)) | (go_at_call 46; exact Calls.regrown_of (Hk2.out _))) | quiet_step (first | (go_at_call 44; exact Calls.regrown_of (HK.out.k1 _)) | (go_at_call 46; exact Calls.regrown_of (Hk2.out _))) | (refine wpQuiet_step (fun K hK => ?_); go_simp; split <;> (refine hK _ ?_; clear hK K))))
    all_goals (refine wpQuiet_nil ?_; intro w2 hb; obtain ⟨hB, hS, hk⟩ := after (B := w.heap.size) (w := w) (by go_grown) (by go_size) hb; obtain ⟨c0, f0, z0⟩ := hk (w.heap.size) (by go_size); clear hk hb r0 rf0)
    go_wp2
    refine wp_region_below (by kernel_rfl) (by kernel_rfl) (fun hkept => ?_)
    obtain ⟨r0, rf0⟩ := hkept (w.heap.size) (by go_size); clear hkept
    repeat (any_goals (first | go_big_quiet_step (first | (go_at_call 46; exact Calls.regrown_of (HK.out.k3 _)) | (go_at_call 44; exact Calls.regrown_of (HK.out.k4 _))) | quiet_step (first | (go_at_call 46; exact Calls.regrown_of (HK.out.k3 _)) | (go_at_call 44; exact Calls.regrown_of (HK.out.k4 _))) | (refine wpQuiet_step (fun K hK => ?_); go_simp; split <;> (refine hK _ ?_; clear hK K))))
    all_goals (refine wpQuiet_nil ?_; intro w3 hb; obtain ⟨hB, hS, hk⟩ := after (B := w.heap.size) (w := w) (by go_grown) (by go_size) hb; obtain ⟨c0, f0, z0⟩ := hk (w.heap.size) (by go_size); clear hk hb r0 rf0)
    go_wp2
    refine wp_region_below_mix 1 7 (by kernel_rfl) (by kernel_rfl) (fun hkept => ?_)
    obtain ⟨r0, rf0⟩ := hkept (w.heap.size) (by go_size); clear hkept
    simp only [List.take_succ_cons, List.take_zero, List.drop_succ_cons, List.drop_zero]
    refine wpPure_move _ rfl rfl (fun K' hK' => ?_); go_simp; refine hK' _ ?_; clear hK' K'
    refine wpPure_nil ?_
    repeat (any_goals (first | go_big_quiet_step (first | (go_at_call 75; exact Calls.regrown_of (Hk5.out _)) | (go_at_call 46; exact Calls.regrown_of (hk6 _))) | quiet_step (first | (go_at_call 75; exact Calls.regrown_of (Hk5.out _)) | (go_at_call 46; exact Calls.regrown_of (hk6 _))) | (refine wpQuiet_step (fun K hK => ?_); go_simp; split <;> (refine hK _ ?_; clear hK K))))
    all_goals (refine wpQuiet_nil ?_; intro w5 hb; obtain ⟨hB, hS, hk⟩ := after (B := w.heap.size) (w := w) (by go_grown) (by go_size) hb; obtain ⟨c0, f0, z0⟩ := hk (w.heap.size) (by go_size); clear hk hb r0 rf0)
    go_wp2_with fail
    refine (writestring_bl b l F s6 _ (HB.out.below hB) (by have := HK.out.big; rw [← HK.out.val, size_list] at this; have := Hl.out; omega)).mono ?_
    rintro e w6 ⟨rfl, F', hbl', hk', hF'⟩
    rw [HK.out.val] at hbl'
    have HF := Lib.hid hF'
    have HL := Lib.hid hbl'
    have HKp := Lib.hid ((Kept.of_below (F := F) hB).trans hk' (fun i hi => .inl hi))
    have HS := hB.size
    clear hbl' hk' hF'
    go_wp2
    refine NoPanic.normal ?_
    go_wp2
    go_end0
    exact ⟨rfl, F', HL.out, HKp.out, fun k hk => (HF.out k hk).elim .inl (fun h => .inr (Nat.le_trans HS h))⟩

end Go.Proofs.Ytihglmicgccgiaa

/-
  Reading a block: the plain part.
-/
namespace Go.Proofs.Ytihglmicgccgiaa
open Go.RowKit

/-- one cell at the beginning of bytes, behind the row a: the cell, whether it may be, what is left -/
structure CellB where
  x : CellA
  ok : Bool
  rest : List UInt8
def cellB (a l : List UInt8) : CellB :=
  let n := numR l
  let r := textR 32 n.2.2
  let b := textR 16 r.2.2
  let c := numR b.2.2
  let d := byteR c.2.2
  let e := textR 65536 d.2.2
  ⟨⟨ofL (a.take n.1 ++ r.1), ofL b.1, c.1, decide (d.1.toNat = 1), ofL e.1⟩, n.2.1 && r.2.1 && b.2.1 && c.2.1 && d.2.1 && e.2.1 && decide (n.1 ≤ a.length) && decide (d.1.toNat ≤ 1), e.2.2⟩
theorem cellL_sizesB {c : CellA} (h : cellL c = true) : c.row.size ≤ 32 ∧ c.col.size ≤ 16 ∧ 1 ≤ c.ver ∧ c.ver ≤ 1099511627776 ∧ c.val.size ≤ 65536 := by
  simp only [cellL, storedL, Bool.and_eq_true, decide_eq_true_eq, size_list] at h
  omega
theorem cellB_complete {a : List UInt8} {c : CellA} (h : cellL c = true) (s : List UInt8) : cellB a (layL a c ++ s) = ⟨c, true, s⟩ := by
  obtain ⟨h1, h2, h3, h4, h5⟩ := cellL_sizesB h
  have hal := alikeL_le a c.row.toList
  rw [size_list] at hal
  obtain ⟨t, ht⟩ : ∃ t, t = c.row.toList.drop (alikeL a c.row.toList) := ⟨_, rfl⟩
  have htl : t.length ≤ 32 := by rw [ht, List.length_drop, size_list]; omega
  have e : layL a c ++ s = numL (alikeL a c.row.toList) ++ (numL t.length ++ t ++ (numL c.col.toList.length ++ c.col.toList ++ (numL c.ver.toNat ++ ((if c.gone then 1 else 0) :: (numL c.val.toList.length ++ c.val.toList ++ s))))) := by
    simp only [layL, txtL, numW, ← ht, List.append_assoc, List.cons_append, List.nil_append]
  have ev : ((c.ver.toNat : Nat) : Int) = c.ver := by omega
  have es := alikeL_split a c.row.toList
  rw [← ht] at es
  unfold cellB
  rw [e, num_complete _ _ (by omega)]
  simp only
  rw [text_complete 32 _ _ (by omega) (by omega)]
  simp only
  rw [text_complete 16 _ _ (by rw [size_list]; omega) (by rw [size_list]; omega)]
  simp only
  rw [num_complete _ _ (by omega)]
  simp only [byteR]
  rw [text_complete 65536 _ _ (by rw [size_list]; omega) (by rw [size_list]; omega)]
  simp only [es, ofL_self, ev]
  have h8 : alikeL a c.row.toList ≤ a.length := hal.1
  obtain ⟨r, cc, v, g, va⟩ := c
  simp only at h8
  cases g <;> simp [h8]

theorem bodyTo_take (cs : List CellA) (m : Nat) : ∀ k, k ≤ m → bodyTo (cs.take m) k = bodyTo cs k
  | 0, _ => rfl
  | k + 1, h => by
    have e1 : (cs.take m)[k]? = cs[k]? := List.getElem?_take_of_lt (by omega)
    have e2 : aheadB (cs.take m) k = aheadB cs k := by
      by_cases h8 : k % 8 = 0
      · rw [aheadB, aheadB, if_pos h8, if_pos h8]
      · rw [aheadB, aheadB, if_neg h8, if_neg h8, List.getElem?_take_of_lt (by omega)]
    rw [bodyTo, bodyTo, bodyTo_take cs m k (by omega), e1, e2]
theorem bodyTo_pre (cs : List CellA) {k m : Nat} (h : k ≤ m) : ∃ r, bodyTo cs m = bodyTo cs k ++ r := by
  induction m with
  | zero => rw [show k = 0 by omega]; exact ⟨[], (List.append_nil _).symm⟩
  | succ m ih =>
    rcases Nat.lt_or_ge m k with h1 | h1
    · rw [show k = m + 1 by omega]; exact ⟨[], (List.append_nil _).symm⟩
    · obtain ⟨r, hr⟩ := ih h1
      rw [bodyTo, hr, List.append_assoc]
      exact ⟨_, rfl⟩

/-- s is the block of the cells cs -/
structure BlockOf (s : List UInt8) (cs : List CellA) : Prop where
  good : wrongB cs = false
  body : (bodyTo cs cs.length).length ≤ 32768
  le : s.length ≤ 32768
  eq : s = blockL cs
theorem blockOf_iff {s : List UInt8} {cs : List CellA} : BlockOf s cs ↔ buildR cs = (s, 0) := by
  constructor
  · rintro ⟨h1, h2, h3, rfl⟩
    rw [buildR, if_neg (by rw [h1]; decide), if_neg (by omega), if_neg (by omega)]
  · intro h
    unfold buildR at h
    split at h
    · simp only [Prod.mk.injEq] at h; omega
    · rename_i h1
      split at h
      · simp only [Prod.mk.injEq] at h; omega
      · rename_i h2
        split at h
        · simp only [Prod.mk.injEq] at h; omega
        · rename_i h3
          simp only [Prod.mk.injEq, and_true] at h
          exact ⟨by simpa using h1, by omega, by rw [← h]; omega, h.symm⟩
/-- what lies behind the first k cells -/
def bodyFrom (cs : List CellA) (k : Nat) : List UInt8 := (bodyTo cs cs.length).drop (bodyTo cs k).length
theorem bodyFrom_zero (cs : List CellA) : bodyFrom cs 0 = bodyTo cs cs.length := by simp [bodyFrom, bodyTo]
theorem bodyFrom_step {cs : List CellA} {k : Nat} {c : CellA} (h : cs[k]? = some c) : bodyFrom cs k = layL (aheadB cs k).toList c ++ bodyFrom cs (k + 1) := by
  have hk := (List.getElem?_eq_some_iff.1 h).1
  obtain ⟨r, hr⟩ := bodyTo_pre cs (show k + 1 ≤ cs.length by omega)
  unfold bodyFrom
  rw [hr, List.drop_left, bodyTo_succ h, List.append_assoc, List.drop_left]
theorem bodyFrom_end (cs : List CellA) : bodyFrom cs cs.length = [] := by simp [bodyFrom]
theorem bodyFrom_len (cs : List CellA) {k : Nat} (h : k ≤ cs.length) : (bodyFrom cs k).length = (bodyTo cs cs.length).length - (bodyTo cs k).length := by rw [bodyFrom, List.length_drop]
theorem bodyTo_lt {cs : List CellA} {k : Nat} (h : k < cs.length) : (bodyTo cs k).length < (bodyTo cs cs.length).length := by
  have h1 := bodyTo_le cs (show k + 1 ≤ cs.length by omega)
  rw [bodyTo_succ (List.getElem?_eq_getElem h), List.length_append] at h1
  have := layL_pos (aheadB cs k).toList cs[k]
  omega
theorem read_step {s : List UInt8} {cs : List CellA} (h : BlockOf s cs) {k : Nat} {c : CellA} (hc : cs[k]? = some c) : cellB (aheadB cs k).toList (bodyFrom cs k) = ⟨c, true, bodyFrom cs (k + 1)⟩ := by
  rw [bodyFrom_step hc, cellB_complete (wrongB_false h.good k c hc).1]

/-- a block's two parts -/
def partsL (s : List UInt8) : Option (List UInt8 × List UInt8) :=
  if s.length < 2 ∨ 32768 < s.length then none
  else
    let n := 2 * ((s[s.length - 2]?.getD 0).toNat * 256 + (s[s.length - 1]?.getD 0).toNat)
    if s.length < n + 2 then none else some (s.take (s.length - 2 - n), (s.take (s.length - 2)).drop (s.length - 2 - n))
theorem parts_block {s : List UInt8} {cs : List CellA} (h : BlockOf s cs) : partsL s = some (bodyTo cs cs.length, placesTo cs cs.length) := by
  have hb := bodyTo_long cs cs.length (Nat.le_refl _)
  have hp := placesTo_len cs cs.length
  have h2 := h.body
  have hle := h.le
  obtain ⟨P, hP⟩ : ∃ P, P = (cs.length + 7) / 8 := ⟨_, rfl⟩
  have hs : s = (bodyTo cs cs.length ++ placesTo cs cs.length) ++ twoL P := by rw [h.eq, blockL, hP]
  rw [← hP] at hp
  obtain ⟨q, hq⟩ : ∃ q, q = bodyTo cs cs.length ++ placesTo cs cs.length := ⟨_, rfl⟩
  have hql : q.length = (bodyTo cs cs.length).length + 2 * P := by rw [hq, List.length_append, hp]
  rw [← hq] at hs
  have hPl : P < 65536 := by omega
  have hsl : s.length = q.length + 2 := by rw [hs, List.length_append]; rfl
  have e1 : s[s.length - 2]? = some (UInt8.ofNat (P / 256)) := by rw [hsl, hs, List.getElem?_append_right (by omega)]; simp [twoL]
  have e2 : s[s.length - 1]? = some (UInt8.ofNat P) := by
    rw [hsl, hs, List.getElem?_append_right (by omega), show q.length + 2 - 1 - q.length = 1 by omega]; simp [twoL]
  unfold partsL
  rw [if_neg (by omega)]
  simp only [e1, e2, Option.getD_some]
  have en : (UInt8.ofNat (P / 256)).toNat * 256 + (UInt8.ofNat P).toNat = P := by simp; omega
  rw [en, if_neg (by omega), hsl]
  have e3 : q.length + 2 - 2 - 2 * P = (bodyTo cs cs.length).length := by omega
  have e4 : q.length + 2 - 2 = q.length := by omega
  rw [e3, e4, hs, List.take_append_of_le_length (by omega), List.take_append_of_le_length (by omega), List.take_length, hq, List.take_left, List.drop_left]
theorem block_take {s : List UInt8} {cs ds : List CellA} (h : BlockOf s cs) (g : BlockOf s ds) : ∀ k, k ≤ cs.length → k ≤ ds.length ∧ cs.take k = ds.take k
  | 0, _ => ⟨Nat.zero_le _, by simp⟩
  | k + 1, hk => by
    obtain ⟨h1, h2⟩ := block_take h g k (by omega)
    have hp := (parts_block h).symm.trans (parts_block g)
    simp only [Option.some.injEq, Prod.mk.injEq] at hp
    have hb : bodyTo cs k = bodyTo ds k := by rw [← bodyTo_take cs k k (Nat.le_refl _), h2, bodyTo_take ds k k (Nat.le_refl _)]
    have hlt : k < ds.length := by
      rcases Nat.lt_or_ge k ds.length with h3 | h3
      · exact h3
      · have e : k = ds.length := by omega
        have := bodyTo_lt (cs := cs) (k := k) (by omega)
        rw [hb, hp.1, e] at this; omega
    have c1 : cs[k]? = some cs[k] := List.getElem?_eq_getElem (by omega)
    have d1 : ds[k]? = some ds[k] := List.getElem?_eq_getElem hlt
    have r1 := read_step h c1
    have r2 := read_step g d1
    have ea : aheadB cs k = aheadB ds k := by
      by_cases h8 : k % 8 = 0
      · rw [aheadB, aheadB, if_pos h8, if_pos h8]
      · have : cs[k - 1]? = ds[k - 1]? := by
          rw [← List.getElem?_take_of_lt (show k - 1 < k by omega), h2, List.getElem?_take_of_lt (show k - 1 < k by omega)]
        rw [aheadB, aheadB, if_neg h8, if_neg h8, this]
    have ef : bodyFrom cs k = bodyFrom ds k := by rw [bodyFrom, bodyFrom, hb, hp.1]
    rw [ea, ef, r2] at r1
    have ex : ds[k] = cs[k] := congrArg CellB.x r1
    refine ⟨by omega, ?_⟩
    rw [List.take_add_one, List.take_add_one, h2, c1, d1, ex]
theorem block_inj {s : List UInt8} {cs ds : List CellA} (h : BlockOf s cs) (g : BlockOf s ds) : cs = ds := by
  have h1 := block_take h g cs.length (Nat.le_refl _)
  have h2 := block_take g h ds.length (Nat.le_refl _)
  have e : cs.length = ds.length := by omega
  rw [← List.take_length (l := cs), h1.2, e, List.take_length]
end Go.Proofs.Ytihglmicgccgiaa
