/-
  block.taker, and what it gives. Printed by mktaker.py.
-/
import Derived.Test.YtihglmicgccgiaaPartsB
import Derived.Test.YtihglmicgccgiaaReadW
namespace Go.Proofs.Ytihglmicgccgiaa
open Go.RowKit

theorem numR_rest (l : List UInt8) : (numR l).2.2.length ≤ l.length := by
  unfold numR; cases takeL l <;> simp
theorem textR_rest (m : Int) (l : List UInt8) : (textR m l).2.2.length ≤ l.length := by
  unfold textR; cases textL l m <;> simp
theorem byteR_rest (l : List UInt8) : (byteR l).2.2.length ≤ l.length := by
  unfold byteR; cases l <;> simp
/-- a taker's own blocks: b the reader, b + 1 where it lies, b + 2 the row ahead, b + 3 how many were taken -/
structure TK (b k : Nat) (a : ByteArray) (l : List UInt8) (w : World) : Prop where
  left : Left w b l
  r : w.cell? ⟨b + 1, 0, none⟩ = some (.pointer (some ⟨b, 0, none⟩))
  a : w.cell? ⟨b + 2, 0, none⟩ = some (.string a)
  af : w.frozen? ⟨b + 2, 0, none⟩ = false
  k : w.cell? ⟨b + 3, 0, none⟩ = some (.int .i64 k)
  kf : w.frozen? ⟨b + 3, 0, none⟩ = false
def tkF (b : Nat) : Nat → Prop := fun x => b ≤ x ∧ x ≤ b + 3
theorem Left.lt {w : World} {b : Nat} {l : List UInt8} (h : Left w b l) : b < w.heap.size := World.block_lt_of_cell? _ _ h.cell
theorem TK.lt {b k : Nat} {a : ByteArray} {l : List UInt8} {w : World} (h : TK b k a l w) : b + 3 < w.heap.size := World.block_lt_of_cell? _ _ h.k
theorem Left.same {w w' : World} {b : Nat} {l : List UInt8} (h : Left w b l) (hs : w'.heap[b]? = w.heap[b]?) : Left w' b l :=
  ⟨(World.cell?_of_block (a := ⟨b, 0, none⟩) hs).trans h.cell, (World.frozen?_of_block (a := ⟨b, 0, none⟩) hs).trans h.fro⟩
theorem TK.keep {b k : Nat} {a : ByteArray} {l : List UInt8} {w w' : World} (h : TK b k a l w) (hb : ∀ x, tkF b x → w'.heap[x]? = w.heap[x]?) : TK b k a l w' :=
  ⟨h.left.same (hb b ⟨by omega, by omega⟩), (World.cell?_of_block (a := ⟨b + 1, 0, none⟩) (hb _ ⟨by show b ≤ b + 1; omega, by show b + 1 ≤ b + 3; omega⟩)).trans h.r,
    (World.cell?_of_block (a := ⟨b + 2, 0, none⟩) (hb _ ⟨by show b ≤ b + 2; omega, by show b + 2 ≤ b + 3; omega⟩)).trans h.a, (World.frozen?_of_block (a := ⟨b + 2, 0, none⟩) (hb _ ⟨by show b ≤ b + 2; omega, by show b + 2 ≤ b + 3; omega⟩)).trans h.af,
    (World.cell?_of_block (a := ⟨b + 3, 0, none⟩) (hb _ ⟨by show b ≤ b + 3; omega, by show b + 3 ≤ b + 3; omega⟩)).trans h.k, (World.frozen?_of_block (a := ⟨b + 3, 0, none⟩) (hb _ ⟨by show b ≤ b + 3; omega, by show b + 3 ≤ b + 3; omega⟩)).trans h.kf⟩
theorem TK.below {b k : Nat} {a : ByteArray} {l : List UInt8} {w w' : World} (h : TK b k a l w) (hb : Below w.heap.size w w') : TK b k a l w' :=
  h.keep fun x hx => hb.block x (by have := h.lt; have := hx.2; omega)
theorem Kept.grown {F : Nat → Prop} {a w w' : World} {b : Nat} (h : Kept F a w) (g : w.grownBy w' (some b)) (hb : F b) : Kept F a w' :=
  h.trans (F' := fun k => k = b) ⟨g.os, g.tape, g.output, g.size, fun k hk hn => g.block k hk (by simpa using fun e => hn (by rw [e]))⟩ (fun i hi => by subst hi; exact .inl hb)
theorem gb_cells {w w' : World} {b x : Nat} (g : w.grownBy w' (some b)) (hx : x < w.heap.size) (hn : x ≠ b) : (∀ o, w'.cell? ⟨x, o, none⟩ = w.cell? ⟨x, o, none⟩) ∧ (∀ o, w'.frozen? ⟨x, o, none⟩ = w.frozen? ⟨x, o, none⟩) ∧ x < w'.heap.size := by
  have h := g.block x hx (by simpa using fun e => hn (by rw [e]))
  exact ⟨fun o => World.cell?_of_block (a := ⟨x, o, none⟩) h, fun o => World.frozen?_of_block (a := ⟨x, o, none⟩) h, Nat.lt_of_lt_of_le hx g.size⟩

set_option maxRecDepth 100000 in
set_option maxHeartbeats 2000000 in
theorem taker_any (s : ByteArray) (w : World) :
    Calls Try.prog 52 #[.string s] w fun e w' => e = .returned (.func (.func 70) #[] #[.pointer (some ⟨w.heap.size + 3, 0, none⟩), .pointer (some ⟨w.heap.size + 2, 0, none⟩), .pointer (some ⟨w.heap.size + 1, 0, none⟩)]) ∧ TK w.heap.size 0 ⟨#[]⟩ s.toList w' ∧ Below w.heap.size w w' := by
  have Hnew := Lib.hid (new_any s w)
  go_enter Try.func52, Try.ntmps52
  go_wp2_with (first | (go_at_call 69; refine Hnew.out.mono ?_; rintro e w' ⟨rfl, rfl⟩))
  go_ret
  refine ⟨rfl, ⟨⟨?_, ?_⟩, ?_, ?_, ?_, ?_, ?_⟩, by go_grown⟩
  all_goals first | (rw [ofL_self]; go_simp) | go_simp

end Go.Proofs.Ytihglmicgccgiaa

/-
  What block.taker gives: one cell taken. Printed by mktaker.py.
-/
namespace Go.Proofs.Ytihglmicgccgiaa
open Go.RowKit

set_option maxRecDepth 100000 in
set_option maxHeartbeats 8000000 in
/-- one cell taken -/
theorem take_any (b k : Nat) (a : ByteArray) (l : List UInt8) (w : World) (h : TK b k a l w) (hk : k ≤ 1000000) (hl : l.length ≤ 100000) (ha : a.size ≤ 1000000) (aE : ByteArray) (haE : aE = if k % 8 = 0 then ⟨#[]⟩ else a) :
    Calls Try.prog 70 #[.pointer (some ⟨b + 3, 0, none⟩), .pointer (some ⟨b + 2, 0, none⟩), .pointer (some ⟨b + 1, 0, none⟩)] w fun e w' =>
      (((cellB aE.toList l).ok = true ∧ e = .returned (.tuple #[.agg #[.string (cellB aE.toList l).x.row, .string (cellB aE.toList l).x.col, .int .u64 (cellB aE.toList l).x.ver, .bool (cellB aE.toList l).x.gone, .string (cellB aE.toList l).x.val], .bool true]) ∧ TK b (k + 1) (cellB aE.toList l).x.row (cellB aE.toList l).rest w') ∨
        ((cellB aE.toList l).ok = false ∧ e = .returned (.tuple #[.agg #[.string ⟨#[]⟩, .string ⟨#[]⟩, .int .u64 0, .bool false, .string ⟨#[]⟩], .bool false]))) ∧ Kept (tkF b) w w' := by
  obtain ⟨P, hP⟩ : ∃ P : Ending → World → Prop, P = fun e w' => (((cellB aE.toList l).ok = true ∧ e = .returned (.tuple #[.agg #[.string (cellB aE.toList l).x.row, .string (cellB aE.toList l).x.col, .int .u64 (cellB aE.toList l).x.ver, .bool (cellB aE.toList l).x.gone, .string (cellB aE.toList l).x.val], .bool true]) ∧ TK b (k + 1) (cellB aE.toList l).x.row (cellB aE.toList l).rest w') ∨ ((cellB aE.toList l).ok = false ∧ e = .returned (.tuple #[.agg #[.string ⟨#[]⟩, .string ⟨#[]⟩, .int .u64 0, .bool false, .string ⟨#[]⟩], .bool false]))) ∧ Kept (tkF b) w w' := ⟨_, rfl⟩
  rw [← hP]
  have HP := Lib.hid hP
  clear hP
  have nN := numR_rest l
  have mN := numR_lt l
  obtain ⟨⟨vn, iN, rN⟩, hN⟩ : ∃ x, x = numR l := ⟨_, rfl⟩
  rw [← hN] at nN mN
  simp only at nN mN
  have nR := textR_rest 32 rN
  have mR := textR_len 32 rN
  obtain ⟨⟨tr, iR, rR⟩, hR⟩ : ∃ x, x = textR 32 rN := ⟨_, rfl⟩
  rw [← hR] at nR mR
  simp only at nR mR
  have nB' := textR_rest 16 rR
  have mB' := textR_len 16 rR
  obtain ⟨⟨tb, iB, rB⟩, hB'⟩ : ∃ x, x = textR 16 rR := ⟨_, rfl⟩
  rw [← hB'] at nB' mB'
  simp only at nB' mB'
  have nC := numR_rest rB
  have mC := numR_lt rB
  obtain ⟨⟨vc, iC, rC⟩, hC⟩ : ∃ x, x = numR rB := ⟨_, rfl⟩
  rw [← hC] at nC mC
  simp only at nC mC
  have nD := byteR_rest rC
  obtain ⟨⟨gd, iD, rD⟩, hD⟩ : ∃ x, x = byteR rC := ⟨_, rfl⟩
  rw [← hD] at nD
  simp only at nD
  have nE := textR_rest 65536 rD
  have mE := textR_len 65536 rD
  obtain ⟨⟨te, iE, rE⟩, hE⟩ : ∃ x, x = textR 65536 rD := ⟨_, rfl⟩
  rw [← hE] at nE mE
  simp only at nE mE
  have K1 := Lib.hid fun W h => num_r b l W (by unfold maxLen; omega) h
  have K2 := Lib.hid fun W h => text_r b 32 rN W (by decide) (by unfold maxLen; omega) h
  have K3 := Lib.hid fun W h => text_r b 16 rR W (by decide) (by unfold maxLen; omega) h
  have K4 := Lib.hid fun W h => num_r b rB W (by unfold maxLen; omega) h
  have K5 := Lib.hid fun W h => byte_r b rC W (by unfold maxLen; omega) h
  have K6 := Lib.hid fun W h => text_r b 65536 rD W (by decide) (by unfold maxLen; omega) h
  have HCR : Hid (cellB aE.toList l = ⟨⟨ofL (aE.toList.take vn ++ tr), ofL tb, vc, decide (gd.toNat = 1), ofL te⟩, iN && iR && iB && iC && iD && iE && decide (vn ≤ aE.toList.length) && decide (gd.toNat ≤ 1), rE⟩) := Lib.hid (by unfold cellB; simp only [← hN, ← hR, ← hB', ← hC, ← hD, ← hE])
  rw [← hN] at K1
  rw [← hR] at K2
  rw [← hB'] at K3
  rw [← hC] at K4
  rw [← hD] at K5
  rw [← hE] at K6
  simp only at K1 K2 K3 K4 K5 K6
  clear hN hR hB' hC hD hE
  obtain ⟨sr, hsr⟩ : ∃ s, s = ofL tr := ⟨_, rfl⟩
  obtain ⟨sb, hsb⟩ : ∃ s, s = ofL tb := ⟨_, rfl⟩
  obtain ⟨se, hse⟩ : ∃ s, s = ofL te := ⟨_, rfl⟩
  obtain ⟨dn, hdn⟩ : ∃ d, d = gd.toNat := ⟨_, rfl⟩
  have hrow : vn ≤ aE.size → aE.extract 0 vn ++ sr = ofL (aE.toList.take vn ++ tr) := fun _ => by rw [append_ofL, toList_extract, hsr, ofL_toList]; simp
  have Hrow := Lib.hid hrow
  have hzr : sr.size ≤ 100000 := by rw [hsr, ofL_size]; omega
  rw [← hsb, ← hse, ← hdn, size_list] at HCR
  rw [← hsr] at K2
  rw [← hsb] at K3
  rw [← hdn] at K5
  rw [← hse] at K6
  have hdl : dn < 256 := by rw [hdn]; exact gd.toNat_lt
  have haz : aE.size ≤ 1000000 := by rw [haE]; split; decide; exact ha
  have HmN := Lib.hid mN
  have HAz := Lib.hid haz
  have HRz := Lib.hid hzr
  have HDl := Lib.hid hdl
  clear hsr hsb hse hdn mR mB' mE hrow mN mC nN nR nB' nC nD nE
  have hL := Lib.hid h.left
  have hr := h.r
  have h_a := h.a
  have haf := h.af
  have h_k := h.k
  have hkf := h.kf
  have hlt := h.lt
  have hl0 : b < w.heap.size := by omega
  have hl1 : b + 1 < w.heap.size := by omega
  have hl2 : b + 2 < w.heap.size := by omega
  have hn0 : ¬ b = w.heap.size := by omega
  have hn1 : ¬ b + 1 = w.heap.size := by omega
  have hn2 : ¬ b + 2 = w.heap.size := by omega
  have hn3 : ¬ b + 3 = w.heap.size := by omega
  clear h
  have hkw : wrap64 ((k : Int) + 1) = ((k + 1 : Nat) : Int) := by unfold wrap64; omega
  go_enter Try.func70, Try.ntmps70
  by_cases h8 : k % 8 = 0
  · rw [if_pos h8] at haE
    have h8i : ((k : Int) % 8) = 0 := by omega
    clear hl ha hdl haz hzr hk
    go_wp2_with fail
    obtain ⟨q, hq⟩ : ∃ q, q = w.heap.size := ⟨_, rfl⟩
    obtain ⟨WA, hWA⟩ : ∃ X : World, X = ((w.setCell ⟨b + 2, 0, none⟩ (.string ⟨#[]⟩)).setCell ⟨b + 3, 0, none⟩ (.int .i64 ((k : Int) + 1))).alloc (.cells #[.string ⟨#[]⟩, .string ⟨#[]⟩, .int .u64 0, .bool false, .string ⟨#[]⟩] 31) := ⟨_, rfl⟩
    rw [← hWA, ← hq]
    have HKp : Hid (Kept (tkF b) w WA) := Lib.hid (by rw [hWA]; exact (((Kept.refl _ _).setCell (.inl ⟨by show b ≤ b + 2; omega, by show b + 2 ≤ b + 3; omega⟩) _).setCell (.inl ⟨by show b ≤ b + 3; omega, by show b + 3 ≤ b + 3; omega⟩) _).alloc _)
    have hL0 : Left WA b l := ⟨by rw [hWA]; go_simp; exact hL.out.cell, by rw [hWA]; go_simp; exact hL.out.fro⟩
    have x1 : WA.cell? ⟨b + 1, 0, none⟩ = some (.pointer (some ⟨b, 0, none⟩)) := by rw [hWA]; go_simp
    have x2 : WA.cell? ⟨b + 2, 0, none⟩ = some (.string aE) := by rw [hWA, haE]; go_simp
    have x2f : WA.frozen? ⟨b + 2, 0, none⟩ = false := by rw [hWA]; go_simp
    have x3 : WA.cell? ⟨b + 3, 0, none⟩ = some (.int .i64 ((k : Int) + 1)) := by rw [hWA]; go_simp
    have x3f : WA.frozen? ⟨b + 3, 0, none⟩ = false := by rw [hWA]; go_simp
    have z0 : WA.cell? ⟨q, 0, none⟩ = some (.string ⟨#[]⟩) := by rw [hWA, hq]; go_simp
    have z1 : WA.cell? ⟨q, 1, none⟩ = some (.string ⟨#[]⟩) := by rw [hWA, hq]; go_simp
    have z2 : WA.cell? ⟨q, 2, none⟩ = some (.int .u64 0) := by rw [hWA, hq]; go_simp
    have z3 : WA.cell? ⟨q, 3, none⟩ = some (.bool false) := by rw [hWA, hq]; go_simp
    have z4 : WA.cell? ⟨q, 4, none⟩ = some (.string ⟨#[]⟩) := by rw [hWA, hq]; go_simp
    have zf0 : WA.frozen? ⟨q, 0, none⟩ = false := by rw [hWA, hq]; go_simp
    have zf1 : WA.frozen? ⟨q, 1, none⟩ = false := by rw [hWA, hq]; go_simp
    have zf2 : WA.frozen? ⟨q, 2, none⟩ = false := by rw [hWA, hq]; go_simp
    have zf3 : WA.frozen? ⟨q, 3, none⟩ = false := by rw [hWA, hq]; go_simp
    have zf4 : WA.frozen? ⟨q, 4, none⟩ = false := by rw [hWA, hq]; go_simp
    have zq : q < WA.heap.size := by rw [hWA, hq]; go_size
    have hnq : ¬ q = b := by omega
    have hqw : w.heap.size ≤ q := by omega
    have Hbw := Lib.hid hlt
    have Hqw := Lib.hid hqw
    have HL := Lib.hid hL0
    have bl : b + 3 < WA.heap.size := Nat.lt_of_lt_of_le hlt HKp.out.size
    clear hWA hq hL0 hL hr h_a haf h_k hkf hlt hl0 hl1 hl2 hn0 hn1 hn2 hn3 hqw haE h8 h8i
    try clear hkw
    refine (K1.out _ HL.out).mono ?_
    rintro e w1 ⟨rfl, hT⟩
    obtain ⟨c1, f1, l1⟩ := gb_cells hT.gb (x := b + 1) (by omega) (by omega)
    obtain ⟨c2, f2, l2⟩ := gb_cells hT.gb (x := b + 2) (by omega) (by omega)
    obtain ⟨c3, f3, l3⟩ := gb_cells hT.gb (x := b + 3) (by omega) (by omega)
    obtain ⟨cq, fq, lq⟩ := gb_cells hT.gb (x := q) zq hnq
    have x1' := (c1 0).trans x1
    have x2' := (c2 0).trans x2
    have x2f' := (f2 0).trans x2f
    have x3' := (c3 0).trans x3
    have x3f' := (f3 0).trans x3f
    have bl' := l3
    have zq' := lq
    have z0' := (cq 0).trans z0
    have z1' := (cq 1).trans z1
    have z2' := (cq 2).trans z2
    have z3' := (cq 3).trans z3
    have z4' := (cq 4).trans z4
    have zf0' := (fq 0).trans zf0
    have zf1' := (fq 1).trans zf1
    have zf2' := (fq 2).trans zf2
    have zf3' := (fq 3).trans zf3
    have zf4' := (fq 4).trans zf4
    have HL' := Lib.hid hT.left
    have HKp' := Lib.hid (HKp.out.grown hT.gb ⟨by show b ≤ b; omega, by show b ≤ b + 3; omega⟩)
    clear c1 f1 l1 c2 f2 l2 c3 f3 l3 cq fq lq hT HL HKp x1 x2 x2f x3 x3f bl zq z0 z1 z2 z3 z4 zf0 zf1 zf2 zf3 zf4
    have x1 := x1'
    have x2 := x2'
    have x2f := x2f'
    have x3 := x3'
    have x3f := x3f'
    have bl := bl'
    have zq := zq'
    have z0 := z0'
    have z1 := z1'
    have z2 := z2'
    have z3 := z3'
    have z4 := z4'
    have zf0 := zf0'
    have zf1 := zf1'
    have zf2 := zf2'
    have zf3 := zf3'
    have zf4 := zf4'
    have HL := HL'
    have HKp := HKp'
    clear x1' x2' x2f' x3' x3f' bl' zq' z0' z1' z2' z3' z4' zf0' zf1' zf2' zf3' zf4' HL' HKp'
    go_wp2_with fail
    refine (K2.out _ HL.out).mono ?_
    rintro e w2 ⟨rfl, hT⟩
    obtain ⟨c1, f1, l1⟩ := gb_cells hT.gb (x := b + 1) (by omega) (by omega)
    obtain ⟨c2, f2, l2⟩ := gb_cells hT.gb (x := b + 2) (by omega) (by omega)
    obtain ⟨c3, f3, l3⟩ := gb_cells hT.gb (x := b + 3) (by omega) (by omega)
    obtain ⟨cq, fq, lq⟩ := gb_cells hT.gb (x := q) zq hnq
    have x1' := (c1 0).trans x1
    have x2' := (c2 0).trans x2
    have x2f' := (f2 0).trans x2f
    have x3' := (c3 0).trans x3
    have x3f' := (f3 0).trans x3f
    have bl' := l3
    have zq' := lq
    have z0' := (cq 0).trans z0
    have z1' := (cq 1).trans z1
    have z2' := (cq 2).trans z2
    have z3' := (cq 3).trans z3
    have z4' := (cq 4).trans z4
    have zf0' := (fq 0).trans zf0
    have zf1' := (fq 1).trans zf1
    have zf2' := (fq 2).trans zf2
    have zf3' := (fq 3).trans zf3
    have zf4' := (fq 4).trans zf4
    have HL' := Lib.hid hT.left
    have HKp' := Lib.hid (HKp.out.grown hT.gb ⟨by show b ≤ b; omega, by show b ≤ b + 3; omega⟩)
    clear c1 f1 l1 c2 f2 l2 c3 f3 l3 cq fq lq hT HL HKp x1 x2 x2f x3 x3f bl zq z0 z1 z2 z3 z4 zf0 zf1 zf2 zf3 zf4
    have x1 := x1'
    have x2 := x2'
    have x2f := x2f'
    have x3 := x3'
    have x3f := x3f'
    have bl := bl'
    have zq := zq'
    have z0 := z0'
    have z1 := z1'
    have z2 := z2'
    have z3 := z3'
    have z4 := z4'
    have zf0 := zf0'
    have zf1 := zf1'
    have zf2 := zf2'
    have zf3 := zf3'
    have zf4 := zf4'
    have HL := HL'
    have HKp := HKp'
    clear x1' x2' x2f' x3' x3f' bl' zq' z0' z1' z2' z3' z4' zf0' zf1' zf2' zf3' zf4' HL' HKp'
    go_wp2_with fail
    refine (K3.out _ HL.out).mono ?_
    rintro e w3 ⟨rfl, hT⟩
    obtain ⟨c1, f1, l1⟩ := gb_cells hT.gb (x := b + 1) (by omega) (by omega)
    obtain ⟨c2, f2, l2⟩ := gb_cells hT.gb (x := b + 2) (by omega) (by omega)
    obtain ⟨c3, f3, l3⟩ := gb_cells hT.gb (x := b + 3) (by omega) (by omega)
    obtain ⟨cq, fq, lq⟩ := gb_cells hT.gb (x := q) zq hnq
    have x1' := (c1 0).trans x1
    have x2' := (c2 0).trans x2
    have x2f' := (f2 0).trans x2f
    have x3' := (c3 0).trans x3
    have x3f' := (f3 0).trans x3f
    have bl' := l3
    have zq' := lq
    have z0' := (cq 0).trans z0
    have z1' := (cq 1).trans z1
    have z2' := (cq 2).trans z2
    have z3' := (cq 3).trans z3
    have z4' := (cq 4).trans z4
    have zf0' := (fq 0).trans zf0
    have zf1' := (fq 1).trans zf1
    have zf2' := (fq 2).trans zf2
    have zf3' := (fq 3).trans zf3
    have zf4' := (fq 4).trans zf4
    have HL' := Lib.hid hT.left
    have HKp' := Lib.hid (HKp.out.grown hT.gb ⟨by show b ≤ b; omega, by show b ≤ b + 3; omega⟩)
    clear c1 f1 l1 c2 f2 l2 c3 f3 l3 cq fq lq hT HL HKp x1 x2 x2f x3 x3f bl zq z0 z1 z2 z3 z4 zf0 zf1 zf2 zf3 zf4
    have x1 := x1'
    have x2 := x2'
    have x2f := x2f'
    have x3 := x3'
    have x3f := x3f'
    have bl := bl'
    have zq := zq'
    have z0 := z0'
    have z1 := z1'
    have z2 := z2'
    have z3 := z3'
    have z4 := z4'
    have zf0 := zf0'
    have zf1 := zf1'
    have zf2 := zf2'
    have zf3 := zf3'
    have zf4 := zf4'
    have HL := HL'
    have HKp := HKp'
    clear x1' x2' x2f' x3' x3f' bl' zq' z0' z1' z2' z3' z4' zf0' zf1' zf2' zf3' zf4' HL' HKp'
    go_wp2_with fail
    refine (K4.out _ HL.out).mono ?_
    rintro e w4 ⟨rfl, hT⟩
    obtain ⟨c1, f1, l1⟩ := gb_cells hT.gb (x := b + 1) (by omega) (by omega)
    obtain ⟨c2, f2, l2⟩ := gb_cells hT.gb (x := b + 2) (by omega) (by omega)
    obtain ⟨c3, f3, l3⟩ := gb_cells hT.gb (x := b + 3) (by omega) (by omega)
    obtain ⟨cq, fq, lq⟩ := gb_cells hT.gb (x := q) zq hnq
    have x1' := (c1 0).trans x1
    have x2' := (c2 0).trans x2
    have x2f' := (f2 0).trans x2f
    have x3' := (c3 0).trans x3
    have x3f' := (f3 0).trans x3f
    have bl' := l3
    have zq' := lq
    have z0' := (cq 0).trans z0
    have z1' := (cq 1).trans z1
    have z2' := (cq 2).trans z2
    have z3' := (cq 3).trans z3
    have z4' := (cq 4).trans z4
    have zf0' := (fq 0).trans zf0
    have zf1' := (fq 1).trans zf1
    have zf2' := (fq 2).trans zf2
    have zf3' := (fq 3).trans zf3
    have zf4' := (fq 4).trans zf4
    have HL' := Lib.hid hT.left
    have HKp' := Lib.hid (HKp.out.grown hT.gb ⟨by show b ≤ b; omega, by show b ≤ b + 3; omega⟩)
    clear c1 f1 l1 c2 f2 l2 c3 f3 l3 cq fq lq hT HL HKp x1 x2 x2f x3 x3f bl zq z0 z1 z2 z3 z4 zf0 zf1 zf2 zf3 zf4
    have x1 := x1'
    have x2 := x2'
    have x2f := x2f'
    have x3 := x3'
    have x3f := x3f'
    have bl := bl'
    have zq := zq'
    have z0 := z0'
    have z1 := z1'
    have z2 := z2'
    have z3 := z3'
    have z4 := z4'
    have zf0 := zf0'
    have zf1 := zf1'
    have zf2 := zf2'
    have zf3 := zf3'
    have zf4 := zf4'
    have HL := HL'
    have HKp := HKp'
    clear x1' x2' x2f' x3' x3f' bl' zq' z0' z1' z2' z3' z4' zf0' zf1' zf2' zf3' zf4' HL' HKp'
    go_wp2_with fail
    refine (K5.out _ HL.out).mono ?_
    rintro e w5 ⟨rfl, hT⟩
    obtain ⟨c1, f1, l1⟩ := gb_cells hT.gb (x := b + 1) (by omega) (by omega)
    obtain ⟨c2, f2, l2⟩ := gb_cells hT.gb (x := b + 2) (by omega) (by omega)
    obtain ⟨c3, f3, l3⟩ := gb_cells hT.gb (x := b + 3) (by omega) (by omega)
    obtain ⟨cq, fq, lq⟩ := gb_cells hT.gb (x := q) zq hnq
    have x1' := (c1 0).trans x1
    have x2' := (c2 0).trans x2
    have x2f' := (f2 0).trans x2f
    have x3' := (c3 0).trans x3
    have x3f' := (f3 0).trans x3f
    have bl' := l3
    have zq' := lq
    have z0' := (cq 0).trans z0
    have z1' := (cq 1).trans z1
    have z2' := (cq 2).trans z2
    have z3' := (cq 3).trans z3
    have z4' := (cq 4).trans z4
    have zf0' := (fq 0).trans zf0
    have zf1' := (fq 1).trans zf1
    have zf2' := (fq 2).trans zf2
    have zf3' := (fq 3).trans zf3
    have zf4' := (fq 4).trans zf4
    have HL' := Lib.hid hT.left
    have HKp' := Lib.hid (HKp.out.grown hT.gb ⟨by show b ≤ b; omega, by show b ≤ b + 3; omega⟩)
    clear c1 f1 l1 c2 f2 l2 c3 f3 l3 cq fq lq hT HL HKp x1 x2 x2f x3 x3f bl zq z0 z1 z2 z3 z4 zf0 zf1 zf2 zf3 zf4
    have x1 := x1'
    have x2 := x2'
    have x2f := x2f'
    have x3 := x3'
    have x3f := x3f'
    have bl := bl'
    have zq := zq'
    have z0 := z0'
    have z1 := z1'
    have z2 := z2'
    have z3 := z3'
    have z4 := z4'
    have zf0 := zf0'
    have zf1 := zf1'
    have zf2 := zf2'
    have zf3 := zf3'
    have zf4 := zf4'
    have HL := HL'
    have HKp := HKp'
    clear x1' x2' x2f' x3' x3f' bl' zq' z0' z1' z2' z3' z4' zf0' zf1' zf2' zf3' zf4' HL' HKp'
    go_wp2_with fail
    refine (K6.out _ HL.out).mono ?_
    rintro e w6 ⟨rfl, hT⟩
    obtain ⟨c1, f1, l1⟩ := gb_cells hT.gb (x := b + 1) (by omega) (by omega)
    obtain ⟨c2, f2, l2⟩ := gb_cells hT.gb (x := b + 2) (by omega) (by omega)
    obtain ⟨c3, f3, l3⟩ := gb_cells hT.gb (x := b + 3) (by omega) (by omega)
    obtain ⟨cq, fq, lq⟩ := gb_cells hT.gb (x := q) zq hnq
    have x1' := (c1 0).trans x1
    have x2' := (c2 0).trans x2
    have x2f' := (f2 0).trans x2f
    have x3' := (c3 0).trans x3
    have x3f' := (f3 0).trans x3f
    have bl' := l3
    have zq' := lq
    have z0' := (cq 0).trans z0
    have z1' := (cq 1).trans z1
    have z2' := (cq 2).trans z2
    have z3' := (cq 3).trans z3
    have z4' := (cq 4).trans z4
    have zf0' := (fq 0).trans zf0
    have zf1' := (fq 1).trans zf1
    have zf2' := (fq 2).trans zf2
    have zf3' := (fq 3).trans zf3
    have zf4' := (fq 4).trans zf4
    have HL' := Lib.hid hT.left
    have HKp' := Lib.hid (HKp.out.grown hT.gb ⟨by show b ≤ b; omega, by show b ≤ b + 3; omega⟩)
    clear c1 f1 l1 c2 f2 l2 c3 f3 l3 cq fq lq hT HL HKp x1 x2 x2f x3 x3f bl zq z0 z1 z2 z3 z4 zf0 zf1 zf2 zf3 zf4
    have x1 := x1'
    have x2 := x2'
    have x2f := x2f'
    have x3 := x3'
    have x3f := x3f'
    have bl := bl'
    have zq := zq'
    have z0 := z0'
    have z1 := z1'
    have z2 := z2'
    have z3 := z3'
    have z4 := z4'
    have zf0 := zf0'
    have zf1 := zf1'
    have zf2 := zf2'
    have zf3 := zf3'
    have zf4 := zf4'
    have HL := HL'
    have HKp := HKp'
    clear x1' x2' x2f' x3' x3f' bl' zq' z0' z1' z2' z3' z4' zf0' zf1' zf2' zf3' zf4' HL' HKp'
    have haz := HAz.out
    have hdl := HDl.out
    cases iN
    · skip
      go_wp2_with (first | (with_reducible refine bodyPost_ret (v := .tuple #[.agg #[.string ⟨#[]⟩, .string ⟨#[]⟩, .int .u64 0, .bool false, .string ⟨#[]⟩], .bool false]) ?hr ?hd ?hR))
      case hd => rfl
      case hR => rw [HP.out]; exact ⟨.inr ⟨by rw [HCR.out]; simp, rfl⟩, (((((HKp.out.setCell (.inr Hqw.out) _).setCell (.inr Hqw.out) _).setCell (.inr Hqw.out) _).setCell (.inr Hqw.out) _).setCell (.inr Hqw.out) _)⟩
      case hr => simp [results, Try.results70, go_sem, *]
    · skip
      cases iR
      · skip
        go_wp2_with (first | (with_reducible refine bodyPost_ret (v := .tuple #[.agg #[.string ⟨#[]⟩, .string ⟨#[]⟩, .int .u64 0, .bool false, .string ⟨#[]⟩], .bool false]) ?hr ?hd ?hR))
        case hd => rfl
        case hR => rw [HP.out]; exact ⟨.inr ⟨by rw [HCR.out]; simp, rfl⟩, (((((HKp.out.setCell (.inr Hqw.out) _).setCell (.inr Hqw.out) _).setCell (.inr Hqw.out) _).setCell (.inr Hqw.out) _).setCell (.inr Hqw.out) _)⟩
        case hr => simp [results, Try.results70, go_sem, *]
      · skip
        cases iB
        · skip
          go_wp2_with (first | (with_reducible refine bodyPost_ret (v := .tuple #[.agg #[.string ⟨#[]⟩, .string ⟨#[]⟩, .int .u64 0, .bool false, .string ⟨#[]⟩], .bool false]) ?hr ?hd ?hR))
          case hd => rfl
          case hR => rw [HP.out]; exact ⟨.inr ⟨by rw [HCR.out]; simp, rfl⟩, (((((HKp.out.setCell (.inr Hqw.out) _).setCell (.inr Hqw.out) _).setCell (.inr Hqw.out) _).setCell (.inr Hqw.out) _).setCell (.inr Hqw.out) _)⟩
          case hr => simp [results, Try.results70, go_sem, *]
        · skip
          cases iC
          · skip
            go_wp2_with (first | (with_reducible refine bodyPost_ret (v := .tuple #[.agg #[.string ⟨#[]⟩, .string ⟨#[]⟩, .int .u64 0, .bool false, .string ⟨#[]⟩], .bool false]) ?hr ?hd ?hR))
            case hd => rfl
            case hR => rw [HP.out]; exact ⟨.inr ⟨by rw [HCR.out]; simp, rfl⟩, (((((HKp.out.setCell (.inr Hqw.out) _).setCell (.inr Hqw.out) _).setCell (.inr Hqw.out) _).setCell (.inr Hqw.out) _).setCell (.inr Hqw.out) _)⟩
            case hr => simp [results, Try.results70, go_sem, *]
          · skip
            cases iD
            · skip
              go_wp2_with (first | (with_reducible refine bodyPost_ret (v := .tuple #[.agg #[.string ⟨#[]⟩, .string ⟨#[]⟩, .int .u64 0, .bool false, .string ⟨#[]⟩], .bool false]) ?hr ?hd ?hR))
              case hd => rfl
              case hR => rw [HP.out]; exact ⟨.inr ⟨by rw [HCR.out]; simp, rfl⟩, (((((HKp.out.setCell (.inr Hqw.out) _).setCell (.inr Hqw.out) _).setCell (.inr Hqw.out) _).setCell (.inr Hqw.out) _).setCell (.inr Hqw.out) _)⟩
              case hr => simp [results, Try.results70, go_sem, *]
            · skip
              cases iE
              · skip
                go_wp2_with (first | (with_reducible refine bodyPost_ret (v := .tuple #[.agg #[.string ⟨#[]⟩, .string ⟨#[]⟩, .int .u64 0, .bool false, .string ⟨#[]⟩], .bool false]) ?hr ?hd ?hR))
                case hd => rfl
                case hR => rw [HP.out]; exact ⟨.inr ⟨by rw [HCR.out]; simp, rfl⟩, (((((HKp.out.setCell (.inr Hqw.out) _).setCell (.inr Hqw.out) _).setCell (.inr Hqw.out) _).setCell (.inr Hqw.out) _).setCell (.inr Hqw.out) _)⟩
                case hr => simp [results, Try.results70, go_sem, *]
              · skip
                by_cases hn : vn ≤ aE.size
                · by_cases hg : dn ≤ 1
                  · have hni : (vn : Int) ≤ (aE.size : Int) := by omega
                    have hrz := HRz.out
                    have hqq := Hqw.out
                    have hq2 : ¬ q = b + 2 := by have := Hbw.out; omega
                    have hq2' : ¬ b + 2 = q := by have := Hbw.out; omega
                    have hq1 : ¬ q = b + 1 := by have := Hbw.out; omega
                    have hq1' : ¬ b + 1 = q := by have := Hbw.out; omega
                    have hq3 : ¬ q = b + 3 := by have := Hbw.out; omega
                    have hq3' : ¬ b + 3 = q := by have := Hbw.out; omega
                    clear hqq
                    have hgi : ¬ (1 : Int) < (dn : Int) := by omega
                    have hvl : vn < 2 ^ 63 := by omega
                    obtain ⟨d1, hd1⟩ : ∃ d, d = decide (dn = 1) := ⟨_, rfl⟩
                    have Hd1 := Lib.hid hd1
                    have hd1' : decide ((dn : Int) = 1) = d1 := by rw [hd1]; apply decide_eq_decide.2; omega
                    have hd1b : ((dn : Int) == 1) = d1 := by rw [← hd1']; first | rfl | exact beq_eq_decide | simp
                    clear hd1
                    go_wp2_with (first | (with_reducible refine bodyPost_ret (v := .tuple #[.agg #[.string (aE.extract 0 vn ++ sr), .string sb, .int .u64 vc, .bool d1, .string se], .bool true]) ?hr ?hd ?hR))
                    case hd => rfl
                    case hr => simp [results, Try.results70, go_sem, *]
                    case hR => rw [HP.out, HCR.out]; dsimp only; exact ⟨.inl ⟨by simp; exact ⟨hn, hg⟩, by rw [Hrow.out hn, Hd1.out], by rw [← Hrow.out hn]; exact ⟨⟨by go_simp; exact HL.out.cell, by go_simp; exact HL.out.fro⟩, by go_simp, by go_simp, by go_simp, by go_simp, by go_simp⟩⟩, ((((((HKp.out.setCell (.inl ⟨by show b ≤ b + 2; omega, by show b + 2 ≤ b + 3; omega⟩) _).setCell (.inr Hqw.out) _).setCell (.inr Hqw.out) _).setCell (.inr Hqw.out) _).setCell (.inr Hqw.out) _).setCell (.inr Hqw.out) _)⟩
                  · skip
                    go_wp2_with (first | (with_reducible refine bodyPost_ret (v := .tuple #[.agg #[.string ⟨#[]⟩, .string ⟨#[]⟩, .int .u64 0, .bool false, .string ⟨#[]⟩], .bool false]) ?hr ?hd ?hR))
                    case hd => rfl
                    case hR => rw [HP.out]; exact ⟨.inr ⟨by rw [HCR.out]; simp; omega, rfl⟩, (((((HKp.out.setCell (.inr Hqw.out) _).setCell (.inr Hqw.out) _).setCell (.inr Hqw.out) _).setCell (.inr Hqw.out) _).setCell (.inr Hqw.out) _)⟩
                    case hr => simp [results, Try.results70, go_sem, *]
                · skip
                  go_wp2_with (first | (with_reducible refine bodyPost_ret (v := .tuple #[.agg #[.string ⟨#[]⟩, .string ⟨#[]⟩, .int .u64 0, .bool false, .string ⟨#[]⟩], .bool false]) ?hr ?hd ?hR))
                  case hd => rfl
                  case hR => rw [HP.out]; exact ⟨.inr ⟨by rw [HCR.out]; simp; omega, rfl⟩, (((((HKp.out.setCell (.inr Hqw.out) _).setCell (.inr Hqw.out) _).setCell (.inr Hqw.out) _).setCell (.inr Hqw.out) _).setCell (.inr Hqw.out) _)⟩
                  case hr => simp [results, Try.results70, go_sem, *]
  · rw [if_neg h8] at haE
    have h8i : ¬ ((k : Int) % 8) = 0 := by omega
    clear hl ha hdl haz hzr hk
    go_wp2_with fail
    obtain ⟨q, hq⟩ : ∃ q, q = w.heap.size := ⟨_, rfl⟩
    obtain ⟨WA, hWA⟩ : ∃ X : World, X = (w.setCell ⟨b + 3, 0, none⟩ (.int .i64 ((k : Int) + 1))).alloc (.cells #[.string ⟨#[]⟩, .string ⟨#[]⟩, .int .u64 0, .bool false, .string ⟨#[]⟩] 31) := ⟨_, rfl⟩
    rw [← hWA, ← hq]
    have HKp : Hid (Kept (tkF b) w WA) := Lib.hid (by rw [hWA]; exact ((Kept.refl _ _).setCell (.inl ⟨by show b ≤ b + 3; omega, by show b + 3 ≤ b + 3; omega⟩) _).alloc _)
    have hL0 : Left WA b l := ⟨by rw [hWA]; go_simp; exact hL.out.cell, by rw [hWA]; go_simp; exact hL.out.fro⟩
    have x1 : WA.cell? ⟨b + 1, 0, none⟩ = some (.pointer (some ⟨b, 0, none⟩)) := by rw [hWA]; go_simp
    have x2 : WA.cell? ⟨b + 2, 0, none⟩ = some (.string aE) := by rw [hWA, haE]; go_simp
    have x2f : WA.frozen? ⟨b + 2, 0, none⟩ = false := by rw [hWA]; go_simp
    have x3 : WA.cell? ⟨b + 3, 0, none⟩ = some (.int .i64 ((k : Int) + 1)) := by rw [hWA]; go_simp
    have x3f : WA.frozen? ⟨b + 3, 0, none⟩ = false := by rw [hWA]; go_simp
    have z0 : WA.cell? ⟨q, 0, none⟩ = some (.string ⟨#[]⟩) := by rw [hWA, hq]; go_simp
    have z1 : WA.cell? ⟨q, 1, none⟩ = some (.string ⟨#[]⟩) := by rw [hWA, hq]; go_simp
    have z2 : WA.cell? ⟨q, 2, none⟩ = some (.int .u64 0) := by rw [hWA, hq]; go_simp
    have z3 : WA.cell? ⟨q, 3, none⟩ = some (.bool false) := by rw [hWA, hq]; go_simp
    have z4 : WA.cell? ⟨q, 4, none⟩ = some (.string ⟨#[]⟩) := by rw [hWA, hq]; go_simp
    have zf0 : WA.frozen? ⟨q, 0, none⟩ = false := by rw [hWA, hq]; go_simp
    have zf1 : WA.frozen? ⟨q, 1, none⟩ = false := by rw [hWA, hq]; go_simp
    have zf2 : WA.frozen? ⟨q, 2, none⟩ = false := by rw [hWA, hq]; go_simp
    have zf3 : WA.frozen? ⟨q, 3, none⟩ = false := by rw [hWA, hq]; go_simp
    have zf4 : WA.frozen? ⟨q, 4, none⟩ = false := by rw [hWA, hq]; go_simp
    have zq : q < WA.heap.size := by rw [hWA, hq]; go_size
    have hnq : ¬ q = b := by omega
    have hqw : w.heap.size ≤ q := by omega
    have Hbw := Lib.hid hlt
    have Hqw := Lib.hid hqw
    have HL := Lib.hid hL0
    have bl : b + 3 < WA.heap.size := Nat.lt_of_lt_of_le hlt HKp.out.size
    clear hWA hq hL0 hL hr h_a haf h_k hkf hlt hl0 hl1 hl2 hn0 hn1 hn2 hn3 hqw haE h8 h8i
    try clear hkw
    refine (K1.out _ HL.out).mono ?_
    rintro e w1 ⟨rfl, hT⟩
    obtain ⟨c1, f1, l1⟩ := gb_cells hT.gb (x := b + 1) (by omega) (by omega)
    obtain ⟨c2, f2, l2⟩ := gb_cells hT.gb (x := b + 2) (by omega) (by omega)
    obtain ⟨c3, f3, l3⟩ := gb_cells hT.gb (x := b + 3) (by omega) (by omega)
    obtain ⟨cq, fq, lq⟩ := gb_cells hT.gb (x := q) zq hnq
    have x1' := (c1 0).trans x1
    have x2' := (c2 0).trans x2
    have x2f' := (f2 0).trans x2f
    have x3' := (c3 0).trans x3
    have x3f' := (f3 0).trans x3f
    have bl' := l3
    have zq' := lq
    have z0' := (cq 0).trans z0
    have z1' := (cq 1).trans z1
    have z2' := (cq 2).trans z2
    have z3' := (cq 3).trans z3
    have z4' := (cq 4).trans z4
    have zf0' := (fq 0).trans zf0
    have zf1' := (fq 1).trans zf1
    have zf2' := (fq 2).trans zf2
    have zf3' := (fq 3).trans zf3
    have zf4' := (fq 4).trans zf4
    have HL' := Lib.hid hT.left
    have HKp' := Lib.hid (HKp.out.grown hT.gb ⟨by show b ≤ b; omega, by show b ≤ b + 3; omega⟩)
    clear c1 f1 l1 c2 f2 l2 c3 f3 l3 cq fq lq hT HL HKp x1 x2 x2f x3 x3f bl zq z0 z1 z2 z3 z4 zf0 zf1 zf2 zf3 zf4
    have x1 := x1'
    have x2 := x2'
    have x2f := x2f'
    have x3 := x3'
    have x3f := x3f'
    have bl := bl'
    have zq := zq'
    have z0 := z0'
    have z1 := z1'
    have z2 := z2'
    have z3 := z3'
    have z4 := z4'
    have zf0 := zf0'
    have zf1 := zf1'
    have zf2 := zf2'
    have zf3 := zf3'
    have zf4 := zf4'
    have HL := HL'
    have HKp := HKp'
    clear x1' x2' x2f' x3' x3f' bl' zq' z0' z1' z2' z3' z4' zf0' zf1' zf2' zf3' zf4' HL' HKp'
    go_wp2_with fail
    refine (K2.out _ HL.out).mono ?_
    rintro e w2 ⟨rfl, hT⟩
    obtain ⟨c1, f1, l1⟩ := gb_cells hT.gb (x := b + 1) (by omega) (by omega)
    obtain ⟨c2, f2, l2⟩ := gb_cells hT.gb (x := b + 2) (by omega) (by omega)
    obtain ⟨c3, f3, l3⟩ := gb_cells hT.gb (x := b + 3) (by omega) (by omega)
    obtain ⟨cq, fq, lq⟩ := gb_cells hT.gb (x := q) zq hnq
    have x1' := (c1 0).trans x1
    have x2' := (c2 0).trans x2
    have x2f' := (f2 0).trans x2f
    have x3' := (c3 0).trans x3
    have x3f' := (f3 0).trans x3f
    have bl' := l3
    have zq' := lq
    have z0' := (cq 0).trans z0
    have z1' := (cq 1).trans z1
    have z2' := (cq 2).trans z2
    have z3' := (cq 3).trans z3
    have z4' := (cq 4).trans z4
    have zf0' := (fq 0).trans zf0
    have zf1' := (fq 1).trans zf1
    have zf2' := (fq 2).trans zf2
    have zf3' := (fq 3).trans zf3
    have zf4' := (fq 4).trans zf4
    have HL' := Lib.hid hT.left
    have HKp' := Lib.hid (HKp.out.grown hT.gb ⟨by show b ≤ b; omega, by show b ≤ b + 3; omega⟩)
    clear c1 f1 l1 c2 f2 l2 c3 f3 l3 cq fq lq hT HL HKp x1 x2 x2f x3 x3f bl zq z0 z1 z2 z3 z4 zf0 zf1 zf2 zf3 zf4
    have x1 := x1'
    have x2 := x2'
    have x2f := x2f'
    have x3 := x3'
    have x3f := x3f'
    have bl := bl'
    have zq := zq'
    have z0 := z0'
    have z1 := z1'
    have z2 := z2'
    have z3 := z3'
    have z4 := z4'
    have zf0 := zf0'
    have zf1 := zf1'
    have zf2 := zf2'
    have zf3 := zf3'
    have zf4 := zf4'
    have HL := HL'
    have HKp := HKp'
    clear x1' x2' x2f' x3' x3f' bl' zq' z0' z1' z2' z3' z4' zf0' zf1' zf2' zf3' zf4' HL' HKp'
    go_wp2_with fail
    refine (K3.out _ HL.out).mono ?_
    rintro e w3 ⟨rfl, hT⟩
    obtain ⟨c1, f1, l1⟩ := gb_cells hT.gb (x := b + 1) (by omega) (by omega)
    obtain ⟨c2, f2, l2⟩ := gb_cells hT.gb (x := b + 2) (by omega) (by omega)
    obtain ⟨c3, f3, l3⟩ := gb_cells hT.gb (x := b + 3) (by omega) (by omega)
    obtain ⟨cq, fq, lq⟩ := gb_cells hT.gb (x := q) zq hnq
    have x1' := (c1 0).trans x1
    have x2' := (c2 0).trans x2
    have x2f' := (f2 0).trans x2f
    have x3' := (c3 0).trans x3
    have x3f' := (f3 0).trans x3f
    have bl' := l3
    have zq' := lq
    have z0' := (cq 0).trans z0
    have z1' := (cq 1).trans z1
    have z2' := (cq 2).trans z2
    have z3' := (cq 3).trans z3
    have z4' := (cq 4).trans z4
    have zf0' := (fq 0).trans zf0
    have zf1' := (fq 1).trans zf1
    have zf2' := (fq 2).trans zf2
    have zf3' := (fq 3).trans zf3
    have zf4' := (fq 4).trans zf4
    have HL' := Lib.hid hT.left
    have HKp' := Lib.hid (HKp.out.grown hT.gb ⟨by show b ≤ b; omega, by show b ≤ b + 3; omega⟩)
    clear c1 f1 l1 c2 f2 l2 c3 f3 l3 cq fq lq hT HL HKp x1 x2 x2f x3 x3f bl zq z0 z1 z2 z3 z4 zf0 zf1 zf2 zf3 zf4
    have x1 := x1'
    have x2 := x2'
    have x2f := x2f'
    have x3 := x3'
    have x3f := x3f'
    have bl := bl'
    have zq := zq'
    have z0 := z0'
    have z1 := z1'
    have z2 := z2'
    have z3 := z3'
    have z4 := z4'
    have zf0 := zf0'
    have zf1 := zf1'
    have zf2 := zf2'
    have zf3 := zf3'
    have zf4 := zf4'
    have HL := HL'
    have HKp := HKp'
    clear x1' x2' x2f' x3' x3f' bl' zq' z0' z1' z2' z3' z4' zf0' zf1' zf2' zf3' zf4' HL' HKp'
    go_wp2_with fail
    refine (K4.out _ HL.out).mono ?_
    rintro e w4 ⟨rfl, hT⟩
    obtain ⟨c1, f1, l1⟩ := gb_cells hT.gb (x := b + 1) (by omega) (by omega)
    obtain ⟨c2, f2, l2⟩ := gb_cells hT.gb (x := b + 2) (by omega) (by omega)
    obtain ⟨c3, f3, l3⟩ := gb_cells hT.gb (x := b + 3) (by omega) (by omega)
    obtain ⟨cq, fq, lq⟩ := gb_cells hT.gb (x := q) zq hnq
    have x1' := (c1 0).trans x1
    have x2' := (c2 0).trans x2
    have x2f' := (f2 0).trans x2f
    have x3' := (c3 0).trans x3
    have x3f' := (f3 0).trans x3f
    have bl' := l3
    have zq' := lq
    have z0' := (cq 0).trans z0
    have z1' := (cq 1).trans z1
    have z2' := (cq 2).trans z2
    have z3' := (cq 3).trans z3
    have z4' := (cq 4).trans z4
    have zf0' := (fq 0).trans zf0
    have zf1' := (fq 1).trans zf1
    have zf2' := (fq 2).trans zf2
    have zf3' := (fq 3).trans zf3
    have zf4' := (fq 4).trans zf4
    have HL' := Lib.hid hT.left
    have HKp' := Lib.hid (HKp.out.grown hT.gb ⟨by show b ≤ b; omega, by show b ≤ b + 3; omega⟩)
    clear c1 f1 l1 c2 f2 l2 c3 f3 l3 cq fq lq hT HL HKp x1 x2 x2f x3 x3f bl zq z0 z1 z2 z3 z4 zf0 zf1 zf2 zf3 zf4
    have x1 := x1'
    have x2 := x2'
    have x2f := x2f'
    have x3 := x3'
    have x3f := x3f'
    have bl := bl'
    have zq := zq'
    have z0 := z0'
    have z1 := z1'
    have z2 := z2'
    have z3 := z3'
    have z4 := z4'
    have zf0 := zf0'
    have zf1 := zf1'
    have zf2 := zf2'
    have zf3 := zf3'
    have zf4 := zf4'
    have HL := HL'
    have HKp := HKp'
    clear x1' x2' x2f' x3' x3f' bl' zq' z0' z1' z2' z3' z4' zf0' zf1' zf2' zf3' zf4' HL' HKp'
    go_wp2_with fail
    refine (K5.out _ HL.out).mono ?_
    rintro e w5 ⟨rfl, hT⟩
    obtain ⟨c1, f1, l1⟩ := gb_cells hT.gb (x := b + 1) (by omega) (by omega)
    obtain ⟨c2, f2, l2⟩ := gb_cells hT.gb (x := b + 2) (by omega) (by omega)
    obtain ⟨c3, f3, l3⟩ := gb_cells hT.gb (x := b + 3) (by omega) (by omega)
    obtain ⟨cq, fq, lq⟩ := gb_cells hT.gb (x := q) zq hnq
    have x1' := (c1 0).trans x1
    have x2' := (c2 0).trans x2
    have x2f' := (f2 0).trans x2f
    have x3' := (c3 0).trans x3
    have x3f' := (f3 0).trans x3f
    have bl' := l3
    have zq' := lq
    have z0' := (cq 0).trans z0
    have z1' := (cq 1).trans z1
    have z2' := (cq 2).trans z2
    have z3' := (cq 3).trans z3
    have z4' := (cq 4).trans z4
    have zf0' := (fq 0).trans zf0
    have zf1' := (fq 1).trans zf1
    have zf2' := (fq 2).trans zf2
    have zf3' := (fq 3).trans zf3
    have zf4' := (fq 4).trans zf4
    have HL' := Lib.hid hT.left
    have HKp' := Lib.hid (HKp.out.grown hT.gb ⟨by show b ≤ b; omega, by show b ≤ b + 3; omega⟩)
    clear c1 f1 l1 c2 f2 l2 c3 f3 l3 cq fq lq hT HL HKp x1 x2 x2f x3 x3f bl zq z0 z1 z2 z3 z4 zf0 zf1 zf2 zf3 zf4
    have x1 := x1'
    have x2 := x2'
    have x2f := x2f'
    have x3 := x3'
    have x3f := x3f'
    have bl := bl'
    have zq := zq'
    have z0 := z0'
    have z1 := z1'
    have z2 := z2'
    have z3 := z3'
    have z4 := z4'
    have zf0 := zf0'
    have zf1 := zf1'
    have zf2 := zf2'
    have zf3 := zf3'
    have zf4 := zf4'
    have HL := HL'
    have HKp := HKp'
    clear x1' x2' x2f' x3' x3f' bl' zq' z0' z1' z2' z3' z4' zf0' zf1' zf2' zf3' zf4' HL' HKp'
    go_wp2_with fail
    refine (K6.out _ HL.out).mono ?_
    rintro e w6 ⟨rfl, hT⟩
    obtain ⟨c1, f1, l1⟩ := gb_cells hT.gb (x := b + 1) (by omega) (by omega)
    obtain ⟨c2, f2, l2⟩ := gb_cells hT.gb (x := b + 2) (by omega) (by omega)
    obtain ⟨c3, f3, l3⟩ := gb_cells hT.gb (x := b + 3) (by omega) (by omega)
    obtain ⟨cq, fq, lq⟩ := gb_cells hT.gb (x := q) zq hnq
    have x1' := (c1 0).trans x1
    have x2' := (c2 0).trans x2
    have x2f' := (f2 0).trans x2f
    have x3' := (c3 0).trans x3
    have x3f' := (f3 0).trans x3f
    have bl' := l3
    have zq' := lq
    have z0' := (cq 0).trans z0
    have z1' := (cq 1).trans z1
    have z2' := (cq 2).trans z2
    have z3' := (cq 3).trans z3
    have z4' := (cq 4).trans z4
    have zf0' := (fq 0).trans zf0
    have zf1' := (fq 1).trans zf1
    have zf2' := (fq 2).trans zf2
    have zf3' := (fq 3).trans zf3
    have zf4' := (fq 4).trans zf4
    have HL' := Lib.hid hT.left
    have HKp' := Lib.hid (HKp.out.grown hT.gb ⟨by show b ≤ b; omega, by show b ≤ b + 3; omega⟩)
    clear c1 f1 l1 c2 f2 l2 c3 f3 l3 cq fq lq hT HL HKp x1 x2 x2f x3 x3f bl zq z0 z1 z2 z3 z4 zf0 zf1 zf2 zf3 zf4
    have x1 := x1'
    have x2 := x2'
    have x2f := x2f'
    have x3 := x3'
    have x3f := x3f'
    have bl := bl'
    have zq := zq'
    have z0 := z0'
    have z1 := z1'
    have z2 := z2'
    have z3 := z3'
    have z4 := z4'
    have zf0 := zf0'
    have zf1 := zf1'
    have zf2 := zf2'
    have zf3 := zf3'
    have zf4 := zf4'
    have HL := HL'
    have HKp := HKp'
    clear x1' x2' x2f' x3' x3f' bl' zq' z0' z1' z2' z3' z4' zf0' zf1' zf2' zf3' zf4' HL' HKp'
    have haz := HAz.out
    have hdl := HDl.out
    cases iN
    · skip
      go_wp2_with (first | (with_reducible refine bodyPost_ret (v := .tuple #[.agg #[.string ⟨#[]⟩, .string ⟨#[]⟩, .int .u64 0, .bool false, .string ⟨#[]⟩], .bool false]) ?hr ?hd ?hR))
      case hd => rfl
      case hR => rw [HP.out]; exact ⟨.inr ⟨by rw [HCR.out]; simp, rfl⟩, (((((HKp.out.setCell (.inr Hqw.out) _).setCell (.inr Hqw.out) _).setCell (.inr Hqw.out) _).setCell (.inr Hqw.out) _).setCell (.inr Hqw.out) _)⟩
      case hr => simp [results, Try.results70, go_sem, *]
    · skip
      cases iR
      · skip
        go_wp2_with (first | (with_reducible refine bodyPost_ret (v := .tuple #[.agg #[.string ⟨#[]⟩, .string ⟨#[]⟩, .int .u64 0, .bool false, .string ⟨#[]⟩], .bool false]) ?hr ?hd ?hR))
        case hd => rfl
        case hR => rw [HP.out]; exact ⟨.inr ⟨by rw [HCR.out]; simp, rfl⟩, (((((HKp.out.setCell (.inr Hqw.out) _).setCell (.inr Hqw.out) _).setCell (.inr Hqw.out) _).setCell (.inr Hqw.out) _).setCell (.inr Hqw.out) _)⟩
        case hr => simp [results, Try.results70, go_sem, *]
      · skip
        cases iB
        · skip
          go_wp2_with (first | (with_reducible refine bodyPost_ret (v := .tuple #[.agg #[.string ⟨#[]⟩, .string ⟨#[]⟩, .int .u64 0, .bool false, .string ⟨#[]⟩], .bool false]) ?hr ?hd ?hR))
          case hd => rfl
          case hR => rw [HP.out]; exact ⟨.inr ⟨by rw [HCR.out]; simp, rfl⟩, (((((HKp.out.setCell (.inr Hqw.out) _).setCell (.inr Hqw.out) _).setCell (.inr Hqw.out) _).setCell (.inr Hqw.out) _).setCell (.inr Hqw.out) _)⟩
          case hr => simp [results, Try.results70, go_sem, *]
        · skip
          cases iC
          · skip
            go_wp2_with (first | (with_reducible refine bodyPost_ret (v := .tuple #[.agg #[.string ⟨#[]⟩, .string ⟨#[]⟩, .int .u64 0, .bool false, .string ⟨#[]⟩], .bool false]) ?hr ?hd ?hR))
            case hd => rfl
            case hR => rw [HP.out]; exact ⟨.inr ⟨by rw [HCR.out]; simp, rfl⟩, (((((HKp.out.setCell (.inr Hqw.out) _).setCell (.inr Hqw.out) _).setCell (.inr Hqw.out) _).setCell (.inr Hqw.out) _).setCell (.inr Hqw.out) _)⟩
            case hr => simp [results, Try.results70, go_sem, *]
          · skip
            cases iD
            · skip
              go_wp2_with (first | (with_reducible refine bodyPost_ret (v := .tuple #[.agg #[.string ⟨#[]⟩, .string ⟨#[]⟩, .int .u64 0, .bool false, .string ⟨#[]⟩], .bool false]) ?hr ?hd ?hR))
              case hd => rfl
              case hR => rw [HP.out]; exact ⟨.inr ⟨by rw [HCR.out]; simp, rfl⟩, (((((HKp.out.setCell (.inr Hqw.out) _).setCell (.inr Hqw.out) _).setCell (.inr Hqw.out) _).setCell (.inr Hqw.out) _).setCell (.inr Hqw.out) _)⟩
              case hr => simp [results, Try.results70, go_sem, *]
            · skip
              cases iE
              · skip
                go_wp2_with (first | (with_reducible refine bodyPost_ret (v := .tuple #[.agg #[.string ⟨#[]⟩, .string ⟨#[]⟩, .int .u64 0, .bool false, .string ⟨#[]⟩], .bool false]) ?hr ?hd ?hR))
                case hd => rfl
                case hR => rw [HP.out]; exact ⟨.inr ⟨by rw [HCR.out]; simp, rfl⟩, (((((HKp.out.setCell (.inr Hqw.out) _).setCell (.inr Hqw.out) _).setCell (.inr Hqw.out) _).setCell (.inr Hqw.out) _).setCell (.inr Hqw.out) _)⟩
                case hr => simp [results, Try.results70, go_sem, *]
              · skip
                by_cases hn : vn ≤ aE.size
                · by_cases hg : dn ≤ 1
                  · have hni : (vn : Int) ≤ (aE.size : Int) := by omega
                    have hrz := HRz.out
                    have hqq := Hqw.out
                    have hq2 : ¬ q = b + 2 := by have := Hbw.out; omega
                    have hq2' : ¬ b + 2 = q := by have := Hbw.out; omega
                    have hq1 : ¬ q = b + 1 := by have := Hbw.out; omega
                    have hq1' : ¬ b + 1 = q := by have := Hbw.out; omega
                    have hq3 : ¬ q = b + 3 := by have := Hbw.out; omega
                    have hq3' : ¬ b + 3 = q := by have := Hbw.out; omega
                    clear hqq
                    have hgi : ¬ (1 : Int) < (dn : Int) := by omega
                    have hvl : vn < 2 ^ 63 := by omega
                    obtain ⟨d1, hd1⟩ : ∃ d, d = decide (dn = 1) := ⟨_, rfl⟩
                    have Hd1 := Lib.hid hd1
                    have hd1' : decide ((dn : Int) = 1) = d1 := by rw [hd1]; apply decide_eq_decide.2; omega
                    have hd1b : ((dn : Int) == 1) = d1 := by rw [← hd1']; first | rfl | exact beq_eq_decide | simp
                    clear hd1
                    go_wp2_with (first | (with_reducible refine bodyPost_ret (v := .tuple #[.agg #[.string (aE.extract 0 vn ++ sr), .string sb, .int .u64 vc, .bool d1, .string se], .bool true]) ?hr ?hd ?hR))
                    case hd => rfl
                    case hr => simp [results, Try.results70, go_sem, *]
                    case hR => rw [HP.out, HCR.out]; dsimp only; exact ⟨.inl ⟨by simp; exact ⟨hn, hg⟩, by rw [Hrow.out hn, Hd1.out], by rw [← Hrow.out hn]; exact ⟨⟨by go_simp; exact HL.out.cell, by go_simp; exact HL.out.fro⟩, by go_simp, by go_simp, by go_simp, by go_simp, by go_simp⟩⟩, ((((((HKp.out.setCell (.inl ⟨by show b ≤ b + 2; omega, by show b + 2 ≤ b + 3; omega⟩) _).setCell (.inr Hqw.out) _).setCell (.inr Hqw.out) _).setCell (.inr Hqw.out) _).setCell (.inr Hqw.out) _).setCell (.inr Hqw.out) _)⟩
                  · skip
                    go_wp2_with (first | (with_reducible refine bodyPost_ret (v := .tuple #[.agg #[.string ⟨#[]⟩, .string ⟨#[]⟩, .int .u64 0, .bool false, .string ⟨#[]⟩], .bool false]) ?hr ?hd ?hR))
                    case hd => rfl
                    case hR => rw [HP.out]; exact ⟨.inr ⟨by rw [HCR.out]; simp; omega, rfl⟩, (((((HKp.out.setCell (.inr Hqw.out) _).setCell (.inr Hqw.out) _).setCell (.inr Hqw.out) _).setCell (.inr Hqw.out) _).setCell (.inr Hqw.out) _)⟩
                    case hr => simp [results, Try.results70, go_sem, *]
                · skip
                  go_wp2_with (first | (with_reducible refine bodyPost_ret (v := .tuple #[.agg #[.string ⟨#[]⟩, .string ⟨#[]⟩, .int .u64 0, .bool false, .string ⟨#[]⟩], .bool false]) ?hr ?hd ?hR))
                  case hd => rfl
                  case hR => rw [HP.out]; exact ⟨.inr ⟨by rw [HCR.out]; simp; omega, rfl⟩, (((((HKp.out.setCell (.inr Hqw.out) _).setCell (.inr Hqw.out) _).setCell (.inr Hqw.out) _).setCell (.inr Hqw.out) _).setCell (.inr Hqw.out) _)⟩
                  case hr => simp [results, Try.results70, go_sem, *]
end Go.Proofs.Ytihglmicgccgiaa
