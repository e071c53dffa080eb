/-
  The walk of keys.Gap: its closure, the library's iterator from the end, the function.
-/
import Derived.Test.YteibnignjghedaaGapRefW
import Derived.Test.YteibnignjghedaaMarks
import Derived.WalkMore
import Derived.ScopeJumps
namespace Go.Proofs.Yteibnignjghedaa
open Go.RowKit Go.Shelf

attribute [local go_sem] Oper.semAt_some

def goesL (lo hi a : List UInt8) : Bool := mayL lo hi && hasL lo hi a
set_option maxHeartbeats 400000 in
theorem goes_any (lo hi at_ : ByteArray) (b : Nat) (w : World) (hl : lo.size ≤ maxLen) (hh : hi.size ≤ maxLen) (hc : w.cell? ⟨b, 0, none⟩ = some (.string at_)) (hb : b < w.heap.size) :
    Calls Try.prog 46 #[.agg #[.string lo, .string hi], .pointer (some ⟨b, 0, none⟩)] w fun e w' => e = .returned (.bool (goesL lo.toList hi.toList at_.toList)) ∧ Below w.heap.size w w' := by
  by_cases hm : mayL lo.toList hi.toList = true
  · have he : errB (mayL lo.toList hi.toList) = 0 := by simp [errB, hm]
    go_enter Try.func46, Try.ntmps46
    go_wp2_with (first | (go_at_call 38; refine (check_any _ _ _ hl hh).mono ?_; rintro e w1 ⟨rfl, hb⟩; obtain ⟨hB, hS, hk⟩ := after (B := w.heap.size) (w := w) (by go_grown) (by go_size) hb; clear hb; obtain ⟨c0, f0, z0⟩ := hk (w.heap.size) (by go_size); obtain ⟨c1, f1, z1⟩ := hk (b) (by go_size); clear hk) | (go_at_call 45; refine (has_any _ _ _ _).mono ?_; rintro e w2 ⟨rfl, hb⟩; obtain ⟨hB, hS, hk⟩ := after (B := w.heap.size) (w := w) (by go_grown) (by go_size) hb; clear hb; obtain ⟨c0, f0, z0⟩ := hk (w.heap.size) (by go_size); obtain ⟨c1, f1, z1⟩ := hk (b) (by go_size); clear hk))
    all_goals (go_ret; exact ⟨by simp [goesL, hm], by go_grown⟩)
  · have he : errB (mayL lo.toList hi.toList) = 2 := by simp [errB, hm]
    go_enter Try.func46, Try.ntmps46
    go_wp2_with (first | (go_at_call 38; refine (check_any _ _ _ hl hh).mono ?_; rintro e w1 ⟨rfl, hb⟩; obtain ⟨hB, hS, hk⟩ := after (B := w.heap.size) (w := w) (by go_grown) (by go_size) hb; clear hb; obtain ⟨c0, f0, z0⟩ := hk (w.heap.size) (by go_size); obtain ⟨c1, f1, z1⟩ := hk (b) (by go_size); clear hk) | (go_at_call 45; refine (has_any _ _ _ _).mono ?_; rintro e w2 ⟨rfl, hb⟩; obtain ⟨hB, hS, hk⟩ := after (B := w.heap.size) (w := w) (by go_grown) (by go_size) hb; clear hb; obtain ⟨c0, f0, z0⟩ := hk (w.heap.size) (by go_size); obtain ⟨c1, f1, z1⟩ := hk (b) (by go_size); clear hk))
    all_goals (go_ret; exact ⟨by simp [goesL, hm], by go_grown⟩)

/-- slices.Backward(rs): the slice value is boxed; the function value captures the box. -/
theorem backward_any (v : Value) (ao : Option Addr) (len cap : Nat) (w : World) :
    Calls Try.prog 47 #[.slice ao len cap] w fun e w' => e = .returned (.func (.func 63) #[] #[.pointer (some ⟨w.heap.size, 0, none⟩)]) ∧ w' = w.alloc (.cells #[.slice ao len cap] 72) := by
  go_enter Try.func47, Try.ntmps47
  go_wp2
  go_ret
  exact ⟨rfl, rfl⟩

/-- One of the ranges, and its place. -/
abbrev RX (rs : List (ByteArray × ByteArray)) := { x : (ByteArray × ByteArray) × Nat // rs[x.2]? = some x.1 }
/-- The last c, from the end on. -/
def dn (rs : List (ByteArray × ByteArray)) : Nat → List (RX rs)
  | 0 => []
  | c + 1 => dn rs c ++ (match h : rs[rs.length - 1 - c]? with | some x => [⟨(x, rs.length - 1 - c), h⟩] | none => [])
theorem dn_step {rs : List (ByteArray × ByteArray)} {j c : Nat} {x : ByteArray × ByteArray} (hc : j + c + 1 = rs.length) (h : rs[j]? = some x) : dn rs (c + 1) = dn rs c ++ [⟨(x, j), h⟩] := by
  obtain rfl : j = rs.length - 1 - c := by omega
  rw [dn]
  congr 1
  split
  · rename_i y hy
    have : x = y := by rw [h] at hy; exact Option.some.inj hy
    subst this
    rfl
  · rename_i hy; rw [h] at hy; cases hy
theorem dn_len (rs : List (ByteArray × ByteArray)) : ∀ c, (dn rs c).length ≤ c
  | 0 => Nat.le_refl _
  | c + 1 => by
    have := dn_len rs c
    rw [dn]
    split <;> simp <;> omega
theorem dn_mem {rs : List (ByteArray × ByteArray)} : ∀ c, c ≤ rs.length → ∀ i x, rs.length - c ≤ i → (h : rs[i]? = some x) → (⟨(x, i), h⟩ : RX rs) ∈ dn rs c
  | 0, _, i, x, hi, h => by have := (List.getElem?_eq_some_iff.1 h).1; omega
  | c + 1, hc, i, x, hi, h => by
    by_cases e : rs.length - c ≤ i
    · rw [dn]; exact List.mem_append.2 (.inl (dn_mem c (by omega) i x e h))
    · rw [dn_step (j := i) (by omega) h]; exact List.mem_append.2 (.inr (List.mem_singleton.2 rfl))
def rx (rs : List (ByteArray × ByteArray)) (l : List (RX rs)) : List (List UInt8 × List UInt8) := l.map fun x => (x.1.1.1.toList, x.1.1.2.toList)
theorem rx_all {rs : List (ByteArray × ByteArray)} (r : List UInt8 × List UInt8) : r ∈ rx rs (dn rs rs.length) ↔ r ∈ rgL rs := by
  simp only [rx, rgL, List.mem_map]
  constructor
  · rintro ⟨x, _, rfl⟩
    exact ⟨x.1.1, List.mem_of_getElem? x.2, rfl⟩
  · rintro ⟨y, hy, rfl⟩
    obtain ⟨i, hi⟩ := List.mem_iff_getElem?.1 hy
    exact ⟨⟨(y, i), hi⟩, dn_mem _ (Nat.le_refl _) i y (by omega) hi, rfl⟩

set_option maxRecDepth 100000 in
set_option maxHeartbeats 2000000 in
/-- The iterator, for every loop body that keeps the blocks of a set. -/
theorem backward1_in (F : Fence) (n : Nat) (hF : F.fn 63) (hro : F.round = none) (hn : 1 ≤ n) (l Bs : Nat) (S : Nat → Prop) (ao : Option Addr) (cap : Nat) (rs : List (ByteArray × ByteArray)) (hS : S Bs)
    (J Jx : List (RX rs) → World → Prop)
    (hY : ∀ pre x W, J pre W → pre.length < rs.length → YieldAt F (n - 1) Try.prog l #[.int .i64 x.1.2, .agg #[.string x.1.1.1, .string x.1.1.2]] W fun e W' =>
      (e = .returned (.bool true) ∧ J (pre ++ [x]) W' ∧ KB S W W') ∨ (e = .returned (.bool false) ∧ Jx (pre ++ [x]) W'))
    (W : World) (hBs : W.cell? ⟨Bs, 0, none⟩ = some (.slice ao rs.length cap)) (hr : Rgs W ao cap rs) (hlt : 0 < rs.length → ∀ b off, ao = some ⟨b, off, none⟩ → S b) (hBl : Bs < W.heap.size) (h0 : J [] W) :
    CallsIn F n Try.prog 63 #[.func (.yield l) #[] #[], .pointer (some ⟨Bs, 0, none⟩)] W fun e W' => (∃ v, e = .returned v) ∧
      ((∃ ys, ys = dn rs rs.length ∧ J ys W') ∨ (∃ pre, True ∧ Jx pre W')) := by
  have hcap := hr.fits
  have hmax := hr.max
  unfold maxLen at hmax
  obtain ⟨m, hm⟩ : ∃ m, m = rs.length := ⟨_, rfl⟩
  have Hm := Lib.hid hm
  rw [← hm] at hcap hBs
  clear hm
  have Hr := Lib.hid hr
  have HY := Lib.hid hY
  have Hlt := Lib.hid hlt
  clear hr hY hlt
  refine callsIn_of_wp Try.func63 rfl hF ?_ hro; simp only [Try.ntmps63, List.size_toArray, List.length_cons, List.length_nil, Nat.reduceAdd, Nat.reduceSub, Array.replicate_succ, Array.replicate_zero, List.push_toArray, List.append_toArray, List.nil_append, List.cons_append]
  gi_wp2
  gi_loopw [3] (fun i wr => ∃ (k : Nat) (v : Int), k ≤ m ∧ Hid (v + 1 = k) ∧ i = .int .i64 v ∧ Hid (J (dn rs (m - k)) wr) ∧ KB S W wr) (fun i _ => (intOf i + 1).toNat)
  case atStart => exact ⟨m, m - 1, by omega, Lib.hid (by omega), rfl, Lib.hid (by rw [Nat.sub_self]; exact h0), KB.refl _ _⟩
  case round =>
    obtain ⟨k, v, hk, hv, rfl, hJ, hB⟩ := hrel
    have hbs : wr.cell? ⟨Bs, 0, none⟩ = some (.slice ao m cap) := (hB.cell hS hBl).trans hBs
    by_cases h : 0 ≤ v
    · obtain ⟨j, rfl⟩ := Int.eq_ofNat_of_zero_le h
      have hkj : k = j + 1 := by have := hv.out; omega
      subst hkj
      obtain ⟨x, hx⟩ : ∃ x, rs[j]? = some x := ⟨_, List.getElem?_eq_getElem (by rw [← Hm.out]; omega)⟩
      obtain ⟨b, off, rfl, hat⟩ := Hr.out.at_ (by rw [← Hm.out]; omega)
      have hbl : S b := Hlt.out (by rw [← Hm.out]; omega) b off rfl
      have hbw : b < W.heap.size := hat.lt
      have c0 := (hB.cell hbl hbw).trans (hat.c0 j x hx)
      have c1 := (hB.cell hbl hbw).trans (hat.c1 j x hx)
      have hst := Lib.hid (dn_step (c := m - (j + 1)) (by rw [← Hm.out]; omega) hx)
      obtain ⟨fn, tmps, assign, body, hy, hR⟩ := HY.out (dn rs (m - (j + 1))) ⟨(x, j), hx⟩ wr hJ.out (by have := dn_len rs (m - (j + 1)); rw [← Hm.out]; omega)
      dsimp only at hy
      have HR := Lib.hid hR
      clear hat hv hR
      gi_wp2
      refine HR.out.mono ?_
      rintro e W3 (⟨rfl, hJ3, hk3⟩ | ⟨rfl, hJx3⟩)
      · gi_wp2
        go_roundw
        case rel => exact ⟨j, j - 1, by omega, Lib.hid (by omega), rfl, Lib.hid (by rw [show m - j = m - (j + 1) + 1 by omega, hst.out]; exact hJ3), hB.trans hk3⟩
        case measure => simp [intOf] <;> omega
      · gi_wp2
        refine bodyPost_ret (results_none rfl _ _ _) rfl ?_
        exact ⟨⟨_, rfl⟩, .inr ⟨_, trivial, hJx3⟩⟩
    · have hk0 : k = 0 := by have := hv.out; omega
      have hv0 : v = -1 := by have := hv.out; omega
      subst hk0 hv0
      clear hv
      gi_wp2
      go_end0
      exact ⟨⟨_, rfl⟩, .inl (by rw [← Hm.out]; exact hJ.out)⟩

/-- A scope: two regions, a label, the rest; the run may jump back to the label. -/
theorem wp_scope_pre2 {P : Program} {a : Act} {w : World} {Q : Exit → Act → World → Prop} {r1 r2 X : Code} (l : Nat) (J : Act → World → Prop) (μ : Act → World → Nat)
    (hf : findLabel (.seq r1 (.seq r2 (.seq (.label l) X))) l = some (.seq .skip X))
    (pass : ∀ a w, J a w → X.wp P (Exit.jump l (fun a' w' => J a' w' ∧ μ a' w' < μ a w) Q) a w)
    (first : r1.wp P (Exit.then (r2.wp P (Exit.then J fun _ _ _ => False)) fun _ _ _ => False) a w) :
    (Code.scope (.seq r1 (.seq r2 (.seq (.label l) X)))).wp P Q a w := by
  refine wp_scope_jumps l J μ hf ?_ (fun a w hJ => wp_seq (wp_skip (pass a w hJ)))
  refine wp_seq (wp_mono first ?_)
  rintro e a2 w2 h2
  cases e with
  | normal =>
    refine wp_seq (wp_mono h2 ?_)
    rintro e a3 w3 h3
    cases e with
    | normal =>
      refine wp_seq (wp_label ?_)
      refine wp_mono (pass a3 w3 h3) ?_
      rintro e a4 w4 h4
      cases e with
      | goto l' => exact ⟨h4.1, h4.2.1⟩
      | _ => exact h4
    | _ => exact h3.elim
  | _ => exact h2.elim

/-- What stays at a jump back. -/
structure GapJ (w W : World) (l : List (List UInt8 × List UInt8)) (A : ByteArray) : Prop where
  bel : Below w.heap.size w W
  lt : w.heap.size + 1 < W.heap.size
  c0 : W.cell? ⟨w.heap.size, 0, none⟩ = some (.string ⟨#[]⟩)
  c1 : W.cell? ⟨w.heap.size, 1, none⟩ = some (.string ⟨#[]⟩)
  c2 : W.cell? ⟨w.heap.size + 1, 0, none⟩ = some (.string A)
  f0 : W.frozen? ⟨w.heap.size, 0, none⟩ = false
  f1 : W.frozen? ⟨w.heap.size, 1, none⟩ = false
  f2 : W.frozen? ⟨w.heap.size + 1, 0, none⟩ = false
  cov : ∀ t, t < A.toList → Cov l t

def bstr : Value → List UInt8 | .string s => s.toList | _ => []
def cellOr (W : World) (p : Addr) : Value := (W.cell? p).getD undef

set_option maxRecDepth 100000 in
set_option maxHeartbeats 2000000 in
theorem gap_any (ao : Option Addr) (cap : Nat) (rs : List (ByteArray × ByteArray)) (w : World) (h : Rgs w ao cap rs) :
    Calls Try.prog 24 #[.slice ao rs.length cap] w fun e w' => e = .returned (gapV (gapL (rgL rs))) ∧ Below w.heap.size w w' := by
  have hcap := h.fits
  have hmax := h.max
  unfold maxLen at hmax
  obtain ⟨n, hn⟩ : ∃ n, n = rs.length := ⟨_, rfl⟩
  have Hn := Lib.hid hn
  rw [← hn] at hcap ⊢
  clear hn
  have Hr := Lib.hid h
  clear h
  refine callsIn_wide.1 (callsIn_of_wp_marks (F := Fence.wide) (n := 20) Try.func24 rfl trivial ?_ rfl); refine wpIn_wide.2 ?_; simp only [Try.ntmps24, List.size_toArray, List.length_cons, List.length_nil, Nat.reduceAdd, Nat.reduceSub, Array.replicate_succ, Array.replicate_zero, List.push_toArray, List.append_toArray, List.nil_append, List.cons_append]
  go_wp2
  refine wp_scope_pre2 0 (fun a W => (∃ (A : ByteArray), GapJ w W (rgL rs) A) ∧
      ∃ (u3 u7 u8 u10 u12 u13 u14 u15 u16 u17 u18 u19 u20 u21 u22 u23 u24 u25 u26 u27 u28 u29 u30 : Value), a = { tmps := #[.slice ao n cap, undef, .pointer (some ⟨w.heap.size, 0, none⟩), u3, .pointer (some ⟨w.heap.size + 1, 0, none⟩), .func (.func 46) #[] #[.pointer (some ⟨w.heap.size + 1, 0, none⟩)], undef, u7, u8, undef, u10, .func (.func 46) #[] #[.pointer (some ⟨w.heap.size + 1, 0, none⟩)], u12, u13, u14, u15, u16, u17, u18, u19, u20, u21, u22, u23, u24, u25, u26, u27, u28, u29, u30, undef, undef, undef, undef, undef, undef, undef, undef, undef, undef, undef, undef, undef, undef, undef, undef, undef, undef, undef, undef, undef, undef, undef, undef, undef, undef, undef, undef], defers := [] })
    (fun _ W => cnt (rgL rs) (bstr (cellOr W ⟨w.heap.size + 1, 0, none⟩))) ?hf ?pass ?first
  case hf => rfl
  case first =>
    go_wp2
    refine ⟨⟨⟨#[]⟩, by go_grown, by simp, by go_simp, by go_simp, by go_simp, by go_simp, by go_simp, by go_simp, ?_⟩, ?_⟩
    · rw [nilB]; exact fun t ht => absurd ht (not_lt_nil t)
    · exact ⟨_, _, _, _, _, _, _, _, _, _, _, _, _, _, _, _, _, _, _, _, _, _, _, rfl⟩
  case pass =>
    rintro a W ⟨⟨A, hJ⟩, u3, u7, u8, u10, u12, u13, u14, u15, u16, u17, u18, u19, u20, u21, u22, u23, u24, u25, u26, u27, u28, u29, u30, rfl⟩
    obtain ⟨hb, hlt, c0, c1, c2, f0, f1, f2, hcov⟩ := hJ
    have Hcov := Lib.hid hcov
    clear hcov
    go_wp2
    have hzw : w.heap.size ≤ W.heap.size := hb.size
    go_loopw [14] (fun i wr => ∃ k : Nat, k ≤ n ∧ i = .int .i64 k ∧ Hid (NoneUpto (rgL rs) A.toList k) ∧ Below W.heap.size W wr) (fun i _ => n - (intOf i).toNat)
    case atStart => exact ⟨0, by omega, rfl, Lib.hid (NoneUpto.zero _ _), Below.refl _ _⟩
    case round =>
      obtain ⟨k, hk, rfl, hno, hbr⟩ := hrel
      obtain ⟨k0, k0f⟩ := keep_of hbr w.heap.size (by omega)
      obtain ⟨k1, k1f⟩ := keep_of hbr (w.heap.size + 1) (by omega)
      have hz1 := hbr.size
      by_cases hlt2 : k < n
      · obtain ⟨x, hx⟩ : ∃ x, rs[k]? = some x := ⟨_, List.getElem?_eq_getElem (by rw [← Hn.out]; omega)⟩
        obtain ⟨b, off, rfl, hat⟩ := Hr.out.at_ (by rw [← Hn.out]; omega)
        have hbl : b < w.heap.size := hat.lt
        have hat2 := (hat.of hb).of hbr
        have d0 := hat2.c0 k x hx
        have d1 := hat2.c1 k x hx
        obtain ⟨hx1, hx2⟩ := Hr.out.ok x (List.mem_of_getElem? hx)
        have Hx := Lib.hid hx
        have Hmem := Lib.hid (List.mem_of_getElem? (rgL_get hx))
        have hq0 : w.heap.size < wr.heap.size := by omega
        have hq1 : w.heap.size + 1 < wr.heap.size := by omega
        have hq2 : b < wr.heap.size := by omega
        clear hat hat2 hx
        by_cases hg : goesL x.1.toList x.2.toList A.toList = true
        · have Hg := Lib.hid hg
          have hm : mayL x.1.toList x.2.toList = true := by simp only [goesL, Bool.and_eq_true] at hg; exact hg.1
          have hh : hasL x.1.toList x.2.toList A.toList = true := by simp only [goesL, Bool.and_eq_true] at hg; exact hg.2
          by_cases he : x.2.toList = []
          · have he1 : x.2.toList.isEmpty = true := by simp [he]
            have Hf := Lib.hid (gapV_none (cov_all Hcov.out Hmem.out hm hh he))
            clear he hm hh
            go_wp2_with (go_at_call 46; refine (goes_any _ _ A (w.heap.size + 1) _ hx1 hx2 (by go_simp) (by go_size)).mono ?_; rintro e w3 ⟨rfl, hb⟩; obtain ⟨hB, hS, hk⟩ := after (B := W.heap.size) (w := W) (by go_grown) (by go_size) hb; clear hb; obtain ⟨c0, f0, z0⟩ := hk (b) (by go_size); obtain ⟨c1, f1, z1⟩ := hk (w.heap.size) (by go_size); obtain ⟨c2, f2, z2⟩ := hk (w.heap.size + 1) (by go_size); obtain ⟨c3, f3, z3⟩ := hk (wr.heap.size) (by go_size); clear hk)
            simp only [Exit.jump]
            exact postM_ret (v := gapV (gapL (rgL rs))) rfl (by rw [Hf.out]; simp [results, Try.results24, go_sem, *]) ⟨rfl, by have hB5 := hb.trans (hB.mono hzw); go_grown⟩
          · have he1 : x.2.toList.isEmpty = false := by simp [he]
            have Hc := Lib.hid (cov_step Hcov.out Hmem.out hm hh)
            have Hl := Lib.hid (cnt_lt Hmem.out (has_lt hh he))
            clear he hm hh
            go_wp2_with (go_at_call 46; refine (goes_any _ _ A (w.heap.size + 1) _ hx1 hx2 (by go_simp) (by go_size)).mono ?_; rintro e w3 ⟨rfl, hb⟩; obtain ⟨hB, hS, hk⟩ := after (B := W.heap.size) (w := W) (by go_grown) (by go_size) hb; clear hb; obtain ⟨c0, f0, z0⟩ := hk (b) (by go_size); obtain ⟨c1, f1, z1⟩ := hk (w.heap.size) (by go_size); obtain ⟨c2, f2, z2⟩ := hk (w.heap.size + 1) (by go_size); obtain ⟨c3, f3, z3⟩ := hk (wr.heap.size) (by go_size); clear hk)
            go_step3
            refine ⟨rfl, ⟨⟨x.2, ?_⟩, ?_⟩, ?_⟩
            · have hB5 := hb.trans (hB.mono hzw)
              exact ⟨by go_grown, by go_size, by go_simp, by go_simp, by go_simp, by go_simp, by go_simp, by go_simp, Hc.out⟩
            · exact ⟨_, _, _, _, _, _, _, _, _, _, _, _, _, _, _, _, _, _, _, _, _, _, _, rfl⟩
            · have e1 : (w3.setCell ⟨w.heap.size + 1, 0, none⟩ (.string x.2)).cell? ⟨w.heap.size + 1, 0, none⟩ = some (.string x.2) := by go_simp
              have e2 : W.cell? ⟨w.heap.size + 1, 0, none⟩ = some (.string A) := by assumption
              simp only [cellOr, e1, e2, Option.getD_some, bstr]
              exact Hl.out
        · have hg1 : goesL x.1.toList x.2.toList A.toList = false := by simpa using hg
          have Hs : Hid (NoneUpto (rgL rs) A.toList (k + 1)) := Lib.hid (hno.out.succ (rgL_get Hx.out) (fun hm => by simpa [goesL, hm] using hg1))
          clear hg
          go_wp2_with (go_at_call 46; refine (goes_any _ _ A (w.heap.size + 1) _ hx1 hx2 (by go_simp) (by go_size)).mono ?_; rintro e w3 ⟨rfl, hb⟩; obtain ⟨hB, hS, hk⟩ := after (B := W.heap.size) (w := W) (by go_grown) (by go_size) hb; clear hb; obtain ⟨c0, f0, z0⟩ := hk (b) (by go_size); obtain ⟨c1, f1, z1⟩ := hk (w.heap.size) (by go_size); obtain ⟨c2, f2, z2⟩ := hk (w.heap.size + 1) (by go_size); obtain ⟨c3, f3, z3⟩ := hk (wr.heap.size) (by go_size); clear hk)
          exact ⟨⟨k + 1, by omega, by go_num, Hs, hB⟩, by simp [intOf]; omega⟩
      · obtain rfl : k = n := by omega
        have hnc := Lib.hid (hno.out.all (by rw [rgL_len, ← Hn.out]; omega))
        go_wp2_with (go_at_call 47; refine (backward_any undef _ _ _ _).mono ?_; rintro e w' ⟨rfl, rfl⟩)
        obtain ⟨wo, rfl⟩ : ∃ wo : World, wo = wr := ⟨_, rfl⟩
        obtain ⟨W1, hW1⟩ : ∃ W1, (wo.alloc (.cells #[.string ⟨#[]⟩] 9)).alloc (.cells #[.slice ao k cap] 72) = W1 := ⟨_, rfl⟩
        obtain ⟨e1, e2, e3, e4, e5⟩ : Below wo.heap.size wo W1 ∧ W1.heap.size = wo.heap.size + 2 ∧ W1.cell? ⟨wo.heap.size + 1, 0, none⟩ = some (.slice ao k cap) ∧ W1.cell? ⟨wo.heap.size, 0, none⟩ = some (.string ⟨#[]⟩) ∧ W1.frozen? ⟨wo.heap.size, 0, none⟩ = false := by
          subst hW1; exact ⟨by go_grown, by simp, by go_simp, by go_simp, by go_simp⟩
        rw [hW1]
        clear hW1
        have Hsz := Lib.hid e2
        have hbw := hb.trans (hbr.mono hzw)
        have hbW1 := hbw.trans (e1.mono (by omega))
        have q4 : wo.cell? ⟨w.heap.size + 1, 0, none⟩ = some (.string A) := by rw [k1]; assumption
        refine (wpIn_wide (n := 20)).1 ?_
        refine wpIn_rangeFunc_ownH (F := Fence.wide) (n := 20) rfl (by omega) (gf := 63) (lb := #[.pointer (some ⟨wo.heap.size + 1, 0, none⟩)]) rfl trivial (enters_of Try.func63 (by kernel_rfl) rfl)
          (encs := fun x : RX rs => #[.int .i64 x.1.2, .agg #[.string x.1.1.1, .string x.1.1.2]]) (Kp := KB (fun q => q < w.heap.size ∨ q = wo.heap.size + 1)) (S := fun ys => ys = dn rs rs.length) (Sp := fun _ => True) (N := rs.length) (w0 := W1)
          (fun l J Jx V hV _ _ hY h0 => backward1_in Fence.wide 19 trivial rfl (by omega) l (wo.heap.size + 1) (fun q => q < w.heap.size ∨ q = wo.heap.size + 1) ao cap rs (.inr rfl) J Jx hY V
            (by rw [hV.cell (p := ⟨wo.heap.size + 1, 0, none⟩) (by rw [Hsz.out]; exact Nat.lt_succ_self _), ← Hn.out]; exact e3)
            ((Hr.out.of hbW1).of hV) (fun h0 b off e => .inl (by subst e; obtain ⟨b', off', e', ha⟩ := Hr.out.at_ h0; cases e'; exact ha.lt)) (by have := hV.size; rw [Hsz.out] at this; omega) h0)
          (fun h h' => h.trans h') (fun V l o o' hl ho _ _ => KB.putObj V o' ho (by rw [Hsz.out] at hl; omega)) (Below.refl _ _) (fun _ => rfl)
          (fun pre V => (∃ H : ByteArray, Hid (High (rx rs pre) A.toList H.toList) ∧ V.cell? ⟨wo.heap.size, 0, none⟩ = some (.string H) ∧ V.frozen? ⟨wo.heap.size, 0, none⟩ = false ∧ wo.heap.size + 1 < V.heap.size) ∧ Below wo.heap.size wo V)
          (fun _ _ _ => False) ?hI (fun _ _ _ _ _ h _ _ => h) ?h0
          (fun x a' V => ∃ Bx, wo.heap.size + 2 ≤ Bx ∧ Bx < V.heap.size ∧ V.cell? ⟨Bx, 0, none⟩ = some (.string x.1.1.1) ∧ V.cell? ⟨Bx, 1, none⟩ = some (.string x.1.1.2) ∧ a' = { tmps := #[.slice ao k cap, undef, .pointer (some ⟨w.heap.size, 0, none⟩), u3, .pointer (some ⟨w.heap.size + 1, 0, none⟩), .func (.func 46) #[] #[.pointer (some ⟨w.heap.size + 1, 0, none⟩)], undef, u7, .pointer (some ⟨wo.heap.size, 0, none⟩), undef, .pointer (some ⟨Bx, 0, none⟩), .func (.func 46) #[] #[.pointer (some ⟨w.heap.size + 1, 0, none⟩)], .slice ao k cap, .int .i64 k, .int .i64 k, .bool false, u16, u17, u18, u19, u20, u21, u22, u23, u24, u25, u26, u27, u28, u29, u30, .slice ao k cap, .func (.func 63) #[] #[.pointer (some ⟨wo.heap.size + 1, 0, none⟩)], .int .i64 x.1.2, .agg #[.string x.1.1.1, .string x.1.1.2], undef, undef, undef, undef, undef, undef, undef, undef, undef, undef, undef, undef, undef, undef, undef, undef, undef, undef, undef, undef, undef, undef, undef, undef], defers := [] }) ?hAx ?assign ?body ?done ?stop
        case hI =>
          rintro s V V' row ⟨⟨H, g1, g2, g3, g4⟩, g5⟩ hg hrow
          exact ⟨⟨H, g1, cell_kept g2 hg (fun r e => (hrow r e).2), (frozen_kept g2 hg (fun r e => (hrow r e).2)).trans g3, by have := hg.size; omega⟩, g5.grown hg g5.size (fun q e => by have := (hrow q e).1; rw [Hsz.out] at this; omega)⟩
        case h0 => exact ⟨⟨⟨#[]⟩, Lib.hid (by rw [nilB]; exact high_nil _), e4, e5, by rw [Hsz.out]; omega⟩, e1⟩
        case hAx =>
          rintro x a' s V V' row ⟨Bx, g1, g2, g3, g4, g5⟩ hg hrow
          exact ⟨Bx, g1, by have := hg.size; omega, cell_kept g3 hg (fun r e => (hrow r e).2), cell_kept g4 hg (fun r e => (hrow r e).2), g5⟩
        case assign =>
          rintro l pre x V K ⟨⟨H, g1, g2, g3, g4⟩, g5⟩ hK
          have hlo : wo.heap.size < V.heap.size := by omega
          gi_wp2
          refine hK _ _ (keepsFrom_alloc _ _) ((KB.refl _ _).alloc _) ⟨⟨H, g1, by go_simp, by go_simp, by simp; omega⟩, g5.alloc g5.size _⟩ ⟨V.heap.size, by omega, by simp, by go_simp, by go_simp, ?_⟩
          rfl
        case body =>
          rintro l pre x a' V hl hr ⟨⟨H, g1, g2, g3, g4⟩, g5⟩ ⟨Bx, b1, b2, b3, b4, rfl⟩ hlt
          clear hr hlt hl
          have hlo : wo.heap.size < V.heap.size := by omega
          have hV1 : w.heap.size + 1 < V.heap.size := by have := g5.size; omega
          have hV2 : wo.heap.size ≤ V.heap.size := by omega
          have g6 : V.cell? ⟨w.heap.size + 1, 0, none⟩ = some (.string A) := (g5.cell (p := ⟨w.heap.size + 1, 0, none⟩) (by show w.heap.size + 1 < wo.heap.size; omega)).trans q4
          obtain ⟨hx1, hx2⟩ := Hr.out.ok x.1.1 (List.mem_of_getElem? x.2)
          have Hst := Lib.hid (high_step g1.out (x.1.1.1.toList, x.1.1.2.toList))
          have Hrx : Hid (rx rs (pre ++ [x]) = rx rs pre ++ [(x.1.1.1.toList, x.1.1.2.toList)]) := Lib.hid (by simp [rx])
          clear k0 k0f k1 k1f
          by_cases hm : mayL x.1.1.1.toList x.1.1.2.toList = true
          · have hee : errB (mayL x.1.1.1.toList x.1.1.2.toList) = 0 := by simp [errB, hm]
            by_cases hl : A.toList < x.1.1.1.toList
            · obtain ⟨m1, m1b⟩ := le_false x.1.1.1.toList A.toList hl
              by_cases hz : H.toList = []
              · have m2 : H.toList.isEmpty = true := by simp [hz]
                have Hs : Hid (High (rx rs (pre ++ [x])) A.toList x.1.1.1.toList) := Lib.hid (by rw [Hrx.out]; have := Hst.out; simpa [stepH, hm, hl, hz] using this)
                clear hl hz
                gi_wp2_with (refine ⟨trivial, ?_⟩; gi_at_call 38; refine (CallsIn.inRound l (callsIn_wide.2 (check_any _ _ _ hx1 hx2))).mono ?_; rintro e w3 ⟨rfl, hb3⟩; obtain ⟨hB, hS, hk3⟩ := after (B := wo.heap.size) (w := wo) (by go_grown) (by go_size) hb3; have H3 := Lib.hid hb3; clear hb3; obtain ⟨p0, p0f, p0z⟩ := hk3 wo.heap.size (by go_size); obtain ⟨p1, p1f, p1z⟩ := hk3 (w.heap.size + 1) (by go_size); obtain ⟨p2, p2f, p2z⟩ := hk3 Bx (by go_size); clear hk3)
                exact ⟨(keepsFrom_below H3.out).trans (keepsFrom_setCell _ _ _), (KB.of_below H3.out).setCell (by show ¬ (wo.heap.size < w.heap.size ∨ wo.heap.size = wo.heap.size + 1); omega) _, ⟨_, Hs, by go_simp, by go_simp, by go_size⟩, by go_grown⟩
              · have m2 : H.toList.isEmpty = false := by simp [hz]
                by_cases hl2 : x.1.1.1.toList < H.toList
                · have m3 : Op.bytesLess x.1.1.1.toList H.toList = true := by rw [less_eq]; simpa using hl2
                  have Hs : Hid (High (rx rs (pre ++ [x])) A.toList x.1.1.1.toList) := Lib.hid (by rw [Hrx.out]; have := Hst.out; simpa [stepH, hm, hl, hl2] using this)
                  clear hl hz hl2
                  gi_wp2_with (refine ⟨trivial, ?_⟩; gi_at_call 38; refine (CallsIn.inRound l (callsIn_wide.2 (check_any _ _ _ hx1 hx2))).mono ?_; rintro e w3 ⟨rfl, hb3⟩; obtain ⟨hB, hS, hk3⟩ := after (B := wo.heap.size) (w := wo) (by go_grown) (by go_size) hb3; have H3 := Lib.hid hb3; clear hb3; obtain ⟨p0, p0f, p0z⟩ := hk3 wo.heap.size (by go_size); obtain ⟨p1, p1f, p1z⟩ := hk3 (w.heap.size + 1) (by go_size); obtain ⟨p2, p2f, p2z⟩ := hk3 Bx (by go_size); clear hk3)
                  exact ⟨(keepsFrom_below H3.out).trans (keepsFrom_setCell _ _ _), (KB.of_below H3.out).setCell (by show ¬ (wo.heap.size < w.heap.size ∨ wo.heap.size = wo.heap.size + 1); omega) _, ⟨_, Hs, by go_simp, by go_simp, by go_size⟩, by go_grown⟩
                · have m3 : Op.bytesLess x.1.1.1.toList H.toList = false := by rw [less_eq]; simpa using hl2
                  have Hs : Hid (High (rx rs (pre ++ [x])) A.toList H.toList) := Lib.hid (by rw [Hrx.out]; have := Hst.out; simpa [stepH, hm, hl, hl2, hz] using this)
                  clear hl hz hl2
                  gi_wp2_with (refine ⟨trivial, ?_⟩; gi_at_call 38; refine (CallsIn.inRound l (callsIn_wide.2 (check_any _ _ _ hx1 hx2))).mono ?_; rintro e w3 ⟨rfl, hb3⟩; obtain ⟨hB, hS, hk3⟩ := after (B := wo.heap.size) (w := wo) (by go_grown) (by go_size) hb3; have H3 := Lib.hid hb3; clear hb3; obtain ⟨p0, p0f, p0z⟩ := hk3 wo.heap.size (by go_size); obtain ⟨p1, p1f, p1z⟩ := hk3 (w.heap.size + 1) (by go_size); obtain ⟨p2, p2f, p2z⟩ := hk3 Bx (by go_size); clear hk3)
                  exact ⟨keepsFrom_below H3.out, KB.of_below H3.out, ⟨_, Hs, by go_simp, by go_simp, by go_size⟩, hB⟩
            · have m1 := le_true x.1.1.1.toList A.toList hl
              have Hs : Hid (High (rx rs (pre ++ [x])) A.toList H.toList) := Lib.hid (by rw [Hrx.out]; have := Hst.out; simpa [stepH, hm, hl] using this)
              clear hl
              gi_wp2_with (refine ⟨trivial, ?_⟩; gi_at_call 38; refine (CallsIn.inRound l (callsIn_wide.2 (check_any _ _ _ hx1 hx2))).mono ?_; rintro e w3 ⟨rfl, hb3⟩; obtain ⟨hB, hS, hk3⟩ := after (B := wo.heap.size) (w := wo) (by go_grown) (by go_size) hb3; have H3 := Lib.hid hb3; clear hb3; obtain ⟨p0, p0f, p0z⟩ := hk3 wo.heap.size (by go_size); obtain ⟨p1, p1f, p1z⟩ := hk3 (w.heap.size + 1) (by go_size); obtain ⟨p2, p2f, p2z⟩ := hk3 Bx (by go_size); clear hk3)
              exact ⟨keepsFrom_below H3.out, KB.of_below H3.out, ⟨_, Hs, by go_simp, by go_simp, by go_size⟩, hB⟩
          · have hee : errB (mayL x.1.1.1.toList x.1.1.2.toList) = 2 := by simp [errB, hm]
            have Hs : Hid (High (rx rs (pre ++ [x])) A.toList H.toList) := Lib.hid (by rw [Hrx.out]; have := Hst.out; simpa [stepH, hm] using this)
            clear hm
            gi_wp2_with (refine ⟨trivial, ?_⟩; gi_at_call 38; refine (CallsIn.inRound l (callsIn_wide.2 (check_any _ _ _ hx1 hx2))).mono ?_; rintro e w3 ⟨rfl, hb3⟩; obtain ⟨hB, hS, hk3⟩ := after (B := wo.heap.size) (w := wo) (by go_grown) (by go_size) hb3; have H3 := Lib.hid hb3; clear hb3; obtain ⟨p0, p0f, p0z⟩ := hk3 wo.heap.size (by go_size); obtain ⟨p1, p1f, p1z⟩ := hk3 (w.heap.size + 1) (by go_size); obtain ⟨p2, p2f, p2z⟩ := hk3 Bx (by go_size); clear hk3)
            exact ⟨keepsFrom_below H3.out, KB.of_below H3.out, ⟨_, Hs, by go_simp, by go_simp, by go_size⟩, hB⟩
        case done =>
          rintro D ys V hD rfl ⟨⟨H, g1, g2, g3, g4⟩, g5⟩ hK
          have hfin := Lib.hid (gapV_some (l := rgL rs) (a := A) (h := H) ⟨Hcov.out, hnc.out, g1.out.perm rx_all⟩)
          have v4 : V.cell? ⟨w.heap.size + 1, 0, none⟩ = some (.string A) := (g5.cell (p := ⟨w.heap.size + 1, 0, none⟩) (by show w.heap.size + 1 < wo.heap.size; omega)).trans q4
          have v0 : V.cell? ⟨w.heap.size, 0, none⟩ = some (.string ⟨#[]⟩) := (g5.cell (p := ⟨w.heap.size, 0, none⟩) (by show w.heap.size < wo.heap.size; omega)).trans (by rw [k0]; assumption)
          have v1 : V.cell? ⟨w.heap.size, 1, none⟩ = some (.string ⟨#[]⟩) := (g5.cell (p := ⟨w.heap.size, 1, none⟩) (by show w.heap.size < wo.heap.size; omega)).trans (by rw [k0]; assumption)
          have w0 : V.frozen? ⟨w.heap.size, 0, none⟩ = false := (g5.frozen (p := ⟨w.heap.size, 0, none⟩) (by show w.heap.size < wo.heap.size; omega)).trans (by rw [k0f]; assumption)
          have w1 : V.frozen? ⟨w.heap.size, 1, none⟩ = false := (g5.frozen (p := ⟨w.heap.size, 1, none⟩) (by show w.heap.size < wo.heap.size; omega)).trans (by rw [k0f]; assumption)
          have hVb : Below w.heap.size w V := hbw.trans (g5.mono (by omega))
          clear k0 k0f k1 k1f
          go_wp2
          simp only [Exit.jump]
          have hK' := ((KeepsOthers.setCell V ⟨w.heap.size, 0, none⟩ (.string A)).trans (KeepsOthers.setCell _ ⟨w.heap.size, 1, none⟩ (.string H))).same D _ hK rfl
          have s0 : ((V.setCell ⟨w.heap.size, 0, none⟩ (.string A)).setCell ⟨w.heap.size, 1, none⟩ (.string H)).cell? ⟨w.heap.size, 0, none⟩ = some (.string A) := by go_simp
          have s1 : ((V.setCell ⟨w.heap.size, 0, none⟩ (.string A)).setCell ⟨w.heap.size, 1, none⟩ (.string H)).cell? ⟨w.heap.size, 1, none⟩ = some (.string H) := by go_simp
          have hVb' : Below w.heap.size w ((V.setCell ⟨w.heap.size, 0, none⟩ (.string A)).setCell ⟨w.heap.size, 1, none⟩ (.string H)) := by go_grown
          have t0 := cell_put (o' := .deferred none) hK' rfl s0
          have t1 := cell_put (o' := .deferred none) hK' rfl s1
          exact postM_ret1 (v := gapV (gapL (rgL rs))) rfl hK' (by rw [hfin.out]; simp [results, Try.results24, go_sem, t0, t1]) ⟨rfl, hVb'.trans (below_put hK' (by omega))⟩
        case stop =>
          rintro D c pre V _ _ h _
          exact h.elim

end Go.Proofs.Yteibnignjghedaa
