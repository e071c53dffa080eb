/-
  The walk of cells.Encode.
-/
import Derived.Test.YtjalccnkfpjchaaIndexW
import Derived.Test.YtjalccnkfpjchaaRowStr
import Derived.Test.YtjalccnkfpjchaaWirePutW
namespace Go.Proofs.Ytjalccnkfpjchaa
open Go.RowKit

def encC (c : CellA) : List UInt8 := (numL c.row.size ++ c.row.toList) ++ (numL c.col.size ++ c.col.toList) ++ numW c.ver ++ [if c.gone then 1 else 0] ++ (numL c.val.size ++ c.val.toList)
/-- what is laid after k cells -/
def encP (n : Nat) (cs : List CellA) (k : Nat) : List UInt8 := numL n ++ (cs.take k).flatMap encC
def encL (cs : List CellA) : List UInt8 := numL cs.length ++ cs.flatMap encC
def encR (cs : List CellA) : List UInt8 × Int := if cs.any badC then ([], 2) else if 1048576 < (encL cs).length then ([], 3) else (encL cs, 0)

theorem encP_zero (n : Nat) (cs : List CellA) : encP n cs 0 = numL n := by simp [encP]
theorem encP_succ {n k : Nat} {cs : List CellA} {x : CellA} (h : cs[k]? = some x) : encP n cs (k + 1) = encP n cs k ++ encC x := by
  simp [encP, List.take_add_one, h]
theorem encP_all {n : Nat} {cs : List CellA} (h : cs.length = n) : encP n cs n = encL cs := by rw [encP, encL, List.take_of_length_le (by omega), h]
theorem encP_len {n : Nat} {cs : List CellA} (h : cs.length = n) (k : Nat) : (encP n cs k).length ≤ (encL cs).length := by
  have e : (encL cs) = encP n cs k ++ (cs.drop k).flatMap encC := by
    rw [encL, encP, List.append_assoc, ← List.flatMap_append, List.take_append_drop, h]
  rw [e, List.length_append]; omega

theorem cellL_sizes {c : CellA} (h : cellL c = true) : c.row.size ≤ 32 ∧ c.col.size ≤ 16 ∧ 1 ≤ c.ver ∧ c.ver ≤ 1099511627776 ∧ c.val.size ≤ 65536 := by
  simp only [cellL, storedL, Bool.and_eq_true, decide_eq_true_eq, size_list] at h
  omega

theorem puttext_l (l : List UInt8) (s : ByteArray) (w : World) (hb : l.length ≤ 1099511627776) (hs : s.size ≤ 1099511627776) :
    Calls Try.prog 36 #[.string (ofL l), .string s] w fun e w' => e = .returned (.string (ofL (l ++ (numL s.size ++ s.toList)))) ∧ Below w.heap.size w w' := by
  have h := puttext_any (ofL l) s w (by rw [ofL_size]; exact hb) hs
  rw [append_ofL, ofL_toList, ofL_toList, List.append_assoc] at h
  exact h
theorem putnumber_l (l : List UInt8) (v : Int) (w : World) (hb : l.length ≤ 1099511627776) (hu : U64 v) :
    Calls Try.prog 35 #[.string (ofL l), .int .u64 v] w fun e w' => e = .returned (.string (ofL (l ++ numW v))) ∧ Below w.heap.size w w' := by
  have h := putnumber_of (ofL l) v w (by rw [ofL_size]; exact hb) hu
  rw [ofL_toList] at h
  exact h
theorem putbyte_l (l : List UInt8) (c : Int) (w : World) (hb : l.length ≤ 1099511627776) (h0 : 0 ≤ c) (h1 : c < 256) :
    Calls Try.prog 37 #[.string (ofL l), .int .u8 c] w fun e w' => e = .returned (.string (ofL (l ++ [UInt8.ofNat c.toNat]))) ∧ Below w.heap.size w w' := by
  have h := putbyte_any (ofL l) c w (by rw [ofL_size]; exact hb) h0 h1
  rw [ofL_toList] at h
  exact h

/-- The bytes of one cell: what the calls tell, the strings between them named. -/
structure Laid (c : CellA) (s1 s2 s3 s4 s5 : ByteArray) : Prop where
  k1 : ∀ W, Calls Try.prog 36 #[.string ⟨#[]⟩, .string c.row] W fun e w' => e = .returned (.string s1) ∧ Below W.heap.size W w'
  k2 : ∀ W, Calls Try.prog 36 #[.string s1, .string c.col] W fun e w' => e = .returned (.string s2) ∧ Below W.heap.size W w'
  k3 : ∀ W, Calls Try.prog 35 #[.string s2, .int .u64 c.ver] W fun e w' => e = .returned (.string s3) ∧ Below W.heap.size W w'
  k4 : ∀ W, Calls Try.prog 37 #[.string s3, .int .u8 (if c.gone then 1 else 0)] W fun e w' => e = .returned (.string s4) ∧ Below W.heap.size W w'
  k5 : ∀ W, Calls Try.prog 36 #[.string s4, .string c.val] W fun e w' => e = .returned (.string s5) ∧ Below W.heap.size W w'
  val : s5.toList = encC c
theorem laid (c : CellA) (h : cellL c = true) : ∃ s1 s2 s3 s4 s5, Laid c s1 s2 s3 s4 s5 := by
  obtain ⟨h1, h2, h3, h4, h5⟩ := cellL_sizes h
  have hu : U64 c.ver := ⟨by omega, by omega⟩
  have hn := numW_len c.ver hu
  have n1 := numL_ten (v := c.row.size) (by omega)
  have n2 := numL_ten (v := c.col.size) (by omega)
  refine ⟨_, _, _, _, _, fun W => puttext_l [] c.row W (by simp) (by omega), fun W => puttext_l _ c.col W ?_ (by omega), fun W => putnumber_l _ c.ver W ?_ hu, fun W => putbyte_l _ (if c.gone then 1 else 0) W ?_ (by split <;> omega) (by split <;> omega), fun W => puttext_l _ c.val W ?_ (by omega), ?_⟩
  all_goals try (simp only [List.length_append, List.length_nil, List.length_singleton, size_list]; omega)
  rw [ofL_toList, encC]
  cases c.gone <;> simp

structure EncRel (w : World) (n : Nat) (cs : List CellA) (k : Nat) (v : Value) (wr : World) : Prop where
  row : Row wr w.heap.size 5 1 v (encP n cs k).length ((encP n cs k).map bval)
  le : (encP n cs k).length ≤ 1048576
  bel : Below w.heap.size w wr

theorem some_any {cs : List CellA} (h : cs.any badC = false) {c : CellA} (hc : c ∈ cs) : cellL c = true := by
  rw [List.any_eq_false] at h
  have := h c hc
  simpa [badC] using this

theorem row_some {w : World} {B : Nat} {e : TypeId} {v : Value} {n : Nat} {xs : List Value} (h : Row w B e 1 v n xs) (h0 : 0 < n) : ∃ g cap, v = .slice (some ⟨g, 0, none⟩) n cap ∧ n ≤ cap ∧ cap ≤ maxLen := by
  rcases h.form with ⟨_, h1⟩ | ⟨g, cap, h1, _, _, h2, h3⟩
  · omega
  · exact ⟨g, cap, h1, h2, h3⟩

set_option maxRecDepth 100000 in
set_option maxHeartbeats 2000000 in
theorem encode_bad (ao : Option Addr) (n cap : Nat) (cs : List CellA) (w : World) (h : Cells w ao n cap cs) (hok : ∀ c ∈ cs, c.Ok) (hb : cs.any badC = true) :
    Calls Try.prog 14 #[.slice ao n cap] w fun e w' => e = .returned (.tuple #[.string ⟨#[]⟩, .int .i64 2]) ∧ Below w.heap.size w w' := by
  have hi := Lib.hid fun W hb => contains_bad ao n cap cs W (Arr.below h hb) hok
  rw [hb] at hi
  clear h hok hb
  go_enter Try.func14, Try.ntmps14
  go_wp2_with (first | (go_at_call 32; refine (hi.out _ (Below.refl _ _)).mono ?_; rintro e w1 ⟨rfl, hb⟩; obtain ⟨hB, hS, hk⟩ := after (B := w.heap.size) (w := w) (by go_grown) (by go_size) hb; clear hb; clear hk))
  go_returns
  exact ⟨rfl, by go_grown⟩

set_option maxRecDepth 100000 in
set_option maxHeartbeats 4000000 in
theorem encode_good (ao : Option Addr) (n cap : Nat) (cs : List CellA) (w : World) (h : Cells w ao n cap cs) (hok : ∀ c ∈ cs, c.Ok) (hb : cs.any badC = false) :
    Calls Try.prog 14 #[.slice ao n cap] w fun e w' => e = .returned (.tuple (if 1048576 < (encL cs).length then #[.string ⟨#[]⟩, .int .i64 3] else #[.string (ofL (encL cs)), .int .i64 0])) ∧ Below w.heap.size w w' := by
  obtain ⟨i0, hi, hz0, hz1, hz2⟩ := info_parts Try.info_u8
  have Hi := Lib.hid hi
  have hcf := Lib.hid fun W hb => contains_bad ao n cap cs W (Arr.below h hb) hok
  rw [hb] at hcf
  have hl := h.len
  have hc1 := Arr.fits h
  have hc2 := Arr.max h
  unfold maxLen at hc2
  have hu : U64 (n : Int) := ⟨by omega, by omega⟩
  have hpn := Lib.hid fun W => putnumber_l [] n W (by simp) hu
  simp only [List.nil_append] at hpn
  have hne : Hid ((numW (n : Int)).length ≤ 10) := Lib.hid (numW_len _ hu)
  have hnw : Hid (numW (n : Int) = numL n) := Lib.hid rfl
  obtain ⟨s0, hs0⟩ : ∃ s, s = ofL (numW (n : Int)) := ⟨_, rfl⟩
  have Hs0 := Lib.hid hs0
  rw [← hs0] at hpn
  have hs0z : s0.size ≤ 10 := by rw [hs0, ofL_size]; exact hne.out
  have Hl := Lib.hid hl
  have H := Lib.hid h
  have Hok := Lib.hid hok
  have Hb := Lib.hid hb
  clear h hl hok hb hi hu hs0
  obtain ⟨R, hR⟩ : ∃ R, R = (if 1048576 < (encL cs).length then #[Value.string ⟨#[]⟩, Value.int .i64 3] else #[Value.string (ofL (encL cs)), Value.int .i64 0]) := ⟨_, rfl⟩
  rw [← hR]
  have HR := Lib.hid hR
  clear hR
  go_enter Try.func14, Try.ntmps14
  go_wp2_with (first | (go_at_call 32; refine (hcf.out _ (Below.refl _ _)).mono ?_; rintro e w1 ⟨rfl, hb⟩; obtain ⟨hB, hS, hk⟩ := after (B := w.heap.size) (w := w) (by go_grown) (by go_size) hb; clear hb; clear hk) | ((go_at_call 35; refine (hpn.out _).mono ?_; rintro e w2 ⟨rfl, hb⟩; obtain ⟨hB, hS, hk⟩ := after (B := w.heap.size) (w := w) (by go_grown) (by go_size) hb; clear hb; clear hk); obtain ⟨vb, wb, hcv, hrow, hbel⟩ := convert_row (P := Try.prog) w2 9 44 5 s0 Try.underlying9 Try.underlying44 Try.underlying5 (by unfold maxLen; omega); have Hrow := Lib.hid (hrow.mono hS); have Hbel := Lib.hid (hB.trans (hbel.mono hS)); clear hrow hbel))
  go_loopw [4, 18] (fun v i wr => ∃ k : Nat, k ≤ n ∧ i = .int .i64 k ∧ Hid (EncRel w n cs k v wr)) (fun _ i _ => n - (intOf i).toNat)
  case atStart =>
    refine ⟨0, by omega, rfl, Lib.hid ⟨?_, ?_, Hbel.out⟩⟩
    · have := Hrow.out
      rw [Hs0.out, ofL_toList, hnw.out] at this
      rw [encP_zero]; exact this
    · rw [encP_zero, ← hnw.out]; have := hne.out; omega
  case round =>
    obtain ⟨k, hk, rfl, hE⟩ := hrel
    by_cases hlt : k < n
    · obtain ⟨x, hx⟩ : ∃ x, cs[k]? = some x := ⟨_, List.getElem?_eq_getElem (by rw [Hl.out]; omega)⟩
      obtain ⟨b, off, rfl, hb, ⟨x0, x1, x2, x3, x4⟩⟩ := Cells.at_ H.out hx
      obtain ⟨k0, k0f⟩ := keep_below hE.out.bel b hb
      have hzr := hE.out.bel.size
      obtain ⟨s1, s2, s3, s4, s5, hK⟩ := laid x (some_any Hb.out (List.mem_of_getElem? hx))
      obtain ⟨L1, hL1⟩ : ∃ L1, L1 = encP n cs (k + 1) := ⟨_, rfl⟩
      have e1 : encP n cs k ++ s5.toList = L1 := by rw [hL1, encP_succ hx, hK.val]
      have hs5 : s5.size ≤ 100000 := by
        have h1 := cellL_sizes (some_any Hb.out (List.mem_of_getElem? hx))
        have h2 := numW_len x.ver ⟨by omega, by omega⟩
        have n1 := numL_ten (v := x.row.size) (by omega)
        have n2 := numL_ten (v := x.col.size) (by omega)
        have n3 := numL_ten (v := x.val.size) (by omega)
        rw [← size_list, hK.val]
        simp only [encC, List.length_append, List.length_singleton, size_list]
        omega
      have hle := hE.out.le
      have hm0 : 0 < L1.length := by
        rw [hL1, encP, List.length_append]; have := numL_pos n; omega
      have hmm : L1.length ≤ 1200000 := by rw [← e1, List.length_append, size_list]; omega
      have hlong : 1048576 < L1.length → 1048576 < (encL cs).length := fun h => by
        have := encP_len Hl.out (k + 1)
        rw [← hL1] at this; omega
      obtain ⟨m, hm⟩ : ∃ m, m = L1.length := ⟨_, rfl⟩
      rw [← hm] at hm0 hmm hlong
      have HK := Lib.hid hK
      have He1 := Lib.hid e1
      have HL1 := Lib.hid hL1
      have Hm := Lib.hid hm
      have Hs5 := Lib.hid (show (encP n cs k).length + s5.size ≤ 140737488355328 by omega)
      have hk4 := HK.out.k4
      obtain ⟨xr, xc, xv, xg, xl⟩ := x
      simp only at x0 x1 x2 x3 x4 hk4
      have Hk4 := Lib.hid hk4
      clear hK e1 hL1 hm hx hs5 hle hk4
      by_cases hbig : 1048576 < m
      · have Hv := Lib.hid (HR.out.trans (if_pos (hlong hbig)))
        clear hlong
        cases xg
        all_goals
          simp only [Bool.false_eq_true, if_false, if_true] at Hk4
          go_wp2_with (first | (go_at_call 36; refine (HK.out.k1 _).mono ?_; rintro e w1 ⟨rfl, hb⟩; obtain ⟨hB, hS, hk⟩ := after (B := wr.heap.size) (w := wr) (by go_grown) (by go_size) hb; clear hb; obtain ⟨c0, f0, z0⟩ := hk (wr.heap.size) (by go_size); clear hk))
          refine wp_region_below (by kernel_rfl) (by kernel_rfl) (fun hkept => ?_)
          obtain ⟨r0, rf0⟩ := hkept (wr.heap.size) (by go_size); clear hkept
          repeat (any_goals (first | go_big_quiet_step (first | (go_at_call 36; exact Calls.regrown_of (HK.out.k2 _)) | (go_at_call 35; exact Calls.regrown_of (HK.out.k3 _))) | quiet_step (first | (go_at_call 36; exact Calls.regrown_of (HK.out.k2 _)) | (go_at_call 35; exact Calls.regrown_of (HK.out.k3 _))) | (refine wpQuiet_step (fun K hK => ?_); go_simp; split <;> (refine hK _ ?_; clear hK K))))
          all_goals (refine wpQuiet_nil ?_; intro w3 hb; obtain ⟨hB, hS, hk⟩ := after (B := wr.heap.size) (w := wr) (by go_grown) (by go_size) hb; obtain ⟨c0, f0, z0⟩ := hk (wr.heap.size) (by go_size); clear hk hb r0 rf0)
          go_wp2
          refine wp_region_below_mix 1 7 (by kernel_rfl) (by kernel_rfl) (fun hkept => ?_)
          obtain ⟨r0, rf0⟩ := hkept (wr.heap.size) (by go_size); clear hkept
          simp only [List.take_succ_cons, List.take_zero, List.drop_succ_cons, List.drop_zero]
          refine wpPure_move _ rfl rfl (fun K' hK' => ?_); go_simp; refine hK' _ ?_; clear hK' K'
          refine wpPure_nil ?_
          repeat (any_goals (first | go_big_quiet_step (first | (go_at_call 37; exact Calls.regrown_of (Hk4.out _)) | (go_at_call 36; exact Calls.regrown_of (HK.out.k5 _))) | quiet_step (first | (go_at_call 37; exact Calls.regrown_of (Hk4.out _)) | (go_at_call 36; exact Calls.regrown_of (HK.out.k5 _))) | (refine wpQuiet_step (fun K hK => ?_); go_simp; split <;> (refine hK _ ?_; clear hK K))))
          all_goals (refine wpQuiet_nil ?_; intro w5 hb; obtain ⟨hB, hS, hk⟩ := after (B := wr.heap.size) (w := wr) (by go_grown) (by go_size) hb; obtain ⟨c0, f0, z0⟩ := hk (wr.heap.size) (by go_size); clear hk hb r0 rf0)
          go_wp2_with (at_builtin; refine wpList_append_str w5 rfl _ _ 44 9 rfl w.heap.size 5 i0 Try.underlying44 Try.underlying9 Hi.out hz0 hz1 hz2 u4 _ rfl (hE.out.row.below hB) s5 rfl Hs5.out (Nat.le_trans hzr hS) ?_; intro v1 w6 hrow hbel; rw [He1.out, ← Hm.out] at hrow; obtain ⟨g, cap1, rfl, hc3, hc4⟩ := row_some hrow hm0; unfold maxLen at hc4; have Hrow1 := Lib.hid hrow; have Hbel1 := Lib.hid (hE.out.bel.trans ((hB.mono hzr).trans hbel)); clear hrow hbel)
          refine NoPanic.normal ?_
          go_wp2
          go_returns
          exact ⟨by rw [Hv.out]; rfl, Hbel1.out⟩
      · clear hlong
        cases xg
        all_goals
          simp only [Bool.false_eq_true, if_false, if_true] at Hk4
          go_wp2_with (first | (go_at_call 36; refine (HK.out.k1 _).mono ?_; rintro e w1 ⟨rfl, hb⟩; obtain ⟨hB, hS, hk⟩ := after (B := wr.heap.size) (w := wr) (by go_grown) (by go_size) hb; clear hb; obtain ⟨c0, f0, z0⟩ := hk (wr.heap.size) (by go_size); clear hk))
          refine wp_region_below (by kernel_rfl) (by kernel_rfl) (fun hkept => ?_)
          obtain ⟨r0, rf0⟩ := hkept (wr.heap.size) (by go_size); clear hkept
          repeat (any_goals (first | go_big_quiet_step (first | (go_at_call 36; exact Calls.regrown_of (HK.out.k2 _)) | (go_at_call 35; exact Calls.regrown_of (HK.out.k3 _))) | quiet_step (first | (go_at_call 36; exact Calls.regrown_of (HK.out.k2 _)) | (go_at_call 35; exact Calls.regrown_of (HK.out.k3 _))) | (refine wpQuiet_step (fun K hK => ?_); go_simp; split <;> (refine hK _ ?_; clear hK K))))
          all_goals (refine wpQuiet_nil ?_; intro w3 hb; obtain ⟨hB, hS, hk⟩ := after (B := wr.heap.size) (w := wr) (by go_grown) (by go_size) hb; obtain ⟨c0, f0, z0⟩ := hk (wr.heap.size) (by go_size); clear hk hb r0 rf0)
          go_wp2
          refine wp_region_below_mix 1 7 (by kernel_rfl) (by kernel_rfl) (fun hkept => ?_)
          obtain ⟨r0, rf0⟩ := hkept (wr.heap.size) (by go_size); clear hkept
          simp only [List.take_succ_cons, List.take_zero, List.drop_succ_cons, List.drop_zero]
          refine wpPure_move _ rfl rfl (fun K' hK' => ?_); go_simp; refine hK' _ ?_; clear hK' K'
          refine wpPure_nil ?_
          repeat (any_goals (first | go_big_quiet_step (first | (go_at_call 37; exact Calls.regrown_of (Hk4.out _)) | (go_at_call 36; exact Calls.regrown_of (HK.out.k5 _))) | quiet_step (first | (go_at_call 37; exact Calls.regrown_of (Hk4.out _)) | (go_at_call 36; exact Calls.regrown_of (HK.out.k5 _))) | (refine wpQuiet_step (fun K hK => ?_); go_simp; split <;> (refine hK _ ?_; clear hK K))))
          all_goals (refine wpQuiet_nil ?_; intro w5 hb; obtain ⟨hB, hS, hk⟩ := after (B := wr.heap.size) (w := wr) (by go_grown) (by go_size) hb; obtain ⟨c0, f0, z0⟩ := hk (wr.heap.size) (by go_size); clear hk hb r0 rf0)
          go_wp2_with (at_builtin; refine wpList_append_str w5 rfl _ _ 44 9 rfl w.heap.size 5 i0 Try.underlying44 Try.underlying9 Hi.out hz0 hz1 hz2 u4 _ rfl (hE.out.row.below hB) s5 rfl Hs5.out (Nat.le_trans hzr hS) ?_; intro v1 w6 hrow hbel; rw [He1.out, ← Hm.out] at hrow; obtain ⟨g, cap1, rfl, hc3, hc4⟩ := row_some hrow hm0; unfold maxLen at hc4; have Hrow1 := Lib.hid hrow; have Hbel1 := Lib.hid (hE.out.bel.trans ((hB.mono hzr).trans hbel)); clear hrow hbel)
          refine NoPanic.normal ?_
          go_wp2
          refine ⟨⟨k + 1, by omega, by go_num, Lib.hid ⟨by rw [← HL1.out, ← Hm.out]; exact Hrow1.out, by rw [← HL1.out, ← Hm.out]; omega, Hbel1.out⟩⟩, by simp [intOf]; omega⟩
    · obtain rfl : k = n := by omega
      have hr0 := hE.out.row
      have hle := hE.out.le
      rw [encP_all Hl.out] at hr0 hle
      have hcb := convert_back (P := Try.prog) wr 44 9 5 w.heap.size u4 _ Try.underlying44 Try.underlying5 Try.underlying9 hr0
      have Hv := Lib.hid (HR.out.trans (if_neg (by omega)))
      clear hr0 hle
      go_wp2
      go_returns
      exact ⟨by rw [Hv.out]; rfl, hE.out.bel⟩
end Go.Proofs.Ytjalccnkfpjchaa
