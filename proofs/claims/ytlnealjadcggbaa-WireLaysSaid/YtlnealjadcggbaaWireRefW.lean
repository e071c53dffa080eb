/-
  The walks of the document's answers for wire (acreageref01).
-/
import Derived.Test.YtlnealjadcggbaaWireOnceW
namespace Go.Proofs.Ytlnealjadcggbaa
open Go.RowKit

set_option maxHeartbeats 400000 in
theorem half_any (c : UInt8) (w : World) :
    Calls Try.prog 26 #[.int .u8 (c.toNat : Int)] w fun e w' => e = .returned (.int .u8 (halfN c : Int)) ∧ w = w' := by
  have hc := c.toNat_lt
  go_enter Try.func26, Try.ntmps26
  go_wp2
  all_goals (go_ret; exact ⟨ret_int (by grind [halfN]), rfl⟩)

theorem conv_one (c : Int) (h0 : 0 ≤ c) (h1 : c < 256) (w : World) :
    (convert 41 9 (.slice (some ⟨w.heap.size, 0, none⟩) 1 1)).run Try.prog (w.alloc (.cells #[.int .u8 c] 5)) = .ok (.string (ofL [UInt8.ofNat c.toNat])) (w.alloc (.cells #[.int .u8 c] 5)) := by
  refine run_convert_bytes_back _ _ _ 5 ⟨w.heap.size, 0, none⟩ 1 [UInt8.ofNat c.toNat] Try.underlying41 Try.underlying5 Try.underlying9 fun j hj => ?_
  have hj0 : j = 0 := by simpa using hj
  subst hj0
  have := bval_of c h0 h1
  unfold bval at this
  go_simp
  omega

theorem conv_ex (c : Int) (h0 : 0 ≤ c) (h1 : c < 256) (w : World) :
    ∃ o : ByteArray, o.size ≤ 1 ∧ Hid (o = ofL [UInt8.ofNat c.toNat]) ∧ (convert 41 9 (.slice (some ⟨w.heap.size, 0, none⟩) 1 1)).run Try.prog (w.alloc (.cells #[.int .u8 c] 5)) = .ok (.string o) (w.alloc (.cells #[.int .u8 c] 5)) :=
  ⟨_, by rw [ofL_size]; simp, rfl, conv_one c h0 h1 w⟩

set_option maxRecDepth 100000 in
theorem wrap_div (x : Nat) (h : x < 2 ^ 64) : IntKind.u64.wrap ((x : Int) / 128) = (x : Int) / 128 := by rw [IntKind.wrap_u64]; omega

/-- The loop of Number: what has been laid, what is still to lay. -/
structure RNumRel (v0 : Nat) (w : World) (s : ByteArray) (x : Nat) (wr : World) : Prop where
  sum : s.toList ++ numL x = numL v0
  le : x ≤ v0
  bel : Below w.heap.size w wr

set_option maxRecDepth 100000 in
set_option maxHeartbeats 2000000 in
theorem refnumber_any (v : Int) (w : World) (hu : U64 v) :
    Calls Try.prog 19 #[.int .u64 v] w fun e w' => e = .returned (.string (ofL (numW v))) ∧ Below w.heap.size w w' := by
  obtain ⟨v0, rfl⟩ := Int.eq_ofNat_of_zero_le hu.1
  go_enter Try.func19, Try.ntmps19
  go_wp2
  go_loopw [3, 0] (fun s v wr => ∃ (x : Nat) (b : ByteArray), v = .int .u64 x ∧ s = .string b ∧ Hid (RNumRel v0 w b x wr)) (fun _ v _ => (intOf v).toNat)
  case atStart => exact ⟨v0, ⟨#[]⟩, rfl, rfl, ⟨by simp [Lib.toList_data], Nat.le_refl _, by go_grown⟩⟩
  case round =>
    obtain ⟨x, b, rfl, rfl, hr⟩ := hrel
    have hlen := numL_ten hu.lt
    have hsum := congrArg List.length hr.out.sum
    simp only [List.length_append, size_list] at hsum
    have hb0 := hr.out.bel
    have hz0 := hb0.size
    by_cases hlt : x < 128
    · obtain ⟨o, ho, hoo, hcv⟩ := conv_ex x (by omega) (by omega) wr
      have hfin : ofL (numW v0) = b ++ o := by
        rw [hoo.out, append_ofL, ofL_toList, numW, Int.toNat_natCast, ← hr.out.sum, numL_small hlt, Int.toNat_natCast]
      have hb1 : b.size ≤ 10 := by omega
      have Hfin := Lib.hid hfin
      have Hb0 := Lib.hid hb0
      clear hsum hfin hb0 hr
      go_wp2
      go_ret
      exact ⟨ret_str Hfin.out.symm, Hb0.out.trans (((Below.refl _ _).alloc (Nat.le_refl _) _).mono hz0)⟩
    · have hge : 128 ≤ x := by omega
      have hwr := wrap_div x (Nat.lt_of_le_of_lt hr.out.le hu.lt)
      obtain ⟨o, ho, hoo, hcv⟩ := conv_ex ((x : Int) % 128 + 128) (by omega) (by omega) wr
      have hb1 : b.size ≤ 10 := by omega
      have hnx : RNumRel v0 w (b ++ o) (x / 128) (wr.alloc (.cells #[.int .u8 ((x : Int) % 128 + 128)] 5)) := by
        refine ⟨?_, by have := hr.out.le; omega, hb0.trans (((Below.refl _ _).alloc (Nat.le_refl _) _).mono hz0)⟩
        rw [hoo.out, append_ofL, ofL_toList, ofL_toList, ← hr.out.sum, numL_big hge, show ((x : Int) % 128 + 128).toNat = x % 128 + 128 by omega]
        simp
      have Hnx := Lib.hid hnx
      clear hsum hb0 hr hnx
      go_wp2
      go_roundw
      case rel => exact ⟨x / 128, _, by go_num, rfl, Hnx.out⟩
      case measure => simp [intOf]; omega

theorem textW (s : ByteArray) : (ofL (numW (s.size : Int)) ++ s) = ofL (textB s.toList) := by
  rw [append_ofL, ofL_toList, textB, size_list, numW, Int.toNat_natCast]

set_option maxHeartbeats 1000000 in
theorem reftext_any (s : ByteArray) (w : World) (hs : s.size ≤ 1099511627776) :
    Calls Try.prog 20 #[.string s] w fun e w' => e = .returned (.string (ofL (textB s.toList))) ∧ Below w.heap.size w w' := by
  have hu : U64 s.size := ⟨by omega, by omega⟩
  obtain ⟨o, ho⟩ : ∃ o, o = ofL (numW (s.size : Int)) := ⟨_, rfl⟩
  have hosz : o.size ≤ 10 := by rw [ho, ofL_size]; exact numW_len _ hu
  have hfin := Lib.hid (textW s)
  rw [← ho] at hfin
  have K : Hid (∀ w, Calls Try.prog 19 #[.int .u64 (s.size : Int)] w fun e w' => e = .returned (.string o) ∧ Below w.heap.size w w') := Lib.hid fun w => by rw [ho]; exact refnumber_any _ w hu
  clear ho
  go_enter Try.func20, Try.ntmps20
  go_wp2_with (go_at_call 19; refine (K.out _).mono ?_; rintro e w1 ⟨rfl, hb⟩; obtain ⟨hB, hS, hk⟩ := after (B := w.heap.size) (w := w) (by go_grown) (by go_size) hb; clear hb; clear hk)
  go_ret
  exact ⟨ret_str hfin.out, hB⟩

set_option maxRecDepth 100000 in
set_option maxHeartbeats 2000000 in
theorem refhex_any (s : ByteArray) (w : World) (hs : s.size ≤ 1099511627776) :
    Calls Try.prog 21 #[.string s] w fun e w' => e = .returned (.string (ofL (hexL s.toList))) ∧ Below w.heap.size w w' := by
  obtain ⟨i0, hi, hz0, hz1, hz2⟩ := info_parts Try.info_u8
  have Hi := Lib.hid hi
  have Hs := Lib.hid hs
  clear hi
  go_enter Try.func21, Try.ntmps21
  go_wp2
  go_loopw [3, 4] (fun v i wr => ∃ k : Nat, k ≤ s.size ∧ i = .int .i64 k ∧ Hid (HexRel s w k v wr)) (fun _ i _ => s.size - (intOf i).toNat)
  case atStart => exact ⟨0, Nat.zero_le _, rfl, ⟨by simpa [hexL] using Row.nil w w.heap.size 5 1, by go_grown⟩⟩
  case round =>
    obtain ⟨k, hk, rfl, hr⟩ := hrel
    by_cases hlt : k < s.size
    · have hc := (s[k]).toNat_lt
      have hd1 := idx_digit ((s[k]).toNat / 16) (by omega) .u8 (((s[k]).toNat : Int) / 16) (by omega)
      have hd2 := idx_digit ((s[k]).toNat % 16) (by omega) .u8 (((s[k]).toNat : Int) % 16) (by omega)
      have hb0 := hr.out.bel.size
      go_wp2
      refine wp_region_below_mix 1 11 (by kernel_rfl) (by kernel_rfl) (fun hkept => ?_)
      clear hkept
      simp only [List.take_succ_cons, List.take_zero, List.drop_succ_cons, List.drop_zero]
      refine wpPure_move _ rfl rfl (fun K' hK' => ?_); go_simp; refine hK' _ ?_; clear hK' K'
      refine wpPure_nil ?_
      repeat (any_goals (first | go_big_quiet_step (fail) | quiet_step (fail) | (refine wpQuiet_step (fun K hK => ?_); go_simp; split <;> (refine hK _ ?_; clear hK K))))
      all_goals (refine wpQuiet_nil ?_; intro w5 hb; obtain ⟨hB, hS, hk⟩ := after (B := wr.heap.size) (w := wr) (by go_grown) (by go_size) hb; clear hk hb)
      go_wp2_with (at_builtin; refine wpList_append_bytes w5 rfl _ _ 41 rfl w.heap.size 5 _ i0 Try.underlying41 Hi.out hz0 hz1 hz2 u3 _ rfl (hr.out.row.below hB) [hexD ((s[k]).toNat / 16), hexD ((s[k]).toNat % 16)] 2 rfl rfl (by rw [hexL_len, List.length_take]; omega) (Nat.le_trans hb0 hS) ?_; intro v1 w6 hrow hbel hgrow; have Hrow := Lib.hid hrow; have Hbel := Lib.hid (hr.out.bel.trans ((hB.mono hb0).trans hbel)); clear hrow hbel hgrow)
      refine NoPanic.normal ?_
      have hsn : s.toList.take (k + 1) = s.toList.take k ++ [s[k]] := by
        rw [List.take_succ_eq_append_getElem (by rw [size_list]; exact hlt), toList_get]
      have hx := Hrow.out
      rw [← hexL_snoc, ← hsn] at hx
      have Hn := Lib.hid (HexRel.mk hx Hbel.out)
      clear hx hsn
      go_wp2
      go_roundw
      case rel => exact ⟨k + 1, by omega, by go_num, Hn.out⟩
      case measure => simp [intOf]; omega
    · have hkk : k = s.size := by omega
      subst hkk
      have hall : s.toList.take s.size = s.toList := List.take_of_length_le (by rw [size_list]; omega)
      have hr0 := hr.out.row
      rw [hall] at hr0
      have hcb := convert_back (P := Try.prog) wr 41 9 5 w.heap.size u3 _ Try.underlying41 Try.underlying5 Try.underlying9 hr0
      go_wp2
      go_ret
      exact ⟨rfl, hr.out.bel⟩

set_option maxRecDepth 100000 in
set_option maxHeartbeats 2000000 in
theorem refunhex_any (s : ByteArray) (w : World) (hs : s.size ≤ 1099511627776) :
    Calls Try.prog 17 #[.string s] w fun e w' => e = .returned (.tuple #[.string (unhexB s), .bool (unhexIs s)]) ∧ Below w.heap.size w w' := by
  obtain ⟨i0, hi, hz0, hz1, hz2⟩ := info_parts Try.info_u8
  have Hi := Lib.hid hi
  have Hs := Lib.hid hs
  clear hi
  by_cases hodd : s.size % 2 = 1
  · obtain ⟨hb, hi⟩ := unhex_none (unhexL_odd s.toList (by rw [size_list]; exact hodd))
    have hq : ((s.size : Int) % 2 != 0) = true := by simp; omega
    go_enter Try.func17, Try.ntmps17
    go_wp2
    go_ret2
    exact ⟨ret_val (by rw [hb, hi]; rfl), Below.refl _ _⟩
  · have hev : s.size % 2 = 0 := by omega
    have hq : ((s.size : Int) % 2 != 0) = false := by simp; omega
    go_enter Try.func17, Try.ntmps17
    go_wp2
    go_loopw [4, 5] (fun v i wr => ∃ (k : Nat) (l : List UInt8), k ≤ s.size ∧ i = .int .i64 k ∧ Hid (UnhexRel s w k v l wr)) (fun _ i _ => s.size - (intOf i).toNat)
    case atStart => exact ⟨0, [], Nat.zero_le _, rfl, ⟨Row.nil w w.heap.size 5 1, rfl, rfl, by go_grown⟩⟩
    case round =>
      obtain ⟨k, l, hk, rfl, hr⟩ := hrel
      have hkl := hr.out.len
      by_cases hlt : k < s.size
      · have hlt1 : k + 1 < s.size := by omega
        have hb0 := hr.out.bel.size
        have hs1 := idx_str s (k + 1) hlt1 .i64 ((k : Int) + 1) (by omega)
        go_wp2
        refine wp_region_below (by kernel_rfl) (by kernel_rfl) (fun hkept => ?_)
        clear hkept
        repeat (any_goals (first | go_big_quiet_step (first | (go_at_call 26; exact Calls.regrown_of ((same_below (half_any _ _))))) | quiet_step (first | (go_at_call 26; exact Calls.regrown_of ((same_below (half_any _ _))))) | (refine wpQuiet_step (fun K hK => ?_); go_simp; split <;> (refine hK _ ?_; clear hK K))))
        all_goals (refine wpQuiet_nil ?_; intro w5 hb; obtain ⟨hB, hS, hk⟩ := after (B := wr.heap.size) (w := wr) (by go_grown) (by go_size) hb; clear hk hb)
        have hx6 := halfN_le s[k]
        have hy6 := halfN_le s[k + 1]
        by_cases hbad : halfN s[k] ≤ 15 ∧ halfN s[k + 1] ≤ 15
        · have hg := Lib.hid (hr.out.good hlt1 hbad)
          obtain ⟨x, hx⟩ : ∃ x, x = halfN s[k] := ⟨_, rfl⟩
          obtain ⟨y, hy⟩ : ∃ y, y = halfN s[k + 1] := ⟨_, rfl⟩
          rw [← hx, ← hy] at hg hbad ⊢
          obtain ⟨hx1, hy1⟩ := hbad
          clear hx hy hs1 hx6 hy6
          have hnat : ((x : Int) * 16 + y).toNat = x * 16 + y := by omega
          go_wp2_with (at_builtin; refine wpList_append_byte w5 rfl _ _ 41 rfl w.heap.size 5 _ i0 Try.underlying41 Hi.out hz0 hz1 hz2 u4 l rfl (hr.out.row.below hB) ((x : Int) * 16 + y) (by omega) (by omega) rfl (by have := Hs.out; omega) (Nat.le_trans hb0 hS) ?_; intro v1 w6 hrow1 hbel1 hgrow1; rw [hnat] at hrow1; have Hrow := Lib.hid hrow1; have Hbel := Lib.hid (hr.out.bel.trans ((hB.mono hb0).trans hbel1)); clear hrow1 hbel1 hgrow1)
          go_roundw
          case rel => exact ⟨k + 2, _, by omega, by go_num, Lib.hid ⟨Hrow.out, hg.out, by rw [List.length_append, List.length_singleton]; omega, Hbel.out⟩⟩
          case measure => simp [intOf]; omega
        · obtain ⟨eb, ei⟩ := unhex_none (hr.out.bad hlt1 hbad)
          by_cases hx1 : halfN s[k] ≤ 15
          · have hy1 : halfN s[k + 1] = 16 := by omega
            rw [hy1]
            clear hy6 hy1 hbad
            go_wp2
            go_ret2
            exact ⟨ret_val (by rw [eb, ei]; rfl), hr.out.bel.trans (hB.mono hb0)⟩
          · have hx2 : halfN s[k] = 16 := by omega
            rw [hx2]
            clear hx6 hx1 hx2 hbad
            go_wp2
            go_ret2
            exact ⟨ret_val (by rw [eb, ei]; rfl), hr.out.bel.trans (hB.mono hb0)⟩
      · have hkk : k = s.size := by omega
        subst hkk
        have hall : s.toList.take s.size = s.toList := List.take_of_length_le (by rw [size_list]; omega)
        have hu := hr.out.all
        rw [hall] at hu
        obtain ⟨eb, ei⟩ := unhex_some hu
        have hr0 := hr.out.row
        have hcb := convert_back (P := Try.prog) wr 41 9 5 w.heap.size u4 _ Try.underlying41 Try.underlying5 Try.underlying9 hr0
        have hub := Lib.hid hr.out.bel
        clear hu hall hr0
        go_wp2
        go_ret2
        exact ⟨ret_val (by rw [eb, ei]; rfl), hub.out⟩

end Go.Proofs.Ytlnealjadcggbaa
