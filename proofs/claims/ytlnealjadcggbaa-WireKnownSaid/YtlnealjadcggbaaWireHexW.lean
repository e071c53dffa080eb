/-
  The walks of wire.Hex, wire.Unhex.
-/
import Derived.Test.YtlnealjadcggbaaWirePutW
import Derived.Lib.Bytealg
namespace Go.Proofs.Ytlnealjadcggbaa
open Go.RowKit

def hexD (n : Nat) : UInt8 := if n < 10 then UInt8.ofNat (48 + n) else UInt8.ofNat (87 + n)
def hexL (l : List UInt8) : List UInt8 := l.flatMap fun c => [hexD (c.toNat / 16), hexD (c.toNat % 16)]
theorem hexL_len (l : List UInt8) : (hexL l).length = 2 * l.length := by
  induction l with
  | nil => rfl
  | cons c l ih => simp only [hexL, List.flatMap_cons, List.length_append, List.length_cons, List.length_nil] at ih ⊢; omega
theorem hexL_snoc (l : List UInt8) (c : UInt8) : hexL (l ++ [c]) = hexL l ++ [hexD (c.toNat / 16), hexD (c.toNat % 16)] := by simp [hexL]

theorem digit_at (n : Nat) (h : n < 16) : (⟨#[48, 49, 50, 51, 52, 53, 54, 55, 56, 57, 97, 98, 99, 100, 101, 102]⟩ : ByteArray)[n]? = some (hexD n) := by
  have : ∀ y : Fin 16, (⟨#[48, 49, 50, 51, 52, 53, 54, 55, 56, 57, 97, 98, 99, 100, 101, 102]⟩ : ByteArray)[y.val]? = some (hexD y.val) := by decide +kernel
  exact this ⟨n, h⟩

theorem idx_digit (n : Nat) (h : n < 16) (k : IntKind) (i : Int) (hi : i = n) (w : World) :
    (Instr.index 9 (.string ⟨#[48, 49, 50, 51, 52, 53, 54, 55, 56, 57, 97, 98, 99, 100, 101, 102]⟩) (.int k i)).run Try.prog w = .ok (.int .u8 (hexD n).toNat) w := by
  subst hi
  rw [run_index_string (w := w) (P := Try.prog) (h := Try.underlying9)]
  have hsz : (⟨#[48, 49, 50, 51, 52, 53, 54, 55, 56, 57, 97, 98, 99, 100, 101, 102]⟩ : ByteArray).size = 16 := rfl
  rw [dif_pos ⟨by omega, by rw [hsz]; omega⟩]
  have h1 := digit_at n h
  rw [ByteArray.getElem?_lt' _ _ (by rw [hsz]; exact h)] at h1
  simp only [Int.toNat_natCast]
  rw [Option.some.inj h1]

theorem toList_get (s : ByteArray) (k : Nat) (h : k < s.toList.length) : s.toList[k] = s[k]'(by rw [← size_list]; exact h) := by
  simp only [Lib.toList_data, Array.getElem_toList]; rfl

/-- Hex after k bytes. -/
structure HexRel (s : ByteArray) (w : World) (k : Nat) (v : Value) (wr : World) : Prop where
  row : Row wr w.heap.size 5 1 v (hexL (s.toList.take k)).length ((hexL (s.toList.take k)).map bval)
  bel : Below w.heap.size w wr

set_option maxRecDepth 100000 in
set_option maxHeartbeats 2000000 in
theorem hex_any (s : ByteArray) (w : World) (hs : s.size ≤ 1099511627776) :
    Calls Try.prog 16 #[.string s] w fun e w' => e = .returned (.string (ofL (hexL s.toList))) ∧ Below w.heap.size w w' := by
  obtain ⟨i0, hi, hz0, hz1, hz2⟩ := info_parts Try.info_u8
  have Hi := Lib.hid hi
  have Hs := Lib.hid hs
  clear hi
  go_enter Try.func16, Try.ntmps16
  go_wp2_with (at_make; refine wpList_make_own w rfl _ _ 41 rfl w.heap.size 5 i0 (.int .u8 0) 1 Try.underlying41 Hi.out hz0 hz1 _ _ _ (2 * s.size) rfl rfl (by have := Hs.out; omega) (by rw [hz2]; have := Hs.out; omega) (by unfold maxLen; have := Hs.out; omega) (Nat.le_refl _) ?_; intro w1 hown hgrow; have Hr := Lib.hid (Row.of_own hown); have Hg := Lib.hid ((Below.refl w.heap.size w).grown hgrow (Nat.le_refl _) (fun k hk => by cases hk)); clear hown hgrow)
  go_loopw [3, 11] (fun v i wr => ∃ k : Nat, k ≤ s.size ∧ i = .int .i64 k ∧ Hid (HexRel s w k v wr)) (fun _ i _ => s.size - (intOf i).toNat)
  case atStart => exact ⟨0, Nat.zero_le _, rfl, ⟨by simpa [hexL] using Hr.out, Hg.out⟩⟩
  case round =>
    obtain ⟨k, hk, rfl, hr⟩ := hrel
    by_cases hlt : k < s.size
    · have hc := (s[k]).toNat_lt
      have hd1 := idx_digit ((s[k]).toNat / 16) (by omega) .u8 (((s[k]).toNat : Int) / 16) (by omega)
      have hd2 := idx_digit ((s[k]).toNat % 16) (by omega) .u8 (((s[k]).toNat : Int) % 16) (by omega)
      have ha := u8_and15 (x := ((s[k]).toNat : Int)) (by omega) (by omega)
      have hb0 := hr.out.bel.size
      go_wp2
      refine wp_region_below_mix 1 11 (by kernel_rfl) (by kernel_rfl) (fun hkept => ?_)
      clear hkept
      simp only [List.take_succ_cons, List.take_zero, List.drop_succ_cons, List.drop_zero]
      refine wpPure_move _ rfl rfl (fun K' hK' => ?_); go_simp; refine hK' _ ?_; clear hK' K'
      refine wpPure_nil ?_
      repeat (any_goals (first | go_big_quiet_step (fail) | quiet_step (fail) | (refine wpQuiet_step (fun K hK => ?_); go_simp; split <;> (refine hK _ ?_; clear hK K))))
      all_goals (refine wpQuiet_nil ?_; intro w5 hb; obtain ⟨hB, hS, hk⟩ := after (B := wr.heap.size) (w := wr) (by go_grown) (by go_size) hb; clear hk hb)
      go_wp2_with (at_builtin; refine wpList_append_bytes w5 rfl _ _ 41 rfl w.heap.size 5 _ i0 Try.underlying41 Hi.out hz0 hz1 hz2 u3 _ rfl (hr.out.row.below hB) [hexD ((s[k]).toNat / 16), hexD ((s[k]).toNat % 16)] 2 rfl rfl (by rw [hexL_len, List.length_take]; omega) (Nat.le_trans hb0 hS) ?_; intro v1 w6 hrow hbel hgrow; have Hrow := Lib.hid hrow; have Hbel := Lib.hid (hr.out.bel.trans ((hB.mono hb0).trans hbel)); clear hrow hbel hgrow)
      refine NoPanic.normal ?_
      go_wp2
      refine ⟨⟨k + 1, by omega, by go_num, Lib.hid ⟨?_, Hbel.out⟩⟩, by simp [intOf]; omega⟩
      have hsn : s.toList.take (k + 1) = s.toList.take k ++ [s[k]] := by
        rw [List.take_succ_eq_append_getElem (by rw [size_list]; exact hlt), toList_get]
      have hx := Hrow.out
      rw [hsn, hexL_snoc]
      simpa [bval] using hx
    · have hkk : k = s.size := by omega
      subst hkk
      have hall : s.toList.take s.size = s.toList := List.take_of_length_le (by rw [size_list]; omega)
      have hr0 := hr.out.row
      rw [hall] at hr0
      have hcb := convert_back (P := Try.prog) wr 41 9 5 w.heap.size u3 _ Try.underlying41 Try.underlying5 Try.underlying9 hr0
      go_wp2
      go_ret
      exact ⟨rfl, hr.out.bel⟩

end Go.Proofs.Ytlnealjadcggbaa
