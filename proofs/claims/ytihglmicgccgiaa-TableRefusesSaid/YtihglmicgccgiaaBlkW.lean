/-
  block.alike, two, lay; the document's alike, two, one.
-/
import Derived.Test.YtihglmicgccgiaaBldW
import Derived.Test.YtihglmicgccgiaaBlkPlain
import Derived.Test.YtihglmicgccgiaaRReadW
import Derived.Deep.DeepCutAuto
namespace Go.Proofs.Ytihglmicgccgiaa
open Go.RowKit

theorem ptL (l : List UInt8) (s : ByteArray) (w : World) (hb : l.length ≤ 1099511627776) (hs : s.size ≤ 1099511627776) :
    Calls Try.prog 46 #[.string (ofL l), .string s] w fun e w' => e = .returned (.string (ofL (l ++ txtL s.toList))) ∧ Below w.heap.size w w' := by
  have h := puttext_any (ofL l) s w (by rw [ofL_size]; exact hb) hs
  rw [append_ofL, ofL_toList, ofL_toList, List.append_assoc, ← size_list s] at h
  exact h
theorem pnL (l : List UInt8) (v : Int) (w : World) (hb : l.length ≤ 1099511627776) (hu : U64 v) :
    Calls Try.prog 44 #[.string (ofL l), .int .u64 v] w fun e w' => e = .returned (.string (ofL (l ++ numW v))) ∧ Below w.heap.size w w' := by
  have h := putnumber_of (ofL l) v w (by rw [ofL_size]; exact hb) hu
  rw [ofL_toList] at h
  exact h
theorem pbL (l : List UInt8) (c : Int) (w : World) (hb : l.length ≤ 1099511627776) (h0 : 0 ≤ c) (h1 : c < 256) :
    Calls Try.prog 75 #[.string (ofL l), .int .u8 c] w fun e w' => e = .returned (.string (ofL (l ++ [UInt8.ofNat c.toNat]))) ∧ Below w.heap.size w w' := by
  have h := putbyte_any (ofL l) c w (by rw [ofL_size]; exact hb) h0 h1
  rw [ofL_toList] at h
  exact h
theorem byte_at {a : ByteArray} {k : Nat} (h : k < a.size) : a.toList[k]? = some a[k] := by
  rw [Lib.toList_data, List.getElem?_eq_getElem (by simpa using h)]
  rfl

set_option maxRecDepth 100000 in
set_option maxHeartbeats 2000000 in
theorem alike_any (a b : ByteArray) (w : World) (ha : a.size ≤ maxLen) (hb : b.size ≤ maxLen) :
    Calls Try.prog 74 #[.string a, .string b] w fun e w' => e = .returned (.int .i64 (alikeL a.toList b.toList)) ∧ Below w.heap.size w w' := by
  unfold maxLen at ha hb
  obtain ⟨R, hR⟩ : ∃ R, R = alikeL a.toList b.toList := ⟨_, rfl⟩
  rw [← hR]
  have HE : Hid (∀ k, a.toList.take k = b.toList.take k → k ≤ a.size → k ≤ b.size → (a.size ≤ k ∨ b.size ≤ k) → R = k) := Lib.hid fun k h1 h2 h3 h4 => hR.trans (alikeL_end h1 (by rw [size_list]; exact h2) (by rw [size_list]; exact h3) (by rw [size_list, size_list]; exact h4))
  have HN : Hid (∀ k (h1 : k < a.size) (h2 : k < b.size), a.toList.take k = b.toList.take k → (a[k] = b[k] → a.toList.take (k + 1) = b.toList.take (k + 1)) ∧ (a[k] ≠ b[k] → R = k)) := Lib.hid fun k h1 h2 h3 => ⟨(alikeL_next h3 (byte_at h1) (byte_at h2)).1, fun h => hR.trans ((alikeL_next h3 (byte_at h1) (byte_at h2)).2 h)⟩
  clear hR
  go_enter Try.func74, Try.ntmps74
  go_wp2
  go_loopw [5] (fun i wr => ∃ k : Nat, k ≤ a.size ∧ k ≤ b.size ∧ Hid (a.toList.take k = b.toList.take k) ∧ i = .int .i64 k ∧ Hid (Below w.heap.size w wr)) (fun i _ => a.size - (intOf i).toNat)
  case atStart => exact ⟨0, by omega, by omega, Lib.hid rfl, rfl, Lib.hid (Below.refl _ _)⟩
  case round =>
    obtain ⟨k, hk1, hk2, ht, rfl, hD⟩ := hrel
    have hz := hD.out.size
    by_cases h1 : k < a.size
    · by_cases h2 : k < b.size
      · obtain ⟨n1, n2⟩ := HN.out k h1 h2 ht.out
        have i1 := fun W => idx_at a k h1 .i64 k rfl W
        have i2 := fun W => idx_at b k h2 .i64 k rfl W
        obtain ⟨x, hx⟩ : ∃ x, x = a[k] := ⟨_, rfl⟩
        obtain ⟨y, hy⟩ : ∃ y, y = b[k] := ⟨_, rfl⟩
        rw [← hx, ← hy] at n1 n2
        rw [← hx] at i1
        rw [← hy] at i2
        clear hx hy
        by_cases h3 : x = y
        · subst h3
          have HT := Lib.hid (n1 rfl)
          clear n1 n2 ht
          go_wp2_with fail
          refine wp_region_below (by kernel_rfl) (by kernel_rfl) (fun hkept => ?_)
          clear hkept
          repeat (any_goals (first | go_big_quiet_step (fail) | quiet_step (fail) | (refine wpQuiet_step (fun K hK => ?_); go_simp; split <;> (refine hK _ ?_; clear hK K))))
          all_goals (refine wpQuiet_nil ?_; intro w1 hb; obtain ⟨hB, hS, hk⟩ := after (B := wr.heap.size) (w := wr) (by go_grown) (by go_size) hb; clear hk hb)
          go_wp2
          exact ⟨⟨k + 1, by omega, by omega, HT, by go_num, Lib.hid (hD.out.trans (hB.mono hz))⟩, by simp [intOf]; omega⟩
        · have h4 : ¬ ((x.toNat : Int) = y.toNat) := fun e => h3 (UInt8.toNat_inj.1 (by omega))
          have HR := Lib.hid (n2 h3)
          clear n1 n2 ht h3
          go_wp2_with fail
          refine wp_region_below (by kernel_rfl) (by kernel_rfl) (fun hkept => ?_)
          clear hkept
          repeat (any_goals (first | go_big_quiet_step (fail) | quiet_step (fail) | (refine wpQuiet_step (fun K hK => ?_); go_simp; split <;> (refine hK _ ?_; clear hK K))))
          all_goals (refine wpQuiet_nil ?_; intro w1 hb; obtain ⟨hB, hS, hk⟩ := after (B := wr.heap.size) (w := wr) (by go_grown) (by go_size) hb; clear hk hb)
          go_wp2
          go_ret
          exact ⟨by rw [HR.out]; rfl, hD.out.trans (hB.mono hz)⟩
      · have HR := Lib.hid (HE.out k ht.out hk1 hk2 (.inr (by omega)))
        clear ht
        go_wp2_with fail
        refine wp_region_below (by kernel_rfl) (by kernel_rfl) (fun hkept => ?_)
        clear hkept
        repeat (any_goals (first | go_big_quiet_step (fail) | quiet_step (fail) | (refine wpQuiet_step (fun K hK => ?_); go_simp; split <;> (refine hK _ ?_; clear hK K))))
        all_goals (refine wpQuiet_nil ?_; intro w1 hb; obtain ⟨hB, hS, hk⟩ := after (B := wr.heap.size) (w := wr) (by go_grown) (by go_size) hb; clear hk hb)
        go_wp2
        go_ret
        exact ⟨by rw [HR.out]; rfl, hD.out.trans (hB.mono hz)⟩
    · have HR := Lib.hid (HE.out k ht.out hk1 hk2 (.inl (by omega)))
      clear ht
      go_wp2_with fail
      refine wp_region_below (by kernel_rfl) (by kernel_rfl) (fun hkept => ?_)
      clear hkept
      repeat (any_goals (first | go_big_quiet_step (fail) | quiet_step (fail) | (refine wpQuiet_step (fun K hK => ?_); go_simp; split <;> (refine hK _ ?_; clear hK K))))
      all_goals (refine wpQuiet_nil ?_; intro w1 hb; obtain ⟨hB, hS, hk⟩ := after (B := wr.heap.size) (w := wr) (by go_grown) (by go_size) hb; clear hk hb)
      go_wp2
      go_ret
      exact ⟨by rw [HR.out]; rfl, hD.out.trans (hB.mono hz)⟩

theorem conv_two (c0 c1 : Int) (h0 : 0 ≤ c0) (h1 : c0 < 256) (h2 : 0 ≤ c1) (h3 : c1 < 256) (w : World) :
    (convert 33 9 (.slice (some ⟨w.heap.size, 0, none⟩) 2 2)).run Try.prog (w.alloc (.cells #[.int .u8 c0, .int .u8 c1] 5)) = .ok (.string (ofL [UInt8.ofNat c0.toNat, UInt8.ofNat c1.toNat])) (w.alloc (.cells #[.int .u8 c0, .int .u8 c1] 5)) := by
  refine run_convert_bytes_back _ _ _ 5 ⟨w.heap.size, 0, none⟩ 2 [UInt8.ofNat c0.toNat, UInt8.ofNat c1.toNat] Try.underlying33 Try.underlying5 Try.underlying9 fun j hj => ?_
  have e0 := bval_of c0 h0 h1
  have e1 := bval_of c1 h2 h3
  unfold bval at e0 e1
  match j, hj with
  | 0, _ => go_simp; omega
  | 1, _ => rw [Addr.add_lit]; go_simp; omega
  | j + 2, hj => have : j + 2 < 2 := hj; omega
theorem two_conv (n : Nat) (hn : n < 65536) (w : World) : ∃ o : ByteArray, Hid (o = ofL (twoL n)) ∧
    (convert 33 9 (.slice (some ⟨w.heap.size, 0, none⟩) 2 2)).run Try.prog (w.alloc (.cells #[.int .u8 ((n : Int) / 256), .int .u8 ((n : Int) % 256)] 5)) = .ok (.string o) (w.alloc (.cells #[.int .u8 ((n : Int) / 256), .int .u8 ((n : Int) % 256)] 5)) := by
  refine ⟨_, Lib.hid ?_, conv_two _ _ (by omega) (by omega) (by omega) (by omega) w⟩
  have e0 : ((n : Int) / 256).toNat = n / 256 := by omega
  have e1 : ((n : Int) % 256).toNat = n % 256 := by omega
  rw [e0, e1, twoL, show UInt8.ofNat (n % 256) = UInt8.ofNat n from UInt8.toNat_inj.1 (by simp)]
set_option maxRecDepth 100000 in
set_option maxHeartbeats 2000000 in
theorem two_any (n : Nat) (w : World) (hn : n < 65536) :
    Calls Try.prog 63 #[.int .i64 n] w fun e w' => e = .returned (.string (ofL (twoL n))) ∧ Below w.heap.size w w' := by
  obtain ⟨o, ho, hc⟩ := two_conv n hn w
  go_enter Try.func63, Try.ntmps63
  go_wp2
  go_ret
  exact ⟨by rw [ho.out]; rfl, by go_grown⟩

end Go.Proofs.Ytihglmicgccgiaa
