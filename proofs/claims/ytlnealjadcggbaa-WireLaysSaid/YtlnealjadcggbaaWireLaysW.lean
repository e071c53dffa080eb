/-
  The walk of acreagelaw01.WireLays.
-/
import Derived.Test.YtlnealjadcggbaaWireRefW
import Derived.Test.YtlnealjadcggbaaStable
namespace Go.Proofs.Ytlnealjadcggbaa
open Go.RowKit Go.Sort

/-- A slice of one byte at a block that stands. -/
def LaidByte (c : Int) (v : Value) (w : World) : Prop := ∃ w1 : World, v = .slice (some ⟨w1.heap.size, 0, none⟩) 1 1 ∧ Grown (w1.alloc (.cells #[.int .u8 c] 5)) w
theorem LaidByte.keeps (c : Int) : ∀ v w w', LaidByte c v w → Grown w w' → LaidByte c v w' := fun _ _ _ ⟨w1, h1, h2⟩ h => ⟨w1, h1, h2.trans h⟩
theorem LaidByte.conv {c : Int} {v : Value} {w : World} (h : LaidByte c v w) (h0 : 0 ≤ c) (h1 : c < 256) : (convert 41 9 v).run Try.prog w = .ok (.string (ofL [UInt8.ofNat c.toNat])) w := by
  obtain ⟨w1, rfl, hg⟩ := h
  refine run_convert_bytes_back _ _ _ 5 ⟨w1.heap.size, 0, none⟩ 1 [UInt8.ofNat c.toNat] Try.underlying41 Try.underlying5 Try.underlying9 fun j hj => ?_
  have hj0 : j = 0 := by simpa using hj
  subst hj0
  rw [Addr.add_lit]
  have hc := hg.below.cell (p := ⟨w1.heap.size, 0 + 0, none⟩) (by simp)
  rw [hc]
  go_simp
  omega

set_option maxRecDepth 100000 in
set_option maxHeartbeats 2000000 in
theorem lays_any (b0 s0 : ByteArray) (v : Int) (w : World) (hb0 : b0.size ≤ maxLen) (hs0 : s0.size ≤ maxLen) (hu : U64 v) :
    Calls Try.prog 5 #[.string b0, .int .u64 v, .string s0] w fun e w' => e = .returned (.bool true) ∧ Below w.heap.size w w' := by
  obtain ⟨m, hm⟩ : ∃ m : Nat, (if (5000 : Int) < (b0.size : Int) then (5000 : Int) else b0.size) = m := ⟨min 5000 b0.size, by split <;> omega⟩
  have hm1 : m ≤ 5000 := by split at hm <;> omega
  have hm2 : m ≤ b0.size := by split at hm <;> omega
  obtain ⟨n, hn⟩ : ∃ m : Nat, (if (5000 : Int) < (s0.size : Int) then (5000 : Int) else s0.size) = m := ⟨min 5000 s0.size, by split <;> omega⟩
  have hn1 : n ≤ 5000 := by split at hn <;> omega
  have hn2 : n ≤ s0.size := by split at hn <;> omega
  unfold maxLen at hb0 hs0
  have hbz : (b0.extract 0 m).size ≤ 5000 := by rw [ByteArray.size_extract]; omega
  have hsz : (s0.extract 0 n).size ≤ 5000 := by rw [ByteArray.size_extract]; omega
  obtain ⟨b, hbb⟩ : ∃ t, b0.extract 0 m = t := ⟨_, rfl⟩
  obtain ⟨s, hss⟩ : ∃ t, s0.extract 0 n = t := ⟨_, rfl⟩
  rw [hbb] at hbz
  rw [hss] at hsz
  obtain ⟨u, hu0⟩ : ∃ u, u = unhexB s := ⟨_, rfl⟩
  obtain ⟨i, hi0⟩ : ∃ u, u = unhexIs s := ⟨_, rfl⟩
  have U1 : Hid (∀ w, Calls Try.prog 15 #[.string s] w fun e w' => e = .returned (.tuple #[.string u, .bool i]) ∧ Below w.heap.size w w') := Lib.hid fun w => by rw [hu0, hi0]; exact unhex_any s w (by omega)
  have U2 : Hid (∀ w, Calls Try.prog 17 #[.string s] w fun e w' => e = .returned (.tuple #[.string u, .bool i]) ∧ Below w.heap.size w w') := Lib.hid fun w => by rw [hu0, hi0]; exact refunhex_any s w (by omega)
  obtain ⟨hx, hx0⟩ : ∃ u, u = ofL (hexL b.toList) := ⟨_, rfl⟩
  have H1 : Hid (∀ w, Calls Try.prog 16 #[.string b] w fun e w' => e = .returned (.string hx) ∧ Below w.heap.size w w') := Lib.hid fun w => by rw [hx0]; exact hex_any b w (by omega)
  have H2 : Hid (∀ w, Calls Try.prog 21 #[.string b] w fun e w' => e = .returned (.string hx) ∧ Below w.heap.size w w') := Lib.hid fun w => by rw [hx0]; exact refhex_any b w (by omega)
  obtain ⟨nb, nb0⟩ : ∃ u, u = ofL (numW v) := ⟨_, rfl⟩
  have hnb : nb.size ≤ 10 := by rw [nb0, ofL_size]; exact numW_len v hu
  have N1 : Hid (∀ w, Calls Try.prog 8 #[.string b, .int .u64 v] w fun e w' => e = .returned (.string (b ++ nb)) ∧ Below w.heap.size w w') := Lib.hid fun w => by rw [nb0, append_ofL, ofL_toList]; exact putnumber_of b v w (by omega) hu
  have N2 : Hid (∀ w, Calls Try.prog 19 #[.int .u64 v] w fun e w' => e = .returned (.string nb) ∧ Below w.heap.size w w') := Lib.hid fun w => by rw [nb0]; exact refnumber_any v w hu
  obtain ⟨tb, tb0⟩ : ∃ u, u = ofL (textB s.toList) := ⟨_, rfl⟩
  have htb : tb.size ≤ 5010 := by
    have := numL_ten (v := s.size) (by omega)
    rw [tb0, ofL_size, textB, List.length_append, size_list]; omega
  have T1 : Hid (∀ w, Calls Try.prog 7 #[.string b, .string s] w fun e w' => e = .returned (.string (b ++ tb)) ∧ Below w.heap.size w w') := Lib.hid fun w => by rw [tb0, append_ofL, ofL_toList]; exact puttext_of b s w (by omega) (by omega)
  have T2 : Hid (∀ w, Calls Try.prog 20 #[.string s] w fun e w' => e = .returned (.string tb) ∧ Below w.heap.size w w') := Lib.hid fun w => by rw [tb0]; exact reftext_any s w (by omega)
  have hc0 : 0 ≤ v % 256 := by omega
  have hc1 : v % 256 < 256 := by omega
  obtain ⟨o, ho0⟩ : ∃ u, u = ofL [UInt8.ofNat (v % 256).toNat] := ⟨_, rfl⟩
  have hosz : o.size ≤ 1 := by rw [ho0, ofL_size]; simp
  have B1 : Hid (∀ w, Calls Try.prog 18 #[.string b, .int .u8 (v % 256)] w fun e w' => e = .returned (.string (b ++ o)) ∧ Below w.heap.size w w') := Lib.hid fun w => by rw [ho0, append_ofL, ofL_toList]; exact putbyte_any b (v % 256) w (by omega) hc0 hc1
  have hCv : Hid (∀ x w, LaidByte (v % 256) x w → (convert 41 9 x).run Try.prog w = .ok (.string o) w) := Lib.hid fun x w h => by rw [ho0]; exact h.conv hc0 hc1
  clear ho0
  clear hu0 hi0 hx0 nb0 tb0
  go_enter Try.func5, Try.ntmps5
  go_wp2_with (first | (go_at_call 15; refine (U1.out _).mono ?_; rintro e w1 ⟨rfl, hb⟩; obtain ⟨hB, hS, hk⟩ := after (B := w.heap.size) (w := w) (by go_grown) (by go_size) hb; clear hb; clear hk) | (go_at_call 17; refine (U2.out _).mono ?_; rintro e w2 ⟨rfl, hb⟩; obtain ⟨hB, hS, hk⟩ := after (B := w.heap.size) (w := w) (by go_grown) (by go_size) hb; clear hb; clear hk))
  refine wp_region_stable 7 _ _ _ (LaidByte (v % 256)) (by kernel_rfl) (by kernel_rfl) (by kernel_rfl) rfl rfl rfl rfl ⟨38, by simp [Oper.looksAt, Op.operands], rfl⟩ rfl (NoInit.all (by kernel_rfl)) (LaidByte.keeps _) (fun w3 hw3 => ?_)
  simp only [List.take_succ_cons, List.take_zero, List.drop_succ_cons, List.drop_zero]
  repeat (any_goals (first | go_big_quiet_step (first | (go_at_call 18; exact Calls.regrown_of (B1.out _))) | quiet_step (first | (go_at_call 18; exact Calls.regrown_of (B1.out _))) | (refine wpQuiet_step (fun K hK => ?_); go_simp; split <;> (refine hK _ ?_; clear hK K))))
  refine wpQuiet_nil ⟨.string o, ⟨fun w4 hw4 => ⟨.slice (some ⟨w4.heap.size, 0, none⟩) 1 1, w4.alloc (.cells #[.int .u8 (v % 256)] 5), by go_simp, Grown.of ((Below.refl _ _).alloc (Nat.le_refl _) _), w4, rfl, Grown.refl _⟩, fun x w4 hw4 hx => ?_⟩, ?_⟩
  · have hcx := hCv.out x w4 hx
    go_simp
  conv => arg 6; simp [go_sem]
  repeat (any_goals (first | go_big_quiet_step (first | (go_at_call 18; exact Calls.regrown_of (B1.out _)) | (go_at_call 8; exact Calls.regrown_of (N1.out _)) | (go_at_call 19; exact Calls.regrown_of (N2.out _)) | (go_at_call 7; exact Calls.regrown_of (T1.out _)) | (go_at_call 20; exact Calls.regrown_of (T2.out _)) | (go_at_call 16; exact Calls.regrown_of (H1.out _)) | (go_at_call 21; exact Calls.regrown_of (H2.out _)) | (go_at_call 14; exact Calls.regrown_of (works_any _))) | quiet_step (first | (go_at_call 18; exact Calls.regrown_of (B1.out _)) | (go_at_call 8; exact Calls.regrown_of (N1.out _)) | (go_at_call 19; exact Calls.regrown_of (N2.out _)) | (go_at_call 7; exact Calls.regrown_of (T1.out _)) | (go_at_call 20; exact Calls.regrown_of (T2.out _)) | (go_at_call 16; exact Calls.regrown_of (H1.out _)) | (go_at_call 21; exact Calls.regrown_of (H2.out _)) | (go_at_call 14; exact Calls.regrown_of (works_any _))) | (refine wpQuiet_step (fun K hK => ?_); go_simp; split <;> (refine hK _ ?_; clear hK K))))
  refine wpQuiet_nil ?_
  intro x w5 hb5
  obtain ⟨hB5, hS5, hk5⟩ := after (B := w.heap.size) (w := w) (by go_grown) (by go_size) hb5
  clear hb5 hk5
  simp only [Act.put]
  conv => arg 3; simp
  go_wp2
  go_returns
  exact ⟨rfl, by go_grown⟩

end Go.Proofs.Ytlnealjadcggbaa
