/-
  Places: the walk of the law MetaLays.
-/
import Derived.Test.YtelangbockagnaaMetaWorksW
import Derived.Deep.RegionWith
import Derived.Deep.DeepCutAuto
namespace Go.Proofs.Ytelangbockagnaa
open Go.RowKit

theorem ints_take {w : World} {ao : Option Addr} {n cap m : Nat} {l : List Int} (h : Ints w ao n cap l) (hm : m ≤ n) : Ints w ao m cap (l.take m) := by
  have := Arr.take h hm
  rw [← List.map_take] at this
  exact this

/-- What both readers answer: one place, one error. -/
theorem decode_pair (s : ByteArray) (hs : s.size ≤ 1000) : ∃ (c : LocA) (er : Int),
    (∀ W, Calls Try.prog 10 #[.string s] W fun e w' => (∃ ao cap, e = .returned (.tuple #[.agg #[.int .i64 c.gr, .string c.lo, .string c.hi, .int .u64 c.ep, .slice ao c.nd.length cap], .int .i64 er]) ∧ Ints w' ao c.nd.length cap c.nd) ∧ Below W.heap.size W w') ∧
    (∀ W, Calls Try.prog 11 #[.string s] W fun e w' => (∃ ao cap, e = .returned (.tuple #[.agg #[.int .i64 c.gr, .string c.lo, .string c.hi, .int .u64 c.ep, .slice ao c.nd.length cap], .int .i64 er]) ∧ Ints w' ao c.nd.length cap c.nd) ∧ Below W.heap.size W w') := by
  have K1 := fun W => mdecode_any s W hs
  have K2 := fun W => rmdecode_any s W hs
  rw [← decM_same] at K2
  cases h : decM s.toList with
  | some c =>
    rw [h] at K1 K2
    refine ⟨c, 0, fun W => (K1 W).mono ?_, fun W => (K2 W).mono ?_⟩
    · rintro e w' ⟨⟨c2, ao, n, cap, hc, rfl, hi⟩ | ⟨hc, _⟩, hb⟩
      · cases hc
        have hn : n = c.nd.length := hi.len.symm
        subst hn
        exact ⟨⟨ao, cap, rfl, hi⟩, hb⟩
      · cases hc
    · rintro e w' ⟨⟨c2, ao, n, cap, hc, rfl, hi⟩ | ⟨hc, _⟩, hb⟩
      · cases hc
        have hn : n = c.nd.length := hi.len.symm
        subst hn
        exact ⟨⟨ao, cap, rfl, hi⟩, hb⟩
      · cases hc
  | none =>
    rw [h] at K1 K2
    refine ⟨⟨0, ⟨#[]⟩, ⟨#[]⟩, 0, []⟩, 4, fun W => (K1 W).mono ?_, fun W => (K2 W).mono ?_⟩
    · rintro e w' ⟨⟨c2, ao, n, cap, hc, rfl, hi⟩ | ⟨_, rfl⟩, hb⟩
      · cases hc
      · exact ⟨⟨none, 0, rfl, Arr.nil _ _⟩, hb⟩
    · rintro e w' ⟨⟨c2, ao, n, cap, hc, rfl, hi⟩ | ⟨_, rfl⟩, hb⟩
      · cases hc
      · exact ⟨⟨none, 0, rfl, Arr.nil _ _⟩, hb⟩
/-- What both that lay answer: one text, one error. -/
theorem encode_pair (c : LocA) (hc : c.Ok) : ∃ (s : ByteArray) (er : Int),
    (∀ (W : World) (ao : Option Addr) (n cap : Nat), Ints W ao n cap c.nd → Calls Try.prog 5 #[.agg #[.int .i64 c.gr, .string c.lo, .string c.hi, .int .u64 c.ep, .slice ao n cap]] W fun e w' => e = .returned (.tuple #[.string s, .int .i64 er]) ∧ Below W.heap.size W w') ∧
    (∀ (W : World) (ao : Option Addr) (n cap : Nat), Ints W ao n cap c.nd → Calls Try.prog 6 #[.agg #[.int .i64 c.gr, .string c.lo, .string c.hi, .int .u64 c.ep, .slice ao n cap]] W fun e w' => e = .returned (.tuple #[.string s, .int .i64 er]) ∧ Below W.heap.size W w') ∧
    (∀ (W : World) (ao : Option Addr) (n cap : Nat), Ints W ao n cap c.nd → Calls Try.prog 7 #[.agg #[.int .i64 c.gr, .string c.lo, .string c.hi, .int .u64 c.ep, .slice ao n cap]] W fun e w' => e = .returned (.int .i64 er) ∧ Below W.heap.size W w') ∧
    (∀ (W : World) (ao : Option Addr) (n cap : Nat), Ints W ao n cap c.nd → Calls Try.prog 8 #[.agg #[.int .i64 c.gr, .string c.lo, .string c.hi, .int .u64 c.ep, .slice ao n cap]] W fun e w' => e = .returned (.int .i64 er) ∧ Below W.heap.size W w') := by
  have K3 := fun W ao n cap h => metacheck_any c ao n cap W hc h
  have K4 := fun W ao n cap h => rmetacheck_any c ao n cap W hc h
  cases h : okL c with
  | true =>
    rw [h] at K3 K4
    exact ⟨ofL (encM c), 0, fun W ao n cap hi => mencode_good c ao n cap W hc hi h, fun W ao n cap hi => rmencode_good c ao n cap W hc hi h, K3, K4⟩
  | false =>
    rw [h] at K3 K4
    exact ⟨⟨#[]⟩, 2, fun W ao n cap hi => mencode_bad c ao n cap W hc hi h, fun W ao n cap hi => rmencode_bad c ao n cap W hc hi h, K3, K4⟩

theorem row_empty (w : World) (T : TypeId) : Row (w.alloc (.cells #[] T)) w.heap.size T 1 (.slice (some ⟨w.heap.size, 0, none⟩) 0 0) 0 [] :=
  ⟨rfl, .inr ⟨w.heap.size, 0, #[], (0, 0), rfl, Nat.le_refl _, heap_alloc_new w _, .inl rfl, Nat.le_refl _, Nat.zero_le _, rfl, rfl⟩⟩
theorem ints_alloc {w : World} {ao : Option Addr} {n cap : Nat} {l : List Int} (h : Ints w ao n cap l) (o : Obj) : Ints (w.alloc o) ao n cap l := Ints.below h ((Below.refl _ _).alloc (Nat.le_refl _) o)

/-- A place lies in a block. -/
structure LocIn (w : World) (b : Nat) (gr : Int) (lo hi : ByteArray) (ep : Int) (v : Value) : Prop where
  c0 : w.cell? ⟨b, 0, none⟩ = some (.int .i64 gr)
  c1 : w.cell? ⟨b, 1, none⟩ = some (.string lo)
  c2 : w.cell? ⟨b, 2, none⟩ = some (.string hi)
  c3 : w.cell? ⟨b, 3, none⟩ = some (.int .u64 ep)
  c4 : w.cell? ⟨b, 4, none⟩ = some v
  fro : ∀ o, w.frozen? ⟨b, o, none⟩ = false

set_option maxRecDepth 100000 in
set_option maxHeartbeats 8000000 in
theorem metalays_any (c : LocA) (ao : Option Addr) (n cap : Nat) (s : ByteArray) (w : World) (hc : c.Ok) (h : Ints w ao n cap c.nd) (hs : s.size ≤ maxLen) :
    Calls Try.prog 3 #[c.v ao n cap, .string s] w fun e w' => e = .returned (.bool true) ∧ Below w.heap.size w w' := by
  obtain ⟨m, hm⟩ : ∃ m : Nat, (if (50 : Int) < (n : Int) then 50 else (n : Int)) = (m : Int) := ⟨min n 50, by split <;> omega⟩
  have hmn : m ≤ n := by split at hm <;> omega
  have hn1 := Arr.fits h
  have hn2 := Arr.max h
  obtain ⟨i0, hi, hz0, hz1x, hz2x⟩ := info_parts Try.info_int
  have Hi := Lib.hid hi
  clear hi
  have hm0 := ints_take h hmn
  obtain ⟨c1, hc1⟩ : ∃ c1 : LocA, c1 = ⟨c.gr, c.lo, c.hi, c.ep, c.nd.take m⟩ := ⟨_, rfl⟩
  have hok1 : c1.Ok := by rw [hc1]; exact ⟨hc.lo, hc.hi, hc.e0, hc.e1⟩
  have HI : Hid (Ints w ao m cap c1.nd) := Lib.hid (by rw [hc1]; exact hm0)
  obtain ⟨s1, er, K1, K2, K3, K4⟩ := encode_pair c1 hok1
  have K5 := fun W ao2 ao3 m2 cap2 cap3 h1 h2 => rmsame_any c1 ao2 ao3 m2 cap2 cap3 W h1 h2
  obtain ⟨m2, hm2⟩ : ∃ m : Nat, (if (1000 : Int) < (s.size : Int) then 1000 else (s.size : Int)) = (m : Int) := ⟨min s.size 1000, by split <;> omega⟩
  have hm3 : m2 ≤ 1000 := by split at hm2 <;> omega
  have hm4 : m2 ≤ s.size := by split at hm2 <;> omega
  obtain ⟨s2, hs2⟩ : ∃ s2 : ByteArray, s.extract 0 m2 = s2 := ⟨_, rfl⟩
  have hs3 : s2.size ≤ 1000 := by rw [← hs2, ByteArray.size_extract]; omega
  obtain ⟨c2, er2, K6, K7⟩ := decode_pair s2 hs3
  have K8 := fun W ao2 ao3 cap2 cap3 h1 h2 => rmsame_any c2 ao2 ao3 c2.nd.length cap2 cap3 W h1 h2
  obtain ⟨gr, lo, hi, ep, nd⟩ := c
  obtain ⟨gr1, lo1, hi1, ep1, nd1⟩ := c1
  simp only [LocA.mk.injEq] at hc1
  obtain ⟨rfl, rfl, rfl, rfl, hnd⟩ := hc1
  obtain ⟨gr2, lo2, hi2, ep2, nd2⟩ := c2
  simp only [LocA.v] at K1 K2 K3 K4 K5 K6 K7 K8 HI ⊢
  obtain ⟨N2, hN2⟩ : ∃ N, N = nd2.length := ⟨_, rfl⟩
  rw [← hN2] at K6 K7 K8
  clear hN2
  have K1 := Lib.hid K1
  have K2 := Lib.hid K2
  have K3 := Lib.hid K3
  have K4 := Lib.hid K4
  have K5 := Lib.hid K5
  have K6 := Lib.hid K6
  have K7 := Lib.hid K7
  have K8 := Lib.hid K8
  unfold maxLen at hs hn2
  have K9 := Lib.hid fun W => mworks_any W
  clear h hm0 hnd hok1 hc
  go_enter Try.func3, Try.ntmps3
  go_upto_region 2 with fail
  go_cut [5, 6] (fun a b wx => ∃ x y, a = .pointer (some ⟨x, 0, none⟩) ∧ b = .pointer (some ⟨y, 0, none⟩) ∧ x ≠ y ∧ w.heap.size < x ∧ w.heap.size < y ∧ x < wx.heap.size ∧ y < wx.heap.size ∧ Below w.heap.size w wx ∧ LocIn wx x gr1 lo1 hi1 ep1 (.slice ao m cap) ∧ LocIn wx y gr1 lo1 hi1 ep1 (.slice ao m cap) ∧ LocIn wx w.heap.size gr1 lo1 hi1 ep1 (.slice ao m cap))
  case first =>
    go_region
    · go_wp2_with fail; go_meet
      exact ⟨w.heap.size + 1, w.heap.size + 1 + 1, rfl, rfl, by omega, by omega, by omega, by go_size, by go_size, by go_grown, ⟨by go_simp, by go_simp, by go_simp, by go_simp, by go_simp, fun o => by go_simp⟩, ⟨by go_simp, by go_simp, by go_simp, by go_simp, by go_simp, fun o => by go_simp⟩, ⟨by go_simp, by go_simp, by go_simp, by go_simp, by go_simp, fun o => by go_simp⟩⟩
    · go_wp2_with fail; go_meet
      exact ⟨w.heap.size + 1 + 1, w.heap.size + 1, rfl, rfl, by omega, by omega, by omega, by go_size, by go_size, by go_grown, ⟨by go_simp, by go_simp, by go_simp, by go_simp, by go_simp, fun o => by go_simp⟩, ⟨by go_simp, by go_simp, by go_simp, by go_simp, by go_simp, fun o => by go_simp⟩, ⟨by go_simp, by go_simp, by go_simp, by go_simp, by go_simp, fun o => by go_simp⟩⟩
  case rest =>
    obtain ⟨x, y, rfl, rfl, hxy, hxl, hyl, hxs, hys, hB0, hX, hY, hL⟩ := hcut
    obtain ⟨p0, p1, p2, p3, p4, pf⟩ := hX
    obtain ⟨q0, q1, q2, q3, q4, qf⟩ := hY
    obtain ⟨l0, l1, l2, l3, l4, lf⟩ := hL
    have hls : w.heap.size < wc.heap.size := by omega
    have hIc := Lib.hid (Ints.below HI.out hB0)
    have hlen1 : nd1.length = m := HI.out.len
    have Hlen := Lib.hid hlen1
    have K2b := Lib.hid fun W (hb : Below w.heap.size w W) => K2.out W ao m cap (Ints.below HI.out hb)
    go_upto_region 6 with (first
      | (at_builtin; refine wpList_append_arr _ rfl _ _ 25 rfl wc.heap.size 3 i0 _ 1 8 Try.underlying25 Hi.out hz0 hz1x hz2x rfl (by decide) (.slice (some ⟨wc.heap.size, 0, none⟩) 0 0) 0 [] rfl (row_empty wc _) rfl (ints_alloc hIc.out _) (by omega) (by unfold maxLen; omega) (by rw [World.size_alloc]; omega) ?_; intro v7 w7 hr7 hb7 hg7; obtain ⟨ao7, cap7, rfl, _⟩ := Row.arr_new (by decide) hr7 (by rw [List.length_map]; exact Hlen.out) (intE_elems _); rw [List.nil_append, Nat.zero_add] at hr7; have HR7 := Lib.hid hr7; have kx := fun o => hb7.cell (p := ⟨x, o, none⟩) hxs; have kxf := fun o => hb7.frozen (p := ⟨x, o, none⟩) hxs; have ky := fun o => hb7.cell (p := ⟨y, o, none⟩) hys; have kyf := fun o => hb7.frozen (p := ⟨y, o, none⟩) hys; have hz7 := hb7.size; rw [World.size_alloc] at hz7; have hB7 : Below w.heap.size w w7 := (hB0.alloc (by omega) _).trans (hb7.mono (by omega)); have HIW := fun u => Lib.hid (ints_of_row (row_set HR7.out (p := ⟨x, 4, none⟩) (by simp only; omega) u) Hlen.out); clear hr7 hb7 hg7)
      | (go_at_call 5; refine (K1.out _ _ _ _ (HIW _).out).mono ?_; rintro e w8 ⟨rfl, hb⟩; obtain ⟨hB, hS, hk⟩ := after (B := w.heap.size) (w := w) (by go_grown) (by go_size) hb; have Hw8 := Lib.hid hb; clear hb; obtain ⟨c0, f0, z0⟩ := hk (x) (by go_size); obtain ⟨c1, f1, z1⟩ := hk (y) (by go_size); clear hk)
      | (go_at_call 6; refine (K2b.out _ (by go_grown)).mono ?_; rintro e w9 ⟨rfl, hb⟩; obtain ⟨hB, hS, hk⟩ := after (B := w.heap.size) (w := w) (by go_grown) (by go_size) hb; have Hw9 := Lib.hid hb; clear hb; obtain ⟨c0, f0, z0⟩ := hk (x) (by go_size); obtain ⟨c1, f1, z1⟩ := hk (y) (by go_size); clear hk))
    have HI9 := Lib.hid (Ints.below (Ints.below (HIW _).out Hw8.out) Hw9.out)
    have HI9m := Lib.hid (Ints.below HI.out hB)
    have hs9 : 1000 ≤ 1000 := Nat.le_refl _
    refine wp_region_below (by kernel_rfl) (by kernel_rfl) (fun hkept => ?_)
    obtain ⟨r0, rf0⟩ := hkept (x) (by go_size); obtain ⟨r1, rf1⟩ := hkept (y) (by go_size); clear hkept
    repeat (any_goals (first | go_big_quiet_step (first | (go_at_call 7; exact Calls.regrown_of (K3.out _ _ _ _ (Ints.below HI9.out (below_regrown _ _ _)))) | (go_at_call 8; exact Calls.regrown_of (K4.out _ _ _ _ (Ints.below HI9m.out (below_regrown _ _ _)))) | (go_at_call 9; exact Calls.regrown_of (K5.out _ _ _ _ _ _ (Ints.below HI9.out (below_regrown _ _ _)) (Ints.below HI9m.out (below_regrown _ _ _))))) | quiet_step (first | (go_at_call 7; exact Calls.regrown_of (K3.out _ _ _ _ (Ints.below HI9.out (below_regrown _ _ _)))) | (go_at_call 8; exact Calls.regrown_of (K4.out _ _ _ _ (Ints.below HI9m.out (below_regrown _ _ _)))) | (go_at_call 9; exact Calls.regrown_of (K5.out _ _ _ _ _ _ (Ints.below HI9.out (below_regrown _ _ _)) (Ints.below HI9m.out (below_regrown _ _ _))))) | (refine wpQuiet_step (fun K hK => ?_); go_simp; split <;> (refine hK _ ?_; clear hK K))))
    all_goals (refine wpQuiet_nil ?_; intro w10 hb; obtain ⟨hB, hS, hk⟩ := after (B := w.heap.size) (w := w) (by go_grown) (by go_size) hb; obtain ⟨c0, f0, z0⟩ := hk (x) (by go_size); obtain ⟨c1, f1, z1⟩ := hk (y) (by go_size); clear hk hb r0 rf0 r1 rf1)
    clear HI9 HIW HR7 HI9m c0 c1 f0 f1
    go_wp2_with (first
      | (go_at_call 10; refine (K6.out _).mono ?_; rintro e wA ⟨⟨aoA, capA, rfl, hiA⟩, hb⟩; have HIA := Lib.hid hiA; have hBA : Below w.heap.size w wA := hB.trans (hb.mono hS); have hSA := hBA.size; clear hb hiA)
      | (go_at_call 11; refine (K7.out _).mono ?_; rintro e wB ⟨⟨aoB, capB, rfl, hiB⟩, hb⟩; have HIB := Lib.hid hiB; have HbB := Lib.hid hb; have hBB : Below w.heap.size w wB := (hBA.alloc hSA _).trans (hb.mono (by rw [World.size_alloc]; omega)); have hSB := hBB.size; have hAB := hb.size; rw [World.size_alloc] at hAB; have hAB2 : wA.heap.size < wB.heap.size := (by omega); have kA := fun o => hb.cell (p := ⟨wA.heap.size, o, none⟩) (by rw [World.size_alloc]; exact Nat.lt_succ_self _); clear hb hiB)
      | (go_at_call 9; refine (K8.out _ _ _ _ _ (ints_alloc (Ints.below (ints_alloc HIA.out _) HbB.out) _) (ints_alloc HIB.out _)).mono ?_; rintro e w11 ⟨rfl, hb⟩; obtain ⟨hB, hS, hk⟩ := after (B := w.heap.size) (w := w) (by go_grown) (by go_size) hb; clear hb; clear hk)
      | (go_at_call 12; refine (K9.out _).mono ?_; rintro e w12 ⟨rfl, hb⟩; obtain ⟨hB, hS, hk⟩ := after (B := w.heap.size) (w := w) (by go_grown) (by go_size) hb; clear hb; clear hk))
    go_returns
    exact ⟨rfl, by go_grown⟩
end Go.Proofs.Ytelangbockagnaa
