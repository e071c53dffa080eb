/-
  The walk of acreagelaw10.BlockKnown. Printed by mkknown10.py.
-/
import Derived.Test.YtfkghpomcaonfaaKnown10P
import Derived.Deep.DeepCutAuto
namespace Go.Proofs.Ytfkghpomcaonfaa
open Go.RowKit

theorem byte_conv (k : Nat) (hk : k < 256) (w : World) : (convert 39 9 (.slice (some ⟨w.heap.size, 0, none⟩) 1 1)).run Try.prog (w.alloc (.cells #[.int .u8 (k : Int)] 5)) = .ok (.string ⟨#[UInt8.ofNat k]⟩) (w.alloc (.cells #[.int .u8 (k : Int)] 5)) := by
  refine run_convert_bytes_back _ _ _ 5 ⟨w.heap.size, 0, none⟩ 1 [UInt8.ofNat k] Try.underlying39 Try.underlying5 Try.underlying9 fun j hj => ?_
  have e0 := bval_of (k : Int) (by omega) (by omega)
  unfold bval at e0
  match j, hj with
  | 0, _ => go_simp; omega
  | j + 1, hj => have : j + 1 < 1 := hj; omega
/-- a cell of five at the beginning of block b -/
structure At5 (b : Nat) (c : CellA) (W : World) : Prop where
  c0 : W.cell? ⟨b, 0, none⟩ = some (.string c.row)
  c1 : W.cell? ⟨b, 1, none⟩ = some (.string c.col)
  c2 : W.cell? ⟨b, 2, none⟩ = some (.int .u64 c.ver)
  c3 : W.cell? ⟨b, 3, none⟩ = some (.bool c.gone)
  c4 : W.cell? ⟨b, 4, none⟩ = some (.string c.val)
  f4 : W.frozen? ⟨b, 4, none⟩ = false
  lt : b < W.heap.size
theorem At5.below {b : Nat} {c : CellA} {W W' : World} (h : At5 b c W) (hb : Below W.heap.size W W') : At5 b c W' :=
  ⟨(hb.cell (p := ⟨b, 0, none⟩) h.lt).trans h.c0, (hb.cell (p := ⟨b, 1, none⟩) h.lt).trans h.c1, (hb.cell (p := ⟨b, 2, none⟩) h.lt).trans h.c2, (hb.cell (p := ⟨b, 3, none⟩) h.lt).trans h.c3, (hb.cell (p := ⟨b, 4, none⟩) h.lt).trans h.c4, (hb.frozen (p := ⟨b, 4, none⟩) h.lt).trans h.f4, Nat.lt_of_lt_of_le h.lt hb.size⟩
theorem build_of (cs : List CellA) (hok : ∀ c ∈ cs, c.Ok) (b : List UInt8) (e : Int) (h : buildR cs = (b, e)) (ao : Option Addr) (n cap : Nat) (w : World) (hc : Cells w ao n cap cs) :
    Calls Try.prog 11 #[.slice ao n cap] w fun r w' => r = .returned (.tuple #[.string (ofL b), .int .i64 e]) ∧ Below w.heap.size w w' := by
  have := build_any ao n cap cs w hc hok
  rw [h] at this
  exact this
set_option maxRecDepth 100000 in
set_option maxHeartbeats 4000000 in
theorem blockknown_any (w : World) : Calls Try.prog 7 #[] w fun e w' => e = .returned (.bool true) ∧ Below w.heap.size w w' := by
  go_enter Try.func7, Try.ntmps7
  go_wp2_with fail
  obtain ⟨a, ha⟩ : ∃ a, a = w.heap.size := ⟨_, rfl⟩
  obtain ⟨b, hb⟩ : ∃ b, b = w.heap.size + 1 := ⟨_, rfl⟩
  obtain ⟨W0, hW0⟩ : ∃ W : World, W = (w.alloc (.cells #[.string ⟨#[97]⟩, .string ⟨#[120]⟩, .int .u64 1, .bool false, .string ⟨#[]⟩] 35)).alloc (.cells #[.string ⟨#[98]⟩, .string ⟨#[120]⟩, .int .u64 1, .bool false, .string ⟨#[]⟩] 35) := ⟨_, rfl⟩
  have A0 : Hid (At5 a (cX ⟨#[97]⟩ ⟨#[]⟩) W0) := Lib.hid (by rw [hW0, ha]; exact ⟨by go_simp; rfl, by go_simp; rfl, by go_simp; rfl, by go_simp; rfl, by go_simp; rfl, by go_simp, by go_size⟩)
  have B0 : Hid (At5 b (cX ⟨#[98]⟩ ⟨#[]⟩) W0) := Lib.hid (by rw [hW0, hb]; exact ⟨by go_simp; rfl, by go_simp; rfl, by go_simp; rfl, by go_simp; rfl, by go_simp; rfl, by go_simp, by go_size⟩)
  have E0 : Hid (Below w.heap.size w W0) := Lib.hid (by rw [hW0]; go_grown)
  rw [← hW0, ← hb, ← ha]
  clear hW0 ha hb
  have e1 : ofL (⟨#[0, 0]⟩ : ByteArray).toList = ⟨#[0, 0]⟩ := ofL_self _
  refine (build_of [] (fun c h => by simp at h) _ _ (blockOf_iff.1 nil_block) none 0 0 W0 (Arr.nil _ _)).mono ?_
  rintro e v1 ⟨rfl, hb⟩
  have A1 := Lib.hid (A0.out.below hb)
  have B1 := Lib.hid (B0.out.below hb)
  have E1 := Lib.hid (E0.out.trans (hb.mono E0.out.size))
  clear A0 B0 E0 hb
  rw [e1]
  go_wp2_with fail
  refine (readb_yes ⟨#[0, 0]⟩ [] nil_block _).mono ?_
  rintro e v2 ⟨ao4, cap4, rfl, hO, hb⟩
  have A2 := Lib.hid (A1.out.below hb)
  have B2 := Lib.hid (B1.out.below hb)
  have E2 := Lib.hid (E1.out.trans (hb.mono E1.out.size))
  clear A1 B1 E1 hb
  clear hO
  have xa0 := A2.out.c0
  have xa1 := A2.out.c1
  have xa2 := A2.out.c2
  have xa3 := A2.out.c3
  have xa4 := A2.out.c4
  have xal := A2.out.lt
  simp only [cX] at xa0 xa1 xa2 xa3 xa4
  have xb0 := B2.out.c0
  have xb1 := B2.out.c1
  have xb2 := B2.out.c2
  have xb3 := B2.out.c3
  have xb4 := B2.out.c4
  have xbl := B2.out.lt
  simp only [cX] at xb0 xb1 xb2 xb3 xb4
  have hal : ¬ a = v2.heap.size := by omega
  have hbl : ¬ b = v2.heap.size := by omega
  go_wp2_with fail
  clear xa0 xa1 xa2 xa3 xa4 xal
  clear xb0 xb1 xb2 xb3 xb4 xbl
  clear hal hbl
  have hg : Below v2.heap.size v2 (v2.alloc (.cells #[.string ⟨#[98]⟩, .string ⟨#[120]⟩, .int .u64 1, .bool false, .string ⟨#[]⟩, .string ⟨#[97]⟩, .string ⟨#[120]⟩, .int .u64 1, .bool false, .string ⟨#[]⟩] 35)) := (Below.refl _ _).alloc (Nat.le_refl _) _
  have A2' := Lib.hid (A2.out.below hg)
  have B2' := Lib.hid (B2.out.below hg)
  have E2' := Lib.hid (E2.out.trans (hg.mono E2.out.size))
  clear A2 B2 E2
  have A2 := A2'
  have B2 := B2'
  have E2 := E2'
  clear A2' B2' E2' hg
  refine (build_of [cX ⟨#[98]⟩ ⟨#[]⟩, cX ⟨#[97]⟩ ⟨#[]⟩] (fun c h => by simp only [List.mem_cons, List.not_mem_nil, or_false] at h; rcases h with rfl | rfl <;> exact cX_ok _ _ (by decide) (by decide)) _ _ (wrong_build ba_wrong) (some ⟨v2.heap.size, 0, none⟩) 2 2 (v2.alloc (.cells #[.string ⟨#[98]⟩, .string ⟨#[120]⟩, .int .u64 1, .bool false, .string ⟨#[]⟩, .string ⟨#[97]⟩, .string ⟨#[120]⟩, .int .u64 1, .bool false, .string ⟨#[]⟩] 35)) (cells_new _ _ [cX ⟨#[98]⟩ ⟨#[]⟩, cX ⟨#[97]⟩ ⟨#[]⟩] _ 2 _ rfl rfl (by decide) rfl)).mono ?_
  rintro e v3 ⟨rfl, hb⟩
  have A3 := Lib.hid (A2.out.below hb)
  have B3 := Lib.hid (B2.out.below hb)
  have E3 := Lib.hid (E2.out.trans (hb.mono E2.out.size))
  clear A2 B2 E2 hb
  have xa0 := A3.out.c0
  have xa1 := A3.out.c1
  have xa2 := A3.out.c2
  have xa3 := A3.out.c3
  have xa4 := A3.out.c4
  have xal := A3.out.lt
  simp only [cX] at xa0 xa1 xa2 xa3 xa4
  have hal : ¬ a = v3.heap.size := by omega
  go_wp2_with fail
  clear xa0 xa1 xa2 xa3 xa4 xal
  clear hal
  have hg : Below v3.heap.size v3 (v3.alloc (.cells #[.string ⟨#[97]⟩, .string ⟨#[120]⟩, .int .u64 1, .bool false, .string ⟨#[]⟩, .string ⟨#[97]⟩, .string ⟨#[120]⟩, .int .u64 1, .bool false, .string ⟨#[]⟩] 35)) := (Below.refl _ _).alloc (Nat.le_refl _) _
  have A3' := Lib.hid (A3.out.below hg)
  have B3' := Lib.hid (B3.out.below hg)
  have E3' := Lib.hid (E3.out.trans (hg.mono E3.out.size))
  clear A3 B3 E3
  have A3 := A3'
  have B3 := B3'
  have E3 := E3'
  clear A3' B3' E3' hg
  refine (build_of [cX ⟨#[97]⟩ ⟨#[]⟩, cX ⟨#[97]⟩ ⟨#[]⟩] (fun c h => by simp only [List.mem_cons, List.not_mem_nil, or_false] at h; rcases h with rfl | rfl <;> exact cX_ok _ _ (by decide) (by decide)) _ _ (wrong_build aa_wrong) (some ⟨v3.heap.size, 0, none⟩) 2 2 (v3.alloc (.cells #[.string ⟨#[97]⟩, .string ⟨#[120]⟩, .int .u64 1, .bool false, .string ⟨#[]⟩, .string ⟨#[97]⟩, .string ⟨#[120]⟩, .int .u64 1, .bool false, .string ⟨#[]⟩] 35)) (cells_new _ _ [cX ⟨#[97]⟩ ⟨#[]⟩, cX ⟨#[97]⟩ ⟨#[]⟩] _ 2 _ rfl rfl (by decide) rfl)).mono ?_
  rintro e v4 ⟨rfl, hb⟩
  have A4 := Lib.hid (A3.out.below hb)
  have B4 := Lib.hid (B3.out.below hb)
  have E4 := Lib.hid (E3.out.trans (hb.mono E3.out.size))
  clear A3 B3 E3 hb
  go_wp2_with fail
  refine (readb_no ⟨#[]⟩ none_block _).mono ?_
  rintro e v5 ⟨rfl, hb⟩
  have A5 := Lib.hid (A4.out.below hb)
  have B5 := Lib.hid (B4.out.below hb)
  have E5 := Lib.hid (E4.out.trans (hb.mono E4.out.size))
  clear A4 B4 E4 hb
  go_wp2_with fail
  refine (readb_no ⟨#[0, 1]⟩ short_block _).mono ?_
  rintro e v6 ⟨rfl, hb⟩
  have A6 := Lib.hid (A5.out.below hb)
  have B6 := Lib.hid (B5.out.below hb)
  have E6 := Lib.hid (E5.out.trans (hb.mono E5.out.size))
  clear A5 B5 E5 hb
  go_wp2_with fail
  have hg : Below v6.heap.size v6 (v6.alloc (.cells #[.string ⟨#[97, 98]⟩, .string ⟨#[120]⟩, .int .u64 1, .bool false, .string ⟨#[118]⟩] 35)) := (Below.refl _ _).alloc (Nat.le_refl _) _
  have A6' := Lib.hid (A6.out.below hg)
  have B6' := Lib.hid (B6.out.below hg)
  have E6' := Lib.hid (E6.out.trans (hg.mono E6.out.size))
  clear A6 B6 E6
  have A6 := A6'
  have B6 := B6'
  have E6 := E6'
  clear A6' B6' E6' hg
  refine (build_of [cX ⟨#[97, 98]⟩ ⟨#[118]⟩] (fun c h => by simp only [List.mem_singleton] at h; rcases h with rfl; exact cX_ok _ _ (by decide) (by decide)) _ _ (blockOf_iff.1 one_block) (some ⟨v6.heap.size, 0, none⟩) 1 1 (v6.alloc (.cells #[.string ⟨#[97, 98]⟩, .string ⟨#[120]⟩, .int .u64 1, .bool false, .string ⟨#[118]⟩] 35)) (cells_new _ _ [cX ⟨#[97, 98]⟩ ⟨#[118]⟩] _ 1 _ rfl rfl (by decide) rfl)).mono ?_
  rintro e v7 ⟨rfl, hb⟩
  have A7 := Lib.hid (A6.out.below hb)
  have B7 := Lib.hid (B6.out.below hb)
  have E7 := Lib.hid (E6.out.trans (hb.mono E6.out.size))
  clear A6 B6 E6 hb
  rw [ofL_self]
  clear A7 B7
  obtain ⟨vm, wm, hm, hbm, hzm⟩ := zs_make 32754 32754 rfl (by omega) v7
  obtain ⟨Z, hZ⟩ : ∃ Z, Z = zs 32754 := ⟨_, rfl⟩
  have hcv := zs_conv hzm
  have hZs : Z.size = 32754 := by rw [hZ, zs_size]
  rw [← hZ] at hcv
  have HZs := Lib.hid hZs
  have Em := Lib.hid (E7.out.trans (hbm.mono E7.out.size))
  have hsm := Em.out.size
  clear hZ hzm hbm hZs E7
  go_wp2_with (at_make; refine wpList_makeT _ rfl _ _ _ rfl rfl rfl hm ?_; simp only [Act.put, List.setIfInBounds_toArray, List.set_cons_succ, List.set_cons_zero])
  obtain ⟨d, hd⟩ : ∃ d, d = wm.heap.size := ⟨_, rfl⟩
  obtain ⟨W8, hW8⟩ : ∃ W : World, W = wm.alloc (.cells #[.string ⟨#[97]⟩, .string ⟨#[120]⟩, .int .u64 1, .bool false, .string Z] 35) := ⟨_, rfl⟩
  have D8 : Hid (At5 d (cX ⟨#[97]⟩ Z) W8) := Lib.hid (by rw [hW8, hd]; exact ⟨by go_simp; rfl, by go_simp; rfl, by go_simp; rfl, by go_simp; rfl, by go_simp; rfl, by go_simp, by go_size⟩)
  have E8 : Hid (Below w.heap.size w W8) := Lib.hid (by rw [hW8]; exact Em.out.alloc hsm _)
  have h8 : W8.heap.size = d + 1 := by rw [hW8, hd, World.size_alloc]
  have hdw : w.heap.size ≤ d := by omega
  have H8 := Lib.hid h8
  have Hdw := Lib.hid hdw
  rw [← hW8]
  try rw [← hd]
  clear hW8 hd Em hm hcv hsm h8 hdw
  obtain ⟨Tw, hTw⟩ : ∃ T, T = ofL (blockL [cX ⟨#[97]⟩ Z]) := ⟨_, rfl⟩
  have HTw : Hid (Tw.size = 32768) := Lib.hid (by rw [hTw, ofL_size]; exact (wide_block Z HZs.out).2)
  have KW := Lib.hid (build_of [cX ⟨#[97]⟩ Z] (fun c h => by simp only [List.mem_singleton] at h; rcases h with rfl; exact cX_ok _ _ (by decide) (by rw [HZs.out]; decide)) _ _ (blockOf_iff.1 (wide_block Z HZs.out).1))
  rw [← hTw] at KW
  clear hTw
  refine (KW.out (some ⟨d + 1, 0, none⟩) 1 1 _ (cells_new W8 _ [cX ⟨#[97]⟩ Z] _ 1 _ rfl rfl (by decide) (by rw [H8.out]))).mono ?_
  rintro e v9 ⟨rfl, hb⟩
  have hbb := ((Below.refl _ W8).alloc (Nat.le_refl _) _).trans (hb.mono (by rw [World.size_alloc]; omega))
  have D9 := Lib.hid (D8.out.below hbb)
  have E9 := Lib.hid (E8.out.trans (hbb.mono E8.out.size))
  clear hb hbb D8 E8 KW H8
  have xd4 := D9.out.c4
  have xdf := D9.out.f4
  have xdl := D9.out.lt
  have xd0 := D9.out.c0
  have xd1 := D9.out.c1
  have xd2 := D9.out.c2
  have xd3 := D9.out.c3
  simp only [cX] at xd0 xd1 xd2 xd3 xd4
  have hZl : Z.size ≤ 40000 := by rw [HZs.out]; decide
  have hdn : ¬ d = v9.heap.size := by omega
  go_wp2_with fail
  obtain ⟨Z2, hZ2⟩ : ∃ Z2, Z2 = Z ++ (⟨#[120]⟩ : ByteArray) := ⟨_, rfl⟩
  have HZ2 : Hid (Z2.size = 32755) := Lib.hid (by rw [hZ2, ByteArray.size_append, HZs.out]; rfl)
  rw [← hZ2]
  have E10 : Hid (Below w.heap.size w (v9.setCell ⟨d, 4, none⟩ (.string Z2))) := Lib.hid (E9.out.setCell (by have := Hdw.out; exact this) _)
  obtain ⟨W10, hW10⟩ : ∃ W : World, W = v9.setCell ⟨d, 4, none⟩ (.string Z2) := ⟨_, rfl⟩
  rw [← hW10] at E10 ⊢
  have hw10 : v9.heap.size = W10.heap.size := by rw [hW10, World.size_setCell]
  try rw [hw10]
  have Hw10 := Lib.hid hw10
  clear hZ2 hW10 xd0 xd1 xd2 xd3 xd4 xdf xdl hdn E9 D9 hZl Hdw hw10
  have KW := Lib.hid (build_of [cX ⟨#[97]⟩ Z2] (fun c h => by simp only [List.mem_singleton] at h; rcases h with rfl; exact cX_ok _ _ (by decide) (by rw [HZ2.out]; decide)) _ _ (wide_long Z2 HZ2.out))
  refine (KW.out (some ⟨W10.heap.size, 0, none⟩) 1 1 _ (cells_new W10 _ [cX ⟨#[97]⟩ Z2] _ 1 _ rfl rfl (by decide) rfl)).mono ?_
  rintro e v11 ⟨rfl, hb⟩
  have hbb := ((Below.refl _ W10).alloc (Nat.le_refl _) _).trans (hb.mono (by rw [World.size_alloc]; omega))
  have E11 := Lib.hid (E10.out.trans (hbb.mono E10.out.size))
  clear hb hbb E10 KW HZ2 Hw10 HZs
  obtain ⟨i0, hi, hz0, hz1, hz2⟩ := info_parts Try.info_cell
  have Hi := Lib.hid hi
  clear hi
  go_wp2_with fail
  go_loopw [22, 23] (fun v i wr => ∃ (k : Nat) (ao : Option Addr) (cap : Nat), k ≤ 20 ∧ i = .int .i64 k ∧ v = .slice ao k cap ∧ Hid (Row wr v11.heap.size 35 5 (.slice ao k cap) k ((manyK k).map cellE).flatten) ∧ Hid (Below v11.heap.size v11 wr)) (fun _ i _ => 20 - (intOf i).toNat)
  case atStart => exact ⟨0, none, 0, by omega, rfl, rfl, Lib.hid (Row.nil _ _ _ _), Lib.hid (Below.refl _ _)⟩
  case round =>
    obtain ⟨k, ao, cap, hk, rfl, rfl, hR, hD⟩ := hrel
    have hzr := hD.out.size
    by_cases hlt : k < 20
    · have hcv := byte_conv k (by omega) wr
      have hrow : (⟨#[114, 111, 119]⟩ : ByteArray) ++ (⟨#[UInt8.ofNat k]⟩ : ByteArray) = rowK k := rfl
      have hkm : (k : Int) % 256 = (k : Int) := by omega
      have hR1 := Lib.hid ((hR.out.alloc (.cells #[.int .u8 (k : Int)] 5)).alloc (.cells #[.string (rowK k), .string ⟨#[120]⟩, .int .u64 1, .bool false, .string ⟨#[]⟩] 35))
      go_wp2_with (at_builtin; go_loud (refine wpList_append_arr _ rfl _ _ 22 rfl v11.heap.size 35 i0 _ 5 64 Try.underlying22 Hi.out hz0 hz1 hz2 rfl (by decide) (.slice ao k cap) k _ rfl hR1.out rfl (cells_new _ _ [cX (rowK k) ⟨#[]⟩] _ 1 _ rfl rfl (by decide) (World.size_alloc _ _).symm) (by omega) (by unfold maxLen; omega) (by rw [World.size_alloc, World.size_alloc]; omega) ?_); intro v' w' hr hb hg; have HR' := Lib.hid (own_snocB (manyK_len k).symm hr); have HD' := Lib.hid (((hD.out.alloc hzr (.cells #[.int .u8 (k : Int)] 5)).alloc (by rw [World.size_alloc]; omega) _).trans hb); clear hr hb hg)
      obtain ⟨ao1, cap1, e1', hC1⟩ := own_n HR'.out (n := k + 1) (by rw [List.length_append, manyK_len]; rfl)
      have hO := HR'.out
      unfold Own at hO
      rw [← manyK_succ, manyK_len, e1'] at hO
      exact ⟨⟨k + 1, ao1, cap1, by omega, by go_num, e1', Lib.hid hO, HD'⟩, by simp [intOf]; omega⟩
    · obtain rfl : k = 20 := by omega
      have hO : Own wr v11.heap.size (.slice ao 20 cap) (manyK 20) := by have h := hR.out; unfold Own; rw [manyK_len]; exact h
      have HC := Lib.hid (own_arr hO (manyK_len 20))
      have E12 := Lib.hid (E11.out.trans (hD.out.mono E11.out.size))
      have hs12 := E12.out.size
      obtain ⟨T, hT⟩ : ∃ T, T = ofL (blockL (manyK 20)) := ⟨_, rfl⟩
      have hTl : T.toList = blockL (manyK 20) := by rw [hT, ofL_toList]
      have hTb : BlockOf T.toList (manyK 20) := by rw [hTl]; exact many_block
      have hT1 : 1 ≤ T.size := by rw [← size_list, hTl]; exact many_last.1
      have hT2 : T.size ≤ 32768 := by rw [← size_list]; exact hTb.le
      have h3 : T[T.size - 1] = 3 := by have h := many_last.2; rw [← hTl, size_list, byte_at (show T.size - 1 < T.size by omega)] at h; exact Option.some.inj h
      have hix : ∀ W, (Instr.index 9 (.string T) (.int .i64 ((T.size : Int) - 1))).run Try.prog W = .ok (.int .u8 3) W := fun W => by have h := idx_at T (T.size - 1) (by omega) .i64 ((T.size : Int) - 1) (by omega) W; rw [h3] at h; exact h
      have KB := Lib.hid (build_of (manyK 20) many_ok _ _ (blockOf_iff.1 many_block))
      rw [← hT] at KB
      have KF := Lib.hid (find_some T (rowK 9) ⟨#[120]⟩ (manyK 20) hTb _ many_find)
      clear hT hTl hTb h3 hO hR hD hzr hlt hk E11
      go_wp2_with fail
      refine (KB.out ao 20 cap wr HC.out).mono ?_
      rintro e v13 ⟨rfl, hb⟩
      have HC13 := Lib.hid (Arr.below HC.out hb)
      have E13 := Lib.hid (E12.out.trans (hb.mono hs12))
      have hs13 := E13.out.size
      clear hb HC E12 hs12
      obtain ⟨g, off, rfl, hg, ⟨y0, y1, y2, y3, y4⟩⟩ := Cells.at_ HC13.out (manyK_at (n := 20) (k := 9) (by decide))
      simp only [cX, Nat.reduceMul] at y0 y1 y2 y3 y4
      go_wp2_with fail
      refine (KF.out v13).mono ?_
      rintro e v14 ⟨rfl, hb⟩
      have E14 := Lib.hid (E13.out.trans (hb.mono hs13))
      have hs14 := E14.out.size
      have u0 := (hb.cell (p := ⟨g, _, none⟩) hg).trans y0
      have u1 := (hb.cell (p := ⟨g, _, none⟩) hg).trans y1
      have u2 := (hb.cell (p := ⟨g, _, none⟩) hg).trans y2
      have u3 := (hb.cell (p := ⟨g, _, none⟩) hg).trans y3
      have u4 := (hb.cell (p := ⟨g, _, none⟩) hg).trans y4
      have hg14 := Nat.lt_of_lt_of_le hg hb.size
      clear hb E13 hs13 y0 y1 y2 y3 y4 HC13 hg KF KB
      simp only [cX]
      go_wp2_with fail
      obtain ⟨q, hq⟩ : ∃ q, q = v14.heap.size := ⟨_, rfl⟩
      obtain ⟨WA, hWA⟩ : ∃ W : World, W = v14.alloc (.cells #[.string (rowK 9), .string ⟨#[120]⟩, .int .u64 1, .bool false, .string ⟨#[]⟩] 35) := ⟨_, rfl⟩
      have hgn : ¬ g = v14.heap.size := by omega
      have d0 : WA.cell? ⟨q, 0, none⟩ = some (.string (rowK 9)) := by rw [hWA, hq]; go_simp
      have t0 : WA.cell? ⟨g, off + 45, none⟩ = some (.string (rowK 9)) := by rw [hWA]; go_simp
      have d1 : WA.cell? ⟨q, 1, none⟩ = some (.string ⟨#[120]⟩) := by rw [hWA, hq]; go_simp
      have t1 : WA.cell? ⟨g, off + 45 + 1, none⟩ = some (.string ⟨#[120]⟩) := by rw [hWA]; go_simp
      have d2 : WA.cell? ⟨q, 2, none⟩ = some (.int .u64 1) := by rw [hWA, hq]; go_simp
      have t2 : WA.cell? ⟨g, off + 45 + 2, none⟩ = some (.int .u64 1) := by rw [hWA]; go_simp
      have d3 : WA.cell? ⟨q, 3, none⟩ = some (.bool false) := by rw [hWA, hq]; go_simp
      have t3 : WA.cell? ⟨g, off + 45 + 3, none⟩ = some (.bool false) := by rw [hWA]; go_simp
      have d4 : WA.cell? ⟨q, 4, none⟩ = some (.string ⟨#[]⟩) := by rw [hWA, hq]; go_simp
      have t4 : WA.cell? ⟨g, off + 45 + 4, none⟩ = some (.string ⟨#[]⟩) := by rw [hWA]; go_simp
      have zq : q < WA.heap.size := by rw [hWA, hq, World.size_alloc]; omega
      have zg : g < WA.heap.size := by rw [hWA, World.size_alloc]; omega
      have EA : Hid (Below w.heap.size w WA) := Lib.hid (by rw [hWA]; exact E14.out.alloc hs14 _)
      rw [← hWA, ← hq]
      clear hWA hq hgn E14 hs14 u0 u1 u2 u3 u4 hg14
      have hTs := HTw.out
      simp only [List.append_eq, List.cons_append, List.nil_append]
      refine wp_region_below (by kernel_rfl) (by kernel_rfl) (fun hkept => ?_)
      obtain ⟨r0, rf0⟩ := hkept (g) (by go_size); obtain ⟨r1, rf1⟩ := hkept (q) (by go_size); clear hkept
      repeat (any_goals (first | go_big_quiet_step (first | (go_at_call 14; exact Calls.regrown_of (works10_any _))) | quiet_step (first | (go_at_call 14; exact Calls.regrown_of (works10_any _))) | (refine wpQuiet_step (fun K hK => ?_); go_simp; split <;> (refine hK _ ?_; clear hK K))))
      all_goals (refine wpQuiet_nil ?_; intro w15 hb; obtain ⟨hB, hS, hk⟩ := after (B := WA.heap.size) (w := WA) (by go_grown) (by go_size) hb; obtain ⟨c0, f0, z0⟩ := hk (g) (by go_size); obtain ⟨c1, f1, z1⟩ := hk (q) (by go_size); clear hk hb r0 rf0 r1 rf1)
      go_wp2
      go_returns
      exact ⟨rfl, EA.out.trans (hB.mono EA.out.size)⟩
end Go.Proofs.Ytfkghpomcaonfaa
