/-
  The walk of acreagelaw03.KeysKnown (closed).
-/
import Derived.Test.YtdmepdjlfdigeaaKnown3P
import Derived.Deep.DeepCutAuto
namespace Go.Proofs.Ytdmepdjlfdigeaa
open Go.RowKit Go.Sort

attribute [local go_sem] gives

set_option maxRecDepth 100000 in
set_option maxHeartbeats 4000000 in
theorem keysknown_any (w : World) : Calls Try.prog 9 #[] w fun e w' => e = .returned (.bool true) ∧ Below w.heap.size w w' := by
  obtain ⟨v1, w1, hm1, hb1, hz1⟩ := zs_make 25 25 rfl (by omega) w
  have hcv1 := zs_conv hz1
  obtain ⟨L, hL⟩ : ∃ L, L = zs 25 := ⟨_, rfl⟩
  rw [← hL] at hcv1
  have hLm : L.size ≤ maxLen := by rw [hL, zs_size]; unfold maxLen; omega
  have hL24 : 24 ≤ L.size := by rw [hL, zs_size]; omega
  have z0 : (⟨#[]⟩ : ByteArray).size ≤ maxLen := small_lit [] (by simp)
  have za : (⟨#[97]⟩ : ByteArray).size ≤ maxLen := small_lit [_] (by simp)
  have zb : (⟨#[98]⟩ : ByteArray).size ≤ maxLen := small_lit [_] (by simp)
  have zc : (⟨#[99]⟩ : ByteArray).size ≤ maxLen := small_lit [_] (by simp)
  have zd : (⟨#[100]⟩ : ByteArray).size ≤ maxLen := small_lit [_] (by simp)
  have zz : (⟨#[122]⟩ : ByteArray).size ≤ maxLen := small_lit [_] (by simp)
  have k1 : errB (mayL [97] [98]) = 0 := by decide +kernel
  have k2 : errB (mayL [] []) = 0 := by decide +kernel
  have k3 : errB (mayL [98] [97]) = 2 := by decide +kernel
  have k4 : errB (mayL [97] [97]) = 2 := by decide +kernel
  have k5 : errB (mayL L.toList []) = 2 := by rw [hL]; decide +kernel
  have k6 : errB (mayL [] L.toList) = 2 := by rw [hL]; decide +kernel
  have k7 : errB (mayL (L.extract 0 24).toList [122]) = 0 := by rw [hL]; decide +kernel
  have zx : (L.extract 0 24).size ≤ maxLen := by rw [hL]; decide +kernel
  have a1 : hasL [97] [] [122, 122] = true := by decide +kernel
  have a2 : hasL [98] [97] [98] = false := by decide +kernel
  have m1 : meetL [97] [98] [98] [99] = false := by decide +kernel
  have m2 : meetL [] [] [97] [] = true := by decide +kernel
  have m3 : meetL [98] [97] [] [] = false := by decide +kernel
  have m4 : meetL [98] [97] [98] [97] = false := by decide +kernel
  have KS := Lib.hid fun w => split_no ⟨#[97]⟩ ⟨#[]⟩ L w za z0 hLm (by rw [hL]; decide +kernel)
  have HL := Lib.hid hL
  have HZ := Lib.hid hz1
  clear hL hz1
  have hB1 : Below w.heap.size w w1 := hb1
  have hS1 := hB1.size
  clear hb1
  go_enter Try.func9, Try.ntmps9
  go_upto_region 4 with (first | (go_at_call 13; refine (check_any _ _ _ (by assumption) (by assumption)).mono ?_; rintro e w2 ⟨rfl, hb⟩; obtain ⟨hB, hS, hk⟩ := after (B := w.heap.size) (w := w) (by go_grown) (by go_size) hb; clear hb; clear hk) | (go_at_call 12; refine (has_any _ _ _ _).mono ?_; rintro e w2 ⟨rfl, hb⟩; obtain ⟨hB, hS, hk⟩ := after (B := w.heap.size) (w := w) (by go_grown) (by go_size) hb; clear hb; clear hk) | (go_at_call 14; refine (meet_any _ _ _ _ _).mono ?_; rintro e w2 ⟨rfl, hb⟩; obtain ⟨hB, hS, hk⟩ := after (B := w.heap.size) (w := w) (by go_grown) (by go_size) hb; clear hb; clear hk))
  clear k1 k2 k3 k4 k5 k6 k7 zx a1 a2 m1 m2 m3 m4
  -- THE LOOP
  go_wp2
  obtain ⟨g, hg⟩ : ∃ g, g = w2.heap.size := ⟨_, rfl⟩
  have hgx : g = w2.heap.size := hg
  rw [← hg]
  obtain ⟨WL, hWL⟩ : ∃ X : World, X = w2.alloc (.cells #[.string ⟨#[97]⟩, .string ⟨#[99]⟩, .string ⟨#[]⟩, .string ⟨#[100]⟩, .string L] 9) := ⟨_, rfl⟩
  rw [← hWL]
  have B := Lib.hid (show Below w.heap.size w WL by rw [hWL]; go_grown)
  have hgl : g < WL.heap.size := by rw [hWL, World.size_alloc, hg]; omega
  have x0 : WL.cell? ⟨g, 0, none⟩ = some (.string ⟨#[97]⟩) := by rw [hWL, hg]; go_simp
  have x1 : WL.cell? ⟨g, 1, none⟩ = some (.string ⟨#[99]⟩) := by rw [hWL, hg]; go_simp
  have x2 : WL.cell? ⟨g, 2, none⟩ = some (.string ⟨#[]⟩) := by rw [hWL, hg]; go_simp
  have x3 : WL.cell? ⟨g, 3, none⟩ = some (.string ⟨#[100]⟩) := by rw [hWL, hg]; go_simp
  have x4 : WL.cell? ⟨g, 4, none⟩ = some (.string L) := by rw [hWL, hg]; go_simp
  have hz := B.out.size
  clear hWL hg hgx
  refine wp_loop_rounds 6 ?_
  rw [rounds_succ]
  go_wp2_with fail
  refine (split_k1 _).mono ?_
  rintro e wl1 ⟨rfl, hb⟩
  have ha : Below WL.heap.size WL wl1 := Below.trans (by go_grown) (hb.mono (by go_size))
  have y0 := (ha.cell (p := ⟨g, 0, none⟩) hgl).trans x0
  have y1 := (ha.cell (p := ⟨g, 1, none⟩) hgl).trans x1
  have y2 := (ha.cell (p := ⟨g, 2, none⟩) hgl).trans x2
  have y3 := (ha.cell (p := ⟨g, 3, none⟩) hgl).trans x3
  have y4 := (ha.cell (p := ⟨g, 4, none⟩) hgl).trans x4
  have hgl2 := Nat.lt_of_lt_of_le hgl ha.size
  have B2 := Lib.hid (B.out.trans (ha.mono hz))
  clear x0 x1 x2 x3 x4 hgl hz B hb ha
  have x0 := y0
  have x1 := y1
  have x2 := y2
  have x3 := y3
  have x4 := y4
  have hgl := hgl2
  have B := B2
  have hz := B.out.size
  clear y0 y1 y2 y3 y4 hgl2 B2
  go_wp2_with fail
  rw [rounds_succ]
  go_wp2_with fail
  refine (split_k2 _).mono ?_
  rintro e wl2 ⟨rfl, hb⟩
  have ha : Below wl1.heap.size wl1 wl2 := Below.trans (by go_grown) (hb.mono (by go_size))
  have y0 := (ha.cell (p := ⟨g, 0, none⟩) hgl).trans x0
  have y1 := (ha.cell (p := ⟨g, 1, none⟩) hgl).trans x1
  have y2 := (ha.cell (p := ⟨g, 2, none⟩) hgl).trans x2
  have y3 := (ha.cell (p := ⟨g, 3, none⟩) hgl).trans x3
  have y4 := (ha.cell (p := ⟨g, 4, none⟩) hgl).trans x4
  have hgl2 := Nat.lt_of_lt_of_le hgl ha.size
  have B2 := Lib.hid (B.out.trans (ha.mono hz))
  clear x0 x1 x2 x3 x4 hgl hz B hb ha
  have x0 := y0
  have x1 := y1
  have x2 := y2
  have x3 := y3
  have x4 := y4
  have hgl := hgl2
  have B := B2
  have hz := B.out.size
  clear y0 y1 y2 y3 y4 hgl2 B2
  go_wp2_with fail
  rw [rounds_succ]
  go_wp2_with fail
  refine (split_k3 _).mono ?_
  rintro e wl3 ⟨rfl, hb⟩
  have ha : Below wl2.heap.size wl2 wl3 := Below.trans (by go_grown) (hb.mono (by go_size))
  have y0 := (ha.cell (p := ⟨g, 0, none⟩) hgl).trans x0
  have y1 := (ha.cell (p := ⟨g, 1, none⟩) hgl).trans x1
  have y2 := (ha.cell (p := ⟨g, 2, none⟩) hgl).trans x2
  have y3 := (ha.cell (p := ⟨g, 3, none⟩) hgl).trans x3
  have y4 := (ha.cell (p := ⟨g, 4, none⟩) hgl).trans x4
  have hgl2 := Nat.lt_of_lt_of_le hgl ha.size
  have B2 := Lib.hid (B.out.trans (ha.mono hz))
  clear x0 x1 x2 x3 x4 hgl hz B hb ha
  have x0 := y0
  have x1 := y1
  have x2 := y2
  have x3 := y3
  have x4 := y4
  have hgl := hgl2
  have B := B2
  have hz := B.out.size
  clear y0 y1 y2 y3 y4 hgl2 B2
  go_wp2_with fail
  rw [rounds_succ]
  go_wp2_with fail
  refine (split_k4 _).mono ?_
  rintro e wl4 ⟨rfl, hb⟩
  have ha : Below wl3.heap.size wl3 wl4 := Below.trans (by go_grown) (hb.mono (by go_size))
  have y0 := (ha.cell (p := ⟨g, 0, none⟩) hgl).trans x0
  have y1 := (ha.cell (p := ⟨g, 1, none⟩) hgl).trans x1
  have y2 := (ha.cell (p := ⟨g, 2, none⟩) hgl).trans x2
  have y3 := (ha.cell (p := ⟨g, 3, none⟩) hgl).trans x3
  have y4 := (ha.cell (p := ⟨g, 4, none⟩) hgl).trans x4
  have hgl2 := Nat.lt_of_lt_of_le hgl ha.size
  have B2 := Lib.hid (B.out.trans (ha.mono hz))
  clear x0 x1 x2 x3 x4 hgl hz B hb ha
  have x0 := y0
  have x1 := y1
  have x2 := y2
  have x3 := y3
  have x4 := y4
  have hgl := hgl2
  have B := B2
  have hz := B.out.size
  clear y0 y1 y2 y3 y4 hgl2 B2
  go_wp2_with fail
  rw [rounds_succ]
  go_wp2_with fail
  refine (KS.out _).mono ?_
  rintro e wl5 ⟨rfl, hb⟩
  have ha : Below wl4.heap.size wl4 wl5 := Below.trans (by go_grown) (hb.mono (by go_size))
  have y0 := (ha.cell (p := ⟨g, 0, none⟩) hgl).trans x0
  have y1 := (ha.cell (p := ⟨g, 1, none⟩) hgl).trans x1
  have y2 := (ha.cell (p := ⟨g, 2, none⟩) hgl).trans x2
  have y3 := (ha.cell (p := ⟨g, 3, none⟩) hgl).trans x3
  have y4 := (ha.cell (p := ⟨g, 4, none⟩) hgl).trans x4
  have hgl2 := Nat.lt_of_lt_of_le hgl ha.size
  have B2 := Lib.hid (B.out.trans (ha.mono hz))
  clear x0 x1 x2 x3 x4 hgl hz B hb ha
  have x0 := y0
  have x1 := y1
  have x2 := y2
  have x3 := y3
  have x4 := y4
  have hgl := hgl2
  have B := B2
  have hz := B.out.size
  clear y0 y1 y2 y3 y4 hgl2 B2
  go_wp2_with fail
  rw [rounds_succ]
  go_wp2_with fail
  clear x0 x1 x2 x3 x4 hgl
  with_reducible refine (gapc1 L HL.out _ _ (by simp)).mono ?_
  rintro e wg1 ⟨rfl, hb⟩
  have ha : Below wl5.heap.size wl5 wg1 := Below.trans (by go_grown) (hb.mono (by go_size))
  have B2 := Lib.hid (B.out.trans (ha.mono hz))
  clear hz B hb ha 
  have B := B2
  have hz := B.out.size
  clear B2 
  go_wp2_with fail
  with_reducible refine (gapc2 _).mono ?_
  rintro e wg2 ⟨rfl, hb⟩
  have ha : Below wg1.heap.size wg1 wg2 := Below.trans (by go_grown) (hb.mono (by go_size))
  have hz2 : wg1.heap.size < wg2.heap.size := by have := hb.size; simp only [World.size_alloc, World.size_setCell] at this; omega
  have B2 := Lib.hid (B.out.trans (ha.mono hz))
  clear hz B hb ha 
  have B := B2
  have hz := B.out.size
  clear B2 
  go_wp2_with fail
  with_reducible refine (gapc3 _ _ (by simp)).mono ?_
  rintro e wg3 ⟨rfl, hb⟩
  have ha : Below wg2.heap.size wg2 wg3 := Below.trans (by go_grown) (hb.mono (by go_size))
  have q20 : wg3.cell? ⟨wg2.heap.size, 0, none⟩ = some (.string ⟨#[]⟩) := (hb.cell (p := ⟨wg2.heap.size, 0, none⟩) (by go_size)).trans (by go_simp)
  have q21 : wg3.cell? ⟨wg2.heap.size, 1, none⟩ = some (.string ⟨#[]⟩) := (hb.cell (p := ⟨wg2.heap.size, 1, none⟩) (by go_size)).trans (by go_simp)
  have hz3 : wg2.heap.size < wg3.heap.size := by have := hb.size; simp only [World.size_alloc, World.size_setCell] at this; omega
  have B2 := Lib.hid (B.out.trans (ha.mono hz))
  clear hz B hb ha 
  have p20 := q20
  have p21 := q21
  have B := B2
  have hz := B.out.size
  clear B2 q20 q21
  go_wp2_with fail
  with_reducible refine (gapc4 _ _ (by simp)).mono ?_
  rintro e wg4 ⟨rfl, hb⟩
  have ha : Below wg3.heap.size wg3 wg4 := Below.trans (by go_grown) (hb.mono (by go_size))
  have q20 := (ha.cell (p := ⟨wg2.heap.size, 0, none⟩) (by show wg2.heap.size < wg3.heap.size; omega)).trans p20
  have q21 := (ha.cell (p := ⟨wg2.heap.size, 1, none⟩) (by show wg2.heap.size < wg3.heap.size; omega)).trans p21
  have q30 : wg4.cell? ⟨wg3.heap.size, 0, none⟩ = some (.string ⟨#[98]⟩) := (hb.cell (p := ⟨wg3.heap.size, 0, none⟩) (by go_size)).trans (by go_simp)
  have q31 : wg4.cell? ⟨wg3.heap.size, 1, none⟩ = some (.string ⟨#[100]⟩) := (hb.cell (p := ⟨wg3.heap.size, 1, none⟩) (by go_size)).trans (by go_simp)
  have hz4 : wg3.heap.size < wg4.heap.size := by have := hb.size; simp only [World.size_alloc, World.size_setCell] at this; omega
  have B2 := Lib.hid (B.out.trans (ha.mono hz))
  clear hz B hb ha p20 p21
  have p20 := q20
  have p21 := q21
  have p30 := q30
  have p31 := q31
  have B := B2
  have hz := B.out.size
  clear B2 q20 q21 q30 q31
  go_wp2_with fail
  with_reducible refine (gapc5 _ _ (by simp)).mono ?_
  rintro e wg5 ⟨rfl, hb⟩
  have ha : Below wg4.heap.size wg4 wg5 := Below.trans (by go_grown) (hb.mono (by go_size))
  have q20 := (ha.cell (p := ⟨wg2.heap.size, 0, none⟩) (by show wg2.heap.size < wg4.heap.size; omega)).trans p20
  have q21 := (ha.cell (p := ⟨wg2.heap.size, 1, none⟩) (by show wg2.heap.size < wg4.heap.size; omega)).trans p21
  have q30 := (ha.cell (p := ⟨wg3.heap.size, 0, none⟩) (by show wg3.heap.size < wg4.heap.size; omega)).trans p30
  have q31 := (ha.cell (p := ⟨wg3.heap.size, 1, none⟩) (by show wg3.heap.size < wg4.heap.size; omega)).trans p31
  have q40 : wg5.cell? ⟨wg4.heap.size, 0, none⟩ = some (.string ⟨#[97]⟩) := (hb.cell (p := ⟨wg4.heap.size, 0, none⟩) (by go_size)).trans (by go_simp)
  have q41 : wg5.cell? ⟨wg4.heap.size, 1, none⟩ = some (.string ⟨#[98]⟩) := (hb.cell (p := ⟨wg4.heap.size, 1, none⟩) (by go_size)).trans (by go_simp)
  have hz5 : wg4.heap.size < wg5.heap.size := by have := hb.size; simp only [World.size_alloc, World.size_setCell] at this; omega
  have B2 := Lib.hid (B.out.trans (ha.mono hz))
  clear hz B hb ha p20 p21 p30 p31
  have p20 := q20
  have p21 := q21
  have p30 := q30
  have p31 := q31
  have p40 := q40
  have p41 := q41
  have B := B2
  have hz := B.out.size
  clear B2 q20 q21 q30 q31 q40 q41
  have hy2 : wg2.heap.size < wg5.heap.size := by omega
  have hy3 : wg3.heap.size < wg5.heap.size := by omega
  have hy4 : wg4.heap.size < wg5.heap.size := by omega
  go_upto_region 21 with fail
  go_wp2_with fail
  obtain ⟨W5, hW5⟩ : ∃ X : World, X = (wg5.alloc (.cells #[.string ⟨#[100]⟩, .string ⟨#[]⟩] 23)).alloc (.cells #[.string ⟨#[114]⟩, .string ⟨#[]⟩, .int .u64 1, .bool false, .string ⟨#[118]⟩] 42) := ⟨_, rfl⟩
  rw [← hW5]
  obtain ⟨bg, hbg⟩ : ∃ X, X = wg5.heap.size + 1 := ⟨_, rfl⟩
  rw [← hbg]
  have B2 := Lib.hid (show Below w.heap.size w W5 by rw [hW5]; exact (B.out.alloc hz _).alloc (by rw [World.size_alloc]; omega) _)
  have gl : bg < W5.heap.size := by rw [hW5, hbg, World.size_alloc, World.size_alloc]; omega
  have g0 : W5.cell? ⟨bg, 0, none⟩ = some (.string ⟨#[114]⟩) := by rw [hW5, hbg]; go_simp
  have g1 : W5.cell? ⟨bg, 1, none⟩ = some (.string ⟨#[]⟩) := by rw [hW5, hbg]; go_simp
  have g2 : W5.cell? ⟨bg, 2, none⟩ = some (.int .u64 1) := by rw [hW5, hbg]; go_simp
  have g3 : W5.cell? ⟨bg, 3, none⟩ = some (.bool false) := by rw [hW5, hbg]; go_simp
  have g4 : W5.cell? ⟨bg, 4, none⟩ = some (.string ⟨#[118]⟩) := by rw [hW5, hbg]; go_simp
  clear hW5 hbg B hz hz2 hz3 hz4 hz5 hy2 hy3 hy4 p20 p21 p30 p31 p40 p41
  have hz := B2.out.size
  obtain ⟨x, hx⟩ : ∃ x, x = zs 33 := ⟨_, rfl⟩
  have Cx : Hid (∀ v w, ZAt 33 v w → (convert 47 9 v).run Try.prog w = .ok (.string x) w) := Lib.hid (by rw [hx]; exact fun v w h => zs_conv h)
  obtain ⟨y, hy⟩ : ∃ y, y = zs 17 := ⟨_, rfl⟩
  have Cy : Hid (∀ v w, ZAt 17 v w → (convert 47 9 v).run Try.prog w = .ok (.string y) w) := Lib.hid (by rw [hy]; exact fun v w h => zs_conv h)
  obtain ⟨z, hz⟩ : ∃ z, z = zs 65537 := ⟨_, rfl⟩
  have Cz : Hid (∀ v w, ZAt 65537 v w → (convert 47 9 v).run Try.prog w = .ok (.string z) w) := Lib.hid (by rw [hz]; exact fun v w h => zs_conv h)
  have HB := Lib.hid (show ∀ c ∈ bads x y z, cellL c = false ∧ c.Ok by rw [hx, hy, hz]; exact bads_bad)
  clear hx hy hz
  have hz := B2.out.size
  refine wp_region_free [(2, .lay [] (ZAt 33)), (3, .read [2] (.string x)), (5, .lay [] (ZAt 17)), (6, .read [5] (.string y)), (10, .lay [] (ZAt 65537)), (11, .read [10] (.string z)), (13, .lay [] (CsAt (bads x y z) 7)), (14, .lay [13] (CsAt (bads x y z) 7))] 263 (by kernel_rfl) (by kernel_rfl) (by kernel_rfl) (by kernel_rfl) rfl (plainNoInit.of (by kernel_rfl)) (Keeps.of ?hS) (fun w6 hw6 => ?_)
  case hS =>
    intro p hp
    simp only [List.mem_cons, List.not_mem_nil, or_false] at hp
    rcases hp with rfl | rfl | rfl | rfl | rfl | rfl | rfl | rfl
    all_goals (intro v w w' h hg; first | exact ZAt.keeps h hg | exact CsAt.keeps h hg | exact trivial)
  refine free_seg 2 rfl ?_
  simp only [List.take_succ_cons, List.take_zero, List.drop_succ_cons, List.drop_zero]
  repeat (any_goals (first | go_big_quiet_step (fail) | quiet_step (fail)))
  refine wpQuiet_nil ?_
  refine free_lay [] (ZAt 33) rfl (letter0 rfl (fun w7 hw7 => ?_)) ?_
  · obtain ⟨v7, w8, h1, h2, h3⟩ := zs_make 33 33 rfl (by omega) w7
    go_simp
    first | exact ⟨Grown.of h2, h3⟩ | exact Grown.of h2
  simp only [Act.put, List.setIfInBounds_toArray, List.set_cons_succ, List.set_cons_zero]
  refine free_read [2] (.string x) rfl (letter1 2 rfl (fun v7 w7 hw7 hs => ?_)) ?_
  · have hc := Cx.out v7 w7 hs
    simp only [dstOf, List.getElem?_toArray, List.getElem?_cons_succ, List.getElem?_cons_zero, Option.bind_some, Act.put, List.setIfInBounds_toArray, List.set_cons_succ, List.set_cons_zero]
    go_simp
    first | exact Grown.refl _ | exact ⟨Grown.refl _, rfl⟩
  simp only [Act.put, List.setIfInBounds_toArray, List.set_cons_succ, List.set_cons_zero]
  refine free_seg 1 rfl ?_
  simp only [List.take_succ_cons, List.take_zero, List.drop_succ_cons, List.drop_zero]
  repeat (any_goals (first | go_big_quiet_step (fail) | quiet_step (fail)))
  refine wpQuiet_nil ?_
  refine free_lay [] (ZAt 17) rfl (letter0 rfl (fun w7 hw7 => ?_)) ?_
  · obtain ⟨v7, w8, h1, h2, h3⟩ := zs_make 17 17 rfl (by omega) w7
    go_simp
    first | exact ⟨Grown.of h2, h3⟩ | exact Grown.of h2
  simp only [Act.put, List.setIfInBounds_toArray, List.set_cons_succ, List.set_cons_zero]
  refine free_read [5] (.string y) rfl (letter1 5 rfl (fun v7 w7 hw7 hs => ?_)) ?_
  · have hc := Cy.out v7 w7 hs
    simp only [dstOf, List.getElem?_toArray, List.getElem?_cons_succ, List.getElem?_cons_zero, Option.bind_some, Act.put, List.setIfInBounds_toArray, List.set_cons_succ, List.set_cons_zero]
    go_simp
    first | exact Grown.refl _ | exact ⟨Grown.refl _, rfl⟩
  simp only [Act.put, List.setIfInBounds_toArray, List.set_cons_succ, List.set_cons_zero]
  refine free_seg 3 rfl ?_
  simp only [List.take_succ_cons, List.take_zero, List.drop_succ_cons, List.drop_zero]
  repeat (any_goals (first | go_big_quiet_step (fail) | quiet_step (fail)))
  refine wpQuiet_nil ?_
  refine free_lay [] (ZAt 65537) rfl (letter0 rfl (fun w7 hw7 => ?_)) ?_
  · obtain ⟨v7, w8, h1, h2, h3⟩ := zs_make 65537 65537 rfl (by omega) w7
    go_simp
    first | exact ⟨Grown.of h2, h3⟩ | exact Grown.of h2
  simp only [Act.put, List.setIfInBounds_toArray, List.set_cons_succ, List.set_cons_zero]
  refine free_read [10] (.string z) rfl (letter1 10 rfl (fun v7 w7 hw7 hs => ?_)) ?_
  · have hc := Cz.out v7 w7 hs
    simp only [dstOf, List.getElem?_toArray, List.getElem?_cons_succ, List.getElem?_cons_zero, Option.bind_some, Act.put, List.setIfInBounds_toArray, List.set_cons_succ, List.set_cons_zero]
    go_simp
    first | exact Grown.refl _ | exact ⟨Grown.refl _, rfl⟩
  simp only [Act.put, List.setIfInBounds_toArray, List.set_cons_succ, List.set_cons_zero]
  refine free_seg 1 rfl ?_
  simp only [List.take_succ_cons, List.take_zero, List.drop_succ_cons, List.drop_zero]
  repeat (any_goals (first | go_big_quiet_step (fail) | quiet_step (fail)))
  refine wpQuiet_nil ?_
  refine free_lay [] (CsAt (bads x y z) 7) rfl (letter0 rfl (fun w7 hw7 => ?_)) ?_
  · go_simp
    exact ⟨Grown.of ((Below.refl _ _).alloc (Nat.le_refl _) _), cs_new w7 _ (bads x y z) _ 7 (by rfl) rfl⟩
  simp only [Act.put, List.setIfInBounds_toArray, List.set_cons_succ, List.set_cons_zero]
  refine free_lay [13] (CsAt (bads x y z) 7) rfl (letter1 13 rfl (fun v7 w7 hw7 hs => ?_)) ?_
  · simp only [dstOf, List.getElem?_toArray, List.getElem?_cons_succ, List.getElem?_cons_zero, Option.bind_some, Act.put, List.setIfInBounds_toArray, List.set_cons_succ, List.set_cons_zero]
    go_simp
    exact ⟨Grown.refl _, hs⟩
  simp only [Act.put, List.setIfInBounds_toArray, List.set_cons_succ, List.set_cons_zero]
  intro vs w8 hb8 hs8
  obtain ⟨bq, hq, hQ⟩ : CsAt (bads x y z) 7 (vs 14) w8 := hs8 14 (by simp [lays, Kd.laid])
  simp only [lays, Kd.laid, Bool.false_eq_true, if_true, if_false, putL, dstOf, List.getElem?_toArray, List.getElem?_cons_succ, List.getElem?_cons_zero, Option.bind_some, Act.put, List.setIfInBounds_toArray, List.set_cons_succ, List.set_cons_zero, hq]
  have h0 : w8.cell? ⟨bg, 0, none⟩ = some (.string ⟨#[114]⟩) := (hb8.cell (p := ⟨bg, 0, none⟩) gl).trans g0
  have h1 : w8.cell? ⟨bg, 1, none⟩ = some (.string ⟨#[]⟩) := (hb8.cell (p := ⟨bg, 1, none⟩) gl).trans g1
  have h2 : w8.cell? ⟨bg, 2, none⟩ = some (.int .u64 1) := (hb8.cell (p := ⟨bg, 2, none⟩) gl).trans g2
  have h3 : w8.cell? ⟨bg, 3, none⟩ = some (.bool false) := (hb8.cell (p := ⟨bg, 3, none⟩) gl).trans g3
  have h4 : w8.cell? ⟨bg, 4, none⟩ = some (.string ⟨#[118]⟩) := (hb8.cell (p := ⟨bg, 4, none⟩) gl).trans g4
  have gl8 := Nat.lt_of_lt_of_le gl hb8.size
  have B8 := Lib.hid (B2.out.trans (hb8.mono hz))
  have hz8 := B8.out.size
  have HQ := Lib.hid hQ
  have hbq := hQ.lt
  clear hb8 hs8 hq hQ gl g0 g1 g2 g3 g4 B2 hz
  go_wp2_with fail
  go_loopw [21] (fun i wr => ∃ k : Nat, k ≤ 7 ∧ i = .int .i64 k ∧ Hid (Below w8.heap.size w8 wr)) (fun i _ => 7 - (intOf i).toNat)
  case atStart => exact ⟨0, by omega, rfl, Lib.hid (Below.refl _ _)⟩
  case round =>
    obtain ⟨k, hk, rfl, hB⟩ := hrel
    have hzr := hB.out.size
    by_cases hlt : k < 7
    · obtain ⟨c, hc⟩ : ∃ c, (bads x y z)[k]? = some c := ⟨_, List.getElem?_eq_getElem (by rw [HQ.out.len]; exact hlt)⟩
      have KC := Lib.hid (badc c (HB.out c (List.mem_of_getElem? hc)))
      obtain ⟨x0, x1, x2, x3, x4⟩ := (HQ.out.below hB.out).at5 hc
      clear hc
      go_wp2_with fail
      refine (KC.out _).mono ?_
      rintro e w9 ⟨rfl, hb9⟩
      have HB9 := Lib.hid (hB.out.trans (hb9.mono hzr))
      clear hb9
      go_wp2
      exact ⟨⟨k + 1, by omega, by go_num, HB9⟩, by simp [intOf]; omega⟩
    · obtain rfl : k = 7 := by omega
      have i0 : wr.cell? ⟨bg, 0, none⟩ = some (.string ⟨#[114]⟩) := (hB.out.cell (p := ⟨bg, 0, none⟩) gl8).trans h0
      have i1 : wr.cell? ⟨bg, 1, none⟩ = some (.string ⟨#[]⟩) := (hB.out.cell (p := ⟨bg, 1, none⟩) gl8).trans h1
      have i2 : wr.cell? ⟨bg, 2, none⟩ = some (.int .u64 1) := (hB.out.cell (p := ⟨bg, 2, none⟩) gl8).trans h2
      have i3 : wr.cell? ⟨bg, 3, none⟩ = some (.bool false) := (hB.out.cell (p := ⟨bg, 3, none⟩) gl8).trans h3
      have i4 : wr.cell? ⟨bg, 4, none⟩ = some (.string ⟨#[118]⟩) := (hB.out.cell (p := ⟨bg, 4, none⟩) gl8).trans h4
      have hBw : Below w.heap.size w wr := B8.out.trans (hB.out.mono hz8)
      have hSw := hBw.size
      clear h0 h1 h2 h3 h4 hzr hbq hz8 gl8
      go_wp2_with (first | (go_at_call 27; with_reducible refine (goodc _).mono ?_; rintro e wa ⟨rfl, hb⟩; obtain ⟨hB, hS, hk⟩ := after (B := w.heap.size) (w := w) (by go_grown) (by go_size) hb; clear hb; clear hk) | (go_at_call 27; with_reducible refine (colc _).mono ?_; rintro e wa ⟨rfl, hb⟩; obtain ⟨hB, hS, hk⟩ := after (B := w.heap.size) (w := w) (by go_grown) (by go_size) hb; clear hb; clear hk) | (go_at_call 25; with_reducible refine (cmpc1 _).mono ?_; rintro e wa ⟨rfl, hb⟩; obtain ⟨hB, hS, hk⟩ := after (B := w.heap.size) (w := w) (by go_grown) (by go_size) hb; clear hb; clear hk) | (go_at_call 25; with_reducible refine (cmpc2 _).mono ?_; rintro e wa ⟨rfl, hb⟩; obtain ⟨hB, hS, hk⟩ := after (B := w.heap.size) (w := w) (by go_grown) (by go_size) hb; clear hb; clear hk) | (go_at_call 16; with_reducible refine (userc1 L HL.out _).mono ?_; rintro e wa ⟨rfl, hb⟩; obtain ⟨hB, hS, hk⟩ := after (B := w.heap.size) (w := w) (by go_grown) (by go_size) hb; clear hb; clear hk) | (go_at_call 16; with_reducible refine (userc2 _).mono ?_; rintro e wa ⟨rfl, hb⟩; obtain ⟨hB, hS, hk⟩ := after (B := w.heap.size) (w := w) (by go_grown) (by go_size) hb; clear hb; clear hk) | (go_at_call 16; with_reducible refine (userc3 L HL.out _).mono ?_; rintro e wa ⟨rfl, hb⟩; obtain ⟨hB, hS, hk⟩ := after (B := w.heap.size) (w := w) (by go_grown) (by go_size) hb; clear hb; clear hk) | (go_at_call 18; with_reducible refine (storedc _).mono ?_; rintro e wa ⟨rfl, hb⟩; obtain ⟨hB, hS, hk⟩ := after (B := w.heap.size) (w := w) (by go_grown) (by go_size) hb; clear hb; clear hk) | (go_at_call 11; with_reducible refine (works_any _).mono ?_; rintro e wa ⟨rfl, hb⟩; obtain ⟨hB, hS, hk⟩ := after (B := w.heap.size) (w := w) (by go_grown) (by go_size) hb; clear hb; clear hk))
      go_returns
      exact ⟨rfl, by go_grown⟩
end Go.Proofs.Ytdmepdjlfdigeaa
