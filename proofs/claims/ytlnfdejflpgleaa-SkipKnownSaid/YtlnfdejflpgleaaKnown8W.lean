/-
  The walk of acreagelaw08.SkipKnown (closed).
-/
import Derived.Test.YtlnfdejflpgleaaKnown8P
namespace Go.Proofs.Ytlnfdejflpgleaa
open Go.RowKit Go.Sort Go.Shelf

attribute [local go_sem] Oper.semAt_some gives
theorem kps_turn {w W W' : World} {B l : Nat} {Sf : Nat → World → Prop} (h : Safe w Sf) (hg : W.grownBy W' (some l)) (hl : w.heap.size ≤ l) (hB : l < B) (ho : ∃ o : Obj, W.heap[l]? = some o ∧ o.isCells = false) : KpS Sf B W W' := by
  refine ⟨hg.size, fun g hs => ?_, KeepsFrom.of_grownBy hg (fun j e => by cases e; exact hB)⟩
  obtain ⟨arr, T, fr, e⟩ := h.cells g W hs
  obtain ⟨o, h1, h2⟩ := ho
  refine ⟨hg.block g (Array.getElem?_eq_some_iff.1 e).1 (fun h3 => ?_), h.own g W W' (some l) hs hg (fun r e2 => by cases e2; exact ⟨hl, o, h1, h2⟩)⟩
  have h4 := Option.some.inj h3
  subst h4
  rw [h1] at e
  cases e; cases h2

theorem below_own {α : Type} (w : World) : OwnFrom w.heap.size (fun (_ : List α) V => Below w.heap.size w V) := by
  rintro s A B row h hg hr
  exact h.grown hg h.size (fun k e => (hr k e).1)
def LaidB (v : Value) (W : World) : Prop := ∃ b, v = .slice (some ⟨b, 0, none⟩) 1 1 ∧ Cells W (some ⟨b, 0, none⟩) 1 1 [at8 98 1]
theorem LaidB.keeps {v : Value} {w w' : World} (h : LaidB v w) (hg : Grown w w') : LaidB v w' := let ⟨b, e, h⟩ := h; ⟨b, e, Arr.below h hg.below⟩
def encC (c : CellA) : Array Value := #[.agg #[.string c.row, .string c.col, .int .u64 c.ver, .bool c.gone, .string c.val]]
set_option maxRecDepth 100000 in
set_option maxHeartbeats 4000000 in
theorem skipknown_any (w : World) : Calls Try.prog 5 #[] w fun e w' => e = .returned (.bool true) ∧ Below w.heap.size w w' := by
  have K1 := Lib.hid (at8_ok 98 1 (by decide) (by decide))
  have K2 := Lib.hid (at8_ok 97 1 (by decide) (by decide))
  have K3 := Lib.hid (at8_ok 97 2 (by decide) (by decide))
  refine callsIn_wide.1 (callsIn_of_wp_marks (F := Fence.wide) (n := 20) Try.func5 rfl trivial ?_ rfl); refine wpIn_wide.2 ?_; simp only [Try.ntmps5, List.size_toArray, List.length_cons, List.length_nil, Nat.reduceAdd, Nat.reduceSub, Array.replicate_succ, Array.replicate_zero, List.push_toArray, List.append_toArray, List.nil_append, List.cons_append]
  go_wp2_with fail
  refine (new_sl _).mono ?_
  rintro e w1 ⟨rfl, F0, hS0, hF0, hb⟩
  have HS0 := Lib.hid hS0
  have HF0 := Lib.hid hF0
  have B1 := Lib.hid hb
  have z1 := hb.size
  clear hS0 hF0 hb
  go_wp2_with fail
  refine (at8_any _ _ _).mono ?_
  rintro e w2 ⟨rfl, hb⟩
  have z2 := hb.size
  have HS0 := Lib.hid (HS0.out.below hb)
  have B2 := Lib.hid (B1.out.trans (hb.mono z1))
  clear hb B1
  go_wp2_with fail
  refine (put_sl (at8 98 1) K1.out.1 K1.out.2 3 (by decide) (by decide) _ _ _ _ HS0.out (by decide)).mono ?_
  rintro e w3 ⟨rfl, F1, hS1, hk, hf⟩
  have z3 := hk.size
  have HF1 : Hid (∀ k, F1 k → w.heap.size ≤ k) := Lib.hid fun k h => (hf k h).elim (HF0.out k) (fun h => by omega)
  have B3 := Lib.hid (B2.out.trans (hk.below HF0.out (by omega)))
  rw [wl1_put] at hS1
  have HS1 := Lib.hid hS1
  clear hS1 hk hf HS0 HF0 B2
  go_wp2_with fail
  refine (at8_any _ _ _).mono ?_
  rintro e w4 ⟨rfl, hb⟩
  have z4 := hb.size
  have HS1 := Lib.hid (HS1.out.below hb)
  have B4 := Lib.hid (B3.out.trans (hb.mono (by omega)))
  clear hb B3
  go_wp2_with fail
  refine (put_sl (at8 97 1) K2.out.1 K2.out.2 1 (by decide) (by decide) _ _ _ _ HS1.out (by decide)).mono ?_
  rintro e w5 ⟨rfl, F2, hS2, hk, hf⟩
  have z5 := hk.size
  have HF2 : Hid (∀ k, F2 k → w.heap.size ≤ k) := Lib.hid fun k h => (hf k h).elim (HF1.out k) (fun h => by omega)
  have B5 := Lib.hid (B4.out.trans (hk.below HF1.out (by omega)))
  rw [wl2_put] at hS2
  have HS2 := Lib.hid hS2
  clear hS2 hk hf HS1 HF1 B4
  go_wp2_with fail
  refine (at8_any _ _ _).mono ?_
  rintro e w6 ⟨rfl, hb⟩
  have z6 := hb.size
  have HS2 := Lib.hid (HS2.out.below hb)
  have B6 := Lib.hid (B5.out.trans (hb.mono (by omega)))
  clear hb B5
  go_wp2_with fail
  refine (put_sl (at8 97 2) K3.out.1 K3.out.2 12 (by decide) (by decide) _ _ _ _ HS2.out (by decide)).mono ?_
  rintro e w7 ⟨rfl, F3, hS3, hk, hf⟩
  have z7 := hk.size
  have B7 := Lib.hid (B6.out.trans (hk.below HF2.out (by omega)))
  rw [wl3_put] at hS3
  have HS3 := Lib.hid hS3
  have HF3 : Hid (∀ k, F3 k → w.heap.size ≤ k) := Lib.hid fun k h => (hf k h).elim (HF2.out k) (fun h => by omega)
  clear hS3 hk hf HS2 HF2 B6
  obtain ⟨i0, hi, iz0, iz1, iz2⟩ := info_parts Try.info_cell
  have Hi := Lib.hid hi
  clear hi z1 z2 z3 z4 z5 z6 z7
  have z7 := B7.out.size
  go_wp2_with fail
  refine (from_any _ _ _ _).mono ?_
  rintro e w8 ⟨rfl, hb, hz, k0, k1, k2⟩
  simp only [World.size_alloc] at hz k0 k1 k2
  have hc0 : w8.cell? ⟨w7.heap.size, 0, none⟩ = some (.slice none 0 0) := (hb.cell (p := ⟨w7.heap.size, 0, none⟩) (by simp)).trans (by go_simp)
  have hf0 : w8.frozen? ⟨w7.heap.size, 0, none⟩ = false := (hb.frozen (p := ⟨w7.heap.size, 0, none⟩) (by simp)).trans (by go_simp)
  have hbW : Below w7.heap.size w7 w8 := ((Below.refl _ _).alloc (Nat.le_refl _) _).trans (hb.mono (by simp))
  clear hb
  go_wp2
  obtain ⟨hd, ns, q1, q2, _⟩ := HS3.out.ex
  obtain ⟨hC, hcf⟩ := cut_wl3 q2
  have hns : ns.length < 1000000 := by have := congrArg List.length q2; rw [List.length_map] at this; rw [this]; decide
  have Hcf := Lib.hid hcf
  refine (wpIn_wide (n := 20)).1 ?_
  refine range_round (n := 20) (by omega) (gf := 36) (lb := #[.pointer (some ⟨w7.heap.size + 1, 0, none⟩), .pointer (some ⟨w7.heap.size + 1 + 1, 0, none⟩), .pointer (some ⟨w7.heap.size + 1 + 2, 0, none⟩)]) rfl (enters_of Try.func36 (by kernel_rfl) rfl)
    (SeqN.of_K (from1_stops 19 (by omega) ⟨#[97]⟩ ⟨#[121]⟩ _ _ _ (w.heap.size + 1) hd ns 3 w8 (q1.below hbW) hC k0 k1 k2 hns (SafeL w7.heap.size) (safeL (by omega) hc0) (w8.heap.size + 2)))
    (fun h k => h.trans k) (fun V o o' ho hc => KpS.putObj (safeL (by omega) hc0) (Nat.le_succ _) (Nat.lt_succ_self _) ho hc) (fun _ => rfl)
    (fun pre V => ListI w7.heap.size w7 w8 (pre.map (·.1)) V) (fun _ _ _ => False) (listI_own rfl (by omega) _) (fun _ _ _ _ _ h _ _ => h) ⟨⟨_, hc0, Row.nil _ _ _ _⟩, hf0, hbW, Nat.le_refl _⟩
    ?hround ?done ?stop
  case hround =>
    rintro l2 pre x W hl2 hI hlt
    have hI0 := Lib.hid hI
    have hIs := hI.size
    gi_wp2
    refine ⟨keepsFrom_alloc _ _, fun W2 hg2 hz2 hnc => ?_⟩
    rw [World.size_alloc] at hz2
    have hz2a : W.heap.size + 1 ≤ W2.heap.size := by omega
    have hlW : l2 < W.heap.size + 1 := by
      obtain ⟨o, h, _⟩ := hnc
      have := (Array.getElem?_eq_some_iff.1 h).1
      rwa [World.size_alloc] at this
    clear hz2
    have hown := listI_own (bx := w7.heap.size) (w := w7) (w1 := w8) rfl (by omega) (fun (pre : List { c : CellA // c ∈ cellsFrom (hd :: ns) 3 }) => pre.map (·.1))
    have hI2 : ListI w7.heap.size w7 w8 (pre.map (·.1)) W2 := hown _ _ _ (some l2) (hown.alloc _ hI) hg2 (fun r e => by cases e; exact ⟨by omega, hnc⟩)
    have cell2 : ∀ {p : Addr} {v : Value}, (W.alloc (.cells #[.string x.1.row, .string x.1.col, .int .u64 x.1.ver, .bool x.1.gone, .string x.1.val] 26)).cell? p = some v → W2.cell? p = some v := fun {p v} hv => cell_kept hv hg2 (fun r e => by cases e; exact hnc)
    have y0 : W2.cell? ⟨W.heap.size, 0, none⟩ = some (.string x.1.row) := cell2 (by go_simp)
    have y1 : W2.cell? ⟨W.heap.size, 1, none⟩ = some (.string x.1.col) := cell2 (by go_simp)
    have y2 : W2.cell? ⟨W.heap.size, 2, none⟩ = some (.int .u64 x.1.ver) := cell2 (by go_simp)
    have y3 : W2.cell? ⟨W.heap.size, 3, none⟩ = some (.bool x.1.gone) := cell2 (by go_simp)
    have y4 : W2.cell? ⟨W.heap.size, 4, none⟩ = some (.string x.1.val) := cell2 (by go_simp)
    clear cell2 hown
    obtain ⟨v, hv, hO⟩ := hI2.ex
    obtain ⟨ao, cap, rfl, _⟩ := Own.cells hO
    have hIs2 := hI2.size
    have hIf := hI2.fro
    have HI := Lib.hid hI2
    have HO := Lib.hid hO
    have Hv := Lib.hid hv
    have Hhg := Lib.hid hg2
    have Hnc := Lib.hid hnc
    obtain ⟨acc, hacc⟩ : ∃ acc, acc = pre.map (·.1) := ⟨_, rfl⟩
    have Hacc := Lib.hid hacc
    rw [← hacc] at hv HO Hv HI
    have hal : acc.length ≤ 10 := by have h3 := congrArg List.length hcf; simp only [List.length_cons, List.length_nil] at h3; rw [hacc, List.length_map]; omega
    have Hal := Lib.hid hal
    clear hI2 hO hacc hal hlt hg2 hnc hI
    gi_wp2_with (gi_at_builtin; go_loud (refine wpListIn_append_at _ rfl _ _ 22 rfl w8.heap.size 26 i0 _ 5 64 Try.underlying22 Hi.out iz0 iz1 iz2 rfl (by decide) (.slice ao acc.length cap) _ _ rfl (Row.alloc HO.out _) rfl (cells_one _ _ x.1 _ rfl) (by have := Hal.out; omega) (by have := Hal.out; unfold maxLen; omega) (by go_size) ?_; intro v7 w9 hr7 hg7 ho7; obtain ⟨⟨hk1, hk2⟩, hI7, c7, f7, ao7, cap7, rfl⟩ := listI_step rfl (by omega) HI.out Hv.out (acc' := acc ++ [x.1]) rfl HO.out hr7 hg7 ho7 (w8.heap.size + 2); have HK1 := Lib.hid hk1; have HK2 := Lib.hid hk2; have HI7 := Lib.hid hI7; clear hr7 hg7 ho7 hk1 hk2 hI7))
    refine ⟨⟨HK1.out, ?_⟩, by show ListI _ _ _ ((pre ++ [x]).map (·.1)) _; rw [List.map_append, List.map_singleton, ← Hacc.out]; exact HI7.out⟩
    exact (KpS.below (safeL (by omega) hc0) ((Below.refl _ _).alloc (Nat.le_refl _) _)).trans ((kps_turn (safeL (by omega) hc0) Hhg.out (by omega) (by omega) Hnc.out).trans HK2.out)
  case stop => rintro D c pre V hD hp h hK; exact h.elim
  case done =>
    rintro D xs V hD hx hI hK
    obtain ⟨v, hv, hO⟩ := hI.ex
    rw [hx, Hcf.out] at hO
    obtain ⟨ao, cap, rfl, hCs⟩ := Own.cells hO
    have HSV := Lib.hid (HS3.out.below hI.bel)
    have BV := Lib.hid (B7.out.trans (hI.bel.mono z7))
    have zV := BV.out.size
    have hVl : w7.heap.size < V.heap.size := World.block_lt_of_cell? _ _ hv
    have HCs := Lib.hid hCs
    have HK := Lib.hid hK
    have hDV : D < V.heap.size := (Array.getElem?_eq_some_iff.1 hK).1
    have HO := Lib.hid hO
    have hF3 := Lib.hid HS3.out.inb
    clear hI hO hCs hK hx hc0 hf0 hbW k0 k1 k2 q1 q2 hC hns hcf
    go_wp2_with fail
    refine (get_sl _ _ _ _ _ _ HSV.out).mono ?_
    rw [wl3_get2]
    rintro e v1 ⟨rfl, hb⟩
    have H1 := Lib.hid hb
    have z1 := hb.size
    clear hb
    go_wp2_with fail
    refine (heights_wl3 _ _ _ (HSV.out.below (H1.out.alloc z1 _))).mono ?_
    rintro e v2 ⟨rfl, hT, hb⟩
    simp only [World.size_alloc] at hT hb ⊢
    have H2 := Lib.hid ((H1.out.alloc z1 _).trans (hb.mono (by omega)))
    have z2 := hb.size
    have HT := Lib.hid hT
    clear hb hT H1
    go_wp2_with fail
    obtain ⟨v3, hv3⟩ : ∃ X : World, X = v2.alloc (.cells #[.int .i64 3, .int .i64 2, .int .i64 2, .int .i64 1, .int .i64 1, .int .i64 1, .int .i64 1, .int .i64 1, .int .i64 1, .int .i64 1, .int .i64 1, .int .i64 1] 3) := ⟨_, rfl⟩
    rw [← hv3]
    have hb3 : Below v2.heap.size v2 v3 := by rw [hv3]; exact (Below.refl _ _).alloc (Nat.le_refl _) _
    have HTw : Hid (Twelve v3 v2.heap.size htF) := Lib.hid (by rw [hv3]; exact twelve_lit v2 _ htF _ (by rfl))
    have HTh := Lib.hid (HT.out.below hb3)
    have H3 := Lib.hid (H2.out.trans (hb3.mono (by have := H2.out.size; omega)))
    have z3 := H3.out.size
    clear hv3 hb3 HT H2
    go_loopw [8] (fun i wr => ∃ k : Nat, k ≤ 12 ∧ i = .int .i64 k ∧ Hid (Below v3.heap.size v3 wr)) (fun i _ => 12 - (intOf i).toNat)
    case atStart => exact ⟨0, by omega, rfl, Lib.hid (Below.refl _ _)⟩
    case round =>
      obtain ⟨k, hk, rfl, hB0⟩ := hrel
      have hzr := hB0.out.size
      by_cases hlt : k < 12
      · have c1 := (HTh.out.below hB0.out).c k hlt
        have c2 := (HTw.out.below hB0.out).c k hlt
        have l1 := (HTh.out.below hB0.out).lt
        have l2 := (HTw.out.below hB0.out).lt
        have hBr := hB0.out
        obtain ⟨f, hf⟩ : ∃ f, f = htF k := ⟨_, rfl⟩
        rw [← hf] at c1 c2
        clear hf
        go_wp2
        refine wp_region_below (by kernel_rfl) (by kernel_rfl) (fun hkept => ?_)
        obtain ⟨r0, rf0⟩ := hkept (v1.heap.size + 1) (by go_size); obtain ⟨r1, rf1⟩ := hkept (v2.heap.size) (by go_size); clear hkept
        repeat (any_goals (first | go_big_quiet_step (fail) | quiet_step (fail) | (refine wpQuiet_step (fun K hK => ?_); go_simp; split <;> (refine hK _ ?_; clear hK K))))
        all_goals (refine wpQuiet_nil ?_; intro w5 hb; obtain ⟨hB, hS, hk⟩ := after (B := v3.heap.size) (w := v3) (by go_grown) (by go_size) hb; obtain ⟨c0, f0, z0⟩ := hk (v1.heap.size + 1) (by go_size); obtain ⟨c1, f1, z1⟩ := hk (v2.heap.size) (by go_size); clear hk hb r0 rf0 r1 rf1)
        go_wp2
        exact ⟨⟨k + 1, by omega, by go_num, Lib.hid hB⟩, by simp [intOf]; omega⟩
      · obtain rfl : k = 12 := by omega
        go_wp2_with fail
        refine (at8_any _ _ _).mono ?_
        rintro e v4 ⟨rfl, hb⟩
        have H4 := Lib.hid ((H3.out.trans (hB0.out.mono z3)).trans (hb.mono (by omega)))
        have z4 := hb.size
        clear hb HTh HTw H3 hB0
        have z4V := H4.out.size
        go_wp2_with fail
        refine (put_sl gone2 gone2_ok.1 gone2_ok.2 1 (by decide) (by decide) _ _ _ _ (HSV.out.below (H4.out.alloc z4V _)) (by decide)).mono ?_
        rw [wl4_put]
        rintro e v5 ⟨rfl, F4, hS5, hk5, hf5⟩
        have z5 := hk5.size
        rw [World.size_alloc] at z5
        have hkeep : ∀ q, w7.heap.size ≤ q → q < V.heap.size → v5.heap[q]? = V.heap[q]? := fun q h1 h2 => by
          rw [hk5.block q (by rw [World.size_alloc]; omega) (fun h => by have := hF3.out q h; omega), Below.heap_alloc _ _ _ (by omega)]
          exact H4.out.block q h2
        have hk9 : v5.heap[v4.heap.size]? = (v4.alloc (.cells #[.string ⟨#[97]⟩, .string ⟨#[120]⟩, .int .u64 2, .bool true, .string ⟨#[]⟩] 26)).heap[v4.heap.size]? :=
          hk5.block _ (by rw [World.size_alloc]; omega) (fun h => by have := hF3.out _ h; omega)
        have B5 := Lib.hid ((BV.out.trans (H4.out.mono zV)).trans (((Below.refl v4.heap.size v4).alloc (Nat.le_refl _) (.cells #[.string ⟨#[97]⟩, .string ⟨#[120]⟩, .int .u64 2, .bool true, .string ⟨#[]⟩] 26)).mono (by omega) |>.trans (hk5.below HF3.out (by rw [World.size_alloc]; omega))))
        have X2 := Lib.hid ((World.cell?_of_block (a := ⟨w7.heap.size, 0, none⟩) (hkeep _ (Nat.le_refl _) hVl)).trans hv)
        have HO5 : Hid (Own v5 w8.heap.size (.slice ao _ cap) [at8 98 1]) := Lib.hid (Row.of_heap HO.out (fun q hq => hkeep q (by have := (Row.lt HO.out q hq).1; omega) (Row.lt HO.out q hq).2))
        have K5 := Lib.hid ((hkeep D (by omega) hDV).trans HK.out)
        have G9 : Hid (CellAt v5 v4.heap.size 0 gone2) := Lib.hid ⟨(World.cell?_of_block (a := ⟨v4.heap.size, 0, none⟩) hk9).trans (by go_simp; rfl), (World.cell?_of_block (a := ⟨v4.heap.size, 0 + 1, none⟩) hk9).trans (by go_simp; rfl), (World.cell?_of_block (a := ⟨v4.heap.size, 0 + 2, none⟩) hk9).trans (by go_simp; rfl), (World.cell?_of_block (a := ⟨v4.heap.size, 0 + 3, none⟩) hk9).trans (by go_simp; rfl), (World.cell?_of_block (a := ⟨v4.heap.size, 0 + 4, none⟩) hk9).trans (by go_simp; rfl)⟩
        have HS5 := Lib.hid hS5
        clear hS5 hk5 hf5 hkeep hk9 hv HO HCs HK HSV BV H4
        go_wp2_with fail
        refine (get_sl _ _ _ _ _ _ HS5.out).mono ?_
        rw [wl4_get]
        rintro e v6 ⟨rfl, hb⟩
        have H6 := Lib.hid hb
        have z6 := hb.size
        clear hb
        go_wp2_with fail
        refine (all_gen none _).mono ?_
        rintro e v7 ⟨rfl, hb, hz7, k0⟩
        simp only [World.size_alloc] at hz7 k0 hb ⊢
        have f0 : v7.cell? ⟨v6.heap.size, 0, none⟩ = some (.string ⟨#[97]⟩) := (hb.cell (p := ⟨v6.heap.size, 0, none⟩) (by simp only; omega)).trans (by go_simp)
        have f1 : v7.cell? ⟨v6.heap.size, 1, none⟩ = some (.string ⟨#[120]⟩) := (hb.cell (p := ⟨v6.heap.size, 1, none⟩) (by simp only; omega)).trans (by go_simp)
        have f2 : v7.cell? ⟨v6.heap.size, 2, none⟩ = some (.int .u64 2) := (hb.cell (p := ⟨v6.heap.size, 2, none⟩) (by simp only; omega)).trans (by go_simp)
        have f3 : v7.cell? ⟨v6.heap.size, 3, none⟩ = some (.bool true) := (hb.cell (p := ⟨v6.heap.size, 3, none⟩) (by simp only; omega)).trans (by go_simp)
        have f4 : v7.cell? ⟨v6.heap.size, 4, none⟩ = some (.string ⟨#[]⟩) := (hb.cell (p := ⟨v6.heap.size, 4, none⟩) (by simp only; omega)).trans (by go_simp)
        have f5 : v7.cell? ⟨v6.heap.size + 1, 0, none⟩ = some (.pointer none) := (hb.cell (p := ⟨v6.heap.size + 1, 0, none⟩) (by simp only; omega)).trans (by go_simp)
        have f6 : v7.cell? ⟨v6.heap.size + 1 + 1, 0, none⟩ = some (.int .i64 0) := (hb.cell (p := ⟨v6.heap.size + 1 + 1, 0, none⟩) (by simp only; omega)).trans (by go_simp)
        have HF := Lib.hid (show CellAt v7 v6.heap.size 0 gone2 from ⟨f0, f1, f2, f3, f4⟩)
        have H7 := Lib.hid (show Below v5.heap.size v5 v7 from (((H6.out.alloc z6 _).alloc (by rw [World.size_alloc]; omega) _).alloc (by simp only [World.size_alloc]; omega) _).trans (hb.mono (by omega)))
        clear hb H6 f0 f1 f2 f3 f4
        go_wp2
        refine (wpIn_wide (n := 20)).1 ?_
        refine range_round (n := 20) (by omega) (gf := 27) (lb := #[.pointer (some ⟨v6.heap.size + 1 + 1 + 1, 0, none⟩)]) rfl (enters_of Try.func27 (by kernel_rfl) rfl)
          (all1_none (encs := encC) (fun _ => rfl) (fun _ _ => True) 19 (by omega) _ none v7 (.inl rfl) k0)
          (fun _ _ => trivial) (fun _ _ _ _ _ => trivial) (fun _ => rfl) (fun (_ : List CellA) V => Below v7.heap.size v7 V) (fun _ _ _ => False) (below_own v7) (fun _ _ _ _ _ h _ _ => h) (Below.refl _ _) ?hround2 ?done2 ?stop2
        case hround2 => intro l2 pre x V _ _ h; exact absurd h (Nat.not_lt_zero _)
        case stop2 => rintro D c pre V hD hp _ _; exact hp.elim
        case done2 =>
          rintro D2 xs V2 hD2 rfl hI2 hK2
          have HI2 := Lib.hid hI2
          have HK2 := Lib.hid hK2
          have hD2V : D2 < V2.heap.size := (Array.getElem?_eq_some_iff.1 hK2).1
          have zV2 := hI2.size
          have e6 := (hI2.cell (p := ⟨v6.heap.size + 1 + 1, 0, none⟩) (by simp only; omega)).trans f6
          have e5 := (hI2.cell (p := ⟨v6.heap.size + 1, 0, none⟩) (by simp only; omega)).trans f5
          clear hI2 hK2 f5 f6 k0
          go_wp2_with fail
          refine (from_gen (some ⟨v6.heap.size + 1, 0, none⟩) _ _ _).mono ?_
          rintro e v8 ⟨rfl, hb, hz8, j0, j1, j2⟩
          have d6 := (hb.cell (p := ⟨v6.heap.size + 1 + 1, 0, none⟩) (by simp only; omega)).trans e6
          have d5 := (hb.cell (p := ⟨v6.heap.size + 1, 0, none⟩) (by simp only; omega)).trans e5
          have H8 := Lib.hid (HI2.out.trans (hb.mono zV2))
          have HK8 := Lib.hid ((hb.block D2 hD2V).trans HK2.out)
          clear hb e5 e6 HI2 HK2
          go_wp2
          refine (wpIn_wide (n := 20)).1 ?_
          refine range_round (n := 20) (by omega) (gf := 36) (lb := #[.pointer (some ⟨V2.heap.size, 0, none⟩), .pointer (some ⟨V2.heap.size + 1, 0, none⟩), .pointer (some ⟨V2.heap.size + 2, 0, none⟩)]) rfl (enters_of Try.func36 (by kernel_rfl) rfl)
            (from1_none (encs := encC) (fun _ _ => True) 19 _ _ _ (.pointer (some ⟨v6.heap.size + 1, 0, none⟩)) v8 (.inr ⟨_, rfl, d5⟩) j0)
            (fun _ _ => trivial) (fun _ _ _ _ _ => trivial) (fun _ => rfl) (fun (_ : List CellA) V => Below v8.heap.size v8 V) (fun _ _ _ => False) (below_own v8) (fun _ _ _ _ _ h _ _ => h) (Below.refl _ _) ?hround3 ?done3 ?stop3
          case hround3 => intro l2 pre x V _ _ h; exact absurd h (Nat.not_lt_zero _)
          case stop3 => rintro D c pre V hD hp _ _; exact hp.elim
          case done3 =>
            rintro D3 xs V3 hD3 rfl hI3 hK3
            have HI3 := Lib.hid hI3
            have HK3 := Lib.hid hK3
            have hD3V : D3 < V3.heap.size := (Array.getElem?_eq_some_iff.1 hK3).1
            have zV3 := hI3.size
            clear hI3 hK3 j0 j1 j2
            go_wp2_with fail
            refine (none_get (.pointer none) _ _ _ (.inl rfl)).mono ?_
            rintro e v9 ⟨rfl, hb⟩
            have H9 := Lib.hid (HI3.out.trans (hb.mono zV3))
            have z9 := hb.size
            have HK9 := Lib.hid ((hb.block D3 hD3V).trans HK3.out)
            clear hb HI3 HK3
            go_wp2_with fail
            obtain ⟨W0, hW0⟩ : ∃ X : World, X = v9.alloc (.cells #[.string ⟨#[]⟩, .string ⟨#[]⟩, .int .u64 0, .bool false, .string ⟨#[]⟩] 26) := ⟨_, rfl⟩
            rw [← hW0]
            have h90 : Below v9.heap.size v9 W0 := by rw [hW0]; exact (Below.refl _ _).alloc (Nat.le_refl _) _
            have z7' := H7.out.size
            have z8' := H8.out.size
            have z9' := H9.out.size
            have z0' := h90.size
            have h80 : Below v8.heap.size v8 W0 := H9.out.trans (h90.mono z9')
            have h70 : Below v7.heap.size v7 W0 := H8.out.trans (h80.mono z8')
            have h50 : Below v5.heap.size v5 W0 := H7.out.trans (h70.mono z7')
            have l0 : w7.heap.size < v5.heap.size := World.block_lt_of_cell? _ _ X2.out
            have l1 : v4.heap.size < v5.heap.size := World.block_lt_of_cell? _ _ G9.out.c0
            have l2 : v6.heap.size < v7.heap.size := World.block_lt_of_cell? _ _ HF.out.c0
            have l3 : v6.heap.size + 1 + 1 < v8.heap.size := World.block_lt_of_cell? _ _ d6
            have x0 := (h50.cell (p := ⟨w7.heap.size, 0, none⟩) l0).trans X2.out
            obtain ⟨a0, a1, a2, a3, a4⟩ := G9.out.same (h50.block _ l1)
            obtain ⟨b0, b1, b2, b3, b4⟩ := HF.out.same (h70.block _ l2)
            simp only [Nat.zero_add, gone2] at a0 a1 a2 a3 a4 b0 b1 b2 b3 b4
            have c0 := (h80.cell (p := ⟨v6.heap.size + 1 + 1, 0, none⟩) l3).trans d6
            have HE := Lib.hid (NoneL.below (w' := W0) (.inr ⟨_, rfl, d5⟩) h80)
            have HS0 := Lib.hid (HS5.out.below h50)
            obtain ⟨ao', cap', e', hC0⟩ := Own.cells_n (n := 1) (Row.below HO5.out h50) rfl
            cases e'
            have HC0 := Lib.hid hC0
            have KD : Hid (∀ q ∈ [D3, D2, D], W0.heap[q]? = some (.deferred (some []))) := Lib.hid (by
              intro q hq
              simp only [List.mem_cons, List.not_mem_nil, or_false] at hq
              rcases hq with rfl | rfl | rfl
              · exact (h90.block _ (Array.getElem?_eq_some_iff.1 HK9.out).1).trans HK9.out
              · exact (h80.block _ (Array.getElem?_eq_some_iff.1 HK8.out).1).trans HK8.out
              · exact (h50.block _ (Array.getElem?_eq_some_iff.1 K5.out).1).trans K5.out)
            have hD12 : D < D2 := by omega
            have hD23 : D2 < D3 := by omega
            have B0 := Lib.hid (B5.out.trans (h50.mono B5.out.size))
            have m0 : w7.heap.size < W0.heap.size := by omega
            have m1 : v4.heap.size < W0.heap.size := by omega
            have m2 : v6.heap.size < W0.heap.size := by omega
            have m3 : v6.heap.size + 1 + 1 < W0.heap.size := by omega
            have K2' := Lib.hid (at8_ok 97 1 (by decide) (by decide))
            have hz0 : (⟨#[97]⟩ : ByteArray).size ≤ maxLen := K2'.out.1.row
            have KL1 : Hid (∀ W, Below W0.heap.size W0 W → Calls Try.prog 17 #[.pointer (some ⟨w.heap.size + 1, 0, none⟩)] W fun e w' => e = .returned (.int .i64 3) ∧ Below W.heap.size W w') := Lib.hid fun W hW => same_below (len_sl _ _ _ W (HS0.out.below hW))
            have KL2 : Hid (∀ W, Calls Try.prog 17 #[.pointer none] W fun e w' => e = .returned (.int .i64 0) ∧ Below W.heap.size W w') := Lib.hid fun W => same_below (none_len _ W (.inl rfl))
            have KH : Hid (∀ W, Below W0.heap.size W0 W → Calls Try.prog 20 #[.pointer (some ⟨v6.heap.size + 1, 0, none⟩)] W fun e w' => e = .returned (.slice none 0 0) ∧ Below W.heap.size W w') := Lib.hid fun W hW => same_below (none_heights _ W (HE.out.below hW))
            have KP1 : Hid (∀ W, Below W0.heap.size W0 W → Calls Try.prog 12 #[.pointer (some ⟨w.heap.size + 1, 0, none⟩), .agg #[.string ⟨#[97]⟩, .string ⟨#[120]⟩, .int .u64 1, .bool false, .string ⟨#[]⟩], .int .i64 0] W fun e w' => e = .returned (.int .i64 2) ∧ Below W.heap.size W w') := Lib.hid fun W hW => put_bad (at8 97 1) K2'.out.1 0 (.inr (.inl (by decide))) _ _ _ W (HS0.out.below hW)
            have KP2 : Hid (∀ W, Below W0.heap.size W0 W → Calls Try.prog 12 #[.pointer (some ⟨w.heap.size + 1, 0, none⟩), .agg #[.string ⟨#[97]⟩, .string ⟨#[120]⟩, .int .u64 1, .bool false, .string ⟨#[]⟩], .int .i64 13] W fun e w' => e = .returned (.int .i64 2) ∧ Below W.heap.size W w') := Lib.hid fun W hW => put_bad (at8 97 1) K2'.out.1 13 (.inr (.inr (by decide))) _ _ _ W (HS0.out.below hW)
            have KP3 : Hid (∀ W, Below W0.heap.size W0 W → Calls Try.prog 12 #[.pointer (some ⟨w.heap.size + 1, 0, none⟩), .agg #[.string ⟨#[97]⟩, .string ⟨#[120]⟩, .int .u64 0, .bool false, .string ⟨#[]⟩], .int .i64 1] W fun e w' => e = .returned (.int .i64 2) ∧ Below W.heap.size W w') := Lib.hid fun W hW => put_bad (at8 97 0) ⟨K2'.out.1.row, K2'.out.1.col, K2'.out.1.val, by decide, by decide⟩ 1 (.inl (by decide +kernel)) _ _ _ W (HS0.out.below hW)
            have KP4 : Hid (∀ W, Below W0.heap.size W0 W → Calls Try.prog 12 #[.pointer none, .agg #[.string ⟨#[97]⟩, .string ⟨#[120]⟩, .int .u64 1, .bool false, .string ⟨#[]⟩], .int .i64 1] W fun e w' => e = .returned (.int .i64 1) ∧ Below W.heap.size W w') := Lib.hid fun W hW => none_put _ (at8 97 1) 1 W (.inl rfl)
            have KP5 : Hid (∀ W, Below W0.heap.size W0 W → Calls Try.prog 12 #[.pointer (some ⟨v6.heap.size + 1, 0, none⟩), .agg #[.string ⟨#[97]⟩, .string ⟨#[120]⟩, .int .u64 1, .bool false, .string ⟨#[]⟩], .int .i64 1] W fun e w' => e = .returned (.int .i64 1) ∧ Below W.heap.size W w') := Lib.hid fun W hW => none_put _ (at8 97 1) 1 W (HE.out.below hW)
            clear hW0 h90 h80 h70 h50 z7' z8' z9' z0' l0 l1 l2 l3 hC0 hz0 d5 d6
            simp only [List.append_eq, List.cons_append, List.nil_append]
            refine wp_region_free [(6, .lay [] LaidB), (7, .read [6] (.bool true))] 167 (by kernel_rfl) (by kernel_rfl) (by kernel_rfl) (by kernel_rfl) rfl (plainNoInit.of (by kernel_rfl)) (Keeps.of ?hS) (fun w1 hw1 => ?_)
            case hS =>
              intro p hp
              simp only [List.mem_cons, List.not_mem_nil, or_false] at hp
              rcases hp with rfl | rfl
              all_goals (intro v w w' h hg; first | exact LaidB.keeps h hg | exact trivial)
            obtain ⟨r0, rf0⟩ := base_cell hw1 m0
            obtain ⟨r1, rf1⟩ := base_cell hw1 m1
            obtain ⟨r2, rf2⟩ := base_cell hw1 m2
            obtain ⟨r3, rf3⟩ := base_cell hw1 m3
            refine free_seg 6 rfl ?_
            simp only [List.take_succ_cons, List.take_zero, List.drop_succ_cons, List.drop_zero]
            repeat (any_goals (first | go_big_quiet_step (first | (go_at_call 8; exact Calls.regrown_of (works8_any _)) | (go_at_call 22; exact Calls.regrown_of (at8_any _ _ _)) | (go_at_call 17; with_reducible exact Calls.regrown_of (KL1.out _ (base_below hw1 _ _))) | (go_at_call 17; with_reducible exact Calls.regrown_of (KL2.out _)) | (go_at_call 20; with_reducible exact Calls.regrown_of (KH.out _ (base_below hw1 _ _))) | (go_at_call 12; with_reducible exact Calls.regrown_of (KP1.out _ (base_below hw1 _ _))) | (go_at_call 12; with_reducible exact Calls.regrown_of (KP2.out _ (base_below hw1 _ _))) | (go_at_call 12; with_reducible exact Calls.regrown_of (KP3.out _ (base_below hw1 _ _))) | (go_at_call 12; with_reducible exact Calls.regrown_of (KP4.out _ (base_below hw1 _ _))) | (go_at_call 12; with_reducible exact Calls.regrown_of (KP5.out _ (base_below hw1 _ _)))) | quiet_step (first | (go_at_call 8; exact Calls.regrown_of (works8_any _)) | (go_at_call 22; exact Calls.regrown_of (at8_any _ _ _)) | (go_at_call 17; with_reducible exact Calls.regrown_of (KL1.out _ (base_below hw1 _ _))) | (go_at_call 17; with_reducible exact Calls.regrown_of (KL2.out _)) | (go_at_call 20; with_reducible exact Calls.regrown_of (KH.out _ (base_below hw1 _ _))) | (go_at_call 12; with_reducible exact Calls.regrown_of (KP1.out _ (base_below hw1 _ _))) | (go_at_call 12; with_reducible exact Calls.regrown_of (KP2.out _ (base_below hw1 _ _))) | (go_at_call 12; with_reducible exact Calls.regrown_of (KP3.out _ (base_below hw1 _ _))) | (go_at_call 12; with_reducible exact Calls.regrown_of (KP4.out _ (base_below hw1 _ _))) | (go_at_call 12; with_reducible exact Calls.regrown_of (KP5.out _ (base_below hw1 _ _))))))
            refine wpQuiet_nil ?_
            refine free_lay [] LaidB rfl (letter0w rfl (fun w7 hw7 => ?_)) ?_
            · go_simp
              exact ⟨Grown.of ((Below.refl _ _).alloc (Nat.le_refl _) _), _, rfl, cells_new w7 _ [at8 98 1] _ 1 _ (by rfl) rfl (by decide) rfl⟩
            simp only [Act.put, List.setIfInBounds_toArray, List.set_cons_succ, List.set_cons_zero]
            refine free_read [6] (.bool true) rfl (letter1w 6 (fun v => rfl) (fun v7 w7 hw7 hs => ?_)) ?_
            · obtain ⟨b7, rfl, hc7⟩ := hs
              simp only [dstOf, List.getElem?_toArray, List.getElem?_cons_succ, List.getElem?_cons_zero, Option.bind_some, Act.put, List.setIfInBounds_toArray, List.set_cons_succ, List.set_cons_zero]
              go_simp
              refine (same8_any _ _ 1 _ 1 _ [at8 98 1] [at8 98 1] _ (Arr.below HC0.out hw7) hc7).mono ?_
              rintro e w' ⟨rfl, hb⟩
              rw [sameC_self]
              first | exact ⟨rfl, Grown.of hb⟩ | exact ⟨Grown.of hb, rfl⟩ | exact Grown.of hb | exact ⟨_, rfl, Grown.of hb, rfl⟩ | (obtain ⟨p, hp⟩ := Grown.of hb; first | exact ⟨p, hp⟩ | exact ⟨p, rfl, hp⟩ | exact ⟨p, hp, rfl⟩ | exact ⟨rfl, p, hp⟩)
            simp only [Act.put, List.setIfInBounds_toArray, List.set_cons_succ, List.set_cons_zero]
            refine free_seg 72 rfl ?_
            simp only [List.take_succ_cons, List.take_zero, List.drop_succ_cons, List.drop_zero]
            repeat (any_goals (first | go_big_quiet_step (first | (go_at_call 8; exact Calls.regrown_of (works8_any _)) | (go_at_call 22; exact Calls.regrown_of (at8_any _ _ _)) | (go_at_call 17; with_reducible exact Calls.regrown_of (KL1.out _ (base_below hw1 _ _))) | (go_at_call 17; with_reducible exact Calls.regrown_of (KL2.out _)) | (go_at_call 20; with_reducible exact Calls.regrown_of (KH.out _ (base_below hw1 _ _))) | (go_at_call 12; with_reducible exact Calls.regrown_of (KP1.out _ (base_below hw1 _ _))) | (go_at_call 12; with_reducible exact Calls.regrown_of (KP2.out _ (base_below hw1 _ _))) | (go_at_call 12; with_reducible exact Calls.regrown_of (KP3.out _ (base_below hw1 _ _))) | (go_at_call 12; with_reducible exact Calls.regrown_of (KP4.out _ (base_below hw1 _ _))) | (go_at_call 12; with_reducible exact Calls.regrown_of (KP5.out _ (base_below hw1 _ _)))) | quiet_step (first | (go_at_call 8; exact Calls.regrown_of (works8_any _)) | (go_at_call 22; exact Calls.regrown_of (at8_any _ _ _)) | (go_at_call 17; with_reducible exact Calls.regrown_of (KL1.out _ (base_below hw1 _ _))) | (go_at_call 17; with_reducible exact Calls.regrown_of (KL2.out _)) | (go_at_call 20; with_reducible exact Calls.regrown_of (KH.out _ (base_below hw1 _ _))) | (go_at_call 12; with_reducible exact Calls.regrown_of (KP1.out _ (base_below hw1 _ _))) | (go_at_call 12; with_reducible exact Calls.regrown_of (KP2.out _ (base_below hw1 _ _))) | (go_at_call 12; with_reducible exact Calls.regrown_of (KP3.out _ (base_below hw1 _ _))) | (go_at_call 12; with_reducible exact Calls.regrown_of (KP4.out _ (base_below hw1 _ _))) | (go_at_call 12; with_reducible exact Calls.regrown_of (KP5.out _ (base_below hw1 _ _))))))
            refine wpQuiet_nil ?_
            refine free_nil ?_
            intro vs w10 hb10 _
            simp only [lays, Kd.laid, Bool.false_eq_true, if_true, if_false, putL, dstOf, List.getElem?_toArray, List.getElem?_cons_succ, List.getElem?_cons_zero, Option.bind_some, Act.put, List.setIfInBounds_toArray, List.set_cons_succ, List.set_cons_zero]
            have hDq : ∀ q ∈ [D3, D2, D], w.heap.size ≤ q := by
              intro q hq
              simp only [List.mem_cons, List.not_mem_nil, or_false] at hq
              rcases hq with rfl | rfl | rfl <;> omega
            have KD10 : ∀ q ∈ [D3, D2, D], w10.heap[q]? = some (.deferred (some [])) := fun q hq => (hb10.block q (Array.getElem?_eq_some_iff.1 (KD.out q hq)).1).trans (KD.out q hq)
            have B10 := (B0.out.trans (hb10.mono B0.out.size)).trans (takeN_keeps (ds := [D3, D2, D]) (fun q hq => ⟨_, KD10 q hq, rfl⟩) hDq).1
            clear hb10
            go_wp2
            exact postM_retN (v := .bool true) [D3, D2, D] rfl (by simp; omega) KD10 (by simp [results, Try.results5, go_sem]) ⟨rfl, B10⟩
end Go.Proofs.Ytlnfdejflpgleaa
