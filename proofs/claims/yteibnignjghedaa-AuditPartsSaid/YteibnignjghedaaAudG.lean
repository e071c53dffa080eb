/-
  Two logs: the walk of audit.forms.
-/
import Derived.Test.YteibnignjghedaaAudC
namespace Go.Proofs.Yteibnignjghedaa
open Go.RowKit Go.Shelf

attribute [local go_sem] Oper.semAt_some readsUpon
noncomputable def unlF (u : Bool) (l : List (EntA × EntA)) : Bool := u || l.any fun p => !sameE p.1 p.2
noncomputable def formsF : Bool → List (EntA × EntA) → Bool
  | _, [] => false
  | u, p :: r => ((u || !sameE p.1 p.2) && decide (p.1.term = p.2.term)) || formsF (u || !sameE p.1 p.2) r
noncomputable def formsL (a b : SeenA) : Bool := formsF false (commonL a b)
theorem unlF_snoc (u : Bool) (l : List (EntA × EntA)) (p : EntA × EntA) : unlF u (l ++ [p]) = (unlF u l || !sameE p.1 p.2) := by simp [unlF, List.any_append, Bool.or_assoc]
theorem formsF_snoc : ∀ (u : Bool) (l : List (EntA × EntA)) (p : EntA × EntA), formsF u (l ++ [p]) = (formsF u l || ((unlF u l || !sameE p.1 p.2) && decide (p.1.term = p.2.term)))
  | u, [], p => by simp [formsF, unlF]
  | u, q :: r, p => by
    rw [List.cons_append, formsF, formsF, formsF_snoc]
    have : unlF (u || !sameE q.1 q.2) r = unlF u (q :: r) := by simp [unlF, Bool.or_assoc]
    rw [this, Bool.or_assoc]
theorem formsF_prefix : ∀ (l r : List (EntA × EntA)) (u : Bool), formsF u l = true → formsF u (l ++ r) = true
  | [], _, _, h => by cases h
  | q :: l, r, u, h => by
    rw [formsF, Bool.or_eq_true] at h
    rw [List.cons_append, formsF, Bool.or_eq_true]
    exact h.imp id (formsF_prefix l r _)
theorem EntAt.kept {w W2 : World} {b o : Nat} {e : EntA} {row : Option Nat} (h : EntAt w b o e) (hg : w.grownBy W2 row) (hr : ∀ r, row = some r → ∃ o : Obj, w.heap[r]? = some o ∧ o.isCells = false) : EntAt W2 b o e :=
  fun j v hv => cell_kept (h j v hv) hg hr

theorem mem_common {a b : SeenA} {x y : EntA} (h : (x, y) ∈ commonL a b) : x ∈ a.es ∧ y ∈ b.es := by
  obtain ⟨z, hz, he⟩ := List.mem_filterMap.1 h
  unfold pairL at he
  split at he
  · cases he
  · cases hy : b.es[(z.idx - b.bidx - 1).toNat]? with
    | none => rw [hy] at he; cases he
    | some q => rw [hy] at he; cases he; exact ⟨hz, List.mem_of_getElem? hy⟩
structure FormI (w W1 : World) (R G : Nat) (r u : Bool) (V : World) : Prop where
  bel : Below w.heap.size w V
  size : W1.heap.size ≤ V.heap.size
  r0 : V.cell? ⟨R, 0, none⟩ = some (.bool r)
  rf : V.frozen? ⟨R, 0, none⟩ = false
  u0 : V.cell? ⟨G, 0, none⟩ = some (.bool u)
  uf : V.frozen? ⟨G, 0, none⟩ = false
theorem FormI.own {w W1 V V' : World} {R G : Nat} {r u : Bool} {row : Option Nat} (h : FormI w W1 R G r u V) (hw : w.heap.size ≤ W1.heap.size) (hg : V.grownBy V' row) (hr : ∀ q, row = some q → W1.heap.size ≤ q ∧ ∃ o : Obj, V.heap[q]? = some o ∧ o.isCells = false) : FormI w W1 R G r u V' :=
  ⟨h.bel.grown hg (Nat.le_trans hw h.size) (fun k e => by have := (hr k e).1; omega), Nat.le_trans h.size hg.size, cell_kept h.r0 hg (fun q e => (hr q e).2), (frozen_kept h.r0 hg (fun q e => (hr q e).2)).trans h.rf, cell_kept h.u0 hg (fun q e => (hr q e).2), (frozen_kept h.u0 hg (fun q e => (hr q e).2)).trans h.uf⟩
theorem FormI.below {w W1 V V' : World} {R G : Nat} {r u : Bool} (h : FormI w W1 R G r u V) (hb : Below V.heap.size V V') : FormI w W1 R G r u V' :=
  ⟨h.bel.trans (hb.mono h.bel.size), Nat.le_trans h.size hb.size, (hb.cell (p := ⟨R, 0, none⟩) (World.block_lt_of_cell? _ _ h.r0)).trans h.r0, (hb.frozen (p := ⟨R, 0, none⟩) (World.block_lt_of_cell? _ _ h.r0)).trans h.rf, (hb.cell (p := ⟨G, 0, none⟩) (World.block_lt_of_cell? _ _ h.u0)).trans h.u0, (hb.frozen (p := ⟨G, 0, none⟩) (World.block_lt_of_cell? _ _ h.u0)).trans h.uf⟩
theorem FormI.flag {w W1 V : World} {R G : Nat} {r u : Bool} (h : FormI w W1 R G r u V) (hne : R ≠ G) (hG : w.heap.size ≤ G) (u' : Bool) : FormI w W1 R G r u' (V.setCell ⟨G, 0, none⟩ (.bool u')) :=
  ⟨h.bel.setCell hG _, by rw [World.size_setCell]; exact h.size, (World.cell?_setCell_other _ _ _ _ (fun e => hne (by cases e; rfl))).trans h.r0, by rw [World.frozen?_setCell]; exact h.rf, World.cell?_setCell_same _ _ _ h.u0, by rw [World.frozen?_setCell]; exact h.uf⟩
theorem FormI.res {w W1 V : World} {R G : Nat} {r u : Bool} (h : FormI w W1 R G r u V) (hne : R ≠ G) (hR : w.heap.size ≤ R) (r' : Bool) : FormI w W1 R G r' u (V.setCell ⟨R, 0, none⟩ (.bool r')) :=
  ⟨h.bel.setCell hR _, by rw [World.size_setCell]; exact h.size, World.cell?_setCell_same _ _ _ h.r0, by rw [World.frozen?_setCell]; exact h.rf, (World.cell?_setCell_other _ _ _ _ (fun e => hne (by cases e; rfl))).trans h.u0, by rw [World.frozen?_setCell]; exact h.uf⟩

set_option maxRecDepth 100000 in
set_option maxHeartbeats 8000000 in
theorem forms_any (a b : SeenA) (w : World) (ha : a.In w) (hb : b.In w) (hoa : a.Ok) (hob : b.Ok) :
    Calls Try.prog 20 #[a.v, b.v] w fun e w' => e = .returned (.bool (formsL a b)) ∧ Below w.heap.size w w' := by
  have Ha := Lib.hid ha
  have Hb := Lib.hid hb
  have Hoa := Lib.hid hoa
  have Hob := Lib.hid hob
  simp only [SeenA.v]
  clear ha hb hoa hob
  refine callsIn_wide.1 (callsIn_of_wp_marks (F := Fence.wide) (n := 20) Try.func20 rfl trivial ?_ rfl); refine wpIn_wide.2 ?_; simp only [Try.ntmps20, List.size_toArray, List.length_cons, List.length_nil, Nat.reduceAdd, Nat.reduceSub, Array.replicate_succ, Array.replicate_zero, List.push_toArray, List.append_toArray, List.nil_append, List.cons_append]
  go_upto_region 2 with fail
  obtain ⟨W, hW⟩ : ∃ W : World, W = (((w.alloc (.cells a.l.toArray 49)).alloc (.cells b.l.toArray 49)).alloc (.cells #[.bool false] 4)).alloc (.cells #[.bool false] 4) := ⟨_, rfl⟩
  have hbW : Below w.heap.size w W := by rw [hW]; exact ((((Below.refl _ _).alloc (Nat.le_refl _) _).alloc (by simp) _).alloc (by simp; omega) _).alloc (by simp; omega) _
  have hzW : W.heap.size = w.heap.size + 4 := by rw [hW]; simp
  have hA0 : SeenAt W w.heap.size 0 a := by
    rw [hW]
    exact (SeenAt.new w a _).below ((((Below.refl _ _).alloc (Nat.le_refl _) _).alloc (by simp) _).alloc (by simp) _)
  have hB0 : SeenAt W (w.heap.size + 1) 0 b := by
    rw [hW]
    have := SeenAt.new (w.alloc (.cells a.l.toArray 49)) b 49
    rw [World.size_alloc] at this
    exact this.below (((Below.refl _ _).alloc (Nat.le_refl _) _).alloc (by simp) _)
  obtain ⟨R, hR⟩ : ∃ R, R = w.heap.size + 1 + 1 := ⟨_, rfl⟩
  obtain ⟨G, hG⟩ : ∃ G, G = w.heap.size + 1 + 1 + 1 := ⟨_, rfl⟩
  have r0 : W.cell? ⟨R, 0, none⟩ = some (.bool false) := by rw [hW, hR]; go_simp
  have r1 : W.frozen? ⟨R, 0, none⟩ = false := by rw [hW, hR]; go_simp
  have u0 : W.cell? ⟨G, 0, none⟩ = some (.bool false) := by rw [hW, hG]; go_simp
  have u1 : W.frozen? ⟨G, 0, none⟩ = false := by rw [hW, hG]; go_simp
  rw [← hW, ← hG, ← hR]
  have hRG : R ≠ G := by omega
  have hwR : w.heap.size ≤ R := by omega
  have hwG : w.heap.size ≤ G := by omega
  have hRW : R < W.heap.size := by omega
  have hGW : G < W.heap.size := by omega
  have HR1 : Hid (R = w.heap.size + 2) := Lib.hid (by omega)
  have HG1 : Hid (G = w.heap.size + 3) := Lib.hid (by omega)
  have HL1 := Lib.hid hA0.load
  have HL2 := Lib.hid hB0.load
  have hwW0 : w.heap.size ≤ W.heap.size := by omega
  clear hW hR hG hA0 hB0 hzW
  go_wp2_with (refine wpList_loadK rfl (by rfl) rfl (by first | exact HL1.out | exact HL2.out) ?_; simp only [Act.put, List.setIfInBounds_toArray, List.set_cons_succ, List.set_cons_zero])
  refine (common_any a b _).mono ?_
  rintro e w' ⟨rfl, rfl⟩
  obtain ⟨W1, hW1⟩ : ∃ W1 : World, W1 = (W.alloc (.cells a.l.toArray 49)).alloc (.cells b.l.toArray 49) := ⟨_, rfl⟩
  have hb1 : Below W.heap.size W W1 := by rw [hW1]; exact ((Below.refl _ _).alloc (Nat.le_refl _) _).alloc (by simp) _
  have hz1 : W1.heap.size = W.heap.size + 2 := by rw [hW1]; simp
  have hA1 : SeenAt W1 W.heap.size 0 a := by
    rw [hW1]
    exact (SeenAt.new W a _).below ((Below.refl _ _).alloc (Nat.le_refl _) _)
  have hB1 : SeenAt W1 (W.heap.size + 1) 0 b := by
    rw [hW1]
    have := SeenAt.new (W.alloc (.cells a.l.toArray 49)) b 49
    rw [World.size_alloc] at this
    exact this
  have hF1 : FormI w W1 R G false false W1 := ⟨hbW.trans (hb1.mono hbW.size), Nat.le_refl _, (hb1.cell (p := ⟨R, 0, none⟩) hRW).trans r0, (hb1.frozen (p := ⟨R, 0, none⟩) hRW).trans r1, (hb1.cell (p := ⟨G, 0, none⟩) hGW).trans u0, (hb1.frozen (p := ⟨G, 0, none⟩) hGW).trans u1⟩
  have HF1 := Lib.hid hF1
  have hbw1 := hF1.bel
  have HA1 := Lib.hid hA1
  have HB1 := Lib.hid hB1
  have HbW := Lib.hid hbW
  rw [← hW1]
  clear hW1 hb1 hA1 hB1 hF1 r0 r1 u0 u1 HL1 HL2 hbW
  have hwW : w.heap.size ≤ W1.heap.size := by omega
  go_wp2
  refine (wpIn_wide (n := 20)).1 ?_
  refine range_round (n := 20) (by omega) (gf := 61) (lb := #[.pointer (some ⟨W.heap.size, 0, none⟩), .pointer (some ⟨W.heap.size + 1, 0, none⟩)]) rfl (enters_of Try.func61 (by kernel_rfl) rfl)
    (common1_seq 19 (by omega) W.heap.size (W.heap.size + 1) a b W1 HA1.out HB1.out (Ha.out.below hbw1) (Hb.out.below hbw1) Hoa.out Hob.out (fun q => q < W1.heap.size ∧ q ≠ R ∧ q ≠ G) ⟨by omega, by omega, by omega⟩ ⟨by omega, by omega, by omega⟩
      (fun h0 x hx => by
        obtain ⟨b', off, e, hl⟩ := Arr.base Ha.out.es.arr h0
        rw [hx] at e; cases e
        exact ⟨by simp only; omega, by simp only; omega, by simp only; omega⟩)
      (fun h0 x hx => by
        obtain ⟨b', off, e, hl⟩ := Arr.base Hb.out.es.arr h0
        rw [hx] at e; cases e
        exact ⟨by simp only; omega, by simp only; omega, by simp only; omega⟩))
    (fun h k => h.trans k) (fun V o o' ho hc => KB.putObj V o' ho (fun hs => by have := hs.1; omega)) (fun _ => rfl)
    (fun (pre : List { p : EntA × EntA // p ∈ commonL a b }) V => FormI w W1 R G false (unlF false (pre.map (·.1))) V ∧ formsF false (pre.map (·.1)) = false)
    (fun cd (pre : List { p : EntA × EntA // p ∈ commonL a b }) V => cd = .ret ∧ (∃ u, FormI w W1 R G true u V) ∧ formsF false (pre.map (·.1)) = true)
    ?hI ?hIx ⟨HF1.out, rfl⟩ ?hround ?done ?stop
  case hI =>
    rintro pre A B row ⟨h1, h2⟩ hg hr
    exact ⟨h1.own hwW hg hr, h2⟩
  case hIx =>
    rintro cd pre A B row ⟨h0, ⟨u, h1⟩, h2⟩ hg hr
    exact ⟨h0, ⟨u, h1.own hwW hg hr⟩, h2⟩
  case hround =>
    rintro l2 pre ⟨⟨x, y⟩, hxy⟩ V hl2 ⟨hI, hpre⟩ hlt
    simp only [EntA.v]
    gi_wp2_with (refine wpListIn_storeN (fun _ => trivial) rfl rfl rfl rfl (by first | rfl | simp) (by kernel_rfl) (by rfl) (EntA.all _) ?_; simp only [Act.put, List.setIfInBounds_toArray, List.set_cons_succ, List.set_cons_zero])
    refine ⟨(keepsFrom_alloc _ _).trans (keepsFrom_alloc _ _), fun W2 hg2 hz2 hnc => ?_⟩
    rw [World.size_alloc, World.size_alloc] at hz2
    have hl2 : l2 = W1.heap.size + 1 := hl2
    obtain ⟨hxm, hym⟩ := mem_common hxy
    have hzV := hI.size
    have hbA : Below V.heap.size V ((V.alloc (.cells x.l.toArray 60)).alloc (.cells y.l.toArray 60)) := ((Below.refl _ _).alloc (Nat.le_refl _) _).alloc (by simp) _
    have hnr : ∀ r, some l2 = some r → ∃ o : Obj, ((V.alloc (.cells x.l.toArray 60)).alloc (.cells y.l.toArray 60)).heap[r]? = some o ∧ o.isCells = false := fun r e => by cases e; exact hnc
    have hX2 : EntAt W2 V.heap.size 0 x := ((EntAt.new V x 60).below ((Below.refl _ _).alloc (Nat.le_refl _) _)).kept hg2 hnr
    have hY2 : EntAt W2 (V.heap.size + 1) 0 y := by
      have := EntAt.new (V.alloc (.cells x.l.toArray 60)) y 60
      rw [World.size_alloc] at this
      exact this.kept hg2 hnr
    have hI2 : FormI w W1 R G false (unlF false (pre.map (·.1))) W2 := (hI.below hbA).own hwW hg2 (fun q e => by cases e; exact ⟨by omega, hnc⟩)
    have hKB2 : KB (fun q => q < W1.heap.size ∧ q ≠ R ∧ q ≠ G) V W2 := (KB.of_below hbA).trans ⟨hg2.size, fun k hs hk => hg2.block k hk (fun e => by have := Option.some.inj e; have := hs.1; omega)⟩
    have HLx := Lib.hid hX2.load
    have HLy := Lib.hid hY2.load
    have tx := hX2.term
    have ty := hY2.term
    have hxw : x.In W2 := (Ha.out.es.mem x hxm).below hI2.bel
    have hyw : y.In W2 := (Hb.out.es.mem y hym).below hI2.bel
    have KS := Lib.hid fun (Z : World) (hZ : Below W2.heap.size W2 Z) => ssame_any x y Z (hxw.below hZ) (hyw.below hZ)
    simp only [EntA.v] at KS
    simp only [Nat.zero_add] at tx ty
    have Hsn := Lib.hid (unlF_snoc false (pre.map (·.1)) (x, y))
    have HNP := Lib.hid (show (pre ++ [(⟨(x, y), hxy⟩ : { p : EntA × EntA // p ∈ commonL a b })]).map (·.1) = pre.map (·.1) ++ [(x, y)] by rw [List.map_append]; rfl)
    have Hfs : Hid (formsF false (pre.map (·.1) ++ [(x, y)]) = ((unlF false (pre.map (·.1)) || !sameE x y) && decide (x.term = y.term))) := Lib.hid (by
      exact (formsF_snoc false (pre.map (·.1)) (x, y)).trans (by rw [hpre, Bool.false_or]))
    have Hun : Hid (unlF false (pre.map (·.1) ++ [(x, y)]) = (unlF false (pre.map (·.1)) || !sameE x y)) := Lib.hid (by
      exact unlF_snoc false (pre.map (·.1)) (x, y))
    have HI2 := Lib.hid hI2
    have HKB := Lib.hid hKB2
    have hpl : V.heap.size < W2.heap.size := by omega
    have hpl1 : V.heap.size + 1 < W2.heap.size := by omega
    have hv1 : ¬ G = V.heap.size := by omega
    have hv2 : ¬ G = V.heap.size + 1 := by omega
    have hv3 : ¬ R = V.heap.size := by omega
    have hv4 : ¬ R = V.heap.size + 1 := by omega
    obtain ⟨U, hU⟩ : ∃ U, U = unlF false (pre.map (·.1)) := ⟨_, rfl⟩
    obtain ⟨Q, hQ⟩ : ∃ Q, Q = sameE x y := ⟨_, rfl⟩
    have i0 := hI2.r0
    have i1 := hI2.rf
    have i2 := hI2.u0
    have i3 := hI2.uf
    rw [← hU] at Hfs Hun HI2 i2
    rw [← hQ] at Hfs Hun KS
    clear hX2 hY2 hI2 hKB2 hU hQ hxw hyw hg2 hnc hnr hbA hI hpre Hsn
    cases U
    · cases Q
      · by_cases ht : x.term = y.term
        · have t0 : (x.term == y.term) = true := by simpa using ht
          have hff : Hid (formsF false (pre.map (·.1) ++ [(x, y)]) = true) := Lib.hid (by rw [Hfs.out]; simp [ht])
          clear ht
          gi_wp2_with (first | (refine wpListIn_loadK (fun _ => trivial) rfl (by rfl) rfl (by first | exact HLx.out | exact HLy.out) ?_; simp only [Act.put, List.setIfInBounds_toArray, List.set_cons_succ, List.set_cons_zero]) | (refine ⟨trivial, ?_⟩; gi_at_call 40; refine (CallsIn.inRound _ (callsIn_wide.2 (KS.out _ (Below.refl _ _)))).mono ?_; rintro e W5 ⟨rfl, hb5⟩; have HB5 := Lib.hid hb5; have hI5 := HI2.out.below hb5; have i0 := hI5.r0; have i1 := hI5.rf; have i2 := hI5.u0; have i3 := hI5.uf; have j1 := (hb5.cell (p := ⟨V.heap.size, _, none⟩) hpl).trans tx; have j2 := (hb5.cell (p := ⟨V.heap.size + 1, _, none⟩) hpl1).trans ty; have HI5 := Lib.hid hI5; have hz5 := hb5.size; clear hb5 hI5))
          refine ⟨⟨?_, ?_⟩, rfl, ⟨true, ((HI5.out.flag hRG hwG true).res hRG hwR true)⟩, by rw [HNP.out]; exact hff.out⟩
          · exact (keepsFrom_below HB5.out).trans ((keepsFrom_setCell _ _ _).trans (keepsFrom_setCell _ _ _))
          · exact HKB.out.trans (((KB.of_below HB5.out).setCell (fun hs => hs.2.2 rfl) _).setCell (fun hs => hs.2.1 rfl) _)
        · have t0 : (x.term == y.term) = false := by simpa using ht
          have hff : Hid (formsF false (pre.map (·.1) ++ [(x, y)]) = false) := Lib.hid (by rw [Hfs.out]; simp [ht])
          have huu : Hid (unlF false (pre.map (·.1) ++ [(x, y)]) = true) := Lib.hid (by rw [Hun.out]; rfl)
          clear ht
          gi_wp2_with (first | (refine wpListIn_loadK (fun _ => trivial) rfl (by rfl) rfl (by first | exact HLx.out | exact HLy.out) ?_; simp only [Act.put, List.setIfInBounds_toArray, List.set_cons_succ, List.set_cons_zero]) | (refine ⟨trivial, ?_⟩; gi_at_call 40; refine (CallsIn.inRound _ (callsIn_wide.2 (KS.out _ (Below.refl _ _)))).mono ?_; rintro e W5 ⟨rfl, hb5⟩; have HB5 := Lib.hid hb5; have hI5 := HI2.out.below hb5; have i0 := hI5.r0; have i1 := hI5.rf; have i2 := hI5.u0; have i3 := hI5.uf; have j1 := (hb5.cell (p := ⟨V.heap.size, _, none⟩) hpl).trans tx; have j2 := (hb5.cell (p := ⟨V.heap.size + 1, _, none⟩) hpl1).trans ty; have HI5 := Lib.hid hI5; have hz5 := hb5.size; clear hb5 hI5))
          refine ⟨⟨?_, ?_⟩, ?_, by rw [HNP.out]; exact hff.out⟩
          · exact (keepsFrom_below HB5.out).trans (keepsFrom_setCell _ _ _)
          · exact HKB.out.trans ((KB.of_below HB5.out).setCell (fun hs => hs.2.2 rfl) _)
          · rw [HNP.out, huu.out]; exact HI5.out.flag hRG hwG true
      · have hff : Hid (formsF false (pre.map (·.1) ++ [(x, y)]) = false) := Lib.hid (by rw [Hfs.out]; rfl)
        have huu : Hid (unlF false (pre.map (·.1) ++ [(x, y)]) = false) := Lib.hid (by rw [Hun.out]; rfl)
        gi_wp2_with (first | (refine wpListIn_loadK (fun _ => trivial) rfl (by rfl) rfl (by first | exact HLx.out | exact HLy.out) ?_; simp only [Act.put, List.setIfInBounds_toArray, List.set_cons_succ, List.set_cons_zero]) | (refine ⟨trivial, ?_⟩; gi_at_call 40; refine (CallsIn.inRound _ (callsIn_wide.2 (KS.out _ (Below.refl _ _)))).mono ?_; rintro e W5 ⟨rfl, hb5⟩; have HB5 := Lib.hid hb5; have hI5 := HI2.out.below hb5; have i0 := hI5.r0; have i1 := hI5.rf; have i2 := hI5.u0; have i3 := hI5.uf; have j1 := (hb5.cell (p := ⟨V.heap.size, _, none⟩) hpl).trans tx; have j2 := (hb5.cell (p := ⟨V.heap.size + 1, _, none⟩) hpl1).trans ty; have HI5 := Lib.hid hI5; have hz5 := hb5.size; clear hb5 hI5))
        refine ⟨⟨?_, ?_⟩, ?_, by rw [HNP.out]; exact hff.out⟩
        · exact (keepsFrom_below HB5.out).trans (keepsFrom_setCell _ _ _)
        · exact HKB.out.trans ((KB.of_below HB5.out).setCell (fun hs => hs.2.2 rfl) _)
        · rw [HNP.out, huu.out]; exact HI5.out.flag hRG hwG false
    · by_cases ht : x.term = y.term
      · have t0 : (x.term == y.term) = true := by simpa using ht
        have hff : Hid (formsF false (pre.map (·.1) ++ [(x, y)]) = true) := Lib.hid (by rw [Hfs.out]; simp [ht])
        clear ht
        gi_wp2_with fail
        refine ⟨trivial, ?_⟩
        gi_wp2_with fail
        refine ⟨⟨?_, ?_⟩, rfl, ⟨true, ((HI2.out.flag hRG hwG true).res hRG hwR true)⟩, by rw [HNP.out]; exact hff.out⟩
        · exact (keepsFrom_setCell _ _ _).trans (keepsFrom_setCell _ _ _)
        · exact HKB.out.trans (((KB.refl _ _).setCell (fun hs => hs.2.2 rfl) _).setCell (fun hs => hs.2.1 rfl) _)
      · have t0 : (x.term == y.term) = false := by simpa using ht
        have hff : Hid (formsF false (pre.map (·.1) ++ [(x, y)]) = false) := Lib.hid (by rw [Hfs.out]; simp [ht])
        have huu : Hid (unlF false (pre.map (·.1) ++ [(x, y)]) = true) := Lib.hid (by rw [Hun.out]; rfl)
        clear ht
        gi_wp2_with fail
        refine ⟨trivial, ?_⟩
        gi_wp2_with fail
        refine ⟨⟨?_, ?_⟩, ?_, by rw [HNP.out]; exact hff.out⟩
        · exact keepsFrom_setCell _ _ _
        · exact HKB.out.trans ((KB.refl _ _).setCell (fun hs => hs.2.2 rfl) _)
        · rw [HNP.out, huu.out]; exact HI2.out.flag hRG hwG true
  case done =>
    rintro D xs V hD hx ⟨hI, hf⟩ hK
    have hf2 : formsL a b = false := by rw [formsL, ← hx]; exact hf
    have i0 := hI.r0
    have i1 := hI.rf
    have HI := Lib.hid hI
    have hD2 : w.heap.size ≤ D := Nat.le_trans hwW hD
    have HK := Lib.hid hK
    have Hf2 := Lib.hid hf2
    clear hI hK hf hx hf2
    go_wp2_with fail
    have hKs := (KeepsOthers.setCell V ⟨R, 0, none⟩ (.bool false)).same D _ HK.out rfl
    have t0 : (V.setCell ⟨R, 0, none⟩ (.bool false)).cell? ⟨R, 0, none⟩ = some (.bool false) := World.cell?_setCell_same _ _ _ i0
    have t1 := cell_put (o' := .deferred none) hKs rfl t0
    exact postM_ret1 (v := .bool false) rfl hKs (by simp [results, Try.results20, go_sem, t1]) ⟨by rw [Hf2.out], ((HI.out.bel.setCell hwR _).trans (below_put hKs hD2))⟩
  case stop =>
    rintro D cd pre V hD hp ⟨rfl, ⟨u, hI⟩, hf⟩ hK
    have hf2 : formsL a b = true := by
      obtain ⟨r, hr⟩ := hp
      rw [formsL, ← hr]
      exact formsF_prefix _ _ _ hf
    have hD2 : w.heap.size ≤ D := Nat.le_trans hwW hD
    refine wpIn_wide.2 ?_
    go_wp2_with fail
    have t1 := cell_put (o' := .deferred none) hK rfl hI.r0
    exact postM_ret1 (v := .bool true) rfl hK (by simp [results, Try.results20, go_sem, t1]) ⟨by rw [hf2], hI.bel.trans (below_put hK hD2)⟩
end Go.Proofs.Yteibnignjghedaa

/-
  Two logs: the walks of audit.based, audit.busy.
-/
namespace Go.Proofs.Yteibnignjghedaa
open Go.RowKit Go.Shelf

attribute [local go_sem] Oper.semAt_some readsUpon
/-- the entry of an index, by its place -/
def atX (b : SeenA) (n : Int) : Option EntA := if n ≤ b.bidx ∨ (b.es.length : Int) < n - b.bidx then none else b.es[(n - b.bidx - 1).toNat]?
def basedL (a b : SeenA) (most : Int) : Bool := if a.bidx = 0 ∨ most < a.bidx then false else if a.bidx = b.bidx then !decide (a.bterm = b.bterm) else match atX b a.bidx with
  | none => false
  | some e => !decide (e.term = a.bterm)
noncomputable def busyF (most : Int) (l : List (EntA × EntA)) : Bool := l.any fun p => decide (p.1.idx ≤ most) && !sameE p.1 p.2
noncomputable def busyL (a b : SeenA) : Bool := busyF (min a.com b.com) (commonL a b) || basedL a b (min a.com b.com) || basedL b a (min a.com b.com)

set_option maxRecDepth 100000 in
set_option maxHeartbeats 4000000 in
theorem based_any (a b : SeenA) (most : Int) (w : World) (ha : a.In w) (hb : b.In w) (hoa : a.Ok) (hob : b.Ok) :
    Calls Try.prog 41 #[a.v, b.v, .int .u64 most] w fun e w' => e = .returned (.bool (basedL a b most)) ∧ Below w.heap.size w w' := by
  obtain ⟨R, hR⟩ : ∃ R, R = basedL a b most := ⟨_, rfl⟩
  rw [← hR]
  have HR : Hid (R = if a.bidx = 0 ∨ most < a.bidx then false else if a.bidx = b.bidx then !decide (a.bterm = b.bterm) else match atX b a.bidx with
    | none => false
    | some e => !decide (e.term = a.bterm)) := Lib.hid hR
  have Hb := Lib.hid hb
  have hc1 := Arr.fits hb.es.arr
  have hc2 := Arr.max hb.es.arr
  unfold maxLen at hc2
  have Hn := Lib.hid hb.es.len
  have hi0 := hoa.i0
  have hi1 := hoa.i1
  have hj0 := hob.i0
  have hj1 := hob.i1
  simp only [SeenA.v]
  clear hR ha hb hoa hob
  go_enter Try.func41, Try.ntmps41
  go_upto_region 1 with fail
  obtain ⟨W, hW⟩ : ∃ W : World, W = (w.alloc (.cells a.l.toArray 49)).alloc (.cells b.l.toArray 49) := ⟨_, rfl⟩
  have hbW : Below w.heap.size w W := by rw [hW]; exact ((Below.refl _ _).alloc (Nat.le_refl _) _).alloc (by simp) _
  have hA : SeenAt W w.heap.size 0 a := by
    rw [hW]
    exact (SeenAt.new w a _).below ((Below.refl _ _).alloc (Nat.le_refl _) _)
  have hB : SeenAt W (w.heap.size + 1) 0 b := by
    rw [hW]
    have := SeenAt.new (w.alloc (.cells a.l.toArray 49)) b 49
    rw [World.size_alloc] at this
    exact this
  obtain ⟨p, hp⟩ : ∃ p, p = w.heap.size + 1 := ⟨_, rfl⟩
  rw [← hW, ← hp]
  rw [← hp] at hB
  have x6 := hA.at_ 6 _ rfl
  have x7 := hA.at_ 7 _ rfl
  have y6 := hB.at_ 6 _ rfl
  have y7 := hB.at_ 7 _ rfl
  have y9 := hB.at_ 9 _ rfl
  simp only [Nat.zero_add] at x6 x7 y6 y7 y9
  have hl1 := hA.lt
  have hl2 := hB.lt
  clear hW hA hB hp
  by_cases s0 : a.bidx = 0 ∨ most < a.bidx
  · have hRf : Hid (R = false) := Lib.hid (by rw [HR.out, if_pos s0])
    have s1 : a.bidx = 0 ∨ (¬ a.bidx = 0 ∧ most < a.bidx) := by omega
    clear s0
    rcases s1 with s1 | ⟨s1, s2⟩
    · have t0 : (a.bidx == 0) = true := by simpa using s1
      clear s1
      go_wp2_with fail
      go_returns
      exact ⟨by rw [hRf.out]; rfl, hbW⟩
    · have t0 : (a.bidx == 0) = false := by simpa using s1
      have t1 : decide (most < a.bidx) = true := by simpa using s2
      clear s1 s2
      go_wp2_with fail
      go_returns
      exact ⟨by rw [hRf.out]; rfl, hbW⟩
  · have HR2 := HR.out
    rw [if_neg s0] at HR2
    have t0 : (a.bidx == 0) = false := by simp; omega
    have t1 : decide (most < a.bidx) = false := by simp; omega
    by_cases s1 : a.bidx = b.bidx
    · have t2 : (a.bidx == b.bidx) = true := by simpa using s1
      rw [if_pos s1] at HR2
      by_cases s2 : a.bterm = b.bterm
      · have t3 : (a.bterm != b.bterm) = false := by simpa using s2
        have hRf : Hid (R = false) := Lib.hid (by rw [HR2]; simp [s2])
        clear s0 s1 s2 HR2
        go_wp2_with fail
        go_returns
        exact ⟨by rw [hRf.out]; rfl, hbW⟩
      · have t3 : (a.bterm != b.bterm) = true := by simpa using s2
        have hRf : Hid (R = true) := Lib.hid (by rw [HR2]; simp [s2])
        clear s0 s1 s2 HR2
        go_wp2_with fail
        go_returns
        exact ⟨by rw [hRf.out]; rfl, hbW⟩
    · have t2 : (a.bidx == b.bidx) = false := by simpa using s1
      rw [if_neg s1] at HR2
      have HR2 := Lib.hid HR2
      have hs1 : b.bidx < a.bidx → IntKind.u64.wrap (a.bidx - b.bidx) = a.bidx - b.bidx := fun h => by
        have : IntKind.u64.wrap (a.bidx - b.bidx) = (a.bidx - b.bidx) % 18446744073709551616 := by simp [IntKind.wrap, IntKind.bits, IntKind.signed]
        omega
      by_cases s2 : b.bidx < a.bidx
      · have t3 : decide (b.bidx < a.bidx) = true := by simpa using s2
        have hs1 := hs1 s2
        by_cases s3 : a.bidx - b.bidx ≤ (b.en : Int)
        · have t4 : decide (a.bidx - b.bidx ≤ (b.en : Int)) = true := by simpa using s3
          obtain ⟨q, hq⟩ : ∃ q : Nat, q = (a.bidx - b.bidx - 1).toNat := ⟨_, rfl⟩
          have hqn : q < b.en := by omega
          obtain ⟨y, hy⟩ : ∃ y, b.es[q]? = some y := ⟨_, List.getElem?_eq_getElem (by rw [Hn.out]; exact hqn)⟩
          have hat : atX b a.bidx = some y := by rw [atX, if_neg (by rw [Hn.out]; omega), ← hq]; exact hy
          obtain ⟨g, off, e0, hgl, hEB, _⟩ := Hb.out.es.at_ hy
          have v1 := (hEB.below hbW).term
          have hgW : g < W.heap.size := Nat.lt_of_lt_of_le hgl hbW.size
          have hs2 : IntKind.u64.wrap (a.bidx - b.bidx - 1) = (q : Int) := by
            have : IntKind.u64.wrap (a.bidx - b.bidx - 1) = (a.bidx - b.bidx - 1) % 18446744073709551616 := by simp [IntKind.wrap, IntKind.bits, IntKind.signed]
            omega
          rw [e0] at y9
          have HR3 : Hid (R = !decide (y.term = a.bterm)) := Lib.hid (by rw [HR2.out, hat])
          clear hq hy hEB hat e0 s0 s1 s2 s3 HR2
          by_cases s4 : y.term = a.bterm
          · have t5 : (y.term != a.bterm) = false := by simpa using s4
            have hRf : Hid (R = false) := Lib.hid (by rw [HR3.out]; simp [s4])
            clear s4 HR3
            go_wp2_with fail
            refine wp_region_below (by kernel_rfl) (by kernel_rfl) (fun hkept => ?_)
            obtain ⟨r0, rf0⟩ := hkept (w.heap.size) (by go_size); obtain ⟨r1, rf1⟩ := hkept (p) (by go_size); obtain ⟨r2, rf2⟩ := hkept (g) (by go_size); clear hkept
            repeat (any_goals (first | go_big_quiet_step (fail) | quiet_step (fail) | (refine wpQuiet_step (fun K hK => ?_); go_simp; split <;> (refine hK _ ?_; clear hK K))))
            all_goals (refine wpQuiet_nil ?_; intro w5 hb; obtain ⟨hB, hS, hk⟩ := after (B := W.heap.size) (w := W) (by go_grown) (by go_size) hb; obtain ⟨c0, f0, z0⟩ := hk (w.heap.size) (by go_size); obtain ⟨c1, f1, z1⟩ := hk (p) (by go_size); obtain ⟨c2, f2, z2⟩ := hk (g) (by go_size); clear hk hb r0 rf0 r1 rf1 r2 rf2)
            go_wp2_with fail
            go_returns
            exact ⟨by rw [hRf.out]; rfl, hbW.trans (hB.mono hbW.size)⟩
          · have t5 : (y.term != a.bterm) = true := by simpa using s4
            have hRf : Hid (R = true) := Lib.hid (by rw [HR3.out]; simp [s4])
            clear s4 HR3
            go_wp2_with fail
            refine wp_region_below (by kernel_rfl) (by kernel_rfl) (fun hkept => ?_)
            obtain ⟨r0, rf0⟩ := hkept (w.heap.size) (by go_size); obtain ⟨r1, rf1⟩ := hkept (p) (by go_size); obtain ⟨r2, rf2⟩ := hkept (g) (by go_size); clear hkept
            repeat (any_goals (first | go_big_quiet_step (fail) | quiet_step (fail) | (refine wpQuiet_step (fun K hK => ?_); go_simp; split <;> (refine hK _ ?_; clear hK K))))
            all_goals (refine wpQuiet_nil ?_; intro w5 hb; obtain ⟨hB, hS, hk⟩ := after (B := W.heap.size) (w := W) (by go_grown) (by go_size) hb; obtain ⟨c0, f0, z0⟩ := hk (w.heap.size) (by go_size); obtain ⟨c1, f1, z1⟩ := hk (p) (by go_size); obtain ⟨c2, f2, z2⟩ := hk (g) (by go_size); clear hk hb r0 rf0 r1 rf1 r2 rf2)
            go_wp2_with fail
            go_returns
            exact ⟨by rw [hRf.out]; rfl, hbW.trans (hB.mono hbW.size)⟩
        · have t4 : decide (a.bidx - b.bidx ≤ (b.en : Int)) = false := by simpa using s3
          have hRf : Hid (R = false) := Lib.hid (by rw [HR2.out, atX, if_pos (by rw [Hn.out]; omega)])
          clear s0 s1 s2 s3 HR2
          go_wp2_with fail
          refine wp_region_below (by kernel_rfl) (by kernel_rfl) (fun hkept => ?_)
          obtain ⟨r0, rf0⟩ := hkept (w.heap.size) (by go_size); obtain ⟨r1, rf1⟩ := hkept (p) (by go_size); clear hkept
          repeat (any_goals (first | go_big_quiet_step (fail) | quiet_step (fail) | (refine wpQuiet_step (fun K hK => ?_); go_simp; split <;> (refine hK _ ?_; clear hK K))))
          all_goals (refine wpQuiet_nil ?_; intro w5 hb; obtain ⟨hB, hS, hk⟩ := after (B := W.heap.size) (w := W) (by go_grown) (by go_size) hb; obtain ⟨c0, f0, z0⟩ := hk (w.heap.size) (by go_size); obtain ⟨c1, f1, z1⟩ := hk (p) (by go_size); clear hk hb r0 rf0 r1 rf1)
          go_wp2_with fail
          go_returns
          exact ⟨by rw [hRf.out]; rfl, hbW.trans (hB.mono hbW.size)⟩
      · have t3 : decide (b.bidx < a.bidx) = false := by simpa using s2
        have hRf : Hid (R = false) := Lib.hid (by rw [HR2.out, atX, if_pos (.inl (by omega))])
        clear s0 s1 s2 HR2 hs1
        go_wp2_with fail
        refine wp_region_below (by kernel_rfl) (by kernel_rfl) (fun hkept => ?_)
        obtain ⟨r0, rf0⟩ := hkept (w.heap.size) (by go_size); obtain ⟨r1, rf1⟩ := hkept (p) (by go_size); clear hkept
        repeat (any_goals (first | go_big_quiet_step (fail) | quiet_step (fail) | (refine wpQuiet_step (fun K hK => ?_); go_simp; split <;> (refine hK _ ?_; clear hK K))))
        all_goals (refine wpQuiet_nil ?_; intro w5 hb; obtain ⟨hB, hS, hk⟩ := after (B := W.heap.size) (w := W) (by go_grown) (by go_size) hb; obtain ⟨c0, f0, z0⟩ := hk (w.heap.size) (by go_size); obtain ⟨c1, f1, z1⟩ := hk (p) (by go_size); clear hk hb r0 rf0 r1 rf1)
        go_wp2_with fail
        go_returns
        exact ⟨by rw [hRf.out]; rfl, hbW.trans (hB.mono hbW.size)⟩


structure BusyI (w W1 : World) (R G : Nat) (most : Int) (r : Bool) (V : World) : Prop where
  bel : Below w.heap.size w V
  size : W1.heap.size ≤ V.heap.size
  r0 : V.cell? ⟨R, 0, none⟩ = some (.bool r)
  rf : V.frozen? ⟨R, 0, none⟩ = false
  m0 : V.cell? ⟨G, 0, none⟩ = some (.int .u64 most)
  old : ∀ (q : Nat) o, q < W1.heap.size → q ≠ R → W1.heap[q]? = some o → o.isCells = true → V.heap[q]? = some o
theorem BusyI.own {w W1 V V' : World} {R G : Nat} {most : Int} {r : Bool} {row : Option Nat} (h : BusyI w W1 R G most r V) (hw : w.heap.size ≤ W1.heap.size) (hg : V.grownBy V' row) (hr : ∀ q, row = some q → W1.heap.size ≤ q ∧ ∃ o : Obj, V.heap[q]? = some o ∧ o.isCells = false) : BusyI w W1 R G most r V' :=
  ⟨h.bel.grown hg (Nat.le_trans hw h.size) (fun k e => by have := (hr k e).1; omega), Nat.le_trans h.size hg.size, cell_kept h.r0 hg (fun q e => (hr q e).2), (frozen_kept h.r0 hg (fun q e => (hr q e).2)).trans h.rf, cell_kept h.m0 hg (fun q e => (hr q e).2),
    fun q o h1 h2 h3 h4 => (hg.block q (Nat.lt_of_lt_of_le h1 h.size) (fun e => by have := (hr q e.symm).1; omega)).trans (h.old q o h1 h2 h3 h4)⟩
theorem BusyI.below {w W1 V V' : World} {R G : Nat} {most : Int} {r : Bool} (h : BusyI w W1 R G most r V) (hb : Below V.heap.size V V') : BusyI w W1 R G most r V' :=
  ⟨h.bel.trans (hb.mono h.bel.size), Nat.le_trans h.size hb.size, (hb.cell (p := ⟨R, 0, none⟩) (World.block_lt_of_cell? _ _ h.r0)).trans h.r0, (hb.frozen (p := ⟨R, 0, none⟩) (World.block_lt_of_cell? _ _ h.r0)).trans h.rf, (hb.cell (p := ⟨G, 0, none⟩) (World.block_lt_of_cell? _ _ h.m0)).trans h.m0,
    fun q o h1 h2 h3 h4 => (hb.block q (Nat.lt_of_lt_of_le h1 h.size)).trans (h.old q o h1 h2 h3 h4)⟩
theorem BusyI.res {w W1 V : World} {R G : Nat} {most : Int} {r : Bool} (h : BusyI w W1 R G most r V) (hR : w.heap.size ≤ R) (r' : Bool) : BusyI w W1 R G most r' (V.setCell ⟨R, 0, none⟩ (.bool r')) :=
  ⟨h.bel.setCell hR _, by rw [World.size_setCell]; exact h.size, World.cell?_setCell_same _ _ _ h.r0, by rw [World.frozen?_setCell]; exact h.rf, (World.cell?_setCell_other _ _ _ _ (fun e => by
    have e2 := h.m0
    rw [← e, h.r0] at e2
    cases e2)).trans h.m0, fun q o h1 h2 h3 h4 => (Below.heap_setCell _ _ _ _ h2).trans (h.old q o h1 h2 h3 h4)⟩
theorem cell_blkA {w : World} {p : Addr} {v : Value} (h : w.cell? p = some v) : ∃ o : Obj, w.heap[p.block]? = some o ∧ o.isCells = true := by
  unfold World.cell? at h
  cases ho : w.heap[p.block]? with
  | none => simp [ho] at h
  | some o =>
    cases o with
    | cells arr T fr => exact ⟨_, rfl, rfl⟩
    | _ => simp [ho] at h
theorem BusyI.seen {w W1 V : World} {R G : Nat} {most : Int} {r : Bool} (h : BusyI w W1 R G most r V) {b : Nat} {s : SeenA} (hs : SeenAt W1 b 0 s) (h1 : b < W1.heap.size) (h2 : b ≠ R) (_ : True := trivial) : SeenAt V b 0 s := by
  obtain ⟨o, h3, h4⟩ := cell_blkA (hs 0 _ rfl)
  exact hs.same ((h.old b o h1 h2 h3 h4).trans h3.symm)
end Go.Proofs.Yteibnignjghedaa

/-
  Two logs: the walk of audit.busy.
-/
namespace Go.Proofs.Yteibnignjghedaa
open Go.RowKit Go.Shelf

attribute [local go_sem] Oper.semAt_some readsUpon
set_option maxRecDepth 100000 in
set_option maxHeartbeats 8000000 in
theorem busy_any (a b : SeenA) (w : World) (ha : a.In w) (hb : b.In w) (hoa : a.Ok) (hob : b.Ok) :
    Calls Try.prog 21 #[a.v, b.v] w fun e w' => e = .returned (.bool (busyL a b)) ∧ Below w.heap.size w w' := by
  have Ha := Lib.hid ha
  have Hb := Lib.hid hb
  have Hoa := Lib.hid hoa
  have Hob := Lib.hid hob
  simp only [SeenA.v]
  clear ha hb hoa hob
  refine callsIn_wide.1 (callsIn_of_wp_marks (F := Fence.wide) (n := 20) Try.func21 rfl trivial ?_ rfl); refine wpIn_wide.2 ?_; simp only [Try.ntmps21, List.size_toArray, List.length_cons, List.length_nil, Nat.reduceAdd, Nat.reduceSub, Array.replicate_succ, Array.replicate_zero, List.push_toArray, List.append_toArray, List.nil_append, List.cons_append]
  obtain ⟨most, hmost⟩ : ∃ most, most = min a.com b.com := ⟨_, rfl⟩
  go_upto_region 1 with fail
  obtain ⟨W0, hW0⟩ : ∃ W : World, W = ((w.alloc (.cells a.l.toArray 49)).alloc (.cells b.l.toArray 49)).alloc (.cells #[.bool false] 4) := ⟨_, rfl⟩
  have hbW0 : Below w.heap.size w W0 := by rw [hW0]; exact (((Below.refl _ _).alloc (Nat.le_refl _) _).alloc (by simp) _).alloc (by simp; omega) _
  have hzW0 : W0.heap.size = w.heap.size + 3 := by rw [hW0]; simp
  have hA00 : SeenAt W0 w.heap.size 0 a := by
    rw [hW0]
    exact (SeenAt.new w a _).below (((Below.refl _ _).alloc (Nat.le_refl _) _).alloc (by simp) _)
  have hB00 : SeenAt W0 (w.heap.size + 1) 0 b := by
    rw [hW0]
    have := SeenAt.new (w.alloc (.cells a.l.toArray 49)) b 49
    rw [World.size_alloc] at this
    exact this.below ((Below.refl _ _).alloc (Nat.le_refl _) _)
  obtain ⟨R, hR⟩ : ∃ R, R = w.heap.size + 1 + 1 := ⟨_, rfl⟩
  have r00 : W0.cell? ⟨R, 0, none⟩ = some (.bool false) := by rw [hW0, hR]; go_simp
  have r01 : W0.frozen? ⟨R, 0, none⟩ = false := by rw [hW0, hR]; go_simp
  rw [← hW0, ← hR]
  have x10 := hA00.at_ 10 _ rfl
  have y10 := hB00.at_ 10 _ rfl
  simp only [Nat.zero_add] at x10 y10
  have Hz0 := Lib.hid hzW0
  have HR0 := Lib.hid hR
  clear hW0 hzW0 hR
  go_upto_region 2 with fail
  rw [← hmost]
  have Hmost := Lib.hid hmost
  clear hmost
  obtain ⟨W, hW⟩ : ∃ W : World, W = W0.alloc (.cells #[.int .u64 most] 34) := ⟨_, rfl⟩
  obtain ⟨G, hG⟩ : ∃ G, G = W0.heap.size := ⟨_, rfl⟩
  have hR := HR0.out
  have hzW0 := Hz0.out
  have hb01 : Below W0.heap.size W0 W := by rw [hW]; exact (Below.refl _ _).alloc (Nat.le_refl _) _
  have hbW : Below w.heap.size w W := hbW0.trans (hb01.mono hbW0.size)
  have hzW : W.heap.size = w.heap.size + 4 := by rw [hW, World.size_alloc]; omega
  have hA0 : SeenAt W w.heap.size 0 a := hA00.below hb01
  have hB0 : SeenAt W (w.heap.size + 1) 0 b := hB00.below hb01
  have r0 : W.cell? ⟨R, 0, none⟩ = some (.bool false) := (hb01.cell (p := ⟨R, 0, none⟩) (by simp only; omega)).trans r00
  have r1 : W.frozen? ⟨R, 0, none⟩ = false := (hb01.frozen (p := ⟨R, 0, none⟩) (by simp only; omega)).trans r01
  have u0 : W.cell? ⟨G, 0, none⟩ = some (.int .u64 most) := by rw [hW, hG]; go_simp
  clear hA00 hB00 r00 r01 x10 y10 HR0 Hz0
  rw [← hW, ← hG]
  have hRG : R ≠ G := by omega
  have hwR : w.heap.size ≤ R := by omega
  have hwG : w.heap.size ≤ G := by omega
  have hRW : R < W.heap.size := by omega
  have hGW : G < W.heap.size := by omega
  have HR1 : Hid (R = w.heap.size + 2) := Lib.hid (by omega)
  have HG1 : Hid (G = w.heap.size + 3) := Lib.hid (by omega)
  have HL1 := Lib.hid hA0.load
  have HL2 := Lib.hid hB0.load
  have hwW0 : w.heap.size ≤ W.heap.size := by omega
  clear hW hR hG hzW hzW0 hbW0 hb01
  go_wp2_with (refine wpList_loadK rfl (by rfl) rfl (by first | exact HL1.out | exact HL2.out) ?_; simp only [Act.put, List.setIfInBounds_toArray, List.set_cons_succ, List.set_cons_zero])
  refine (common_any a b _).mono ?_
  rintro e w' ⟨rfl, rfl⟩
  obtain ⟨W1, hW1⟩ : ∃ W1 : World, W1 = (W.alloc (.cells a.l.toArray 49)).alloc (.cells b.l.toArray 49) := ⟨_, rfl⟩
  have hb1 : Below W.heap.size W W1 := by rw [hW1]; exact ((Below.refl _ _).alloc (Nat.le_refl _) _).alloc (by simp) _
  have hz1 : W1.heap.size = W.heap.size + 2 := by rw [hW1]; simp
  have hA1 : SeenAt W1 W.heap.size 0 a := by
    rw [hW1]
    exact (SeenAt.new W a _).below ((Below.refl _ _).alloc (Nat.le_refl _) _)
  have hB1 : SeenAt W1 (W.heap.size + 1) 0 b := by
    rw [hW1]
    have := SeenAt.new (W.alloc (.cells a.l.toArray 49)) b 49
    rw [World.size_alloc] at this
    exact this
  have hF1 : BusyI w W1 R G most false W1 := ⟨hbW.trans (hb1.mono hbW.size), Nat.le_refl _, (hb1.cell (p := ⟨R, 0, none⟩) hRW).trans r0, (hb1.frozen (p := ⟨R, 0, none⟩) hRW).trans r1, (hb1.cell (p := ⟨G, 0, none⟩) hGW).trans u0, fun _ _ _ _ h3 _ => h3⟩
  have HSA := Lib.hid (hA0.below hb1)
  have HSB := Lib.hid (hB0.below hb1)
  have HF1 := Lib.hid hF1
  have hbw1 := hF1.bel
  have HA1 := Lib.hid hA1
  have HB1 := Lib.hid hB1
  have HbW := Lib.hid hbW
  rw [← hW1]
  clear hW1 hb1 hA1 hB1 hF1 r0 r1 u0 HL1 HL2 hbW hA0 hB0
  have hwW : w.heap.size ≤ W1.heap.size := by omega
  go_wp2
  refine (wpIn_wide (n := 20)).1 ?_
  refine range_round (n := 20) (by omega) (gf := 61) (lb := #[.pointer (some ⟨W.heap.size, 0, none⟩), .pointer (some ⟨W.heap.size + 1, 0, none⟩)]) rfl (enters_of Try.func61 (by kernel_rfl) rfl)
    (common1_seq 19 (by omega) W.heap.size (W.heap.size + 1) a b W1 HA1.out HB1.out (Ha.out.below hbw1) (Hb.out.below hbw1) Hoa.out Hob.out (fun q => q < W1.heap.size ∧ q ≠ R ∧ q ≠ G) ⟨by omega, by omega, by omega⟩ ⟨by omega, by omega, by omega⟩
      (fun h0 x hx => by
        obtain ⟨b', off, e, hl⟩ := Arr.base Ha.out.es.arr h0
        rw [hx] at e; cases e
        exact ⟨by simp only; omega, by simp only; omega, by simp only; omega⟩)
      (fun h0 x hx => by
        obtain ⟨b', off, e, hl⟩ := Arr.base Hb.out.es.arr h0
        rw [hx] at e; cases e
        exact ⟨by simp only; omega, by simp only; omega, by simp only; omega⟩))
    (fun h k => h.trans k) (fun V o o' ho hc => KB.putObj V o' ho (fun hs => by have := hs.1; omega)) (fun _ => rfl)
    (fun (pre : List { p : EntA × EntA // p ∈ commonL a b }) V => BusyI w W1 R G most false V ∧ busyF most (pre.map (·.1)) = false)
    (fun cd (pre : List { p : EntA × EntA // p ∈ commonL a b }) V => cd = .ret ∧ BusyI w W1 R G most true V ∧ busyF most (pre.map (·.1)) = true)
    ?hI ?hIx ⟨HF1.out, rfl⟩ ?hround ?done ?stop
  case hI =>
    rintro pre A B row ⟨h1, h2⟩ hg hr
    exact ⟨h1.own hwW hg hr, h2⟩
  case hIx =>
    rintro cd pre A B row ⟨h0, h1, h2⟩ hg hr
    exact ⟨h0, h1.own hwW hg hr, h2⟩
  case hround =>
    rintro l2 pre ⟨⟨x, y⟩, hxy⟩ V hl2 ⟨hI, hpre⟩ hlt
    simp only [EntA.v]
    gi_wp2_with (refine wpListIn_storeN (fun _ => trivial) rfl rfl rfl rfl (by first | rfl | simp) (by kernel_rfl) (by rfl) (EntA.all _) ?_; simp only [Act.put, List.setIfInBounds_toArray, List.set_cons_succ, List.set_cons_zero])
    refine ⟨(keepsFrom_alloc _ _).trans (keepsFrom_alloc _ _), fun W2 hg2 hz2 hnc => ?_⟩
    rw [World.size_alloc, World.size_alloc] at hz2
    have hl2 : l2 = W1.heap.size + 1 := hl2
    obtain ⟨hxm, hym⟩ := mem_common hxy
    have hzV := hI.size
    have hbA : Below V.heap.size V ((V.alloc (.cells x.l.toArray 60)).alloc (.cells y.l.toArray 60)) := ((Below.refl _ _).alloc (Nat.le_refl _) _).alloc (by simp) _
    have hnr : ∀ r, some l2 = some r → ∃ o : Obj, ((V.alloc (.cells x.l.toArray 60)).alloc (.cells y.l.toArray 60)).heap[r]? = some o ∧ o.isCells = false := fun r e => by cases e; exact hnc
    have hX2 : EntAt W2 V.heap.size 0 x := ((EntAt.new V x 60).below ((Below.refl _ _).alloc (Nat.le_refl _) _)).kept hg2 hnr
    have hY2 : EntAt W2 (V.heap.size + 1) 0 y := by
      have := EntAt.new (V.alloc (.cells x.l.toArray 60)) y 60
      rw [World.size_alloc] at this
      exact this.kept hg2 hnr
    have hI2 : BusyI w W1 R G most false W2 := (hI.below hbA).own hwW hg2 (fun q e => by cases e; exact ⟨by omega, hnc⟩)
    have hKB2 : KB (fun q => q < W1.heap.size ∧ q ≠ R ∧ q ≠ G) V W2 := (KB.of_below hbA).trans ⟨hg2.size, fun k hs hk => hg2.block k hk (fun e => by have := Option.some.inj e; have := hs.1; omega)⟩
    have HLx := Lib.hid hX2.load
    have HLy := Lib.hid hY2.load
    have tx := hX2.idx
    have hxw : x.In W2 := (Ha.out.es.mem x hxm).below hI2.bel
    have hyw : y.In W2 := (Hb.out.es.mem y hym).below hI2.bel
    have KS := Lib.hid fun (Z : World) (hZ : Below W2.heap.size W2 Z) => ssame_any x y Z (hxw.below hZ) (hyw.below hZ)
    simp only [EntA.v] at KS
    try simp only [Nat.zero_add] at tx
    have HNP := Lib.hid (show (pre ++ [(⟨(x, y), hxy⟩ : { p : EntA × EntA // p ∈ commonL a b })]).map (·.1) = pre.map (·.1) ++ [(x, y)] by rw [List.map_append]; rfl)
    have Hfs : Hid (busyF most (pre.map (·.1) ++ [(x, y)]) = (decide (x.idx ≤ most) && !sameE x y)) := Lib.hid (by
      unfold busyF at hpre ⊢
      rw [List.any_append, hpre]; simp)
    have HI2 := Lib.hid hI2
    have HKB := Lib.hid hKB2
    have hpl : V.heap.size < W2.heap.size := by omega
    have hpl1 : V.heap.size + 1 < W2.heap.size := by omega
    have hv1 : ¬ G = V.heap.size := by omega
    have hv2 : ¬ G = V.heap.size + 1 := by omega
    have hv3 : ¬ R = V.heap.size := by omega
    have hv4 : ¬ R = V.heap.size + 1 := by omega
    obtain ⟨Q, hQ⟩ : ∃ Q, Q = sameE x y := ⟨_, rfl⟩
    have i0 := hI2.r0
    have i1 := hI2.rf
    have i2 := hI2.m0
    rw [← hQ] at Hfs KS
    clear hX2 hY2 hI2 hKB2 hQ hxw hyw hg2 hnc hnr hbA hI hpre
    by_cases ht : x.idx ≤ most
    · have t0 : decide (x.idx ≤ most) = true := by simpa using ht
      cases Q
      · have hff : Hid (busyF most (pre.map (·.1) ++ [(x, y)]) = true) := Lib.hid (by rw [Hfs.out, t0]; rfl)
        clear ht
        gi_wp2_with (first | (refine wpListIn_loadK (fun _ => trivial) rfl (by rfl) rfl (by first | exact HLx.out | exact HLy.out) ?_; simp only [Act.put, List.setIfInBounds_toArray, List.set_cons_succ, List.set_cons_zero]) | (refine ⟨trivial, ?_⟩; gi_at_call 40; refine (CallsIn.inRound _ (callsIn_wide.2 (KS.out _ (Below.refl _ _)))).mono ?_; rintro e W5 ⟨rfl, hb5⟩; have HB5 := Lib.hid hb5; have hI5 := HI2.out.below hb5; have i0 := hI5.r0; have i1 := hI5.rf; have i2 := hI5.m0; have HI5 := Lib.hid hI5; have hz5 := hb5.size; clear hb5 hI5))
        refine ⟨⟨?_, ?_⟩, rfl, HI5.out.res hwR true, by rw [HNP.out]; exact hff.out⟩
        · exact (keepsFrom_below HB5.out).trans (keepsFrom_setCell _ _ _)
        · exact HKB.out.trans ((KB.of_below HB5.out).setCell (fun hs => hs.2.1 rfl) _)
      · have hff : Hid (busyF most (pre.map (·.1) ++ [(x, y)]) = false) := Lib.hid (by rw [Hfs.out, t0]; rfl)
        clear ht
        gi_wp2_with (first | (refine wpListIn_loadK (fun _ => trivial) rfl (by rfl) rfl (by first | exact HLx.out | exact HLy.out) ?_; simp only [Act.put, List.setIfInBounds_toArray, List.set_cons_succ, List.set_cons_zero]) | (refine ⟨trivial, ?_⟩; gi_at_call 40; refine (CallsIn.inRound _ (callsIn_wide.2 (KS.out _ (Below.refl _ _)))).mono ?_; rintro e W5 ⟨rfl, hb5⟩; have HB5 := Lib.hid hb5; have hI5 := HI2.out.below hb5; have i0 := hI5.r0; have i1 := hI5.rf; have i2 := hI5.m0; have HI5 := Lib.hid hI5; have hz5 := hb5.size; clear hb5 hI5))
        refine ⟨⟨?_, ?_⟩, ?_, by rw [HNP.out]; exact hff.out⟩
        · exact keepsFrom_below HB5.out
        · exact HKB.out.trans (KB.of_below HB5.out)
        · exact HI5.out
    · have t0 : decide (x.idx ≤ most) = false := by simpa using ht
      have hff : Hid (busyF most (pre.map (·.1) ++ [(x, y)]) = false) := Lib.hid (by rw [Hfs.out, t0]; rfl)
      clear ht
      gi_wp2_with fail
      refine ⟨trivial, ?_⟩
      gi_wp2_with fail
      refine ⟨⟨?_, ?_⟩, ?_, by rw [HNP.out]; exact hff.out⟩
      · exact KeepsFrom.refl _ _
      · exact HKB.out
      · exact HI2.out
  case done =>
    rintro D xs V hD hx ⟨hI, hf⟩ hK
    have hf2 : busyL a b = (basedL a b most || basedL b a most) := by rw [busyL, ← Hmost.out, ← hx, hf, Bool.false_or]
    have i0 := hI.r0
    have i1 := hI.rf
    have i2 := hI.m0
    have HI := Lib.hid hI
    have hD2 : w.heap.size ≤ D := Nat.le_trans hwW hD
    have HK := Lib.hid hK
    have hAV : SeenAt V w.heap.size 0 a := hI.seen HSA.out (by omega) (by have := HR1.out; omega)
    have hBV : SeenAt V (w.heap.size + 1) 0 b := hI.seen HSB.out (by omega) (by have := HR1.out; omega)
    have HL1 := Lib.hid hAV.load
    have HL2 := Lib.hid hBV.load
    have hbV := hI.bel
    have K1 := Lib.hid (based_any a b most V (Ha.out.below hbV) (Hb.out.below hbV) Hoa.out Hob.out)
    have K2 := Lib.hid fun (Z : World) (hZ : Below V.heap.size V Z) => based_any b a most Z ((Hb.out.below hbV).below hZ) ((Ha.out.below hbV).below hZ) Hob.out Hoa.out
    obtain ⟨Q1, hQ1⟩ : ∃ Q, Q = basedL a b most := ⟨_, rfl⟩
    obtain ⟨Q2, hQ2⟩ : ∃ Q, Q = basedL b a most := ⟨_, rfl⟩
    rw [← hQ1] at K1 hf2
    rw [← hQ2] at K2 hf2
    simp only [SeenA.v] at K1 K2
    have Hf2 := Lib.hid hf2
    have hRV := World.block_lt_of_cell? _ _ i0
    have hGV := World.block_lt_of_cell? _ _ i2
    simp only at hRV hGV
    have HLA := Lib.hid hAV
    have HLB := Lib.hid hBV
    clear hI hK hf hx hf2 hQ1 hQ2 hAV hBV
    cases Q1
    · go_wp2_with (refine wpList_loadK rfl (by rfl) rfl (by first | exact HL1.out | exact HL2.out) ?_; simp only [Act.put, List.setIfInBounds_toArray, List.set_cons_succ, List.set_cons_zero])
      refine K1.out.mono ?_
      rintro e V5 ⟨rfl, hb5⟩
      have HB5 := Lib.hid hb5
      have i0 := (hb5.cell (p := ⟨R, 0, none⟩) hRV).trans i0
      have i1 := (hb5.frozen (p := ⟨R, 0, none⟩) hRV).trans i1
      have i2 := (hb5.cell (p := ⟨G, 0, none⟩) hGV).trans i2
      have HM1 := Lib.hid (HLA.out.below hb5).load
      have HM2 := Lib.hid (HLB.out.below hb5).load
      clear hb5
      go_wp2_with (refine wpList_loadK rfl (by rfl) rfl (by first | exact HM1.out | exact HM2.out) ?_; simp only [Act.put, List.setIfInBounds_toArray, List.set_cons_succ, List.set_cons_zero])
      refine (K2.out V5 HB5.out).mono ?_
      rintro e V6 ⟨rfl, hb6⟩
      have hrv5 : R < V5.heap.size := (Nat.lt_of_lt_of_le hRV HB5.out.size)
      have HB6 := Lib.hid hb6
      have i0 := (hb6.cell (p := ⟨R, 0, none⟩) hrv5).trans i0
      have i1 := (hb6.frozen (p := ⟨R, 0, none⟩) hrv5).trans i1
      clear hb6
      go_wp2_with fail
      have hbV6 : Below V.heap.size V V6 := HB5.out.trans (HB6.out.mono HB5.out.size)
      have hDV := (Array.getElem?_eq_some_iff.1 HK.out).1
      have hK6 : V6.heap[D]? = some (.deferred (some [])) := (hbV6.block D hDV).trans HK.out
      have hKs := (KeepsOthers.setCell V6 ⟨R, 0, none⟩ (.bool Q2)).same D _ hK6 rfl
      have t0 : (V6.setCell ⟨R, 0, none⟩ (.bool Q2)).cell? ⟨R, 0, none⟩ = some (.bool Q2) := World.cell?_setCell_same _ _ _ i0
      have t1 := cell_put (o' := .deferred none) hKs rfl t0
      exact postM_ret1 (v := .bool Q2) rfl hKs (by simp [results, Try.results21, go_sem, t1]) ⟨by rw [Hf2.out]; rfl, (((hbV.trans (hbV6.mono hbV.size)).setCell hwR _).trans (below_put hKs hD2))⟩
    · go_wp2_with (refine wpList_loadK rfl (by rfl) rfl (by first | exact HL1.out | exact HL2.out) ?_; simp only [Act.put, List.setIfInBounds_toArray, List.set_cons_succ, List.set_cons_zero])
      refine K1.out.mono ?_
      rintro e V5 ⟨rfl, hb5⟩
      have HB5 := Lib.hid hb5
      have i0 := (hb5.cell (p := ⟨R, 0, none⟩) hRV).trans i0
      have i1 := (hb5.frozen (p := ⟨R, 0, none⟩) hRV).trans i1
      clear hb5
      go_wp2_with fail
      have hDV := (Array.getElem?_eq_some_iff.1 HK.out).1
      have hK6 : V5.heap[D]? = some (.deferred (some [])) := (HB5.out.block D hDV).trans HK.out
      have hKs := (KeepsOthers.setCell V5 ⟨R, 0, none⟩ (.bool true)).same D _ hK6 rfl
      have t0 : (V5.setCell ⟨R, 0, none⟩ (.bool true)).cell? ⟨R, 0, none⟩ = some (.bool true) := World.cell?_setCell_same _ _ _ i0
      have t1 := cell_put (o' := .deferred none) hKs rfl t0
      exact postM_ret1 (v := .bool true) rfl hKs (by simp [results, Try.results21, go_sem, t1]) ⟨by rw [Hf2.out]; rfl, (((hbV.trans (HB5.out.mono hbV.size)).setCell hwR _).trans (below_put hKs hD2))⟩
  case stop =>
    rintro D cd pre V hD hp ⟨rfl, hI, hf⟩ hK
    have hf2 : busyL a b = true := by
      obtain ⟨r, hr⟩ := hp
      unfold busyF at hf
      rw [busyL, busyF, ← Hmost.out, ← hr, List.any_append, hf]; rfl
    have hD2 : w.heap.size ≤ D := Nat.le_trans hwW hD
    refine wpIn_wide.2 ?_
    go_wp2_with fail
    have t1 := cell_put (o' := .deferred none) hK rfl hI.r0
    exact postM_ret1 (v := .bool true) rfl hK (by simp [results, Try.results21, go_sem, t1]) ⟨by rw [hf2], hI.bel.trans (below_put hK hD2)⟩
end Go.Proofs.Yteibnignjghedaa
