/-
  The walk of All's function, not begun.
-/
import Derived.Test.YtehbikofoidjhaaLz2P
namespace Go.Proofs.Ytehbikofoidjhaa.Lz
open Go.RowKit

set_option maxRecDepth 100000 in
set_option maxHeartbeats 8000000 in
theorem all1_first (a : AV) (ao : Option Addr) (n cap : Nat) (rs : List (Option RI)) (F : Nat → Prop) (w : World) (h : New a ao n cap rs F w) :
    Calls Try.prog 31 #[.pointer (some ⟨a.b0, 0, none⟩), .pointer (some ⟨a.b1, 0, none⟩), .pointer (some ⟨a.b2, 0, none⟩), .pointer (some ⟨a.b3, 0, none⟩), .pointer (some ⟨a.b4, 0, none⟩)] w fun e w' => ∃ (hs : List HI) (gs : List EI), (∀ (i : Nat) (h : HI), hs[i]? = some h → h.d = false) ∧ hs.map HI.p = rs.filterMap headP ∧ Prov0 rs rs.length hs gs ∧ BegNext a hs gs none F w e w' := by
  have H := Lib.hid h
  have k0 := h.c0
  have k1 := h.c1
  have f0 := h.f a.b0 0 (.inl rfl)
  have nb01 : ¬ a.b0 = a.b1 := h.ok.n01
  have nb10 : ¬ a.b1 = a.b0 := fun e => nb01 e.symm
  have hb0 := h.inb _ (h.vF _ (.inl rfl))
  have hb1 := h.inb _ (h.vF _ (.inr (.inl rfl)))
  have hb2 := h.inb _ (h.vF _ (.inr (.inr (.inl rfl))))
  have hb3 := h.inb _ (h.vF _ (.inr (.inr (.inr (.inl rfl)))))
  have hb4 := h.inb _ (h.vF _ (.inr (.inr (.inr (.inr rfl)))))
  have hn0 := Arr.fits h.arr
  have hn1 := Arr.max h.arr
  unfold maxLen at hn1
  have hn2 := h.small
  clear h
  go_enter Try.func31, Try.ntmps31
  go_wp2
  obtain ⟨w0, hw0⟩ : ∃ X : World, X = w.setCell ⟨a.b0, 0, none⟩ (.bool true) := ⟨_, rfl⟩
  have hz0 : w0.heap.size = w.heap.size := by rw [hw0, World.size_setCell]
  have HP0 := Lib.hid (hw0 ▸ H.out.pre (.cells #[.string ⟨#[]⟩, .string ⟨#[]⟩, .int .u64 0, .bool false, .string ⟨#[]⟩] 37))
  rw [← hw0]
  obtain ⟨W, hW⟩ : ∃ W : World, W = w0.alloc (.cells #[.string ⟨#[]⟩, .string ⟨#[]⟩, .int .u64 0, .bool false, .string ⟨#[]⟩] 37) := ⟨_, rfl⟩
  have HP : Hid (Pre a ao n cap rs F w W) := Lib.hid (hW ▸ HP0.out)
  have hWs := HP.out.size
  have rr0 : ∀ o, W.frozen? ⟨w.heap.size, o, none⟩ = false := fun o => by rw [hW, ← hz0]; unfold World.frozen?; rw [heap_alloc_new]; rfl
  have rr1 : W.cell? ⟨w.heap.size, 0, none⟩ = some (.string ⟨#[]⟩) := by rw [hW, ← hz0]; simp [World.cell?_alloc_new]
  have rr2 : W.cell? ⟨w.heap.size, 1, none⟩ = some (.string ⟨#[]⟩) := by rw [hW, ← hz0]; simp [World.cell?_alloc_new]
  have rr3 : W.cell? ⟨w.heap.size, 2, none⟩ = some (.int .u64 0) := by rw [hW, ← hz0]; simp [World.cell?_alloc_new]
  have rr4 : W.cell? ⟨w.heap.size, 3, none⟩ = some (.bool false) := by rw [hW, ← hz0]; simp [World.cell?_alloc_new]
  have rr5 : W.cell? ⟨w.heap.size, 4, none⟩ = some (.string ⟨#[]⟩) := by rw [hW, ← hz0]; simp [World.cell?_alloc_new]
  rw [← hW]
  clear hW hz0 hw0 HP0
  refine all_loop1 (a := a) (rs := rs) HP.out.arr HP.out.rows (by omega) HP.out.c2 (fun o => HP.out.f _ o (.inr (.inr (.inl rfl)))) hn2 (fun p hp => (H.out.og p hp).2) ?_
  intro v8 v9 v10 v21 v22 v23 v24 v25 v26 v27 v28 v29 v30 v31 v32 v33 v34 v35 v36 v37 v38 v39 v hs gs wr hD
  have hzr0 := hD.kept.size
  obtain ⟨ao, cap, rfl⟩ := hD.row.shape
  obtain ⟨h1, hKW, hpln, hprov⟩ := HP.out.beg H.out hD
  have H0 := Lib.hid h1
  have hrbk : wr.heap[w.heap.size]? = W.heap[w.heap.size]? := hD.kept.block _ (by omega) (fun hf => by
    rcases hf with e | hf
    · omega
    · have := H.out.inb _ (H.out.rF _ hf); omega)
  have r0 : ∀ o, wr.frozen? ⟨w.heap.size, o, none⟩ = false := fun o => (World.frozen?_of_block (a := ⟨w.heap.size, o, none⟩) hrbk).trans (rr0 o)
  have r1 := (World.cell?_of_block (a := ⟨w.heap.size, 0, none⟩) hrbk).trans rr1
  have r2 := (World.cell?_of_block (a := ⟨w.heap.size, 1, none⟩) hrbk).trans rr2
  have r3 := (World.cell?_of_block (a := ⟨w.heap.size, 2, none⟩) hrbk).trans rr3
  have r4 := (World.cell?_of_block (a := ⟨w.heap.size, 3, none⟩) hrbk).trans rr4
  have r5 := (World.cell?_of_block (a := ⟨w.heap.size, 4, none⟩) hrbk).trans rr5
  have hzW : w.heap.size < wr.heap.size := by omega
  have hrb : ¬ F1 F w wr w.heap.size := fun hf => by
    rcases hf.1 with hf | hf
    · have := H.out.inb _ hf; omega
    · omega
  have Hfin : Hid (∀ e w', BegNext a hs gs none (F1 F w wr) w e w' → ∃ (hs : List HI) (gs : List EI), (∀ (i : Nat) (h : HI), hs[i]? = some h → h.d = false) ∧ hs.map HI.p = rs.filterMap headP ∧ Prov0 rs rs.length hs gs ∧ BegNext a hs gs none F w e w') := Lib.hid (fun e w' h => ⟨hs, gs, H0.out.nd, hpln, hprov, h.first⟩)
  have hgf : ∀ k, (Value.slice ao hs.length cap).ownBlock = some k → ∀ (i : Nat) (x : HI), hs[i]? = some x → ¬ x.foot k := fun k hk => (H0.out.gF k hk).2.2
  have HD := Lib.hid (delete_any hs (.slice ao hs.length cap) hs.length 0 wr rfl H0.out.row H0.out.heads hgf)
  have k2r : wr.cell? ⟨a.b2, 0, none⟩ = some (.slice ao hs.length cap) := H0.out.c2
  have k2f : ∀ o, wr.frozen? ⟨a.b2, o, none⟩ = false := fun o => H0.out.f _ o (.inr (.inr (.inl rfl)))
  have k3r : wr.cell? ⟨a.b3, 0, none⟩ = some (.bool false) := H0.out.c3
  have hb2g : ∀ k, (Value.slice ao hs.length cap).ownBlock = some k → k ≠ a.b2 := fun k hk e => (H0.out.gF k hk).2.1 (.inr (.inr (.inl e)))
  have Hb2g := Lib.hid hb2g
  have HGo := Lib.hid (After.refl H0.out.heads)
  have HPl : Hid ((alive hs).map HI.p = stepP none (hs.map HI.p)) := Lib.hid (by rw [alive_all H0.out.nd]; rfl)
  have hb2l : a.b2 < wr.heap.size := by omega
  have hzr := Nat.le_refl wr.heap.size
  clear hgf hb2g k0 k1 f0 rr0 rr1 rr2 rr3 rr4 rr5 hD h1 hpln hprov hrbk hn0 hn1 hn2
  go_upto_region 18 with fail
  clear k3r
  go_upto_region 19 with (go_at_call 34; refine HD.out.mono ?_; rintro e w6 ⟨ao6, cap6, rfl, hr6, hg6, ho6⟩; have HM := Lib.hid (mid_of H0.out hKW hrb hzW HGo.out HPl.out hr6 hg6 ho6); have hbk := hg6.block a.b2 hb2l (fun e => Hb2g.out _ e.symm rfl); have k26 := fun o => World.cell?_of_block (a := ⟨a.b2, o, none⟩) hbk; have k26f := fun o => World.frozen?_of_block (a := ⟨a.b2, o, none⟩) hbk; clear hr6 hg6 ho6 hbk)
  obtain ⟨w7, hw7⟩ : ∃ X : World, X = w6.setCell ⟨a.b2, 0, none⟩ (.slice ao6 (alive hs).length cap6) := ⟨_, rfl⟩
  rw [← hw7] at HM ⊢
  obtain ⟨hs2, hhs2⟩ : ∃ l, l = alive hs := ⟨_, rfl⟩
  rw [← hhs2] at HM ⊢
  clear hw7 hhs2 k26 k26f k2r k2f HD HGo Hb2g hzr hb2l
  have j2 := HM.out.beg.c2
  have j2f := fun o => HM.out.beg.f a.b2 o (.inr (.inr (.inl rfl)))
  have rr := HM.out.res
  have rrf := HM.out.resf
  have hz7 := HM.out.kept.size
  have hz77 : w.heap.size < w7.heap.size := World.block_lt_of_cell? _ _ ((rr 0).trans r1)
  cases hs2 with
  | nil =>
    have KN := Lib.hid fun Z => none_any Z
    simp only [headV] at KN
    go_wp2_with (first | (go_at_call 36; refine (KN.out _).mono ?_; rintro e w8 ⟨rfl, hb⟩; obtain ⟨hB, hS, hk⟩ := after (B := w7.heap.size) (w := w7) (by go_grown) (by go_size) hb; clear hb; obtain ⟨c0, f0, z0⟩ := hk (w.heap.size) (by go_size); clear hk))
    have hE := HM.out.res_end hrb hzW (Nat.le_refl _) hB ⟨⟨#[]⟩, ⟨#[]⟩, 0, false, ⟨#[]⟩⟩
    have hpl := HM.out.plain
    refine bodyPost_ret (v := headV []) (by simp [results, Try.results31, go_sem, headV, *]) rfl (Hfin.out _ _ ⟨by rw [← hpl]; rfl, ⟨_, [], _, _, hpl, HM.out.step, by rw [← hpl]; exact hE.1, fun k hk => ?_⟩, hE.2⟩)
    rcases hk.1 with h1 | h1
    · exact .inl h1
    · exact .inr (by omega)
  | cons h0 tl =>
    obtain ⟨g, rfl⟩ : ∃ g, ao6 = some ⟨g, 0, none⟩ := by
      rcases HM.out.beg.row.form with ⟨e, _⟩ | ⟨g, cp, e, _⟩
      · cases e
      · cases e; exact ⟨g, rfl⟩
    obtain ⟨ao8, cap8, e8, hArr8⟩ := Row.arr (es := (h0 :: tl).map HI.ptr) (by decide) (by rw [List.length_map]; exact HM.out.beg.row) (hptr_elems (h0 :: tl))
    rw [List.length_map] at e8 hArr8
    cases e8
    have hfit := Arr.fits hArr8
    have hmax := Arr.max hArr8
    unfold maxLen at hmax
    obtain ⟨g', off', eg, hgl, x0⟩ := arr_hptr hArr8 (i := 0) rfl
    cases eg
    have HA8 := Lib.hid hArr8
    obtain ⟨m, hm⟩ : ∃ m, m = tl.length := ⟨_, rfl⟩
    have Hm := Lib.hid hm
    simp only [List.length_cons] at hfit j2 HA8 ⊢
    rw [← hm] at hfit j2 HA8 ⊢
    clear hm hArr8
    have HLat : Hid ((leastH h0 tl).At w7) := Lib.hid (by
      rcases leastH_mem h0 tl with e | e
      · rw [e]; exact HM.out.beg.heads.at_ 0 h0 rfl
      · obtain ⟨i, hi⟩ := List.mem_iff_getElem?.1 e
        exact HM.out.beg.heads.at_ (i + 1) _ (by simpa using hi))
    go_wp2
    · refine all_loop3 (h0 := h0) (tl := tl) (W := w7) ?_ HM.out.beg.heads ?_
      · have h0m := Hm.out
        obtain rfl : m = 0 := by omega
        have : tl = [] := List.eq_nil_of_length_eq_zero h0m.symm
        subst this
        exact ⟨fun _ h => by simp at h, rfl, Nat.le_refl _, Nat.zero_le _, fun h => by omega⟩
      · intro v15 v72 v73 v74 v75 v76 v77 v78 v79 v80 v81 v82 v83 v84 v85 v86 wr3 hB3
        have hLp := leastH_p h0 tl
        obtain ⟨x, hx⟩ : ∃ x, x = leastH h0 tl := ⟨_, rfl⟩
        have hL := HLat.out.head.same (hB3.block _ HLat.out.head.lt)
        have hLl := HLat.out.head.lt
        rw [← hx] at hL hLp hLl ⊢
        obtain ⟨q0, q1, q2, q3, q4, _, _, _⟩ := hL
        have i3 : a.Is a.b3 := .inr (.inr (.inr (.inl rfl)))
        have i4 : a.Is a.b4 := .inr (.inr (.inr (.inr rfl)))
        have l3 : a.b3 < w7.heap.size := (HM.out.beg.vF _ i3).2
        have l4 : a.b4 < w7.heap.size := (HM.out.beg.vF _ i4).2
        obtain ⟨⟨y0, e0⟩, ⟨y1, e1⟩, ⟨y2, e2⟩, ⟨y3, e3⟩, ⟨y4, e4⟩⟩ := any5 (HM.out.beg.c4.same (hB3.block a.b4 l4))
        have t3 := (hB3.cell (p := ⟨a.b3, 0, none⟩) l3).trans HM.out.beg.c3
        have tf3 := fun o => (hB3.frozen (p := ⟨a.b3, o, none⟩) l3).trans (HM.out.beg.f a.b3 o i3)
        have tf4 := fun o => (hB3.frozen (p := ⟨a.b4, o, none⟩) l4).trans (HM.out.beg.f a.b4 o i4)
        have s0 := (hB3.cell (p := ⟨w.heap.size, 0, none⟩) hz77).trans ((rr 0).trans r1)
        have s1 := (hB3.cell (p := ⟨w.heap.size, 1, none⟩) hz77).trans ((rr 1).trans r2)
        have s2 := (hB3.cell (p := ⟨w.heap.size, 2, none⟩) hz77).trans ((rr 2).trans r3)
        have s3 := (hB3.cell (p := ⟨w.heap.size, 3, none⟩) hz77).trans ((rr 3).trans r4)
        have s4 := (hB3.cell (p := ⟨w.heap.size, 4, none⟩) hz77).trans ((rr 4).trans r5)
        have sf := fun o => ((hB3.frozen (p := ⟨w.heap.size, o, none⟩) hz77).trans (rrf o)).trans (r0 o)
        have n1 : ¬ a.b3 = a.b4 := HM.out.beg.ok.n34
        have n2 : ¬ a.b4 = a.b3 := fun e => n1 e.symm
        have n3 : ¬ a.b3 = w.heap.size := by omega
        have n4 : ¬ w.heap.size = a.b3 := by omega
        have n5 : ¬ a.b4 = w.heap.size := by omega
        have n6 : ¬ w.heap.size = a.b4 := by omega
        have Hx := Lib.hid hx
        have HLp := Lib.hid hLp
        have HB3 := Lib.hid hB3
        clear hx hLp j2 j2f rr rrf r0 r1 r2 r3 r4 r5 x0 hB3
        go_upto_region 29 with fail
        obtain ⟨X, hX⟩ : ∃ X : World, X = (putC wr3 a.b4 x.x).setCell ⟨a.b3, 0, none⟩ (.bool true) := ⟨_, rfl⟩
        have hXe : (((((wr3.setCell ⟨a.b4, 0, none⟩ (.string x.x.row)).setCell ⟨a.b4, 1, none⟩ (.string x.x.col)).setCell ⟨a.b4, 2, none⟩ (.int .u64 x.x.ver)).setCell ⟨a.b4, 3, none⟩ (.bool x.x.gone)).setCell ⟨a.b4, 4, none⟩ (.string x.x.val)).setCell ⟨a.b3, 0, none⟩ (.bool true) = X := by rw [hX]; rfl
        rw [hXe]
        have hXw : X.heap[w.heap.size]? = wr3.heap[w.heap.size]? := by rw [hX, Below.heap_setCell _ _ _ _ n4, putC_heap _ _ _ _ n6]
        obtain ⟨d0, d1, d2, d3, d4⟩ : CellAt X a.b4 0 x.x := (putC_at (fun o ho => (HM.out.beg.c4.any o ho).imp fun u hu => (HB3.out.cell (p := ⟨a.b4, o, none⟩) l4).trans hu) x.x).same (by rw [hX, Below.heap_setCell _ _ _ _ n2])
        have s0 := (World.cell?_of_block (a := ⟨w.heap.size, 0, none⟩) hXw).trans s0
        have s1 := (World.cell?_of_block (a := ⟨w.heap.size, 1, none⟩) hXw).trans s1
        have s2 := (World.cell?_of_block (a := ⟨w.heap.size, 2, none⟩) hXw).trans s2
        have s3 := (World.cell?_of_block (a := ⟨w.heap.size, 3, none⟩) hXw).trans s3
        have s4 := (World.cell?_of_block (a := ⟨w.heap.size, 4, none⟩) hXw).trans s4
        have sf := fun o => (World.frozen?_of_block (a := ⟨w.heap.size, o, none⟩) hXw).trans (sf o)
        have HX := Lib.hid hX
        clear hX hXe hXw q0 q1 q2 q3 q4 t3 tf3 tf4 e0 e1 e2 e3 e4
        go_wp2
        have hE := HM.out.tell_end hrb hzW (Nat.le_refl _) HB3.out x.x
        rw [← HX.out] at hE
        have hpl := HM.out.plain
        have hlast : some x.x = lastV none (stepP none (hs.map HI.p)) := by
          rw [← hpl, List.map_cons]
          show some x.x = some (leastP h0.x (tl.map HI.p))
          rw [HLp.out]
        have hE1 := hE.1
        rw [hlast] at hE1
        refine bodyPost_ret (v := .tuple #[.agg #[.string x.x.row, .string x.x.col, .int .u64 x.x.ver, .bool x.x.gone, .string x.x.val], .bool true]) (by simp [results, Try.results31, go_sem, *]) rfl (Hfin.out _ _ ⟨?_, ⟨_, h0 :: tl, _, _, hpl, HM.out.step, hE1, fun k hk => ?_⟩, hE.2⟩)
        · rw [← hpl, List.map_cons]
          show _ = Ending.returned (headV [leastP h0.x (tl.map HI.p)])
          rw [← HLp.out]; rfl
        · rcases hk.1 with h1 | h1
          · exact .inl h1
          · exact .inr (by omega)
    · refine all_loop3 (h0 := h0) (tl := tl) (W := w7) (arr_tailP HA8.out) HM.out.beg.heads ?_
      intro v15 v72 v73 v74 v75 v76 v77 v78 v79 v80 v81 v82 v83 v84 v85 v86 wr3 hB3
      have hLp := leastH_p h0 tl
      obtain ⟨x, hx⟩ : ∃ x, x = leastH h0 tl := ⟨_, rfl⟩
      have hL := HLat.out.head.same (hB3.block _ HLat.out.head.lt)
      have hLl := HLat.out.head.lt
      rw [← hx] at hL hLp hLl ⊢
      obtain ⟨q0, q1, q2, q3, q4, _, _, _⟩ := hL
      have i3 : a.Is a.b3 := .inr (.inr (.inr (.inl rfl)))
      have i4 : a.Is a.b4 := .inr (.inr (.inr (.inr rfl)))
      have l3 : a.b3 < w7.heap.size := (HM.out.beg.vF _ i3).2
      have l4 : a.b4 < w7.heap.size := (HM.out.beg.vF _ i4).2
      obtain ⟨⟨y0, e0⟩, ⟨y1, e1⟩, ⟨y2, e2⟩, ⟨y3, e3⟩, ⟨y4, e4⟩⟩ := any5 (HM.out.beg.c4.same (hB3.block a.b4 l4))
      have t3 := (hB3.cell (p := ⟨a.b3, 0, none⟩) l3).trans HM.out.beg.c3
      have tf3 := fun o => (hB3.frozen (p := ⟨a.b3, o, none⟩) l3).trans (HM.out.beg.f a.b3 o i3)
      have tf4 := fun o => (hB3.frozen (p := ⟨a.b4, o, none⟩) l4).trans (HM.out.beg.f a.b4 o i4)
      have s0 := (hB3.cell (p := ⟨w.heap.size, 0, none⟩) hz77).trans ((rr 0).trans r1)
      have s1 := (hB3.cell (p := ⟨w.heap.size, 1, none⟩) hz77).trans ((rr 1).trans r2)
      have s2 := (hB3.cell (p := ⟨w.heap.size, 2, none⟩) hz77).trans ((rr 2).trans r3)
      have s3 := (hB3.cell (p := ⟨w.heap.size, 3, none⟩) hz77).trans ((rr 3).trans r4)
      have s4 := (hB3.cell (p := ⟨w.heap.size, 4, none⟩) hz77).trans ((rr 4).trans r5)
      have sf := fun o => ((hB3.frozen (p := ⟨w.heap.size, o, none⟩) hz77).trans (rrf o)).trans (r0 o)
      have n1 : ¬ a.b3 = a.b4 := HM.out.beg.ok.n34
      have n2 : ¬ a.b4 = a.b3 := fun e => n1 e.symm
      have n3 : ¬ a.b3 = w.heap.size := by omega
      have n4 : ¬ w.heap.size = a.b3 := by omega
      have n5 : ¬ a.b4 = w.heap.size := by omega
      have n6 : ¬ w.heap.size = a.b4 := by omega
      have Hx := Lib.hid hx
      have HLp := Lib.hid hLp
      have HB3 := Lib.hid hB3
      clear hx hLp j2 j2f rr rrf r0 r1 r2 r3 r4 r5 x0 hB3
      go_upto_region 29 with fail
      obtain ⟨X, hX⟩ : ∃ X : World, X = (putC wr3 a.b4 x.x).setCell ⟨a.b3, 0, none⟩ (.bool true) := ⟨_, rfl⟩
      have hXe : (((((wr3.setCell ⟨a.b4, 0, none⟩ (.string x.x.row)).setCell ⟨a.b4, 1, none⟩ (.string x.x.col)).setCell ⟨a.b4, 2, none⟩ (.int .u64 x.x.ver)).setCell ⟨a.b4, 3, none⟩ (.bool x.x.gone)).setCell ⟨a.b4, 4, none⟩ (.string x.x.val)).setCell ⟨a.b3, 0, none⟩ (.bool true) = X := by rw [hX]; rfl
      rw [hXe]
      have hXw : X.heap[w.heap.size]? = wr3.heap[w.heap.size]? := by rw [hX, Below.heap_setCell _ _ _ _ n4, putC_heap _ _ _ _ n6]
      obtain ⟨d0, d1, d2, d3, d4⟩ : CellAt X a.b4 0 x.x := (putC_at (fun o ho => (HM.out.beg.c4.any o ho).imp fun u hu => (HB3.out.cell (p := ⟨a.b4, o, none⟩) l4).trans hu) x.x).same (by rw [hX, Below.heap_setCell _ _ _ _ n2])
      have s0 := (World.cell?_of_block (a := ⟨w.heap.size, 0, none⟩) hXw).trans s0
      have s1 := (World.cell?_of_block (a := ⟨w.heap.size, 1, none⟩) hXw).trans s1
      have s2 := (World.cell?_of_block (a := ⟨w.heap.size, 2, none⟩) hXw).trans s2
      have s3 := (World.cell?_of_block (a := ⟨w.heap.size, 3, none⟩) hXw).trans s3
      have s4 := (World.cell?_of_block (a := ⟨w.heap.size, 4, none⟩) hXw).trans s4
      have sf := fun o => (World.frozen?_of_block (a := ⟨w.heap.size, o, none⟩) hXw).trans (sf o)
      have HX := Lib.hid hX
      clear hX hXe hXw q0 q1 q2 q3 q4 t3 tf3 tf4 e0 e1 e2 e3 e4
      go_wp2
      have hE := HM.out.tell_end hrb hzW (Nat.le_refl _) HB3.out x.x
      rw [← HX.out] at hE
      have hpl := HM.out.plain
      have hlast : some x.x = lastV none (stepP none (hs.map HI.p)) := by
        rw [← hpl, List.map_cons]
        show some x.x = some (leastP h0.x (tl.map HI.p))
        rw [HLp.out]
      have hE1 := hE.1
      rw [hlast] at hE1
      refine bodyPost_ret (v := .tuple #[.agg #[.string x.x.row, .string x.x.col, .int .u64 x.x.ver, .bool x.x.gone, .string x.x.val], .bool true]) (by simp [results, Try.results31, go_sem, *]) rfl (Hfin.out _ _ ⟨?_, ⟨_, h0 :: tl, _, _, hpl, HM.out.step, hE1, fun k hk => ?_⟩, hE.2⟩)
      · rw [← hpl, List.map_cons]
        show _ = Ending.returned (headV [leastP h0.x (tl.map HI.p)])
        rw [← HLp.out]; rfl
      · rcases hk.1 with h1 | h1
        · exact .inl h1
        · exact .inr (by omega)
end Go.Proofs.Ytehbikofoidjhaa.Lz
