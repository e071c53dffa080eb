/-
  Rows as one (package merge): the walk of All's function, begun.
-/
import Derived.Test.YtehbikofoidjhaaAll1P
namespace Go.Proofs.Ytehbikofoidjhaa
open Go.RowKit

set_option maxRecDepth 100000 in
set_option maxHeartbeats 8000000 in
theorem all1_told (a : AV) (v : Value) (hs : List HI) (c : CellA) (F : Nat → Prop) (w : World) (h : Beg a v hs (some c) F w) :
    Calls Try.prog 31 #[.pointer (some ⟨a.b0, 0, none⟩), .pointer (some ⟨a.b1, 0, none⟩), .pointer (some ⟨a.b2, 0, none⟩), .pointer (some ⟨a.b3, 0, none⟩), .pointer (some ⟨a.b4, 0, none⟩)] w fun e w' => BegNext a hs (some c) F w e w' := by
  have H := Lib.hid h
  obtain ⟨ao, cap, rfl⟩ := h.row.shape
  obtain ⟨ao2, cap2, e2, hArr⟩ := Row.arr (es := hs.map HI.ptr) (by decide) (by rw [List.length_map]; exact h.row) (hptr_elems hs)
  rw [List.length_map] at e2 hArr
  cases e2
  have HArr := Lib.hid hArr
  have k0 := h.c0
  have k2 := h.c2
  have k3 := h.c3
  have hb0 := h.inb _ (h.vF _ (.inl rfl))
  have hb1 := h.inb _ (h.vF _ (.inr (.inl rfl)))
  have hb2 := h.inb _ (h.vF _ (.inr (.inr (.inl rfl))))
  have hb3 := h.inb _ (h.vF _ (.inr (.inr (.inr (.inl rfl)))))
  have hb4 := h.inb _ (h.vF _ (.inr (.inr (.inr (.inr rfl)))))
  clear h hArr
  go_enter Try.func31, Try.ntmps31
  go_wp2
  obtain ⟨W, hW⟩ : ∃ W : World, W = w.alloc (.cells #[.string ⟨#[]⟩, .string ⟨#[]⟩, .int .u64 0, .bool false, .string ⟨#[]⟩] 37) := ⟨_, rfl⟩
  have hBW : Below w.heap.size w W := by rw [hW]; exact (Below.refl _ _).alloc (Nat.le_refl _) _
  have H0 := Lib.hid (H.out.keep hBW.size (fun k hk => hBW.block k (H.out.inb k hk)))
  have hzW : w.heap.size < W.heap.size := by rw [hW, World.size_alloc]; omega
  have hrb : ¬ F w.heap.size := fun hf => by have := H.out.inb _ hf; omega
  have hKW : Kept F w W := Kept.of_below hBW
  have hWz := Lib.hid (show W.heap.size = w.heap.size + 1 by rw [hW, World.size_alloc])
  have r0 : ∀ o, W.frozen? ⟨w.heap.size, o, none⟩ = false := fun o => by rw [hW]; unfold World.frozen?; rw [heap_alloc_new]; rfl
  have r1 : W.cell? ⟨w.heap.size, 0, none⟩ = some (.string ⟨#[]⟩) := by rw [hW]; simp [World.cell?_alloc_new]
  have r2 : W.cell? ⟨w.heap.size, 1, none⟩ = some (.string ⟨#[]⟩) := by rw [hW]; simp [World.cell?_alloc_new]
  have r3 : W.cell? ⟨w.heap.size, 2, none⟩ = some (.int .u64 0) := by rw [hW]; simp [World.cell?_alloc_new]
  have r4 : W.cell? ⟨w.heap.size, 3, none⟩ = some (.bool false) := by rw [hW]; simp [World.cell?_alloc_new]
  have r5 : W.cell? ⟨w.heap.size, 4, none⟩ = some (.string ⟨#[]⟩) := by rw [hW]; simp [World.cell?_alloc_new]
  rw [← hW]
  have hfr : ∀ i h, hs[i]? = some h → ¬ HI.foot h w.heap.size := fun i h hi hf => by have := H.out.inb _ (H.out.hF i h hi _ hf).1; omega
  clear hW
  refine all_loop2 (c := c) (Arr.below HArr.out hBW) H0.out.heads H0.out.nd (H0.out.c4.cell c rfl) (fun i x hx hf => (H0.out.hF i x hx _ hf).2 (.inr (.inr (.inr (.inr rfl))))) (fun p hp i x hx hf => ?_) ?_
  · subst hp
    exact (H0.out.gF p.block (by rcases H0.out.row.form with ⟨e, _⟩ | ⟨g, cap', e, _⟩ <;> cases e; rfl)).2.2 i x hx hf
  · intro v12 v44 v45 v46 v47 v48 v49 v50 v51 v52 v53 v54 v55 v56 hs' wr hG
    have hptr := gone_ptr hG
    have hzr := hG.kept.size
    have hrow : Row wr 0 51 1 (.slice ao hs.length cap) hs.length (hs'.map HI.ptr).flatten := by
      rw [hptr]
      exact Row.of_heap H0.out.row (fun k hk => hG.kept.block k (H0.out.inb k (H0.out.gF k hk).1) (fun ⟨i, x, hx, hf⟩ => (H0.out.gF k hk).2.2 i x hx hf))
    have hgf : ∀ k, (Value.slice ao hs.length cap).ownBlock = some k → ∀ (i : Nat) (x : HI), hs'[i]? = some x → ¬ x.foot k := fun k hk i x hx hf => by
      rcases hG.foot i x hx k hf with ⟨b, hb, hf2⟩ | h1
      · exact (H0.out.gF k hk).2.2 i b hb hf2
      · have := H0.out.inb k (H0.out.gF k hk).1; omega
    have HD := Lib.hid (delete_any hs' (.slice ao hs.length cap) hs.length 0 wr hG.len hrow hG.heads hgf)
    have hb2r := hG.kept.block a.b2 (by omega) (fun ⟨i, x, hx, hf⟩ => (H0.out.hF i x hx _ hf).2 (.inr (.inr (.inl rfl))))
    have k2r : wr.cell? ⟨a.b2, 0, none⟩ = some (.slice ao hs.length cap) := (World.cell?_of_block (a := ⟨a.b2, 0, none⟩) hb2r).trans H0.out.c2
    have k2f : ∀ o, wr.frozen? ⟨a.b2, o, none⟩ = false := fun o => (World.frozen?_of_block (a := ⟨a.b2, o, none⟩) hb2r).trans (H0.out.f _ o (.inr (.inr (.inl rfl))))
    have hb2g : ∀ k, (Value.slice ao hs.length cap).ownBlock = some k → k ≠ a.b2 := fun k hk e => (H0.out.gF k hk).2.1 (.inr (.inr (.inl e)))
    have Hb2g := Lib.hid hb2g
    have HGo := Lib.hid hG.after
    have HPl := Lib.hid (gone_alive hG H0.out.nd)
    have hb2l : a.b2 < wr.heap.size := by omega
    clear hG hptr hrow hgf hb2r hb2g k0 k2 k3
    go_upto_region 19 with (go_at_call 34; refine HD.out.mono ?_; rintro e w6 ⟨ao6, cap6, rfl, hr6, hg6, ho6⟩; have HM := Lib.hid (mid_of H0.out hKW hrb hzW HGo.out HPl.out hr6 hg6 ho6); have hbk := hg6.block a.b2 hb2l (fun e => Hb2g.out _ e.symm rfl); have k26 := fun o => World.cell?_of_block (a := ⟨a.b2, o, none⟩) hbk; have k26f := fun o => World.frozen?_of_block (a := ⟨a.b2, o, none⟩) hbk; clear hr6 hg6 ho6 hbk)
    obtain ⟨w7, hw7⟩ : ∃ X : World, X = w6.setCell ⟨a.b2, 0, none⟩ (.slice ao6 (alive hs').length cap6) := ⟨_, rfl⟩
    rw [← hw7] at HM ⊢
    obtain ⟨hs2, hhs2⟩ : ∃ l, l = alive hs' := ⟨_, rfl⟩
    rw [← hhs2] at HM ⊢
    clear hw7 hhs2 k26 k26f k2r k2f HD HGo Hb2g hzr hb2l
    have j2 := HM.out.beg.c2
    have j2f := fun o => HM.out.beg.f a.b2 o (.inr (.inr (.inl rfl)))
    have rr := HM.out.res
    have rrf := HM.out.resf
    have hz7 := HM.out.kept.size
    have hz77 : w.heap.size < w7.heap.size := World.block_lt_of_cell? _ _ ((rr 0).trans r1)
    cases hs2 with
    | nil =>
      have KN := Lib.hid fun Z => none_any Z
      simp only [headV] at KN
      go_wp2_with (first | (go_at_call 36; refine (KN.out _).mono ?_; rintro e w8 ⟨rfl, hb⟩; obtain ⟨hB, hS, hk⟩ := after (B := w7.heap.size) (w := w7) (by go_grown) (by go_size) hb; clear hb; obtain ⟨c0, f0, z0⟩ := hk (w.heap.size) (by go_size); clear hk))
      have hE := HM.out.res_end hrb hzW (Nat.le_refl _) hB ⟨⟨#[]⟩, ⟨#[]⟩, 0, false, ⟨#[]⟩⟩
      have hpl := HM.out.plain
      refine bodyPost_ret (v := headV []) (by simp [results, Try.results31, go_sem, headV, *]) rfl ⟨by rw [← hpl]; rfl, ⟨_, [], _, hpl, by rw [← hpl]; exact hE.1, fun k hk => ?_⟩, hE.2⟩
      rcases hk.1 with h1 | h1
      · exact .inl h1
      · exact .inr (by omega)
    | cons h0 tl =>
      obtain ⟨g, rfl⟩ : ∃ g, ao6 = some ⟨g, 0, none⟩ := by
        rcases HM.out.beg.row.form with ⟨e, _⟩ | ⟨g, cp, e, _⟩
        · cases e
        · cases e; exact ⟨g, rfl⟩
      obtain ⟨ao8, cap8, e8, hArr8⟩ := Row.arr (es := (h0 :: tl).map HI.ptr) (by decide) (by rw [List.length_map]; exact HM.out.beg.row) (hptr_elems (h0 :: tl))
      rw [List.length_map] at e8 hArr8
      cases e8
      have hfit := Arr.fits hArr8
      have hmax := Arr.max hArr8
      unfold maxLen at hmax
      obtain ⟨g', off', eg, hgl, x0⟩ := arr_hptr hArr8 (i := 0) rfl
      cases eg
      have HA8 := Lib.hid hArr8
      obtain ⟨m, hm⟩ : ∃ m, m = tl.length := ⟨_, rfl⟩
      have Hm := Lib.hid hm
      simp only [List.length_cons] at hfit j2 HA8 ⊢
      rw [← hm] at hfit j2 HA8 ⊢
      clear hm hArr8
      have HLat : Hid ((leastH h0 tl).At w7) := Lib.hid (by
        rcases leastH_mem h0 tl with e | e
        · rw [e]; exact HM.out.beg.heads.at_ 0 h0 rfl
        · obtain ⟨i, hi⟩ := List.mem_iff_getElem?.1 e
          exact HM.out.beg.heads.at_ (i + 1) _ (by simpa using hi))
      go_wp2
      · refine all_loop3 (h0 := h0) (tl := tl) (W := w7) ?_ HM.out.beg.heads ?_
        · have h0m := Hm.out
          obtain rfl : m = 0 := by omega
          have : tl = [] := List.eq_nil_of_length_eq_zero h0m.symm
          subst this
          exact ⟨fun _ h => by simp at h, rfl, Nat.le_refl _, Nat.zero_le _, fun h => by omega⟩
        · intro v15 v72 v73 v74 v75 v76 v77 v78 v79 v80 v81 v82 v83 v84 v85 v86 wr3 hB3
          have hLp := leastH_p h0 tl
          obtain ⟨x, hx⟩ : ∃ x, x = leastH h0 tl := ⟨_, rfl⟩
          have hL := HLat.out.head.same (hB3.block _ HLat.out.head.lt)
          have hLl := HLat.out.head.lt
          rw [← hx] at hL hLp hLl ⊢
          obtain ⟨q0, q1, q2, q3, q4, _, _, _⟩ := hL
          have i3 : a.Is a.b3 := .inr (.inr (.inr (.inl rfl)))
          have i4 : a.Is a.b4 := .inr (.inr (.inr (.inr rfl)))
          have l3 : a.b3 < w7.heap.size := (HM.out.beg.vF _ i3).2
          have l4 : a.b4 < w7.heap.size := (HM.out.beg.vF _ i4).2
          obtain ⟨⟨y0, e0⟩, ⟨y1, e1⟩, ⟨y2, e2⟩, ⟨y3, e3⟩, ⟨y4, e4⟩⟩ := any5 (HM.out.beg.c4.same (hB3.block a.b4 l4))
          have t3 := (hB3.cell (p := ⟨a.b3, 0, none⟩) l3).trans HM.out.beg.c3
          have tf3 := fun o => (hB3.frozen (p := ⟨a.b3, o, none⟩) l3).trans (HM.out.beg.f a.b3 o i3)
          have tf4 := fun o => (hB3.frozen (p := ⟨a.b4, o, none⟩) l4).trans (HM.out.beg.f a.b4 o i4)
          have s0 := (hB3.cell (p := ⟨w.heap.size, 0, none⟩) hz77).trans ((rr 0).trans r1)
          have s1 := (hB3.cell (p := ⟨w.heap.size, 1, none⟩) hz77).trans ((rr 1).trans r2)
          have s2 := (hB3.cell (p := ⟨w.heap.size, 2, none⟩) hz77).trans ((rr 2).trans r3)
          have s3 := (hB3.cell (p := ⟨w.heap.size, 3, none⟩) hz77).trans ((rr 3).trans r4)
          have s4 := (hB3.cell (p := ⟨w.heap.size, 4, none⟩) hz77).trans ((rr 4).trans r5)
          have sf := fun o => ((hB3.frozen (p := ⟨w.heap.size, o, none⟩) hz77).trans (rrf o)).trans (r0 o)
          have n1 : ¬ a.b3 = a.b4 := HM.out.beg.ok.n34
          have n2 : ¬ a.b4 = a.b3 := fun e => n1 e.symm
          have n3 : ¬ a.b3 = w.heap.size := by omega
          have n4 : ¬ w.heap.size = a.b3 := by omega
          have n5 : ¬ a.b4 = w.heap.size := by omega
          have n6 : ¬ w.heap.size = a.b4 := by omega
          have Hx := Lib.hid hx
          have HLp := Lib.hid hLp
          have HB3 := Lib.hid hB3
          clear hx hLp j2 j2f rr rrf r0 r1 r2 r3 r4 r5 x0 hB3
          go_upto_region 29 with fail
          obtain ⟨X, hX⟩ : ∃ X : World, X = (putC wr3 a.b4 x.x).setCell ⟨a.b3, 0, none⟩ (.bool true) := ⟨_, rfl⟩
          have hXe : (((((wr3.setCell ⟨a.b4, 0, none⟩ (.string x.x.row)).setCell ⟨a.b4, 1, none⟩ (.string x.x.col)).setCell ⟨a.b4, 2, none⟩ (.int .u64 x.x.ver)).setCell ⟨a.b4, 3, none⟩ (.bool x.x.gone)).setCell ⟨a.b4, 4, none⟩ (.string x.x.val)).setCell ⟨a.b3, 0, none⟩ (.bool true) = X := by rw [hX]; rfl
          rw [hXe]
          have hXw : X.heap[w.heap.size]? = wr3.heap[w.heap.size]? := by rw [hX, Below.heap_setCell _ _ _ _ n4, putC_heap _ _ _ _ n6]
          obtain ⟨d0, d1, d2, d3, d4⟩ : CellAt X a.b4 0 x.x := (putC_at (fun o ho => (HM.out.beg.c4.any o ho).imp fun u hu => (HB3.out.cell (p := ⟨a.b4, o, none⟩) l4).trans hu) x.x).same (by rw [hX, Below.heap_setCell _ _ _ _ n2])
          have s0 := (World.cell?_of_block (a := ⟨w.heap.size, 0, none⟩) hXw).trans s0
          have s1 := (World.cell?_of_block (a := ⟨w.heap.size, 1, none⟩) hXw).trans s1
          have s2 := (World.cell?_of_block (a := ⟨w.heap.size, 2, none⟩) hXw).trans s2
          have s3 := (World.cell?_of_block (a := ⟨w.heap.size, 3, none⟩) hXw).trans s3
          have s4 := (World.cell?_of_block (a := ⟨w.heap.size, 4, none⟩) hXw).trans s4
          have sf := fun o => (World.frozen?_of_block (a := ⟨w.heap.size, o, none⟩) hXw).trans (sf o)
          have HX := Lib.hid hX
          clear hX hXe hXw q0 q1 q2 q3 q4 t3 tf3 tf4 e0 e1 e2 e3 e4
          go_wp2
          have hE := HM.out.tell_end hrb hzW (Nat.le_refl _) HB3.out x.x
          rw [← HX.out] at hE
          have hpl := HM.out.plain
          have hlast : some x.x = lastV (some c) (stepP (some c) (hs.map HI.p)) := by
            rw [← hpl, List.map_cons]
            show some x.x = some (leastP h0.x (tl.map HI.p))
            rw [HLp.out]
          have hE1 := hE.1
          rw [hlast] at hE1
          refine bodyPost_ret (v := .tuple #[.agg #[.string x.x.row, .string x.x.col, .int .u64 x.x.ver, .bool x.x.gone, .string x.x.val], .bool true]) (by simp [results, Try.results31, go_sem, *]) rfl ⟨?_, ⟨_, h0 :: tl, _, hpl, hE1, fun k hk => ?_⟩, hE.2⟩
          · rw [← hpl, List.map_cons]
            show _ = Ending.returned (headV [leastP h0.x (tl.map HI.p)])
            rw [← HLp.out]; rfl
          · rcases hk.1 with h1 | h1
            · exact .inl h1
            · exact .inr (by omega)
      · refine all_loop3 (h0 := h0) (tl := tl) (W := w7) (arr_tailP HA8.out) HM.out.beg.heads ?_
        intro v15 v72 v73 v74 v75 v76 v77 v78 v79 v80 v81 v82 v83 v84 v85 v86 wr3 hB3
        have hLp := leastH_p h0 tl
        obtain ⟨x, hx⟩ : ∃ x, x = leastH h0 tl := ⟨_, rfl⟩
        have hL := HLat.out.head.same (hB3.block _ HLat.out.head.lt)
        have hLl := HLat.out.head.lt
        rw [← hx] at hL hLp hLl ⊢
        obtain ⟨q0, q1, q2, q3, q4, _, _, _⟩ := hL
        have i3 : a.Is a.b3 := .inr (.inr (.inr (.inl rfl)))
        have i4 : a.Is a.b4 := .inr (.inr (.inr (.inr rfl)))
        have l3 : a.b3 < w7.heap.size := (HM.out.beg.vF _ i3).2
        have l4 : a.b4 < w7.heap.size := (HM.out.beg.vF _ i4).2
        obtain ⟨⟨y0, e0⟩, ⟨y1, e1⟩, ⟨y2, e2⟩, ⟨y3, e3⟩, ⟨y4, e4⟩⟩ := any5 (HM.out.beg.c4.same (hB3.block a.b4 l4))
        have t3 := (hB3.cell (p := ⟨a.b3, 0, none⟩) l3).trans HM.out.beg.c3
        have tf3 := fun o => (hB3.frozen (p := ⟨a.b3, o, none⟩) l3).trans (HM.out.beg.f a.b3 o i3)
        have tf4 := fun o => (hB3.frozen (p := ⟨a.b4, o, none⟩) l4).trans (HM.out.beg.f a.b4 o i4)
        have s0 := (hB3.cell (p := ⟨w.heap.size, 0, none⟩) hz77).trans ((rr 0).trans r1)
        have s1 := (hB3.cell (p := ⟨w.heap.size, 1, none⟩) hz77).trans ((rr 1).trans r2)
        have s2 := (hB3.cell (p := ⟨w.heap.size, 2, none⟩) hz77).trans ((rr 2).trans r3)
        have s3 := (hB3.cell (p := ⟨w.heap.size, 3, none⟩) hz77).trans ((rr 3).trans r4)
        have s4 := (hB3.cell (p := ⟨w.heap.size, 4, none⟩) hz77).trans ((rr 4).trans r5)
        have sf := fun o => ((hB3.frozen (p := ⟨w.heap.size, o, none⟩) hz77).trans (rrf o)).trans (r0 o)
        have n1 : ¬ a.b3 = a.b4 := HM.out.beg.ok.n34
        have n2 : ¬ a.b4 = a.b3 := fun e => n1 e.symm
        have n3 : ¬ a.b3 = w.heap.size := by omega
        have n4 : ¬ w.heap.size = a.b3 := by omega
        have n5 : ¬ a.b4 = w.heap.size := by omega
        have n6 : ¬ w.heap.size = a.b4 := by omega
        have Hx := Lib.hid hx
        have HLp := Lib.hid hLp
        have HB3 := Lib.hid hB3
        clear hx hLp j2 j2f rr rrf r0 r1 r2 r3 r4 r5 x0 hB3
        go_upto_region 29 with fail
        obtain ⟨X, hX⟩ : ∃ X : World, X = (putC wr3 a.b4 x.x).setCell ⟨a.b3, 0, none⟩ (.bool true) := ⟨_, rfl⟩
        have hXe : (((((wr3.setCell ⟨a.b4, 0, none⟩ (.string x.x.row)).setCell ⟨a.b4, 1, none⟩ (.string x.x.col)).setCell ⟨a.b4, 2, none⟩ (.int .u64 x.x.ver)).setCell ⟨a.b4, 3, none⟩ (.bool x.x.gone)).setCell ⟨a.b4, 4, none⟩ (.string x.x.val)).setCell ⟨a.b3, 0, none⟩ (.bool true) = X := by rw [hX]; rfl
        rw [hXe]
        have hXw : X.heap[w.heap.size]? = wr3.heap[w.heap.size]? := by rw [hX, Below.heap_setCell _ _ _ _ n4, putC_heap _ _ _ _ n6]
        obtain ⟨d0, d1, d2, d3, d4⟩ : CellAt X a.b4 0 x.x := (putC_at (fun o ho => (HM.out.beg.c4.any o ho).imp fun u hu => (HB3.out.cell (p := ⟨a.b4, o, none⟩) l4).trans hu) x.x).same (by rw [hX, Below.heap_setCell _ _ _ _ n2])
        have s0 := (World.cell?_of_block (a := ⟨w.heap.size, 0, none⟩) hXw).trans s0
        have s1 := (World.cell?_of_block (a := ⟨w.heap.size, 1, none⟩) hXw).trans s1
        have s2 := (World.cell?_of_block (a := ⟨w.heap.size, 2, none⟩) hXw).trans s2
        have s3 := (World.cell?_of_block (a := ⟨w.heap.size, 3, none⟩) hXw).trans s3
        have s4 := (World.cell?_of_block (a := ⟨w.heap.size, 4, none⟩) hXw).trans s4
        have sf := fun o => (World.frozen?_of_block (a := ⟨w.heap.size, o, none⟩) hXw).trans (sf o)
        have HX := Lib.hid hX
        clear hX hXe hXw q0 q1 q2 q3 q4 t3 tf3 tf4 e0 e1 e2 e3 e4
        go_wp2
        have hE := HM.out.tell_end hrb hzW (Nat.le_refl _) HB3.out x.x
        rw [← HX.out] at hE
        have hpl := HM.out.plain
        have hlast : some x.x = lastV (some c) (stepP (some c) (hs.map HI.p)) := by
          rw [← hpl, List.map_cons]
          show some x.x = some (leastP h0.x (tl.map HI.p))
          rw [HLp.out]
        have hE1 := hE.1
        rw [hlast] at hE1
        refine bodyPost_ret (v := .tuple #[.agg #[.string x.x.row, .string x.x.col, .int .u64 x.x.ver, .bool x.x.gone, .string x.x.val], .bool true]) (by simp [results, Try.results31, go_sem, *]) rfl ⟨?_, ⟨_, h0 :: tl, _, hpl, hE1, fun k hk => ?_⟩, hE.2⟩
        · rw [← hpl, List.map_cons]
          show _ = Ending.returned (headV [leastP h0.x (tl.map HI.p)])
          rw [← HLp.out]; rfl
        · rcases hk.1 with h1 | h1
          · exact .inl h1
          · exact .inr (by omega)

set_option maxRecDepth 100000 in
set_option maxHeartbeats 8000000 in
theorem all1_untold (a : AV) (v : Value) (hs : List HI) (F : Nat → Prop) (w : World) (h : Beg a v hs none F w) :
    Calls Try.prog 31 #[.pointer (some ⟨a.b0, 0, none⟩), .pointer (some ⟨a.b1, 0, none⟩), .pointer (some ⟨a.b2, 0, none⟩), .pointer (some ⟨a.b3, 0, none⟩), .pointer (some ⟨a.b4, 0, none⟩)] w fun e w' => BegNext a hs none F w e w' := by
  have H := Lib.hid h
  obtain ⟨ao, cap, rfl⟩ := h.row.shape
  obtain ⟨ao2, cap2, e2, hArr⟩ := Row.arr (es := hs.map HI.ptr) (by decide) (by rw [List.length_map]; exact h.row) (hptr_elems hs)
  rw [List.length_map] at e2 hArr
  cases e2
  have HArr := Lib.hid hArr
  have k0 := h.c0
  have k2 := h.c2
  have k3 := h.c3
  have hb0 := h.inb _ (h.vF _ (.inl rfl))
  have hb1 := h.inb _ (h.vF _ (.inr (.inl rfl)))
  have hb2 := h.inb _ (h.vF _ (.inr (.inr (.inl rfl))))
  have hb3 := h.inb _ (h.vF _ (.inr (.inr (.inr (.inl rfl)))))
  have hb4 := h.inb _ (h.vF _ (.inr (.inr (.inr (.inr rfl)))))
  clear h hArr
  go_enter Try.func31, Try.ntmps31
  go_upto_region 18 with fail
  obtain ⟨W, hW⟩ : ∃ W : World, W = w.alloc (.cells #[.string ⟨#[]⟩, .string ⟨#[]⟩, .int .u64 0, .bool false, .string ⟨#[]⟩] 37) := ⟨_, rfl⟩
  have hBW : Below w.heap.size w W := by rw [hW]; exact (Below.refl _ _).alloc (Nat.le_refl _) _
  have H0 := Lib.hid (H.out.keep hBW.size (fun k hk => hBW.block k (H.out.inb k hk)))
  have hzW : w.heap.size < W.heap.size := by rw [hW, World.size_alloc]; omega
  have hrb : ¬ F w.heap.size := fun hf => by have := H.out.inb _ hf; omega
  have hKW : Kept F w W := Kept.of_below hBW
  have hWz := Lib.hid (show W.heap.size = w.heap.size + 1 by rw [hW, World.size_alloc])
  have r0 : ∀ o, W.frozen? ⟨w.heap.size, o, none⟩ = false := fun o => by rw [hW]; unfold World.frozen?; rw [heap_alloc_new]; rfl
  have r1 : W.cell? ⟨w.heap.size, 0, none⟩ = some (.string ⟨#[]⟩) := by rw [hW]; simp [World.cell?_alloc_new]
  have r2 : W.cell? ⟨w.heap.size, 1, none⟩ = some (.string ⟨#[]⟩) := by rw [hW]; simp [World.cell?_alloc_new]
  have r3 : W.cell? ⟨w.heap.size, 2, none⟩ = some (.int .u64 0) := by rw [hW]; simp [World.cell?_alloc_new]
  have r4 : W.cell? ⟨w.heap.size, 3, none⟩ = some (.bool false) := by rw [hW]; simp [World.cell?_alloc_new]
  have r5 : W.cell? ⟨w.heap.size, 4, none⟩ = some (.string ⟨#[]⟩) := by rw [hW]; simp [World.cell?_alloc_new]
  rw [← hW]
  clear hW
  have hgf : ∀ k, (Value.slice ao hs.length cap).ownBlock = some k → ∀ (i : Nat) (x : HI), hs[i]? = some x → ¬ x.foot k := fun k hk => (H0.out.gF k hk).2.2
  have HD := Lib.hid (delete_any hs (.slice ao hs.length cap) hs.length 0 W rfl H0.out.row H0.out.heads hgf)
  have k2r : W.cell? ⟨a.b2, 0, none⟩ = some (.slice ao hs.length cap) := H0.out.c2
  have k2f : ∀ o, W.frozen? ⟨a.b2, o, none⟩ = false := fun o => H0.out.f _ o (.inr (.inr (.inl rfl)))
  have hb2g : ∀ k, (Value.slice ao hs.length cap).ownBlock = some k → k ≠ a.b2 := fun k hk e => (H0.out.gF k hk).2.1 (.inr (.inr (.inl e)))
  have Hb2g := Lib.hid hb2g
  have HGo := Lib.hid (After.refl H0.out.heads)
  have HPl : Hid ((alive hs).map HI.p = stepP none (hs.map HI.p)) := Lib.hid (by rw [alive_all H0.out.nd]; rfl)
  have hb2l : a.b2 < W.heap.size := by omega
  have hzr := Nat.le_refl W.heap.size
  clear hgf hb2g k0 k2 k3
  go_upto_region 19 with (go_at_call 34; refine HD.out.mono ?_; rintro e w6 ⟨ao6, cap6, rfl, hr6, hg6, ho6⟩; have HM := Lib.hid (mid_of H0.out hKW hrb hzW HGo.out HPl.out hr6 hg6 ho6); have hbk := hg6.block a.b2 hb2l (fun e => Hb2g.out _ e.symm rfl); have k26 := fun o => World.cell?_of_block (a := ⟨a.b2, o, none⟩) hbk; have k26f := fun o => World.frozen?_of_block (a := ⟨a.b2, o, none⟩) hbk; clear hr6 hg6 ho6 hbk)
  obtain ⟨w7, hw7⟩ : ∃ X : World, X = w6.setCell ⟨a.b2, 0, none⟩ (.slice ao6 (alive hs).length cap6) := ⟨_, rfl⟩
  rw [← hw7] at HM ⊢
  obtain ⟨hs2, hhs2⟩ : ∃ l, l = alive hs := ⟨_, rfl⟩
  rw [← hhs2] at HM ⊢
  clear hw7 hhs2 k26 k26f k2r k2f HD HGo Hb2g hzr hb2l
  have j2 := HM.out.beg.c2
  have j2f := fun o => HM.out.beg.f a.b2 o (.inr (.inr (.inl rfl)))
  have rr := HM.out.res
  have rrf := HM.out.resf
  have hz7 := HM.out.kept.size
  have hz77 : w.heap.size < w7.heap.size := World.block_lt_of_cell? _ _ ((rr 0).trans r1)
  cases hs2 with
  | nil =>
    have KN := Lib.hid fun Z => none_any Z
    simp only [headV] at KN
    go_wp2_with (first | (go_at_call 36; refine (KN.out _).mono ?_; rintro e w8 ⟨rfl, hb⟩; obtain ⟨hB, hS, hk⟩ := after (B := w7.heap.size) (w := w7) (by go_grown) (by go_size) hb; clear hb; obtain ⟨c0, f0, z0⟩ := hk (w.heap.size) (by go_size); clear hk))
    have hE := HM.out.res_end hrb hzW (Nat.le_refl _) hB ⟨⟨#[]⟩, ⟨#[]⟩, 0, false, ⟨#[]⟩⟩
    have hpl := HM.out.plain
    refine bodyPost_ret (v := headV []) (by simp [results, Try.results31, go_sem, headV, *]) rfl ⟨by rw [← hpl]; rfl, ⟨_, [], _, hpl, by rw [← hpl]; exact hE.1, fun k hk => ?_⟩, hE.2⟩
    rcases hk.1 with h1 | h1
    · exact .inl h1
    · exact .inr (by omega)
  | cons h0 tl =>
    obtain ⟨g, rfl⟩ : ∃ g, ao6 = some ⟨g, 0, none⟩ := by
      rcases HM.out.beg.row.form with ⟨e, _⟩ | ⟨g, cp, e, _⟩
      · cases e
      · cases e; exact ⟨g, rfl⟩
    obtain ⟨ao8, cap8, e8, hArr8⟩ := Row.arr (es := (h0 :: tl).map HI.ptr) (by decide) (by rw [List.length_map]; exact HM.out.beg.row) (hptr_elems (h0 :: tl))
    rw [List.length_map] at e8 hArr8
    cases e8
    have hfit := Arr.fits hArr8
    have hmax := Arr.max hArr8
    unfold maxLen at hmax
    obtain ⟨g', off', eg, hgl, x0⟩ := arr_hptr hArr8 (i := 0) rfl
    cases eg
    have HA8 := Lib.hid hArr8
    obtain ⟨m, hm⟩ : ∃ m, m = tl.length := ⟨_, rfl⟩
    have Hm := Lib.hid hm
    simp only [List.length_cons] at hfit j2 HA8 ⊢
    rw [← hm] at hfit j2 HA8 ⊢
    clear hm hArr8
    have HLat : Hid ((leastH h0 tl).At w7) := Lib.hid (by
      rcases leastH_mem h0 tl with e | e
      · rw [e]; exact HM.out.beg.heads.at_ 0 h0 rfl
      · obtain ⟨i, hi⟩ := List.mem_iff_getElem?.1 e
        exact HM.out.beg.heads.at_ (i + 1) _ (by simpa using hi))
    go_wp2
    · refine all_loop3 (h0 := h0) (tl := tl) (W := w7) ?_ HM.out.beg.heads ?_
      · have h0m := Hm.out
        obtain rfl : m = 0 := by omega
        have : tl = [] := List.eq_nil_of_length_eq_zero h0m.symm
        subst this
        exact ⟨fun _ h => by simp at h, rfl, Nat.le_refl _, Nat.zero_le _, fun h => by omega⟩
      · intro v15 v72 v73 v74 v75 v76 v77 v78 v79 v80 v81 v82 v83 v84 v85 v86 wr3 hB3
        have hLp := leastH_p h0 tl
        obtain ⟨x, hx⟩ : ∃ x, x = leastH h0 tl := ⟨_, rfl⟩
        have hL := HLat.out.head.same (hB3.block _ HLat.out.head.lt)
        have hLl := HLat.out.head.lt
        rw [← hx] at hL hLp hLl ⊢
        obtain ⟨q0, q1, q2, q3, q4, _, _, _⟩ := hL
        have i3 : a.Is a.b3 := .inr (.inr (.inr (.inl rfl)))
        have i4 : a.Is a.b4 := .inr (.inr (.inr (.inr rfl)))
        have l3 : a.b3 < w7.heap.size := (HM.out.beg.vF _ i3).2
        have l4 : a.b4 < w7.heap.size := (HM.out.beg.vF _ i4).2
        obtain ⟨⟨y0, e0⟩, ⟨y1, e1⟩, ⟨y2, e2⟩, ⟨y3, e3⟩, ⟨y4, e4⟩⟩ := any5 (HM.out.beg.c4.same (hB3.block a.b4 l4))
        have t3 := (hB3.cell (p := ⟨a.b3, 0, none⟩) l3).trans HM.out.beg.c3
        have tf3 := fun o => (hB3.frozen (p := ⟨a.b3, o, none⟩) l3).trans (HM.out.beg.f a.b3 o i3)
        have tf4 := fun o => (hB3.frozen (p := ⟨a.b4, o, none⟩) l4).trans (HM.out.beg.f a.b4 o i4)
        have s0 := (hB3.cell (p := ⟨w.heap.size, 0, none⟩) hz77).trans ((rr 0).trans r1)
        have s1 := (hB3.cell (p := ⟨w.heap.size, 1, none⟩) hz77).trans ((rr 1).trans r2)
        have s2 := (hB3.cell (p := ⟨w.heap.size, 2, none⟩) hz77).trans ((rr 2).trans r3)
        have s3 := (hB3.cell (p := ⟨w.heap.size, 3, none⟩) hz77).trans ((rr 3).trans r4)
        have s4 := (hB3.cell (p := ⟨w.heap.size, 4, none⟩) hz77).trans ((rr 4).trans r5)
        have sf := fun o => ((hB3.frozen (p := ⟨w.heap.size, o, none⟩) hz77).trans (rrf o)).trans (r0 o)
        have n1 : ¬ a.b3 = a.b4 := HM.out.beg.ok.n34
        have n2 : ¬ a.b4 = a.b3 := fun e => n1 e.symm
        have n3 : ¬ a.b3 = w.heap.size := by omega
        have n4 : ¬ w.heap.size = a.b3 := by omega
        have n5 : ¬ a.b4 = w.heap.size := by omega
        have n6 : ¬ w.heap.size = a.b4 := by omega
        have Hx := Lib.hid hx
        have HLp := Lib.hid hLp
        have HB3 := Lib.hid hB3
        clear hx hLp j2 j2f rr rrf r0 r1 r2 r3 r4 r5 x0 hB3
        go_upto_region 29 with fail
        obtain ⟨X, hX⟩ : ∃ X : World, X = (putC wr3 a.b4 x.x).setCell ⟨a.b3, 0, none⟩ (.bool true) := ⟨_, rfl⟩
        have hXe : (((((wr3.setCell ⟨a.b4, 0, none⟩ (.string x.x.row)).setCell ⟨a.b4, 1, none⟩ (.string x.x.col)).setCell ⟨a.b4, 2, none⟩ (.int .u64 x.x.ver)).setCell ⟨a.b4, 3, none⟩ (.bool x.x.gone)).setCell ⟨a.b4, 4, none⟩ (.string x.x.val)).setCell ⟨a.b3, 0, none⟩ (.bool true) = X := by rw [hX]; rfl
        rw [hXe]
        have hXw : X.heap[w.heap.size]? = wr3.heap[w.heap.size]? := by rw [hX, Below.heap_setCell _ _ _ _ n4, putC_heap _ _ _ _ n6]
        obtain ⟨d0, d1, d2, d3, d4⟩ : CellAt X a.b4 0 x.x := (putC_at (fun o ho => (HM.out.beg.c4.any o ho).imp fun u hu => (HB3.out.cell (p := ⟨a.b4, o, none⟩) l4).trans hu) x.x).same (by rw [hX, Below.heap_setCell _ _ _ _ n2])
        have s0 := (World.cell?_of_block (a := ⟨w.heap.size, 0, none⟩) hXw).trans s0
        have s1 := (World.cell?_of_block (a := ⟨w.heap.size, 1, none⟩) hXw).trans s1
        have s2 := (World.cell?_of_block (a := ⟨w.heap.size, 2, none⟩) hXw).trans s2
        have s3 := (World.cell?_of_block (a := ⟨w.heap.size, 3, none⟩) hXw).trans s3
        have s4 := (World.cell?_of_block (a := ⟨w.heap.size, 4, none⟩) hXw).trans s4
        have sf := fun o => (World.frozen?_of_block (a := ⟨w.heap.size, o, none⟩) hXw).trans (sf o)
        have HX := Lib.hid hX
        clear hX hXe hXw q0 q1 q2 q3 q4 t3 tf3 tf4 e0 e1 e2 e3 e4
        go_wp2
        have hE := HM.out.tell_end hrb hzW (Nat.le_refl _) HB3.out x.x
        rw [← HX.out] at hE
        have hpl := HM.out.plain
        have hlast : some x.x = lastV none (stepP none (hs.map HI.p)) := by
          rw [← hpl, List.map_cons]
          show some x.x = some (leastP h0.x (tl.map HI.p))
          rw [HLp.out]
        have hE1 := hE.1
        rw [hlast] at hE1
        refine bodyPost_ret (v := .tuple #[.agg #[.string x.x.row, .string x.x.col, .int .u64 x.x.ver, .bool x.x.gone, .string x.x.val], .bool true]) (by simp [results, Try.results31, go_sem, *]) rfl ⟨?_, ⟨_, h0 :: tl, _, hpl, hE1, fun k hk => ?_⟩, hE.2⟩
        · rw [← hpl, List.map_cons]
          show _ = Ending.returned (headV [leastP h0.x (tl.map HI.p)])
          rw [← HLp.out]; rfl
        · rcases hk.1 with h1 | h1
          · exact .inl h1
          · exact .inr (by omega)
    · refine all_loop3 (h0 := h0) (tl := tl) (W := w7) (arr_tailP HA8.out) HM.out.beg.heads ?_
      intro v15 v72 v73 v74 v75 v76 v77 v78 v79 v80 v81 v82 v83 v84 v85 v86 wr3 hB3
      have hLp := leastH_p h0 tl
      obtain ⟨x, hx⟩ : ∃ x, x = leastH h0 tl := ⟨_, rfl⟩
      have hL := HLat.out.head.same (hB3.block _ HLat.out.head.lt)
      have hLl := HLat.out.head.lt
      rw [← hx] at hL hLp hLl ⊢
      obtain ⟨q0, q1, q2, q3, q4, _, _, _⟩ := hL
      have i3 : a.Is a.b3 := .inr (.inr (.inr (.inl rfl)))
      have i4 : a.Is a.b4 := .inr (.inr (.inr (.inr rfl)))
      have l3 : a.b3 < w7.heap.size := (HM.out.beg.vF _ i3).2
      have l4 : a.b4 < w7.heap.size := (HM.out.beg.vF _ i4).2
      obtain ⟨⟨y0, e0⟩, ⟨y1, e1⟩, ⟨y2, e2⟩, ⟨y3, e3⟩, ⟨y4, e4⟩⟩ := any5 (HM.out.beg.c4.same (hB3.block a.b4 l4))
      have t3 := (hB3.cell (p := ⟨a.b3, 0, none⟩) l3).trans HM.out.beg.c3
      have tf3 := fun o => (hB3.frozen (p := ⟨a.b3, o, none⟩) l3).trans (HM.out.beg.f a.b3 o i3)
      have tf4 := fun o => (hB3.frozen (p := ⟨a.b4, o, none⟩) l4).trans (HM.out.beg.f a.b4 o i4)
      have s0 := (hB3.cell (p := ⟨w.heap.size, 0, none⟩) hz77).trans ((rr 0).trans r1)
      have s1 := (hB3.cell (p := ⟨w.heap.size, 1, none⟩) hz77).trans ((rr 1).trans r2)
      have s2 := (hB3.cell (p := ⟨w.heap.size, 2, none⟩) hz77).trans ((rr 2).trans r3)
      have s3 := (hB3.cell (p := ⟨w.heap.size, 3, none⟩) hz77).trans ((rr 3).trans r4)
      have s4 := (hB3.cell (p := ⟨w.heap.size, 4, none⟩) hz77).trans ((rr 4).trans r5)
      have sf := fun o => ((hB3.frozen (p := ⟨w.heap.size, o, none⟩) hz77).trans (rrf o)).trans (r0 o)
      have n1 : ¬ a.b3 = a.b4 := HM.out.beg.ok.n34
      have n2 : ¬ a.b4 = a.b3 := fun e => n1 e.symm
      have n3 : ¬ a.b3 = w.heap.size := by omega
      have n4 : ¬ w.heap.size = a.b3 := by omega
      have n5 : ¬ a.b4 = w.heap.size := by omega
      have n6 : ¬ w.heap.size = a.b4 := by omega
      have Hx := Lib.hid hx
      have HLp := Lib.hid hLp
      have HB3 := Lib.hid hB3
      clear hx hLp j2 j2f rr rrf r0 r1 r2 r3 r4 r5 x0 hB3
      go_upto_region 29 with fail
      obtain ⟨X, hX⟩ : ∃ X : World, X = (putC wr3 a.b4 x.x).setCell ⟨a.b3, 0, none⟩ (.bool true) := ⟨_, rfl⟩
      have hXe : (((((wr3.setCell ⟨a.b4, 0, none⟩ (.string x.x.row)).setCell ⟨a.b4, 1, none⟩ (.string x.x.col)).setCell ⟨a.b4, 2, none⟩ (.int .u64 x.x.ver)).setCell ⟨a.b4, 3, none⟩ (.bool x.x.gone)).setCell ⟨a.b4, 4, none⟩ (.string x.x.val)).setCell ⟨a.b3, 0, none⟩ (.bool true) = X := by rw [hX]; rfl
      rw [hXe]
      have hXw : X.heap[w.heap.size]? = wr3.heap[w.heap.size]? := by rw [hX, Below.heap_setCell _ _ _ _ n4, putC_heap _ _ _ _ n6]
      obtain ⟨d0, d1, d2, d3, d4⟩ : CellAt X a.b4 0 x.x := (putC_at (fun o ho => (HM.out.beg.c4.any o ho).imp fun u hu => (HB3.out.cell (p := ⟨a.b4, o, none⟩) l4).trans hu) x.x).same (by rw [hX, Below.heap_setCell _ _ _ _ n2])
      have s0 := (World.cell?_of_block (a := ⟨w.heap.size, 0, none⟩) hXw).trans s0
      have s1 := (World.cell?_of_block (a := ⟨w.heap.size, 1, none⟩) hXw).trans s1
      have s2 := (World.cell?_of_block (a := ⟨w.heap.size, 2, none⟩) hXw).trans s2
      have s3 := (World.cell?_of_block (a := ⟨w.heap.size, 3, none⟩) hXw).trans s3
      have s4 := (World.cell?_of_block (a := ⟨w.heap.size, 4, none⟩) hXw).trans s4
      have sf := fun o => (World.frozen?_of_block (a := ⟨w.heap.size, o, none⟩) hXw).trans (sf o)
      have HX := Lib.hid hX
      clear hX hXe hXw q0 q1 q2 q3 q4 t3 tf3 tf4 e0 e1 e2 e3 e4
      go_wp2
      have hE := HM.out.tell_end hrb hzW (Nat.le_refl _) HB3.out x.x
      rw [← HX.out] at hE
      have hpl := HM.out.plain
      have hlast : some x.x = lastV none (stepP none (hs.map HI.p)) := by
        rw [← hpl, List.map_cons]
        show some x.x = some (leastP h0.x (tl.map HI.p))
        rw [HLp.out]
      have hE1 := hE.1
      rw [hlast] at hE1
      refine bodyPost_ret (v := .tuple #[.agg #[.string x.x.row, .string x.x.col, .int .u64 x.x.ver, .bool x.x.gone, .string x.x.val], .bool true]) (by simp [results, Try.results31, go_sem, *]) rfl ⟨?_, ⟨_, h0 :: tl, _, hpl, hE1, fun k hk => ?_⟩, hE.2⟩
      · rw [← hpl, List.map_cons]
        show _ = Ending.returned (headV [leastP h0.x (tl.map HI.p)])
        rw [← HLp.out]; rfl
      · rcases hk.1 with h1 | h1
        · exact .inl h1
        · exact .inr (by omega)
end Go.Proofs.Ytehbikofoidjhaa
