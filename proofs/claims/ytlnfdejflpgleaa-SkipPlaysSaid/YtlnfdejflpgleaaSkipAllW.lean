/-
  Skip lists: From, All, and the walk of the iterator that All hands back.
-/
import Derived.Test.YtlnfdejflpgleaaFromW
import Derived.Test.YtlnfdejflpgleaaRangeN
import Derived.Laws.EntriesVeiled
import Derived.ScopeJumps
namespace Go.Proofs.Ytlnfdejflpgleaa
open Go.RowKit Go.Shelf

attribute [local go_sem] Oper.semAt_some
theorem round_depth {F : Fence} (hd : F.depth = none) {m m' : Nat} {P : Program} {l : Nat} {f : FuncId} {tmps : Array Value} {assign body : Code} {w : World} {R : Ending → World → Prop} (h : RoundIn F m P l f tmps assign body w R) : RoundIn F m' P l f tmps assign body w R :=
  ⟨h.1, fun c cs _ => h.2 c cs (fun d h => by rw [hd] at h; cases h)⟩
theorem yield_depth {F : Fence} (hd : F.depth = none) {m : Nat} (m' : Nat) {P : Program} {l : Nat} {args : Array Value} {W : World} {R : Ending → World → Prop} (h : YieldAt F m P l args W R) : YieldAt F m' P l args W R := by
  obtain ⟨fn, tmps, assign, body, hy, hR⟩ := h
  exact ⟨fn, tmps, assign, body, hy, round_depth hd hR⟩

theorem from_any (lb : Nat) (row col : ByteArray) (w : World) :
    Calls Try.prog 23 #[.pointer (some ⟨lb, 0, none⟩), .string row, .string col] w fun e w' => e = .returned (.func (.func 36) #[] #[.pointer (some ⟨w.heap.size, 0, none⟩), .pointer (some ⟨w.heap.size + 1, 0, none⟩), .pointer (some ⟨w.heap.size + 2, 0, none⟩)]) ∧
      Below w.heap.size w w' ∧ w'.heap.size = w.heap.size + 3 ∧ w'.cell? ⟨w.heap.size, 0, none⟩ = some (.pointer (some ⟨lb, 0, none⟩)) ∧ w'.cell? ⟨w.heap.size + 1, 0, none⟩ = some (.string row) ∧ w'.cell? ⟨w.heap.size + 2, 0, none⟩ = some (.string col) := by
  go_enter Try.func23, Try.ntmps23
  go_wp2
  go_ret
  exact ⟨rfl, by go_grown, by simp, by go_simp, by go_simp, by go_simp⟩
theorem all_any (lb : Nat) (w : World) :
    Calls Try.prog 11 #[.pointer (some ⟨lb, 0, none⟩)] w fun e w' => e = .returned (.func (.func 27) #[] #[.pointer (some ⟨w.heap.size, 0, none⟩)]) ∧
      Below w.heap.size w w' ∧ w'.heap.size = w.heap.size + 1 ∧ w'.cell? ⟨w.heap.size, 0, none⟩ = some (.pointer (some ⟨lb, 0, none⟩)) := by
  go_enter Try.func11, Try.ntmps11
  go_wp2
  go_ret
  exact ⟨rfl, by go_grown, by simp, by go_simp⟩
theorem cut_all (hd : Nd) (ns : List Nd) : CutAt (aheadP ⟨#[]⟩ ⟨#[]⟩) (hd :: ns) 1 := by
  refine ⟨by decide, by simp, fun i n h1 h2 _ => by omega, fun i n _ _ => ?_⟩
  have e : (⟨#[]⟩ : ByteArray).toList = [] := by rw [Lib.toList_data]
  simp [aheadP, e]

set_option maxRecDepth 100000 in
set_option maxHeartbeats 4000000 in
theorem all1_stops (n : Nat) (hn : 2 ≤ n) (bA lb : Nat) (hd : Nd) (ns : List Nd) (w : World) (hS : SkipAt w lb hd ns) (hbA : w.cell? ⟨bA, 0, none⟩ = some (.pointer (some ⟨lb, 0, none⟩))) (hlen : ns.length < 1000000) (Sf : Nat → World → Prop) (hSf : Safe w Sf) (B : Nat) (hB : B ≤ w.heap.size + 4) :
    SeqN (α := { c : CellA // c ∈ cellsFrom (hd :: ns) 1 }) n Try.prog 27 #[.pointer (some ⟨bA, 0, none⟩)]
      (fun x => #[.agg #[.string x.1.row, .string x.1.col, .int .u64 x.1.ver, .bool x.1.gone, .string x.1.val]]) (KpS Sf B) (fun xs => xs.map (·.1) = cellsFrom (hd :: ns) 1) (fun pre => pre.map (·.1) <+: cellsFrom (hd :: ns) 1) (cellsFrom (hd :: ns) 1).length w := by
  intro l J Jx W hW hJ hJx hY h0
  have c1 := (hW.cell (p := ⟨bA, 0, none⟩) (World.block_lt_of_cell? _ _ hbA)).trans hbA
  have hbl := World.block_lt_of_cell? _ _ c1
  simp only at hbl
  have HSW := Lib.hid (hS.below hW)
  have hWz := hW.size
  have HSf := Lib.hid (hSf.later hW)
  have HY := Lib.hid hY
  have HJ := Lib.hid hJ
  have HJx := Lib.hid hJx
  have H0 := Lib.hid h0
  have KF := Lib.hid fun (V : World) => from_any lb ⟨#[]⟩ ⟨#[]⟩ V
  clear hS hSf hY hJ hJx h0 hbA hW
  refine callsIn_of_wp_marks (F := Fence.wide) (n := n) Try.func27 rfl trivial ?_ rfl
  refine wpIn_wide.2 ?_
  simp only [Try.ntmps27, List.size_toArray, List.length_cons, List.length_nil, Nat.reduceAdd, Nat.reduceSub, Array.replicate_succ, Array.replicate_zero, List.push_toArray, List.append_toArray, List.nil_append, List.cons_append]
  go_wp2_with fail
  refine (KF.out _).mono ?_
  rintro e w1 ⟨rfl, hb, hz, k0, k1, k2⟩
  simp only [World.size_alloc] at hz k0 k1 k2
  go_wp2
  have hbW : Below W.heap.size W w1 := ((Below.refl _ _).alloc (Nat.le_refl _) _).trans (hb.mono (by simp))
  have hyb : w1.heap[W.heap.size]? = some (.cells #[.func (.yield l) #[] #[]] 66 (0, 0)) := (hb.block _ (by simp)).trans (World.alloc_heap_new W _)
  have hSf1 := HSf.out.later hbW
  have HSf1 := Lib.hid hSf1
  have hB1 : B ≤ w1.heap.size := by have := hWz; omega
  have hJ1 : OwnFrom w1.heap.size J := fun s A B row hs hg hr => HJ.out s A B row hs hg (fun r e => ⟨by have := (hr r e).1; omega, (hr r e).2⟩)
  have hJx1 : OwnFrom w1.heap.size Jx := fun s A B row hs hg hr => HJx.out s A B row hs hg (fun r e => ⟨by have := (hr r e).1; omega, (hr r e).2⟩)
  refine (wpIn_wide (n := n)).1 ?_
  refine range_law (n := n) (by omega) (gf := 36) (lb := #[.pointer (some ⟨W.heap.size + 1, 0, none⟩), .pointer (some ⟨W.heap.size + 1 + 1, 0, none⟩), .pointer (some ⟨W.heap.size + 1 + 2, 0, none⟩)]) rfl (enters_of Try.func36 (by kernel_rfl) rfl)
    (SeqN.of_K (from1_stops (n - 1) (by omega) ⟨#[]⟩ ⟨#[]⟩ _ _ _ lb hd ns 1 w1 (HSW.out.below hbW) (cut_all hd ns) k0 k1 k2 hlen Sf hSf1 (w1.heap.size + 2)))
    (fun h k => h.trans k) (fun V o o' ho hc => KpS.putObj HSf1.out (Nat.le_succ _) (Nat.lt_succ_self _) ho hc) (fun _ => rfl)
    (fun pre V => J pre V ∧ Sf W.heap.size V ∧ V.heap[W.heap.size]? = w1.heap[W.heap.size]?) (fun c pre V => c = .ret ∧ Jx pre V) ?hI ?hIx ?h0
    (fun x a' V => ∃ Bx, V.cell? ⟨Bx, 0, none⟩ = some (.string x.1.row) ∧ V.cell? ⟨Bx, 1, none⟩ = some (.string x.1.col) ∧ V.cell? ⟨Bx, 2, none⟩ = some (.int .u64 x.1.ver) ∧ V.cell? ⟨Bx, 3, none⟩ = some (.bool x.1.gone) ∧ V.cell? ⟨Bx, 4, none⟩ = some (.string x.1.val) ∧
      a' = { tmps := #[.func (.yield l) #[] #[], .pointer (some ⟨bA, 0, none⟩), .pointer (some ⟨W.heap.size, 0, none⟩), .pointer (some ⟨Bx, 0, none⟩), .pointer (some ⟨lb, 0, none⟩), .func (.func 36) #[] #[.pointer (some ⟨W.heap.size + 1, 0, none⟩), .pointer (some ⟨W.heap.size + 1 + 1, 0, none⟩), .pointer (some ⟨W.heap.size + 1 + 2, 0, none⟩)], .agg #[.string x.1.row, .string x.1.col, .int .u64 x.1.ver, .bool x.1.gone, .string x.1.val], undef, undef, undef, undef], defers := [] })
    ?hAx ?assign ?body ?done ?stop
  case hI =>
    rintro s A B row ⟨h1, h2, h3⟩ hg hr
    exact ⟨hJ1 s A B row h1 hg hr, HSf1.out.own _ A B row h2 hg hr, (hg.block _ (by obtain ⟨arr, T, fr, e⟩ := HSf1.out.cells _ _ h2; exact (Array.getElem?_eq_some_iff.1 e).1) (fun e => by have := (hr _ e.symm).1; omega)).trans h3⟩
  case hIx =>
    rintro c s A B row ⟨h1, h2⟩ hg hr
    exact ⟨h1, hJx1 s A B row h2 hg hr⟩
  case h0 => exact ⟨HJ.out _ _ _ none H0.out (grown_none hbW) (fun r e => by cases e), HSf.out.new _ W w1 (Below.refl _ _) hbW (Nat.le_refl _) (by omega) ⟨_, _, _, hyb, by decide⟩, rfl⟩
  case hAx =>
    rintro x a' s A B row ⟨Bx, g0, g1, g2, g3, g4, g5⟩ hg hr
    exact ⟨Bx, cell_kept g0 hg (fun r e => (hr r e).2), cell_kept g1 hg (fun r e => (hr r e).2), cell_kept g2 hg (fun r e => (hr r e).2), cell_kept g3 hg (fun r e => (hr r e).2), cell_kept g4 hg (fun r e => (hr r e).2), g5⟩
  case assign =>
    rintro l2 pre x V K ⟨h1, h2, h3⟩ hK
    have hbV : ∀ o : Obj, Below V.heap.size V (V.alloc o) := fun o => (Below.refl _ _).alloc (Nat.le_refl _) o
    have hyl : W.heap.size < V.heap.size := by obtain ⟨arr, T, fr, e⟩ := HSf1.out.cells _ _ h2; exact (Array.getElem?_eq_some_iff.1 e).1
    gi_wp2
    refine hK _ _ (keepsFrom_alloc _ _) (KpS.below HSf1.out (hbV _)) ⟨hJ1.alloc _ h1, HSf1.out.keep _ _ _ h2 (hbV _), ((hbV _).block _ hyl).trans h3⟩ ⟨V.heap.size, by go_simp, by go_simp, by go_simp, by go_simp, by go_simp, rfl⟩
  case body =>
    rintro l2 pre x a' V ⟨h1, h2, h3⟩ ⟨Bx, g0, g1, g2, g3, g4, rfl⟩ hlt
    have hyc : V.cell? ⟨W.heap.size, 0, none⟩ = some (.func (.yield l) #[] #[]) := by
      rw [World.cell?_of_block (a := ⟨W.heap.size, 0, none⟩) h3]
      simp [World.cell?, hyb]
    obtain ⟨fn, tmps, assign, body, hy, hR⟩ := yield_depth rfl (n - 1 - 1 - 1) (HY.out pre x V h1 hlt)
    have HR : Hid (RoundIn (Fence.wide.inRound l2) (n - 1 - 1 - 1) Try.prog l fn tmps assign body V _) := Lib.hid hR
    have H1 := Lib.hid h1
    have H2 := Lib.hid h2
    have H3 := Lib.hid h3
    clear hR h1 h2 h3
    gi_wp2
    refine ⟨(fun h => by cases h), HR.out.mono ?_⟩
    rintro e V3 (⟨rfl, hJ3, hk3⟩ | ⟨rfl, hJx3, hk3⟩)
    · have HJ3 := Lib.hid hJ3
      have HK3 := Lib.hid hk3
      clear hJ3 hk3
      gi_wp2
      obtain ⟨q1, q2⟩ := HK3.out.same _ H2.out
      exact ⟨⟨(HK3.out.later hB1).keeps, HK3.out.later (by omega)⟩, HJ3.out, q2, q1.trans H3.out⟩
    · have HJ3 := Lib.hid hJx3
      have HK3 := Lib.hid hk3
      clear hJx3 hk3
      gi_wp2
      exact ⟨⟨(HK3.out.later hB1).keeps, HK3.out.later (by omega)⟩, rfl, HJ3.out⟩
  case done =>
    rintro D xs V hD hx ⟨h1, _⟩ hK
    go_wp2
    exact postM_end1 rfl hK (results_none rfl _ _ _) ⟨⟨_, rfl⟩, .inl ⟨xs, hx, hJ1.putObj _ h1 (by omega) hK rfl⟩⟩
  case stop =>
    rintro D c pre V hD hp ⟨rfl, h1⟩ hK
    gi_wp2
    exact postM_ret1 rfl hK (results_none rfl _ _ _) ⟨⟨_, rfl⟩, .inr ⟨pre, hp, hJx1.putObj _ h1 (by omega) hK rfl⟩⟩
end Go.Proofs.Ytlnfdejflpgleaa
