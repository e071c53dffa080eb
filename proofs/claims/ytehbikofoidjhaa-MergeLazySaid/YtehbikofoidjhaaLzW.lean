/-
  The walk of acreagelaw12.MergeLazy.
-/
import Derived.Test.YtehbikofoidjhaaLzK
import Derived.Test.YtehbikofoidjhaaLzAh
import Derived.Test.YtehbikofoidjhaaWorks12W
namespace Go.Proofs.Ytehbikofoidjhaa.Lz
open Go.RowKit Go.Sort

set_option maxRecDepth 100000 in
set_option maxHeartbeats 2000000 in
theorem list_zero (f : FuncId) (caps : Array Value) (w : World) : Calls Try.prog 17 #[.func (.func f) #[] caps, .int .i64 0] w fun e w' => e = .returned (.slice none 0 0) ∧ Below w.heap.size w w' := by
  have hfq := func_neq (.func f) #[] caps
  go_enter Try.func17, Try.ntmps17
  go_wp2
  go_loopw [5, 6, 7] (fun v _ _ wr => v = .slice none 0 0 ∧ Below w.heap.size w wr) (fun _ _ _ _ => 0)
  case atStart => exact ⟨rfl, Below.refl _ _⟩
  case round =>
    obtain ⟨rfl, hB⟩ := hrel
    go_wp2
    go_returns
    exact ⟨rfl, hB⟩

set_option maxRecDepth 100000 in
set_option maxHeartbeats 2000000 in
theorem counted_any (ao : Option Addr) (n cap ib : Nat) (cs : List CellA) (w : World) (h : Cells w ao n cap cs) (hn : n ≤ 1000000) (hc : w.cell? ⟨ib, 0, none⟩ = some (.int .i64 0)) (hf : w.frozen? ⟨ib, 0, none⟩ = false) :
    Calls Try.prog 26 #[.slice ao n cap, .pointer (some ⟨ib, 0, none⟩)] w fun e w' => ∃ (nb sb b : Nat) (F : Nat → Prop), e = .returned (.func (.func 50) #[] #[.pointer (some ⟨nb, 0, none⟩), .pointer (some ⟨sb, 0, none⟩)]) ∧ CntSt ib nb sb b n (some cs) F w' ∧ (∀ k, F k → k = ib ∨ w.heap.size ≤ k) ∧ Below w.heap.size w w' := by
  have KO := Lib.hid fun W (hb : Below w.heap.size w W) => of_any ao n cap cs W (Arr.below h hb) (by omega)
  have Hl := Lib.hid h.len
  have hil : ib < w.heap.size := World.block_lt_of_cell? _ _ hc
  clear h
  go_enter Try.func26, Try.ntmps26
  go_upto_region 2 with (go_at_call 16; refine (KO.out _ (by go_grown)).mono ?_; rintro e w2 ⟨rfl, hS2, hb2⟩; have HS2 := Lib.hid hS2; have Hb2 := Lib.hid hb2; clear hS2 hb2)
  obtain ⟨Fs, hO, hFs⟩ := HS2.out
  have hz2 := Hb2.out.size
  rw [World.size_alloc] at hO hFs hz2
  have hin := hO.inb
  have hcl : (w.alloc (.cells #[.pointer (some ⟨ib, 0, none⟩)] 45)).heap.size = w.heap.size + 1 := World.size_alloc _ _
  obtain ⟨w3, hw3⟩ : ∃ V : World, V = w2.alloc (.cells #[.func (.func 41) #[] #[.pointer (some ⟨w.heap.size + 1, 0, none⟩)]] 25) := ⟨_, rfl⟩
  have hb3 : Below w2.heap.size w2 w3 := by rw [hw3]; exact (Below.refl _ _).alloc (Nat.le_refl _) _
  have hns : w3.cell? ⟨w2.heap.size, 0, none⟩ = some (.func (.func 41) #[] #[.pointer (some ⟨w.heap.size + 1, 0, none⟩)]) := by rw [hw3, World.cell?_alloc_new]; rfl
  have hz3 : w3.heap.size = w2.heap.size + 1 := by rw [hw3, World.size_alloc]
  have hb1 : Below w.heap.size w (w.alloc (.cells #[.pointer (some ⟨ib, 0, none⟩)] 45)) := (Below.refl _ _).alloc (Nat.le_refl _) _
  have hbw2 : Below w.heap.size w w2 := hb1.trans (Hb2.out.mono (by rw [hcl]; omega))
  have hbw : Below w.heap.size w w3 := hbw2.trans (hb3.mono (by omega))
  have hni : w3.cell? ⟨w.heap.size, 0, none⟩ = some (.pointer (some ⟨ib, 0, none⟩)) := by
    rw [hb3.cell (p := ⟨w.heap.size, 0, none⟩) (by simp only; omega), Hb2.out.cell (p := ⟨w.heap.size, 0, none⟩) (by rw [hcl]; simp only; omega), World.cell?_alloc_new]; rfl
  rw [← hw3]
  have Hres : Hid (CntSt ib w.heap.size w2.heap.size (w.heap.size + 1) n (some cs) (fun k => k = ib ∨ k = w.heap.size ∨ k = w2.heap.size ∨ Fs k) w3) := Lib.hid (by
    refine ⟨hni, hns, ?_, fun l hl => ?_, (hbw.frozen (p := ⟨ib, 0, none⟩) hil).trans hf, fun l hl => ?_, .inl rfl, .inr (.inl rfl), .inr (.inr (.inl rfl)), by omega, by omega, fun k hk => ?_⟩
    · rw [hbw.cell (p := ⟨ib, 0, none⟩) hil, hc]
      simp [cntL, Hl.out]
    · cases hl
      rw [Hl.out]; exact Nat.le_refl _
    · cases hl
      refine ⟨Fs, hO.below hb3, fun k hk => ?_⟩
      have h1 := hFs k hk
      have h2 := hin k hk
      exact ⟨.inr (.inr (.inr hk)), by omega, by omega, by omega⟩
    · rcases hk with rfl | rfl | rfl | hk
      · omega
      · omega
      · omega
      · have := hin k hk; omega)
  have HbW := Lib.hid hbw
  have hFs2 : ∀ k, (k = ib ∨ k = w.heap.size ∨ k = w2.heap.size ∨ Fs k) → k = ib ∨ w.heap.size ≤ k := fun k hk => by
    rcases hk with rfl | rfl | rfl | hk
    · exact .inl rfl
    · exact .inr (Nat.le_refl _)
    · exact .inr (by omega)
    · exact .inr (by have := hFs k hk; omega)
  have HFs2 := Lib.hid hFs2
  clear hw3 hO hFs hin hb3 hns hni hb1 hbw2 hbw HS2 Hb2 hFs2 hcl hc hf
  go_wp2
  go_returns
  exact ⟨_, _, _, _, rfl, Hres.out, HFs2.out, HbW.out⟩

/-- two rows as a slice of rows -/
theorem arr_two (w : World) (T : TypeId) (q1 q2 : RI) (b : Nat) (hb : b = w.heap.size) : Arr (w.alloc (.cells #[.func (.func q1.f) #[] q1.caps, .func (.func q2.f) #[] q2.caps] T)) 1 (some ⟨b, 0, none⟩) 2 2 ([some q1, some q2].map rowE) := by
  subst hb
  refine ⟨rowE_elems _, rfl, Nat.le_refl _, by unfold maxLen; omega, fun _ => ⟨w.heap.size, 0, rfl, by rw [World.size_alloc]; omega, fun i e he j u hu => ?_⟩⟩
  match i, he with
  | 0, he =>
    simp only [List.map_cons, List.getElem?_cons_zero, Option.some.injEq] at he
    subst he
    match j, hu with
    | 0, hu => simp [rowE, valR] at hu; subst hu; simp [World.cell?_alloc_new]
    | j + 1, hu => simp [rowE] at hu
  | 1, he =>
    simp only [List.map_cons, List.getElem?_cons_succ, List.getElem?_cons_zero, Option.some.injEq] at he
    subst he
    match j, hu with
    | 0, hu => simp [rowE, valR] at hu; subst hu; simp [World.cell?_alloc_new]
    | j + 1, hu => simp [rowE] at hu
  | i + 2, he => simp at he
theorem rows_two {q1 q2 : RI} {w : World} (h1 : q1.St (some q1.cs) q1.F w) (h2 : q2.St (some q2.cs) q2.F w) (h : ∀ k, q1.F k → ¬ q2.F k) : RowsAt [some q1, some q2] w := by
  refine ⟨fun i r hr => ?_, fun i j r q hij hr hq k hk hk2 => ?_⟩
  · match i, hr with
    | 0, hr => simp at hr; subst hr; exact h1
    | 1, hr => simp at hr; subst hr; exact h2
    | i + 2, hr => simp at hr
  · match i, j, hr, hq with
    | 0, 0, _, _ => exact hij rfl
    | 0, 1, hr, hq => simp at hr hq; subst hr hq; exact h k hk hk2
    | 1, 0, hr, hq => simp at hr hq; subst hr hq; exact h k hk2 hk
    | 1, 1, _, _ => exact hij rfl
    | i + 2, _, hr, _ => simp at hr
    | 0, j + 2, _, hq => simp at hq
    | 1, j + 2, _, hq => simp at hq
theorem rise_len : ∀ (l : List CellA) (o : Option CellA), (riseL o l).length ≤ l.length
  | [], o => by cases o <;> simp [riseL]
  | y :: r, none => by
    have := rise_len r (some y)
    rw [riseL, List.length_cons, List.length_cons]; omega
  | y :: r, some c => by
    rw [riseL]
    split
    · have := rise_len r (some y)
      rw [List.length_cons, List.length_cons]; omega
    · have := rise_len r (some c)
      rw [List.length_cons]; omega
def headC : List CellA → Option PH
  | [] => none
  | c :: t => some (c, t)
theorem ex_len (l : List (List CellA)) : (exL (l.filterMap headC)).length ≤ (l.map List.length).sum := by
  induction l with
  | nil => simp [exL]
  | cons a r ih =>
    cases a with
    | nil =>
      have e : ([] :: r).filterMap headC = r.filterMap headC := rfl
      rw [e]
      simpa using ih
    | cons c t =>
      have := rise_len t (some c)
      simp only [exL, exP, List.filterMap_cons, headC, List.map_cons, List.flatten_cons, List.length_append, List.length_cons, List.sum_cons] at ih ⊢
      omega
theorem two_len (q1 q2 : RI) : (sortL (exL ([some q1, some q2].filterMap headP))).length ≤ q1.cs.length + q2.cs.length := by
  have h0 : [some q1, some q2].filterMap headP = [q1.cs, q2.cs].filterMap headC := by
    have e : ∀ q : RI, headP (some q) = headC q.cs := fun q => by
      show (match q.cs with | [] => none | c :: t => some (c, t)) = _
      cases q.cs <;> rfl
    simp only [List.filterMap_cons, List.filterMap_nil, e]
  have h1 := sortL_len (exL ([some q1, some q2].filterMap headP))
  have h2 := ex_len [q1.cs, q2.cs]
  rw [← h0] at h2
  simp at h2
  omega
/-- how often a row was asked -/
theorem AllSt.cnt {a : AV} {rs : List (Option RI)} {T cs : List CellA} {F : Nat → Prop} {w : World} (h : AllSt a rs (T ++ cs) cs F w) {i : Nat} {r : RI} (hr : rs[i]? = some (some r)) {ib nb sb b L : Nat} (hS : r.St = CntSt ib nb sb b L) (hL : r.cs.length = L) :
    ∃ n : Nat, w.cell? ⟨ib, 0, none⟩ = some (.int .i64 n) ∧ n ≤ aheadL T r.cs + 1 := by
  rcases h with ⟨ao, n, cap, h1, h2, h3⟩ | ⟨v, hs, gs, last, T', h1, h2, h3, h4, h5⟩
  · have h6 := h1.rows.st i r hr
    rw [hS] at h6
    refine ⟨0, ?_, by omega⟩
    rw [h6.cnt]
    simp [cntL, hL]
  · have hT : T' = T := (List.append_cancel_right h3).symm
    subst hT
    rcases h5 i r hr with ⟨x, hx, e1, pre, e2, e3⟩ | ⟨e, he, e1, e2⟩
    · obtain ⟨j, hj⟩ := List.mem_iff_getElem?.1 hx
      have h6 := (h1.heads.at_ j x hj).st
      rw [h1.nd j x hj, e1, hS] at h6
      have h7 := h6.cnt
      have h8 := ahead_pre (r := x.x :: x.rest) e3
      rw [← e2] at h8
      have h9 : L = pre.length + (x.rest.length + 1) := by rw [← hL, e2, List.length_append, List.length_cons]
      refine ⟨pre.length + 1, ?_, by omega⟩
      rw [h7]
      show some (Value.int .i64 ((L : Int) - (x.rest.length : Int))) = _
      congr 2
      omega
    · have h6 := h1.ends e he
      rw [e1, hS] at h6
      have h8 := ahead_pre (r := []) e2
      rw [List.append_nil] at h8
      refine ⟨L + 1, ?_, by omega⟩
      rw [h6.cnt]
      simp [cntL]

theorem cells_keep {w w' : World} {ao : Option Addr} {n cap : Nat} {cs : List CellA} (h : Cells w ao n cap cs) (hs : w.heap.size ≤ w'.heap.size) (hb : ∀ p, ao = some p → 0 < n → w'.heap[p.block]? = w.heap[p.block]?) : Cells w' ao n cap cs := by
  refine ⟨h.elems, Arr.len h, Arr.fits h, Arr.max h, fun h0 => ?_⟩
  obtain ⟨g, off, e, hl, hc⟩ := Arr.lies h h0
  have hg := hb _ e h0
  exact ⟨g, off, e, Nat.lt_of_lt_of_le hl hs, fun i x hx j u hu => by rw [World.cell?_of_block (a := ⟨g, off + i * 5 + j, none⟩) hg]; exact hc i x hx j u hu⟩

set_option maxRecDepth 100000 in
set_option maxHeartbeats 8000000 in
theorem mergelazy_any (aoa aob : Option Addr) (na capa nb capb many : Nat) (cs ds : List CellA) (w : World) (ha : Cells w aoa na capa cs) (hb : Cells w aob nb capb ds) (hm : many ≤ 255) :
    Calls Try.prog 7 #[.slice aoa na capa, .slice aob nb capb, .int .u8 (many : Int)] w fun e w' => e = .returned (.bool true) ∧ Below w.heap.size w w' := by
  obtain ⟨ma, hma⟩ : ∃ m : Nat, (if (100 : Int) < (na : Int) then (100 : Int) else (na : Int)) = (m : Int) := ⟨min na 100, by split <;> omega⟩
  obtain ⟨mb, hmb⟩ : ∃ m : Nat, (if (100 : Int) < (nb : Int) then (100 : Int) else (nb : Int)) = (m : Int) := ⟨min nb 100, by split <;> omega⟩
  have hma1 : ma ≤ na := by split at hma <;> omega
  have hma2 : ma ≤ 100 := by split at hma <;> omega
  have hmb1 : mb ≤ nb := by split at hmb <;> omega
  have hmb2 : mb ≤ 100 := by split at hmb <;> omega
  have hca := Arr.max ha
  have hcb := Arr.max hb
  have hfa := Arr.fits ha
  have hfb := Arr.fits hb
  unfold maxLen at hca hcb
  have hA : Cells w aoa ma capa (cs.take ma) := by
    have := Arr.take ha hma1
    rwa [← List.map_take] at this
  have hB : Cells w aob mb capb (ds.take mb) := by
    have := Arr.take hb hmb1
    rwa [← List.map_take] at this
  obtain ⟨X, hX⟩ : ∃ X, X = sortL (cs.take ma) := ⟨_, rfl⟩
  obtain ⟨Y, hY⟩ : ∃ Y, Y = sortL (ds.take mb) := ⟨_, rfl⟩
  have hXl : X.length ≤ 100 := by
    have h1 := sortL_len (cs.take ma)
    rw [List.length_take] at h1
    rw [hX]; omega
  have hYl : Y.length ≤ 100 := by
    have h1 := sortL_len (ds.take mb)
    rw [List.length_take] at h1
    rw [hY]; omega
  have HXS : Hid (Strict1 X) := Lib.hid (by rw [hX]; exact (sort_first _).1)
  have HYS : Hid (Strict1 Y) := Lib.hid (by rw [hY]; exact (sort_first _).1)
  have KA := Lib.hid fun (W : World) (h : Below w.heap.size w W) => sort_any aoa ma capa (cs.take ma) W (Cells.below hA h) (by omega)
  have KB := Lib.hid fun (W : World) (h : Below w.heap.size w W) => sort_any aob mb capb (ds.take mb) W (Cells.below hB h) (by omega)
  rw [← hX] at KA
  rw [← hY] at KB
  obtain ⟨nx, hnx⟩ : ∃ n, n = X.length := ⟨_, rfl⟩
  obtain ⟨ny, hny⟩ : ∃ n, n = Y.length := ⟨_, rfl⟩
  have Hnx := Lib.hid hnx.symm
  have Hny := Lib.hid hny.symm
  have hnx1 : nx ≤ 100 := by omega
  have hny1 : ny ≤ 100 := by omega
  clear ha hb hA hB hX hY hnx hny hXl hYl
  go_enter Try.func7, Try.ntmps7
  go_upto_region 6 with (first
    | (go_at_call 14; refine (works12_any _).mono ?_; rintro e w1 ⟨rfl, hb⟩; have HB1 := Lib.hid hb; have hz1 := hb.size; clear hb)
    | (go_at_call 25; (with_reducible refine (KA.out _ HB1.out).mono ?_); rintro e w2 ⟨v, rfl, hO, hb⟩; obtain ⟨xa, xc, rfl, hc⟩ := hO.cells_n Hnx.out; have HX2 := Lib.hid hc; have HB2 := Lib.hid (HB1.out.trans (hb.mono hz1)); have hz2 := HB2.out.size; clear hO hc hb)
    | (go_at_call 25; (with_reducible refine (KB.out _ HB2.out).mono ?_); rintro e w3 ⟨v, rfl, hO, hb⟩; obtain ⟨ya, yc, rfl, hc⟩ := hO.cells_n Hny.out; have HY3 := Lib.hid hc; have HX3 := Lib.hid (Cells.below HX2.out hb); have HB3 := Lib.hid (HB2.out.trans (hb.mono hz2)); have hz3 := HB3.out.size; clear hO hc hb))
  obtain ⟨V, hV⟩ : ∃ V : World, V = (w3.alloc (.cells #[.int .i64 0] 3)).alloc (.cells #[.int .i64 0] 3) := ⟨_, rfl⟩
  have hbV : Below w3.heap.size w3 V := by rw [hV]; exact ((Below.refl _ _).alloc (Nat.le_refl _) _).alloc (by rw [World.size_alloc]; omega) _
  have hzV : V.heap.size = w3.heap.size + 2 := by rw [hV, World.size_alloc, World.size_alloc]
  obtain ⟨ib, hib⟩ : ∃ b, b = w3.heap.size := ⟨_, rfl⟩
  obtain ⟨kb, hkb⟩ : ∃ b, b = w3.heap.size + 1 := ⟨_, rfl⟩
  have hi0 : V.cell? ⟨ib, 0, none⟩ = some (.int .i64 0) := by
    rw [hV, hib, World.cell?_alloc_lt _ _ _ (by rw [World.size_alloc]; simp only; omega), World.cell?_alloc_new]; rfl
  have hk0 : V.cell? ⟨kb, 0, none⟩ = some (.int .i64 0) := by
    have : (w3.alloc (.cells #[.int .i64 0] 3)).heap.size = kb := by rw [World.size_alloc, hkb]
    rw [hV, ← this, World.cell?_alloc_new]; rfl
  have hif : V.frozen? ⟨ib, 0, none⟩ = false := by rw [hV, hib]; go_simp
  have hkf : V.frozen? ⟨kb, 0, none⟩ = false := by rw [hV, hkb]; go_simp
  rw [← hV, ← hkb, ← hib]
  have hX : Cells V xa nx xc X := Cells.below HX3.out hbV
  have hY : Cells V ya ny yc Y := Cells.below HY3.out hbV
  have hwV : Below w.heap.size w V := HB3.out.trans (hbV.mono hz3)
  have hzwV := hwV.size
  have hxa : ∀ p, xa = some p → 0 < nx → p.block < ib := fun p hp h0 => by
    obtain ⟨g, off, e, hg, _⟩ := Arr.lies HX3.out h0
    rw [hp] at e; cases e
    rw [hib]; exact hg
  have hya : ∀ p, ya = some p → 0 < ny → p.block < ib := fun p hp h0 => by
    obtain ⟨g, off, e, hg, _⟩ := Arr.lies HY3.out h0
    rw [hp] at e; cases e
    rw [hib]; exact hg
  have HX := Lib.hid hX
  have HY := Lib.hid hY
  have HwV := Lib.hid hwV
  have Hxa := Lib.hid hxa
  have Hya := Lib.hid hya
  have Hk0 := Lib.hid hk0
  have Hkf := Lib.hid hkf
  have K1 := Lib.hid (counted_any xa nx xc ib X V hX (by omega) hi0 hif)
  have hibV : ib < V.heap.size := by omega
  have hkbV : kb < V.heap.size := by omega
  have hikb : kb = ib + 1 := by omega
  have Hikb := Lib.hid hikb
  have hVib : V.heap.size = ib + 2 := by omega
  have HVib := Lib.hid hVib
  have Hib3 : Hid (w.heap.size ≤ ib) := Lib.hid (by omega)
  clear hV hbV hzV hib hkb hi0 hk0 hif hkf hX hY hwV hxa hya hikb hVib hma hmb KA KB
  go_wp2_with fail
  refine K1.out.mono ?_
  rintro e w4 ⟨nb1, sb1, b1, F1, rfl, hc1, hF1, hb4⟩
  have hz4 := hb4.size
  have K2 := Lib.hid (counted_any ya ny yc kb Y w4 (Cells.below HY.out hb4) (by omega) ((hb4.cell (p := ⟨kb, 0, none⟩) hkbV).trans Hk0.out) ((hb4.frozen (p := ⟨kb, 0, none⟩) hkbV).trans Hkf.out))
  have HC1 := Lib.hid hc1
  have HF1 := Lib.hid hF1
  have HB4 := Lib.hid hb4
  clear hc1 hF1 hb4 K1
  go_wp2_with fail
  refine K2.out.mono ?_
  rintro e w5 ⟨nb2, sb2, b2, F2, rfl, hc2, hF2, hb5⟩
  have hz5 := hb5.size
  obtain ⟨q1, hq1⟩ : ∃ q : RI, q = ⟨50, #[.pointer (some ⟨nb1, 0, none⟩), .pointer (some ⟨sb1, 0, none⟩)], CntSt ib nb1 sb1 b1 nx, counted_row ib nb1 sb1 b1 nx (by omega), X, F1⟩ := ⟨_, rfl⟩
  obtain ⟨q2, hq2⟩ : ∃ q : RI, q = ⟨50, #[.pointer (some ⟨nb2, 0, none⟩), .pointer (some ⟨sb2, 0, none⟩)], CntSt kb nb2 sb2 b2 ny, counted_row kb nb2 sb2 b2 ny (by omega), Y, F2⟩ := ⟨_, rfl⟩
  have hl1 := HC1.out.inb
  have hl2 := hc2.inb
  have hdis : ∀ k, F1 k → ¬ F2 k := fun k h1 h2 => by
    have h3 := hl1 k h1
    have h4 := Hikb.out
    have h5 := HVib.out
    rcases HF1.out k h1 with rfl | h6
    · rcases hF2 k h2 with h7 | h7
      · omega
      · omega
    · rcases hF2 k h2 with h7 | h7
      · omega
      · omega
  have hAr : Arr (w5.alloc (.cells #[.func (.func 50) #[] #[.pointer (some ⟨nb1, 0, none⟩), .pointer (some ⟨sb1, 0, none⟩)], .func (.func 50) #[] #[.pointer (some ⟨nb2, 0, none⟩), .pointer (some ⟨sb2, 0, none⟩)]] 25)) 1 (some ⟨w5.heap.size, 0, none⟩) 2 2 ([some q1, some q2].map rowE) := by
    have := arr_two w5 25 q1 q2 w5.heap.size rfl
    rw [hq1, hq2] at this ⊢
    exact this
  have hba : Below w5.heap.size w5 (w5.alloc (.cells #[.func (.func 50) #[] #[.pointer (some ⟨nb1, 0, none⟩), .pointer (some ⟨sb1, 0, none⟩)], .func (.func 50) #[] #[.pointer (some ⟨nb2, 0, none⟩), .pointer (some ⟨sb2, 0, none⟩)]] 25)) := (Below.refl _ _).alloc (Nat.le_refl _) _
  have hRo : RowsAt [some q1, some q2] (w5.alloc (.cells #[.func (.func 50) #[] #[.pointer (some ⟨nb1, 0, none⟩), .pointer (some ⟨sb1, 0, none⟩)], .func (.func 50) #[] #[.pointer (some ⟨nb2, 0, none⟩), .pointer (some ⟨sb2, 0, none⟩)]] 25)) := by
    refine rows_two ?_ ?_ ?_
    · rw [hq1]
      exact (HC1.out.keep hb5.size (fun k hk => hb5.block k (hl1 k hk))).keep hba.size (fun k hk => hba.block k (by have := hl1 k hk; omega))
    · rw [hq2]
      exact hc2.keep hba.size (fun k hk => hba.block k (hl2 k hk))
    · rw [hq1, hq2]; exact hdis
  have K3 := Lib.hid (all_any _ 2 2 [some q1, some q2] _ hAr hRo (by omega))
  have HF2 := Lib.hid hF2
  have HB5 := Lib.hid hb5
  have Hq1 := Lib.hid hq1
  have Hq2 := Lib.hid hq2
  have Hba := Lib.hid hba
  have hzba := hba.size
  clear hc2 hF2 hb5 hq1 hq2 hAr hRo hdis hl1 hl2 hba K2
  go_wp2_with fail
  refine K3.out.mono ?_
  rintro e w6 ⟨a, F, ao6, n6, c6, rfl, hN6, hF6, hb6⟩
  have hst1 := hN6.rows.st 0 q1 rfl
  have hst2 := hN6.rows.st 1 q2 rfl
  rw [Hq1.out] at hst1
  rw [Hq2.out] at hst2
  have hi6 : w6.cell? ⟨ib, 0, none⟩ = some (.int .i64 0) := by
    have := hst1.cnt
    rw [this]
    show some (Value.int .i64 ((nx : Int) - (X.length : Int))) = _
    rw [Hnx.out]; congr 2; omega
  have hk6 : w6.cell? ⟨kb, 0, none⟩ = some (.int .i64 0) := by
    have := hst2.cnt
    rw [this]
    show some (Value.int .i64 ((ny : Int) - (Y.length : Int))) = _
    rw [Hny.out]; congr 2; omega
  have hil6 : ib < w6.heap.size := World.block_lt_of_cell? _ _ hi6
  have hkl6 : kb < w6.heap.size := World.block_lt_of_cell? _ _ hk6
  have HN6 := Lib.hid hN6
  have HF6 := Lib.hid hF6
  have hVw6 : Below V.heap.size V w6 := HB4.out.trans ((HB5.out.mono hz4).trans ((Hba.out.mono (by omega)).trans (hb6.mono (by omega))))
  have HVw6 := Lib.hid hVw6
  have hw6 : Below w.heap.size w w6 := HwV.out.trans (hVw6.mono hzwV)
  have Hw6 := Lib.hid hw6
  have hz6 := hw6.size
  clear hst1 hst2 hN6 hF6 hVw6 hw6 hb6 K3
  go_upto_region 9 with fail
  by_cases h0 : many = 0
  · subst h0
    have KL := Lib.hid fun W => list_zero 31 a.caps W
    simp only [AV.caps] at KL ⊢
    go_wp2_with (go_at_call 17; refine (KL.out _).mono ?_; rintro e w7 ⟨rfl, hb7⟩; have i7 := (hb7.cell (p := ⟨ib, 0, none⟩) hil6).trans hi6; have k7 := (hb7.cell (p := ⟨kb, 0, none⟩) hkl6).trans hk6; have Hb7 := Lib.hid (Hw6.out.trans (hb7.mono hz6)); clear hb7)
    go_returns
    exact ⟨rfl, Hb7.out⟩
  · have h0b : ((many : Int) == 0) = false := by rw [beq_eq_false_iff_ne]; omega
    obtain ⟨rs, hrs⟩ : ∃ l : List (Option RI), l = [some q1, some q2] := ⟨_, rfl⟩
    obtain ⟨C, hC⟩ : ∃ C, C = sortL (exL (rs.filterMap headP)) := ⟨_, rfl⟩
    have hT : Tells none (rs.filterMap headP) C := by rw [hC]; exact tells_all _
    have hx1 : q1.cs = X := by rw [Hq1.out]
    have hx2 : q2.cs = Y := by rw [Hq2.out]
    have hCl : C.length ≤ 200 := by
      have h1 := two_len q1 q2
      rw [hx1, hx2, Hnx.out, Hny.out] at h1
      rw [hC, hrs]; omega
    have hStr : ∀ (i : Nat) (r : RI), rs[i]? = some (some r) → Strict1 r.cs := fun i r hr => by
      rw [hrs] at hr
      match i, hr with
      | 0, hr => simp at hr; subst hr; rw [hx1]; exact HXS.out
      | 1, hr => simp at hr; subst hr; rw [hx2]; exact HYS.out
      | i + 2, hr => simp at hr
    have HN := HN6.out
    have HFr := HF6.out
    rw [← hrs] at HN HFr
    have K4 := list_any 31 a.caps (AllSt a rs C) (all_row a rs C hStr) C F w6 (.inl ⟨ao6, n6, c6, HN, hT, rfl⟩) many many (.inl rfl) (by omega)
    simp only [AV.caps] at K4 ⊢
    have K4 := Lib.hid K4
    have hFb : ∀ k, F k → ib ≤ k := fun k hk => by
      have hv := HVib.out
      rcases HFr k hk with ⟨i, r, hr, h1⟩ | h1
      · rw [hrs] at hr
        match i, hr with
        | 0, hr =>
          simp at hr; subst hr
          rw [Hq1.out] at h1
          rcases HF1.out k h1 with h2 | h2
          · omega
          · omega
        | 1, hr =>
          simp at hr; subst hr
          rw [Hq2.out] at h1
          have := Hikb.out
          rcases HF2.out k h1 with h2 | h2
          · omega
          · omega
        | i + 2, hr => simp at hr
      · omega
    have HFb := Lib.hid hFb
    have hg1 : rs[0]? = some (some q1) := by rw [hrs]; rfl
    have hg2 : rs[1]? = some (some q2) := by rw [hrs]; rfl
    have Hcnt : Hid (∀ F' V, AllSt a rs C (C.drop many) F' V → (∃ n : Nat, V.cell? ⟨ib, 0, none⟩ = some (.int .i64 n) ∧ n ≤ aheadL (C.take many) X + 1) ∧ (∃ n : Nat, V.cell? ⟨kb, 0, none⟩ = some (.int .i64 n) ∧ n ≤ aheadL (C.take many) Y + 1)) := Lib.hid fun F' V hV => by
      have e : C = C.take many ++ C.drop many := (List.take_append_drop many C).symm
      have hV2 : AllSt a rs (C.take many ++ C.drop many) (C.drop many) F' V := by rw [← e]; exact hV
      refine ⟨?_, ?_⟩
      · have := hV2.cnt hg1 (ib := ib) (nb := nb1) (sb := sb1) (b := b1) (L := nx) (by rw [Hq1.out]) (by rw [hx1]; exact Hnx.out)
        rwa [hx1] at this
      · have := hV2.cnt hg2 (ib := kb) (nb := nb2) (sb := sb2) (b := b2) (L := ny) (by rw [Hq2.out]) (by rw [hx2]; exact Hny.out)
        rwa [hx2] at this
    obtain ⟨T, hTe⟩ : ∃ T, T = C.take many := ⟨_, rfl⟩
    rw [← hTe] at Hcnt
    rw [← hTe] at K4
    clear hrs hC hT hx1 hx2 hCl hStr HN HFr hFb hg1 hg2 hTe h0
    go_upto_region 10 with (go_at_call 17; refine K4.out.mono ?_; rintro e w7 ⟨v, rfl, hL⟩; have HL := Lib.hid hL; obtain ⟨ta, tc, rfl, hct⟩ := Own.cells hL.own; have HT7 := Lib.hid hct; clear hL hct)
    obtain ⟨F', hA7, _, _⟩ := HL.out.rest
    obtain ⟨⟨m1, hm1, hle1⟩, ⟨m2, hm2, hle2⟩⟩ := Hcnt.out F' w7 hA7
    have hk7 := HL.out.kept
    have hz7 := hk7.size
    have hX7 : Cells w7 xa nx xc X := cells_keep (Cells.below HX.out HVw6.out) hz7 (fun p hp h0 => hk7.block _ (by have := Hxa.out p hp h0; omega) (fun hf => by have := Hxa.out p hp h0; have := HFb.out _ hf; omega))
    have hY7 : Cells w7 ya ny yc Y := cells_keep (Cells.below HY.out HVw6.out) hz7 (fun p hp h0 => hk7.block _ (by have := Hya.out p hp h0; omega) (fun hf => by have := Hya.out p hp h0; have := HFb.out _ hf; omega))
    have Hw7 : Hid (Below w.heap.size w w7) := Lib.hid (Hw6.out.trans (hk7.below (B := w.heap.size) (fun k hk => by have h1 := HFb.out k hk; have h2 := HVib.out; have h3 := Hib3.out; omega) hz6))
    have KX := Lib.hid fun (V : World) (h : Below w7.heap.size w7 V) => ahead_any xa ta nx xc T.length tc X T V (Cells.below hX7 h) (Cells.below HT7.out h)
    have KY := Lib.hid fun (V : World) (h : Below w7.heap.size w7 V) => ahead_any ya ta ny yc T.length tc Y T V (Cells.below hY7 h) (Cells.below HT7.out h)
    obtain ⟨s1, hs1⟩ : ∃ s, s = aheadL T X := ⟨_, rfl⟩
    obtain ⟨s2, hs2⟩ : ∃ s, s = aheadL T Y := ⟨_, rfl⟩
    have hs1l : s1 ≤ 100 := by have := ahead_le T X; rw [Hnx.out] at this; omega
    have hs2l : s2 ≤ 100 := by have := ahead_le T Y; rw [Hny.out] at this; omega
    rw [← hs1] at KX hle1
    rw [← hs2] at KY hle2
    have d1 : decide ((m1 : Int) ≤ (s1 : Int) + 1) = true := decide_eq_true (by omega)
    have d2 : decide ((m2 : Int) ≤ (s2 : Int) + 1) = true := decide_eq_true (by omega)
    have hil7 : ib < w7.heap.size := by omega
    have hkl7 : kb < w7.heap.size := by omega
    have hz77 := Hw7.out.size
    clear hA7 hk7 hX7 hY7 hs1 hs2 Hcnt K4 hi6 hk6
    go_upto_region 12 with fail
    refine wp_region_below (by kernel_rfl) (by kernel_rfl) (fun hkept => ?_)
    obtain ⟨r0, rf0⟩ := hkept (ib) (by go_size); obtain ⟨r1, rf1⟩ := hkept (kb) (by go_size); clear hkept
    repeat (any_goals (first | go_big_quiet_step (first | (go_at_call 27; with_reducible exact Calls.regrown_of ((KX.out _ (below_regrown _ _ _)))) | (go_at_call 27; with_reducible exact Calls.regrown_of ((KY.out _ (below_regrown _ _ _))))) | quiet_step (first | (go_at_call 27; with_reducible exact Calls.regrown_of ((KX.out _ (below_regrown _ _ _)))) | (go_at_call 27; with_reducible exact Calls.regrown_of ((KY.out _ (below_regrown _ _ _))))) | (refine wpQuiet_step (fun K hK => ?_); go_simp; split <;> (refine hK _ ?_; clear hK K))))
    all_goals (refine wpQuiet_nil ?_; intro w8 hb; obtain ⟨hB, hS, hk⟩ := after (B := w7.heap.size) (w := w7) (by go_grown) (by go_size) hb; obtain ⟨c0, f0, z0⟩ := hk (ib) (by go_size); obtain ⟨c1, f1, z1⟩ := hk (kb) (by go_size); clear hk hb r0 rf0 r1 rf1)
    go_wp2
    go_returns
    exact ⟨rfl, Hw7.out.trans (hB.mono hz77)⟩
end Go.Proofs.Ytehbikofoidjhaa.Lz
