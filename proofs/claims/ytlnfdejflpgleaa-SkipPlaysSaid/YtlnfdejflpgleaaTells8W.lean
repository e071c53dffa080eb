/-
  acreagelaw08.tells.
-/
import Derived.Test.YtlnfdejflpgleaaPlays8P
import Derived.Test.YtlnfdejflpgleaaStillP
import Derived.Test.YtlnfdejflpgleaaReads
import Derived.Test.YtlnfdejflpgleaaMarksN
import Derived.LoopN
namespace Go.Proofs.Ytlnfdejflpgleaa
open Go.RowKit Go.Shelf

attribute [local go_sem] Oper.semAt_some readsUpon
/-- the blocks that a turn of tells leaves as they are: all cells but its number and tells' answer -/
def SafeT (br bn : Nat) (g : Nat) (W : World) : Prop := (∃ arr T fr, W.heap[g]? = some (.cells arr T fr)) ∧ g ≠ bn ∧ g ≠ br
theorem safeT {br bn : Nat} {w1 : World} (hbn : bn < w1.heap.size) (hbr : br < w1.heap.size) : Safe w1 (SafeT br bn) := by
  refine ⟨fun g W h => h.1, fun g W W' h1 h2 h3 _ ⟨arr, T, fr, h5, _⟩ => ⟨⟨arr, T, fr, h5⟩, by have := h1.size; omega, by have := h1.size; omega⟩, fun g W W' row hs hg hr => ?_⟩
  obtain ⟨arr, T, fr, e⟩ := hs.1
  exact ⟨⟨arr, T, fr, (hg.block g (Array.getElem?_eq_some_iff.1 e).1 (fun h => by
    obtain ⟨_, o, h2, h3⟩ := hr g h.symm
    rw [e] at h2; cases h2; cases h3)).trans e⟩, hs.2⟩
/-- what a round of tells keeps -/
theorem tell_kps {br bn : Nat} {w0 W W2 V : World} {o : Obj} (hW : w0.heap.size ≤ W.heap.size) (hg : (W.alloc o).grownBy W2 (some (w0.heap.size + 1))) (hq : ∀ (q : Nat) (o : Obj), W.heap[q]? = some o → o.isCells = true → W2.heap[q]? = W.heap[q]?)
    (h1 : ∀ g, g ≠ bn → g ≠ br → V.heap[g]? = W2.heap[g]?) (hK : ∀ B', KeepsFrom B' W2 V) : KeepsFrom w0.heap.size W2 V ∧ KpS (SafeT br bn) (w0.heap.size + 2) W V := by
  have hKW : KeepsFrom (w0.heap.size + 2) W V := ((keepsFrom_alloc W o).trans (KeepsFrom.of_grownBy hg (fun j e => by cases e; omega))).trans (hK _)
  refine ⟨hK _, ⟨hKW.size, fun g hs => ?_, hKW⟩⟩
  obtain ⟨⟨arr, T, fr, e⟩, n1, n2⟩ := hs
  have e2 := (h1 g n1 n2).trans (hq g _ e rfl)
  exact ⟨e2, ⟨arr, T, fr, e2.trans e⟩, n1, n2⟩
/-- between two rounds of a turn: w is tells' beginning, w1 the turn's; n rounds are done -/
structure TellI (w w1 : World) (bn n : Nat) (V : World) : Prop where
  bel : Below w.heap.size w V
  size : w1.heap.size ≤ V.heap.size
  keep : ∀ (q : Nat) o, w1.heap[q]? = some o → o.isCells = true → q ≠ bn → V.heap[q]? = some o
  n : V.cell? ⟨bn, 0, none⟩ = some (.int .i64 n)
  nf : V.frozen? ⟨bn, 0, none⟩ = false
theorem cell_block {w : World} {p : Addr} {v : Value} (h : w.cell? p = some v) : ∃ o : Obj, w.heap[p.block]? = some o ∧ o.isCells = true := by
  unfold World.cell? at h
  cases ho : w.heap[p.block]? with
  | none => simp [ho] at h
  | some o =>
    cases o with
    | cells arr T fr => exact ⟨_, rfl, rfl⟩
    | _ => simp [ho] at h
theorem TellI.cell {w w1 V : World} {bn n : Nat} (h : TellI w w1 bn n V) {p : Addr} {v : Value} (hp : w1.cell? p = some v) (hne : p.block ≠ bn) : V.cell? p = some v ∧ V.frozen? p = w1.frozen? p := by
  obtain ⟨o, h1, h2⟩ := cell_block hp
  have e : V.heap[p.block]? = w1.heap[p.block]? := (h.keep _ _ h1 h2 hne).trans h1.symm
  exact ⟨(World.cell?_of_block (a := p) e).trans hp, World.frozen?_of_block (a := p) e⟩
theorem TellI.own {w w1 V V' : World} {bn n : Nat} {row : Option Nat} (h : TellI w w1 bn n V) (hw : w.heap.size ≤ w1.heap.size) (hg : V.grownBy V' row) (hr : ∀ r, row = some r → w1.heap.size ≤ r ∧ ∃ o : Obj, V.heap[r]? = some o ∧ o.isCells = false) : TellI w w1 bn n V' := by
  have hb : ∀ (q : Nat) o, V.heap[q]? = some o → o.isCells = true → V'.heap[q]? = V.heap[q]? := fun q o hq hc => hg.block q (Array.getElem?_eq_some_iff.1 hq).1 (fun e => by
    obtain ⟨_, o2, h1, h2⟩ := hr q e.symm
    rw [hq] at h1; cases h1; rw [hc] at h2; cases h2)
  obtain ⟨o, h1, h2⟩ := cell_block h.n
  refine ⟨h.bel.grown hg (Nat.le_trans hw h.size) (fun k e => by have := (hr k e).1; omega), Nat.le_trans h.size hg.size, fun q o hq hc hne => ?_, (World.cell?_of_block (a := ⟨bn, 0, none⟩) (hb _ _ h1 h2)).trans h.n, (World.frozen?_of_block (a := ⟨bn, 0, none⟩) (hb _ _ h1 h2)).trans h.nf⟩
  have := h.keep q o hq hc hne
  exact (hb q o this hc).trans this
theorem TellI.step {w w1 V : World} {bn n : Nat} (h : TellI w w1 bn n V) (hb : w.heap.size ≤ bn) : TellI w w1 bn (n + 1) (V.setCell ⟨bn, 0, none⟩ (.int .i64 ((n : Int) + 1))).drew := by
  refine ⟨(h.bel.setCell (by exact hb) _).drew, by show _ ≤ (V.setCell _ _).heap.size; rw [World.size_setCell]; exact h.size, fun q o hq hc hne => ?_, ?_, ?_⟩
  · exact (Below.heap_setCell _ _ _ _ hne).trans (h.keep q o hq hc hne)
  · exact World.cell?_setCell_same V ⟨bn, 0, none⟩ (.int .i64 ((n : Int) + 1)) h.n
  · show (V.setCell _ _).frozen? _ = false
    rw [World.frozen?_setCell]; exact h.nf
set_option maxRecDepth 100000 in
set_option maxHeartbeats 4000000 in
theorem tells_any (lb : Nat) (l : List CH) (F : Nat → Prop) (row col : ByteArray) (ao : Option Addr) (m cap : Nat) (leave : Int) (w : World) (hS : SL lb l F w) (hn : l.length < 1000000) (hC : Cells w ao m cap (fromD8 row col l)) :
    Calls Try.prog 18 #[.pointer (some ⟨lb, 0, none⟩), .string row, .string col, .slice ao m cap, .int .i64 leave] w fun e w' => e = .returned (.bool true) ∧ Below w.heap.size w w' := by
  have HS := Lib.hid hS
  have HC := Lib.hid hC
  clear hS hC
  refine callsIn_wide.1 (callsIn_of_wp_marks (F := Fence.wide) (n := 20) Try.func18 rfl trivial ?_ rfl); refine wpIn_wide.2 ?_; simp only [Try.ntmps18, List.size_toArray, List.length_cons, List.length_nil, Nat.reduceAdd, Nat.reduceSub, Array.replicate_succ, Array.replicate_zero, List.push_toArray, List.append_toArray, List.nil_append, List.cons_append]
  go_wp2_with fail
  refine (from_any lb row col _).mono ?_
  rintro e w1 ⟨rfl, hb, hz, kL, kR, kC⟩
  simp only [World.size_alloc] at hz kL kR kC
  have kw : w1.cell? ⟨w.heap.size, 0, none⟩ = some (.slice ao m cap) := (hb.cell (p := ⟨w.heap.size, 0, none⟩) (by simp; omega)).trans (by go_simp)
  have kl : w1.cell? ⟨w.heap.size + 1, 0, none⟩ = some (.int .i64 leave) := (hb.cell (p := ⟨w.heap.size + 1, 0, none⟩) (by simp)).trans (by go_simp)
  have kr : w1.cell? ⟨w.heap.size + 1 + 1, 0, none⟩ = some (.bool false) := (hb.cell (p := ⟨w.heap.size + 1 + 1, 0, none⟩) (by simp)).trans (by go_simp)
  have krf : w1.frozen? ⟨w.heap.size + 1 + 1, 0, none⟩ = false := (hb.frozen (p := ⟨w.heap.size + 1 + 1, 0, none⟩) (by simp)).trans (by go_simp)
  have hB1 : Below w.heap.size w w1 := ((((Below.refl _ _).alloc (Nat.le_refl _) _).alloc (by simp) _).alloc (by simp; omega) _).trans (hb.mono (by simp; omega))
  clear hb
  go_wp2_with fail
  refine wp_loop_rounds 3 ?_
  rw [rounds_succ]
  go_wp2_with fail
  obtain ⟨w0, hw0⟩ : ∃ W : World, W = (w1.alloc (.cells #[.int .i64 0] 3)).alloc (.cells #[.int .i64 0] 3) := ⟨_, rfl⟩
  rw [← hw0]
  have z0 : w0.heap.size = w.heap.size + 1 + 1 + 1 + 3 + 1 + 1 := by rw [hw0]; simp only [World.size_alloc]; omega
  have b0 : Below w.heap.size w w0 := by rw [hw0]; exact (hB1.alloc (by omega) _).alloc (by rw [World.size_alloc]; omega) _
  have hb10 : Below w1.heap.size w1 w0 := by rw [hw0]; exact ((Below.refl _ _).alloc (Nat.le_refl _) _).alloc (by rw [World.size_alloc]; omega) _
  have c10 : ∀ {p : Addr} {v : Value}, w1.cell? p = some v → w0.cell? p = some v := fun {p v} h => (hb10.cell (p := p) (World.block_lt_of_cell? _ _ h)).trans h
  have kw := c10 kw
  have kl := c10 kl
  have krf := (hb10.frozen (p := ⟨w.heap.size + 1 + 1, 0, none⟩) (by simp; omega)).trans krf
  have kr := c10 kr
  have kL := c10 kL
  have kR := c10 kR
  have kC := c10 kC
  have kt : w0.cell? ⟨w.heap.size + 1 + 1 + 1 + 3, 0, none⟩ = some (.int .i64 0) := by rw [hw0]; go_simp
  have ktf : w0.frozen? ⟨w.heap.size + 1 + 1 + 1 + 3, 0, none⟩ = false := by rw [hw0]; go_simp
  have kn : w0.cell? ⟨w.heap.size + 1 + 1 + 1 + 3 + 1, 0, none⟩ = some (.int .i64 0) := by rw [hw0]; go_simp
  have knf : w0.frozen? ⟨w.heap.size + 1 + 1 + 1 + 3 + 1, 0, none⟩ = false := by rw [hw0]; go_simp
  clear hw0 hb10 c10 hB1 hz
  obtain ⟨hd, ns, q1, q2, _⟩ := HS.out.ex
  obtain ⟨k, hC, hcf⟩ := up_cut row col hd ns (by rw [q2]; exact HS.out.up)
  rw [q2] at hcf
  have HSk0 := Lib.hid q1
  have q1 := q1.below b0
  have hns : ns.length < 1000000 := by have := congrArg List.length q2; rw [List.length_map] at this; omega
  have HCut := Lib.hid hC
  have HSk := Lib.hid q1
  have Hcf := Lib.hid hcf
  obtain ⟨L, hL⟩ : ∃ L, L = fromD8 row col l := ⟨_, rfl⟩
  rw [← hL] at HC Hcf
  have hml : L.length = m := by rw [hL, ← HC.out.len, hL]
  clear hL q1 q2 hC hcf
  refine (wpIn_wide (n := 20)).1 ?_
  refine range_round (n := 20) (by omega) (gf := 36) (lb := #[.pointer (some ⟨w.heap.size + 1 + 1 + 1, 0, none⟩), .pointer (some ⟨w.heap.size + 1 + 1 + 1 + 1, 0, none⟩), .pointer (some ⟨w.heap.size + 1 + 1 + 1 + 2, 0, none⟩)]) rfl (enters_of Try.func36 (by kernel_rfl) rfl)
    (SeqN.of_K (from1_stops 19 (by omega) row col _ _ _ lb hd ns k w0 HSk.out HCut.out kL kR kC hns (SafeT (w.heap.size + 1 + 1) (w.heap.size + 1 + 1 + 1 + 3 + 1)) (safeT (by omega) (by omega)) (w0.heap.size + 2)))
    (fun h k => h.trans k) (fun V o o' ho hc => KpS.putObj (safeT (by omega) (by omega)) (Nat.le_succ _) (Nat.lt_succ_self _) ho hc) (fun _ => rfl)
    (fun (pre : List { c : CellA // c ∈ cellsFrom (hd :: ns) k }) V => TellI w w0 (w.heap.size + 1 + 1 + 1 + 3 + 1) pre.length V ∧ pre.map Subtype.val = L.take pre.length ∧ (leave < 1 ∨ (pre.length : Int) < leave))
    (fun cd (pre : List { c : CellA // c ∈ cellsFrom (hd :: ns) k }) V => (cd = .ret ∧ ¬ (pre.map Subtype.val <+: cellsFrom (hd :: ns) k)) ∨ (cd = .exit 2 ∧ TellI w w0 (w.heap.size + 1 + 1 + 1 + 3 + 1) pre.length V ∧ (pre.length : Int) = leave ∧ 0 < pre.length))
    ?hI ?hIx ⟨⟨b0, Nat.le_refl _, fun _ _ h _ _ => h, kn, knf⟩, rfl, by show leave < 1 ∨ (0 : Int) < leave; omega⟩
    ?hround ?done ?stop
  case hI =>
    rintro pre A B row ⟨h1, h2⟩ hg hr
    exact ⟨h1.own b0.size hg hr, h2⟩
  case hIx =>
    rintro cd pre A B row h hg hr
    rcases h with h | ⟨h1, h2, h3⟩
    · exact .inl h
    · exact .inr ⟨h1, h2.own b0.size hg hr, h3⟩
  case hround =>
    rintro l2 pre x W hl2 ⟨hI, hpre, hlv⟩ hlt
    gi_wp2
    refine ⟨keepsFrom_alloc _ _, fun W2 hg2 hz2 hnc => ?_⟩
    rw [World.size_alloc] at hz2
    have hl2W : l2 < W.heap.size + 1 := by
      obtain ⟨o, h, _⟩ := hnc
      have := (Array.getElem?_eq_some_iff.1 h).1
      rwa [World.size_alloc] at this
    have hsz := hI.size
    have hown : OwnFrom w0.heap.size (fun (pre : List { c : CellA // c ∈ cellsFrom (hd :: ns) k }) V => TellI w w0 (w.heap.size + 1 + 1 + 1 + 3 + 1) pre.length V) := fun pre A B row h hg hr => h.own b0.size hg hr
    have hI2 : TellI w w0 (w.heap.size + 1 + 1 + 1 + 3 + 1) pre.length W2 := hown _ _ _ (some l2) (hown.alloc _ hI) hg2 (fun r e => by cases e; exact ⟨by omega, hnc⟩)
    have cell2 : ∀ {p : Addr} {v : Value}, (W.alloc (.cells #[.string x.1.row, .string x.1.col, .int .u64 x.1.ver, .bool x.1.gone, .string x.1.val] 26)).cell? p = some v → W2.cell? p = some v := fun {p v} hv => cell_kept hv hg2 (fun r e => by cases e; exact hnc)
    have hWq : ∀ (q : Nat) (o : Obj), W.heap[q]? = some o → o.isCells = true → W2.heap[q]? = W.heap[q]? := fun q o hq hc => by
      have hql := (Array.getElem?_eq_some_iff.1 hq).1
      rw [hg2.block q (by rw [World.size_alloc]; omega) (fun e => by
        obtain ⟨o2, h1, h2⟩ := hnc
        have e2 : q = l2 := Option.some.inj e
        subst e2
        rw [Below.heap_alloc _ _ _ hql, hq] at h1
        cases h1
        rw [hc] at h2; cases h2)]
      exact Below.heap_alloc _ _ _ hql
    have y0 : W2.cell? ⟨W.heap.size, 0, none⟩ = some (.string x.1.row) := cell2 (by go_simp)
    have y1 : W2.cell? ⟨W.heap.size, 1, none⟩ = some (.string x.1.col) := cell2 (by go_simp)
    have y2 : W2.cell? ⟨W.heap.size, 2, none⟩ = some (.int .u64 x.1.ver) := cell2 (by go_simp)
    have y3 : W2.cell? ⟨W.heap.size, 3, none⟩ = some (.bool x.1.gone) := cell2 (by go_simp)
    have y4 : W2.cell? ⟨W.heap.size, 4, none⟩ = some (.string x.1.val) := cell2 (by go_simp)
    clear cell2 hown
    have kw2 := (hI2.cell kw (by simp only; omega)).1
    have kl2 := (hI2.cell kl (by simp only; omega)).1
    have kt2 := (hI2.cell kt (by simp only; omega)).1
    have kr2 := (hI2.cell kr (by simp only; omega)).1
    have krf2 := (hI2.cell kr (by simp only; omega)).2.trans krf
    have v1 := hI2.n
    have v2 := hI2.nf
    obtain ⟨j, hj⟩ : ∃ j, j = pre.length := ⟨_, rfl⟩
    rw [← hj] at hlt hpre hlv v1 hI2
    rw [Hcf.out] at hlt
    obtain ⟨z, hz⟩ : ∃ z, L[j]? = some z := ⟨_, List.getElem?_eq_getElem hlt⟩
    have hC2 : Cells W2 ao m cap L := Arr.below HC.out hI2.bel
    obtain ⟨b, off, hao, hbl, ⟨u0, u1, u2, u3, u4⟩⟩ := Cells.at_ hC2 hz
    have hkI : (j : Int) < (m : Int) := by omega
    have hkI0 : (0 : Int) ≤ (j : Int) := by omega
    have hkI1 : (m : Int) ≤ 9223372036854775807 := by have := Arr.max hC2; have := Arr.fits hC2; unfold maxLen at *; omega
    have hkD : decide ((m : Int) ≤ (j : Int)) = false := by simp; omega
    have hkD2 : decide (m ≤ j) = false := by simp; omega
    have hmx : Try.prog.follows .mixedOrders = true := by kernel_rfl
    have Hj := Lib.hid hj
    have Hz := Lib.hid hz
    have Hpre := Lib.hid hpre
    have HI2 := Lib.hid hI2
    have HWq := Lib.hid hWq
    have Hhg := Lib.hid hg2
    have HI := Lib.hid hI
    have hle : (pre ++ [x]).length = j + 1 := by rw [List.length_append, hj]; rfl
    subst hao
    clear hj hpre hI2 hWq hg2 hI hnc hC2
    by_cases hxz : x.1 = z
    · subst hxz
      gi_wp2
      refine wpIn_region_reads 75 (fun _ => trivial) hmx (by kernel_rfl) (by kernel_rfl) (by kernel_rfl) rfl ?_
      repeat (refine wpReads_step (fun K hK => ?_); go_simp; refine hK _ ?_; clear hK K)
      refine wpReads_nil ?_
      by_cases hlj : ((j : Int) + 1) = leave
      · have d1 : (((j : Int) + 1) == leave) = true := by simp [hlj]
        gi_wp2
        refine ⟨tell_kps (by omega) (by rw [← hl2]; exact Hhg.out) HWq.out (fun g n1 n2 => Below.heap_setCell _ _ _ _ (by simp only; omega)) (fun B' => (keepsFrom_setCell _ _ _).trans (keepsFrom_drew _)), .inr ⟨rfl, ?_, by rw [hle]; exact hlj, by rw [hle]; omega⟩⟩
        rw [hle]
        have := HI2.out.step (by omega)
        rw [hlj] at this
        exact this
      · have d1 : (((j : Int) + 1) == leave) = false := by simp [hlj]
        gi_wp2
        refine ⟨tell_kps (by omega) (by rw [← hl2]; exact Hhg.out) HWq.out (fun g n1 n2 => Below.heap_setCell _ _ _ _ (by simp only; omega)) (fun B' => (keepsFrom_setCell _ _ _).trans (keepsFrom_drew _)), ?_, ?_, ?_⟩
        · rw [hle]; exact HI2.out.step (by omega)
        · rw [hle, List.map_append, Hpre.out, List.take_add_one, Hz.out]; rfl
        · rw [hle]; omega
    · have Hxz := Lib.hid hxz
      have hdif := cell_differ hxz
      clear hxz
      rcases hdif with ⟨n1, n2⟩ | ⟨t1, n1, n2⟩ | ⟨t1, t2, n1⟩ | ⟨t1, t2, t3, n1, n2⟩ | ⟨t1, t2, t3, n1, n2⟩ | ⟨t1, t2, t3, t4, n1, n2⟩
      all_goals
        gi_wp2
        refine wpIn_region_reads 75 (fun _ => trivial) hmx (by kernel_rfl) (by kernel_rfl) (by kernel_rfl) rfl ?_
        repeat (refine wpReads_step (fun K hK => ?_); go_simp; refine hK _ ?_; clear hK K)
        refine wpReads_nil ?_
        gi_wp2
        refine ⟨tell_kps (by omega) (by rw [← hl2]; exact Hhg.out) HWq.out (fun g n1 n2 => Below.heap_setCell _ _ _ _ (by simp only; omega)) (fun B' => (keepsFrom_drew _).trans (keepsFrom_setCell _ _ _)), .inl ⟨rfl, fun hp => ?_⟩⟩
        obtain ⟨t, ht⟩ := hp
        have hx3 : L[j]? = some x.1 := by
          have e := congrArg (fun l : List CellA => l[j]?) ht
          rw [List.map_append, List.append_assoc, List.getElem?_append_right (by rw [List.length_map, Hj.out]; exact Nat.le_refl _)] at e
          rw [← Hcf.out, ← e]
          simp [Hj.out]
        rw [Hz.out] at hx3
        exact Hxz.out (Option.some.inj hx3).symm
  case' done =>
    rintro D xs V hD hx ⟨hI, _, hlv⟩ hK
    have hn : ∃ n : Nat, n = xs.length ∧ ((leave < 1 ∧ n = m) ∨ (1 ≤ leave ∧ (n : Int) = leave ∧ n ≤ m) ∨ (1 ≤ leave ∧ n = m ∧ (m : Int) < leave)) := ⟨_, rfl, by
      have := congrArg List.length hx
      rw [List.length_map] at this
      have e := congrArg List.length Hcf.out
      omega⟩
    obtain ⟨n, hn1, hn⟩ := hn
    rw [← hn1] at hI
    clear hn1 hx hlv
  case' stop =>
    rintro D cd xs V hD hp hs hK
    rcases hs with ⟨_, h⟩ | ⟨rfl, hI, hs1, hs2⟩
    · exact absurd hp h
    have hn : ∃ n : Nat, n = xs.length ∧ ((leave < 1 ∧ n = m) ∨ (1 ≤ leave ∧ (n : Int) = leave ∧ n ≤ m) ∨ (1 ≤ leave ∧ n = m ∧ (m : Int) < leave)) := ⟨_, rfl, by
      obtain ⟨t, ht⟩ := hp
      have := congrArg List.length ht
      rw [List.length_append, List.length_map] at this
      have e := congrArg List.length Hcf.out
      omega⟩
    obtain ⟨n, hn1, hn⟩ := hn
    rw [← hn1] at hI
    clear hn1 hp hs1 hs2
    refine wpIn_wide.2 ?_
  all_goals
    have c01 : ∀ {p : Addr} {v : Value}, w0.cell? p = some v → p.block ≠ w.heap.size + 1 + 1 + 1 + 3 + 1 → V.cell? p = some v := fun {p v} h h2 => (hI.cell h h2).1
    have hm64 : (m : Int) ≤ 9223372036854775807 := by have := Arr.max HC.out; have := Arr.fits HC.out; unfold maxLen at *; omega
    have krf2 := (hI.cell kr (by simp only; omega)).2.trans krf
    have kw2 := c01 kw (by simp only; omega)
    have kl2 := c01 kl (by simp only; omega)
    have kr2 := c01 kr (by simp only; omega)
    have kL2 := c01 kL (by simp only; omega)
    have kR2 := c01 kR (by simp only; omega)
    have kC2 := c01 kC (by simp only; omega)
    have kt2 := c01 kt (by simp only; omega)
    have v1 := hI.n
    have HI := Lib.hid hI
    have hVs := hI.size
    have HBV := Lib.hid hI.bel
    have KDV := Lib.hid hK
    have hD2 : w0.heap.size ≤ D := hD
    clear hI c01
    rcases hn with ⟨h1, h2⟩ | ⟨h1, h2, h3⟩ | ⟨h1, h2, h3⟩
    all_goals
      go_wp2_with fail
      rw [rounds_succ]
      go_wp2_with fail
      clear h1 h2 hK
      try clear h3
      obtain ⟨wB, hwB⟩ : ∃ W : World, W = (V.alloc (.cells #[.int .i64 1] 3)).alloc (.cells #[.int .i64 0] 3) := ⟨_, rfl⟩
      rw [← hwB]
      have zB : wB.heap.size = V.heap.size + 1 + 1 := by rw [hwB]; simp only [World.size_alloc]
      have hbV : Below V.heap.size V wB := by rw [hwB]; exact ((Below.refl _ _).alloc (Nat.le_refl _) _).alloc (by rw [World.size_alloc]; omega) _
      have bB : Below w.heap.size w wB := HBV.out.trans (hbV.mono HBV.out.size)
      have c12 : ∀ {p : Addr} {v : Value}, V.cell? p = some v → wB.cell? p = some v := fun {p v} h => (hbV.cell (p := p) (World.block_lt_of_cell? _ _ h)).trans h
      have krfB := (hbV.frozen (p := ⟨w.heap.size + 1 + 1, 0, none⟩) (by simp; omega)).trans krf2
      have kwB := c12 kw2
      have klB := c12 kl2
      have krB := c12 kr2
      have kLB := c12 kL2
      have kRB := c12 kR2
      have kCB := c12 kC2
      have ktB : wB.cell? ⟨V.heap.size, 0, none⟩ = some (.int .i64 1) := by rw [hwB]; go_simp
      have ktfB : wB.frozen? ⟨V.heap.size, 0, none⟩ = false := by rw [hwB]; go_simp
      have knB : wB.cell? ⟨V.heap.size + 1, 0, none⟩ = some (.int .i64 0) := by rw [hwB]; go_simp
      have knfB : wB.frozen? ⟨V.heap.size + 1, 0, none⟩ = false := by rw [hwB]; go_simp
      have hDB : wB.heap[D]? = some (.deferred (some [])) := (hbV.block D (Array.getElem?_eq_some_iff.1 KDV.out).1).trans KDV.out
      have hDlt : D < V.heap.size := (Array.getElem?_eq_some_iff.1 KDV.out).1
      have HSkB := Lib.hid (HSk0.out.below bB)
      clear hwB hbV c12 kw2 kl2 kr2 krf2 kL2 kR2 kC2 kt2 v1
      refine (wpIn_wide (n := 20)).1 ?_
      refine range_round (n := 20) (by omega) (gf := 36) (lb := #[.pointer (some ⟨w.heap.size + 1 + 1 + 1, 0, none⟩), .pointer (some ⟨w.heap.size + 1 + 1 + 1 + 1, 0, none⟩), .pointer (some ⟨w.heap.size + 1 + 1 + 1 + 2, 0, none⟩)]) rfl (enters_of Try.func36 (by kernel_rfl) rfl)
        (SeqN.of_K (from1_stops 19 (by omega) row col _ _ _ lb hd ns k wB HSkB.out HCut.out kLB kRB kCB hns (SafeT (w.heap.size + 1 + 1) (V.heap.size + 1)) (safeT (by omega) (by omega)) (wB.heap.size + 2)))
        (fun h k => h.trans k) (fun V o o' ho hc => KpS.putObj (safeT (by omega) (by omega)) (Nat.le_succ _) (Nat.lt_succ_self _) ho hc) (fun _ => rfl)
        (fun (pre : List { c : CellA // c ∈ cellsFrom (hd :: ns) k }) V' => (TellI w wB (V.heap.size + 1) pre.length V' ∧ V'.heap[D]? = some (.deferred (some []))) ∧ pre.map Subtype.val = L.take pre.length)
        (fun cd (pre : List { c : CellA // c ∈ cellsFrom (hd :: ns) k }) V' => cd = .ret ∧ ¬ (pre.map Subtype.val <+: cellsFrom (hd :: ns) k))
        ?hI2 (fun _ _ _ _ _ h _ _ => h) ⟨⟨⟨bB, Nat.le_refl _, fun _ _ h _ _ => h, knB, knfB⟩, hDB⟩, rfl⟩
        ?hround2 ?done2 ?stop2
      case hI2 =>
        rintro pre A B row ⟨⟨h1, h3⟩, h2⟩ hg hr
        exact ⟨⟨h1.own bB.size hg hr, (hg.block D (by have := h1.size; omega) (fun e => by have := (hr D e.symm).1; omega)).trans h3⟩, h2⟩
      case hround2 =>
        rintro l2 pre x W hl2 ⟨⟨hI, hID⟩, hpre⟩ hlt
        gi_wp2
        refine ⟨keepsFrom_alloc _ _, fun W2 hg2 hz2 hnc => ?_⟩
        rw [World.size_alloc] at hz2
        have hl2W : l2 < W.heap.size + 1 := by
          obtain ⟨o, h, _⟩ := hnc
          have := (Array.getElem?_eq_some_iff.1 h).1
          rwa [World.size_alloc] at this
        have hsz := hI.size
        have hown : OwnFrom wB.heap.size (fun (pre : List { c : CellA // c ∈ cellsFrom (hd :: ns) k }) V' => TellI w wB (V.heap.size + 1) pre.length V' ∧ V'.heap[D]? = some (.deferred (some []))) := fun pre A B row h hg hr => ⟨h.1.own bB.size hg hr, (hg.block D (by have := h.1.size; omega) (fun e => by have := (hr D e.symm).1; omega)).trans h.2⟩
        have hI2 := hown _ _ _ (some l2) (hown.alloc _ ⟨hI, hID⟩) hg2 (fun r e => by cases e; exact ⟨by omega, hnc⟩)
        obtain ⟨hI2, hID2⟩ := hI2
        have cell2 : ∀ {p : Addr} {v : Value}, (W.alloc (.cells #[.string x.1.row, .string x.1.col, .int .u64 x.1.ver, .bool x.1.gone, .string x.1.val] 26)).cell? p = some v → W2.cell? p = some v := fun {p v} hv => cell_kept hv hg2 (fun r e => by cases e; exact hnc)
        have hWq : ∀ (q : Nat) (o : Obj), W.heap[q]? = some o → o.isCells = true → W2.heap[q]? = W.heap[q]? := fun q o hq hc => by
          have hql := (Array.getElem?_eq_some_iff.1 hq).1
          rw [hg2.block q (by rw [World.size_alloc]; omega) (fun e => by
            obtain ⟨o2, h1, h2⟩ := hnc
            have e2 : q = l2 := Option.some.inj e
            subst e2
            rw [Below.heap_alloc _ _ _ hql, hq] at h1
            cases h1
            rw [hc] at h2; cases h2)]
          exact Below.heap_alloc _ _ _ hql
        have y0 : W2.cell? ⟨W.heap.size, 0, none⟩ = some (.string x.1.row) := cell2 (by go_simp)
        have y1 : W2.cell? ⟨W.heap.size, 1, none⟩ = some (.string x.1.col) := cell2 (by go_simp)
        have y2 : W2.cell? ⟨W.heap.size, 2, none⟩ = some (.int .u64 x.1.ver) := cell2 (by go_simp)
        have y3 : W2.cell? ⟨W.heap.size, 3, none⟩ = some (.bool x.1.gone) := cell2 (by go_simp)
        have y4 : W2.cell? ⟨W.heap.size, 4, none⟩ = some (.string x.1.val) := cell2 (by go_simp)
        clear cell2 hown
        have kw3 := (hI2.cell kwB (by simp only; omega)).1
        have kl3 := (hI2.cell klB (by simp only; omega)).1
        have kt3 := (hI2.cell ktB (by simp only; omega)).1
        have kr3 := (hI2.cell krB (by simp only; omega)).1
        have krf3 := (hI2.cell krB (by simp only; omega)).2.trans krfB
        have v1 := hI2.n
        have v2 := hI2.nf
        obtain ⟨j, hj⟩ : ∃ j, j = pre.length := ⟨_, rfl⟩
        rw [← hj] at hlt hpre v1 hI2
        rw [Hcf.out] at hlt
        obtain ⟨z, hz⟩ : ∃ z, L[j]? = some z := ⟨_, List.getElem?_eq_getElem hlt⟩
        have hC2 : Cells W2 ao m cap L := Arr.below HC.out hI2.bel
        obtain ⟨b, off, hao, hbl, ⟨u0, u1, u2, u3, u4⟩⟩ := Cells.at_ hC2 hz
        have hkI : (j : Int) < (m : Int) := by omega
        have hkI0 : (0 : Int) ≤ (j : Int) := by omega
        have hkD : decide ((m : Int) ≤ (j : Int)) = false := by simp; omega
        have hkD2 : decide (m ≤ j) = false := by simp; omega
        have hmx : Try.prog.follows .mixedOrders = true := by kernel_rfl
        have Hj := Lib.hid hj
        have Hz := Lib.hid hz
        have Hpre := Lib.hid hpre
        have HI2 := Lib.hid hI2
        have HWq := Lib.hid hWq
        have Hhg := Lib.hid hg2
        have HI3 := Lib.hid hI
        have HID2 := Lib.hid hID2
        have hle : (pre ++ [x]).length = j + 1 := by rw [List.length_append, hj]; rfl
        subst hao
        clear hj hpre hI2 hWq hg2 hI hnc hC2 hID hID2
        by_cases hxz : x.1 = z
        · subst hxz
          gi_wp2
          refine wpIn_region_reads 75 (fun _ => trivial) hmx (by kernel_rfl) (by kernel_rfl) (by kernel_rfl) rfl ?_
          repeat (refine wpReads_step (fun K hK => ?_); go_simp; refine hK _ ?_; clear hK K)
          refine wpReads_nil ?_
          gi_wp2
          have hT := tell_kps (V := (W2.setCell ⟨V.heap.size + 1, 0, none⟩ (.int .i64 ((j : Int) + 1))).drew) (br := w.heap.size + 1 + 1) (bn := V.heap.size + 1) (w0 := wB) (by omega) (by rw [← hl2]; exact Hhg.out) HWq.out (fun g n1 n2 => Below.heap_setCell _ _ _ _ (by simp only; omega)) (fun B' => (keepsFrom_setCell _ _ _).trans (keepsFrom_drew _))
          refine ⟨hT, ⟨?_, ?_⟩, ?_⟩
          · rw [hle]; exact HI2.out.step (by omega)
          · exact (Below.heap_setCell _ _ _ _ (by simp only; omega)).trans HID2.out
          · rw [hle, List.map_append, Hpre.out, List.take_add_one, Hz.out]; rfl
        · have Hxz := Lib.hid hxz
          have hdif := cell_differ hxz
          clear hxz
          rcases hdif with ⟨n1, n2⟩ | ⟨t1, n1, n2⟩ | ⟨t1, t2, n1⟩ | ⟨t1, t2, t3, n1, n2⟩ | ⟨t1, t2, t3, n1, n2⟩ | ⟨t1, t2, t3, t4, n1, n2⟩
          all_goals
            gi_wp2
            refine wpIn_region_reads 75 (fun _ => trivial) hmx (by kernel_rfl) (by kernel_rfl) (by kernel_rfl) rfl ?_
            repeat (refine wpReads_step (fun K hK => ?_); go_simp; refine hK _ ?_; clear hK K)
            refine wpReads_nil ?_
            gi_wp2
            refine ⟨tell_kps (by omega) (by rw [← hl2]; exact Hhg.out) HWq.out (fun g n1 n2 => Below.heap_setCell _ _ _ _ (by simp only; omega)) (fun B' => (keepsFrom_drew _).trans (keepsFrom_setCell _ _ _)), rfl, fun hp => ?_⟩
            obtain ⟨t, ht⟩ := hp
            have hx3 : L[j]? = some x.1 := by
              have e := congrArg (fun l : List CellA => l[j]?) ht
              rw [List.map_append, List.append_assoc, List.getElem?_append_right (by rw [List.length_map, Hj.out]; exact Nat.le_refl _)] at e
              rw [← Hcf.out, ← e]
              simp [Hj.out]
            rw [Hz.out] at hx3
            exact Hxz.out (Option.some.inj hx3).symm
      case stop2 =>
        rintro D1 cd pre V' hD1 hp ⟨rfl, h1⟩ hK
        exact absurd hp h1
      case done2 =>
        rintro D1 xs V' hD1 hx ⟨⟨hI, hID⟩, _⟩ hK
        have hxl : xs.length = m := by
          have := congrArg List.length hx
          rw [List.length_map] at this
          have e := congrArg List.length Hcf.out
          omega
        have krf3 := (hI.cell krB (by simp only; omega)).2.trans krfB
        have kw3 := (hI.cell kwB (by simp only; omega)).1
        have kl3 := (hI.cell klB (by simp only; omega)).1
        have kr3 := (hI.cell krB (by simp only; omega)).1
        have kt3 := (hI.cell ktB (by simp only; omega)).1
        have v1 := hI.n
        rw [hxl] at v1
        have hVs' := hI.size
        have HBV' := Lib.hid hI.bel
        have HK := Lib.hid hK
        have HID := Lib.hid hID
        have hq1 : w.heap.size + 1 + 1 < V'.heap.size := by omega
        have hq2 : ¬ w.heap.size + 1 + 1 = V'.heap.size := by omega
        have hq3 : ¬ V'.heap.size = w.heap.size + 1 + 1 := by omega
        have hDD1 : wB.heap.size ≤ D1 := hD1
        clear hI hK hID hx
        go_wp2_with fail
        rw [rounds_succ]
        go_wp2_with fail
        obtain ⟨WF, hWF⟩ : ∃ W : World, W = (V'.setCell ⟨w.heap.size + 1 + 1, 0, none⟩ (.bool true)).alloc (.cells #[.int .i64 2] 3) := ⟨_, rfl⟩
        rw [← hWF]
        have kF : ∀ q ∈ [D1, D], WF.heap[q]? = some (.deferred (some [])) := by
          have e : ∀ q, V'.heap[q]? = some (.deferred (some [])) → q ≠ w.heap.size + 1 + 1 → WF.heap[q]? = some (.deferred (some [])) := fun q hq hne => by
            have hl := (Array.getElem?_eq_some_iff.1 hq).1
            rw [hWF]
            exact (Below.heap_alloc _ _ _ (by rw [World.size_setCell]; exact hl)).trans ((Below.heap_setCell _ _ _ _ hne).trans hq)
          intro q hq
          simp only [List.mem_cons, List.not_mem_nil, or_false] at hq
          rcases hq with rfl | rfl
          · exact e _ HK.out (by omega)
          · exact e _ HID.out (by omega)
        have bF : Below w.heap.size w WF := by rw [hWF]; exact (HBV'.out.setCell (by simp only; omega) _).alloc (by rw [World.size_setCell]; exact HBV'.out.size) _
        have tF : WF.cell? ⟨w.heap.size + 1 + 1, 0, none⟩ = some (.bool true) := by rw [hWF]; go_simp
        have hd1 : ∀ q ∈ [D1, D], ∃ o : Obj, WF.heap[q]? = some o ∧ o.isCells = false := fun q hq => ⟨_, kF q hq, rfl⟩
        have t1 := takeN_cell hd1 tF
        have hDq : ∀ q ∈ [D1, D], w.heap.size ≤ q := by
          intro q hq
          simp only [List.mem_cons, List.not_mem_nil, or_false] at hq
          rcases hq with rfl | rfl <;> omega
        exact postM_retN (v := .bool true) [D1, D] rfl (by simp; omega) kF (by simp [results, Try.results18, go_sem, t1]) ⟨rfl, bF.trans (takeN_keeps hd1 hDq).1⟩
end Go.Proofs.Ytlnfdejflpgleaa
