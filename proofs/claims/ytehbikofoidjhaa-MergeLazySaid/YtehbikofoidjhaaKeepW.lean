/-
  Rows of cells as functions (package merge): the walks of keep's function, of Newest and Alive's tests.
-/
import Derived.Test.YtehbikofoidjhaaKeepP
namespace Go.Proofs.Ytehbikofoidjhaa
open Go.RowKit

set_option maxRecDepth 100000 in
theorem newest1_any (c : CellA) (w : World) : Calls Try.prog 43 #[c.v] w fun e w' => e = .returned (.bool true) ∧ Below w.heap.size w w' := by
  unfold CellA.v
  go_enter Try.func43, Try.ntmps43
  go_wp2
  go_returns
  exact ⟨rfl, by go_grown⟩
set_option maxRecDepth 100000 in
theorem alive1_any (c : CellA) (w : World) : Calls Try.prog 45 #[c.v] w fun e w' => e = .returned (.bool (!c.gone)) ∧ Below w.heap.size w w' := by
  unfold CellA.v
  go_enter Try.func45, Try.ntmps45
  go_wp2
  go_returns
  exact ⟨rfl, by go_grown⟩

def KeepN (a : KV) (f : FuncId) (caps : Array Value) (St : List CellA → (Nat → Prop) → World → Prop) (T : FuncId) (t : CellA → Bool) (cs : List CellA) (F : Nat → Prop) (w W wr : World) (n : Nat) : Prop :=
  ∃ last l F1, l.length = n ∧ keepL t last l = cs ∧ KeepS a f caps St T F w W wr last l F1

set_option maxRecDepth 100000 in
set_option maxHeartbeats 4000000 in
theorem keep1_any (a : KV) (f : FuncId) (caps : Array Value) (St : List CellA → (Nat → Prop) → World → Prop) (hR : RowOf f caps St) (T : FuncId) (t : CellA → Bool)
    (hTf : ∃ fn c, Try.prog.funcs[T]? = some fn ∧ (fn.name == "runtime.NumGoroutine") = false ∧ fn.body = some c) (hT : ∀ c w, Calls Try.prog T #[c.v] w fun e w' => e = .returned (.bool (t c)) ∧ Below w.heap.size w w')
    (cs : List CellA) (F : Nat → Prop) (w : World) (h : KeepSt a f caps St T t cs F w) :
    Calls Try.prog 61 #[.pointer (some ⟨a.b0, 0, none⟩), .pointer (some ⟨a.b1, 0, none⟩), .pointer (some ⟨a.b2, 0, none⟩), .pointer (some ⟨a.b3, 0, none⟩)] w fun e w' => e = .returned (headV cs) ∧ ∃ F', KeepSt a f caps St T t cs.tail F' w' ∧ (∀ b, F' b → F b ∨ w.heap.size ≤ b) ∧ Kept F w w' := by
  have HR := Lib.hid hR
  have Hfn := Lib.hid hR.fn
  have HTf := Lib.hid hTf
  obtain ⟨last, l, F0, h1, h2, h3, h4, h5, hin⟩ := h
  have Hin := Lib.hid hin
  clear hR hTf
  obtain ⟨W, hW⟩ : ∃ W : World, W = w.alloc (.cells #[.string ⟨#[]⟩, .string ⟨#[]⟩, .int .u64 0, .bool false, .string ⟨#[]⟩] 37) := ⟨_, rfl⟩
  have hWz : W.heap.size = w.heap.size + 1 := by rw [hW, World.size_alloc]
  have hBW : Below w.heap.size w W := by rw [hW]; exact (Below.refl _ _).alloc (Nat.le_refl _) _
  have HZ : Hid (KeepN a f caps St T t cs F w W W l.length) := Lib.hid ⟨last, l, F0, rfl, h3, h1.same (fun k hk => hBW.block k (h1.lt k hk)), HR.out.keep h2 hBW.size (fun b hb => hBW.block b (HR.out.inb h2 b hb)), fun b hb => .inl (h4 b hb), h5, Kept.of_below hBW, Nat.le_refl _, rfl⟩
  have HWn : Hid (W.heap[w.heap.size]? = some (.cells #[.string ⟨#[]⟩, .string ⟨#[]⟩, .int .u64 0, .bool false, .string ⟨#[]⟩] 37)) := Lib.hid (by rw [hW]; exact heap_new _ _)
  clear h1 h2 h3 h4 h5 hin
  go_enter Try.func61, Try.ntmps61
  go_wp2
  rw [← hW]
  clear hW
  go_loopw [6, 7, 8] (fun _ _ _ wr => ∃ n, KeepN a f caps St T t cs F w W wr n) (fun _ _ _ wr => leastN (KeepN a f caps St T t cs F w W wr))
  case atStart => exact ⟨_, HZ.out⟩
  case round =>
    have hL := leastN_spec hrel
    obtain ⟨⟨last, l, F1, hln, hle, hA⟩, _⟩ := hL
    obtain ⟨n0, hn0⟩ : ∃ n, n = leastN (KeepN a f caps St T t cs F w W wr) := ⟨_, rfl⟩
    rw [← hn0] at hln ⊢
    have Hle := Lib.hid hle
    clear hrel hle
    have HA := Lib.hid hA
    have hzr := HA.out.size
    have k0 := HA.out.at_.c0
    cases l with
    | nil =>
      have KN0 := HR.out.next HA.out.st
      simp only [headV, List.tail_nil] at KN0
      have KN := Lib.hid KN0
      have KE := Lib.hid fun Z => none_any Z
      simp only [headV] at KE
      have Hcs : Hid (cs = []) := Lib.hid (by rw [← Hle.out]; rfl)
      clear hA KN0
      go_wp2_with (first
        | (refine wpList_call_row rfl _ rfl (by rfl) Hfn.out ?_; refine KN.out.mono ?_; rintro e w1 ⟨rfl, F2, hS2, hF2, hK2⟩; refine ⟨_, rfl, ?_⟩; have HC := Lib.hid (HA.out.call Hin.out (by omega) hS2 hF2 hK2); have hz1x := hK2.size; have hzw : w.heap.size < w1.heap.size := (by omega); have hrs := HC.out.res; rw [HWn.out] at hrs; have s0 : w1.cell? ⟨w.heap.size, 0, none⟩ = some (.string ⟨#[]⟩) := cell_of_obj hrs rfl; have s1 : w1.cell? ⟨w.heap.size, 1, none⟩ = some (.string ⟨#[]⟩) := cell_of_obj hrs rfl; have s2 : w1.cell? ⟨w.heap.size, 2, none⟩ = some (.int .u64 0) := cell_of_obj hrs rfl; have s3 : w1.cell? ⟨w.heap.size, 3, none⟩ = some (.bool false) := cell_of_obj hrs rfl; have s4 : w1.cell? ⟨w.heap.size, 4, none⟩ = some (.string ⟨#[]⟩) := cell_of_obj hrs rfl; have sf := free_of_obj hrs; clear hS2 hF2 hK2 hrs)
        | (go_at_call 36; refine (KE.out _).mono ?_; rintro e w2 ⟨rfl, hb⟩; obtain ⟨hB, hS, hk⟩ := after (B := w1.heap.size) (w := w1) (by go_grown) (by go_size) hb; clear hb; obtain ⟨c0, f0, z0⟩ := hk (w.heap.size) (by go_size); clear hk))
      have hE := (HC.out.below HR.out (by omega) (w1 := w2) (by go_grown)).done (t := t) (cs := []) HR.out Hin.out (by omega) rfl ⟨⟨#[]⟩, ⟨#[]⟩, 0, false, ⟨#[]⟩⟩
      refine bodyPost_ret (v := headV []) (by simp [results, Try.results61, go_sem, headV, *]) rfl ?_
      rw [Hcs.out]
      obtain ⟨⟨F', h1, h2⟩, h3⟩ := hE
      exact ⟨rfl, F', h1, h2, h3⟩
    | cons c r =>
      have KN0 := HR.out.next HA.out.st
      simp only [headV, List.tail_cons] at KN0
      have KN := Lib.hid KN0
      have HT := Lib.hid fun Z => hT c Z
      obtain ⟨tc, htc⟩ : ∃ b, b = t c := ⟨_, rfl⟩
      simp only [CellA.v, ← htc] at HT
      have Htc := Lib.hid htc
      clear hA KN0 hT htc
      cases last with
      | none =>
        go_upto_region 5 with (refine wpList_call_row rfl _ rfl (by rfl) Hfn.out ?_; refine KN.out.mono ?_; rintro e w1 ⟨rfl, F2, hS2, hF2, hK2⟩; refine ⟨_, rfl, ?_⟩; have HC := Lib.hid (HA.out.call Hin.out (by omega) hS2 hF2 hK2); have hz1x := hK2.size; have hzw : w.heap.size < w1.heap.size := (by omega); have hrs := HC.out.res; rw [HWn.out] at hrs; have s0 : w1.cell? ⟨w.heap.size, 0, none⟩ = some (.string ⟨#[]⟩) := cell_of_obj hrs rfl; have s1 : w1.cell? ⟨w.heap.size, 1, none⟩ = some (.string ⟨#[]⟩) := cell_of_obj hrs rfl; have s2 : w1.cell? ⟨w.heap.size, 2, none⟩ = some (.int .u64 0) := cell_of_obj hrs rfl; have s3 : w1.cell? ⟨w.heap.size, 3, none⟩ = some (.bool false) := cell_of_obj hrs rfl; have s4 : w1.cell? ⟨w.heap.size, 4, none⟩ = some (.string ⟨#[]⟩) := cell_of_obj hrs rfl; have sf := free_of_obj hrs; have hat := HC.out.at_; have i1 : a.Is a.b1 := .inr (.inl rfl); have i2 : a.Is a.b2 := .inr (.inr (.inl rfl)); have m1 : w1.cell? ⟨a.b1, 0, none⟩ = some (.bool true) := hat.c1; have m3 := hat.c3; obtain ⟨⟨y0, e0⟩, ⟨y1, e1⟩, ⟨y2, e2⟩, ⟨y3, e3⟩, ⟨y4, e4⟩⟩ := any5 hat.c2; have mf1 := fun o => hat.f a.b1 o i1; have mf2 := fun o => hat.f a.b2 o i2; have l1 := hat.lt _ i1; have l2 := hat.lt _ i2; have l3 := hat.lt a.b3 (.inr (.inr (.inr rfl))); have n12 : ¬ a.b1 = a.b2 := hat.ok.n12; have n21 : ¬ a.b2 = a.b1 := fun e => n12 e.symm; have nr1 : ¬ a.b1 = w.heap.size := (fun e => by have := Hin.out _ (HC.out.own _ i1).1; omega); have nr2 : ¬ a.b2 = w.heap.size := (fun e => by have := Hin.out _ (HC.out.own _ i2).1; omega); clear i1 i2; clear hS2 hF2 hK2 hrs)
        obtain ⟨Y, hY⟩ : ∃ Y : World, Y = w1.alloc (.cells #[.string c.row, .string c.col, .int .u64 c.ver, .bool c.gone, .string c.val] 37) := ⟨_, rfl⟩
        have hBY : Below w1.heap.size w1 Y := by rw [hY]; exact (Below.refl _ _).alloc (Nat.le_refl _) _
        have HY0 := Lib.hid (HC.out.below HR.out (by omega) hBY)
        have hYc : Y.heap[w1.heap.size]? = some (.cells #[.string c.row, .string c.col, .int .u64 c.ver, .bool c.gone, .string c.val] 37) := by rw [hY]; exact heap_new _ _
        have hYz : Y.heap.size = w1.heap.size + 1 := by rw [hY, World.size_alloc]
        rw [← hY]
        clear hY hat m1 m3 e0 e1 e2 e3 e4 mf1 mf2 s0 s1 s2 s3 s4 sf
        have i1 : a.Is a.b1 := .inr (.inl rfl)
        have i2 : a.Is a.b2 := .inr (.inr (.inl rfl))
        have m1 : Y.cell? ⟨a.b1, 0, none⟩ = some (.bool true) := HY0.out.at_.c1
        obtain ⟨⟨y0, e0⟩, ⟨y1, e1⟩, ⟨y2, e2⟩, ⟨y3, e3⟩, ⟨y4, e4⟩⟩ := any5 HY0.out.at_.c2
        have mf1 := fun o => HY0.out.at_.f a.b1 o i1
        have mf2 := fun o => HY0.out.at_.f a.b2 o i2
        have b0 : Y.cell? ⟨w1.heap.size, 0, none⟩ = some (.string c.row) := cell_of_obj hYc rfl
        have b1 : Y.cell? ⟨w1.heap.size, 1, none⟩ = some (.string c.col) := cell_of_obj hYc rfl
        have b2 : Y.cell? ⟨w1.heap.size, 2, none⟩ = some (.int .u64 c.ver) := cell_of_obj hYc rfl
        have b3 : Y.cell? ⟨w1.heap.size, 3, none⟩ = some (.bool c.gone) := cell_of_obj hYc rfl
        have b4 : Y.cell? ⟨w1.heap.size, 4, none⟩ = some (.string c.val) := cell_of_obj hYc rfl
        have nb1 : ¬ w1.heap.size = a.b1 := by omega
        have nb2 : ¬ w1.heap.size = a.b2 := by omega
        have Hyc := Lib.hid hYc
        have HBY := Lib.hid hBY
        clear i1 i2 hYc hBY
        go_upto_region 6 with fail
        have hYc := Hyc.out
        obtain ⟨X, hX⟩ : ∃ X : World, X = (putC Y a.b2 c).setCell ⟨a.b1, 0, none⟩ (.bool false) := ⟨_, rfl⟩
        have HX := Lib.hid (HY0.out.note HR.out Hin.out c)
        have hXc : X.heap[w1.heap.size]? = some (.cells #[.string c.row, .string c.col, .int .u64 c.ver, .bool c.gone, .string c.val] 37) := by rw [hX, Below.heap_setCell _ _ _ _ nb1, putC_heap _ _ _ _ nb2]; exact hYc
        have hXz : X.heap.size = w1.heap.size + 1 := by rw [hX, World.size_setCell, putC_size]; exact hYz
        rw [← hX] at HX
        unfold putC at hX
        rw [← hX]
        have d0 : X.cell? ⟨w1.heap.size, 0, none⟩ = some (.string c.row) := cell_of_obj hXc rfl
        have d1 : X.cell? ⟨w1.heap.size, 1, none⟩ = some (.string c.col) := cell_of_obj hXc rfl
        have d2 : X.cell? ⟨w1.heap.size, 2, none⟩ = some (.int .u64 c.ver) := cell_of_obj hXc rfl
        have d3 : X.cell? ⟨w1.heap.size, 3, none⟩ = some (.bool c.gone) := cell_of_obj hXc rfl
        have d4 : X.cell? ⟨w1.heap.size, 4, none⟩ = some (.string c.val) := cell_of_obj hXc rfl
        have m3 := HX.out.at_.c3
        have hrs := HX.out.res
        rw [HWn.out] at hrs
        have s0 : X.cell? ⟨w.heap.size, 0, none⟩ = some (.string ⟨#[]⟩) := cell_of_obj hrs rfl
        have s1 : X.cell? ⟨w.heap.size, 1, none⟩ = some (.string ⟨#[]⟩) := cell_of_obj hrs rfl
        have s2 : X.cell? ⟨w.heap.size, 2, none⟩ = some (.int .u64 0) := cell_of_obj hrs rfl
        have s3 : X.cell? ⟨w.heap.size, 3, none⟩ = some (.bool false) := cell_of_obj hrs rfl
        have s4 : X.cell? ⟨w.heap.size, 4, none⟩ = some (.string ⟨#[]⟩) := cell_of_obj hrs rfl
        have sf := free_of_obj hrs
        clear hX hXc hrs e0 e1 e2 e3 e4 mf1 mf2 m1 b0 b1 b2 b3 b4 hYc
        cases tc with
        | true =>
          go_wp2_with (refine upon_test HTf.out ?_; refine (HT.out _).mono ?_; rintro e w2 ⟨rfl, hb2⟩; refine ⟨_, rfl, ?_⟩; have HY := Lib.hid (HX.out.below HR.out (by omega) hb2); have hz2 := hb2.size; have hrs := HY.out.res; rw [HWn.out] at hrs; have s0 : w2.cell? ⟨w.heap.size, 0, none⟩ = some (.string ⟨#[]⟩) := cell_of_obj hrs rfl; have s1 : w2.cell? ⟨w.heap.size, 1, none⟩ = some (.string ⟨#[]⟩) := cell_of_obj hrs rfl; have s2 : w2.cell? ⟨w.heap.size, 2, none⟩ = some (.int .u64 0) := cell_of_obj hrs rfl; have s3 : w2.cell? ⟨w.heap.size, 3, none⟩ = some (.bool false) := cell_of_obj hrs rfl; have s4 : w2.cell? ⟨w.heap.size, 4, none⟩ = some (.string ⟨#[]⟩) := cell_of_obj hrs rfl; have sf := free_of_obj hrs; have d0 := (hb2.cell (p := ⟨w1.heap.size, 0, none⟩) (by show w1.heap.size < _; omega)).trans d0; have d1 := (hb2.cell (p := ⟨w1.heap.size, 1, none⟩) (by show w1.heap.size < _; omega)).trans d1; have d2 := (hb2.cell (p := ⟨w1.heap.size, 2, none⟩) (by show w1.heap.size < _; omega)).trans d2; have d3 := (hb2.cell (p := ⟨w1.heap.size, 3, none⟩) (by show w1.heap.size < _; omega)).trans d3; have d4 := (hb2.cell (p := ⟨w1.heap.size, 4, none⟩) (by show w1.heap.size < _; omega)).trans d4; have nrw : ¬ w1.heap.size = w.heap.size := (by omega); clear hrs)
          have hE := HY.out.done (t := t) (cs := keepL t (some c) r) HR.out Hin.out (by omega) rfl c
          refine bodyPost_ret (v := headV (c :: keepL t (some c) r)) (by simp [results, Try.results61, go_sem, headV, *]) rfl ?_
          rw [show cs = c :: keepL t (some c) r by rw [← Hle.out, keepL, if_pos (by rw [← Htc.out]; rfl)]]
          obtain ⟨⟨F', h1, h2⟩, h3⟩ := hE
          exact ⟨rfl, F', h1, h2, h3⟩
        | false =>
          go_wp2_with (refine upon_test HTf.out ?_; refine (HT.out _).mono ?_; rintro e w2 ⟨rfl, hb2⟩; refine ⟨_, rfl, ?_⟩; have HY := Lib.hid (HX.out.below HR.out (by omega) hb2); have hz2 := hb2.size; have hrs := HY.out.res; rw [HWn.out] at hrs; have s0 : w2.cell? ⟨w.heap.size, 0, none⟩ = some (.string ⟨#[]⟩) := cell_of_obj hrs rfl; have s1 : w2.cell? ⟨w.heap.size, 1, none⟩ = some (.string ⟨#[]⟩) := cell_of_obj hrs rfl; have s2 : w2.cell? ⟨w.heap.size, 2, none⟩ = some (.int .u64 0) := cell_of_obj hrs rfl; have s3 : w2.cell? ⟨w.heap.size, 3, none⟩ = some (.bool false) := cell_of_obj hrs rfl; have s4 : w2.cell? ⟨w.heap.size, 4, none⟩ = some (.string ⟨#[]⟩) := cell_of_obj hrs rfl; have sf := free_of_obj hrs; have d0 := (hb2.cell (p := ⟨w1.heap.size, 0, none⟩) (by show w1.heap.size < _; omega)).trans d0; have d1 := (hb2.cell (p := ⟨w1.heap.size, 1, none⟩) (by show w1.heap.size < _; omega)).trans d1; have d2 := (hb2.cell (p := ⟨w1.heap.size, 2, none⟩) (by show w1.heap.size < _; omega)).trans d2; have d3 := (hb2.cell (p := ⟨w1.heap.size, 3, none⟩) (by show w1.heap.size < _; omega)).trans d3; have d4 := (hb2.cell (p := ⟨w1.heap.size, 4, none⟩) (by show w1.heap.size < _; omega)).trans d4; have nrw : ¬ w1.heap.size = w.heap.size := (by omega); clear hrs)
          have hex : KeepN a f caps St T t cs F w W w2 r.length := ⟨some c, r, _, rfl, by rw [← Hle.out]; rw [keepL, if_neg (by rw [← Htc.out]; simp)], HY.out⟩
          refine ⟨⟨_, hex⟩, ?_⟩
          have := (leastN_spec ⟨_, hex⟩).2 _ hex
          rw [List.length_cons] at hln
          omega
      | some p =>
        by_cases h1 : p.row = c.row
        · by_cases h2 : p.col = c.col
          · have hd : Hid (freshB (some p) c = false) := Lib.hid (by unfold freshB placeB; simp [h1, h2])
            go_upto_region 5 with (refine wpList_call_row rfl _ rfl (by rfl) Hfn.out ?_; refine KN.out.mono ?_; rintro e w1 ⟨rfl, F2, hS2, hF2, hK2⟩; refine ⟨_, rfl, ?_⟩; have HC := Lib.hid (HA.out.call Hin.out (by omega) hS2 hF2 hK2); have hz1x := hK2.size; have hzw : w.heap.size < w1.heap.size := (by omega); have hrs := HC.out.res; rw [HWn.out] at hrs; have s0 : w1.cell? ⟨w.heap.size, 0, none⟩ = some (.string ⟨#[]⟩) := cell_of_obj hrs rfl; have s1 : w1.cell? ⟨w.heap.size, 1, none⟩ = some (.string ⟨#[]⟩) := cell_of_obj hrs rfl; have s2 : w1.cell? ⟨w.heap.size, 2, none⟩ = some (.int .u64 0) := cell_of_obj hrs rfl; have s3 : w1.cell? ⟨w.heap.size, 3, none⟩ = some (.bool false) := cell_of_obj hrs rfl; have s4 : w1.cell? ⟨w.heap.size, 4, none⟩ = some (.string ⟨#[]⟩) := cell_of_obj hrs rfl; have sf := free_of_obj hrs; have hat := HC.out.at_; have i1 : a.Is a.b1 := .inr (.inl rfl); have i2 : a.Is a.b2 := .inr (.inr (.inl rfl)); have m1 : w1.cell? ⟨a.b1, 0, none⟩ = some (.bool false) := hat.c1; have m3 := hat.c3; obtain ⟨e0, e1, e2, e3, e4⟩ := hat.c2.cell p rfl; have mf1 := fun o => hat.f a.b1 o i1; have mf2 := fun o => hat.f a.b2 o i2; have l1 := hat.lt _ i1; have l2 := hat.lt _ i2; have l3 := hat.lt a.b3 (.inr (.inr (.inr rfl))); have n12 : ¬ a.b1 = a.b2 := hat.ok.n12; have n21 : ¬ a.b2 = a.b1 := fun e => n12 e.symm; have nr1 : ¬ a.b1 = w.heap.size := (fun e => by have := Hin.out _ (HC.out.own _ i1).1; omega); have nr2 : ¬ a.b2 = w.heap.size := (fun e => by have := Hin.out _ (HC.out.own _ i2).1; omega); clear i1 i2; clear hS2 hF2 hK2 hrs)
            obtain ⟨Y, hY⟩ : ∃ Y : World, Y = w1.alloc (.cells #[.string c.row, .string c.col, .int .u64 c.ver, .bool c.gone, .string c.val] 37) := ⟨_, rfl⟩
            have hBY : Below w1.heap.size w1 Y := by rw [hY]; exact (Below.refl _ _).alloc (Nat.le_refl _) _
            have HY0 := Lib.hid (HC.out.below HR.out (by omega) hBY)
            have hYc : Y.heap[w1.heap.size]? = some (.cells #[.string c.row, .string c.col, .int .u64 c.ver, .bool c.gone, .string c.val] 37) := by rw [hY]; exact heap_new _ _
            have hYz : Y.heap.size = w1.heap.size + 1 := by rw [hY, World.size_alloc]
            rw [← hY]
            clear hY hat m1 m3 e0 e1 e2 e3 e4 mf1 mf2 s0 s1 s2 s3 s4 sf
            have i1 : a.Is a.b1 := .inr (.inl rfl)
            have i2 : a.Is a.b2 := .inr (.inr (.inl rfl))
            have m1 : Y.cell? ⟨a.b1, 0, none⟩ = some (.bool false) := HY0.out.at_.c1
            obtain ⟨⟨y0, e0⟩, ⟨y1, e1⟩, ⟨y2, e2⟩, ⟨y3, e3⟩, ⟨y4, e4⟩⟩ := any5 HY0.out.at_.c2
            have mf1 := fun o => HY0.out.at_.f a.b1 o i1
            have mf2 := fun o => HY0.out.at_.f a.b2 o i2
            have b0 : Y.cell? ⟨w1.heap.size, 0, none⟩ = some (.string c.row) := cell_of_obj hYc rfl
            have b1 : Y.cell? ⟨w1.heap.size, 1, none⟩ = some (.string c.col) := cell_of_obj hYc rfl
            have b2 : Y.cell? ⟨w1.heap.size, 2, none⟩ = some (.int .u64 c.ver) := cell_of_obj hYc rfl
            have b3 : Y.cell? ⟨w1.heap.size, 3, none⟩ = some (.bool c.gone) := cell_of_obj hYc rfl
            have b4 : Y.cell? ⟨w1.heap.size, 4, none⟩ = some (.string c.val) := cell_of_obj hYc rfl
            have nb1 : ¬ w1.heap.size = a.b1 := by omega
            have nb2 : ¬ w1.heap.size = a.b2 := by omega
            have Hyc := Lib.hid hYc
            have HBY := Lib.hid hBY
            clear i1 i2 hYc hBY
            go_upto_region 6 with fail
            have hYc := Hyc.out
            obtain ⟨X, hX⟩ : ∃ X : World, X = (putC Y a.b2 c).setCell ⟨a.b1, 0, none⟩ (.bool false) := ⟨_, rfl⟩
            have HX := Lib.hid (HY0.out.note HR.out Hin.out c)
            have hXc : X.heap[w1.heap.size]? = some (.cells #[.string c.row, .string c.col, .int .u64 c.ver, .bool c.gone, .string c.val] 37) := by rw [hX, Below.heap_setCell _ _ _ _ nb1, putC_heap _ _ _ _ nb2]; exact hYc
            have hXz : X.heap.size = w1.heap.size + 1 := by rw [hX, World.size_setCell, putC_size]; exact hYz
            rw [← hX] at HX
            unfold putC at hX
            rw [← hX]
            have d0 : X.cell? ⟨w1.heap.size, 0, none⟩ = some (.string c.row) := cell_of_obj hXc rfl
            have d1 : X.cell? ⟨w1.heap.size, 1, none⟩ = some (.string c.col) := cell_of_obj hXc rfl
            have d2 : X.cell? ⟨w1.heap.size, 2, none⟩ = some (.int .u64 c.ver) := cell_of_obj hXc rfl
            have d3 : X.cell? ⟨w1.heap.size, 3, none⟩ = some (.bool c.gone) := cell_of_obj hXc rfl
            have d4 : X.cell? ⟨w1.heap.size, 4, none⟩ = some (.string c.val) := cell_of_obj hXc rfl
            have m3 := HX.out.at_.c3
            have hrs := HX.out.res
            rw [HWn.out] at hrs
            have s0 : X.cell? ⟨w.heap.size, 0, none⟩ = some (.string ⟨#[]⟩) := cell_of_obj hrs rfl
            have s1 : X.cell? ⟨w.heap.size, 1, none⟩ = some (.string ⟨#[]⟩) := cell_of_obj hrs rfl
            have s2 : X.cell? ⟨w.heap.size, 2, none⟩ = some (.int .u64 0) := cell_of_obj hrs rfl
            have s3 : X.cell? ⟨w.heap.size, 3, none⟩ = some (.bool false) := cell_of_obj hrs rfl
            have s4 : X.cell? ⟨w.heap.size, 4, none⟩ = some (.string ⟨#[]⟩) := cell_of_obj hrs rfl
            have sf := free_of_obj hrs
            clear hX hXc hrs e0 e1 e2 e3 e4 mf1 mf2 m1 b0 b1 b2 b3 b4 hYc
            go_wp2
            have hex : KeepN a f caps St T t cs F w W X r.length := ⟨some c, r, _, rfl, by rw [← Hle.out]; rw [keepL, if_neg (by rw [hd.out]; simp)], HX.out⟩
            refine ⟨⟨_, hex⟩, ?_⟩
            have := (leastN_spec ⟨_, hex⟩).2 _ hex
            rw [List.length_cons] at hln
            omega
          · have hd : Hid (freshB (some p) c = true) := Lib.hid (by unfold freshB placeB; simp [h2])
            have n2 : ¬ p.col.toList = c.col.toList := fun h => h2 (toList_inj.1 h)
            have n3 : (p.col.toList == c.col.toList) = false := by simpa using n2
            go_upto_region 5 with (refine wpList_call_row rfl _ rfl (by rfl) Hfn.out ?_; refine KN.out.mono ?_; rintro e w1 ⟨rfl, F2, hS2, hF2, hK2⟩; refine ⟨_, rfl, ?_⟩; have HC := Lib.hid (HA.out.call Hin.out (by omega) hS2 hF2 hK2); have hz1x := hK2.size; have hzw : w.heap.size < w1.heap.size := (by omega); have hrs := HC.out.res; rw [HWn.out] at hrs; have s0 : w1.cell? ⟨w.heap.size, 0, none⟩ = some (.string ⟨#[]⟩) := cell_of_obj hrs rfl; have s1 : w1.cell? ⟨w.heap.size, 1, none⟩ = some (.string ⟨#[]⟩) := cell_of_obj hrs rfl; have s2 : w1.cell? ⟨w.heap.size, 2, none⟩ = some (.int .u64 0) := cell_of_obj hrs rfl; have s3 : w1.cell? ⟨w.heap.size, 3, none⟩ = some (.bool false) := cell_of_obj hrs rfl; have s4 : w1.cell? ⟨w.heap.size, 4, none⟩ = some (.string ⟨#[]⟩) := cell_of_obj hrs rfl; have sf := free_of_obj hrs; have hat := HC.out.at_; have i1 : a.Is a.b1 := .inr (.inl rfl); have i2 : a.Is a.b2 := .inr (.inr (.inl rfl)); have m1 : w1.cell? ⟨a.b1, 0, none⟩ = some (.bool false) := hat.c1; have m3 := hat.c3; obtain ⟨e0, e1, e2, e3, e4⟩ := hat.c2.cell p rfl; have mf1 := fun o => hat.f a.b1 o i1; have mf2 := fun o => hat.f a.b2 o i2; have l1 := hat.lt _ i1; have l2 := hat.lt _ i2; have l3 := hat.lt a.b3 (.inr (.inr (.inr rfl))); have n12 : ¬ a.b1 = a.b2 := hat.ok.n12; have n21 : ¬ a.b2 = a.b1 := fun e => n12 e.symm; have nr1 : ¬ a.b1 = w.heap.size := (fun e => by have := Hin.out _ (HC.out.own _ i1).1; omega); have nr2 : ¬ a.b2 = w.heap.size := (fun e => by have := Hin.out _ (HC.out.own _ i2).1; omega); clear i1 i2; clear hS2 hF2 hK2 hrs)
            obtain ⟨Y, hY⟩ : ∃ Y : World, Y = w1.alloc (.cells #[.string c.row, .string c.col, .int .u64 c.ver, .bool c.gone, .string c.val] 37) := ⟨_, rfl⟩
            have hBY : Below w1.heap.size w1 Y := by rw [hY]; exact (Below.refl _ _).alloc (Nat.le_refl _) _
            have HY0 := Lib.hid (HC.out.below HR.out (by omega) hBY)
            have hYc : Y.heap[w1.heap.size]? = some (.cells #[.string c.row, .string c.col, .int .u64 c.ver, .bool c.gone, .string c.val] 37) := by rw [hY]; exact heap_new _ _
            have hYz : Y.heap.size = w1.heap.size + 1 := by rw [hY, World.size_alloc]
            rw [← hY]
            clear hY hat m1 m3 e0 e1 e2 e3 e4 mf1 mf2 s0 s1 s2 s3 s4 sf
            have i1 : a.Is a.b1 := .inr (.inl rfl)
            have i2 : a.Is a.b2 := .inr (.inr (.inl rfl))
            have m1 : Y.cell? ⟨a.b1, 0, none⟩ = some (.bool false) := HY0.out.at_.c1
            obtain ⟨⟨y0, e0⟩, ⟨y1, e1⟩, ⟨y2, e2⟩, ⟨y3, e3⟩, ⟨y4, e4⟩⟩ := any5 HY0.out.at_.c2
            have mf1 := fun o => HY0.out.at_.f a.b1 o i1
            have mf2 := fun o => HY0.out.at_.f a.b2 o i2
            have b0 : Y.cell? ⟨w1.heap.size, 0, none⟩ = some (.string c.row) := cell_of_obj hYc rfl
            have b1 : Y.cell? ⟨w1.heap.size, 1, none⟩ = some (.string c.col) := cell_of_obj hYc rfl
            have b2 : Y.cell? ⟨w1.heap.size, 2, none⟩ = some (.int .u64 c.ver) := cell_of_obj hYc rfl
            have b3 : Y.cell? ⟨w1.heap.size, 3, none⟩ = some (.bool c.gone) := cell_of_obj hYc rfl
            have b4 : Y.cell? ⟨w1.heap.size, 4, none⟩ = some (.string c.val) := cell_of_obj hYc rfl
            have nb1 : ¬ w1.heap.size = a.b1 := by omega
            have nb2 : ¬ w1.heap.size = a.b2 := by omega
            have Hyc := Lib.hid hYc
            have HBY := Lib.hid hBY
            clear i1 i2 hYc hBY
            go_upto_region 6 with fail
            have hYc := Hyc.out
            obtain ⟨X, hX⟩ : ∃ X : World, X = (putC Y a.b2 c).setCell ⟨a.b1, 0, none⟩ (.bool false) := ⟨_, rfl⟩
            have HX := Lib.hid (HY0.out.note HR.out Hin.out c)
            have hXc : X.heap[w1.heap.size]? = some (.cells #[.string c.row, .string c.col, .int .u64 c.ver, .bool c.gone, .string c.val] 37) := by rw [hX, Below.heap_setCell _ _ _ _ nb1, putC_heap _ _ _ _ nb2]; exact hYc
            have hXz : X.heap.size = w1.heap.size + 1 := by rw [hX, World.size_setCell, putC_size]; exact hYz
            rw [← hX] at HX
            unfold putC at hX
            rw [← hX]
            have d0 : X.cell? ⟨w1.heap.size, 0, none⟩ = some (.string c.row) := cell_of_obj hXc rfl
            have d1 : X.cell? ⟨w1.heap.size, 1, none⟩ = some (.string c.col) := cell_of_obj hXc rfl
            have d2 : X.cell? ⟨w1.heap.size, 2, none⟩ = some (.int .u64 c.ver) := cell_of_obj hXc rfl
            have d3 : X.cell? ⟨w1.heap.size, 3, none⟩ = some (.bool c.gone) := cell_of_obj hXc rfl
            have d4 : X.cell? ⟨w1.heap.size, 4, none⟩ = some (.string c.val) := cell_of_obj hXc rfl
            have m3 := HX.out.at_.c3
            have hrs := HX.out.res
            rw [HWn.out] at hrs
            have s0 : X.cell? ⟨w.heap.size, 0, none⟩ = some (.string ⟨#[]⟩) := cell_of_obj hrs rfl
            have s1 : X.cell? ⟨w.heap.size, 1, none⟩ = some (.string ⟨#[]⟩) := cell_of_obj hrs rfl
            have s2 : X.cell? ⟨w.heap.size, 2, none⟩ = some (.int .u64 0) := cell_of_obj hrs rfl
            have s3 : X.cell? ⟨w.heap.size, 3, none⟩ = some (.bool false) := cell_of_obj hrs rfl
            have s4 : X.cell? ⟨w.heap.size, 4, none⟩ = some (.string ⟨#[]⟩) := cell_of_obj hrs rfl
            have sf := free_of_obj hrs
            clear hX hXc hrs e0 e1 e2 e3 e4 mf1 mf2 m1 b0 b1 b2 b3 b4 hYc
            cases tc with
            | true =>
              go_wp2_with (refine upon_test HTf.out ?_; refine (HT.out _).mono ?_; rintro e w2 ⟨rfl, hb2⟩; refine ⟨_, rfl, ?_⟩; have HY := Lib.hid (HX.out.below HR.out (by omega) hb2); have hz2 := hb2.size; have hrs := HY.out.res; rw [HWn.out] at hrs; have s0 : w2.cell? ⟨w.heap.size, 0, none⟩ = some (.string ⟨#[]⟩) := cell_of_obj hrs rfl; have s1 : w2.cell? ⟨w.heap.size, 1, none⟩ = some (.string ⟨#[]⟩) := cell_of_obj hrs rfl; have s2 : w2.cell? ⟨w.heap.size, 2, none⟩ = some (.int .u64 0) := cell_of_obj hrs rfl; have s3 : w2.cell? ⟨w.heap.size, 3, none⟩ = some (.bool false) := cell_of_obj hrs rfl; have s4 : w2.cell? ⟨w.heap.size, 4, none⟩ = some (.string ⟨#[]⟩) := cell_of_obj hrs rfl; have sf := free_of_obj hrs; have d0 := (hb2.cell (p := ⟨w1.heap.size, 0, none⟩) (by show w1.heap.size < _; omega)).trans d0; have d1 := (hb2.cell (p := ⟨w1.heap.size, 1, none⟩) (by show w1.heap.size < _; omega)).trans d1; have d2 := (hb2.cell (p := ⟨w1.heap.size, 2, none⟩) (by show w1.heap.size < _; omega)).trans d2; have d3 := (hb2.cell (p := ⟨w1.heap.size, 3, none⟩) (by show w1.heap.size < _; omega)).trans d3; have d4 := (hb2.cell (p := ⟨w1.heap.size, 4, none⟩) (by show w1.heap.size < _; omega)).trans d4; have nrw : ¬ w1.heap.size = w.heap.size := (by omega); clear hrs)
              have hE := HY.out.done (t := t) (cs := keepL t (some c) r) HR.out Hin.out (by omega) rfl c
              refine bodyPost_ret (v := headV (c :: keepL t (some c) r)) (by simp [results, Try.results61, go_sem, headV, *]) rfl ?_
              rw [show cs = c :: keepL t (some c) r by rw [← Hle.out, keepL, if_pos (by rw [← Htc.out]; rw [hd.out]; rfl)]]
              obtain ⟨⟨F', h1, h2⟩, h3⟩ := hE
              exact ⟨rfl, F', h1, h2, h3⟩
            | false =>
              go_wp2_with (refine upon_test HTf.out ?_; refine (HT.out _).mono ?_; rintro e w2 ⟨rfl, hb2⟩; refine ⟨_, rfl, ?_⟩; have HY := Lib.hid (HX.out.below HR.out (by omega) hb2); have hz2 := hb2.size; have hrs := HY.out.res; rw [HWn.out] at hrs; have s0 : w2.cell? ⟨w.heap.size, 0, none⟩ = some (.string ⟨#[]⟩) := cell_of_obj hrs rfl; have s1 : w2.cell? ⟨w.heap.size, 1, none⟩ = some (.string ⟨#[]⟩) := cell_of_obj hrs rfl; have s2 : w2.cell? ⟨w.heap.size, 2, none⟩ = some (.int .u64 0) := cell_of_obj hrs rfl; have s3 : w2.cell? ⟨w.heap.size, 3, none⟩ = some (.bool false) := cell_of_obj hrs rfl; have s4 : w2.cell? ⟨w.heap.size, 4, none⟩ = some (.string ⟨#[]⟩) := cell_of_obj hrs rfl; have sf := free_of_obj hrs; have d0 := (hb2.cell (p := ⟨w1.heap.size, 0, none⟩) (by show w1.heap.size < _; omega)).trans d0; have d1 := (hb2.cell (p := ⟨w1.heap.size, 1, none⟩) (by show w1.heap.size < _; omega)).trans d1; have d2 := (hb2.cell (p := ⟨w1.heap.size, 2, none⟩) (by show w1.heap.size < _; omega)).trans d2; have d3 := (hb2.cell (p := ⟨w1.heap.size, 3, none⟩) (by show w1.heap.size < _; omega)).trans d3; have d4 := (hb2.cell (p := ⟨w1.heap.size, 4, none⟩) (by show w1.heap.size < _; omega)).trans d4; have nrw : ¬ w1.heap.size = w.heap.size := (by omega); clear hrs)
              have hex : KeepN a f caps St T t cs F w W w2 r.length := ⟨some c, r, _, rfl, by rw [← Hle.out]; rw [keepL, if_neg (by rw [← Htc.out]; simp)], HY.out⟩
              refine ⟨⟨_, hex⟩, ?_⟩
              have := (leastN_spec ⟨_, hex⟩).2 _ hex
              rw [List.length_cons] at hln
              omega
        · have hd : Hid (freshB (some p) c = true) := Lib.hid (by unfold freshB placeB; simp [h1])
          have n2 : ¬ p.row.toList = c.row.toList := fun h => h1 (toList_inj.1 h)
          have n3 : (p.row.toList == c.row.toList) = false := by simpa using n2
          go_upto_region 5 with (refine wpList_call_row rfl _ rfl (by rfl) Hfn.out ?_; refine KN.out.mono ?_; rintro e w1 ⟨rfl, F2, hS2, hF2, hK2⟩; refine ⟨_, rfl, ?_⟩; have HC := Lib.hid (HA.out.call Hin.out (by omega) hS2 hF2 hK2); have hz1x := hK2.size; have hzw : w.heap.size < w1.heap.size := (by omega); have hrs := HC.out.res; rw [HWn.out] at hrs; have s0 : w1.cell? ⟨w.heap.size, 0, none⟩ = some (.string ⟨#[]⟩) := cell_of_obj hrs rfl; have s1 : w1.cell? ⟨w.heap.size, 1, none⟩ = some (.string ⟨#[]⟩) := cell_of_obj hrs rfl; have s2 : w1.cell? ⟨w.heap.size, 2, none⟩ = some (.int .u64 0) := cell_of_obj hrs rfl; have s3 : w1.cell? ⟨w.heap.size, 3, none⟩ = some (.bool false) := cell_of_obj hrs rfl; have s4 : w1.cell? ⟨w.heap.size, 4, none⟩ = some (.string ⟨#[]⟩) := cell_of_obj hrs rfl; have sf := free_of_obj hrs; have hat := HC.out.at_; have i1 : a.Is a.b1 := .inr (.inl rfl); have i2 : a.Is a.b2 := .inr (.inr (.inl rfl)); have m1 : w1.cell? ⟨a.b1, 0, none⟩ = some (.bool false) := hat.c1; have m3 := hat.c3; obtain ⟨e0, e1, e2, e3, e4⟩ := hat.c2.cell p rfl; have mf1 := fun o => hat.f a.b1 o i1; have mf2 := fun o => hat.f a.b2 o i2; have l1 := hat.lt _ i1; have l2 := hat.lt _ i2; have l3 := hat.lt a.b3 (.inr (.inr (.inr rfl))); have n12 : ¬ a.b1 = a.b2 := hat.ok.n12; have n21 : ¬ a.b2 = a.b1 := fun e => n12 e.symm; have nr1 : ¬ a.b1 = w.heap.size := (fun e => by have := Hin.out _ (HC.out.own _ i1).1; omega); have nr2 : ¬ a.b2 = w.heap.size := (fun e => by have := Hin.out _ (HC.out.own _ i2).1; omega); clear i1 i2; clear hS2 hF2 hK2 hrs)
          obtain ⟨Y, hY⟩ : ∃ Y : World, Y = w1.alloc (.cells #[.string c.row, .string c.col, .int .u64 c.ver, .bool c.gone, .string c.val] 37) := ⟨_, rfl⟩
          have hBY : Below w1.heap.size w1 Y := by rw [hY]; exact (Below.refl _ _).alloc (Nat.le_refl _) _
          have HY0 := Lib.hid (HC.out.below HR.out (by omega) hBY)
          have hYc : Y.heap[w1.heap.size]? = some (.cells #[.string c.row, .string c.col, .int .u64 c.ver, .bool c.gone, .string c.val] 37) := by rw [hY]; exact heap_new _ _
          have hYz : Y.heap.size = w1.heap.size + 1 := by rw [hY, World.size_alloc]
          rw [← hY]
          clear hY hat m1 m3 e0 e1 e2 e3 e4 mf1 mf2 s0 s1 s2 s3 s4 sf
          have i1 : a.Is a.b1 := .inr (.inl rfl)
          have i2 : a.Is a.b2 := .inr (.inr (.inl rfl))
          have m1 : Y.cell? ⟨a.b1, 0, none⟩ = some (.bool false) := HY0.out.at_.c1
          obtain ⟨⟨y0, e0⟩, ⟨y1, e1⟩, ⟨y2, e2⟩, ⟨y3, e3⟩, ⟨y4, e4⟩⟩ := any5 HY0.out.at_.c2
          have mf1 := fun o => HY0.out.at_.f a.b1 o i1
          have mf2 := fun o => HY0.out.at_.f a.b2 o i2
          have b0 : Y.cell? ⟨w1.heap.size, 0, none⟩ = some (.string c.row) := cell_of_obj hYc rfl
          have b1 : Y.cell? ⟨w1.heap.size, 1, none⟩ = some (.string c.col) := cell_of_obj hYc rfl
          have b2 : Y.cell? ⟨w1.heap.size, 2, none⟩ = some (.int .u64 c.ver) := cell_of_obj hYc rfl
          have b3 : Y.cell? ⟨w1.heap.size, 3, none⟩ = some (.bool c.gone) := cell_of_obj hYc rfl
          have b4 : Y.cell? ⟨w1.heap.size, 4, none⟩ = some (.string c.val) := cell_of_obj hYc rfl
          have nb1 : ¬ w1.heap.size = a.b1 := by omega
          have nb2 : ¬ w1.heap.size = a.b2 := by omega
          have Hyc := Lib.hid hYc
          have HBY := Lib.hid hBY
          clear i1 i2 hYc hBY
          go_upto_region 6 with fail
          have hYc := Hyc.out
          obtain ⟨X, hX⟩ : ∃ X : World, X = (putC Y a.b2 c).setCell ⟨a.b1, 0, none⟩ (.bool false) := ⟨_, rfl⟩
          have HX := Lib.hid (HY0.out.note HR.out Hin.out c)
          have hXc : X.heap[w1.heap.size]? = some (.cells #[.string c.row, .string c.col, .int .u64 c.ver, .bool c.gone, .string c.val] 37) := by rw [hX, Below.heap_setCell _ _ _ _ nb1, putC_heap _ _ _ _ nb2]; exact hYc
          have hXz : X.heap.size = w1.heap.size + 1 := by rw [hX, World.size_setCell, putC_size]; exact hYz
          rw [← hX] at HX
          unfold putC at hX
          rw [← hX]
          have d0 : X.cell? ⟨w1.heap.size, 0, none⟩ = some (.string c.row) := cell_of_obj hXc rfl
          have d1 : X.cell? ⟨w1.heap.size, 1, none⟩ = some (.string c.col) := cell_of_obj hXc rfl
          have d2 : X.cell? ⟨w1.heap.size, 2, none⟩ = some (.int .u64 c.ver) := cell_of_obj hXc rfl
          have d3 : X.cell? ⟨w1.heap.size, 3, none⟩ = some (.bool c.gone) := cell_of_obj hXc rfl
          have d4 : X.cell? ⟨w1.heap.size, 4, none⟩ = some (.string c.val) := cell_of_obj hXc rfl
          have m3 := HX.out.at_.c3
          have hrs := HX.out.res
          rw [HWn.out] at hrs
          have s0 : X.cell? ⟨w.heap.size, 0, none⟩ = some (.string ⟨#[]⟩) := cell_of_obj hrs rfl
          have s1 : X.cell? ⟨w.heap.size, 1, none⟩ = some (.string ⟨#[]⟩) := cell_of_obj hrs rfl
          have s2 : X.cell? ⟨w.heap.size, 2, none⟩ = some (.int .u64 0) := cell_of_obj hrs rfl
          have s3 : X.cell? ⟨w.heap.size, 3, none⟩ = some (.bool false) := cell_of_obj hrs rfl
          have s4 : X.cell? ⟨w.heap.size, 4, none⟩ = some (.string ⟨#[]⟩) := cell_of_obj hrs rfl
          have sf := free_of_obj hrs
          clear hX hXc hrs e0 e1 e2 e3 e4 mf1 mf2 m1 b0 b1 b2 b3 b4 hYc
          cases tc with
          | true =>
            go_wp2_with (refine upon_test HTf.out ?_; refine (HT.out _).mono ?_; rintro e w2 ⟨rfl, hb2⟩; refine ⟨_, rfl, ?_⟩; have HY := Lib.hid (HX.out.below HR.out (by omega) hb2); have hz2 := hb2.size; have hrs := HY.out.res; rw [HWn.out] at hrs; have s0 : w2.cell? ⟨w.heap.size, 0, none⟩ = some (.string ⟨#[]⟩) := cell_of_obj hrs rfl; have s1 : w2.cell? ⟨w.heap.size, 1, none⟩ = some (.string ⟨#[]⟩) := cell_of_obj hrs rfl; have s2 : w2.cell? ⟨w.heap.size, 2, none⟩ = some (.int .u64 0) := cell_of_obj hrs rfl; have s3 : w2.cell? ⟨w.heap.size, 3, none⟩ = some (.bool false) := cell_of_obj hrs rfl; have s4 : w2.cell? ⟨w.heap.size, 4, none⟩ = some (.string ⟨#[]⟩) := cell_of_obj hrs rfl; have sf := free_of_obj hrs; have d0 := (hb2.cell (p := ⟨w1.heap.size, 0, none⟩) (by show w1.heap.size < _; omega)).trans d0; have d1 := (hb2.cell (p := ⟨w1.heap.size, 1, none⟩) (by show w1.heap.size < _; omega)).trans d1; have d2 := (hb2.cell (p := ⟨w1.heap.size, 2, none⟩) (by show w1.heap.size < _; omega)).trans d2; have d3 := (hb2.cell (p := ⟨w1.heap.size, 3, none⟩) (by show w1.heap.size < _; omega)).trans d3; have d4 := (hb2.cell (p := ⟨w1.heap.size, 4, none⟩) (by show w1.heap.size < _; omega)).trans d4; have nrw : ¬ w1.heap.size = w.heap.size := (by omega); clear hrs)
            have hE := HY.out.done (t := t) (cs := keepL t (some c) r) HR.out Hin.out (by omega) rfl c
            refine bodyPost_ret (v := headV (c :: keepL t (some c) r)) (by simp [results, Try.results61, go_sem, headV, *]) rfl ?_
            rw [show cs = c :: keepL t (some c) r by rw [← Hle.out, keepL, if_pos (by rw [← Htc.out]; rw [hd.out]; rfl)]]
            obtain ⟨⟨F', h1, h2⟩, h3⟩ := hE
            exact ⟨rfl, F', h1, h2, h3⟩
          | false =>
            go_wp2_with (refine upon_test HTf.out ?_; refine (HT.out _).mono ?_; rintro e w2 ⟨rfl, hb2⟩; refine ⟨_, rfl, ?_⟩; have HY := Lib.hid (HX.out.below HR.out (by omega) hb2); have hz2 := hb2.size; have hrs := HY.out.res; rw [HWn.out] at hrs; have s0 : w2.cell? ⟨w.heap.size, 0, none⟩ = some (.string ⟨#[]⟩) := cell_of_obj hrs rfl; have s1 : w2.cell? ⟨w.heap.size, 1, none⟩ = some (.string ⟨#[]⟩) := cell_of_obj hrs rfl; have s2 : w2.cell? ⟨w.heap.size, 2, none⟩ = some (.int .u64 0) := cell_of_obj hrs rfl; have s3 : w2.cell? ⟨w.heap.size, 3, none⟩ = some (.bool false) := cell_of_obj hrs rfl; have s4 : w2.cell? ⟨w.heap.size, 4, none⟩ = some (.string ⟨#[]⟩) := cell_of_obj hrs rfl; have sf := free_of_obj hrs; have d0 := (hb2.cell (p := ⟨w1.heap.size, 0, none⟩) (by show w1.heap.size < _; omega)).trans d0; have d1 := (hb2.cell (p := ⟨w1.heap.size, 1, none⟩) (by show w1.heap.size < _; omega)).trans d1; have d2 := (hb2.cell (p := ⟨w1.heap.size, 2, none⟩) (by show w1.heap.size < _; omega)).trans d2; have d3 := (hb2.cell (p := ⟨w1.heap.size, 3, none⟩) (by show w1.heap.size < _; omega)).trans d3; have d4 := (hb2.cell (p := ⟨w1.heap.size, 4, none⟩) (by show w1.heap.size < _; omega)).trans d4; have nrw : ¬ w1.heap.size = w.heap.size := (by omega); clear hrs)
            have hex : KeepN a f caps St T t cs F w W w2 r.length := ⟨some c, r, _, rfl, by rw [← Hle.out]; rw [keepL, if_neg (by rw [← Htc.out]; simp)], HY.out⟩
            refine ⟨⟨_, hex⟩, ?_⟩
            have := (leastN_spec ⟨_, hex⟩).2 _ hex
            rw [List.length_cons] at hln
            omega
theorem keep_row (a : KV) (f : FuncId) (caps : Array Value) (St : List CellA → (Nat → Prop) → World → Prop) (hR : RowOf f caps St) (T : FuncId) (t : CellA → Bool)
    (hTf : ∃ fn c, Try.prog.funcs[T]? = some fn ∧ (fn.name == "runtime.NumGoroutine") = false ∧ fn.body = some c) (hT : ∀ c w, Calls Try.prog T #[c.v] w fun e w' => e = .returned (.bool (t c)) ∧ Below w.heap.size w w') :
    RowOf 61 a.caps (KeepSt a f caps St T t) := by
  refine ⟨⟨_, _, Try.func61, by kernel_rfl, rfl⟩, fun h hs hb => ?_, fun h => ?_, fun {cs F w} h => keep1_any a f caps St hR T t hTf hT cs F w h⟩
  · obtain ⟨last, l, F0, h1, h2, h3, h4, h5, h6⟩ := h
    exact ⟨last, l, F0, h1.same (fun k hk => hb k (h5 k hk).1), hR.keep h2 hs (fun k hk => hb k (h4 k hk)), h3, h4, h5, fun k hk => Nat.lt_of_lt_of_le (h6 k hk) hs⟩
  · obtain ⟨last, l, F0, h1, h2, h3, h4, h5, h6⟩ := h
    exact h6
end Go.Proofs.Ytehbikofoidjhaa
