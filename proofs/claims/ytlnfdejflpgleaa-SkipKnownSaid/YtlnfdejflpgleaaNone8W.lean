/-
  Skip lists that are none: nil, or without a head.
-/
import Derived.Test.YtlnfdejflpgleaaSkipAllW
import Derived.Test.YtlnfdejflpgleaaRangeM
namespace Go.Proofs.Ytlnfdejflpgleaa
open Go.RowKit Go.Shelf

attribute [local go_sem] Oper.semAt_some
def NoneL (v : Value) (w : World) : Prop := v = .pointer none ∨ ∃ b, v = .pointer (some ⟨b, 0, none⟩) ∧ w.cell? ⟨b, 0, none⟩ = some (.pointer none)
theorem NoneL.below {v : Value} {w w' : World} (h : NoneL v w) (hb : Below w.heap.size w w') : NoneL v w' := h.imp id fun ⟨b, e, h⟩ => ⟨b, e, (hb.cell (World.block_lt_of_cell? _ _ h)).trans h⟩
theorem none_yes (v : Value) (w : World) (h : NoneL v w) :
    Calls Try.prog 28 #[v] w fun e w' => e = .returned (.bool true) ∧ w = w' := by
  rcases h with rfl | ⟨b, rfl, h0⟩
  · go_enter Try.func28, Try.ntmps28
    go_wp2
    go_ret
    exact ⟨rfl, rfl⟩
  · go_enter Try.func28, Try.ntmps28
    go_wp2
    go_ret
    exact ⟨rfl, rfl⟩
theorem none_len (v : Value) (w : World) (h : NoneL v w) :
    Calls Try.prog 17 #[v] w fun e w' => e = .returned (.int .i64 0) ∧ w = w' := by
  have KN := Lib.hid (none_yes v w h)
  clear h
  go_enter Try.func17, Try.ntmps17
  go_wp2_with (go_at_call 28; refine (KN.out).mono ?_; rintro e w' ⟨rfl, rfl⟩)
  go_ret
  exact ⟨rfl, rfl⟩
theorem none_heights (v : Value) (w : World) (h : NoneL v w) :
    Calls Try.prog 20 #[v] w fun e w' => e = .returned (.slice none 0 0) ∧ w = w' := by
  have KN := Lib.hid (none_yes v w h)
  clear h
  go_enter Try.func20, Try.ntmps20
  go_wp2_with (go_at_call 28; refine (KN.out).mono ?_; rintro e w' ⟨rfl, rfl⟩)
  go_ret
  exact ⟨rfl, rfl⟩
set_option maxRecDepth 100000 in
theorem none_get (v : Value) (row col : ByteArray) (w : World) (h : NoneL v w) :
    Calls Try.prog 15 #[v, .string row, .string col] w fun e w' => e = .returned (.tuple #[.agg #[.string ⟨#[]⟩, .string ⟨#[]⟩, .int .u64 0, .bool false, .string ⟨#[]⟩], .bool false]) ∧ Below w.heap.size w w' := by
  have KN := Lib.hid fun W (hW : Below w.heap.size w W) => none_yes v W (h.below hW)
  clear h
  go_enter Try.func15, Try.ntmps15
  go_wp2_with (go_at_call 28; refine (KN.out _ (by go_grown)).mono ?_; rintro e w' ⟨rfl, rfl⟩)
  go_returns
  exact ⟨rfl, by go_grown⟩
set_option maxRecDepth 100000 in
theorem none_put (v : Value) (c : CellA) (h0 : Int) (w : World) (h : NoneL v w) :
    Calls Try.prog 12 #[v, .agg #[.string c.row, .string c.col, .int .u64 c.ver, .bool c.gone, .string c.val], .int .i64 h0] w fun e w' => e = .returned (.int .i64 1) ∧ Below w.heap.size w w' := by
  have KN := Lib.hid fun W (hW : Below w.heap.size w W) => none_yes v W (h.below hW)
  clear h
  go_enter Try.func12, Try.ntmps12
  go_wp2_with (go_at_call 28; refine (KN.out _ (by go_grown)).mono ?_; rintro e w' ⟨rfl, rfl⟩)
  go_returns
  exact ⟨rfl, by go_grown⟩
theorem from_gen (p : Option Addr) (row col : ByteArray) (w : World) :
    Calls Try.prog 23 #[.pointer p, .string row, .string col] w fun e w' => e = .returned (.func (.func 36) #[] #[.pointer (some ⟨w.heap.size, 0, none⟩), .pointer (some ⟨w.heap.size + 1, 0, none⟩), .pointer (some ⟨w.heap.size + 2, 0, none⟩)]) ∧
      Below w.heap.size w w' ∧ w'.heap.size = w.heap.size + 3 ∧ w'.cell? ⟨w.heap.size, 0, none⟩ = some (.pointer p) ∧ w'.cell? ⟨w.heap.size + 1, 0, none⟩ = some (.string row) ∧ w'.cell? ⟨w.heap.size + 2, 0, none⟩ = some (.string col) := by
  go_enter Try.func23, Try.ntmps23
  go_wp2
  go_ret
  exact ⟨rfl, by go_grown, by simp, by go_simp, by go_simp, by go_simp⟩
theorem all_gen (p : Option Addr) (w : World) :
    Calls Try.prog 11 #[.pointer p] w fun e w' => e = .returned (.func (.func 27) #[] #[.pointer (some ⟨w.heap.size, 0, none⟩)]) ∧
      Below w.heap.size w w' ∧ w'.heap.size = w.heap.size + 1 ∧ w'.cell? ⟨w.heap.size, 0, none⟩ = some (.pointer p) := by
  go_enter Try.func11, Try.ntmps11
  go_wp2
  go_ret
  exact ⟨rfl, by go_grown, by simp, by go_simp⟩
/-- nothing is told of a list that is none -/
theorem from1_none {encs : CellA → Array Value} (Kp : World → World → Prop) (n : Nat) (bL bR bC : Nat) (v : Value) (w : World) (hv : NoneL v w) (hbL : w.cell? ⟨bL, 0, none⟩ = some v) :
    SeqN (α := CellA) n Try.prog 36 #[.pointer (some ⟨bL, 0, none⟩), .pointer (some ⟨bR, 0, none⟩), .pointer (some ⟨bC, 0, none⟩)] encs Kp (fun xs => xs = []) (fun _ => False) 0 w := by
  intro l J Jx W hW hJ hJx hY h0
  have c1 := (hW.cell (p := ⟨bL, 0, none⟩) (World.block_lt_of_cell? _ _ hbL)).trans hbL
  have KN := Lib.hid fun V (hV : Below w.heap.size w V) => none_yes v V (hv.below hV)
  have HW := Lib.hid hW
  have H0 := Lib.hid h0
  clear hW hJ hJx hY h0 hbL hv
  refine callsIn_of_wp (F := Fence.wide) Try.func36 rfl trivial ?_ rfl
  refine wpIn_wide.2 ?_
  simp only [Try.ntmps36, List.size_toArray, List.length_cons, List.length_nil, Nat.reduceAdd, Nat.reduceSub, Array.replicate_succ, Array.replicate_zero, List.push_toArray, List.append_toArray, List.nil_append, List.cons_append]
  go_wp2_with fail
  refine (KN.out _ HW.out).mono ?_
  rintro e w0 ⟨rfl, rfl⟩
  go_wp2
  refine bodyPost_ret (results_none rfl _ _ _) rfl ?_
  exact ⟨⟨_, rfl⟩, .inl ⟨[], rfl, H0.out⟩⟩
set_option maxRecDepth 100000 in
set_option maxHeartbeats 2000000 in
theorem all1_none {encs : CellA → Array Value} (henc : ∀ x, (encs x).size = 1) (Kp : World → World → Prop) (n : Nat) (hn : 2 ≤ n) (bA : Nat) (p : Option Addr) (w : World) (hv : NoneL (.pointer p) w) (hbA : w.cell? ⟨bA, 0, none⟩ = some (.pointer p)) :
    SeqN (α := CellA) n Try.prog 27 #[.pointer (some ⟨bA, 0, none⟩)] encs Kp (fun xs => xs = []) (fun _ => False) 0 w := by
  intro l J Jx W hW hJ hJx hY h0
  have c1 := (hW.cell (p := ⟨bA, 0, none⟩) (World.block_lt_of_cell? _ _ hbA)).trans hbA
  have hbl := World.block_lt_of_cell? _ _ c1
  simp only at hbl
  have HV := Lib.hid fun V (hV : Below w.heap.size w V) => hv.below hV
  have HW := Lib.hid hW
  have hWz := hW.size
  have HJ := Lib.hid hJ
  have H0 := Lib.hid h0
  have KF := Lib.hid fun (V : World) => from_gen p ⟨#[]⟩ ⟨#[]⟩ V
  clear hW hJ hJx hY h0 hbA hv
  refine callsIn_of_wp_marks (F := Fence.wide) (n := n) Try.func27 rfl trivial ?_ rfl
  refine wpIn_wide.2 ?_
  simp only [Try.ntmps27, List.size_toArray, List.length_cons, List.length_nil, Nat.reduceAdd, Nat.reduceSub, Array.replicate_succ, Array.replicate_zero, List.push_toArray, List.append_toArray, List.nil_append, List.cons_append]
  go_wp2_with fail
  refine (KF.out _).mono ?_
  rintro e w1 ⟨rfl, hb, hz, k0, k1, k2⟩
  simp only [World.size_alloc] at hz k0 k1 k2
  go_wp2
  have hbW : Below W.heap.size W w1 := ((Below.refl _ _).alloc (Nat.le_refl _) _).trans (hb.mono (by simp))
  have hJ1 : OwnFrom w1.heap.size J := fun s A B row hs hg hr => HJ.out s A B row hs hg (fun r e => ⟨by have := (hr r e).1; omega, (hr r e).2⟩)
  refine (wpIn_wide (n := n)).1 ?_
  refine range_round (n := n) (by omega) (gf := 36) (lb := #[.pointer (some ⟨W.heap.size + 1, 0, none⟩), .pointer (some ⟨W.heap.size + 1 + 1, 0, none⟩), .pointer (some ⟨W.heap.size + 1 + 2, 0, none⟩)]) rfl (enters_of Try.func36 (by kernel_rfl) rfl)
    (from1_none (encs := encs) (fun _ _ => True) (n - 1) _ _ _ (.pointer p) w1 (HV.out _ (HW.out.trans (hbW.mono hWz))) k0)
    (fun _ _ => trivial) (fun _ _ _ _ _ => trivial) henc (fun pre V => J pre V) (fun _ _ _ => False) hJ1 (fun _ _ _ _ _ h _ _ => h) (HJ.out _ _ _ none H0.out (grown_none hbW) (fun r e => by cases e)) ?hround ?done ?stop
  case hround => intro l2 pre x V _ _ h; exact absurd h (Nat.not_lt_zero _)
  case done =>
    rintro D xs V hD rfl h1 hK
    go_wp2
    exact postM_end1 rfl hK (results_none rfl _ _ _) ⟨⟨_, rfl⟩, .inl ⟨[], rfl, hJ1.putObj _ h1 (by omega) hK rfl⟩⟩
  case stop => rintro D c pre V hD hp _ _; exact hp.elim
end Go.Proofs.Ytlnfdejflpgleaa
