/-
  Entries of a log: a command's twenty cells, an entry's twenty-four; commands compared.
-/
import Derived.Test.YteibnignjghedaaMetaCW
import Derived.Deep.MidRow
import Derived.Deep.DeepCutAuto
import Derived.Deep.WholeRow
namespace Go.Proofs.Yteibnignjghedaa
open Go.RowKit

/-- a command -/
structure CmdA where
  kind : Int
  client : Int
  seq : Int
  epoch : Int
  ok : Int
  orow : ByteArray
  ocol : ByteArray
  oval : ByteArray
  ohas : Bool
  oexp : ByteArray
  proc : Int
  step : Int
  key : ByteArray
  val : ByteArray
  group : Int
  wmove : Bool
  wgroup : Int
  wkey : ByteArray
  win : Int
  wout : Int
def CmdA.l (c : CmdA) : List Value := [.int .i64 c.kind, .int .i64 c.client, .int .u64 c.seq, .int .u64 c.epoch, .int .i64 c.ok, .string c.orow, .string c.ocol, .string c.oval, .bool c.ohas, .string c.oexp, .int .u64 c.proc, .int .i64 c.step, .string c.key, .string c.val, .int .i64 c.group, .bool c.wmove, .int .i64 c.wgroup, .string c.wkey, .int .i64 c.win, .int .i64 c.wout]
def CmdA.v (c : CmdA) : Value := .agg c.l.toArray
theorem strB (a b : ByteArray) : (a.toList == b.toList) = decide (a = b) := by
  by_cases h : a = b
  · subst h; simp
  · have : ¬ a.toList = b.toList := fun e => h (by
      have e2 := congrArg ofB e
      rwa [ofB_toList, ofB_toList] at e2)
    simp [h, this]
theorem strI (a b : ByteArray) : a.toList = b.toList ↔ a = b := ⟨fun e => by
  have e2 := congrArg ofB e
  rwa [ofB_toList, ofB_toList] at e2, fun e => by rw [e]⟩
set_option maxRecDepth 100000 in
set_option maxHeartbeats 4000000 in
theorem cmd_eq (a b : CmdA) (w : World) : (binOp .eql 58 a.v b.v).run Try.prog w = .ok (.bool (open Classical in decide (a = b))) w := by
  obtain ⟨a0, a1, a2, a3, a4, a5, a6, a7, a8, a9, a10, a11, a12, a13, a14, a15, a16, a17, a18, a19⟩ := a
  obtain ⟨b0, b1, b2, b3, b4, b5, b6, b7, b8, b9, b10, b11, b12, b13, b14, b15, b16, b17, b18, b19⟩ := b
  simp only [CmdA.v, CmdA.l]
  go_simp
  simp only [strI]
  by_cases h : a0 = b0
  case neg => simp only [if_neg h, decide_eq_false h, Bool.false_and]
  subst h
  simp only [if_true, decide_true, Bool.true_and]
  by_cases h : a1 = b1
  case neg => simp only [if_neg h, decide_eq_false h, Bool.false_and]
  subst h
  simp only [if_true, decide_true, Bool.true_and]
  by_cases h : a2 = b2
  case neg => simp only [if_neg h, decide_eq_false h, Bool.false_and]
  subst h
  simp only [if_true, decide_true, Bool.true_and]
  by_cases h : a3 = b3
  case neg => simp only [if_neg h, decide_eq_false h, Bool.false_and]
  subst h
  simp only [if_true, decide_true, Bool.true_and]
  by_cases h : a4 = b4
  case neg => simp only [if_neg h, decide_eq_false h, Bool.false_and]
  subst h
  simp only [if_true, decide_true, Bool.true_and]
  by_cases h : a5 = b5
  case neg => simp only [if_neg h, decide_eq_false h, Bool.false_and]
  subst h
  simp only [if_true, decide_true, Bool.true_and]
  by_cases h : a6 = b6
  case neg => simp only [if_neg h, decide_eq_false h, Bool.false_and]
  subst h
  simp only [if_true, decide_true, Bool.true_and]
  by_cases h : a7 = b7
  case neg => simp only [if_neg h, decide_eq_false h, Bool.false_and]
  subst h
  simp only [if_true, decide_true, Bool.true_and]
  by_cases h : a8 = b8
  case neg => simp only [if_neg h, decide_eq_false h, Bool.false_and]
  subst h
  simp only [if_true, decide_true, Bool.true_and]
  by_cases h : a9 = b9
  case neg => simp only [if_neg h, decide_eq_false h, Bool.false_and]
  subst h
  simp only [if_true, decide_true, Bool.true_and]
  by_cases h : a10 = b10
  case neg => simp only [if_neg h, decide_eq_false h, Bool.false_and]
  subst h
  simp only [if_true, decide_true, Bool.true_and]
  by_cases h : a11 = b11
  case neg => simp only [if_neg h, decide_eq_false h, Bool.false_and]
  subst h
  simp only [if_true, decide_true, Bool.true_and]
  by_cases h : a12 = b12
  case neg => simp only [if_neg h, decide_eq_false h, Bool.false_and]
  subst h
  simp only [if_true, decide_true, Bool.true_and]
  by_cases h : a13 = b13
  case neg => simp only [if_neg h, decide_eq_false h, Bool.false_and]
  subst h
  simp only [if_true, decide_true, Bool.true_and]
  by_cases h : a14 = b14
  case neg => simp only [if_neg h, decide_eq_false h, Bool.false_and]
  subst h
  simp only [if_true, decide_true, Bool.true_and]
  by_cases h : a15 = b15
  case neg => simp only [if_neg h, decide_eq_false h, Bool.false_and]
  subst h
  simp only [if_true, decide_true, Bool.true_and]
  by_cases h : a16 = b16
  case neg => simp only [if_neg h, decide_eq_false h, Bool.false_and]
  subst h
  simp only [if_true, decide_true, Bool.true_and]
  by_cases h : a17 = b17
  case neg => simp only [if_neg h, decide_eq_false h, Bool.false_and]
  subst h
  simp only [if_true, decide_true, Bool.true_and]
  by_cases h : a18 = b18
  case neg => simp only [if_neg h, decide_eq_false h, Bool.false_and]
  subst h
  simp only [if_true, decide_true, Bool.true_and]
  by_cases h : a19 = b19
  case neg => simp only [if_neg h, decide_eq_false h, Bool.false_and]
  subst h
  simp only [if_true, decide_true, Bool.true_and]
/-- an entry: its members in a slice -/
structure EntA where
  idx : Int
  term : Int
  kind : Int
  cmd : CmdA
  ma : Option Addr
  mn : Nat
  mc : Nat
  mem : List Int
def EntA.l (e : EntA) : List Value := .int .u64 e.idx :: .int .u64 e.term :: .int .i64 e.kind :: (e.cmd.l ++ [.slice e.ma e.mn e.mc])
def EntA.v (e : EntA) : Value := .agg e.l.toArray
theorem EntA.len (e : EntA) : e.l.length = 24 := rfl
/-- what an entry says: all but where its members lie -/
def EntA.says (e : EntA) : Int × Int × Int × CmdA × List Int := (e.idx, e.term, e.kind, e.cmd, e.mem)
noncomputable def sameE (a b : EntA) : Bool := open Classical in decide (a.says = b.says)
structure EntA.Ok (e : EntA) : Prop where
  i0 : 0 ≤ e.idx
  i1 : e.idx ≤ 18446744073709551615
  t0 : 0 ≤ e.term
  t1 : e.term ≤ 18446744073709551615
/-- an entry's members, where they lie -/
def EntA.In (e : EntA) (w : World) : Prop := Ints w e.ma e.mn e.mc e.mem
theorem EntA.In.below {e : EntA} {w w' : World} (h : e.In w) (hb : Below w.heap.size w w') : e.In w' := Ints.below h hb

/-- an entry lies in memory -/
def EntAt (w : World) (b o : Nat) (e : EntA) : Prop := w.rangeAt b o e.l
section
variable {w w' : World} {b o : Nat} {e : EntA}
theorem EntAt.idx (h : EntAt w b o e) : w.cell? ⟨b, o, none⟩ = some (.int .u64 e.idx) := h 0 _ rfl
theorem EntAt.term (h : EntAt w b o e) : w.cell? ⟨b, o + 1, none⟩ = some (.int .u64 e.term) := h 1 _ rfl
theorem EntAt.kind (h : EntAt w b o e) : w.cell? ⟨b, o + 2, none⟩ = some (.int .i64 e.kind) := h 2 _ rfl
theorem EntAt.mem (h : EntAt w b o e) : w.cell? ⟨b, o + 23, none⟩ = some (.slice e.ma e.mn e.mc) := h 23 _ rfl
theorem EntAt.lt (h : EntAt w b o e) : b < w.heap.size := World.block_lt_of_cell? _ _ h.idx
theorem EntAt.cmd (h : EntAt w b o e) : w.rangeAt b (o + 3) e.cmd.l := fun j v hv => by
  have hj : j < 20 := (List.getElem?_eq_some_iff.1 hv).1
  have := h (3 + j) v (by
    rw [EntA.l, show 3 + j = j + 1 + 1 + 1 by omega, List.getElem?_cons_succ, List.getElem?_cons_succ, List.getElem?_cons_succ, List.getElem?_append_left hj]
    exact hv)
  rw [← Nat.add_assoc] at this
  exact this
theorem EntAt.same (h : EntAt w b o e) (hs : w'.heap[b]? = w.heap[b]?) : EntAt w' b o e := fun j v hv => (World.cell?_of_block (a := ⟨b, o + j, none⟩) hs).trans (h j v hv)
theorem EntAt.below (h : EntAt w b o e) (hb : Below w.heap.size w w') : EntAt w' b o e := h.same (hb.block b h.lt)
theorem EntAt.new (w : World) (e : EntA) (T : TypeId) : EntAt (w.alloc (.cells e.l.toArray T)) w.heap.size 0 e := fun j v hv => by
  rw [Nat.zero_add, World.cell?_alloc_new]
  simpa using hv
theorem EntAt.load (h : EntAt w b o e) : (Instr.loadAt 60 (.pointer (some ⟨b, o, none⟩))).run Try.prog w = .ok (.agg e.l.toArray) w :=
  run_loadAt_mid w b o 60 e.l _ h Try.underlying60 rfl (by kernel_rfl)
theorem cmd_load {c : CmdA} (h : w.rangeAt b o c.l) : (Instr.loadAt 58 (.pointer (some ⟨b, o, none⟩))).run Try.prog w = .ok (.agg c.l.toArray) w :=
  run_loadAt_mid w b o 58 c.l _ h Try.underlying58 rfl (by kernel_rfl)
end
/-- A load whose run is known, guarded or not: an arm of a walk. -/
theorem wpList_loadK {P : Program} {w : World} {ops : Array Oper} {rest : List Oper} {o : Oper} {a : Act} {Q : Exit → Act → World → Prop} {ty : TypeId} {x : Operand} {p v : Value} (hop : o.op = .load ty x) (hw : Region.wanted o (yielded ops a.tmps) = true)
    (hx : a.eval x = p) (hr : (Instr.loadAt ty p).run P w = .ok v w) (h : wpList P ops Q rest (a.put o.dst v) w) : wpList P ops Q (o :: rest) a w := by
  refine wpList_step fun K hK => ?_
  rw [if_pos hw]
  subst hx
  unfold Oper.wp execOp
  simp only [hop, Sem.run_bind, hr, Result.andThen_ok, Sem.run_pure]
  exact hK _ _ h
end Go.Proofs.Yteibnignjghedaa

/-
  Lists of numbers, entries: the walks of slices.Equal, acreageref16.SameInts, ops.Same, acreageref16.Same.
-/
namespace Go.Proofs.Yteibnignjghedaa
open Go.RowKit

set_option maxRecDepth 100000 in
set_option maxHeartbeats 4000000 in
theorem eqints_any (ao ao2 : Option Addr) (n cap n2 cap2 : Nat) (l l2 : List Int) (w : World) (h : Ints w ao n cap l) (h2 : Ints w ao2 n2 cap2 l2) :
    Calls Try.prog 62 #[.slice ao n cap, .slice ao2 n2 cap2] w fun e w' => e = .returned (.bool (decide (l = l2))) ∧ Below w.heap.size w w' := by
  have hc1 := Arr.fits h
  have hc2 := Arr.max h
  have hc3 := Arr.fits h2
  have hc4 := Arr.max h2
  unfold maxLen at hc2 hc4
  have Hl := Lib.hid h.len
  have Hl2 := Lib.hid h2.len
  have H := Lib.hid h
  have H2 := Lib.hid h2
  obtain ⟨R, hR⟩ : ∃ R, R = decide (l = l2) := ⟨_, rfl⟩
  rw [← hR]
  have HR := Lib.hid hR
  clear h h2 hR
  by_cases hne : n = n2
  · subst hne
    have t1 : ((n : Int) == (n : Int)) = true := by simp
    go_enter Try.func62, Try.ntmps62
    go_wp2
    go_loopw [13] (fun i wr => ∃ k : Nat, k ≤ n ∧ i = .int .i64 k ∧ Hid (l.take k = l2.take k) ∧ Below w.heap.size w wr) (fun i _ => n - (intOf i).toNat)
    case atStart => exact ⟨0, by omega, rfl, Lib.hid rfl, Below.refl _ _⟩
    case round =>
      obtain ⟨k, hk, rfl, hT, hB0⟩ := hrel
      have hzr := hB0.size
      by_cases hlt : k < n
      · obtain ⟨x, hx⟩ : ∃ x, l[k]? = some x := ⟨_, List.getElem?_eq_getElem (by rw [Hl.out]; omega)⟩
        obtain ⟨y, hy⟩ : ∃ y, l2[k]? = some y := ⟨_, List.getElem?_eq_getElem (by rw [Hl2.out]; omega)⟩
        obtain ⟨b, off, e0, hb, x0⟩ := (H.out.below hB0).at_ hx
        cases e0
        obtain ⟨b2, off2, e0, hb2, y0⟩ := (H2.out.below hB0).at_ hy
        cases e0
        have Hx := Lib.hid hx
        have Hy := Lib.hid hy
        clear hx hy
        go_wp2
        refine wp_region_below (by kernel_rfl) (by kernel_rfl) (fun hkept => ?_)
        obtain ⟨r0, rf0⟩ := hkept (b) (by go_size); obtain ⟨r1, rf1⟩ := hkept (b2) (by go_size); clear hkept
        repeat (any_goals (first | go_big_quiet_step (fail) | quiet_step (fail) | (refine wpQuiet_step (fun K hK => ?_); go_simp; split <;> (refine hK _ ?_; clear hK K))))
        all_goals (refine wpQuiet_nil ?_; intro w5 hb; obtain ⟨hB, hS, hk⟩ := after (B := wr.heap.size) (w := wr) (by go_grown) (by go_size) hb; obtain ⟨c0, f0, z0⟩ := hk (b) (by go_size); obtain ⟨c1, f1, z1⟩ := hk (b2) (by go_size); clear hk hb r0 rf0 r1 rf1)
        by_cases hxy : x = y
        · subst hxy
          have hT2 : Hid (l.take (k + 1) = l2.take (k + 1)) := Lib.hid (by rw [List.take_add_one, List.take_add_one, hT.out, Hx.out, Hy.out])
          go_wp2
          exact ⟨⟨k + 1, by omega, by go_num, hT2, hB0.trans (hB.mono hzr)⟩, by simp [intOf]; omega⟩
        · have hRf : Hid (R = false) := Lib.hid (by
            rw [HR.out, decide_eq_false_iff_not]
            intro e
            have := Hx.out
            rw [e, Hy.out] at this
            exact hxy (Option.some.inj this).symm)
          have hxy1 : (x == y) = false := by simpa using hxy
          go_wp2
          go_returns
          exact ⟨by rw [hRf.out]; rfl, hB0.trans (hB.mono hzr)⟩
      · obtain rfl : k = n := by omega
        have hRt : Hid (R = true) := Lib.hid (by
          have := hT.out
          rw [List.take_of_length_le (by rw [Hl.out]; exact Nat.le_refl _), List.take_of_length_le (by rw [Hl2.out]; exact Nat.le_refl _)] at this
          rw [HR.out, this]; simp)
        go_wp2
        go_returns
        exact ⟨by rw [hRt.out]; rfl, hB0⟩
  · have t1 : ((n : Int) == (n2 : Int)) = false := by rw [beq_eq_false_iff_ne]; omega
    have hRf : Hid (R = false) := Lib.hid (by
      rw [HR.out, decide_eq_false_iff_not]
      intro e
      have h1 := Hl.out
      rw [e, Hl2.out] at h1
      exact hne h1.symm)
    go_enter Try.func62, Try.ntmps62
    go_wp2
    go_returns
    exact ⟨by rw [hRf.out]; rfl, by go_grown⟩
set_option maxRecDepth 100000 in
set_option maxHeartbeats 4000000 in
theorem reqints_any (ao ao2 : Option Addr) (n cap n2 cap2 : Nat) (l l2 : List Int) (w : World) (h : Ints w ao n cap l) (h2 : Ints w ao2 n2 cap2 l2) :
    Calls Try.prog 58 #[.slice ao n cap, .slice ao2 n2 cap2] w fun e w' => e = .returned (.bool (decide (l = l2))) ∧ Below w.heap.size w w' := by
  have hc1 := Arr.fits h
  have hc2 := Arr.max h
  have hc3 := Arr.fits h2
  have hc4 := Arr.max h2
  unfold maxLen at hc2 hc4
  have Hl := Lib.hid h.len
  have Hl2 := Lib.hid h2.len
  have H := Lib.hid h
  have H2 := Lib.hid h2
  obtain ⟨R, hR⟩ : ∃ R, R = decide (l = l2) := ⟨_, rfl⟩
  rw [← hR]
  have HR := Lib.hid hR
  clear h h2 hR
  by_cases hne : n = n2
  · subst hne
    have t1 : ((n : Int) == (n : Int)) = true := by simp
    go_enter Try.func58, Try.ntmps58
    go_wp2
    go_loopw [5] (fun i wr => ∃ k : Nat, k ≤ n ∧ i = .int .i64 k ∧ Hid (l.take k = l2.take k) ∧ Below w.heap.size w wr) (fun i _ => n - (intOf i).toNat)
    case atStart => exact ⟨0, by omega, rfl, Lib.hid rfl, Below.refl _ _⟩
    case round =>
      obtain ⟨k, hk, rfl, hT, hB0⟩ := hrel
      have hzr := hB0.size
      by_cases hlt : k < n
      · obtain ⟨x, hx⟩ : ∃ x, l[k]? = some x := ⟨_, List.getElem?_eq_getElem (by rw [Hl.out]; omega)⟩
        obtain ⟨y, hy⟩ : ∃ y, l2[k]? = some y := ⟨_, List.getElem?_eq_getElem (by rw [Hl2.out]; omega)⟩
        obtain ⟨b, off, e0, hb, x0⟩ := (H.out.below hB0).at_ hx
        cases e0
        obtain ⟨b2, off2, e0, hb2, y0⟩ := (H2.out.below hB0).at_ hy
        cases e0
        have Hx := Lib.hid hx
        have Hy := Lib.hid hy
        clear hx hy
        go_wp2
        refine wp_region_below (by kernel_rfl) (by kernel_rfl) (fun hkept => ?_)
        obtain ⟨r0, rf0⟩ := hkept (b) (by go_size); obtain ⟨r1, rf1⟩ := hkept (b2) (by go_size); clear hkept
        repeat (any_goals (first | go_big_quiet_step (fail) | quiet_step (fail) | (refine wpQuiet_step (fun K hK => ?_); go_simp; split <;> (refine hK _ ?_; clear hK K))))
        all_goals (refine wpQuiet_nil ?_; intro w5 hb; obtain ⟨hB, hS, hk⟩ := after (B := wr.heap.size) (w := wr) (by go_grown) (by go_size) hb; obtain ⟨c0, f0, z0⟩ := hk (b) (by go_size); obtain ⟨c1, f1, z1⟩ := hk (b2) (by go_size); clear hk hb r0 rf0 r1 rf1)
        by_cases hxy : x = y
        · subst hxy
          have hT2 : Hid (l.take (k + 1) = l2.take (k + 1)) := Lib.hid (by rw [List.take_add_one, List.take_add_one, hT.out, Hx.out, Hy.out])
          go_wp2
          exact ⟨⟨k + 1, by omega, by go_num, hT2, hB0.trans (hB.mono hzr)⟩, by simp [intOf]; omega⟩
        · have hRf : Hid (R = false) := Lib.hid (by
            rw [HR.out, decide_eq_false_iff_not]
            intro e
            have := Hx.out
            rw [e, Hy.out] at this
            exact hxy (Option.some.inj this).symm)
          have hxy1 : (x == y) = false := by simpa using hxy
          go_wp2
          go_returns
          exact ⟨by rw [hRf.out]; rfl, hB0.trans (hB.mono hzr)⟩
      · obtain rfl : k = n := by omega
        have hRt : Hid (R = true) := Lib.hid (by
          have := hT.out
          rw [List.take_of_length_le (by rw [Hl.out]; exact Nat.le_refl _), List.take_of_length_le (by rw [Hl2.out]; exact Nat.le_refl _)] at this
          rw [HR.out, this]; simp)
        go_wp2
        go_returns
        exact ⟨by rw [hRt.out]; rfl, hB0⟩
  · have t1 : ((n : Int) == (n2 : Int)) = false := by rw [beq_eq_false_iff_ne]; omega
    have hRf : Hid (R = false) := Lib.hid (by
      rw [HR.out, decide_eq_false_iff_not]
      intro e
      have h1 := Hl.out
      rw [e, Hl2.out] at h1
      exact hne h1.symm)
    go_enter Try.func58, Try.ntmps58
    go_wp2
    go_returns
    exact ⟨by rw [hRf.out]; rfl, by go_grown⟩

set_option maxRecDepth 100000 in
set_option maxHeartbeats 4000000 in
theorem ssame_any (a b : EntA) (w : World) (h : a.In w) (h2 : b.In w) :
    Calls Try.prog 40 #[a.v, b.v] w fun e w' => e = .returned (.bool (sameE a b)) ∧ Below w.heap.size w w' := by
  obtain ⟨R, hR⟩ : ∃ R, R = sameE a b := ⟨_, rfl⟩
  rw [← hR]
  have KI := Lib.hid fun (W : World) (hb : Below w.heap.size w W) => eqints_any a.ma b.ma a.mn a.mc b.mn b.mc a.mem b.mem W (h.below hb) (h2.below hb)
  have KC := fun W => cmd_eq a.cmd b.cmd W
  obtain ⟨C, hC⟩ : ∃ C : Bool, C = (open Classical in decide (a.cmd = b.cmd)) := ⟨_, rfl⟩
  obtain ⟨M, hM⟩ : ∃ M : Bool, M = decide (a.mem = b.mem) := ⟨_, rfl⟩
  have HR : Hid (R = (decide (a.idx = b.idx) && decide (a.term = b.term) && decide (a.kind = b.kind) && C && M)) := Lib.hid (by
    rw [hR, hC, hM, sameE, Bool.eq_iff_iff]
    simp only [Bool.and_eq_true, decide_eq_true_eq]
    simp only [EntA.says, Prod.mk.injEq, and_assoc])
  rw [← hC] at KC
  rw [← hM] at KI
  clear hR hC hM h h2
  simp only [EntA.v]
  go_enter Try.func40, Try.ntmps40
  go_upto_region 1 with fail
  obtain ⟨W, hW⟩ : ∃ W : World, W = (w.alloc (.cells a.l.toArray 60)).alloc (.cells b.l.toArray 60) := ⟨_, rfl⟩
  have hA : EntAt W w.heap.size 0 a := by rw [hW]; exact (EntAt.new w a _).below ((Below.refl _ _).alloc (Nat.le_refl _) _)
  have hB : EntAt W (w.heap.size + 1) 0 b := by
    have := EntAt.new (w.alloc (.cells a.l.toArray 60)) b 60
    rw [World.size_alloc] at this
    rw [hW]; exact this
  have hbW : Below w.heap.size w W := by rw [hW]; exact ((Below.refl _ _).alloc (Nat.le_refl _) _).alloc (by simp) _
  have hzW : W.heap.size = w.heap.size + 1 + 1 := by rw [hW]; simp
  rw [← hW]
  clear hW
  have x0 := hA.idx
  have x1 := hA.term
  have x2 := hA.kind
  have x3 := cmd_load hA.cmd
  have x4 := hA.mem
  have y0 := hB.idx
  have y1 := hB.term
  have y2 := hB.kind
  have y3 := cmd_load hB.cmd
  have y4 := hB.mem
  simp only [Nat.zero_add] at x0 x1 x2 x3 x4 y0 y1 y2 y3 y4
  have HC := Lib.hid KC
  have L3 := Lib.hid x3
  have M3 := Lib.hid y3
  clear KC hA hB x3 y3
  obtain ⟨i1, j1, k1, c1, p1, q1, r1, s1⟩ := a
  obtain ⟨i2, j2, k2, c2, p2, q2, r2, s2⟩ := b
  simp only at x0 x1 x2 L3 x4 y0 y1 y2 M3 y4 KI HC HR
  by_cases e1 : i1 = i2
  · subst e1
    by_cases e2 : j1 = j2
    · subst e2
      by_cases e3 : k1 = k2
      · subst e3
        have hR1 : Hid (R = (C && M)) := Lib.hid (by rw [HR.out]; simp)
        have KC := HC.out
        simp only [CmdA.v] at KC
        clear HR
        cases C
        · go_wp2_with (first | (refine wpList_loadK rfl (by rfl) rfl (by first | exact L3.out | exact M3.out) ?_; simp only [Act.put, List.setIfInBounds_toArray, List.set_cons_succ, List.set_cons_zero]) | (go_at_call 62; refine (KI.out _ (by go_grown)).mono ?_; rintro e w1 ⟨rfl, hb⟩; obtain ⟨hB, hS, hk⟩ := after (B := w.heap.size) (w := w) (by go_grown) (by go_size) hb; clear hb; obtain ⟨c0, f0, z0⟩ := hk (w.heap.size) (by go_size); obtain ⟨c1, f1, z1⟩ := hk (w.heap.size + 1) (by go_size); clear hk))
          go_returns
          exact ⟨by rw [hR1.out]; rfl, by go_grown⟩
        · go_wp2_with (first | (refine wpList_loadK rfl (by rfl) rfl (by first | exact L3.out | exact M3.out) ?_; simp only [Act.put, List.setIfInBounds_toArray, List.set_cons_succ, List.set_cons_zero]) | (go_at_call 62; refine (KI.out _ (by go_grown)).mono ?_; rintro e w1 ⟨rfl, hb⟩))
          go_returns
          exact ⟨by rw [hR1.out]; rfl, hbW.trans (hb.mono (by omega))⟩
      · have hR1 : Hid (R = false) := Lib.hid (by rw [HR.out]; simp [e3])
        have t1 : (k1 == k2) = false := by simpa using e3
        go_wp2_with fail
        go_returns
        exact ⟨by rw [hR1.out]; rfl, by go_grown⟩
    · have hR1 : Hid (R = false) := Lib.hid (by rw [HR.out]; simp [e2])
      have t1 : (j1 == j2) = false := by simpa using e2
      go_wp2_with fail
      go_returns
      exact ⟨by rw [hR1.out]; rfl, by go_grown⟩
  · have hR1 : Hid (R = false) := Lib.hid (by rw [HR.out]; simp [e1])
    have t1 : (i1 == i2) = false := by simpa using e1
    go_wp2_with fail
    go_returns
    exact ⟨by rw [hR1.out]; rfl, by go_grown⟩
set_option maxRecDepth 100000 in
set_option maxHeartbeats 4000000 in
theorem rssame_any (a b : EntA) (w : World) (h : a.In w) (h2 : b.In w) :
    Calls Try.prog 66 #[a.v, b.v] w fun e w' => e = .returned (.bool (sameE a b)) ∧ Below w.heap.size w w' := by
  obtain ⟨R, hR⟩ : ∃ R, R = sameE a b := ⟨_, rfl⟩
  rw [← hR]
  have KI := Lib.hid fun (W : World) (hb : Below w.heap.size w W) => reqints_any a.ma b.ma a.mn a.mc b.mn b.mc a.mem b.mem W (h.below hb) (h2.below hb)
  have KC := fun W => cmd_eq a.cmd b.cmd W
  obtain ⟨C, hC⟩ : ∃ C : Bool, C = (open Classical in decide (a.cmd = b.cmd)) := ⟨_, rfl⟩
  obtain ⟨M, hM⟩ : ∃ M : Bool, M = decide (a.mem = b.mem) := ⟨_, rfl⟩
  have HR : Hid (R = (decide (a.idx = b.idx) && decide (a.term = b.term) && decide (a.kind = b.kind) && C && M)) := Lib.hid (by
    rw [hR, hC, hM, sameE, Bool.eq_iff_iff]
    simp only [Bool.and_eq_true, decide_eq_true_eq]
    simp only [EntA.says, Prod.mk.injEq, and_assoc])
  rw [← hC] at KC
  rw [← hM] at KI
  clear hR hC hM h h2
  simp only [EntA.v]
  go_enter Try.func66, Try.ntmps66
  go_upto_region 1 with fail
  obtain ⟨W, hW⟩ : ∃ W : World, W = (w.alloc (.cells a.l.toArray 60)).alloc (.cells b.l.toArray 60) := ⟨_, rfl⟩
  have hA : EntAt W w.heap.size 0 a := by rw [hW]; exact (EntAt.new w a _).below ((Below.refl _ _).alloc (Nat.le_refl _) _)
  have hB : EntAt W (w.heap.size + 1) 0 b := by
    have := EntAt.new (w.alloc (.cells a.l.toArray 60)) b 60
    rw [World.size_alloc] at this
    rw [hW]; exact this
  have hbW : Below w.heap.size w W := by rw [hW]; exact ((Below.refl _ _).alloc (Nat.le_refl _) _).alloc (by simp) _
  have hzW : W.heap.size = w.heap.size + 1 + 1 := by rw [hW]; simp
  rw [← hW]
  clear hW
  have x0 := hA.idx
  have x1 := hA.term
  have x2 := hA.kind
  have x3 := cmd_load hA.cmd
  have x4 := hA.mem
  have y0 := hB.idx
  have y1 := hB.term
  have y2 := hB.kind
  have y3 := cmd_load hB.cmd
  have y4 := hB.mem
  simp only [Nat.zero_add] at x0 x1 x2 x3 x4 y0 y1 y2 y3 y4
  have HC := Lib.hid KC
  have L3 := Lib.hid x3
  have M3 := Lib.hid y3
  clear KC hA hB x3 y3
  obtain ⟨i1, j1, k1, c1, p1, q1, r1, s1⟩ := a
  obtain ⟨i2, j2, k2, c2, p2, q2, r2, s2⟩ := b
  simp only at x0 x1 x2 L3 x4 y0 y1 y2 M3 y4 KI HC HR
  by_cases e1 : i1 = i2
  · subst e1
    by_cases e2 : j1 = j2
    · subst e2
      by_cases e3 : k1 = k2
      · subst e3
        have hR1 : Hid (R = (C && M)) := Lib.hid (by rw [HR.out]; simp)
        have KC := HC.out
        simp only [CmdA.v] at KC
        clear HR
        cases C
        · go_wp2_with (first | (refine wpList_loadK rfl (by rfl) rfl (by first | exact L3.out | exact M3.out) ?_; simp only [Act.put, List.setIfInBounds_toArray, List.set_cons_succ, List.set_cons_zero]) | (go_at_call 58; refine (KI.out _ (by go_grown)).mono ?_; rintro e w1 ⟨rfl, hb⟩; obtain ⟨hB, hS, hk⟩ := after (B := w.heap.size) (w := w) (by go_grown) (by go_size) hb; clear hb; obtain ⟨c0, f0, z0⟩ := hk (w.heap.size) (by go_size); obtain ⟨c1, f1, z1⟩ := hk (w.heap.size + 1) (by go_size); clear hk))
          go_returns
          exact ⟨by rw [hR1.out]; rfl, by go_grown⟩
        · go_wp2_with (first | (refine wpList_loadK rfl (by rfl) rfl (by first | exact L3.out | exact M3.out) ?_; simp only [Act.put, List.setIfInBounds_toArray, List.set_cons_succ, List.set_cons_zero]) | (go_at_call 58; refine (KI.out _ (by go_grown)).mono ?_; rintro e w1 ⟨rfl, hb⟩))
          go_returns
          exact ⟨by rw [hR1.out]; rfl, hbW.trans (hb.mono (by omega))⟩
      · have hR1 : Hid (R = false) := Lib.hid (by rw [HR.out]; simp [e3])
        have t1 : (k1 == k2) = false := by simpa using e3
        go_wp2_with fail
        go_returns
        exact ⟨by rw [hR1.out]; rfl, by go_grown⟩
    · have hR1 : Hid (R = false) := Lib.hid (by rw [HR.out]; simp [e2])
      have t1 : (j1 == j2) = false := by simpa using e2
      go_wp2_with fail
      go_returns
      exact ⟨by rw [hR1.out]; rfl, by go_grown⟩
  · have hR1 : Hid (R = false) := Lib.hid (by rw [HR.out]; simp [e1])
    have t1 : (i1 == i2) = false := by simpa using e1
    go_wp2_with fail
    go_returns
    exact ⟨by rw [hR1.out]; rfl, by go_grown⟩
end Go.Proofs.Yteibnignjghedaa

/-
  What a replica shows: nineteen cells; its entries; whether it may be.
-/
namespace Go.Proofs.Yteibnignjghedaa
open Go.RowKit

/-- A store of a whole value into a block that has just been laid: an arm of a walk. -/
theorem wpList_storeN {P : Program} {W : World} {ops : Array Oper} {rest : List Oper} {o : Oper} {a : Act} {Q : Exit → Act → World → Prop} {ty : TypeId} {x y : Operand} {b : Nat} {c c' : Array Value} (hg : o.guard = none) (hop : o.op = .store ty x y)
    (hx : a.eval x = .pointer (some ⟨b, 0, none⟩)) (hy : a.eval y = .agg c') (hb : b = W.heap.size) (hi : (P.info? ty).map (·.size) = some c'.size) (ho : c.size = c'.size) (h1 : c'.all (·.oneCell') = true)
    (h : wpList P ops Q rest (a.put o.dst undef) (W.alloc (.cells c' ty))) : wpList P ops Q (o :: rest) a (W.alloc (.cells c ty)) := by
  refine wpList_plain hg fun K hK => ?_
  subst hb
  unfold Oper.wp execOp
  simp only [hop, hx, hy, Sem.run_bind, run_storeAt_new W ty c c' hi ho h1, Result.andThen_ok, Sem.run_pure]
  exact hK _ _ h

theorem EntA.one (e : EntA) : ∀ u ∈ e.l, u.oneCell' = true := fun u hu => by
  simp only [EntA.l, CmdA.l, List.mem_cons, List.cons_append, List.nil_append, List.not_mem_nil, or_false] at hu
  rcases hu with rfl | rfl | rfl | rfl | rfl | rfl | rfl | rfl | rfl | rfl | rfl | rfl | rfl | rfl | rfl | rfl | rfl | rfl | rfl | rfl | rfl | rfl | rfl | rfl <;> rfl
theorem ent_elems (es : List EntA) : Elems 24 (es.map EntA.l) := fun l hl => by
  obtain ⟨e, _, rfl⟩ := List.mem_map.1 hl
  exact ⟨e.len, e.one⟩
theorem EntA.all (e : EntA) : e.l.toArray.all (·.oneCell') = true := all_oneCell_toArray e.one
/-- entries in a slice -/
structure Ents (w : World) (ao : Option Addr) (n cap : Nat) (es : List EntA) : Prop where
  arr : Arr w 24 ao n cap (es.map EntA.l)
  mem : ∀ e ∈ es, e.In w
section
variable {w w' : World} {ao : Option Addr} {n cap : Nat} {es : List EntA}
theorem Ents.len (h : Ents w ao n cap es) : es.length = n := by have := Arr.len h.arr; rwa [List.length_map] at this
theorem Ents.below (h : Ents w ao n cap es) (hb : Below w.heap.size w w') : Ents w' ao n cap es := ⟨h.arr.below hb, fun e he => (h.mem e he).below hb⟩
theorem Ents.at_ (h : Ents w ao n cap es) {i : Nat} {e : EntA} (he : es[i]? = some e) : ∃ b off, ao = some ⟨b, off, none⟩ ∧ b < w.heap.size ∧ EntAt w b (off + i * 24) e ∧ e.In w := by
  obtain ⟨b, off, e1, hb, hc⟩ := Arr.at_ h.arr (i := i) (e := e.l) (by rw [List.getElem?_map, he]; rfl)
  exact ⟨b, off, e1, hb, fun j v hv => hc j v hv, h.mem e (List.mem_of_getElem? he)⟩
end

/-- a place with its nodes in a slice -/
structure LocI where
  gr : Int
  lo : ByteArray
  hi : ByteArray
  ep : Int
  na : Option Addr
  nn : Nat
  nc : Nat
  nd : List Int
def LocI.l (c : LocI) : List Value := [.int .i64 c.gr, .string c.lo, .string c.hi, .int .u64 c.ep, .slice c.na c.nn c.nc]
/-- a procedure -/
structure ProcA where
  id : Int
  wmove : Bool
  wgroup : Int
  wkey : ByteArray
  win : Int
  wout : Int
  new : Int
  ep : Int
  step : Int
def ProcA.l (p : ProcA) : List Value := [.int .u64 p.id, .bool p.wmove, .int .i64 p.wgroup, .string p.wkey, .int .i64 p.win, .int .i64 p.wout, .int .i64 p.new, .int .u64 p.ep, .int .i64 p.step]
/-- what a replica shows -/
structure SeenA where
  node : Int
  group : Int
  up : Bool
  leads : Bool
  ht : Int
  hv : Int
  bidx : Int
  bterm : Int
  ba : Option Addr
  bn : Nat
  bc : Nat
  bm : List Int
  ea : Option Addr
  en : Nat
  ec : Nat
  es : List EntA
  com : Int
  app : Int
  lo : ByteArray
  hi : ByteArray
  ep : Int
  fr : Bool
  la : Option Addr
  ln : Nat
  lc : Nat
  locs : List LocI
  pa : Option Addr
  pn : Nat
  pc : Nat
  procs : List ProcA
  next : Int
def SeenA.l (s : SeenA) : List Value := [.int .i64 s.node, .int .i64 s.group, .bool s.up, .bool s.leads, .int .u64 s.ht, .int .i64 s.hv, .int .u64 s.bidx, .int .u64 s.bterm, .slice s.ba s.bn s.bc, .slice s.ea s.en s.ec, .int .u64 s.com, .int .u64 s.app, .string s.lo, .string s.hi, .int .u64 s.ep, .bool s.fr, .slice s.la s.ln s.lc, .slice s.pa s.pn s.pc, .int .i64 s.next]
def SeenA.v (s : SeenA) : Value := .agg s.l.toArray
structure SeenA.Ok (s : SeenA) : Prop where
  lo : s.lo.size ≤ maxLen
  hi : s.hi.size ≤ maxLen
  i0 : 0 ≤ s.bidx
  i1 : s.bidx ≤ 18446744073709551615
  t0 : 0 ≤ s.bterm
  t1 : s.bterm ≤ 18446744073709551615
  c0 : 0 ≤ s.com
  c1 : s.com ≤ 18446744073709551615
  a0 : 0 ≤ s.app
  es : ∀ e ∈ s.es, e.Ok
theorem loc_elems (ls : List LocI) : Elems 5 (ls.map LocI.l) := fun l hl => by
  obtain ⟨e, _, rfl⟩ := List.mem_map.1 hl
  exact ⟨rfl, fun u hu => by simp [LocI.l] at hu; rcases hu with rfl | rfl | rfl | rfl | rfl <;> rfl⟩
theorem proc_elems (ps : List ProcA) : Elems 9 (ps.map ProcA.l) := fun l hl => by
  obtain ⟨e, _, rfl⟩ := List.mem_map.1 hl
  exact ⟨rfl, fun u hu => by simp [ProcA.l] at hu; rcases hu with rfl | rfl | rfl | rfl | rfl | rfl | rfl | rfl | rfl <;> rfl⟩
/-- places in a slice -/
structure LocsI (w : World) (ao : Option Addr) (n cap : Nat) (ls : List LocI) : Prop where
  arr : Arr w 5 ao n cap (ls.map LocI.l)
  nd : ∀ c ∈ ls, Ints w c.na c.nn c.nc c.nd
theorem LocsI.below {w w' : World} {ao : Option Addr} {n cap : Nat} {ls : List LocI} (h : LocsI w ao n cap ls) (hb : Below w.heap.size w w') : LocsI w' ao n cap ls := ⟨h.arr.below hb, fun c hc => (h.nd c hc).below hb⟩
/-- where a replica's slices lie -/
structure SeenA.In (s : SeenA) (w : World) : Prop where
  bm : Ints w s.ba s.bn s.bc s.bm
  es : Ents w s.ea s.en s.ec s.es
  locs : LocsI w s.la s.ln s.lc s.locs
  procs : Arr w 9 s.pa s.pn s.pc (s.procs.map ProcA.l)
theorem SeenA.In.below {s : SeenA} {w w' : World} (h : s.In w) (hb : Below w.heap.size w w') : s.In w' := ⟨h.bm.below hb, h.es.below hb, h.locs.below hb, h.procs.below hb⟩
theorem SeenA.one (s : SeenA) : ∀ u ∈ s.l, u.oneCell' = true := fun u hu => by
  simp only [SeenA.l, List.mem_cons, List.not_mem_nil, or_false] at hu
  rcases hu with rfl | rfl | rfl | rfl | rfl | rfl | rfl | rfl | rfl | rfl | rfl | rfl | rfl | rfl | rfl | rfl | rfl | rfl | rfl <;> rfl
theorem SeenA.all (s : SeenA) : s.l.toArray.all (·.oneCell') = true := all_oneCell_toArray s.one
/-- a replica's cells lie in memory -/
def SeenAt (w : World) (b o : Nat) (s : SeenA) : Prop := w.rangeAt b o s.l
section
variable {w w' : World} {b o : Nat} {s : SeenA}
theorem SeenAt.at_ (h : SeenAt w b o s) (j : Nat) (v : Value) (hv : s.l[j]? = some v) : w.cell? ⟨b, o + j, none⟩ = some v := h j v hv
theorem SeenAt.lt (h : SeenAt w b o s) : b < w.heap.size := World.block_lt_of_cell? _ _ (h 0 _ rfl)
theorem SeenAt.same (h : SeenAt w b o s) (hs : w'.heap[b]? = w.heap[b]?) : SeenAt w' b o s := fun j v hv => (World.cell?_of_block (a := ⟨b, o + j, none⟩) hs).trans (h j v hv)
theorem SeenAt.below (h : SeenAt w b o s) (hb : Below w.heap.size w w') : SeenAt w' b o s := h.same (hb.block b h.lt)
theorem SeenAt.new (w : World) (s : SeenA) (T : TypeId) : SeenAt (w.alloc (.cells s.l.toArray T)) w.heap.size 0 s := fun j v hv => by
  rw [Nat.zero_add, World.cell?_alloc_new]
  simpa using hv
theorem SeenAt.load (h : SeenAt w b o s) : (Instr.loadAt 49 (.pointer (some ⟨b, o, none⟩))).run Try.prog w = .ok (.agg s.l.toArray) w :=
  run_loadAt_mid w b o 49 s.l _ h Try.underlying49 rfl (by kernel_rfl)
end

/-! ### may one be? -/
def stepL (i t : Int) (e : EntA) : Bool := decide (e.idx = i + 1) && decide (t ≤ e.term) && decide (1 ≤ e.term) && (!decide (e.kind = 2) || membersL e.mem)
def chainL : Int → Int → List EntA → Bool
  | _, _, [] => true
  | i, t, e :: r => stepL i t e && chainL e.idx e.term r
/-- the last entry's index (or the base's), and its term -/
def lastX (i : Int) (l : List EntA) : Int := match l.getLast? with | none => i | some e => e.idx
def lastT (t : Int) (l : List EntA) : Int := match l.getLast? with | none => t | some e => e.term
def zeroS (s : SeenA) : Bool := decide (s.bidx = 0) && decide (s.bterm = 0) && decide (s.bn = 0)
def baseS (s : SeenA) : Bool := zeroS s || (!decide (s.bidx = 0) && !decide (s.bterm = 0) && membersL s.bm)
def headS (s : SeenA) : Bool := decide (0 ≤ s.node) && decide (s.node < 5) && decide (0 ≤ s.group) && decide (s.group < 12)
def tailS (s : SeenA) : Bool := decide (s.bidx ≤ s.com) && decide (s.com ≤ lastX s.bidx s.es) && (decide (s.app = 0) || decide (s.group = 0) || mayL s.lo.toList s.hi.toList)
def mayS (s : SeenA) : Bool := headS s && baseS s && chainL s.bidx s.bterm s.es && tailS s
theorem lastX_snoc (i : Int) (l : List EntA) (e : EntA) : lastX i (l ++ [e]) = e.idx := by simp [lastX]
theorem lastT_snoc (t : Int) (l : List EntA) (e : EntA) : lastT t (l ++ [e]) = e.term := by simp [lastT]
theorem chain_snoc {i t : Int} {l : List EntA} {e : EntA} : chainL i t (l ++ [e]) = (chainL i t l && stepL (lastX i l) (lastT t l) e) := by
  induction l generalizing i t with
  | nil => simp [chainL, lastX, lastT]
  | cons a r ih =>
    have h1 : lastX i (a :: r) = lastX a.idx r := by
      unfold lastX
      cases r with
      | nil => rfl
      | cons b q => rw [List.getLast?_cons_cons]; cases h : (b :: q).getLast? <;> simp_all
    have h2 : lastT t (a :: r) = lastT a.term r := by
      unfold lastT
      cases r with
      | nil => rfl
      | cons b q => rw [List.getLast?_cons_cons]; cases h : (b :: q).getLast? <;> simp_all
    rw [List.cons_append, chainL, chainL, ih, h1, h2, Bool.and_assoc]
theorem chain_fail {i t : Int} {l : List EntA} {k : Nat} {e : EntA} (he : l[k]? = some e) (hs : stepL (lastX i (l.take k)) (lastT t (l.take k)) e = false) : chainL i t l = false := by
  have h1 : chainL i t (l.take (k + 1)) = false := by
    rw [List.take_add_one, he]
    show chainL i t (l.take k ++ [e]) = false
    rw [chain_snoc, hs, Bool.and_false]
  have key : ∀ (p q : List EntA) (i t : Int), chainL i t p = false → chainL i t (p ++ q) = false := by
    intro p q
    induction p with
    | nil => intro i t h; cases h
    | cons a r ih =>
      intro i t h
      rw [List.cons_append]
      simp only [chainL, Bool.and_eq_false_iff] at h ⊢
      exact h.imp id (ih _ _)
  have := key _ (l.drop (k + 1)) i t h1
  rwa [List.take_append_drop] at this
end Go.Proofs.Yteibnignjghedaa
