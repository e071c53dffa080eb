/-
  Opening a law's argument that is a list of what replicas show.
-/
import Derived.Test.YteibnignjghedaaOpenSlice
import Derived.Test.YteibnignjghedaaAudY
namespace Go.Proofs.Yteibnignjghedaa
open Go.ChangeShapes Go.WideShapes Go.ChangeAt Go.RowKit Go.Joins Go.Deep

section
variable {H : Type} (enc : TypeId × Value → H) (W : World) (b0 : Nat) (sp : Nat → Bool) (held : Bool)
/-- cells that read as data of a type, none of whose parts weighs more than a reading may -/
def RD (t : TypeId) (cs : List Value) : Prop := ∃ (n : Nat) (y : DataW H × List MemPlace), DataW.trod enc Try.prog W b0 sp held n t cs = some y ∧ (y.1.weights Try.prog t).all (· ≤ reachBytes) = true
variable {enc W b0 sp held} {t : TypeId} {cs : List Value}
theorem RD.field {fs : Array Field} (ht : Try.prog.underlying t = some (.struct fs)) (h : RD enc W b0 sp held t cs) {j : Nat} {f : Field} (hj : fs[j]? = some f) {ft : TypeId} {o z : Nat} (hft : f.type = ft) (ho : f.offset = o) (hz : Try.prog.cellsOf ft = z) : RD enc W b0 sp held ft ((cs.drop o).take z) := by
  obtain ⟨n, y, hy, hw⟩ := h
  obtain ⟨ys, n', _, rfl, _, hyl, hf⟩ := DataW.trod_struct ht hy
  have h5 := hf j f hj
  have hjl := (Array.getElem?_eq_some_iff.1 hj).1
  rw [hft, ho, hz, List.getElem?_eq_getElem (by omega)] at h5
  refine ⟨n', _, h5, List.all_eq_true.2 fun k hk => ?_⟩
  refine List.all_eq_true.1 hw k ?_
  simp only [DataW.weights, ht]
  refine DataW.weights_mem_each (j := j) (t := ft) (d := (ys[j]'(by omega)).1) ?_ ?_ k hk
  · rw [List.getElem?_map, Array.getElem?_toList, hj]
    exact congrArg some hft
  · rw [List.getElem?_map, List.getElem?_eq_getElem (by omega)]
    rfl
theorem wide_slice {P : Program} {w : World} {r : Reach} {b0 : Nat} {t e : TypeId} {v : Value} (ht : P.underlying t = some (.slice e)) (hv : Value.okWide P w r b0 t v) : ∃ ao n cap, v = .slice ao n cap := okWide_slice ht hv
theorem weights_at {P : Program} {ts : List TypeId} {ds : List (DataW H)} {B : Nat} (h : (DataW.weightsEach P ts ds).all (· ≤ B) = true) (j : Nat) {t : TypeId} {d : DataW H} (ht : ts[j]? = some t) (hd : ds[j]? = some d) : (d.weights P t).all (· ≤ B) = true :=
  List.all_eq_true.2 fun k hk => List.all_eq_true.1 h k (DataW.weights_mem_each ht hd k hk)
theorem weights_mem_all {P : Program} {e : TypeId} : ∀ {ds : List (DataW H)} {d : DataW H}, d ∈ ds → ∀ n ∈ d.weights P e, n ∈ DataW.weightsAll P e ds
  | x :: ds, d, hd, n, hn => by
    simp only [DataW.weightsAll, List.mem_append]
    rcases List.mem_cons.1 hd with rfl | hd
    · exact .inl hn
    · exact .inr (weights_mem_all hd n hn)
theorem RD.slice {e : TypeId} (ht : Try.prog.underlying t = some (.slice e)) (hC : 0 < Try.prog.cellsOf e) (h : RD enc W b0 sp held t cs) : ∃ ao len cap, cs = [.slice ao len cap] ∧ len * Try.prog.bytesOf e ≤ reachBytes ∧ ((len = 0 ∧ cap ≤ maxLen) ∨ ∃ b off, ao = some ⟨b, off, none⟩ ∧ 0 < len ∧ len ≤ cap ∧ cap ≤ maxLen ∧
    ∀ i, i < len → ∃ cs' : List Value, cs'.length = Try.prog.cellsOf e ∧ (∀ j, j < Try.prog.cellsOf e → W.cell? ⟨b, off + i * Try.prog.cellsOf e + j, none⟩ = cs'[j]?) ∧ RD enc W b0 sp held e cs') := by
  obtain ⟨fuel, y, hf, hw⟩ := h
  rcases open_slice ht hf with ⟨hcs, _⟩ | ⟨a, len, cap, m, n, D, Pl, hcs, _, hl, hm, hmm, hx, hi⟩
  · exact ⟨none, 0, 0, hcs, by omega, .inl ⟨rfl, by unfold maxLen; omega⟩⟩
  · have hd : y.1 = .slice ((List.range len).map D) ((List.range (m - len)).map fun j => D (len + j)) := by rw [hx]
    have hlm : len ≤ m := by rw [hmm]; split <;> omega
    have h1 := List.all_eq_true.1 hw
    rw [hd] at h1
    simp only [DataW.weights, ht] at h1
    refine ⟨some a, len, cap, hcs, ?_, ?_⟩
    · have h2 := h1 _ List.mem_cons_self
      simp only [List.length_map, List.length_range, decide_eq_true_eq] at h2
      exact Nat.le_trans (Nat.mul_le_mul_right _ (by omega)) h2
    · rcases Nat.eq_zero_or_pos len with h0 | hp
      · exact .inl ⟨h0, hm⟩
      right
      obtain ⟨cs0, hc0, _⟩ := hi 0 (by omega)
      obtain ⟨_, hcl, hg0⟩ := World.cells?_some hc0
      obtain ⟨b, off, rfl⟩ : ∃ b off, a = ⟨b, off, none⟩ := by
        have h1 := hg0 0 hC
        rw [List.getElem?_eq_getElem (by omega), Nat.zero_mul] at h1
        have e0 : (a.add 0).add 0 = a := by simp [Addr.add]
        rw [e0] at h1
        exact addr_of_cell h1
      refine ⟨b, off, rfl, hp, hl, hm, fun i hil => ?_⟩
      obtain ⟨cs', hc, htr⟩ := hi i (by omega)
      obtain ⟨_, hl1, hg⟩ := World.cells?_some hc
      refine ⟨cs', hl1, fun j hj => ?_, n, _, htr, List.all_eq_true.2 fun k hk => h1 k (List.mem_cons_of_mem _ (List.mem_append.2 (.inl (weights_mem_all (List.mem_map.2 ⟨i, List.mem_range.2 hil, rfl⟩) k hk))))⟩
      have := hg j hj
      rw [Go.Deep.add_add, Addr.add_lit, ← Nat.add_assoc] at this
      exact this
theorem RD.list {α : Type} (f : α → List Value) (Good : α → Prop) {e : TypeId} {C bytes : Nat} (ht : Try.prog.underlying t = some (.slice e)) (hC : Try.prog.cellsOf e = C) (hb : Try.prog.bytesOf e = bytes) (hC0 : 0 < C) (he : ∀ l : List α, Elems C (l.map f))
    (hp : ∀ cs : List Value, cs.length = C → RD enc W b0 sp held e cs → ∃ x, cs = f x ∧ Good x) (h : RD enc W b0 sp held t cs) : ∃ (ao : Option Addr) (len cap : Nat) (l : List α), cs = [.slice ao len cap] ∧ Arr W C ao len cap (l.map f) ∧ (∀ x ∈ l, Good x) ∧ len * bytes ≤ reachBytes := by
  subst hC hb
  obtain ⟨ao, len, cap, hcs, hw, h2⟩ := h.slice ht hC0
  refine ⟨ao, len, cap, ?_⟩
  rcases h2 with ⟨rfl, hm⟩ | ⟨b, off, rfl, h0, hl, hm, hi⟩
  · exact ⟨[], hcs, ⟨fun _ h => by simp at h, rfl, Nat.zero_le _, hm, fun h => by omega⟩, fun x hx => (by cases hx), hw⟩
  · obtain ⟨l, hll, hpl⟩ := list_of (fun i (x : α) => Good x ∧ ∀ j, j < Try.prog.cellsOf e → W.cell? ⟨b, off + i * Try.prog.cellsOf e + j, none⟩ = (f x)[j]?) len (fun i hil => by
      obtain ⟨cs', hl', hc, hr⟩ := hi i hil
      obtain ⟨x, rfl, hg⟩ := hp cs' hl' hr
      exact ⟨x, hg, hc⟩)
    have hel := he l
    have hfl : ∀ x ∈ l, (f x).length = Try.prog.cellsOf e := fun x hx => (hel (f x) (List.mem_map.2 ⟨x, hx, rfl⟩)).1
    obtain ⟨x0, hx0⟩ : ∃ x, l[0]? = some x := ⟨_, List.getElem?_eq_getElem (by omega)⟩
    refine ⟨l, hcs, ⟨hel, by simpa using hll, hl, hm, fun _ => ⟨b, off, rfl, ?_, fun i u hu j v hv => ?_⟩⟩, fun x hx => ?_, hw⟩
    · have h1 := (hpl 0 x0 hx0).2 0 hC0
      have h2 : 0 < (f x0).length := by rw [hfl x0 (List.mem_of_getElem? hx0)]; exact hC0
      rw [List.getElem?_eq_getElem h2] at h1
      exact World.block_lt_of_cell? _ _ h1
    · rw [List.getElem?_map] at hu
      cases hx : l[i]? with
      | none => rw [hx] at hu; cases hu
      | some x =>
        rw [hx] at hu
        simp only [Option.map_some, Option.some.injEq] at hu
        subst hu
        have hj := (List.getElem?_eq_some_iff.1 hv).1
        rw [hfl x (List.mem_of_getElem? hx)] at hj
        rw [(hpl i x hx).2 j hj]
        exact hv
    · obtain ⟨i, hi2⟩ := List.mem_iff_getElem?.1 hx
      exact (hpl i x hi2).1
theorem RD.int {k : IntKind} (ht : Try.prog.underlying t = some (.int k)) (h : RD enc W b0 sp held t cs) : ∃ i, cs = [.int k i] ∧ (Lit.int k i).wf = true := by
  obtain ⟨n, y, hy, _⟩ := h
  obtain ⟨s, q, _, w⟩ := DataW.trod_int ht hy
  exact ⟨s, q, w⟩
theorem RD.string (ht : Try.prog.underlying t = some .string) (h : RD enc W b0 sp held t cs) : ∃ s : ByteArray, cs = [.string s] ∧ s.size ≤ maxLen := by
  obtain ⟨n, y, hy, _⟩ := h
  obtain ⟨s, q, _, w⟩ := DataW.trod_string ht hy
  exact ⟨s, q, w⟩
theorem RD.bool (ht : Try.prog.underlying t = some .bool) (h : RD enc W b0 sp held t cs) : ∃ b : Bool, cs = [.bool b] := by
  obtain ⟨n, y, hy, _⟩ := h
  obtain ⟨s, q, _⟩ := DataW.trod_bool ht hy
  exact ⟨s, q⟩
theorem u64_of {i : Int} (h : (Lit.int .u64 i).wf = true) : 0 ≤ i ∧ i ≤ 18446744073709551615 := by
  simpa [Lit.wf, IntKind.min, IntKind.max, IntKind.signed, IntKind.bits] using h
end

theorem rdc_int : Try.prog.cellsOf 3 = 1 := by kernel_rfl
theorem rdc_uint64 : Try.prog.cellsOf 34 = 1 := by kernel_rfl
theorem rdc_string : Try.prog.cellsOf 9 = 1 := by kernel_rfl
theorem rdc_bool : Try.prog.cellsOf 4 = 1 := by kernel_rfl
theorem rdc_Sint : Try.prog.cellsOf 35 = 1 := by kernel_rfl
theorem rdc_Sapi_Entry : Try.prog.cellsOf 42 = 1 := by kernel_rfl
theorem rdc_Sapi_Loc : Try.prog.cellsOf 29 = 1 := by kernel_rfl
theorem rdc_Sapi_Proc : Try.prog.cellsOf 45 = 1 := by kernel_rfl
theorem rdc_api_Range : Try.prog.cellsOf 33 = 2 := by kernel_rfl
theorem rdc_api_Loc : Try.prog.cellsOf 37 = 5 := by kernel_rfl
theorem rdc_api_Hard : Try.prog.cellsOf 39 = 2 := by kernel_rfl
theorem rdc_api_Base : Try.prog.cellsOf 41 = 3 := by kernel_rfl
theorem rdc_api_Tablet : Try.prog.cellsOf 44 = 4 := by kernel_rfl
theorem rdc_api_Op : Try.prog.cellsOf 54 = 6 := by kernel_rfl
theorem rdc_api_Want : Try.prog.cellsOf 56 = 5 := by kernel_rfl
theorem rdc_api_Cmd : Try.prog.cellsOf 58 = 20 := by kernel_rfl
theorem rdc_api_Entry : Try.prog.cellsOf 60 = 24 := by kernel_rfl
theorem rdc_api_Proc : Try.prog.cellsOf 93 = 9 := by kernel_rfl
theorem rdc_api_Boss : Try.prog.cellsOf 47 = 3 := by kernel_rfl
theorem rdc_api_Seen : Try.prog.cellsOf 49 = 19 := by kernel_rfl
theorem rdc_intB : Try.prog.bytesOf 3 = 8 := by kernel_rfl
theorem rdc_api_EntryB : Try.prog.bytesOf 60 = 264 := by kernel_rfl
theorem rdc_api_LocB : Try.prog.bytesOf 37 = 72 := by kernel_rfl
theorem rdc_api_ProcB : Try.prog.bytesOf 93 = 80 := by kernel_rfl
theorem rdc_api_SeenB : Try.prog.bytesOf 49 = 224 := by kernel_rfl
section
variable {H : Type} {enc : TypeId × Value → H} {W : World} {b0 : Nat} {sp : Nat → Bool} {held : Bool}

theorem rd_ints {cs : List Value} (h : RD enc W b0 sp held 35 cs) : ∃ ao n cap l, cs = [.slice ao n cap] ∧ Ints W ao n cap l ∧ n * 8 ≤ 140737488355328 := by
  obtain ⟨ao, n, cap, l, e, hA, _, hw⟩ := RD.list intE (fun _ => True) Try.underlying35 rdc_int rdc_intB (by decide) intE_elems (fun cs hl hr => by
    obtain ⟨i, rfl, _⟩ := hr.int Try.underlying3
    exact ⟨i, rfl, trivial⟩) h
  exact ⟨ao, n, cap, l, e, hA, by unfold reachBytes at hw; omega⟩

set_option maxRecDepth 100000 in
set_option maxHeartbeats 2000000 in
theorem rd_loc {cs : List Value} (hl : cs.length = 5) (h : RD enc W b0 sp held 37 cs) : ∃ c : LocI, cs = c.l ∧ Ints W c.na c.nn c.nc c.nd := by
  match cs, hl with
  | [x0, x1, x2, x3, x4], _ =>
    have r0 := h.field Try.underlying37 (j := 0) (o := 0) (z := 1) rfl rfl rfl rdc_int
    have r1 := h.field Try.underlying37 (j := 1) (o := 1) (z := 2) rfl rfl rfl rdc_api_Range
    have r2 := r1.field Try.underlying33 (j := 0) (o := 0) (z := 1) rfl rfl rfl rdc_string
    have r3 := r1.field Try.underlying33 (j := 1) (o := 1) (z := 1) rfl rfl rfl rdc_string
    have r4 := h.field Try.underlying37 (j := 2) (o := 3) (z := 1) rfl rfl rfl rdc_uint64
    have r5 := h.field Try.underlying37 (j := 3) (o := 4) (z := 1) rfl rfl rfl rdc_Sint
    obtain ⟨v0, qv0, wv0⟩ := r0.int Try.underlying3
    obtain ⟨v1, qv1, wv1⟩ := r2.string Try.underlying9
    obtain ⟨v2, qv2, wv2⟩ := r3.string Try.underlying9
    obtain ⟨v3, qv3, wv3⟩ := r4.int Try.underlying34
    obtain ⟨v4a, v4n, v4c, v4l, qv4, wv4, xv4⟩ := rd_ints r5
    simp only [List.drop_zero, List.drop_succ_cons, List.take_succ_cons, List.take_zero, List.cons.injEq, and_true] at qv0 qv1 qv2 qv3 qv4
    subst qv0 qv1 qv2 qv3 qv4
    exact ⟨⟨v0, v1, v2, v3, v4a, v4n, v4c, v4l⟩, rfl, wv4⟩
set_option maxRecDepth 100000 in
set_option maxHeartbeats 2000000 in
theorem rd_proc {cs : List Value} (hl : cs.length = 9) (h : RD enc W b0 sp held 93 cs) : ∃ p : ProcA, cs = p.l ∧ True := by
  match cs, hl with
  | [x0, x1, x2, x3, x4, x5, x6, x7, x8], _ =>
    have r0 := h.field Try.underlying93 (j := 0) (o := 0) (z := 1) rfl rfl rfl rdc_uint64
    have r1 := h.field Try.underlying93 (j := 1) (o := 1) (z := 5) rfl rfl rfl rdc_api_Want
    have r2 := r1.field Try.underlying56 (j := 0) (o := 0) (z := 1) rfl rfl rfl rdc_bool
    have r3 := r1.field Try.underlying56 (j := 1) (o := 1) (z := 1) rfl rfl rfl rdc_int
    have r4 := r1.field Try.underlying56 (j := 2) (o := 2) (z := 1) rfl rfl rfl rdc_string
    have r5 := r1.field Try.underlying56 (j := 3) (o := 3) (z := 1) rfl rfl rfl rdc_int
    have r6 := r1.field Try.underlying56 (j := 4) (o := 4) (z := 1) rfl rfl rfl rdc_int
    have r7 := h.field Try.underlying93 (j := 2) (o := 6) (z := 1) rfl rfl rfl rdc_int
    have r8 := h.field Try.underlying93 (j := 3) (o := 7) (z := 1) rfl rfl rfl rdc_uint64
    have r9 := h.field Try.underlying93 (j := 4) (o := 8) (z := 1) rfl rfl rfl rdc_int
    obtain ⟨v0, qv0, wv0⟩ := r0.int Try.underlying34
    obtain ⟨v1, qv1⟩ := r2.bool Try.underlying4
    obtain ⟨v2, qv2, wv2⟩ := r3.int Try.underlying3
    obtain ⟨v3, qv3, wv3⟩ := r4.string Try.underlying9
    obtain ⟨v4, qv4, wv4⟩ := r5.int Try.underlying3
    obtain ⟨v5, qv5, wv5⟩ := r6.int Try.underlying3
    obtain ⟨v6, qv6, wv6⟩ := r7.int Try.underlying3
    obtain ⟨v7, qv7, wv7⟩ := r8.int Try.underlying34
    obtain ⟨v8, qv8, wv8⟩ := r9.int Try.underlying3
    simp only [List.drop_zero, List.drop_succ_cons, List.take_succ_cons, List.take_zero, List.cons.injEq, and_true] at qv0 qv1 qv2 qv3 qv4 qv5 qv6 qv7 qv8
    subst qv0 qv1 qv2 qv3 qv4 qv5 qv6 qv7 qv8
    exact ⟨⟨v0, v1, v2, v3, v4, v5, v6, v7, v8⟩, rfl, trivial⟩
set_option maxRecDepth 100000 in
set_option maxHeartbeats 2000000 in
theorem rd_entry {cs : List Value} (hl : cs.length = 24) (h : RD enc W b0 sp held 60 cs) : ∃ e : EntA, cs = e.l ∧ e.Ok ∧ e.In W ∧ e.mn * 8 ≤ 140737488355328 := by
  match cs, hl with
  | [x0, x1, x2, x3, x4, x5, x6, x7, x8, x9, x10, x11, x12, x13, x14, x15, x16, x17, x18, x19, x20, x21, x22, x23], _ =>
    have r0 := h.field Try.underlying60 (j := 0) (o := 0) (z := 1) rfl rfl rfl rdc_uint64
    have r1 := h.field Try.underlying60 (j := 1) (o := 1) (z := 1) rfl rfl rfl rdc_uint64
    have r2 := h.field Try.underlying60 (j := 2) (o := 2) (z := 1) rfl rfl rfl rdc_int
    have r3 := h.field Try.underlying60 (j := 3) (o := 3) (z := 20) rfl rfl rfl rdc_api_Cmd
    have r4 := r3.field Try.underlying58 (j := 0) (o := 0) (z := 1) rfl rfl rfl rdc_int
    have r5 := r3.field Try.underlying58 (j := 1) (o := 1) (z := 1) rfl rfl rfl rdc_int
    have r6 := r3.field Try.underlying58 (j := 2) (o := 2) (z := 1) rfl rfl rfl rdc_uint64
    have r7 := r3.field Try.underlying58 (j := 3) (o := 3) (z := 1) rfl rfl rfl rdc_uint64
    have r8 := r3.field Try.underlying58 (j := 4) (o := 4) (z := 6) rfl rfl rfl rdc_api_Op
    have r9 := r8.field Try.underlying54 (j := 0) (o := 0) (z := 1) rfl rfl rfl rdc_int
    have r10 := r8.field Try.underlying54 (j := 1) (o := 1) (z := 1) rfl rfl rfl rdc_string
    have r11 := r8.field Try.underlying54 (j := 2) (o := 2) (z := 1) rfl rfl rfl rdc_string
    have r12 := r8.field Try.underlying54 (j := 3) (o := 3) (z := 1) rfl rfl rfl rdc_string
    have r13 := r8.field Try.underlying54 (j := 4) (o := 4) (z := 1) rfl rfl rfl rdc_bool
    have r14 := r8.field Try.underlying54 (j := 5) (o := 5) (z := 1) rfl rfl rfl rdc_string
    have r15 := r3.field Try.underlying58 (j := 5) (o := 10) (z := 1) rfl rfl rfl rdc_uint64
    have r16 := r3.field Try.underlying58 (j := 6) (o := 11) (z := 1) rfl rfl rfl rdc_int
    have r17 := r3.field Try.underlying58 (j := 7) (o := 12) (z := 1) rfl rfl rfl rdc_string
    have r18 := r3.field Try.underlying58 (j := 8) (o := 13) (z := 1) rfl rfl rfl rdc_string
    have r19 := r3.field Try.underlying58 (j := 9) (o := 14) (z := 1) rfl rfl rfl rdc_int
    have r20 := r3.field Try.underlying58 (j := 10) (o := 15) (z := 5) rfl rfl rfl rdc_api_Want
    have r21 := r20.field Try.underlying56 (j := 0) (o := 0) (z := 1) rfl rfl rfl rdc_bool
    have r22 := r20.field Try.underlying56 (j := 1) (o := 1) (z := 1) rfl rfl rfl rdc_int
    have r23 := r20.field Try.underlying56 (j := 2) (o := 2) (z := 1) rfl rfl rfl rdc_string
    have r24 := r20.field Try.underlying56 (j := 3) (o := 3) (z := 1) rfl rfl rfl rdc_int
    have r25 := r20.field Try.underlying56 (j := 4) (o := 4) (z := 1) rfl rfl rfl rdc_int
    have r26 := h.field Try.underlying60 (j := 4) (o := 23) (z := 1) rfl rfl rfl rdc_Sint
    obtain ⟨v0, qv0, wv0⟩ := r0.int Try.underlying34
    obtain ⟨v1, qv1, wv1⟩ := r1.int Try.underlying34
    obtain ⟨v2, qv2, wv2⟩ := r2.int Try.underlying3
    obtain ⟨v3, qv3, wv3⟩ := r4.int Try.underlying3
    obtain ⟨v4, qv4, wv4⟩ := r5.int Try.underlying3
    obtain ⟨v5, qv5, wv5⟩ := r6.int Try.underlying34
    obtain ⟨v6, qv6, wv6⟩ := r7.int Try.underlying34
    obtain ⟨v7, qv7, wv7⟩ := r9.int Try.underlying3
    obtain ⟨v8, qv8, wv8⟩ := r10.string Try.underlying9
    obtain ⟨v9, qv9, wv9⟩ := r11.string Try.underlying9
    obtain ⟨v10, qv10, wv10⟩ := r12.string Try.underlying9
    obtain ⟨v11, qv11⟩ := r13.bool Try.underlying4
    obtain ⟨v12, qv12, wv12⟩ := r14.string Try.underlying9
    obtain ⟨v13, qv13, wv13⟩ := r15.int Try.underlying34
    obtain ⟨v14, qv14, wv14⟩ := r16.int Try.underlying3
    obtain ⟨v15, qv15, wv15⟩ := r17.string Try.underlying9
    obtain ⟨v16, qv16, wv16⟩ := r18.string Try.underlying9
    obtain ⟨v17, qv17, wv17⟩ := r19.int Try.underlying3
    obtain ⟨v18, qv18⟩ := r21.bool Try.underlying4
    obtain ⟨v19, qv19, wv19⟩ := r22.int Try.underlying3
    obtain ⟨v20, qv20, wv20⟩ := r23.string Try.underlying9
    obtain ⟨v21, qv21, wv21⟩ := r24.int Try.underlying3
    obtain ⟨v22, qv22, wv22⟩ := r25.int Try.underlying3
    obtain ⟨v23a, v23n, v23c, v23l, qv23, wv23, xv23⟩ := rd_ints r26
    simp only [List.drop_zero, List.drop_succ_cons, List.take_succ_cons, List.take_zero, List.cons.injEq, and_true] at qv0 qv1 qv2 qv3 qv4 qv5 qv6 qv7 qv8 qv9 qv10 qv11 qv12 qv13 qv14 qv15 qv16 qv17 qv18 qv19 qv20 qv21 qv22 qv23
    subst qv0 qv1 qv2 qv3 qv4 qv5 qv6 qv7 qv8 qv9 qv10 qv11 qv12 qv13 qv14 qv15 qv16 qv17 qv18 qv19 qv20 qv21 qv22 qv23
    exact ⟨⟨v0, v1, v2, ⟨v3, v4, v5, v6, v7, v8, v9, v10, v11, v12, v13, v14, v15, v16, v17, v18, v19, v20, v21, v22⟩, v23a, v23n, v23c, v23l⟩, rfl, ⟨(u64_of wv0).1, (u64_of wv0).2, (u64_of wv1).1, (u64_of wv1).2⟩, wv23, xv23⟩
set_option maxRecDepth 100000 in
set_option maxHeartbeats 2000000 in
theorem rd_seen {cs : List Value} (hl : cs.length = 19) (h : RD enc W b0 sp held 49 cs) : ∃ s : SeenA, cs = s.l ∧ s.Ok ∧ s.In W ∧ s.bn * 8 ≤ 140737488355328 ∧ s.en * 264 ≤ 140737488355328 ∧ ∀ e ∈ s.es, e.mn * 8 ≤ 140737488355328 := by
  match cs, hl with
  | [x0, x1, x2, x3, x4, x5, x6, x7, x8, x9, x10, x11, x12, x13, x14, x15, x16, x17, x18], _ =>
    have r0 := h.field Try.underlying49 (j := 0) (o := 0) (z := 1) rfl rfl rfl rdc_int
    have r1 := h.field Try.underlying49 (j := 1) (o := 1) (z := 1) rfl rfl rfl rdc_int
    have r2 := h.field Try.underlying49 (j := 2) (o := 2) (z := 1) rfl rfl rfl rdc_bool
    have r3 := h.field Try.underlying49 (j := 3) (o := 3) (z := 1) rfl rfl rfl rdc_bool
    have r4 := h.field Try.underlying49 (j := 4) (o := 4) (z := 2) rfl rfl rfl rdc_api_Hard
    have r5 := r4.field Try.underlying39 (j := 0) (o := 0) (z := 1) rfl rfl rfl rdc_uint64
    have r6 := r4.field Try.underlying39 (j := 1) (o := 1) (z := 1) rfl rfl rfl rdc_int
    have r7 := h.field Try.underlying49 (j := 5) (o := 6) (z := 3) rfl rfl rfl rdc_api_Base
    have r8 := r7.field Try.underlying41 (j := 0) (o := 0) (z := 1) rfl rfl rfl rdc_uint64
    have r9 := r7.field Try.underlying41 (j := 1) (o := 1) (z := 1) rfl rfl rfl rdc_uint64
    have r10 := r7.field Try.underlying41 (j := 2) (o := 2) (z := 1) rfl rfl rfl rdc_Sint
    have r11 := h.field Try.underlying49 (j := 6) (o := 9) (z := 1) rfl rfl rfl rdc_Sapi_Entry
    have r12 := h.field Try.underlying49 (j := 7) (o := 10) (z := 1) rfl rfl rfl rdc_uint64
    have r13 := h.field Try.underlying49 (j := 8) (o := 11) (z := 1) rfl rfl rfl rdc_uint64
    have r14 := h.field Try.underlying49 (j := 9) (o := 12) (z := 4) rfl rfl rfl rdc_api_Tablet
    have r15 := r14.field Try.underlying44 (j := 0) (o := 0) (z := 2) rfl rfl rfl rdc_api_Range
    have r16 := r15.field Try.underlying33 (j := 0) (o := 0) (z := 1) rfl rfl rfl rdc_string
    have r17 := r15.field Try.underlying33 (j := 1) (o := 1) (z := 1) rfl rfl rfl rdc_string
    have r18 := r14.field Try.underlying44 (j := 1) (o := 2) (z := 1) rfl rfl rfl rdc_uint64
    have r19 := r14.field Try.underlying44 (j := 2) (o := 3) (z := 1) rfl rfl rfl rdc_bool
    have r20 := h.field Try.underlying49 (j := 10) (o := 16) (z := 3) rfl rfl rfl rdc_api_Boss
    have r21 := r20.field Try.underlying47 (j := 0) (o := 0) (z := 1) rfl rfl rfl rdc_Sapi_Loc
    have r22 := r20.field Try.underlying47 (j := 1) (o := 1) (z := 1) rfl rfl rfl rdc_Sapi_Proc
    have r23 := r20.field Try.underlying47 (j := 2) (o := 2) (z := 1) rfl rfl rfl rdc_int
    obtain ⟨v0, qv0, wv0⟩ := r0.int Try.underlying3
    obtain ⟨v1, qv1, wv1⟩ := r1.int Try.underlying3
    obtain ⟨v2, qv2⟩ := r2.bool Try.underlying4
    obtain ⟨v3, qv3⟩ := r3.bool Try.underlying4
    obtain ⟨v4, qv4, wv4⟩ := r5.int Try.underlying34
    obtain ⟨v5, qv5, wv5⟩ := r6.int Try.underlying3
    obtain ⟨v6, qv6, wv6⟩ := r8.int Try.underlying34
    obtain ⟨v7, qv7, wv7⟩ := r9.int Try.underlying34
    obtain ⟨v8a, v8n, v8c, v8l, qv8, wv8, xv8⟩ := rd_ints r10
    obtain ⟨v9a, v9n, v9c, v9l, qv9, wv9, gv9, xv9⟩ := RD.list EntA.l (fun e => e.Ok ∧ e.In W ∧ e.mn * 8 ≤ 140737488355328) Try.underlying42 rdc_api_Entry rdc_api_EntryB (by decide) ent_elems (fun cs hl hr => rd_entry hl hr) r11
    obtain ⟨v10, qv10, wv10⟩ := r12.int Try.underlying34
    obtain ⟨v11, qv11, wv11⟩ := r13.int Try.underlying34
    obtain ⟨v12, qv12, wv12⟩ := r16.string Try.underlying9
    obtain ⟨v13, qv13, wv13⟩ := r17.string Try.underlying9
    obtain ⟨v14, qv14, wv14⟩ := r18.int Try.underlying34
    obtain ⟨v15, qv15⟩ := r19.bool Try.underlying4
    obtain ⟨v16a, v16n, v16c, v16l, qv16, wv16, gv16, xv16⟩ := RD.list LocI.l (fun c => Ints W c.na c.nn c.nc c.nd) Try.underlying29 rdc_api_Loc rdc_api_LocB (by decide) loc_elems (fun cs hl hr => rd_loc hl hr) r21
    obtain ⟨v17a, v17n, v17c, v17l, qv17, wv17, gv17, xv17⟩ := RD.list ProcA.l (fun _ => True) Try.underlying45 rdc_api_Proc rdc_api_ProcB (by decide) proc_elems (fun cs hl hr => rd_proc hl hr) r22
    obtain ⟨v18, qv18, wv18⟩ := r23.int Try.underlying3
    simp only [List.drop_zero, List.drop_succ_cons, List.take_succ_cons, List.take_zero, List.cons.injEq, and_true] at qv0 qv1 qv2 qv3 qv4 qv5 qv6 qv7 qv8 qv9 qv10 qv11 qv12 qv13 qv14 qv15 qv16 qv17 qv18
    subst qv0 qv1 qv2 qv3 qv4 qv5 qv6 qv7 qv8 qv9 qv10 qv11 qv12 qv13 qv14 qv15 qv16 qv17 qv18
    refine ⟨⟨v0, v1, v2, v3, v4, v5, v6, v7, v8a, v8n, v8c, v8l, v9a, v9n, v9c, v9l, v10, v11, v12, v13, v14, v15, v16a, v16n, v16c, v16l, v17a, v17n, v17c, v17l, v18⟩, rfl, ⟨wv12, wv13, (u64_of wv6).1, (u64_of wv6).2, (u64_of wv7).1, (u64_of wv7).2, (u64_of wv10).1, (u64_of wv10).2, (u64_of wv11).1, fun e he => (gv9 e he).1⟩, ⟨wv8, ⟨wv9, fun e he => (gv9 e he).2.1⟩, ⟨wv16, gv16⟩, wv17⟩, xv8, ?_, fun e he => (gv9 e he).2.2⟩
    unfold reachBytes at xv9
    show v9n * 264 ≤ _
    omega
set_option maxRecDepth 100000 in
/-- A list of replicas that came in. -/
theorem open_seens {base : Nat} {v : Value} {d : DataW H} {p : List MemPlace} (hv : Value.okWide Try.prog W .any base 22 v) (h : DataW.Trod enc Try.prog W b0 sp held 22 v d p) (hw : (d.weights Try.prog 22).all (· ≤ reachBytes) = true) :
    ∃ ao n cap l, v = .slice ao n cap ∧ Seens W ao n cap l ∧ (∀ s ∈ l, s.Ok) ∧ ∀ s ∈ l, s.bn * 8 ≤ 140737488355328 ∧ s.en * 264 ≤ 140737488355328 ∧ ∀ e ∈ s.es, e.mn * 8 ≤ 140737488355328 := by
  obtain ⟨ao, n, cap, e⟩ := wide_slice Try.underlying22 hv
  subst e
  obtain ⟨fuel, hf⟩ := h
  have hr : RD enc W b0 sp held 22 [.slice ao n cap] := ⟨fuel, _, hf, hw⟩
  obtain ⟨ao', n', cap', l, e, hA, hg, _⟩ := RD.list SeenA.l (fun s => s.Ok ∧ s.In W ∧ s.bn * 8 ≤ 140737488355328 ∧ s.en * 264 ≤ 140737488355328 ∧ ∀ e ∈ s.es, e.mn * 8 ≤ 140737488355328) Try.underlying22 rdc_api_Seen rdc_api_SeenB (by decide) (fun l k hk => by
    obtain ⟨s, _, rfl⟩ := List.mem_map.1 hk
    exact ⟨rfl, s.one⟩) (fun cs hl hr => rd_seen hl hr) hr
  cases e
  exact ⟨ao, n, cap, l, rfl, ⟨hA, fun s hs => (hg s hs).2.1⟩, fun s hs => (hg s hs).1, fun s hs => (hg s hs).2.2⟩
end
end Go.Proofs.Yteibnignjghedaa
