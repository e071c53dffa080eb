/-
  Rows of cells as functions (package merge): what a row is; the walks of merge.none, Of.
-/
import Derived.Test.YtehbikofoidjhaaOwnW
import Derived.Conc.MuLone
namespace Go.Proofs.Ytehbikofoidjhaa
open Go.RowKit

/-- What is not F's is kept. -/
structure Kept (F : Nat → Prop) (w w' : World) : Prop where
  os : w'.os = w.os
  tape : w'.tape = w.tape
  output : w'.output = w.output
  size : w.heap.size ≤ w'.heap.size
  block : ∀ k, k < w.heap.size → ¬ F k → w'.heap[k]? = w.heap[k]?
theorem Kept.refl (F : Nat → Prop) (w : World) : Kept F w w := ⟨rfl, rfl, rfl, Nat.le_refl _, fun _ _ _ => rfl⟩
theorem Kept.trans {F F' : Nat → Prop} {a b c : World} (h : Kept F a b) (k : Kept F' b c) (hF : ∀ i, F' i → F i ∨ a.heap.size ≤ i) : Kept F a c :=
  ⟨k.os.trans h.os, k.tape.trans h.tape, k.output.trans h.output, Nat.le_trans h.size k.size, fun i hi hn => (k.block i (Nat.lt_of_lt_of_le hi h.size) (fun hf => by
    rcases hF i hf with h1 | h1
    · exact hn h1
    · omega)).trans (h.block i hi hn)⟩
theorem Kept.of_below {F : Nat → Prop} {w w' : World} (h : Below w.heap.size w w') : Kept F w w' := ⟨h.os, h.tape, h.output, h.size, fun k hk _ => h.block k hk⟩
theorem Kept.below {F : Nat → Prop} {B : Nat} {w w' : World} (h : Kept F w w') (hF : ∀ k, F k → B ≤ k) (hB : B ≤ w.heap.size) : Below B w w' :=
  ⟨h.os, h.tape, h.output, h.size, fun k hk => h.block k (Nat.lt_of_lt_of_le hk hB) (fun hf => by have := hF k hf; omega)⟩
theorem Kept.alloc {F : Nat → Prop} {a w : World} (h : Kept F a w) (o : Obj) : Kept F a (w.alloc o) := h.trans (F' := fun _ => False) (Kept.of_below ((Below.refl _ _).alloc (Nat.le_refl _) o)) (fun _ h => h.elim)
theorem Kept.setCell {F : Nat → Prop} {a w : World} (h : Kept F a w) {p : Addr} (hp : F p.block ∨ a.heap.size ≤ p.block) (u : Value) : Kept F a (w.setCell p u) :=
  h.trans (F' := fun k => k = p.block) ⟨rfl, rfl, rfl, by rw [World.size_setCell]; exact Nat.le_refl _, fun k _ hn => Below.heap_setCell _ _ _ _ hn⟩ (fun i hi => by subst hi; exact hp)

/-- what a row tells next -/
def headV : List CellA → Value
  | [] => .tuple #[.agg #[.string ⟨#[]⟩, .string ⟨#[]⟩, .int .u64 0, .bool false, .string ⟨#[]⟩], .bool false]
  | c :: _ => .tuple #[.agg #[.string c.row, .string c.col, .int .u64 c.ver, .bool c.gone, .string c.val], .bool true]

/-- A row: a function with what it has captured; St: what holds while it has these cells yet to tell, its own blocks being F's. -/
structure RowOf (f : FuncId) (caps : Array Value) (St : List CellA → (Nat → Prop) → World → Prop) : Prop where
  fn : ∃ fn c, Try.prog.funcs[f]? = some fn ∧ (fn.name == "runtime.NumGoroutine") = false ∧ fn.body = some c
  keep : ∀ {cs F} {w w' : World}, St cs F w → w.heap.size ≤ w'.heap.size → (∀ b, F b → w'.heap[b]? = w.heap[b]?) → St cs F w'
  inb : ∀ {cs F} {w : World}, St cs F w → ∀ b, F b → b < w.heap.size
  next : ∀ {cs F} {w : World}, St cs F w → Calls Try.prog f caps w fun e w' => e = .returned (headV cs) ∧ ∃ F', St cs.tail F' w' ∧ (∀ b, F' b → F b ∨ w.heap.size ≤ b) ∧ Kept F w w'

theorem none_any (w : World) : Calls Try.prog 36 #[] w fun e w' => e = .returned (headV []) ∧ Below w.heap.size w w' := by
  go_enter Try.func36, Try.ntmps36
  go_wp2
  refine bodyPost_ret (v := headV []) (by simp [results, Try.results36, go_sem, headV, *]) rfl ⟨rfl, by go_grown⟩

structure OfSt (b : Nat) (cs : List CellA) (F : Nat → Prop) (w : World) : Prop where
  ex : ∃ ao n cap, w.cell? ⟨b, 0, none⟩ = some (.slice ao n cap) ∧ Cells w ao n cap cs ∧ ∀ a, ao = some a → 0 < n → F a.block ∧ a.block ≠ b
  fro : w.frozen? ⟨b, 0, none⟩ = false
  own : F b
  inb : ∀ k, F k → k < w.heap.size
theorem OfSt.keep {b : Nat} {cs : List CellA} {F : Nat → Prop} {w w' : World} (h : OfSt b cs F w) (hs : w.heap.size ≤ w'.heap.size) (hb : ∀ k, F k → w'.heap[k]? = w.heap[k]?) : OfSt b cs F w' := by
  obtain ⟨⟨ao, n, cap, h1, h2, h3⟩, h4, h5, h6⟩ := h
  refine ⟨⟨ao, n, cap, by rw [World.cell?_of_block (a := ⟨b, 0, none⟩) (hb b h5)]; exact h1, ⟨h2.elems, Arr.len h2, Arr.fits h2, Arr.max h2, fun h0 => ?_⟩, h3⟩, by rw [World.frozen?_of_block (a := ⟨b, 0, none⟩) (hb b h5)]; exact h4, h5, fun k hk => Nat.lt_of_lt_of_le (h6 k hk) hs⟩
  obtain ⟨g, off, e, hl, hc⟩ := Arr.lies h2 h0
  obtain ⟨hg, _⟩ := h3 _ e h0
  exact ⟨g, off, e, Nat.lt_of_lt_of_le hl hs, fun i x hx j u hu => by rw [World.cell?_of_block (a := ⟨g, _, none⟩) (hb g hg)]; exact hc i x hx j u hu⟩

theorem OfSt.below {b : Nat} {cs : List CellA} {F : Nat → Prop} {w w' : World} (h : OfSt b cs F w) (hb : Below w.heap.size w w') : OfSt b cs F w' := h.keep hb.size (fun k hk => hb.block k (h.inb k hk))
theorem cells_tail {w : World} {g off m cap : Nat} {c : CellA} {r : List CellA} (h : Cells w (some ⟨g, off, none⟩) (m + 1) cap (c :: r)) : Cells w (some ⟨g, off + 5, none⟩) m (cap - 1) r := by
  have hl := Arr.len h
  simp only [List.map_cons, List.length_cons] at hl
  have hf := Arr.fits h
  have hm := Arr.max h
  refine ⟨cellE_elems _, by omega, by omega, by omega, fun h0 => ?_⟩
  obtain ⟨g', off', e, hg, hc⟩ := Arr.lies h (Nat.succ_pos m)
  cases e
  refine ⟨g, off + 5, rfl, hg, fun i x hx j u hu => ?_⟩
  have := hc (i + 1) x (by simpa using hx) j u hu
  rw [← this]
  congr 2
  omega
theorem cells_none {w : World} {ao : Option Addr} {cap : Nat} (hm : cap ≤ maxLen) : Cells w ao 0 cap [] := ⟨cellE_elems _, rfl, Nat.zero_le _, hm, fun h => by omega⟩
/-- behind a call that told a cell: the variable holds the rest -/
theorem of_next {b g off m cap : Nat} {c : CellA} {r : List CellA} {F : Nat → Prop} {w : World} (h : OfSt b (c :: r) F w) (hF : F g) (hgb : g ≠ b) (hc : Cells w (some ⟨g, off, none⟩) (m + 1) cap (c :: r)) (ao : Option Addr) (cap' : Nat)
    (he : (m = 0 ∧ cap' ≤ maxLen) ∨ (ao = some ⟨g, off + 5, none⟩ ∧ cap' = cap - 1)) (o o' : Obj) : OfSt b r F (((w.setCell ⟨b, 0, none⟩ (.slice ao m cap')).alloc o).alloc o') := by
  have hbl := h.inb b h.own
  obtain ⟨ao0, n0, cap0, hc0, _⟩ := h.ex
  have hcell : (w.setCell ⟨b, 0, none⟩ (.slice ao m cap')).cell? ⟨b, 0, none⟩ = some (.slice ao m cap') := World.cell?_setCell_same _ _ _ hc0
  have hC : Cells (w.setCell ⟨b, 0, none⟩ (.slice ao m cap')) ao m cap' r := by
    rcases he with ⟨rfl, hm⟩ | ⟨rfl, rfl⟩
    · have hl := Arr.len hc
      simp only [List.map_cons, List.length_cons] at hl
      have : r = [] := List.eq_nil_of_length_eq_zero (by rw [List.length_map] at hl; omega)
      subst this
      exact cells_none hm
    · have ht := cells_tail hc
      refine ⟨ht.elems, Arr.len ht, Arr.fits ht, Arr.max ht, fun h0 => ?_⟩
      obtain ⟨g', off', e, hg, hcc⟩ := Arr.lies ht h0
      cases e
      refine ⟨g, off + 5, rfl, by rw [World.size_setCell]; exact hg, fun i x hx j u hu => ?_⟩
      rw [World.cell?_of_block (w := w) (a := ⟨g, _, none⟩) (Below.heap_setCell _ _ _ _ hgb)]
      exact hcc i x hx j u hu
  have h1 : OfSt b r F (w.setCell ⟨b, 0, none⟩ (.slice ao m cap')) := by
    refine ⟨⟨ao, m, cap', hcell, hC, fun a ha h0 => ?_⟩, by rw [World.frozen?_setCell]; exact h.fro, h.own, fun k hk => by rw [World.size_setCell]; exact h.inb k hk⟩
    rcases he with ⟨rfl, _⟩ | ⟨rfl, _⟩
    · omega
    · cases ha; exact ⟨hF, hgb⟩
  have h2 : ∀ (W : World) (o : Obj), OfSt b r F W → OfSt b r F (W.alloc o) := fun W o h => h.keep (by rw [World.size_alloc]; omega) (fun k hk => Below.heap_alloc _ _ _ (h.inb k hk))
  exact h2 _ _ (h2 _ _ h1)

set_option maxRecDepth 100000 in
set_option maxHeartbeats 2000000 in
theorem of1_any (b : Nat) (cs : List CellA) (F : Nat → Prop) (w : World) (h : OfSt b cs F w) :
    Calls Try.prog 41 #[.pointer (some ⟨b, 0, none⟩)] w fun e w' => e = .returned (headV cs) ∧ ∃ F', OfSt b cs.tail F' w' ∧ (∀ k, F' k → F k ∨ w.heap.size ≤ k) ∧ Kept F w w' := by
  have HS := Lib.hid h
  obtain ⟨⟨ao, n, cap, h1, h2, h3⟩, h4, h5, h6⟩ := h
  have hbl := h6 b h5
  cases cs with
  | nil =>
    obtain rfl : n = 0 := by have := h2.len; simpa using this.symm
    have KN := Lib.hid fun W => none_any W
    simp only [headV] at KN
    clear h2 h3 h6
    go_enter Try.func41, Try.ntmps41
    go_wp2_with (first | (go_at_call 36; refine (KN.out _).mono ?_; rintro e w1 ⟨rfl, hb⟩; obtain ⟨hB, hS, hk⟩ := after (B := w.heap.size) (w := w) (by go_grown) (by go_size) hb; clear hb; obtain ⟨c0, f0, z0⟩ := hk (w.heap.size) (by go_size); clear hk))
    refine bodyPost_ret (v := headV []) (by simp [results, Try.results41, go_sem, headV, *]) rfl ⟨rfl, F, ?_, fun k hk => .inl hk, ?_⟩
    · exact HS.out.below (by go_grown)
    · exact Kept.of_below (by go_grown)
  | cons c r =>
    obtain ⟨m, rfl⟩ : ∃ m, n = m + 1 := ⟨r.length, by have := h2.len; rw [List.length_cons] at this; exact this.symm⟩
    obtain ⟨g, off, rfl, hg, e0, e1, e2, e3, e4⟩ := h2.at_ (i := 0) (c := c) rfl
    simp only [Nat.zero_mul, Nat.add_zero] at e0 e1 e2 e3 e4
    have hfit := Arr.fits h2
    have hmax := Arr.max h2
    unfold maxLen at hmax
    obtain ⟨hFg, hgb⟩ := h3 _ rfl (Nat.succ_pos _)
    simp only at hFg hgb
    have HC := Lib.hid h2
    clear h2 h3 h6
    go_enter Try.func41, Try.ntmps41
    go_wp2_with fail
    · obtain rfl : m = 0 := by omega
      refine bodyPost_ret (v := headV (c :: r)) (by simp [results, Try.results41, go_sem, headV, *]) rfl ⟨rfl, F, ?_, fun k hk => .inl hk, (((Kept.refl F w).setCell (p := ⟨b, 0, none⟩) (.inl h5) _).alloc _).alloc _⟩
      exact of_next HS.out hFg hgb HC.out _ _ (.inl ⟨rfl, by unfold maxLen; omega⟩) _ _
    · refine bodyPost_ret (v := headV (c :: r)) (by simp [results, Try.results41, go_sem, headV, *]) rfl ⟨rfl, F, ?_, fun k hk => .inl hk, (((Kept.refl F w).setCell (p := ⟨b, 0, none⟩) (.inl h5) _).alloc _).alloc _⟩
      exact of_next HS.out hFg hgb HC.out _ _ (.inr ⟨rfl, rfl⟩) _ _

theorem of_row (b : Nat) : RowOf 41 #[.pointer (some ⟨b, 0, none⟩)] (OfSt b) :=
  ⟨⟨_, _, Try.func41, by kernel_rfl, rfl⟩, fun h hs hb => h.keep hs hb, fun h => h.inb, fun {cs F w} h => of1_any b cs F w h⟩

/-- A call of a function value without arguments. -/
theorem wpList_call_row {w : World} {ops : Array Oper} {rest : List Oper} {o : Oper} {a : Act} {Q : Exit → Act → World → Prop} (hgd : o.guard = none) (s : Operand)
    (ho : o.op = .call { callee := .value s, args := #[], argTypes := #[] }) {f : FuncId} {caps : Array Value} (hs : a.eval s = .func (.func f) #[] caps)
    (hf : ∃ fn c, Try.prog.funcs[f]? = some fn ∧ (fn.name == "runtime.NumGoroutine") = false ∧ fn.body = some c)
    (h : Calls Try.prog f caps w fun e w' => ∃ v, e = .returned v ∧ wpList Try.prog ops Q rest (a.put o.dst v) w') : wpList Try.prog ops Q (o :: rest) a w := by
  refine wpList_plain hgd fun K hK => ?_
  obtain ⟨fn, c, h1, h2, h3⟩ := hf
  have hr := MuLone.run_callFunc_enter h1 h2 h3 caps w
  unfold Oper.wp execOp
  simp only [ho, resolve, Deferred.ofValue, invoke, Sem.run_bind, Sem.run_pure, Result.andThen_ok, List.map_toArray, List.map_nil, hs, hr, Array.empty_append, Array.map_empty]
  unfold Oper.upon
  simp only
  exact h.mono fun e w' ⟨v, he, hk⟩ => by subst he; exact hK _ _ hk

theorem of_new {w w1 : World} {ao : Option Addr} {n cap : Nat} {cs : List CellA} {T : TypeId} {xs : List Value} {u : Value} {b : Nat} (hr : Row w1 (b + 1) T 5 (.slice ao n cap) n xs) (hc : Cells w1 ao n cap cs) (h0 : w1.cell? ⟨b, 0, none⟩ = some u) (hf : w1.frozen? ⟨b, 0, none⟩ = false) (hs : w.heap.size ≤ w1.heap.size) :
    ∃ F, OfSt b cs F (w1.setCell ⟨b, 0, none⟩ (.slice ao n cap)) ∧ ∀ k, F k → b ≤ k := by
  have hbl := World.block_lt_of_cell? _ _ h0
  simp only at hbl
  refine ⟨fun k => k = b ∨ (b < k ∧ k < w1.heap.size), ⟨⟨ao, n, cap, World.cell?_setCell_same _ _ _ h0, ?_, fun a ha hn => ?_⟩, by rw [World.frozen?_setCell]; exact hf, .inl rfl, fun k hk => by rw [World.size_setCell]; rcases hk with rfl | ⟨_, hk⟩ <;> assumption⟩, fun k hk => by rcases hk with rfl | ⟨hk, _⟩ <;> omega⟩
  · refine ⟨hc.elems, Arr.len hc, Arr.fits hc, Arr.max hc, fun h0 => ?_⟩
    obtain ⟨g, off, e, hg, hcc⟩ := Arr.lies hc h0
    subst e
    have hlt := Row.lt hr g (by cases off <;> rfl)
    refine ⟨g, off, rfl, by rw [World.size_setCell]; exact hg, fun i x hx j v hv => ?_⟩
    rw [World.cell?_of_block (w := w1) (a := ⟨g, _, none⟩) (Below.heap_setCell _ _ _ _ (by simp only; omega))]
    exact hcc i x hx j v hv
  · obtain ⟨g, off, e, hg, _⟩ := Arr.lies hc hn
    subst e
    cases ha
    have hlt := Row.lt hr g (by cases off <;> rfl)
    exact ⟨.inr ⟨by simp only; omega, hg⟩, by simp only; omega⟩

set_option maxRecDepth 100000 in
set_option maxHeartbeats 2000000 in
theorem of_any (ao : Option Addr) (n cap : Nat) (cs : List CellA) (w : World) (h : Cells w ao n cap cs) (hn : n * 64 ≤ 140737488355328) :
    Calls Try.prog 16 #[.slice ao n cap] w fun e w' => e = .returned (.func (.func 41) #[] #[.pointer (some ⟨w.heap.size, 0, none⟩)]) ∧ (∃ F, OfSt w.heap.size cs F w' ∧ ∀ k, F k → w.heap.size ≤ k) ∧ Below w.heap.size w w' := by
  have HK := Lib.hid fun W (hb : Below w.heap.size w W) => clone_any ao n cap cs W (Arr.below h hb) hn
  have Hl := Lib.hid h.len
  clear h
  go_enter Try.func16, Try.ntmps16
  go_wp2_with (go_at_call 40; refine (HK.out _ (by go_grown)).mono ?_; rintro e w1 ⟨v, rfl, hr, hb⟩; rw [World.size_alloc] at hr; have HR := Lib.hid hr; obtain ⟨ao1, cap1, rfl, hc1⟩ := Row.arr (es := cs.map cellE) (by decide) (by rw [List.length_map, Hl.out]; exact hr) (cellE_elems cs); rw [List.length_map, Hl.out]; rw [List.length_map, Hl.out] at hc1 HR; have HC := Lib.hid hc1; obtain ⟨hB, hS, hk⟩ := after (B := w.heap.size) (w := w) (by go_grown) (by go_size) hb; obtain ⟨c0, f0, z0⟩ := hk w.heap.size (by go_size); have zl := (hk w.heap.size (by go_size)).2.2; clear hr hc1 hk hb)
  go_returns
  refine ⟨rfl, of_new (u := .slice ao n cap) HR.out HC.out (by rw [c0]; go_simp) (by rw [f0]; go_simp) hS, by go_grown⟩
end Go.Proofs.Ytehbikofoidjhaa
