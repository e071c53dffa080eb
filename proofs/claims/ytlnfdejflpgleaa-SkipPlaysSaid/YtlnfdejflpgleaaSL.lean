/-
  Skip lists as plain lists of cells and heights: the contracts.
-/
import Derived.Test.YtlnfdejflpgleaaPutV
import Derived.Test.YtlnfdejflpgleaaListW8
namespace Go.Proofs.Ytlnfdejflpgleaa
open Go.RowKit

/-- the list at lb tells l; its own blocks are F's -/
structure SL (lb : Nat) (l : List CH) (F : Nat → Prop) (w : World) : Prop where
  ex : ∃ hd ns, SkipAt w lb hd ns ∧ ns.map Nd.v = l ∧ F = SkipF lb hd ns
  up : Up (l.map Prod.fst)
theorem nd_fst (ns : List Nd) : (ns.map Nd.v).map Prod.fst = ns.map Nd.c := by rw [List.map_map]; rfl
section
variable {lb : Nat} {l : List CH} {F : Nat → Prop} {w w' : World}
theorem SL.keep (h : SL lb l F w) (hb : ∀ k, F k → w'.heap[k]? = w.heap[k]?) : SL lb l F w' := by
  obtain ⟨hd, ns, h1, h2, rfl⟩ := h.ex
  exact ⟨⟨hd, ns, h1.keep hb, h2, rfl⟩, h.up⟩
theorem SL.inb (h : SL lb l F w) : ∀ k, F k → k < w.heap.size := by
  obtain ⟨hd, ns, h1, _, rfl⟩ := h.ex
  exact h1.inb
theorem SL.below (h : SL lb l F w) (hb : Below w.heap.size w w') : SL lb l F w' := h.keep (fun k hk => hb.block k (h.inb k hk))
theorem SL.ty (h : SL lb l F w) : ∀ k, F k → k = lb ∨ ∃ arr fr, w.heap[k]? = some (.cells arr 72 fr) := by
  obtain ⟨hd, ns, h1, _, rfl⟩ := h.ex
  rintro k (rfl | ⟨n, hn, rfl⟩)
  · exact .inl rfl
  · obtain ⟨i, hi⟩ := List.mem_iff_getElem?.1 hn
    exact .inr (h1.tow i n hi).ty
theorem SL.own (h : SL lb l F w) : F lb := by
  obtain ⟨hd, ns, _, _, rfl⟩ := h.ex
  exact .inl rfl
end
theorem new_sl (w : World) : Calls Try.prog 13 #[] w fun e w' => e = .returned (.pointer (some ⟨w.heap.size + 1, 0, none⟩)) ∧ ∃ F, SL (w.heap.size + 1) [] F w' ∧ (∀ k, F k → w.heap.size ≤ k) ∧ Below w.heap.size w w' := by
  refine (new_any w).mono ?_
  rintro e w' ⟨he, hS, hb⟩
  refine ⟨he, _, ⟨⟨_, [], hS, rfl, rfl⟩, by simp [Up]⟩, fun k hk => ?_, hb⟩
  rcases hk with rfl | ⟨n, hn, rfl⟩
  · omega
  · simp at hn; subst hn; exact Nat.le_refl _
theorem put_sl (c : CellA) (hok : c.Ok) (hcl : cellL c = true) (h : Nat) (h1 : 1 ≤ h) (h12 : h ≤ 12) (lb : Nat) (l : List CH) (F : Nat → Prop) (w : World) (hS : SL lb l F w) (hn : l.length < 1000000) :
    Calls Try.prog 12 #[.pointer (some ⟨lb, 0, none⟩), .agg #[.string c.row, .string c.col, .int .u64 c.ver, .bool c.gone, .string c.val], .int .i64 h] w fun e w' => e = .returned (.int .i64 0) ∧ ∃ F', SL lb (putV c h l) F' w' ∧ Kept F w w' ∧ ∀ k, F' k → F k ∨ w.heap.size ≤ k := by
  obtain ⟨hd, ns, q1, rfl, rfl⟩ := hS.ex
  refine (put_any c hok hcl h h1 h12 lb hd ns w q1 (by rw [← nd_fst]; exact hS.up) (by rwa [List.length_map] at hn)).mono ?_
  rintro e w' ⟨he, ns', r1, r2, r3, r4⟩
  exact ⟨he, _, ⟨⟨hd, ns', r1, r2, rfl⟩, putV_up hS.up⟩, r3, r4⟩
theorem list_sl (lb : Nat) (l : List CH) (F : Nat → Prop) (w : World) (hS : SL lb l F w) (hn : l.length < 1000000) :
    Calls Try.prog 10 #[.pointer (some ⟨lb, 0, none⟩)] w fun e w' => ∃ v, e = .returned v ∧ Own w' w.heap.size v (l.map Prod.fst) ∧ Below w.heap.size w w' := by
  obtain ⟨hd, ns, q1, rfl, rfl⟩ := hS.ex
  rw [nd_fst]
  exact list8_any lb hd ns w q1 (by rwa [List.length_map] at hn)
theorem len_sl (lb : Nat) (l : List CH) (F : Nat → Prop) (w : World) (hS : SL lb l F w) :
    Calls Try.prog 17 #[.pointer (some ⟨lb, 0, none⟩)] w fun e w' => e = .returned (.int .i64 l.length) ∧ w = w' := by
  obtain ⟨hd, ns, q1, rfl, rfl⟩ := hS.ex
  rw [List.length_map]
  exact len_any lb hd ns w q1
theorem ahead_mono {row col : ByteArray} {a b : CellA} (h : cmpC a b < 0) (hb : aheadP row col b = true) : aheadP row col a = true := by
  rw [cmp_neg] at h
  simp only [aheadP, Bool.or_eq_true, Bool.and_eq_true, decide_eq_true_eq] at hb ⊢
  grind
/-- what Get answers -/
def getW (row col : ByteArray) (l : List CH) : Value := match l.find? (fun x => !aheadP row col x.1) with
  | none => .tuple #[.agg #[.string ⟨#[]⟩, .string ⟨#[]⟩, .int .u64 0, .bool false, .string ⟨#[]⟩], .bool false]
  | some x => if x.1.row.toList = row.toList ∧ x.1.col.toList = col.toList then .tuple #[.agg #[.string x.1.row, .string x.1.col, .int .u64 x.1.ver, .bool x.1.gone, .string x.1.val], .bool true] else .tuple #[.agg #[.string ⟨#[]⟩, .string ⟨#[]⟩, .int .u64 0, .bool false, .string ⟨#[]⟩], .bool false]
theorem find_cut {pr : CellA → Bool} : ∀ {ns : List Nd} {hd : Nd} {k : Nat}, CutAt pr (hd :: ns) k → (ns.map Nd.v).find? (fun x => !pr x.1) = ((hd :: ns)[k]?).map Nd.v
  | [], hd, k, h => by
    have h1 := h.pos
    rw [List.getElem?_eq_none (by simp; omega)]
    rfl
  | x :: r, hd, k, h => by
    have h1 := h.pos
    obtain ⟨m, rfl⟩ : ∃ m, k = m + 1 := ⟨k - 1, by omega⟩
    rw [List.map_cons, List.find?_cons, List.getElem?_cons_succ]
    cases m with
    | zero =>
      have := h.no 1 x (Nat.le_refl _) rfl
      rw [show pr x.v.1 = false from this]
      rfl
    | succ m =>
      have hx := h.yes 1 x (Nat.le_refl _) (by omega) rfl
      rw [show pr x.v.1 = true from hx]
      have hle := h.le
      exact find_cut (hd := x) (ns := r) (k := m + 1) ⟨by omega, by simp at hle ⊢; omega, fun i n h2 h3 hn => h.yes (i + 1) n (by omega) (by omega) (by rw [List.getElem?_cons_succ]; exact hn), fun i n h2 hn => h.no (i + 1) n (by omega) (by rw [List.getElem?_cons_succ]; exact hn)⟩
theorem get_sl (row col : ByteArray) (lb : Nat) (l : List CH) (F : Nat → Prop) (w : World) (hS : SL lb l F w) :
    Calls Try.prog 15 #[.pointer (some ⟨lb, 0, none⟩), .string row, .string col] w fun e w' => e = .returned (getW row col l) ∧ Below w.heap.size w w' := by
  obtain ⟨hd, ns, q1, rfl, rfl⟩ := hS.ex
  have hu := hS.up
  rw [nd_fst] at hu
  obtain ⟨k, hC⟩ := cut_of (pr := aheadP row col) hd ns (fun i j a b hij ha hb hp => by
    have := List.pairwise_iff_getElem.1 hu i j (by rw [List.length_map]; exact (List.getElem?_eq_some_iff.1 ha).1) (by rw [List.length_map]; exact (List.getElem?_eq_some_iff.1 hb).1) hij
    simp only [List.getElem_map] at this
    rw [(List.getElem?_eq_some_iff.1 ha).2, (List.getElem?_eq_some_iff.1 hb).2] at this
    exact ahead_mono this hp)
  have hf := find_cut hC
  have e : getV row col (hd :: ns)[k]? = getW row col (ns.map Nd.v) := by
    unfold getW
    rw [hf]
    cases (hd :: ns)[k]? <;> rfl
  rw [← e]
  exact get_any row col lb hd ns k w q1 hC
end Go.Proofs.Ytlnfdejflpgleaa
