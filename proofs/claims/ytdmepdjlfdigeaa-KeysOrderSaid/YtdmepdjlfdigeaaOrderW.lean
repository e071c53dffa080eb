/-
  The walk of acreagelaw03.KeysOrder.
-/
import Derived.Test.YtdmepdjlfdigeaaCellsLawW
import Derived.Deep.RegionWith
import Derived.Deep.DeepCutAuto
namespace Go.Proofs.Ytdmepdjlfdigeaa
open Go.RowKit Go.Sort

def ltC (a b : CellA) : Prop := a.row.toList < b.row.toList ∨ (a.row.toList = b.row.toList ∧ (a.col.toList < b.col.toList ∨ (a.col.toList = b.col.toList ∧ b.ver < a.ver)))
def eqC (a b : CellA) : Prop := a.row.toList = b.row.toList ∧ a.col.toList = b.col.toList ∧ a.ver = b.ver

theorem cmpC_cases (a b : CellA) : (cmpC a b = -1 ∧ ltC a b) ∨ (cmpC a b = 0 ∧ eqC a b) ∨ (cmpC a b = 1 ∧ ltC b a) := by
  grind [cmpC, orI, cmpL, cmpN, ltC, eqC]
theorem ltC_trans {a b c : CellA} (h : ltC a b) (k : ltC b c) : ltC a c := by grind [ltC]
theorem ltC_eq {a b c : CellA} (h : ltC a b) (k : eqC b c) : ltC a c := by grind [ltC, eqC]
theorem eqC_lt {a b c : CellA} (h : eqC a b) (k : ltC b c) : ltC a c := by grind [ltC, eqC]
theorem eqC_trans {a b c : CellA} (h : eqC a b) (k : eqC b c) : eqC a c := by grind [eqC]
theorem eqC_symm {a b : CellA} (h : eqC a b) : eqC b a := by grind [eqC]
theorem ltC_irrefl {a : CellA} (h : ltC a a) : False := by grind [ltC]
theorem cmpC_lt {a b : CellA} (h : ltC a b) : cmpC a b = -1 := by
  rcases cmpC_cases a b with ⟨e, _⟩ | ⟨_, k⟩ | ⟨_, k⟩
  · exact e
  · exact (ltC_irrefl (ltC_eq h (eqC_symm k))).elim
  · exact (ltC_irrefl (ltC_trans h k)).elim
theorem cmpC_gt {a b : CellA} (h : ltC b a) : cmpC a b = 1 := by
  rcases cmpC_cases a b with ⟨_, k⟩ | ⟨_, k⟩ | ⟨e, _⟩
  · exact (ltC_irrefl (ltC_trans h k)).elim
  · exact (ltC_irrefl (ltC_eq h k)).elim
  · exact e
theorem cmpC_eq {a b : CellA} (h : eqC a b) : cmpC a b = 0 := by
  rcases cmpC_cases a b with ⟨_, k⟩ | ⟨e, _⟩ | ⟨_, k⟩
  · exact (ltC_irrefl (ltC_eq k (eqC_symm h))).elim
  · exact e
  · exact (ltC_irrefl (ltC_eq k h)).elim

/-- What is told of three cells' orders, in one. -/
theorem order_facts (a b c : CellA) :
    cmpC a a = 0 ∧ (cmpC a b ≤ 0 → cmpC b c ≤ 0 → cmpC a c ≤ 0) ∧ (cmpC a b < 0 → cmpC b c ≤ 0 → cmpC a c < 0) ∧ (cmpC a b = 0 → cmpC b c = cmpC a c) := by
  refine ⟨cmpC_eq ⟨rfl, rfl, rfl⟩, ?_⟩
  rcases cmpC_cases a b with ⟨e1, k1⟩ | ⟨e1, k1⟩ | ⟨e1, k1⟩ <;> rcases cmpC_cases b c with ⟨e2, k2⟩ | ⟨e2, k2⟩ | ⟨e2, k2⟩
  · have := cmpC_lt (ltC_trans k1 k2); omega
  · have := cmpC_lt (ltC_eq k1 k2); omega
  · omega
  · have := cmpC_lt (eqC_lt k1 k2); omega
  · have := cmpC_eq (eqC_trans k1 k2); omega
  · have := cmpC_gt (ltC_eq k2 (eqC_symm k1)); omega
  all_goals omega
theorem order_zero (a b : CellA) : cmpC a b = 0 ↔ eqC a b := by
  refine ⟨fun h => ?_, cmpC_eq⟩
  rcases cmpC_cases a b with ⟨e, _⟩ | ⟨_, k⟩ | ⟨e, _⟩
  · omega
  · exact k
  · omega
theorem order_ver (ar ac : ByteArray) (av : Int) (ag : Bool) (al : ByteArray) (bv : Int) (bg : Bool) (bl : ByteArray) : decide (cmpC ⟨ar, ac, av, ag, al⟩ ⟨ar, ac, bv, bg, bl⟩ < 0) = decide (bv < av) := by
  have h : cmpC ⟨ar, ac, av, ag, al⟩ ⟨ar, ac, bv, bg, bl⟩ < 0 ↔ bv < av := by
    rcases cmpC_cases ⟨ar, ac, av, ag, al⟩ ⟨ar, ac, bv, bg, bl⟩ with ⟨e, k⟩ | ⟨e, k⟩ | ⟨e, k⟩ <;> grind [ltC, eqC]
  simp only [h]
theorem cmpC_bounds (a b : CellA) : -1 ≤ cmpC a b ∧ cmpC a b ≤ 1 := by
  rcases cmpC_cases a b with ⟨e, _⟩ | ⟨e, _⟩ | ⟨e, _⟩ <;> omega

set_option maxRecDepth 100000 in
set_option maxHeartbeats 4000000 in
theorem order_law (ar ac : ByteArray) (av : Int) (ag : Bool) (al br bc : ByteArray) (bv : Int) (bg : Bool) (bl cr cc : ByteArray) (cv : Int) (cg : Bool) (cl : ByteArray) (w : World) :
    Calls Try.prog 7 #[.agg #[.string ar, .string ac, .int .u64 av, .bool ag, .string al], .agg #[.string br, .string bc, .int .u64 bv, .bool bg, .string bl], .agg #[.string cr, .string cc, .int .u64 cv, .bool cg, .string cl]] w
      fun e w' => e = .returned (.bool true) ∧ Below w.heap.size w w' := by
  obtain ⟨f1, f2, f3, f4⟩ := order_facts ⟨ar, ac, av, ag, al⟩ ⟨br, bc, bv, bg, bl⟩ ⟨cr, cc, cv, cg, cl⟩
  have f5 := order_zero ⟨ar, ac, av, ag, al⟩ ⟨br, bc, bv, bg, bl⟩
  have f6 := order_ver ar ac av ag al bv bg bl
  simp only [eqC] at f5
  generalize hx : cmpC ⟨ar, ac, av, ag, al⟩ ⟨br, bc, bv, bg, bl⟩ = x at *
  generalize hy : cmpC ⟨br, bc, bv, bg, bl⟩ ⟨cr, cc, cv, cg, cl⟩ = y at *
  generalize hz : cmpC ⟨ar, ac, av, ag, al⟩ ⟨cr, cc, cv, cg, cl⟩ = z at *
  have H5 := Lib.hid f5
  have H6 := Lib.hid f6
  clear f5 f6
  go_enter Try.func7, Try.ntmps7
  go_wp2
  refine wp_region_below (by kernel_rfl) (by kernel_rfl) (fun hkept => ?_)
  obtain ⟨r0, rf0⟩ := hkept (w.heap.size) (by go_size); obtain ⟨r1, rf1⟩ := hkept (w.heap.size + 1) (by go_size); obtain ⟨r2, rf2⟩ := hkept (w.heap.size + 2) (by go_size); clear hkept
  repeat (any_goals (first | go_big_quiet_step (first | (go_at_call 25; exact Calls.regrown_of (cmp_raw _ _ _ _ _ _ _ _ _ _ _))) | quiet_step (first | (go_at_call 25; exact Calls.regrown_of (cmp_raw _ _ _ _ _ _ _ _ _ _ _))) | (refine wpQuiet_step (fun K hK => ?_); go_simp; split <;> (refine hK _ ?_; clear hK K))))
  all_goals (refine wpQuiet_nil ?_; intro w1 hb; obtain ⟨hB, hS, hk⟩ := after (B := w.heap.size) (w := w) (by go_grown) (by go_size) hb; obtain ⟨c0, f0, z0⟩ := hk (w.heap.size) (by go_size); obtain ⟨c1, f1, z1⟩ := hk (w.heap.size + 1) (by go_size); obtain ⟨c2, f2, z2⟩ := hk (w.heap.size + 2) (by go_size); clear hk hb r0 rf0 r1 rf1 r2 rf2)
  go_wp2_with (first | (go_at_call 25; refine (cmp_raw _ _ _ _ _ _ _ _ _ _ _).mono ?_; rintro e w2 ⟨rfl, hb⟩; obtain ⟨hB, hS, hk⟩ := after (B := w.heap.size) (w := w) (by go_grown) (by go_size) hb; clear hb; obtain ⟨c0, f0, z0⟩ := hk (w.heap.size) (by go_size); obtain ⟨c1, f1, z1⟩ := hk (w.heap.size + 1) (by go_size); obtain ⟨c2, f2, z2⟩ := hk (w.heap.size + 2) (by go_size); clear hk))
  all_goals (have h5 := H5.out)
  all_goals (try (exfalso; grind; done))
  all_goals (clear h5; have h6 := H6.out)
  all_goals
    refine wp_region_below (by kernel_rfl) (by kernel_rfl) (fun hkept => ?_)
    obtain ⟨r0, rf0⟩ := hkept (w.heap.size) (by go_size); obtain ⟨r1, rf1⟩ := hkept (w.heap.size + 1) (by go_size); obtain ⟨r2, rf2⟩ := hkept (w.heap.size + 2) (by go_size); clear hkept
    repeat (any_goals (first | go_big_quiet_step (first | (go_at_call 25; exact Calls.regrown_of (cmp_raw _ _ _ _ _ _ _ _ _ _ _)) | (go_at_call 11; exact Calls.regrown_of (works_any _))) | quiet_step (first | (go_at_call 25; exact Calls.regrown_of (cmp_raw _ _ _ _ _ _ _ _ _ _ _)) | (go_at_call 11; exact Calls.regrown_of (works_any _))) | (refine wpQuiet_step (fun K hK => ?_); go_simp; split <;> (refine hK _ ?_; clear hK K))))
    all_goals (refine wpQuiet_nil ?_; intro w3 hb; obtain ⟨hB, hS, hk⟩ := after (B := w.heap.size) (w := w) (by go_grown) (by go_size) hb; obtain ⟨c0, f0, z0⟩ := hk (w.heap.size) (by go_size); obtain ⟨c1, f1, z1⟩ := hk (w.heap.size + 1) (by go_size); obtain ⟨c2, f2, z2⟩ := hk (w.heap.size + 2) (by go_size); clear hk hb r0 rf0 r1 rf1 r2 rf2)
    go_wp2
    go_returns
    exact ⟨rfl, by go_grown⟩

end Go.Proofs.Ytdmepdjlfdigeaa
