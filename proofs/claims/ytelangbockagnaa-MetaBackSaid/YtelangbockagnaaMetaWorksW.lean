/-
  Places: the walk of the law's works (a place there and back).
-/
import Derived.Test.YtelangbockagnaaMetaPlain
import Derived.Test.YtelangbockagnaaMetaDW
namespace Go.Proofs.Ytelangbockagnaa
open Go.RowKit

theorem ints_lit (w : World) (T : TypeId) (l : List Int) (h0 : 0 < l.length) (hl : l.length ≤ maxLen) (cs : Array Value) (hcs : cs = (l.map (Value.int .i64)).toArray) : Ints (w.alloc (.cells cs T)) (some ⟨w.heap.size, 0, none⟩) l.length l.length l := by
  subst hcs
  refine ⟨intE_elems _, by simp, Nat.le_refl _, hl, fun _ => ⟨w.heap.size, 0, rfl, by rw [World.size_alloc]; omega, fun i e he j u hu => ?_⟩⟩
  rw [List.getElem?_map] at he
  cases hx : l[i]? with
  | none => rw [hx] at he; cases he
  | some x =>
    rw [hx] at he
    simp only [Option.map_some, Option.some.injEq] at he
    subst he
    have hj : j = 0 := by
      have := (List.getElem?_eq_some_iff.1 hu).1
      simp [intE] at this; exact this
    subst hj
    simp only [intE, List.getElem?_cons_zero, Option.some.injEq] at hu
    subst hu
    simp [World.cell?_alloc_new, hx]

def loc0 : LocA := ⟨3, ⟨#[]⟩, ⟨#[]⟩, 1, [0, 1, 2]⟩
theorem loc0_ok : okL loc0 = true := by
  simp [okL, loc0, mayL, Lib.toList_data, membersL, risesF, nodeB, riseB]
theorem loc0_enc : encM loc0 = [3, 0, 0, 1, 3, 0, 1, 2] := by
  have h0 : (⟨#[]⟩ : ByteArray).size = 0 := rfl
  simp [encM, loc0, numW, nodesB, numL_small, Lib.toList_data, h0]
theorem loc0_good : loc0.Ok := ⟨by decide, by decide, by decide, by decide⟩

theorem decode0 (W : World) : Calls Try.prog 10 #[.string ⟨#[3, 0, 0, 1, 3, 0, 1, 2]⟩] W fun e w' =>
    (∃ b off cap, e = .returned (.tuple #[.agg #[.int .i64 3, .string ⟨#[]⟩, .string ⟨#[]⟩, .int .u64 1, .slice (some ⟨b, off, none⟩) 3 cap], .int .i64 0]) ∧ b < w'.heap.size ∧ 3 ≤ cap ∧ cap ≤ maxLen ∧ w'.cell? ⟨b, off + 2, none⟩ = some (.int .i64 2)) ∧ Below W.heap.size W w' := by
  refine (mdecode_any ⟨#[3, 0, 0, 1, 3, 0, 1, 2]⟩ W (by decide)).mono ?_
  have hl : (⟨#[3, 0, 0, 1, 3, 0, 1, 2]⟩ : ByteArray).toList = encM loc0 := by rw [loc0_enc]; simp [Lib.toList_data]
  rw [hl, decM_complete loc0_ok (by decide)]
  rintro e w' ⟨h | ⟨h, _⟩, hb⟩
  · obtain ⟨c, ao, n, cap, hc, rfl, hi⟩ := h
    cases hc
    refine ⟨?_, hb⟩
    have hn : n = 3 := hi.len.symm
    subst hn
    obtain ⟨b, off, rfl, hb, x0⟩ := hi.at_ (x := 2) (i := 2) rfl
    refine ⟨b, off, cap, rfl, hb, hi.fits, hi.max, ?_⟩
    exact x0
  · cases h

set_option maxRecDepth 100000 in
set_option maxHeartbeats 4000000 in
theorem mworks_any (w : World) : Calls Try.prog 12 #[] w fun e w' => e = .returned (.bool true) ∧ Below w.heap.size w w' := by
  have K1 : Hid (∀ W, Ints W (some ⟨w.heap.size, 0, none⟩) 3 3 [0, 1, 2] → Calls Try.prog 5 #[.agg #[.int .i64 3, .string ⟨#[]⟩, .string ⟨#[]⟩, .int .u64 1, .slice (some ⟨w.heap.size, 0, none⟩) 3 3]] W fun e w' => e = .returned (.tuple #[.string ⟨#[3, 0, 0, 1, 3, 0, 1, 2]⟩, .int .i64 0]) ∧ Below W.heap.size W w') := Lib.hid fun W h => by
    have := mencode_good loc0 (some ⟨w.heap.size, 0, none⟩) 3 3 W loc0_good h loc0_ok
    rw [loc0_enc] at this
    exact this
  have K2 := Lib.hid fun W => decode0 W
  go_enter Try.func12, Try.ntmps12
  go_wp2_with (first
    | (go_at_call 5; refine (K1.out _ (ints_lit w _ [0, 1, 2] (by decide) (by decide) _ rfl)).mono ?_; rintro e w1 ⟨rfl, hb⟩; obtain ⟨hB, hS, hk⟩ := after (B := w.heap.size) (w := w) (by go_grown) (by go_size) hb; clear hb; obtain ⟨c0, f0, z0⟩ := hk (w.heap.size) (by go_size); clear hk)
    | (go_at_call 10; refine (K2.out _).mono ?_; rintro e w2 ⟨⟨b, off, cap, rfl, hbl, hc3, hcm, hx2⟩, hb2⟩; have hB2 := hB.trans (hb2.mono hS); have hS2 := hB2.size; clear hb2))
  go_returns
  exact ⟨rfl, by go_grown⟩
end Go.Proofs.Ytelangbockagnaa
