/-
  The walk of acreagelaw12.tells on a row that tells just these cells; merge.List on a row.
-/
import Derived.Test.YtehbikofoidjhaaGivesW
namespace Go.Proofs.Ytehbikofoidjhaa
open Go.RowKit

/-- behind some calls: the row has cs yet to tell -/
structure TRel (q : RI) (cs : List CellA) (w wr : World) : Prop where
  ex : ∃ F1, q.St cs F1 wr ∧ ∀ k, F1 k → q.F k ∨ w.heap.size ≤ k
  kept : Kept q.F w wr
theorem TRel.below {q : RI} {cs : List CellA} {w wr w1 : World} (h : TRel q cs w wr) (hB : Below wr.heap.size wr w1) : TRel q cs w w1 := by
  obtain ⟨⟨F1, h1, h2⟩, h3⟩ := h
  exact ⟨⟨F1, q.ok.keep h1 hB.size (fun k hk => hB.block k (q.ok.inb h1 k hk)), h2⟩, h3.trans (F' := fun _ => False) (Kept.of_below hB) (fun _ h => h.elim)⟩
theorem TRel.next {q : RI} {cs : List CellA} {w wr : World} (h : TRel q cs w wr) : Calls Try.prog q.f q.caps wr fun e w' => e = .returned (headV cs) ∧ TRel q cs.tail w w' ∧ wr.heap.size ≤ w'.heap.size := by
  obtain ⟨⟨F1, h1, h2⟩, h3⟩ := h
  refine (q.ok.next h1).mono ?_
  rintro e w' ⟨rfl, F2, h4, h5, h6⟩
  refine ⟨rfl, ⟨⟨F2, h4, fun k hk => ?_⟩, h3.trans h6 h2⟩, h6.size⟩
  rcases h5 k hk with h | h
  · exact h2 k h
  · exact .inr (by have := h3.size; omega)

set_option maxRecDepth 100000 in
set_option maxHeartbeats 4000000 in
theorem tells_true (q : RI) (ao : Option Addr) (n cap : Nat) (w : World) (hq : q.Here w) (hC : Cells w ao n cap q.cs) (ha : 0 < n → ∀ p, ao = some p → ¬ q.F p.block) :
    Calls Try.prog 10 #[.func (.func q.f) #[] q.caps, .slice ao n cap] w fun e w' => e = .returned (.bool true) ∧ Kept q.F w w' := by
  have hfq := func_eql (.func q.f) #[] q.caps
  have hl := hC.len
  have hn1 := Arr.fits hC
  have hn2 := Arr.max hC
  unfold maxLen at hn2
  have Hfn := Lib.hid q.ok.fn
  have HC := Lib.hid hC
  have Ha := Lib.hid ha
  have Hl := Lib.hid hl
  have HZ : Hid (TRel q (q.cs.drop 0) w w) := Lib.hid ⟨⟨q.F, hq, fun k hk => .inl hk⟩, Kept.refl _ _⟩
  clear hq hC ha hl
  go_enter Try.func10, Try.ntmps10
  go_wp2
  go_loopw [5] (fun i wr => ∃ k : Nat, k ≤ n ∧ i = .int .i64 k ∧ Hid (TRel q (q.cs.drop k) w wr)) (fun i _ => n - (intOf i).toNat)
  case atStart => exact ⟨0, by omega, rfl, HZ⟩
  case round =>
    obtain ⟨k, hk, rfl, hD⟩ := hrel
    by_cases hlt : k < n
    · obtain ⟨c, hc⟩ : ∃ c, q.cs[k]? = some c := ⟨_, List.getElem?_eq_getElem (by rw [Hl.out]; omega)⟩
      obtain ⟨b, off, rfl, hb, ⟨x0, x1, x2, x3, x4⟩⟩ := Cells.at_ HC.out hc
      have hds : q.cs.drop k = c :: q.cs.drop (k + 1) := by
        have hkl : k < q.cs.length := by rw [Hl.out]; exact hlt
        rw [List.drop_eq_getElem_cons hkl]
        congr 1
        have := List.getElem?_eq_getElem hkl
        rw [this] at hc
        exact Option.some.inj hc
      have KN0 := hD.out.next
      rw [hds] at KN0
      simp only [headV, List.tail_cons] at KN0
      have KN := Lib.hid KN0
      have hbF : ¬ q.F b := Ha.out (by omega) _ rfl
      have HbF := Lib.hid hbF
      have hzr := hD.out.kept.size
      obtain ⟨cr, cc, cv, cg, cl⟩ := c
      simp only at x0 x1 x2 x3 x4
      clear KN0 hds hc hbF hD
      go_wp2_with (refine wpList_call_row rfl _ rfl (by rfl) Hfn.out ?_; refine KN.out.mono ?_; rintro e w1 ⟨rfl, hT, hz1⟩; refine ⟨_, rfl, ?_⟩; have HT := Lib.hid hT; have hbk := hT.kept.block b hb HbF.out; have y0 := (World.cell?_of_block (a := ⟨b, _, none⟩) hbk).trans x0; have y1 := (World.cell?_of_block (a := ⟨b, _, none⟩) hbk).trans x1; have y2 := (World.cell?_of_block (a := ⟨b, _, none⟩) hbk).trans x2; have y3 := (World.cell?_of_block (a := ⟨b, _, none⟩) hbk).trans x3; have y4 := (World.cell?_of_block (a := ⟨b, _, none⟩) hbk).trans x4; have hb1 : b < w1.heap.size := (by omega); clear hT hbk)
      refine wp_region_below (by kernel_rfl) (by kernel_rfl) (fun hkept => ?_)
      obtain ⟨r0, rf0⟩ := hkept (b) (by go_size); obtain ⟨r1, rf1⟩ := hkept (w1.heap.size) (by go_size); clear hkept
      repeat (any_goals (first | go_big_quiet_step (fail) | quiet_step (fail) | (refine wpQuiet_step (fun K hK => ?_); go_simp; split <;> (refine hK _ ?_; clear hK K))))
      all_goals (refine wpQuiet_nil ?_; intro w5 hb; obtain ⟨hB, hS, hk⟩ := after (B := w1.heap.size) (w := w1) (by go_grown) (by go_size) hb; obtain ⟨c0, f0, z0⟩ := hk (b) (by go_size); obtain ⟨c1, f1, z1⟩ := hk (w1.heap.size) (by go_size); clear hk hb r0 rf0 r1 rf1)
      go_wp2
      exact ⟨⟨k + 1, by omega, by go_num, Lib.hid (HT.out.below hB)⟩, by simp [intOf]; omega⟩
    · obtain rfl : k = n := by omega
      have hD0 : Hid (TRel q [] w wr) := Lib.hid (by
        have := hD.out
        rwa [List.drop_of_length_le (by rw [Hl.out]; omega)] at this)
      clear hD HZ
      go_wp2
      go_loopw [8] (fun i wr => ∃ k : Nat, k ≤ 3 ∧ i = .int .i64 k ∧ Hid (TRel q [] w wr)) (fun i _ => 3 - (intOf i).toNat)
      case atStart => exact ⟨0, by omega, rfl, hD0⟩
      case round =>
        obtain ⟨j, hj, rfl, hE⟩ := hrel
        by_cases hlt3 : j < 3
        · have KN0 := hE.out.next
          simp only [headV, List.tail_nil] at KN0
          have KN := Lib.hid KN0
          clear KN0 hE
          go_wp2_with (refine wpList_call_row rfl _ rfl (by rfl) Hfn.out ?_; refine KN.out.mono ?_; rintro e w1 ⟨rfl, hT, hz1⟩; refine ⟨_, rfl, ?_⟩; have HT := Lib.hid hT; clear hT)
          exact ⟨⟨j + 1, by omega, by go_num, Lib.hid (HT.out.below ((Below.refl _ _).alloc (Nat.le_refl _) _))⟩, by simp [intOf]; omega⟩
        · obtain rfl : j = 3 := by omega
          go_wp2
          go_returns
          exact ⟨rfl, hE.out.kept⟩
/-- merge.List: the first cells; the row has the rest yet to tell -/
theorem list_gives (q : RI) (w : World) (hq : q.Here w) (most : Int) (m : Nat) (hm : (m : Int) = most ∨ (most ≤ 0 ∧ m = 0)) (hn : q.cs.length * 64 ≤ 140737488355328) :
    Calls Try.prog 17 #[.func (.func q.f) #[] q.caps, .int .i64 most] w fun e w' => ∃ v, e = .returned v ∧ Own w' w.heap.size v (q.cs.take m) ∧
      (∃ q' : RI, q'.f = q.f ∧ q'.caps = q.caps ∧ q'.cs = q.cs.drop m ∧ q'.Here w' ∧ ∀ k, q'.F k → q.F k ∨ w.heap.size ≤ k) ∧ Kept q.F w w' := by
  refine (list_any q.f q.caps q.St q.ok q.cs q.F w hq most m hm hn).mono ?_
  rintro e w' ⟨v, rfl, h⟩
  obtain ⟨h1, ⟨F', h2, h3, h4⟩, h5⟩ := h
  exact ⟨v, rfl, h1, ⟨⟨q.f, q.caps, q.St, q.ok, q.cs.drop m, F'⟩, rfl, rfl, rfl, h2, h3⟩, h5⟩
set_option maxRecDepth 100000 in
theorem list_nil (w : World) (most : Int) :
    Calls Try.prog 17 #[.nilFunc, .int .i64 most] w fun e w' => e = .returned (.slice none 0 0) ∧ Below w.heap.size w w' := by
  have hq := nil_neq
  go_enter Try.func17, Try.ntmps17
  go_wp2
  go_loopw [5, 6, 7] (fun v _ _ wr => v = .slice none 0 0 ∧ wr = w) (fun _ _ _ _ => 0)
  case atStart => exact ⟨rfl, rfl⟩
  case round =>
    obtain ⟨rfl, rfl⟩ := hrel
    go_wp2
    go_returns
    exact ⟨rfl, Below.refl _ _⟩
end Go.Proofs.Ytehbikofoidjhaa
