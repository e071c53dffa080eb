/-
  The walks of the document's rising, All for rows (acreageref12).
-/
import Derived.Test.YtehbikofoidjhaaRef12W
import Derived.Test.YtehbikofoidjhaaMergePlain
namespace Go.Proofs.Ytehbikofoidjhaa
open Go.RowKit Go.Sort

/-- the last cell that was kept -/
def lastR : Option CellA → List CellA → Option CellA
  | last, [] => last
  | _, y :: r => lastR (some y) r
theorem lastR_snoc (l : List CellA) (z : CellA) : ∀ last, lastR last (l ++ [z]) = some z := by
  induction l with
  | nil => intro last; rfl
  | cons a l ih => intro last; exact ih (some a)
theorem rise_snoc (x : CellA) : ∀ (l : List CellA) (last : Option CellA), riseL last (l ++ [x]) = riseL last l ++ (match lastR last (riseL last l) with | none => [x] | some z => if cmpC z x < 0 then [x] else [])
  | [], none => rfl
  | [], some c => by
    show riseL (some c) [x] = if cmpC c x < 0 then [x] else []
    rw [riseL]
    rfl
  | a :: l, none => by
    show a :: riseL (some a) (l ++ [x]) = _
    rw [rise_snoc x l (some a)]
    rfl
  | a :: l, some c => by
    show riseL (some c) (a :: (l ++ [x])) = _
    rw [riseL, riseL]
    by_cases h : cmpC c a < 0
    · rw [if_pos h, if_pos h, rise_snoc x l (some a)]
      rfl
    · rw [if_neg h, if_neg h, rise_snoc x l (some c)]
theorem rise_len : ∀ (l : List CellA) (last : Option CellA), (riseL last l).length ≤ l.length
  | [], last => by cases last <;> simp [riseL]
  | a :: l, none => by have := rise_len l (some a); simp [riseL]; omega
  | a :: l, some c => by
    have h1 := rise_len l (some a)
    have h2 := rise_len l (some c)
    rw [riseL]; split
    · simp; omega
    · simp; omega
theorem take_next {l : List CellA} {k : Nat} {x : CellA} (h : l[k]? = some x) : l.take (k + 1) = l.take k ++ [x] := by
  rw [List.take_add_one, h]; rfl

set_option maxRecDepth 100000 in
set_option maxHeartbeats 4000000 in
theorem rrise_any (ao : Option Addr) (n cap : Nat) (cs : List CellA) (w : World) (h : Cells w ao n cap cs) (hle : n ≤ 1000000) :
    Calls Try.prog 37 #[.slice ao n cap] w fun e w' => ∃ v, e = .returned v ∧ Own w' w.heap.size v (riseL none cs) ∧ Below w.heap.size w w' := by
  obtain ⟨i0, hi, hz0, hz1, hz2⟩ := info_parts Try.info_cell
  have Hi := Lib.hid hi
  have hln := hle
  have hf2 := Arr.fits h
  have hm2 := Arr.max h
  unfold maxLen at hm2
  have Hm := Lib.hid h.len
  have Hc := Lib.hid h
  clear h hi
  go_enter Try.func37, Try.ntmps37
  go_wp2
  go_loopw [3, 4] (fun v i wr => ∃ k : Nat, k ≤ n ∧ i = .int .i64 k ∧ Hid (Own wr w.heap.size v (riseL none (cs.take k))) ∧ Below w.heap.size w wr) (fun _ i _ => n - (intOf i).toNat)
  case atStart => exact ⟨0, by omega, rfl, Lib.hid (Row.nil _ _ _ _), Below.refl _ _⟩
  case round =>
    obtain ⟨k, hk, rfl, hO, hB0⟩ := hrel
    have hzr := hB0.size
    by_cases hlt : k < n
    · obtain ⟨x, hx⟩ : ∃ x, cs[k]? = some x := ⟨_, List.getElem?_eq_getElem (by rw [Hm.out]; omega)⟩
      obtain ⟨b, off, rfl, hb, ⟨x0, x1, x2, x3, x4⟩⟩ := Cells.at_ Hc.out hx
      obtain ⟨k0, k0f⟩ := keep_below hB0 b hb
      have hln1 : Hid ((riseL none (cs.take k)).length + 1 ≤ n) := Lib.hid (by
        have := rise_len (cs.take k) none
        rw [List.length_take] at this; omega)
      have Hst : Hid (riseL none (cs.take (k + 1)) = _) := Lib.hid ((congrArg (riseL none) (take_next hx)).trans (rise_snoc x (cs.take k) none))
      clear hx
      obtain ⟨out, hout⟩ : ∃ o, o = riseL none (cs.take k) := ⟨_, rfl⟩
      rw [← hout] at hO hln1 Hst
      clear hout
      rcases (show out = [] ∨ ∃ (pre : List CellA) (z : CellA), out = pre ++ [z] from by
        rcases List.eq_nil_or_concat out with h | ⟨l, b, h⟩
        · exact .inl h
        · exact .inr ⟨l, b, by rw [h, List.concat_eq_append]⟩) with rfl | ⟨pre, z, rfl⟩
      · obtain ⟨ao3, cap3, rfl, hC3⟩ := Own.cells_n (n := 0) hO.out rfl
        clear hC3
        go_wp2
        refine wp_region_below (by kernel_rfl) (by kernel_rfl) (fun hkept => ?_)
        obtain ⟨r0, rf0⟩ := hkept (b) (by go_size); clear hkept
        repeat (any_goals (first | go_big_quiet_step (fail) | quiet_step (fail) | (refine wpQuiet_step (fun K hK => ?_); go_simp; split <;> (refine hK _ ?_; clear hK K))))
        all_goals (refine wpQuiet_nil ?_; intro w5 hb; obtain ⟨hB, hS, hk⟩ := after (B := wr.heap.size) (w := wr) (by go_grown) (by go_size) hb; obtain ⟨c0, f0, z0⟩ := hk (b) (by go_size); clear hk hb r0 rf0)
        have hO5 := Lib.hid (hO.out.below hB)
        have hB5 := hB0.trans (hB.mono hzr)
        go_wp2_with (at_builtin; refine wpList_append_arr _ rfl _ _ 29 rfl w.heap.size 37 i0 _ 5 64 Try.underlying29 Hi.out hz0 hz1 hz2 rfl (by decide) (.slice ao3 0 cap3) _ _ rfl (Row.alloc hO5.out _) rfl (cells_new w5 _ [x] _ 1 _ rfl rfl (by decide) rfl) (by simp) (by unfold maxLen; simp) (by rw [World.size_alloc]; omega) ?_; intro v1 w6 hr6 hb6 hg6; have HR6 := Lib.hid hr6; have hB6 := hB5.trans (((Below.refl _ _).alloc hB5.size _).trans hb6); clear hr6 hb6 hg6)
        exact ⟨⟨k + 1, by omega, by go_num, Lib.hid (own_push (by rw [Hst.out]; rfl) HR6.out), hB6⟩, by simp [intOf]; omega⟩
      · obtain ⟨m, hm⟩ : ∃ m, m = pre.length := ⟨_, rfl⟩
        have hml : (pre ++ [z]).length = m + 1 := by rw [List.length_append, List.length_singleton, hm]
        have Hml := Lib.hid hml
        obtain ⟨ao3, cap3, rfl, hC3⟩ := Own.cells_n (n := m + 1) hO.out hml
        obtain ⟨b3, off3, e3, hb3, ⟨y0, y1, y2, y3, y4⟩⟩ := Cells.at_ hC3 (i := m) (c := z) (by rw [List.getElem?_append_right (by omega), hm, Nat.sub_self]; rfl)
        subst e3
        have hf3 := Arr.fits hC3
        have hm3 := Arr.max hC3
        unfold maxLen at hm3
        have hln2 : m + 1 + 1 ≤ n := by have := hln1.out; omega
        have heq := Lib.hid fun W => rcmp_any z x W
        obtain ⟨q, hq⟩ : ∃ q, cmpC z x = q := ⟨_, rfl⟩
        rw [lastR_snoc] at Hst
        simp only [CellA.v, hq] at heq Hst
        have hm1 : ((m : Int) + 1 == 0) = false := by rw [beq_eq_false_iff_ne]; omega
        clear hq hC3 hm hml
        by_cases hlt0 : q < 0
        · have hd1 : decide (q < 0) = true := by simpa using hlt0
          rw [if_pos hlt0] at Hst
          go_wp2
          refine wp_region_below (by kernel_rfl) (by kernel_rfl) (fun hkept => ?_)
          obtain ⟨r0, rf0⟩ := hkept (b) (by go_size); obtain ⟨r1, rf1⟩ := hkept (b3) (by go_size); clear hkept
          repeat (any_goals (first | go_big_quiet_step (first | (go_at_call 59; exact Calls.regrown_of (heq.out _))) | quiet_step (first | (go_at_call 59; exact Calls.regrown_of (heq.out _))) | (refine wpQuiet_step (fun K hK => ?_); go_simp; split <;> (refine hK _ ?_; clear hK K))))
          all_goals (refine wpQuiet_nil ?_; intro w5 hb; obtain ⟨hB, hS, hk⟩ := after (B := wr.heap.size) (w := wr) (by go_grown) (by go_size) hb; obtain ⟨c0, f0, z0⟩ := hk (b) (by go_size); obtain ⟨c1, f1, z1⟩ := hk (b3) (by go_size); clear hk hb r0 rf0 r1 rf1)
          have hO5 := Lib.hid (hO.out.below hB)
          have hB5 := hB0.trans (hB.mono hzr)
          go_wp2_with (at_builtin; refine wpList_append_arr _ rfl _ _ 29 rfl w.heap.size 37 i0 _ 5 64 Try.underlying29 Hi.out hz0 hz1 hz2 rfl (by decide) (.slice (some ⟨b3, off3, none⟩) (m + 1) cap3) _ _ rfl (by have := Row.alloc hO5.out; rw [Hml.out] at this; exact this _) rfl (cells_new w5 _ [x] _ 1 _ rfl rfl (by decide) rfl) (by omega) (by unfold maxLen; omega) (by rw [World.size_alloc]; omega) ?_; intro v1 w6 hr6 hb6 hg6; have HR6 := Lib.hid hr6; have hB6 := hB5.trans (((Below.refl _ _).alloc hB5.size _).trans hb6); clear hr6 hb6 hg6)
          exact ⟨⟨k + 1, by omega, by go_num, Lib.hid (own_push Hst.out (by rw [Hml.out]; exact HR6.out)), hB6⟩, by simp [intOf]; omega⟩
        · have hd1 : decide (q < 0) = false := by simpa using hlt0
          rw [if_neg hlt0, List.append_nil] at Hst
          go_wp2
          refine wp_region_below (by kernel_rfl) (by kernel_rfl) (fun hkept => ?_)
          obtain ⟨r0, rf0⟩ := hkept (b) (by go_size); obtain ⟨r1, rf1⟩ := hkept (b3) (by go_size); clear hkept
          repeat (any_goals (first | go_big_quiet_step (first | (go_at_call 59; exact Calls.regrown_of (heq.out _))) | quiet_step (first | (go_at_call 59; exact Calls.regrown_of (heq.out _))) | (refine wpQuiet_step (fun K hK => ?_); go_simp; split <;> (refine hK _ ?_; clear hK K))))
          all_goals (refine wpQuiet_nil ?_; intro w5 hb; obtain ⟨hB, hS, hk⟩ := after (B := wr.heap.size) (w := wr) (by go_grown) (by go_size) hb; obtain ⟨c0, f0, z0⟩ := hk (b) (by go_size); obtain ⟨c1, f1, z1⟩ := hk (b3) (by go_size); clear hk hb r0 rf0 r1 rf1)
          go_wp2
          exact ⟨⟨k + 1, by omega, by go_num, Lib.hid (by rw [Hst.out]; exact hO.out.below hB), hB0.trans (hB.mono hzr)⟩, by simp [intOf]; omega⟩
    · obtain rfl : k = n := by omega
      have hall : cs.take k = cs := List.take_of_length_le (by rw [Hm.out]; omega)
      rw [hall] at hO
      clear hall
      go_wp2
      go_returns
      exact ⟨_, rfl, hO.out, hB0⟩
end Go.Proofs.Ytehbikofoidjhaa
