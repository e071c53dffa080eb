/-
  The walk of acreagelaw12.MergeSorts.
-/
import Derived.Test.YtehbikofoidjhaaMAll12W
import Derived.Test.YtehbikofoidjhaaNewest12W
namespace Go.Proofs.Ytehbikofoidjhaa
open Go.RowKit Go.Sort


def sortAll (es : List LI) : List CellA := (es.map fun s => sortL s.cs).flatten
theorem sortAll_snoc (es : List LI) (s : LI) : sortAll (es ++ [s]) = sortAll es ++ sortL s.cs := by simp [sortAll]
theorem rise_strict : ∀ {l : List CellA}, Strict l → riseL none l = l := by
  have key : ∀ (l : List CellA) (c : CellA), Strict (c :: l) → riseL (some c) l = l := by
    intro l
    induction l with
    | nil => intro c _; rfl
    | cons a l ih =>
      intro c h
      obtain ⟨h1, h2⟩ := List.pairwise_cons.1 h
      rw [riseL, if_pos (h1 a (List.mem_cons_self ..)), ih a h2]
  intro l h
  cases l with
  | nil => rfl
  | cons a l => rw [riseL, key l a h]
theorem riseAll_sorted (es : List LI) : riseAll (es.map fun s => sortL s.cs) = sortAll es := by
  unfold riseAll sortAll
  congr 1
  rw [List.map_map]
  apply List.map_congr_left
  intro s _
  exact rise_strict (sort_first s.cs).strict
theorem sortAll_len (M : Nat) : ∀ (es : List LI), (∀ s ∈ es, s.cs.length ≤ M) → (sortAll es).length ≤ es.length * M
  | [], _ => by simp [sortAll]
  | s :: es, h => by
    have h1 := sortAll_len M es (fun x hx => h x (List.mem_cons_of_mem _ hx))
    have h2 := sortL_len s.cs
    have h3 := h s (List.mem_cons_self ..)
    have e : sortAll (s :: es) = sortL s.cs ++ sortAll es := rfl
    rw [e, List.length_append, List.length_cons, Nat.succ_mul]
    omega

/-- a list that lies apart from two gatherings -/
structure LI.Far (w : World) (v3 v4 : Value) (wr : World) (s : LI) : Prop where
  ok : s.Ok wr
  far : ∀ p, s.ao = some p → w.heap.size ≤ p.block ∧ p.block < wr.heap.size ∧ v3.ownBlock ≠ some p.block ∧ v4.ownBlock ≠ some p.block
structure SRel (w : World) (es : List LI) (v3 v4 : Value) (wr : World) (es2 : List LI) : Prop where
  all : Own wr w.heap.size v3 (sortAll es)
  lists : OwnL wr w.heap.size v4 es2
  cs : es2.map LI.cs = es.map fun s => sortL s.cs
  far : ∀ s ∈ es2, s.Far w v3 v4 wr
  sep : ∀ g, v3.ownBlock = some g → v4.ownBlock ≠ some g
  bel : Below w.heap.size w wr
theorem own_block_of {w : World} {B : Nat} {ao : Option Addr} {n cap : Nat} {cs : List CellA} (h : Own w B (.slice ao n cap) cs) : ∀ p, ao = some p → B ≤ p.block ∧ p.block < w.heap.size ∧ (Value.slice ao n cap).ownBlock = some p.block := by
  intro p hp
  rcases Row.form h with ⟨e, _⟩ | ⟨g, cp, e, h1, h2, _⟩
  · simp only [Value.slice.injEq] at e; rw [e.1] at hp; cases hp
  · simp only [Value.slice.injEq] at e
    rw [e.1] at hp
    cases hp
    exact ⟨h1, h2, by rw [e.1]; rfl⟩
/-- one list more -/
theorem SRel.step {w wr w5 w6 X w7 : World} {es es2 : List LI} {v3 v4 v6 v7 : Value} {s : LI} {ao5 : Option Addr} {m5 cap5 : Nat} (h : SRel w es v3 v4 wr es2) (hb5 : Below wr.heap.size wr w5) (o5 : Own w5 wr.heap.size (.slice ao5 m5 cap5) (sortL s.cs)) (c5 : Cells w5 ao5 m5 cap5 (sortL s.cs))
    (o6 : Own w6 w.heap.size v6 (sortAll (es ++ [s]))) (g6 : w5.grownBy w6 v3.ownBlock) (ho6 : v6.ownBlock = v3.ownBlock ∨ v6.ownBlock = some w5.heap.size)
    (hX : Below w6.heap.size w6 X) (hXs : w6.heap.size < X.heap.size)
    (o7 : OwnL w7 w.heap.size v7 (es2 ++ [⟨ao5, m5, cap5, sortL s.cs⟩])) (g7 : X.grownBy w7 v4.ownBlock) (ho7 : v7.ownBlock = v4.ownBlock ∨ v7.ownBlock = some X.heap.size) :
    SRel w (es ++ [s]) v6 v7 w7 (es2 ++ [⟨ao5, m5, cap5, sortL s.cs⟩]) := by
  have z0 := h.bel.size
  have z5 := hb5.size
  have z6 := g6.size
  have zX := hX.size
  have z7 := g7.size
  have r3 : ∀ g, v3.ownBlock = some g → w.heap.size ≤ g ∧ g < wr.heap.size := fun g hg => Row.lt h.all g hg
  have r4 : ∀ g, v4.ownBlock = some g → w.heap.size ≤ g ∧ g < wr.heap.size := fun g hg => Row.lt h.lists g hg
  have r6 : ∀ g, v6.ownBlock = some g → g < w6.heap.size ∧ v4.ownBlock ≠ some g := fun g hg => by
    refine ⟨(Row.lt o6 g hg).2, fun e => ?_⟩
    rcases ho6 with k | k
    · exact h.sep g (k.symm.trans hg) e
    · rw [k] at hg; cases hg; have := (r4 _ e).2; omega
  -- a block of the old world that is neither gathering's stands
  have stay : ∀ k, k < w5.heap.size → v3.ownBlock ≠ some k → v4.ownBlock ≠ some k → w7.heap[k]? = w5.heap[k]? := fun k hk h3 h4 =>
    (g7.block k (by omega) (fun e => h4 e.symm)).trans ((hX.block k (by omega)).trans (g6.block k hk (fun e => h3 e.symm)))
  have own5 : ∀ p, ao5 = some p → wr.heap.size ≤ p.block ∧ p.block < w5.heap.size := fun p hp => ⟨(own_block_of o5 p hp).1, (own_block_of o5 p hp).2.1⟩
  have new6 : ∀ k, k < w5.heap.size → v3.ownBlock ≠ some k → v6.ownBlock ≠ some k := fun k hk h3 e => by
    rcases ho6 with q | q
    · exact h3 (q.symm.trans e)
    · rw [q] at e; cases e; omega
  have new7 : ∀ k, k < w5.heap.size → v4.ownBlock ≠ some k → v7.ownBlock ≠ some k := fun k hk h4 e => by
    rcases ho7 with q | q
    · exact h4 (q.symm.trans e)
    · rw [q] at e; cases e; omega
  refine ⟨Row.of_heap o6 (fun g hg => ?_), o7, ?_, fun x hx => ?_, fun g hg e => ?_, ?_⟩
  · obtain ⟨h1, h2⟩ := r6 g hg
    exact (g7.block g (by omega) (fun e => h2 e.symm)).trans (hX.block g h1)
  · rw [List.map_append, h.cs, List.map_append]; rfl
  · rcases List.mem_append.1 hx with hx | hx
    · obtain ⟨hk, hf⟩ := h.far x hx
      refine ⟨arr_keep hk (by omega) (fun p hp => ?_), fun p hp => ?_⟩
      · obtain ⟨_, h2, h3, h4⟩ := hf p hp
        exact (stay _ (by omega) h3 h4).trans (hb5.block _ h2)
      · obtain ⟨h1, h2, h3, h4⟩ := hf p hp
        exact ⟨h1, by omega, new6 _ (by omega) h3, new7 _ (by omega) h4⟩
    · simp only [List.mem_singleton] at hx
      subst hx
      have ne3 : ∀ p, ao5 = some p → v3.ownBlock ≠ some p.block := fun p hp e => by have := (own5 p hp).1; have := (r3 _ e).2; omega
      have ne4 : ∀ p, ao5 = some p → v4.ownBlock ≠ some p.block := fun p hp e => by have := (own5 p hp).1; have := (r4 _ e).2; omega
      refine ⟨arr_keep c5 (by show w5.heap.size ≤ _; omega) (fun p hp => stay _ (own5 p hp).2 (ne3 p hp) (ne4 p hp)), fun p hp => ?_⟩
      have hp' : ao5 = some p := hp
      obtain ⟨h1, h2⟩ := own5 p hp'
      exact ⟨by omega, by omega, new6 _ h2 (ne3 p hp'), new7 _ h2 (ne4 p hp')⟩
  · obtain ⟨h1, h2⟩ := r6 g hg
    rcases ho7 with q | q
    · exact h2 (q.symm.trans e)
    · rw [q] at e; cases e; omega
  · exact (((h.bel.trans (hb5.mono z0)).grown g6 (by omega) (fun k hk => (r3 k hk).1)).trans (hX.mono (by omega))).grown g7 (by omega) (fun k hk => (r4 k hk).1)

set_option maxRecDepth 100000 in
set_option maxHeartbeats 4000000 in
theorem mergesorts_any (ao : Option Addr) (n cap : Nat) (es : List LI) (w : World) (h : LLs w ao n cap es) (hok : ∀ s ∈ es, ∀ c ∈ s.cs, c.Ok) :
    Calls Try.prog 8 #[.slice ao n cap] w fun e w' => e = .returned (.bool true) ∧ Below w.heap.size w w' := by
  obtain ⟨i0, hi, hz0, hz1, hz2⟩ := info_parts Try.info_cell
  obtain ⟨j0, hj, hy0, hy1, hy2⟩ := info_parts Try.info_list
  have Hi := Lib.hid hi
  have Hj := Lib.hid hj
  have H := Lib.hid h
  obtain ⟨es1, he1⟩ : ∃ l, l = (es.take 8).map LI.cut := ⟨_, rfl⟩
  obtain ⟨hs1, hl1⟩ := cut_small es
  have hok1 : ∀ W, Below w.heap.size w W → ∀ s ∈ es1, s.Ok W := fun W hb s hs => by
    rw [he1] at hs
    obtain ⟨x, hx, rfl⟩ := List.mem_map.1 hs
    exact LI.cut_ok (Arr.below (h.ok x (List.mem_of_mem_take hx)) hb)
  have hcok : ∀ s ∈ es1, ∀ c ∈ s.cs, c.Ok := fun s hs c hc => by
    rw [he1] at hs
    obtain ⟨x, hx, rfl⟩ := List.mem_map.1 hs
    exact hok x (List.mem_of_mem_take hx) c (List.mem_of_mem_take hc)
  have hsh := fun W (h : LLs W ao n cap es) => short_any ao n cap es W h
  rw [← he1] at hs1 hl1 hsh
  obtain ⟨m, hm⟩ : ∃ m, m = es1.length := ⟨_, rfl⟩
  have HM := Lib.hid hm.symm
  rw [← hm] at hl1
  have HS1 := Lib.hid hs1
  have HSH := Lib.hid hsh
  have HOK := Lib.hid hok1
  have HCOK := Lib.hid hcok
  have HLEN : Hid (∀ j, (sortAll (es1.take j)).length ≤ 800) := Lib.hid (fun j => by
    have h1 := sortAll_len 100 (es1.take j) (fun s hs => by
      have h2 := List.mem_of_mem_take hs
      have h3 := Cells.len (hok1 w (Below.refl _ _) s h2)
      have := hs1 s h2
      omega)
    have : (es1.take j).length ≤ 8 := by rw [List.length_take]; omega
    omega)
  clear h he1 hs1 hok1 hsh hm hi hj hok hcok
  go_enter Try.func8, Try.ntmps8
  go_wp2_with fail
  refine (works12_any _).mono ?_
  rintro e w0 ⟨rfl, b0⟩
  have B0 := Lib.hid b0
  have z0 := b0.size
  clear b0
  go_wp2_with fail
  refine (HSH.out w0 (H.out.below B0.out)).mono ?_
  rintro e w1 ⟨v1, rfl, o1, b1⟩
  obtain ⟨ao1, cap1, rfl, a1⟩ := OwnL.lists o1 HM.out
  have B1 := Lib.hid (B0.out.trans (b1.mono z0))
  have L1 : Hid (LLs w1 ao1 m cap1 es1) := Lib.hid ⟨a1, HOK.out w1 B1.out⟩
  have z1 := B1.out.size
  have hf1 := Arr.fits a1
  have hm1 := Arr.max a1
  unfold maxLen at hm1
  clear o1 b1 a1 B0 z0
  go_wp2
  go_loopw [3, 4, 5] (fun v3 v4 i wr => ∃ (k : Nat) (es2 : List LI), k ≤ m ∧ i = .int .i64 k ∧ Hid (es2.length = k) ∧ Hid (SRel w1 (es1.take k) v3 v4 wr es2)) (fun _ _ i _ => m - (intOf i).toNat)
  case atStart => exact ⟨0, [], by omega, rfl, Lib.hid rfl, Lib.hid ⟨Row.nil _ _ _ _, Row.nil _ _ _ _, rfl, fun s h => (by cases h), fun g h => (by cases h), Below.refl _ _⟩⟩
  case round =>
    obtain ⟨k, es2, hk, rfl, hE, hD⟩ := hrel
    have hzr := hD.out.bel.size
    by_cases hlt : k < m
    · obtain ⟨s, hs⟩ : ∃ s, es1[k]? = some s := ⟨_, List.getElem?_eq_getElem (by rw [HM.out]; omega)⟩
      obtain ⟨b, off, rfl, hb, x0⟩ := LLs.at_ L1.out hs
      obtain ⟨k0, k0f⟩ := keep_below hD.out.bel b hb
      have hsok := L1.out.ok s (List.mem_of_getElem? hs)
      have hsn := HS1.out s (List.mem_of_getElem? hs)
      have Htk : Hid (es1.take (k + 1) = es1.take k ++ [s]) := Lib.hid (by rw [List.take_add_one, hs]; rfl)
      have Hst : Hid (sortAll (es1.take (k + 1)) = sortAll (es1.take k) ++ sortL s.cs) := Lib.hid (by rw [Htk.out]; exact sortAll_snoc _ _)
      have HS : Hid (Cells wr s.ao s.n s.cap s.cs) := Lib.hid (Arr.below hsok hD.out.bel)
      have HL0 := Lib.hid (HLEN.out k)
      have hl1' := sortL_len s.cs
      have hl2 := Cells.len HS.out
      obtain ⟨m5, hm5⟩ : ∃ m, m = (sortL s.cs).length := ⟨_, rfl⟩
      rw [← hm5] at hl1'
      have HM5 := Lib.hid hm5.symm
      clear hs hsok hm5
      obtain ⟨ao4, cap4, e4⟩ : ∃ ao4 cap4, u4 = .slice ao4 k cap4 := by
        have := Row.shape hD.out.lists
        rw [hE.out] at this; exact this
      subst e4
      go_wp2_with (first
        | (go_at_call 25; refine (sort_any _ _ _ s.cs _ HS.out (by omega)).mono ?_; rintro e w5 ⟨v5, rfl, o5, b5⟩; obtain ⟨ao5, cap5, rfl, c5⟩ := Own.cells_n o5 HM5.out; have C5 := Lib.hid c5; have OS5 := Lib.hid o5; have O5 := Lib.hid (Row.below hD.out.all b5); have BB5 := Lib.hid b5; have z5 := b5.size; clear o5 c5 b5)
        | (revert mk6; intro mk6; at_builtin; refine wpList_append_at _ rfl _ _ 22 rfl w1.heap.size 29 j0 _ 1 24 Try.underlying22 Hj.out hy0 hy1 hy2 rfl (by decide) (.slice ao4 k cap4) _ _ rfl (by have := Row.alloc mk6.out; rw [hE.out] at this; exact this _) rfl (arr_v1 w6 _ (.slice ao5 m5 cap5) rfl _ rfl) (by omega) (by unfold maxLen; omega) (by rw [World.size_alloc]; omega) ?_; intro v7 w7 hr7 hg7 ho7; have HP := Lib.hid (hD.out.step (s := s) BB5.out OS5.out C5.out (by rw [← Htk.out]; exact own_join Hst.out HM5.out HR6.out) HG6.out HO6.out ((Below.refl _ _).alloc (Nat.le_refl _) _) (by rw [World.size_alloc]; exact Nat.lt_succ_self _) (ownL_push (x := ⟨ao5, m5, cap5, sortL s.cs⟩) rfl rfl (by rw [hE.out]; exact hr7)) hg7 ho7); clear hr7 hg7 ho7)
        | (at_builtin; refine wpList_append_at _ rfl _ _ 29 rfl w1.heap.size 37 i0 _ 5 64 Try.underlying29 Hi.out hz0 hz1 hz2 rfl (by decide) u3 _ _ rfl O5.out rfl C5.out (by have := HL0.out; omega) (by have := HL0.out; unfold maxLen; omega) (by omega) ?_; intro v6 w6 hr6 hg6 ho6; have HR6 := Lib.hid hr6; have HG6 := Lib.hid hg6; have HO6 := Lib.hid ho6; have z6 := hg6.size; have mk6 : Hid (OwnL w6 w1.heap.size (.slice ao4 k cap4) es2) := Lib.hid (Row.of_heap (Row.below hD.out.lists BB5.out) (fun g hg => hg6.block g (by have := (Row.lt hD.out.lists g hg).2; omega) (fun e => hD.out.sep g e.symm hg))); clear hr6 hg6 ho6))
      exact ⟨⟨k + 1, es2 ++ [⟨ao5, m5, cap5, sortL s.cs⟩], by omega, by go_num, Lib.hid (by rw [List.length_append, hE.out]; rfl), Lib.hid (by rw [Htk.out]; exact HP.out)⟩, by simp [intOf]; omega⟩
    · obtain rfl : k = m := by omega
      have hall : es1.take k = es1 := List.take_of_length_le (by rw [HM.out]; omega)
      have hl0 := HLEN.out k
      rw [hall] at hD hl0
      have HL0 := Lib.hid hl0
      clear hall hl0
      have hcs2 := hD.out.cs
      obtain ⟨ao4, cap4, rfl, a4⟩ := OwnL.lists hD.out.lists hE.out
      obtain ⟨N, hN⟩ : ∃ N, N = (sortAll es1).length := ⟨_, rfl⟩
      obtain ⟨ao3, cap3, rfl, c3⟩ := Own.cells_n (n := N) hD.out.all hN.symm
      have L2 : Hid (LLs wr ao4 k cap4 es2) := Lib.hid ⟨a4, fun s hs => (hD.out.far s hs).ok⟩
      have A3 : Hid (Cells wr ao3 N cap3 (sortAll es1)) := Lib.hid c3
      have hN8 : N ≤ 800 := by rw [hN]; exact HL0.out
      have hsmall : Hid (∀ s ∈ es2, s.n ≤ 1000000) := Lib.hid (fun s hs => by
        have h1 := Cells.len (hD.out.far s hs).ok
        have h2 : s.cs ∈ es2.map LI.cs := List.mem_map.2 ⟨s, hs, rfl⟩
        rw [hcs2] at h2
        obtain ⟨x, hx, e⟩ := List.mem_map.1 h2
        have h3 := sortL_len x.cs
        have h4 := Cells.len (L1.out.ok x hx)
        have h5 := HS1.out x hx
        have h6 : s.cs.length = (sortL x.cs).length := by rw [← e]
        omega)
      have hRS : Hid (sortL (riseAll (es2.map LI.cs)) = sortL (sortAll es1)) := Lib.hid (by rw [hcs2, riseAll_sorted])
      have HOKS : Hid (∀ c ∈ sortAll es1, c.Ok) := Lib.hid (fun c hc => by
        obtain ⟨l, hl, hc2⟩ := List.mem_flatten.1 hc
        obtain ⟨s, hs, rfl⟩ := List.mem_map.1 hl
        exact HCOK.out s hs c (sortL_sub _ c hc2))
      have hf3 := Arr.fits c3
      have hm3 := Arr.max c3
      unfold maxLen at hm3
      have B := Lib.hid (B1.out.trans (hD.out.bel.mono z1))
      have z := B.out.size
      have hlS := sortL_len (sortAll es1)
      have hNl := hN.symm
      clear c3 a4 hcs2 hD hN HSH
      have BS := Lib.hid (Below.refl wr.heap.size wr)
      have zS := Nat.le_refl wr.heap.size
      go_wp2_with fail
      refine (rows_any ao4 k cap4 es2 wr L2.out (by omega) hsmall.out).mono ?_
      rintro e w21 ⟨vr, rs, rfl, hrl, hr⟩
      obtain ⟨aor, capr, rfl, ar⟩ := hr.arr hrl
      have HR := Lib.hid hr
      have Hrl := Lib.hid hrl
      have AR := Lib.hid ar
      clear hr hrl ar
      go_wp2_with fail
      refine (all_rows HR.out Hrl.out (by omega) AR.out).mono ?_
      rintro e w22 ⟨q, rfl, hc, hh, hf, hb⟩
      rw [hRS.out] at hc
      have Cq := Lib.hid hc
      have Hq := Lib.hid hh
      have Fq := Lib.hid hf
      have BS := Lib.hid hb
      have zS := BS.out.size
      clear hc hh hf hb HR Hrl AR
      have hlr : (sortL (sortAll es1)).length ≤ N := by
        omega
      go_wp2_with fail
      refine (list_gives q _ Hq.out ((N : Int) + 1) (N + 1) (.inl rfl) (by rw [Cq.out]; omega)).mono ?_
      rintro e w23 ⟨v, rfl, ho, _, hk⟩
      have hb := hk.below Fq.out zS
      have BS := Lib.hid (BS.out.trans hb)
      have zS := BS.out.size
      rw [Cq.out, List.take_of_length_le (by omega)] at ho
      obtain ⟨aol, capl, rfl, hl⟩ := Own.cells_n (n := (sortL (sortAll es1)).length) ho rfl
      have OL := Lib.hid hl
      clear ho hl hk hb hlr
      go_wp2_with fail
      refine (sort_any ao3 N cap3 _ _ (Cells.below A3.out BS.out) (by omega)).mono ?_
      rintro e w24 ⟨v2, rfl, ho2, hb⟩
      obtain ⟨aom, capm, rfl, hl2⟩ := Own.cells_n (n := (sortL (sortAll es1)).length) ho2 rfl
      have OL := Lib.hid (Arr.below OL.out hb)
      have OM := Lib.hid hl2
      have BS := Lib.hid (BS.out.trans (hb.mono zS))
      have zS := BS.out.size
      clear ho2 hb hl2
      go_wp2_with fail
      refine (same12_any _ _ _ _ _ _ (sortL (sortAll es1)) (sortL (sortAll es1)) _ OL.out OM.out).mono ?_
      rintro e w25 ⟨rfl, hb⟩
      rw [sameC_self]
      have BS := Lib.hid (BS.out.trans (hb.mono zS))
      have B := Lib.hid (B.out.trans (BS.out.mono z))
      have z := B.out.size
      have L2 := Lib.hid (L2.out.below BS.out)
      have A3 := Lib.hid (Cells.below A3.out BS.out)
      clear hb BS zS OL OM
      have BS := Lib.hid (Below.refl w25.heap.size w25)
      have zS := Nat.le_refl w25.heap.size
      go_wp2_with fail
      refine (rows_any ao4 k cap4 es2 w25 L2.out (by omega) hsmall.out).mono ?_
      rintro e w26 ⟨vr, rs, rfl, hrl, hr⟩
      obtain ⟨aor, capr, rfl, ar⟩ := hr.arr hrl
      have HR := Lib.hid hr
      have Hrl := Lib.hid hrl
      have AR := Lib.hid ar
      clear hr hrl ar
      go_wp2_with fail
      refine (all_rows HR.out Hrl.out (by omega) AR.out).mono ?_
      rintro e w27 ⟨q, rfl, hc, hh, hf, hb⟩
      rw [hRS.out] at hc
      have Cq := Lib.hid hc
      have Hq := Lib.hid hh
      have Fq := Lib.hid hf
      have BS := Lib.hid hb
      have zS := BS.out.size
      clear hc hh hf hb HR Hrl AR
      go_wp2_with fail
      refine (newest_gives q _ Hq.out).mono ?_
      rintro e w28 ⟨q2, rfl, hc, hh, hf, hb⟩
      rw [Cq.out, keepL_new] at hc
      have Cq2 : Hid (q2.cs = newestL (sortAll es1)) := Lib.hid hc
      have Hq2 := Lib.hid (show q2.Here w28 from hh)
      have Fq2 : Hid (∀ k, q2.F k → w25.heap.size ≤ k) := Lib.hid (fun k hk => (hf k hk).elim (Fq.out k) (fun h => Nat.le_trans zS h))
      have BS := Lib.hid (BS.out.trans (hb.mono zS))
      have zS := BS.out.size
      clear hc hh hf hb Hq Fq Cq
      have hlr : (newestL (sortAll es1)).length ≤ N := by
        have := newestL_len (sortAll es1)
        omega
      go_wp2_with fail
      refine (list_gives q2 _ Hq2.out ((N : Int) + 1) (N + 1) (.inl rfl) (by rw [Cq2.out]; omega)).mono ?_
      rintro e w29 ⟨v, rfl, ho, _, hk⟩
      have hb := hk.below Fq2.out zS
      have BS := Lib.hid (BS.out.trans hb)
      have zS := BS.out.size
      rw [Cq2.out, List.take_of_length_le (by omega)] at ho
      obtain ⟨aol, capl, rfl, hl⟩ := Own.cells_n (n := (newestL (sortAll es1)).length) ho rfl
      have OL := Lib.hid hl
      clear ho hl hk hb hlr
      go_wp2_with fail
      refine (newest_any ao3 N cap3 _ _ (Cells.below A3.out BS.out) (by omega)).mono ?_
      rintro e w30 ⟨v2, rfl, ho2, hb⟩
      obtain ⟨aom, capm, rfl, hl2⟩ := Own.cells_n (n := (newestL (sortAll es1)).length) ho2 rfl
      have OL := Lib.hid (Arr.below OL.out hb)
      have OM := Lib.hid hl2
      have BS := Lib.hid (BS.out.trans (hb.mono zS))
      have zS := BS.out.size
      clear ho2 hb hl2
      go_wp2_with fail
      refine (same12_any _ _ _ _ _ _ (newestL (sortAll es1)) (newestL (sortAll es1)) _ OL.out OM.out).mono ?_
      rintro e w31 ⟨rfl, hb⟩
      rw [sameC_self]
      have BS := Lib.hid (BS.out.trans (hb.mono zS))
      have B := Lib.hid (B.out.trans (BS.out.mono z))
      have z := B.out.size
      have L2 := Lib.hid (L2.out.below BS.out)
      have A3 := Lib.hid (Cells.below A3.out BS.out)
      clear hb BS zS OL OM
      have BS := Lib.hid (Below.refl w31.heap.size w31)
      have zS := Nat.le_refl w31.heap.size
      go_wp2_with fail
      refine (rows_any ao4 k cap4 es2 w31 L2.out (by omega) hsmall.out).mono ?_
      rintro e w32 ⟨vr, rs, rfl, hrl, hr⟩
      obtain ⟨aor, capr, rfl, ar⟩ := hr.arr hrl
      have HR := Lib.hid hr
      have Hrl := Lib.hid hrl
      have AR := Lib.hid ar
      clear hr hrl ar
      go_wp2_with fail
      refine (all_rows HR.out Hrl.out (by omega) AR.out).mono ?_
      rintro e w33 ⟨q, rfl, hc, hh, hf, hb⟩
      rw [hRS.out] at hc
      have Cq := Lib.hid hc
      have Hq := Lib.hid hh
      have Fq := Lib.hid hf
      have BS := Lib.hid hb
      have zS := BS.out.size
      clear hc hh hf hb HR Hrl AR
      go_wp2_with fail
      refine (alive_gives q _ Hq.out).mono ?_
      rintro e w34 ⟨q2, rfl, hc, hh, hf, hb⟩
      rw [Cq.out, keepL_alive] at hc
      have Cq2 : Hid (q2.cs = aliveL (sortAll es1)) := Lib.hid hc
      have Hq2 := Lib.hid (show q2.Here w34 from hh)
      have Fq2 : Hid (∀ k, q2.F k → w31.heap.size ≤ k) := Lib.hid (fun k hk => (hf k hk).elim (Fq.out k) (fun h => Nat.le_trans zS h))
      have BS := Lib.hid (BS.out.trans (hb.mono zS))
      have zS := BS.out.size
      clear hc hh hf hb Hq Fq Cq
      have hlr : (aliveL (sortAll es1)).length ≤ N := by
        have := filtL_len goneC (newestL (sortAll es1))
        have := newestL_len (sortAll es1)
        have e : aliveL (sortAll es1) = filtL goneC (newestL (sortAll es1)) := rfl
        rw [e]
        omega
      go_wp2_with fail
      refine (list_gives q2 _ Hq2.out ((N : Int) + 1) (N + 1) (.inl rfl) (by rw [Cq2.out]; omega)).mono ?_
      rintro e w35 ⟨v, rfl, ho, _, hk⟩
      have hb := hk.below Fq2.out zS
      have BS := Lib.hid (BS.out.trans hb)
      have zS := BS.out.size
      rw [Cq2.out, List.take_of_length_le (by omega)] at ho
      obtain ⟨aol, capl, rfl, hl⟩ := Own.cells_n (n := (aliveL (sortAll es1)).length) ho rfl
      have OL := Lib.hid hl
      clear ho hl hk hb hlr
      go_wp2_with fail
      refine (alive_any ao3 N cap3 _ _ (Cells.below A3.out BS.out) HOKS.out (by omega)).mono ?_
      rintro e w36 ⟨v2, rfl, ho2, hb⟩
      obtain ⟨aom, capm, rfl, hl2⟩ := Own.cells_n (n := (aliveL (sortAll es1)).length) ho2 rfl
      have OL := Lib.hid (Arr.below OL.out hb)
      have OM := Lib.hid hl2
      have BS := Lib.hid (BS.out.trans (hb.mono zS))
      have zS := BS.out.size
      clear ho2 hb hl2
      go_wp2_with fail
      refine (same12_any _ _ _ _ _ _ (aliveL (sortAll es1)) (aliveL (sortAll es1)) _ OL.out OM.out).mono ?_
      rintro e w37 ⟨rfl, hb⟩
      rw [sameC_self]
      have BS := Lib.hid (BS.out.trans (hb.mono zS))
      have B := Lib.hid (B.out.trans (BS.out.mono z))
      have z := B.out.size
      have L2 := Lib.hid (L2.out.below BS.out)
      have A3 := Lib.hid (Cells.below A3.out BS.out)
      clear hb BS zS OL OM
      go_wp2_with fail
      go_returns
      exact ⟨rfl, B.out⟩
end Go.Proofs.Ytehbikofoidjhaa
