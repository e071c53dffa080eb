/-
  Tables: the walk of From and of the iterator that it hands back.
-/
import Derived.Test.YtihglmicgccgiaaTblI
namespace Go.Proofs.Ytihglmicgccgiaa
open Go.RowKit Go.Shelf

attribute [local go_sem] Oper.semAt_some readsUpon
set_option maxRecDepth 100000 in
theorem from_any (q : Option Addr) (row col : ByteArray) (w : World) :
    Calls Try.prog 11 #[.pointer q, .string row, .string col] w fun e w' => e = .returned (.func (.func 23) #[] #[.pointer (some ⟨w.heap.size, 0, none⟩), .pointer (some ⟨w.heap.size + 1, 0, none⟩)]) ∧
      Below w.heap.size w w' ∧ w'.heap.size = w.heap.size + 2 ∧ w'.cell? ⟨w.heap.size, 0, none⟩ = some (.pointer q) ∧ w'.cell? ⟨w.heap.size + 1, 0, none⟩ = some (.string row) ∧ w'.cell? ⟨w.heap.size + 1, 1, none⟩ = some (.string col) := by
  go_enter Try.func11, Try.ntmps11
  go_wp2
  go_ret
  exact ⟨rfl, by go_grown, by simp, by go_simp, by go_simp, by go_simp⟩
/-- what the iterator looks at: the table, and its own two blocks -/
structure FromK (W0 : World) (p b1 b2 : Nat) (row col : ByteArray) (bss : List (List CellA)) (V : World) : Prop where
  tab : TableM W0 p bss V
  c1 : V.cell? ⟨b1, 0, none⟩ = some (.pointer (some ⟨p, 0, none⟩))
  c2 : V.cell? ⟨b2, 0, none⟩ = some (.string row)
  c3 : V.cell? ⟨b2, 1, none⟩ = some (.string col)
theorem told_all_le (row col : ByteArray) (bss : List (List CellA)) (m : Nat) : toldN row col bss m ≤ (toldT row col bss.flatten).length := by
  obtain ⟨r, hr⟩ := flat_pre bss m
  rw [hr, toldT_append, List.length_append]
  unfold toldN
  omega
def fromF (M b1 b2 : Nat) (k : Nat) : Prop := k < M ∨ k = b1 ∨ k = b2
theorem FromK.keep {W0 : World} {p b1 b2 : Nat} {row col : ByteArray} {bss : List (List CellA)} {V V' : World} (h : FromK W0 p b1 b2 row col bss V) (hs : V.heap.size ≤ V'.heap.size) (hk : ∀ k, fromF W0.heap.size b1 b2 k → k < V.heap.size → V'.heap[k]? = V.heap[k]?) : FromK W0 p b1 b2 row col bss V' := by
  have l1 := World.block_lt_of_cell? _ _ h.c1
  have l2 := World.block_lt_of_cell? _ _ h.c2
  simp only at l1 l2
  exact ⟨h.tab.keep (Nat.le_trans h.tab.le hs) fun k hkM => hk k (.inl hkM) (by have := h.tab.le; omega), (World.cell?_of_block (a := ⟨b1, 0, none⟩) (hk b1 (.inr (.inl rfl)) l1)).trans h.c1, (World.cell?_of_block (a := ⟨b2, 0, none⟩) (hk b2 (.inr (.inr rfl)) l2)).trans h.c2, (World.cell?_of_block (a := ⟨b2, 1, none⟩) (hk b2 (.inr (.inr rfl)) l2)).trans h.c3⟩
theorem FromK.below {W0 : World} {p b1 b2 : Nat} {row col : ByteArray} {bss : List (List CellA)} {V V' : World} (h : FromK W0 p b1 b2 row col bss V) (hb : Below V.heap.size V V') : FromK W0 p b1 b2 row col bss V' := h.keep hb.size fun k _ hk => hb.block k hk
theorem FromK.kpc {W0 : World} {p b1 b2 B : Nat} {row col : ByteArray} {bss : List (List CellA)} {V V' : World} (h : FromK W0 p b1 b2 row col bss V) (hb : KpC (fromF W0.heap.size b1 b2) B V V') : FromK W0 p b1 b2 row col bss V' := h.keep hb.size fun k hf hk => hb.same k (.inl hf) hk

set_option maxRecDepth 100000 in
set_option maxHeartbeats 8000000 in
theorem from1_seq (n : Nat) (hn : 1 ≤ n) (W0 : World) (p b1 b2 : Nat) (row col : ByteArray) (bss : List (List CellA)) (w : World) (hK : FromK W0 p b1 b2 row col bss w) (hg : GoodB bss) (hr : wrongB bss.flatten = false) (hl1 : bss.length ≤ 10000) :
    SeqA (α := CellA) n Try.prog 23 #[.pointer (some ⟨b1, 0, none⟩), .pointer (some ⟨b2, 0, none⟩)] (fun c => #[c.v]) (toldT row col bss.flatten) (fromF W0.heap.size b1 b2) w := by
  intro l J Jx W hW hJ hJx hY hJ0
  have HY := Lib.hid hY
  have HJ := Lib.hid hJ
  have H0 := Lib.hid hJ0
  have Hg := Lib.hid hg
  have Hr := Lib.hid hr
  have hWz := hW.size
  have hK1 := hK.below hW
  have HK := Lib.hid hK1
  obtain ⟨ao, cap, hd0, hB⟩ := hK1.tab.tab.ex
  have hpl := hK1.tab.tab.lt
  have hWM := hK1.tab.le
  have Hd := Lib.hid fun (V : World) (h : FromK W0 p b1 b2 row col bss V) => (h.tab.cell hpl).trans hd0
  have d0 := Hd.out W hK1
  have d2 := hK1.tab.at_.c2
  have KN := Lib.hid fun (V : World) (h : V.cell? ⟨p, 2, none⟩ = some (.bool true)) => tnone_any p V h
  have KS := Lib.hid fun (V : World) (h : FromK W0 p b1 b2 row col bss V) => search_any bss.length (atB row col bss) (atB_mono hg hr row col) b1 b2 V (by omega) (fun i hi W2 hW2 => by
    have h2 := h.below hW2
    have := from11_any i b1 b2 p row col bss bss[i] W2 h2.c1 h2.c2 h2.c3 h2.tab.at_ (List.getElem?_eq_getElem hi) (hg.each _ (List.getElem_mem _)).1
    have e : atB row col bss i = !aheadT row col (lastC bss[i]) := by unfold atB; rw [List.getElem?_eq_getElem hi]
    rw [e]
    exact this)
  have HB := Lib.hid hB
  have e1 := hK1.c1
  have e2 := hK1.c2
  have e3 := hK1.c3
  have hbf := hB.fits
  obtain ⟨m, hm⟩ : ∃ m, m = bss.length := ⟨_, rfl⟩
  have Hz := Lib.hid fun k (h : CutF (atB row col bss) bss.length k) => told_zero hg row col h k (Nat.le_refl _)
  have hall := toldN_all row col bss
  rw [← hm] at d0 HB KS hbf hl1 Hd Hz hall
  have Hm := Lib.hid hm
  have Hall := Lib.hid hall
  obtain ⟨L, hL⟩ : ∃ L, L = toldT row col bss.flatten := ⟨_, rfl⟩
  rw [← hL] at HY Hall ⊢
  have HLn := Lib.hid hL
  clear hY hJ hJ0 hJx hK hK1 hB hm hg hr hd0 hall hL
  refine callsIn_of_wp (F := Fence.wide) Try.func23 rfl trivial ?_ rfl
  refine wpIn_wide.2 ?_
  simp only [Try.ntmps23, List.size_toArray, List.length_cons, List.length_nil, Nat.reduceAdd, Nat.reduceSub, Array.replicate_succ, Array.replicate_zero, List.push_toArray, List.append_toArray, List.nil_append, List.cons_append]
  go_wp2_with fail
  refine (KN.out W d2).mono ?_
  rintro e w' ⟨rfl, rfl⟩
  go_wp2_with fail
  refine (KS.out W HK.out).mono ?_
  rintro e w1 ⟨k, hcut, rfl, hb1⟩
  have HK1 := Lib.hid (HK.out.below hb1)
  have HJ1 : Hid (J (toldN row col bss (k + 0)) w1) := Lib.hid (by
    have h := HJ.out _ _ _ none H0.out (grown_none' hb1) (fun r e => by cases e)
    rw [Nat.add_zero, Hz.out k hcut]
    exact h)
  have hkm := hcut.le
  have hz1 := hb1.size
  have f0 := Hd.out w1 HK1.out
  have f1 := HK1.out.c1
  clear hb1 hcut Hz KS KN d0 d2 e1 e2 e3
  obtain ⟨hbf1, hbf2⟩ := hbf
  by_cases hkm2 : k = m
  · subst hkm2
    have HN : Hid (J L.length w1) := Lib.hid (by rw [← Hall.out]; exact HJ1.out)
    rcases ao with _ | ⟨b, off, pa⟩
    · go_wp2
      all_goals (refine wp_loop_rounds 1 ?_; rw [rounds_succ]; go_wp2; go_end0; exact ⟨⟨_, rfl⟩, .inl HN.out⟩)
    · go_wp2
      all_goals (refine wp_loop_rounds 1 ?_; rw [rounds_succ]; go_wp2; go_end0; exact ⟨⟨_, rfl⟩, .inl HN.out⟩)
  · have hkm3 : k < m := by omega
    have hkc : k < cap := by omega
    obtain ⟨b, off, _, _, rfl, _⟩ := HB.out.at_ (i := 0) (bs := bss[0]'(by rw [← Hm.out]; omega)) (List.getElem?_eq_getElem _)
    go_wp2
    refine (wpIn_wide (n := n)).1 ?_
    gi_loopw [27] (fun i wr => ∃ j : Nat, j ≤ m - k ∧ i = .int .i64 j ∧ Hid (J (toldN row col bss (k + j)) wr) ∧ Hid (FromK W0 p b1 b2 row col bss wr) ∧ W.heap.size ≤ wr.heap.size) (fun i _ => m - k - (intOf i).toNat)
    case atStart => exact ⟨0, by omega, rfl, HJ1, HK1, by omega⟩
    case round =>
      clear HJ1 HK1 f0 f1
      obtain ⟨j, hj, rfl, hJ1, hK1, hzr⟩ := hrel
      obtain ⟨Wr, rfl⟩ : ∃ V : World, V = wr := ⟨_, rfl⟩
      by_cases hlt : j < m - k
      · obtain ⟨bs, hbs⟩ : ∃ bs, bss[k + j]? = some bs := ⟨_, List.getElem?_eq_getElem (by rw [← Hm.out]; omega)⟩
        obtain ⟨b', off', a, c, e0, hbl, hbc, hcs⟩ := HB.out.at_ hbs
        cases e0
        obtain ⟨hne, hbk⟩ := Hg.out.each bs (List.mem_of_getElem? hbs)
        have hlp := List.length_pos_iff.2 hne
        have hb6 := block_cells hbk
        have x0 : Wr.cell? ⟨b, off + k + j, none⟩ = some (.slice a bs.length c) := by
          rw [Nat.add_assoc]
          exact (hK1.out.tab.cell hbl).trans hbc
        have hmono := atC_mono hbk.good row col
        have KB := Lib.hid (bsearch_any a bs.length c bs row col Wr (Arr.blocks hcs hK1.out.tab.le hK1.out.tab.same) hmono (by omega))
        have Hcs := Lib.hid hcs
        have hcl := Arr.fits hcs
        have hcm := Arr.max hcs
        unfold maxLen at hcm
        have htn := toldN_succ (row := row) (col := col) hbs
        have Htn := Lib.hid htn
        have Hget := Lib.hid fun (i : Nat) (x : CellA) (h : (toldT row col bs)[i]? = some x) => told_get hbs h
        have Hct := Lib.hid fun k2 (h : CutF (atC row col bs) bs.length k2) => cut_told h
        have g2 := hK1.out.c2
        have g3 := hK1.out.c3
        obtain ⟨bx, ox, rfl, hbx, _⟩ := Cells.at_ hcs (i := 0) (c := bs[0]'hlp) (List.getElem?_eq_getElem hlp)
        obtain ⟨q, hq⟩ : ∃ q, q = bs.length := ⟨_, rfl⟩
        rw [← hq] at x0 KB Hcs hcl hlp hb6 Hct
        have Hq := Lib.hid hq
        clear hbs hbl hbc hcs hne hbk hmono htn hq
        gi_wp2_with fail
        refine ⟨trivial, callsIn_wide.2 (KB.out.mono ?_)⟩
        rintro e w2 ⟨k2, hcut, rfl, hb2⟩
        have HK2 := Lib.hid (hK1.out.below hb2)
        have HJ2 : Hid (J (toldN row col bss (k + j) + 0) w2) := Lib.hid (HJ.out _ _ _ none hJ1.out (grown_none' hb2) (fun r e => by cases e))
        have hz2 := hb2.size
        have htl := Hct.out k2 hcut
        have Htl := Lib.hid htl
        have hk2 := hcut.le
        clear hb2 hcut KB Hct htl hJ1 hK1 x0 g2 g3
        by_cases hkq : k2 = q
        · subst hkq
          have hJ3 : Hid (J (toldN row col bss (k + (j + 1))) w2) := Lib.hid (by
            have h := HJ2.out
            rw [← Nat.add_assoc, Htn.out, Htl.out, List.drop_eq_nil_of_le (by rw [← Hq.out]; exact Nat.le_refl _)]
            exact h)
          clear HJ2
          gi_wp2
          all_goals (refine wpIn_loop_rounds 1 ?_; rw [roundsIn_succ]; gi_wp2; exact ⟨⟨j + 1, by omega, by go_num, hJ3, HK2, by omega⟩, by simp [intOf]; omega⟩)
        · have hk3 : k2 < q := by omega
          have hkc2 : k2 < c := by omega
          have hTL := told_all_le row col bss (k + j)
          obtain ⟨T, hT⟩ : ∃ T, T = toldN row col bss (k + j) := ⟨_, rfl⟩
          rw [← hT] at HJ2 Htn Hget hTL
          clear hT
          rw [← HLn.out] at Hget hTL
          gi_wp2_with fail
          gi_loopw [41] (fun i wr => ∃ i' : Nat, i' ≤ q - k2 ∧ i = .int .i64 i' ∧ Hid (J (T + i') wr) ∧ Hid (FromK W0 p b1 b2 row col bss wr) ∧ W.heap.size ≤ wr.heap.size) (fun i _ => q - k2 - (intOf i).toNat)
          case atStart => exact ⟨0, by omega, rfl, HJ2, HK2, by omega⟩
          case round =>
            clear HJ2 HK2
            obtain ⟨i', hi', rfl, hJ4, hK4, hz4⟩ := hrel
            by_cases hlt2 : i' < q - k2
            · obtain ⟨x, hx⟩ : ∃ x, bs[k2 + i']? = some x := ⟨_, List.getElem?_eq_getElem (by rw [← Hq.out]; omega)⟩
              obtain ⟨bx', ox', e0, hbx', hca⟩ := Cells.at_ Hcs.out hx
              cases e0
              rw [Nat.add_mul, ← Nat.add_assoc] at hca
              obtain ⟨x0, x1, x2, x3, x4⟩ := hca
              rw [← hK4.out.tab.cell hbx] at x0 x1 x2 x3 x4
              have hxL := Hget.out i' x (by rw [Htl.out, List.getElem?_drop]; exact hx)
              have hlen : T + i' + 1 ≤ L.length := (List.getElem?_eq_some_iff.1 hxL).1
              obtain ⟨xr, xc, xv, xg, xl⟩ := x
              simp only at x0 x1 x2 x3 x4
              have hA : Below wr.heap.size wr (wr.alloc (.cells #[.string xr, .string xc, .int .u64 xv, .bool xg, .string xl] 31)) := (Below.refl _ _).alloc (Nat.le_refl _) _
              have hJd := HJ.out (T + i') wr _ none hJ4.out (grown_none' hA) (fun r e => by cases e)
              have hKd := Lib.hid (hK4.out.below hA)
              obtain ⟨fn, tmps, assign, body, hyy, hR⟩ := HY.out (T + i') _ _ hxL hJd
              try dsimp only [CellA.v] at hyy
              have HR := Lib.hid hR
              have hzA := hA.size
              clear hR hJd hxL hx hA hJ4 hK4
              gi_wp2_with fail
              refine HR.out.mono ?_
              rintro e W3 (⟨rfl, hJ5, hk5⟩ | ⟨rfl, hJ5, hk5⟩)
              · have HJ5 : Hid (J (T + (i' + 1)) W3) := Lib.hid hJ5
                have HK5 := Lib.hid (hKd.out.kpc hk5)
                have hz5 := hk5.size
                have hz6 : W.heap.size ≤ W3.heap.size := by omega
                clear hJ5 hk5 hz5 hzA
                gi_wp2_with fail
                exact ⟨⟨i' + 1, by omega, by go_num, HJ5, HK5, hz6⟩, by simp [intOf]; omega⟩
              · have HJ5 := Lib.hid hJ5
                clear hJ5 hk5
                gi_wp2_with fail
                refine bodyPost_ret (results_none rfl _ _ _) rfl ?_
                exact ⟨⟨_, rfl⟩, .inr ⟨T + i' + 1, hlen, HJ5.out⟩⟩
            · obtain rfl : i' = q - k2 := by omega
              have hJ5 : J (toldN row col bss (k + (j + 1))) wr := by
                have h := hJ4.out
                rw [← Nat.add_assoc, Htn.out, Htl.out, List.length_drop, ← Hq.out]
                exact h
              have HJ5 := Lib.hid hJ5
              clear hJ5 hJ4
              gi_wp2
              exact ⟨⟨j + 1, by omega, by go_num, HJ5, hK4, hz4⟩, by simp [intOf]; omega⟩
      · obtain rfl : j = m - k := by omega
        have hJ2 : J L.length Wr := by rw [← Hall.out, ← show k + (m - k) = m by omega]; exact hJ1.out
        have HN := Lib.hid hJ2
        clear hJ2 hJ1
        gi_wp2
        go_end0
        exact ⟨⟨_, rfl⟩, .inl HN.out⟩
end Go.Proofs.Ytihglmicgccgiaa

/-
  Tables: the walks of All, Blocks, Len; a table that is nil.
-/
namespace Go.Proofs.Ytihglmicgccgiaa
open Go.RowKit Go.Shelf

attribute [local go_sem] Oper.semAt_some readsUpon
set_option maxRecDepth 100000 in
theorem all_table (q : Option Addr) (w : World) :
    Calls Try.prog 10 #[.pointer q] w fun e w' => e = .returned (.func (.func 23) #[] #[.pointer (some ⟨w.heap.size, 0, none⟩), .pointer (some ⟨w.heap.size + 1, 0, none⟩)]) ∧
      Below w.heap.size w w' ∧ w'.heap.size = w.heap.size + 2 ∧ w'.cell? ⟨w.heap.size, 0, none⟩ = some (.pointer q) ∧ w'.cell? ⟨w.heap.size + 1, 0, none⟩ = some (.string ⟨#[]⟩) ∧ w'.cell? ⟨w.heap.size + 1, 1, none⟩ = some (.string ⟨#[]⟩) := by
  have K := Lib.hid (from_any q ⟨#[]⟩ ⟨#[]⟩ w)
  go_enter Try.func10, Try.ntmps10
  go_wp2_with fail
  refine K.out.mono ?_
  rintro e w1 ⟨rfl, hb, hz, k0, k1, k2⟩
  have HB := Lib.hid hb
  have HZ := Lib.hid hz
  clear hb hz
  go_wp2_with fail
  go_returns
  exact ⟨rfl, HB.out, HZ.out, k0, k1, k2⟩
set_option maxRecDepth 100000 in
theorem blocks_nil (w : World) : Calls Try.prog 9 #[.pointer none] w fun e w' => e = .returned (.int .i64 0) ∧ w = w' := by
  go_enter Try.func9, Try.ntmps9
  go_wp2_with fail
  refine (tnone_nil w).mono ?_
  rintro e w1 ⟨rfl, rfl⟩
  go_wp2_with fail
  go_returns
  exact ⟨rfl, rfl⟩
set_option maxRecDepth 100000 in
theorem blocks_table (p : Nat) (bss : List (List CellA)) (w : World) (h : TableAt w p bss) : Calls Try.prog 9 #[.pointer (some ⟨p, 0, none⟩)] w fun e w' => e = .returned (.int .i64 bss.length) ∧ w = w' := by
  obtain ⟨ao, cap, h0, _⟩ := h.ex
  have h2 := h.c2
  clear h
  go_enter Try.func9, Try.ntmps9
  go_wp2_with fail
  refine (tnone_any p w h2).mono ?_
  rintro e w1 ⟨rfl, rfl⟩
  go_wp2_with fail
  go_returns
  exact ⟨rfl, rfl⟩
/-- nothing is told of a nil table -/
theorem from1_none (n : Nat) (hn : 1 ≤ n) (b1 b2 : Nat) (F : Nat → Prop) (w : World) (h1 : w.cell? ⟨b1, 0, none⟩ = some (.pointer none)) :
    SeqA (α := CellA) n Try.prog 23 #[.pointer (some ⟨b1, 0, none⟩), .pointer (some ⟨b2, 0, none⟩)] (fun c => #[c.v]) [] F w := by
  intro l J Jx W hW hJ hJx hY hJ0
  have H0 := Lib.hid hJ0
  have hl := World.block_lt_of_cell? _ _ h1
  have e1 := (hW.cell (p := ⟨b1, 0, none⟩) hl).trans h1
  clear hY hJ hJx hJ0
  refine callsIn_of_wp (F := Fence.wide) Try.func23 rfl trivial ?_ rfl
  refine wpIn_wide.2 ?_
  simp only [Try.ntmps23, List.size_toArray, List.length_cons, List.length_nil, Nat.reduceAdd, Nat.reduceSub, Array.replicate_succ, Array.replicate_zero, List.push_toArray, List.append_toArray, List.nil_append, List.cons_append]
  go_wp2_with fail
  refine (tnone_nil W).mono ?_
  rintro e w' ⟨rfl, rfl⟩
  go_wp2_with fail
  refine bodyPost_ret (results_none rfl _ _ _) rfl ?_
  exact ⟨⟨_, rfl⟩, .inl H0.out⟩
end Go.Proofs.Ytihglmicgccgiaa

/-
  Tables: the walk of Len.
-/
namespace Go.Proofs.Ytihglmicgccgiaa
open Go.RowKit Go.Shelf

attribute [local go_sem] Oper.semAt_some readsUpon
/-- what Len keeps while it counts -/
structure LenI (w : World) (M nb : Nat) (k : Nat) (V : World) : Prop where
  bel : Below w.heap.size w V
  size : M ≤ V.heap.size
  c0 : V.cell? ⟨nb, 0, none⟩ = some (.int .i64 k)
  f0 : V.frozen? ⟨nb, 0, none⟩ = false
theorem LenI.own {w : World} {M nb k : Nat} {V V' : World} {row : Option Nat} (h : LenI w M nb k V) (hn : nb < M) (hw : w.heap.size ≤ M) (hg : V.grownBy V' row) (hr : ∀ q, row = some q → M ≤ q) : LenI w M nb k V' := by
  have hk : ∀ k, k < M → V'.heap[k]? = V.heap[k]? := fun k hk => hg.block k (by have := h.size; omega) (fun e => by have := hr k e.symm; omega)
  refine ⟨h.bel.grown hg (by have := h.size; omega) fun k e => by have := hr k e; omega, Nat.le_trans h.size hg.size, (World.cell?_of_block (a := ⟨nb, 0, none⟩) (hk nb hn)).trans h.c0, (World.frozen?_of_block (a := ⟨nb, 0, none⟩) (hk nb hn)).trans h.f0⟩
set_option maxRecDepth 100000 in
set_option maxHeartbeats 4000000 in
theorem len_seq (q : Option Addr) (L : List CellA) (F : Nat → Nat → Nat → Prop) (w : World) (hL : L.length ≤ 1000000) (hF : ∀ W b1 b2 k, W.heap.size ≤ b1 → W.heap.size ≤ b2 → Below w.heap.size w W → F b1 b2 k → k = b1 ∨ k = b2 ∨ k < w.heap.size)
    (hseq : ∀ (W : World) (b1 b2 : Nat), Below w.heap.size w W → W.cell? ⟨b1, 0, none⟩ = some (.pointer q) → W.cell? ⟨b2, 0, none⟩ = some (.string ⟨#[]⟩) → W.cell? ⟨b2, 1, none⟩ = some (.string ⟨#[]⟩) →
      SeqA (α := CellA) 19 Try.prog 23 #[.pointer (some ⟨b1, 0, none⟩), .pointer (some ⟨b2, 0, none⟩)] (fun c => #[c.v]) L (F b1 b2) W) :
    Calls Try.prog 8 #[.pointer q] w fun e w' => e = .returned (.int .i64 L.length) ∧ Below w.heap.size w w' := by
  have HF := Lib.hid hF
  have HS := Lib.hid hseq
  clear hF hseq
  refine callsIn_wide.1 (callsIn_of_wp_marks (F := Fence.wide) (n := 20) Try.func8 rfl trivial ?_ rfl); refine wpIn_wide.2 ?_; simp only [Try.ntmps8, List.size_toArray, List.length_cons, List.length_nil, Nat.reduceAdd, Nat.reduceSub, Array.replicate_succ, Array.replicate_zero, List.push_toArray, List.append_toArray, List.nil_append, List.cons_append]
  go_wp2_with fail
  obtain ⟨W0, hW0⟩ : ∃ V : World, V = w.alloc (.cells #[.int .i64 0] 3) := ⟨_, rfl⟩
  have q0 : W0.cell? ⟨w.heap.size, 0, none⟩ = some (.int .i64 0) := by rw [hW0]; go_simp
  have q1 : W0.frozen? ⟨w.heap.size, 0, none⟩ = false := by rw [hW0]; go_simp
  have q3 : Below w.heap.size w W0 := by rw [hW0]; go_grown
  have q4 : W0.heap.size = w.heap.size + 1 := by rw [hW0]; simp
  rw [← hW0]
  obtain ⟨N, hN⟩ : ∃ N, N = w.heap.size := ⟨_, rfl⟩
  rw [← hN] at q0 q1 ⊢
  clear hW0
  refine (all_table q W0).mono ?_
  rintro e w2 ⟨rfl, hb2, hz2, k0, k1, k2⟩
  have hNW : N < W0.heap.size := by omega
  have HI0 : Hid (LenI w w2.heap.size N 0 w2) := Lib.hid ⟨q3.trans (hb2.mono (by omega)), Nat.le_refl _, (hb2.cell (p := ⟨N, 0, none⟩) hNW).trans q0, (hb2.frozen (p := ⟨N, 0, none⟩) hNW).trans q1⟩
  have Hq := Lib.hid (HS.out w2 _ _ (q3.trans (hb2.mono (by omega))) k0 k1 k2)
  have HFF := Lib.hid fun k h => HF.out W0 _ _ k (Nat.le_refl _) (Nat.le_succ _) q3 h
  have hN2 : N < w2.heap.size := by omega
  have hNe := Lib.hid hN
  have hz2' := Lib.hid hz2
  have hq4 := Lib.hid q4
  have hle : w.heap.size ≤ w2.heap.size := by omega
  have hle0 : w.heap.size + 1 ≤ W0.heap.size := by omega
  clear q0 q1 q3 hb2 k0 k1 k2 hN q4 hz2
  go_wp2
  refine (wpIn_wide (n := 20)).1 ?_
  refine rangeA (n := 20) (by omega) (gf := 23) (lb := #[.pointer (some ⟨W0.heap.size, 0, none⟩), .pointer (some ⟨W0.heap.size + 1, 0, none⟩)]) rfl (enters_of Try.func23 (by kernel_rfl) rfl)
    (F := F W0.heap.size (W0.heap.size + 1)) (fun k h => ?hF) Hq.out (fun _ => rfl)
    (fun k W => LenI w w2.heap.size N k W) (fun _ _ _ => False) ?hI ?hIx HI0.out ?hround ?done ?stop
  case hF =>
    have := HFF.out k h
    have := hz2'.out
    omega
  case hI => exact fun k A B row h hg hr => h.own hN2 hle hg hr
  case hIx => exact fun _ _ _ _ _ h => h.elim
  case stop => exact fun D cd k W _ _ h => h.elim
  case hround =>
    intro l k x W hl hlW hx hI
    have hkl := (List.getElem?_eq_some_iff.1 hx).1
    clear hx
    gi_wp2
    refine ⟨KpC.refl _ _ _, fun W2 hg2 hz2 => ?_⟩
    have hI2 := hI.own hN2 hle hg2 (fun r e => by cases e; rw [hl]; omega)
    have y0 := hI2.c0
    have y1 := hI2.f0
    have HI := Lib.hid hI2
    have HK : Hid (KpC (F W0.heap.size (W0.heap.size + 1)) (w2.heap.size + 2) W W2) := Lib.hid ⟨hg2.size, fun k hk hlt => hg2.block k hlt (fun e => by
      have e1 := Option.some.inj e
      rcases hk with hk | hk
      · have := HFF.out k hk
        have := hz2'.out
        omega
      · omega)⟩
    clear hI hI2 hg2
    gi_wp2_with fail
    have hk1 : KpC (F W0.heap.size (W0.heap.size + 1)) w2.heap.size W2 (W2.setCell ⟨N, 0, none⟩ (.int .i64 ((k : Int) + 1))) := ⟨by simp [World.setCell], fun k' hk hlt => Below.heap_setCell _ _ _ _ (by
      simp only
      intro e
      rcases hk with hk | hk
      · have := HFF.out k' hk
        have := hNe.out
        omega
      · omega)⟩
    refine ⟨⟨hk1, HK.out.trans (hk1.later (by omega))⟩, ?_⟩
    have hI5 := HI.out
    exact ⟨hI5.bel.setCell (p := ⟨N, 0, none⟩) (by have := hNe.out; simp only; omega) _, by have := hI5.size; simp only [World.setCell]; simp; omega, World.cell?_setCell_same _ _ _ y0, by rw [World.frozen?_setCell]; exact y1⟩
  case done =>
    intro D W hD hI hd
    have y0 := hI.c0
    have HI := Lib.hid hI
    have HD := Lib.hid hd
    clear hI hd
    go_wp2_with fail
    have t1 := cell_put (o' := .deferred none) HD.out rfl y0
    exact postM_ret1 (v := .int .i64 L.length) rfl HD.out (by simp [results, Try.results8, go_sem, t1]) ⟨rfl, HI.out.bel.trans (below_put HD.out (by omega))⟩
theorem told_all (cs : List CellA) : toldT ⟨#[]⟩ ⟨#[]⟩ cs = cs := by
  unfold toldT
  rw [List.filter_eq_self]
  intro c _
  unfold aheadT aheadL
  have e : (⟨#[]⟩ : ByteArray).toList = [] := by rw [Lib.toList_data]
  rw [e]
  simp
theorem len_nil (w : World) : Calls Try.prog 8 #[.pointer none] w fun e w' => e = .returned (.int .i64 0) ∧ Below w.heap.size w w' :=
  len_seq none [] (fun _ _ _ => False) w (by simp) (fun _ _ _ _ _ _ _ h => h.elim) (fun W b1 b2 _ h1 _ _ => from1_none 19 (by omega) b1 b2 _ W h1)
theorem len_table (p : Nat) (bss : List (List CellA)) (w : World) (h : TableAt w p bss) (hg : GoodB bss) (hr : wrongB bss.flatten = false) (hl1 : bss.length ≤ 10000) (hl2 : bss.flatten.length ≤ 1000000) :
    Calls Try.prog 8 #[.pointer (some ⟨p, 0, none⟩)] w fun e w' => e = .returned (.int .i64 bss.flatten.length) ∧ Below w.heap.size w w' :=
  len_seq (some ⟨p, 0, none⟩) bss.flatten (fromF w.heap.size) w hl2 (fun W b1 b2 k _ _ _ hk => by rcases hk with h | h | h; exact .inr (.inr h); exact .inl h; exact .inr (.inl h))
    (fun W b1 b2 hW h1 h2 h3 => by
      have := from1_seq 19 (by omega) w p b1 b2 ⟨#[]⟩ ⟨#[]⟩ bss W ⟨(TableM.of h).below hW (Nat.le_refl _), h1, h2, h3⟩ hg hr hl1
      rw [told_all] at this
      exact this)
end Go.Proofs.Ytihglmicgccgiaa
