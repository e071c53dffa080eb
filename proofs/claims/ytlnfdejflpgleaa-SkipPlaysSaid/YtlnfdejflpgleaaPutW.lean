/-
  Skip lists: the walk of Put.
-/
import Derived.Test.YtlnfdejflpgleaaPutP
import Derived.RegionTactic
import Derived.ChangeAlike
import Derived.BigRegion
namespace Go.Proofs.Ytlnfdejflpgleaa
open Go.RowKit

theorem adrN_none : adrN none = none := rfl
theorem adrN_some (n : Nd) : adrN (some n) = some ⟨n.b, 0, none⟩ := rfl
set_option maxHeartbeats 1000000 in
theorem put1_any (x c : CellA) (b : Nat) (w : World) (hb : b < w.heap.size) (h0 : w.cell? ⟨b, 0, none⟩ = some (.string c.row)) (h1 : w.cell? ⟨b, 1, none⟩ = some (.string c.col)) (h2 : w.cell? ⟨b, 2, none⟩ = some (.int .u64 c.ver)) (h3 : w.cell? ⟨b, 3, none⟩ = some (.bool c.gone)) (h4 : w.cell? ⟨b, 4, none⟩ = some (.string c.val)) :
    Calls Try.prog 31 #[.agg #[.string x.row, .string x.col, .int .u64 x.ver, .bool x.gone, .string x.val], .pointer (some ⟨b, 0, none⟩)] w fun e w' => e = .returned (.bool (decide (cmpC x c < 0))) ∧ Below w.heap.size w w' := by
  have KC := Lib.hid fun W => cmp_any x c W
  simp only [CellA.v] at KC
  obtain ⟨z, hz⟩ : ∃ z, z = cmpC x c := ⟨_, rfl⟩
  rw [← hz] at KC ⊢
  clear hz
  go_enter Try.func31, Try.ntmps31
  go_wp2_with (go_at_call 32; refine (KC.out _).mono ?_; rintro e w1 ⟨rfl, hb⟩; obtain ⟨hB, hS, hk⟩ := after (B := w.heap.size) (w := w) (by go_grown) (by go_size) hb; clear hb; obtain ⟨c0, f0, z0⟩ := hk (w.heap.size) (by go_size); clear hk)
  go_ret
  exact ⟨rfl, by go_grown⟩

/-- ahead, as Put asks it -/
theorem put_ahead (c : CellA) (lb : Nat) (hd : Nd) (ns : List Nd) (k : Nat) (w : World) (hS : SkipAt w lb hd ns) (hC : CutAt (fun x => decide (cmpC x c < 0)) (hd :: ns) k) (b : Nat) (W0 : World) (hB : Below w.heap.size w W0) (hb : b < W0.heap.size)
    (h0 : W0.cell? ⟨b, 0, none⟩ = some (.string c.row)) (h1 : W0.cell? ⟨b, 1, none⟩ = some (.string c.col)) (h2 : W0.cell? ⟨b, 2, none⟩ = some (.int .u64 c.ver)) (h3 : W0.cell? ⟨b, 3, none⟩ = some (.bool c.gone)) (h4 : W0.cell? ⟨b, 4, none⟩ = some (.string c.val)) :
    Calls Try.prog 30 #[.pointer (some ⟨lb, 0, none⟩), .func (.func 31) #[] #[.pointer (some ⟨b, 0, none⟩)]] W0 fun e w' =>
      ∃ (f : Nat → Nat) (q : Nd), Hid (∀ L, L < 12 → LastAtL (hd :: ns) k L (f L)) ∧ e = .returned (atV (hd :: ns) f) ∧ Hid (adrN (hd :: ns)[f 0]? = some ⟨q.b, 0, none⟩) ∧ Hid (w'.cell? ⟨q.b, 6, none⟩ = some (ptrN (hd :: ns)[k]?)) ∧ Hid (q.b < W0.heap.size) ∧ Below W0.heap.size W0 w' := by
  have hFn : Fun 31 := ⟨_, _, Try.func31, by kernel_rfl, rfl⟩
  have hA : Asks 31 #[.pointer (some ⟨b, 0, none⟩)] (fun x => decide (cmpC x c < 0)) ns W0 := by
    intro n hn W hB
    have hz := hB.size
    exact put1_any n.c c b W (by omega) ((hB.cell (p := ⟨_, _, none⟩) hb).trans h0) ((hB.cell (p := ⟨_, _, none⟩) hb).trans h1) ((hB.cell (p := ⟨_, _, none⟩) hb).trans h2) ((hB.cell (p := ⟨_, _, none⟩) hb).trans h3) ((hB.cell (p := ⟨_, _, none⟩) hb).trans h4)
  refine (ahead_any _ _ hFn _ lb hd ns k W0 (hS.below hB) hC.pos hC.le hC.yes hC.no hA).mono ?_
  rintro e w' ⟨f, hf, rfl, hb⟩
  have hh : ∀ n ∈ hd :: ns, 1 ≤ n.h := fun n hn => (hS.high n hn).1
  have h3 := last_zero (hf 0 (by decide)) hh hC.le
  have hkl := hC.le
  have hl : f 0 < (hd :: ns).length := by omega
  refine ⟨f, (hd :: ns)[f 0], Lib.hid hf, rfl, Lib.hid (by rw [List.getElem?_eq_getElem hl]; rfl), Lib.hid ?_, Lib.hid ?_, hb⟩
  · have ht := ((hS.below (hB.trans (hb.mono hB.size))).tow (f 0) _ (List.getElem?_eq_getElem hl)).t 0 (by decide)
    have he : towN (hd :: ns)[f 0] 0 ((hd :: ns).drop (f 0 + 1)) = (hd :: ns)[k]? := by
      rw [towN, if_pos (by have := hh _ (List.getElem_mem hl); omega), nxt_zero (fun n hn => hh n (List.mem_of_mem_drop hn)), List.getElem?_drop, h3]
    rw [he] at ht
    exact ht
  · exact ((hS.below hB).tow (f 0) _ (List.getElem?_eq_getElem hl)).lt

set_option maxRecDepth 100000 in
set_option maxHeartbeats 4000000 in
theorem put_none (c : CellA) (hok : c.Ok) (hcl : cellL c = true) (h : Nat) (h1 : 1 ≤ h) (h12 : h ≤ 12) (lb : Nat) (hd : Nd) (ns : List Nd) (k : Nat) (w : World) (hS : SkipAt w lb hd ns) (hC : CutAt (fun x => decide (cmpC x c < 0)) (hd :: ns) k) (hn : ns.length < 1000000)
    (hnew : (hd :: ns)[k]? = none) :
    Calls Try.prog 12 #[.pointer (some ⟨lb, 0, none⟩), .agg #[.string c.row, .string c.col, .int .u64 c.ver, .bool c.gone, .string c.val], .int .i64 h] w fun e w' => e = .returned (.int .i64 0) ∧ ∃ b, w.heap.size ≤ b ∧ SkipAt w' lb hd (ns.take (k - 1) ++ ⟨b, c, h⟩ :: ns.drop (k - 1)) ∧ Kept (SkipF lb hd ns) w w' := by
  have HS := Lib.hid hS
  have HC := Lib.hid hC
  have KA := Lib.hid (put_ahead c lb hd ns k w hS hC)
  simp only [atV] at KA
  rw [hnew] at KA
  simp only [ptrN, adrN_none] at KA
  have KN := Lib.hid fun (W : World) (h : Below w.heap.size w W) => snone_any lb hd ns W (hS.below h)
  have KC := Lib.hid fun (W : World) => cell_any c W hok
  have he : errB (cellL c) = 0 := by rw [hcl]; rfl
  rw [he] at KC
  simp only [CellA.v] at KC
  have hlb := hS.inb lb (.inl rfl)
  have l1 := hS.l1
  have lf := Lib.hid hS.lf
  obtain ⟨m, hm⟩ : ∃ m, m = ns.length := ⟨_, rfl⟩
  rw [← hm] at l1 hn
  have Hm := Lib.hid hm
  clear hm
  have HL := Lib.hid fun (W : World) (h : Below w.heap.size w W) => (⟨(h.cell (p := ⟨lb, 1, none⟩) hlb).trans l1, (h.frozen (p := ⟨lb, 1, none⟩) hlb).trans (lf.out 1)⟩ : W.cell? ⟨lb, 1, none⟩ = some (.int .i64 m) ∧ W.frozen? ⟨lb, 1, none⟩ = false)
  have Hnew := Lib.hid hnew
  clear hS hC hcl he hnew l1 lf
  have t1 : decide ((h : Int) < 1) = false := by simp; omega
  have t2 : decide ((12 : Int) < (h : Int)) = false := by simp; omega
  go_enter Try.func12, Try.ntmps12
  go_wp2_with fail
  refine (KN.out _ (by go_grown)).mono ?_
  rintro e w' ⟨rfl, rfl⟩
  go_wp2_with fail
  refine (KC.out _).mono ?_
  rintro e w1 ⟨rfl, hb⟩
  obtain ⟨hB, hSz, hk⟩ := after (B := w.heap.size) (w := w) (by go_grown) (by go_size) hb
  obtain ⟨c0, f0, z0⟩ := hk (w.heap.size) (by go_size)
  clear hk hb
  go_wp2_with fail
  refine (KA.out _ _ hB (by omega) (by go_simp) (by go_simp) (by go_simp) (by go_simp) (by go_simp)).mono ?_
  rintro e w2 ⟨fl, q, hfl, rfl, hq, hqc, hql, hb⟩
  obtain ⟨hB2, hSz2, hk⟩ := after (B := w.heap.size) (w := w) (by go_grown) (by go_size) hb
  obtain ⟨d0, e0, y0⟩ := hk (w.heap.size) (by go_size)
  have d00 : w2.cell? ⟨w.heap.size, 0, none⟩ = some (.string c.row) := (d0 0).trans ((c0 0).trans (by go_simp))
  have d01 : w2.cell? ⟨w.heap.size, 1, none⟩ = some (.string c.col) := (d0 1).trans ((c0 1).trans (by go_simp))
  have d02 : w2.cell? ⟨w.heap.size, 2, none⟩ = some (.int .u64 c.ver) := (d0 2).trans ((c0 2).trans (by go_simp))
  have d03 : w2.cell? ⟨w.heap.size, 3, none⟩ = some (.bool c.gone) := (d0 3).trans ((c0 3).trans (by go_simp))
  have d04 : w2.cell? ⟨w.heap.size, 4, none⟩ = some (.string c.val) := (d0 4).trans ((c0 4).trans (by go_simp))
  have hqz : q.b < w2.heap.size := Nat.lt_of_lt_of_le hql.out hb.size
  obtain ⟨L1, L2⟩ := HL.out w2 hB2
  have hqw : q.b ≠ w2.heap.size := by omega
  have hq1 := hq.out
  have hc1 := hqc.out
  have HB := Lib.hid hB2
  clear hq hqc hb hB2 hk hB hSz c0 f0 d0 e0
  go_wp2_with fail
  obtain ⟨W8, hW8⟩ : ∃ W : World, W = (w2.alloc (.cells #[.pointer (some ⟨q.b, 0, none⟩), ptrN (hd :: ns)[fl 1]?, ptrN (hd :: ns)[fl 2]?, ptrN (hd :: ns)[fl 3]?, ptrN (hd :: ns)[fl 4]?, ptrN (hd :: ns)[fl 5]?, ptrN (hd :: ns)[fl 6]?, ptrN (hd :: ns)[fl 7]?, ptrN (hd :: ns)[fl 8]?, ptrN (hd :: ns)[fl 9]?, ptrN (hd :: ns)[fl 10]?, ptrN (hd :: ns)[fl 11]?] 68)).alloc
    (.cells #[.string c.row, .string c.col, .int .u64 c.ver, .bool c.gone, .string c.val, .int .i64 h, .pointer none, .pointer none, .pointer none, .pointer none, .pointer none, .pointer none, .pointer none, .pointer none, .pointer none, .pointer none, .pointer none, .pointer none] 72) := ⟨_, rfl⟩
  rw [← hW8]
  have hz8 : W8.heap.size = w2.heap.size + 2 := by rw [hW8]; simp
  have hB8 : Below w.heap.size w W8 := by rw [hW8]; exact (HB.out.alloc hSz2 _).alloc (by rw [World.size_alloc]; omega) _
  have hst := putW_start (w := w) (W := W8) (p := 0) HS.out HC.out.pos (by have := HC.out.le; simpa using this) hfl.out hB8 (f := ⟨w2.heap.size + 1, c, h⟩) (ab := w2.heap.size) (by simp only; omega) hSz2 (by simp) ⟨h1, h12⟩ (.inl rfl)
    (by rw [hW8]; exact node_new _ c h _ (by simp)) (fun L hL => by rw [hW8, ← hq1, World.cell?_of_block (a := ⟨w2.heap.size, L, none⟩) (Below.heap_alloc _ _ _ (by simp))]; exact at_new w2 _ (hd :: ns) fl L hL)
  obtain ⟨hX, hP⟩ := hst
  have HX := Lib.hid hX
  have HP := Lib.hid hP
  have HB8 := Lib.hid hB8
  clear hX hP hB8 hW8 HB hc1 hq1 hqz hqw d00 d01 d02 d03 d04 L1 L2 hfl
  refine wp_region_below (by kernel_rfl) (by kernel_rfl) (fun hkept => ?_)
  clear hkept
  repeat (any_goals (first | go_big_quiet_step (fail) | quiet_step (fail) | (refine wpQuiet_step (fun K hK => ?_); go_simp; split <;> (refine hK _ ?_; clear hK K))))
  all_goals (refine wpQuiet_nil ?_; intro w9 hb; obtain ⟨hB, hS, hk⟩ := after (B := W8.heap.size) (w := W8) (by go_grown) (by go_size) hb; clear hk hb)
  have HP9 := Lib.hid (HP.out.below hB)
  have hl1 := HP9.out.l1
  have hlf := HP9.out.lf 1
  rw [← Hm.out] at hl1
  have hz9 := hB.size
  clear hB hS
  have hfc : w9.cell? ⟨w2.heap.size + 1, 5, none⟩ = some (.int .i64 h) := by obtain ⟨g, _, _, g3⟩ := HP9.out.f; exact g3.h
  have hlw : ¬ w2.heap.size + 1 = lb := by omega
  have hlw2 : ¬ lb = w2.heap.size + 1 := by omega
  go_wp2
  have HP10 := Lib.hid (HP9.out.count HX.out ((m : Int) + 1))
  obtain ⟨W10, hW10⟩ : ∃ W : World, W = w9.setCell ⟨lb, 1, none⟩ (.int .i64 ((m : Int) + 1)) := ⟨_, rfl⟩
  rw [← hW10] at HP10 ⊢
  clear hW10 hfc hl1 hlf HP9 HP
  go_loopw [10, 68] (fun _ i wr => ∃ L : Nat, L ≤ h ∧ i = .int .i64 L ∧ Hid (PutW ((hd :: ns).take k) ((hd :: ns).drop k) ⟨w2.heap.size + 1, c, h⟩ 0 fl lb w2.heap.size ((m : Int) + 1) (SkipF lb hd ns) w wr L)) (fun _ i _ => h - (intOf i).toNat)
  case atStart => exact ⟨0, by omega, rfl, HP10⟩
  case round =>
    clear HP10 W10
    obtain ⟨L, hLh, rfl, hP⟩ := hrel
    by_cases hlt : L < h
    · have hLa := HX.out.last L (by omega)
      obtain ⟨qq, hqq⟩ : ∃ qq, ((hd :: ns).take k)[fl L]? = some qq := ⟨_, List.getElem?_eq_getElem hLa.lt⟩
      have hN := hP.out.a _ qq hqq
      have hat := hP.out.at_ L (by omega)
      rw [hqq] at hat
      simp only [ptrN, adrN_some] at hat
      have hnx := hN.t L (by omega)
      rw [if_neg (by omega), tow_last rfl hLa hqq] at hnx
      have hqf := hN.f (6 + L)
      obtain ⟨g, _, _, g3⟩ := hP.out.f
      have hff := g3.f (6 + L)
      have hfx := g3.t L (by omega)
      simp only at hff hfx
      have hqb := hN.lt
      have hq9 := (HX.out.fa qq (List.mem_append_left _ (List.mem_of_getElem? hqq))).2
      have n1 : ¬ qq.b = w2.heap.size + 1 := by omega
      have n2 : ¬ w2.heap.size + 1 = qq.b := by omega
      have n3 : ¬ w2.heap.size = qq.b := by omega
      have n4 : ¬ qq.b = w2.heap.size := by omega
      have Hqq := Lib.hid hqq
      have HLa := Lib.hid hLa
      clear hN g3 hqq hLa
      go_wp2
      go_region
      obtain ⟨Wd, hWd⟩ : ∃ W : World, W = (wr.setCell ⟨w2.heap.size + 1, 6 + L, none⟩ (ptrN (nxt L ((hd :: ns).drop k)))).drew := ⟨_, rfl⟩
      rw [← hWd]
      obtain ⟨hP1, hP2⟩ := hP.out.putF HX.out hlt (nxt L ((hd :: ns).drop k))
      have hP3 := Lib.hid (hP1.below (w1 := Wd) (by rw [hWd]; exact (Below.refl _ _).drew))
      have hP4 : Hid (Wd.cell? ⟨w2.heap.size + 1, 6 + L, none⟩ = some (ptrN (nxt L (((hd :: ns).drop k).drop 0)))) := Lib.hid (by rw [hWd, World.cell?_drew]; exact hP2)
      clear hWd hP hat hnx hqf hff hfx hP1 hP2
      have hN := hP3.out.a _ qq Hqq.out
      have hat := hP3.out.at_ L (by omega)
      rw [Hqq.out] at hat
      simp only [ptrN, adrN_some] at hat
      have hnx := hN.t L (by omega)
      rw [if_neg (by omega), tow_last rfl HLa.out Hqq.out] at hnx
      have hqf := hN.f (6 + L)
      clear hN
      go_wp2
      exact ⟨⟨L + 1, by omega, by go_num, Lib.hid (hP3.out.putA HX.out hlt hP4.out Hqq.out)⟩, by simp [intOf]; omega⟩
    · obtain rfl : L = h := by omega
      go_wp2
      go_ret
      have hD := hP.out.done HX.out (hd := hd) (ns := ns.take (k - 1) ++ ⟨w2.heap.size + 1, c, L⟩ :: ns.drop (k - 1)) (by have := HC.out.pos; rw [List.getElem?_take, if_pos this]; rfl) HS.out.hh (take_drop_cons (hd := hd) (f := ⟨w2.heap.size + 1, c, L⟩) (ns := ns) (p := 0) HC.out.pos)
        (by have h1 := HC.out.le; have h2 := Hm.out; rw [List.length_cons] at h1; simp only [List.length_append, List.length_cons, List.length_take, List.length_drop]; omega)
      exact ⟨rfl, _, by omega, hD, hP.out.kept⟩
end Go.Proofs.Ytlnfdejflpgleaa
