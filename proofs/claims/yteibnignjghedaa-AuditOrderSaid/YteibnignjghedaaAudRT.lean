/-
  Where the tablets are, as the document has it: the walk of acreageref32.Tablets.
-/
import Derived.Test.YteibnignjghedaaAudCP
import Derived.Deep.CutRange
namespace Go.Proofs.Yteibnignjghedaa
open Go.RowKit Go.Sort

theorem Arr.drop {w : World} {size n cap : Nat} {b off : Nat} {es : List (List Value)} (h : Arr w size (some ⟨b, off, none⟩) n cap es) (k : Nat) (hk : k ≤ n) {o : Nat} (ho : o = off + k * size) : Arr w size (some ⟨b, o, none⟩) (n - k) (cap - k) (es.drop k) := by
  subst ho
  refine ⟨h.elems.drop k, by rw [List.length_drop, h.len], by have := h.fits; omega, by have := h.max; omega, fun h0 => ?_⟩
  obtain ⟨b', off', e, hl, hc⟩ := h.lies (by omega)
  cases e
  refine ⟨b, off + k * size, rfl, hl, fun i e he j u hu => ?_⟩
  rw [List.getElem?_drop] at he
  have := hc (k + i) e he j u hu
  rwa [show off + k * size + i * size + j = off + (k + i) * size + j by rw [Nat.add_mul]; omega]
/-- how many stand ahead of x -/
def aheadN (x : LocI) (cs : List LocI) : Nat := (cs.takeWhile fun y => !decide (x.lo.toList < y.lo.toList)).length
theorem ahead_put (x : LocI) (cs : List LocI) : putLc x cs = cs.take (aheadN x cs) ++ x :: cs.drop (aheadN x cs) := by
  rw [putLc, aheadN]
  congr 1
  · have h := List.takeWhile_append_dropWhile (p := fun y : LocI => !decide (x.lo.toList < y.lo.toList)) (l := cs)
    conv => rhs; arg 2; rw [← h]
    rw [List.take_left]
  · congr 1
    have h := List.takeWhile_append_dropWhile (p := fun y : LocI => !decide (x.lo.toList < y.lo.toList)) (l := cs)
    conv => rhs; arg 2; rw [← h]
    rw [List.drop_left]
theorem ahead_eq (x : LocI) : ∀ (cs : List LocI) (j : Nat), (∀ i, i < j → ∀ c, cs[i]? = some c → ¬ x.lo.toList < c.lo.toList) → (∀ c, cs[j]? = some c → x.lo.toList < c.lo.toList) → j ≤ cs.length → aheadN x cs = j
  | [], j, _, _, hj => by simp only [List.length_nil, Nat.le_zero] at hj; subst hj; rfl
  | c :: cs, 0, _, h2, _ => by
    have := h2 c rfl
    simp [aheadN, List.takeWhile, this]
  | c :: cs, j + 1, h1, h2, hj => by
    have h0 := h1 0 (by omega) c rfl
    have := ahead_eq x cs j (fun i hi c' hc' => h1 (i + 1) (by omega) c' (by simpa using hc')) (fun c' hc' => h2 c' (by simpa using hc')) (by simpa using hj)
    rw [aheadN] at this ⊢
    simp [List.takeWhile, h0, this]
theorem arr_empty {w : World} {size c : Nat} {a : Option Addr} {es : List (List Value)} (h : es = []) (hc : c ≤ maxLen) : Arr w size a 0 c es := by
  subst h
  exact ⟨fun _ h => by simp at h, rfl, Nat.zero_le _, hc, fun h => by omega⟩
/-- 's[j:]' of a slice that reads as a list. -/
theorem wpList_slice_from {P : Program} {w : World} {ops : Array Oper} {rest : List Oper} {o : Oper} {a : Act} {Q : Exit → Act → World → Prop} (hgd : o.guard = none) (x y : Operand) (t : TypeId) (ho : o.op = .slice t x (some y) none none) (i : TypeInfo) (size : Nat)
    (e : TypeId) (hte : P.underlying t = some (.slice e)) (hie : P.info? e = some i) (hsz : i.size = size) {ao : Option Addr} {n c j : Nat} {es : List (List Value)} (hx : a.eval x = .slice ao n c) (hy : a.eval y = .int .i64 (j : Int)) (hj : j ≤ n) (hA : Arr w size ao n c es)
    (h : ∀ a' c', Arr w size a' (n - j) c' (es.drop j) → wpList P ops Q rest (a.put o.dst (.slice a' (n - j) c')) w) : wpList P ops Q (o :: rest) a w := by
  refine wpList_plain hgd fun K hK => ?_
  subst hsz
  have he : P.elem t = e := by simp [Program.elem, hte]
  have ht : P.underlying t = some (.slice (P.elem t)) := by rw [he]; exact hte
  have hi : P.info? (P.elem t) = some i := by rw [he]; exact hie
  have hs : (sizeOf (P.elem t)).run P w = .ok i.size w := by simp [sizeOf, typeInfo, hi]
  have hr : (Instr.sliceAt t (.slice ao n c) (some (.int .i64 (j : Int))) none none).run P w = .ok (sliced ao j n c i.size) w := by
    rw [run_sliceAt_slice w t _ _ _ _ ht, run_slice_l w t ao n c ht .i64 (j : Int) (by omega) (by omega), hs]
    simp [Result.andThen]
  have hf := hA.fits
  have hm := hA.max
  have key : ∃ a' c', sliced ao j n c i.size = .slice a' (n - j) c' ∧ Arr w i.size a' (n - j) c' (es.drop j) := by
    refine ⟨_, _, rfl, ?_⟩
    by_cases h0 : n - j = 0
    · rw [h0]
      exact arr_empty (List.drop_eq_nil_of_le (by rw [hA.len]; omega)) (by omega)
    · obtain ⟨b, off, rfl, _, _⟩ := hA.lies (by omega)
      rw [if_neg (by omega)]
      simp only [Option.map_some, Addr.add_lit]
      exact Arr.drop hA j hj rfl
  obtain ⟨a', c', e1, h2⟩ := key
  unfold Oper.wp execOp
  simp only [ho, Option.map_some, Option.map_none, hx, hy, hr, e1, Sem.run_bind, Result.andThen_ok, Sem.run_pure]
  exact hK _ _ (h a' c' h2)

set_option maxRecDepth 100000 in
set_option maxHeartbeats 16000000 in
theorem rtablets_any (ao : Option Addr) (n cap : Nat) (l : List SeenA) (w : World) (h : Seens w ao n cap l) (hwt : ∀ s ∈ l, s.bn * 8 ≤ 140737488355328 ∧ ∀ e ∈ s.es, e.mn * 8 ≤ 140737488355328) :
    Calls Try.prog 15 #[.slice ao n cap] w fun e w' => ∃ (v : Value) (cs : List LocI), e = .returned v ∧ Row w' w.heap.size 37 5 v cs.length (cs.map LocI.l).flatten ∧ (∀ c ∈ cs, Ints w' c.na c.nn c.nc c.nd) ∧ cs.map LocI.says = tabsL l ∧ Below w.heap.size w w' := by
  have H := Lib.hid h
  have HW := Lib.hid hwt
  have hc1 := Arr.fits h.arr
  have hc2 := Arr.max h.arr
  unfold maxLen at hc2
  have Hn := Lib.hid h.len
  clear h hwt
  go_enter Try.func15, Try.ntmps15
  go_wp2
  go_loopw [3, 4] (fun v gi wr => ∃ (m : Nat) (cs : List LocI) (ra : Option Addr) (rc : Nat), m ≤ 9 ∧ gi = .int .i64 (3 + m) ∧ v = .slice ra cs.length rc ∧ Hid (cs.map LocI.says = rtabsL l m) ∧ Hid (Row wr w.heap.size 37 5 (.slice ra cs.length rc) cs.length (cs.map LocI.l).flatten) ∧ Hid (∀ c ∈ cs, Ints wr c.na c.nn c.nc c.nd) ∧ Hid (Below w.heap.size w wr)) (fun _ gi _ => 12 - (intOf gi).toNat)
  case atStart => exact ⟨0, [], none, 0, by omega, rfl, rfl, Lib.hid rfl, Lib.hid (Row.nil _ _ _ _), Lib.hid (fun c hc => by cases hc), Lib.hid (Below.refl _ _)⟩
  case round =>
    obtain ⟨m, cs, ra, rc, hm, rfl, rfl, hP, hR, hN, hB⟩ := hrel
    have hcl : cs.length ≤ 9 := by
      have h1 := congrArg List.length hP.out
      rw [List.length_map, rtabs_eq] at h1
      have : ∀ (p r : List Says), (p.foldl (fun out x => putS x out) r).length = p.length + r.length := by
        intro p
        induction p with
        | nil => intro r; simp
        | cons x p ih => intro r; rw [List.foldl_cons, ih, putS_len, List.length_cons]; omega
      rw [this] at h1
      have := places_len l m
      simp only [List.length_nil] at h1
      omega
    by_cases hlt : m < 9
    · have t0 : decide ((3 : Int) + (m : Int) < 12) = true := by simp; omega
      have KN := Lib.hid (rnewest_any ao n cap l (3 + m) wr (H.out.below hB.out))
      cases hb : bestL (3 + m) l with
      | none =>
        rw [hb] at KN
        simp only [bestI] at KN
        have t1 : decide ((-1 : Int) < 0) = true := rfl
        have hP1 : Hid (rtabsL l (m + 1) = rtabsL l m) := Lib.hid (by rw [rtabsL, hb])
        clear hb
        go_wp2_with (go_at_call 36; refine KN.out.mono ?_; rintro e w5 ⟨rfl, hb5⟩; have HB5 := Lib.hid hb5; clear hb5)
        exact ⟨⟨m + 1, cs, ra, rc, by omega, by go_num, rfl, Lib.hid (by rw [hP1.out]; exact hP.out), Lib.hid (Row.below hR.out HB5.out), Lib.hid (fun c hc => Ints.below (hN.out c hc) HB5.out), Lib.hid (hB.out.trans (HB5.out.mono hB.out.size))⟩, by simp [intOf]; omega⟩
      | some qq =>
        obtain ⟨qi, s⟩ := qq
        obtain ⟨hq1, hq2⟩ := bestL_at (g := 3 + m) (l := l) l.length (Nat.le_refl _) (qi, s) (by rw [List.take_length]; exact hb)
        simp only at hq1 hq2
        rw [Hn.out] at hq1
        have HsI0 := Lib.hid (H.out.ins s (List.mem_of_getElem? hq2))
        have Hsw := Lib.hid (HW.out s (List.mem_of_getElem? hq2))
        rw [hb] at KN
        simp only [bestI] at KN
        have t1 : decide ((qi : Int) < 0) = false := by simp
        have hP1 : Hid (rtabsL l (m + 1) = putS (placeL (3 + m) s) (rtabsL l m)) := Lib.hid (by rw [rtabsL, hb])
        have Hq2 := Lib.hid hq2
        clear hb hq2
        go_upto_region 7 with (go_at_call 36; refine KN.out.mono ?_; rintro e w5 ⟨rfl, hb5⟩; have HB5 := Lib.hid hb5; clear hb5)
        have hB5 : Below w.heap.size w w5 := hB.out.trans (HB5.out.mono hB.out.size)
        obtain ⟨b, off, e0, hbl, xx⟩ := (H.out.below hB5).at_ Hq2.out
        have HLs := Lib.hid xx.load
        have HR5 := Lib.hid (Row.below hR.out HB5.out)
        have HN5 := Lib.hid (fun c hc => Ints.below (hN.out c hc) HB5.out)
        have HBw5 := Lib.hid hB5
        have HsI := Lib.hid (SeenA.In.below HsI0.out hB5)
        cases e0
        clear xx hB5 HB5 hB hR hN KN HsI0 Hq2
        go_upto_region 8 with (first | (refine wpList_loadK rfl (by rfl) rfl (by exact HLs.out) ?_; simp only [Act.put, List.setIfInBounds_toArray, List.set_cons_succ, List.set_cons_zero]) | (refine wpList_storeN rfl rfl rfl rfl (by first | rfl | simp) (by kernel_rfl) (by rfl) (SeenA.all _) ?_; simp only [Act.put, List.setIfInBounds_toArray, List.set_cons_succ, List.set_cons_zero]))
        obtain ⟨wc, hwc⟩ : ∃ wc, wc = w5.alloc (.cells s.l.toArray 49) := ⟨_, rfl⟩
        obtain ⟨p, hp⟩ : ∃ p, p = w5.heap.size := ⟨_, rfl⟩
        have hE := SeenAt.new w5 s 49
        have hBc : Below w5.heap.size w5 wc := by rw [hwc]; exact (Below.refl _ _).alloc (Nat.le_refl _) _
        rw [← hwc, ← hp] at hE ⊢
        have hpl := hE.lt
        have x8 := hE.at_ 8 _ rfl
        have x9 := hE.at_ 9 _ rfl
        have x11 := hE.at_ 11 _ rfl
        have x12 := hE.at_ 12 _ rfl
        have x13 := hE.at_ 13 _ rfl
        have x14 := hE.at_ 14 _ rfl
        simp only [Nat.zero_add] at x8 x9 x11 x12 x13 x14
        have X9 := Lib.hid x9
        have X11 := Lib.hid x11
        have HBc := Lib.hid hBc
        clear hwc hp hE x9 x11
        go_upto_region 9 with fail
        obtain ⟨wd, hwd⟩ : ∃ wd, wd = wc.alloc (.cells #[.int .i64 (3 + m), .string s.lo, .string s.hi, .int .u64 s.ep, .slice s.ba s.bn s.bc] 37) := ⟨_, rfl⟩
        have hPI : PlaceI wc (3 + m) s 0 wd := by
          rw [hwd]
          refine ⟨⟨s.ba, s.bn, s.bc, (HsI.out.bm.below hBc).below ((Below.refl _ _).alloc (Nat.le_refl _) _), Hsw.out.1, by go_simp⟩, by go_simp, by go_simp, by go_simp, by go_simp, by go_simp, (Below.refl _ _).alloc (Nat.le_refl _) _⟩
        rw [← hwd]
        have HPI := Lib.hid hPI
        obtain ⟨p9, hp9⟩ : ∃ p9, p9 = wc.heap.size := ⟨_, rfl⟩
        rw [← hp9]
        have Hp9 := Lib.hid hp9
        have HsC := Lib.hid (HsI.out.below hBc)
        have hce := Arr.fits HsI.out.es.arr
        have hcm := Arr.max HsI.out.es.arr
        unfold maxLen at hcm
        have Hel := Lib.hid HsI.out.es.len
        clear hwd hPI hBc hp9 x8 x12 x13 x14
        go_wp2
        go_loopw [8] (fun i V => ∃ k : Nat, k ≤ s.en ∧ i = .int .i64 k ∧ Hid (PlaceI wc (3 + m) s k V)) (fun i _ => s.en - (intOf i).toNat)
        case atStart => exact ⟨0, by omega, rfl, HPI⟩
        case round =>
          obtain ⟨k2, hk2, rfl, hI⟩ := hrel
          clear HPI
          have hbI := hI.out.bel
          have x9 := (hbI.cell (p := ⟨p, 9, none⟩) hpl).trans X9.out
          have x11 := (hbI.cell (p := ⟨p, 11, none⟩) hpl).trans X11.out
          have hpV : p < wr.heap.size := Nat.lt_of_lt_of_le hpl hbI.size
          by_cases hlt3 : k2 < s.en
          · obtain ⟨e, he⟩ : ∃ e, s.es[k2]? = some e := ⟨_, List.getElem?_eq_getElem (by rw [Hel.out]; exact hlt3)⟩
            obtain ⟨g4, off4, e4, hg4, hEe, _⟩ := (HsC.out.es.below (hbI.mono (Nat.le_refl _))).at_ he
            have HEI := Lib.hid (HsC.out.es.mem e (List.mem_of_getElem? he))
            have Hew := Lib.hid (Hsw.out.2 e (List.mem_of_getElem? he))
            have He := Lib.hid he
            have v0 := hEe.idx
            have v2 := hEe.kind
            have v23 := hEe.mem
            rw [e4] at x9
            have hl9 := World.block_lt_of_cell? _ _ hI.out.c0
            have f4 := hI.out.f4
            obtain ⟨_, _, _, _, _, c4⟩ := hI.out.ex
            rw [← Hp9.out] at f4 c4 hl9
            simp only at hl9
            clear hEe he e4 hbI
            by_cases d1 : e.kind = 2
            · have s1 : (e.kind == 2) = true := by simpa using d1
              by_cases d2 : e.idx ≤ s.app
              · have s2 : decide (e.idx ≤ s.app) = true := by simpa using d2
                have hcf : Hid (confB s e = true) := Lib.hid (by simp [confB, d1, d2])
                clear d1 d2
                go_upto_region 12 with fail
                refine wp_region_below (by kernel_rfl) (by kernel_rfl) (fun hkept => ?_)
                obtain ⟨r0, rf0⟩ := hkept (p) (by go_size); obtain ⟨r1, rf1⟩ := hkept (g4) (by go_size); obtain ⟨r2, rf2⟩ := hkept (p9) (by go_size); clear hkept
                repeat (any_goals (first | go_big_quiet_step (fail) | quiet_step (fail) | (refine wpQuiet_step (fun K hK => ?_); go_simp; split <;> (refine hK _ ?_; clear hK K))))
                all_goals (refine wpQuiet_nil ?_; intro w8 hb; obtain ⟨hB, hS, hk⟩ := after (B := wr.heap.size) (w := wr) (by go_grown) (by go_size) hb; obtain ⟨c0, f0, z0⟩ := hk (p) (by go_size); obtain ⟨c1, f1, z1⟩ := hk (g4) (by go_size); obtain ⟨c2, f2, z2⟩ := hk (p9) (by go_size); clear hk hb r0 rf0 r1 rf1 r2 rf2)
                go_wp2_with fail
                exact ⟨⟨k2 + 1, by omega, by go_num, Lib.hid (by rw [Hp9.out]; exact hI.out.conf He.out hcf.out hB HEI.out Hew.out)⟩, by simp [intOf]; omega⟩
              · have s2 : decide (e.idx ≤ s.app) = false := by simpa using d2
                have hcf : Hid (confB s e = false) := Lib.hid (by simp [confB, d2])
                clear d1 d2
                go_upto_region 12 with fail
                refine wp_region_below (by kernel_rfl) (by kernel_rfl) (fun hkept => ?_)
                obtain ⟨r0, rf0⟩ := hkept (p) (by go_size); obtain ⟨r1, rf1⟩ := hkept (g4) (by go_size); obtain ⟨r2, rf2⟩ := hkept (p9) (by go_size); clear hkept
                repeat (any_goals (first | go_big_quiet_step (fail) | quiet_step (fail) | (refine wpQuiet_step (fun K hK => ?_); go_simp; split <;> (refine hK _ ?_; clear hK K))))
                all_goals (refine wpQuiet_nil ?_; intro w8 hb; obtain ⟨hB, hS, hk⟩ := after (B := wr.heap.size) (w := wr) (by go_grown) (by go_size) hb; obtain ⟨c0, f0, z0⟩ := hk (p) (by go_size); obtain ⟨c1, f1, z1⟩ := hk (g4) (by go_size); obtain ⟨c2, f2, z2⟩ := hk (p9) (by go_size); clear hk hb r0 rf0 r1 rf1 r2 rf2)
                go_wp2_with fail
                exact ⟨⟨k2 + 1, by omega, by go_num, Lib.hid (hI.out.next He.out hcf.out hB)⟩, by simp [intOf]; omega⟩
            · have s1 : (e.kind == 2) = false := by simpa using d1
              have hcf : Hid (confB s e = false) := Lib.hid (by simp [confB, d1])
              clear d1
              go_upto_region 12 with fail
              refine wp_region_below (by kernel_rfl) (by kernel_rfl) (fun hkept => ?_)
              obtain ⟨r0, rf0⟩ := hkept (p) (by go_size); obtain ⟨r1, rf1⟩ := hkept (g4) (by go_size); obtain ⟨r2, rf2⟩ := hkept (p9) (by go_size); clear hkept
              repeat (any_goals (first | go_big_quiet_step (fail) | quiet_step (fail) | (refine wpQuiet_step (fun K hK => ?_); go_simp; split <;> (refine hK _ ?_; clear hK K))))
              all_goals (refine wpQuiet_nil ?_; intro w8 hb; obtain ⟨hB, hS, hk⟩ := after (B := wr.heap.size) (w := wr) (by go_grown) (by go_size) hb; obtain ⟨c0, f0, z0⟩ := hk (p) (by go_size); obtain ⟨c1, f1, z1⟩ := hk (g4) (by go_size); obtain ⟨c2, f2, z2⟩ := hk (p9) (by go_size); clear hk hb r0 rf0 r1 rf1 r2 rf2)
              go_wp2_with fail
              exact ⟨⟨k2 + 1, by omega, by go_num, Lib.hid (hI.out.next He.out hcf.out hB)⟩, by simp [intOf]; omega⟩
          · obtain rfl : k2 = s.en := by omega
            obtain ⟨na, nn, nc, hI4, hw4, c4⟩ := hI.out.ex
            rw [List.take_of_length_le (by rw [Hel.out]; exact Nat.le_refl _)] at hI4
            obtain ⟨_, k0, k1, k2, k3, f4, _⟩ := hI.out
            rw [← Hp9.out] at c4 k0 k1 k2 k3
            obtain ⟨x, hx⟩ : ∃ x : LocI, x = ⟨3 + m, s.lo, s.hi, s.ep, na, nn, nc, nodesL s⟩ := ⟨_, rfl⟩
            obtain ⟨i0, hi, iz0, iz1, iz2⟩ := info_parts Try.info_loc
            have Hi := Lib.hid hi
            have hbV := HBc.out.trans (hI.out.bel.mono HBc.out.size)
            have HBV := Lib.hid hbV
            have HRV := Lib.hid (Row.below HR5.out hbV)
            have HNV := Lib.hid (fun c hc => Ints.below (HN5.out c hc) hbV)
            have HIx := Lib.hid hI4
            have hl9 := World.block_lt_of_cell? _ _ c4
            simp only at hl9
            have K0 := Lib.hid k0
            have K1 := Lib.hid k1
            have K2 := Lib.hid k2
            have K3 := Lib.hid k3
            have K4 := Lib.hid c4
            obtain ⟨V5, hV5⟩ : ∃ V, V = wr := ⟨_, rfl⟩
            subst hV5
            clear hi hbV hI4 k0 k1 k2 k3 c4 f4 hI HR5 HN5 x11
            go_wp2_with fail
            go_loopw [9] (fun i U => ∃ j : Nat, j ≤ cs.length ∧ i = .int .i64 j ∧ Hid (∀ i', i' < j → ∀ c, cs[i']? = some c → ¬ x.lo.toList < c.lo.toList) ∧ Hid (Below V5.heap.size V5 U)) (fun i _ => cs.length - (intOf i).toNat)
            case atStart => exact ⟨0, by omega, rfl, Lib.hid (fun i' h => by omega), Lib.hid (Below.refl _ _)⟩
            case round =>
              obtain ⟨j, hj, rfl, hA, hU⟩ := hrel
              have hzU := hU.out.size
              have hp9U : p9 < wr.heap.size := Nat.lt_of_lt_of_le hl9 hzU
              have HCw := Lib.hid (row_arr (by decide) (by rw [List.length_map]) (Row.below HRV.out hU.out) (loc_elems cs))
              have hcf := Arr.fits HCw.out
              have hcx := Arr.max HCw.out
              unfold maxLen at hcx
              obtain ⟨g, hg⟩ : ∃ g : Bool, g = (match cs[j]? with | none => false | some c => !decide (s.lo.toList < c.lo.toList)) := ⟨_, rfl⟩
              have Hg := Lib.hid hg
              clear hg
              go_upto_region 15 with fail
              go_cut [82] (fun c wx => c = .bool g ∧ Hid (Below wr.heap.size wr wx))
              case first =>
                have n1 := (hU.out.cell (p := ⟨p9, 1, none⟩) hl9).trans K1.out
                by_cases hjl : j < cs.length
                · obtain ⟨c, hc⟩ : ∃ c, cs[j]? = some c := ⟨_, List.getElem?_eq_getElem hjl⟩
                  obtain ⟨g5, off5, e5, hg5, yy⟩ := Arr.at_ HCw.out (i := j) (e := c.l) (by rw [List.getElem?_map, hc]; rfl)
                  have z1 : wr.cell? ⟨g5, off5 + j * 5 + 1, none⟩ = some (.string c.lo) := yy 1 _ rfl
                  have t2 : decide (j < cs.length) = true := by simpa using hjl
                  have Hg2 : Hid (g = !decide (s.lo.toList < c.lo.toList)) := Lib.hid (by rw [Hg.out, hc])
                  cases e5
                  clear yy hc Hg
                  by_cases hlo : s.lo.toList < c.lo.toList
                  · obtain ⟨b1, b2⟩ := le_false _ _ hlo
                    have Hg3 : Hid (g = false) := Lib.hid (by rw [Hg2.out]; simp [hlo])
                    clear hlo Hg2
                    refine wp_region_below (by kernel_rfl) (by kernel_rfl) (fun hkept => ?_)
                    obtain ⟨r0, rf0⟩ := hkept (p9) (by go_size); obtain ⟨r1, rf1⟩ := hkept (g5) (by go_size); clear hkept
                    repeat (any_goals (first | go_big_quiet_step (fail) | quiet_step (fail) | (refine wpQuiet_step (fun K hK => ?_); go_simp; split <;> (refine hK _ ?_; clear hK K))))
                    all_goals (refine wpQuiet_nil ?_; intro w8 hb; obtain ⟨hB, hS, hk⟩ := after (B := wr.heap.size) (w := wr) (by go_grown) (by go_size) hb; obtain ⟨c0, f0, z0⟩ := hk (p9) (by go_size); obtain ⟨c1, f1, z1⟩ := hk (g5) (by go_size); clear hk hb r0 rf0 r1 rf1)
                    go_wp2_with fail
                    go_meet
                    exact ⟨by rw [Hg3.out], Lib.hid hB⟩
                  · have b1 := le_true _ _ hlo
                    have Hg3 : Hid (g = true) := Lib.hid (by rw [Hg2.out]; simp [hlo])
                    clear hlo Hg2
                    refine wp_region_below (by kernel_rfl) (by kernel_rfl) (fun hkept => ?_)
                    obtain ⟨r0, rf0⟩ := hkept (p9) (by go_size); obtain ⟨r1, rf1⟩ := hkept (g5) (by go_size); clear hkept
                    repeat (any_goals (first | go_big_quiet_step (fail) | quiet_step (fail) | (refine wpQuiet_step (fun K hK => ?_); go_simp; split <;> (refine hK _ ?_; clear hK K))))
                    all_goals (refine wpQuiet_nil ?_; intro w8 hb; obtain ⟨hB, hS, hk⟩ := after (B := wr.heap.size) (w := wr) (by go_grown) (by go_size) hb; obtain ⟨c0, f0, z0⟩ := hk (p9) (by go_size); obtain ⟨c1, f1, z1⟩ := hk (g5) (by go_size); clear hk hb r0 rf0 r1 rf1)
                    go_wp2_with fail
                    go_meet
                    exact ⟨by rw [Hg3.out], Lib.hid hB⟩
                · obtain rfl : j = cs.length := by omega
                  have t2 : decide (cs.length < cs.length) = false := by simp
                  have t3 : decide ((cs.length : Int) < (cs.length : Int)) = false := by simp
                  have Hg3 : Hid (g = false) := Lib.hid (by rw [Hg.out, List.getElem?_eq_none (Nat.le_refl _)])
                  clear Hg
                  refine wp_region_below (by kernel_rfl) (by kernel_rfl) (fun hkept => ?_)
                  obtain ⟨r0, rf0⟩ := hkept (p9) (by go_size); clear hkept
                  repeat (any_goals (first | go_big_quiet_step (fail) | quiet_step (fail) | (refine wpQuiet_step (fun K hK => ?_); go_simp; split <;> (refine hK _ ?_; clear hK K))))
                  all_goals (refine wpQuiet_nil ?_; intro w8 hb; obtain ⟨hB, hS, hk⟩ := after (B := wr.heap.size) (w := wr) (by go_grown) (by go_size) hb; obtain ⟨c0, f0, z0⟩ := hk (p9) (by go_size); clear hk hb r0 rf0)
                  go_wp2_with fail
                  go_meet
                  exact ⟨by rw [Hg3.out], Lib.hid hB⟩
              case rest =>
                obtain ⟨rfl, HB8⟩ := hcut
                have HU2 := Lib.hid (hU.out.trans (HB8.out.mono hU.out.size))
                cases g with
                | true =>
                  obtain ⟨c, hc, hlo⟩ : ∃ c, cs[j]? = some c ∧ ¬ s.lo.toList < c.lo.toList := by
                    have := Hg.out
                    cases hc : cs[j]? with
                    | none => rw [hc] at this; cases this
                    | some c => rw [hc] at this; exact ⟨c, rfl, by simpa using this.symm⟩
                  have hjl : j < cs.length := (List.getElem?_eq_some_iff.1 hc).1
                  have HA2 : Hid (∀ i', i' < j + 1 → ∀ c, cs[i']? = some c → ¬ x.lo.toList < c.lo.toList) := Lib.hid (fun i' hi' c' hc' => by
                    rcases Nat.lt_or_ge i' j with h | h
                    · exact hA.out i' h c' hc'
                    · have : i' = j := by omega
                      rw [this, hc] at hc'; cases hc'; rw [hx]; exact hlo)
                  clear hc hlo
                  go_wp2_with fail
                  exact ⟨⟨j + 1, by omega, by go_num, HA2, HU2⟩, by simp [intOf]; omega⟩
                | false =>
                  have hah : aheadN x cs = j := ahead_eq x cs j hA.out (fun c hc => by
                    have := Hg.out
                    rw [hc] at this
                    rw [hx]
                    simpa using this.symm) hj
                  have hput : putLc x cs = cs.take j ++ x :: cs.drop j := by rw [ahead_put, hah]
                  have Hput := Lib.hid hput
                  have He9 : Hid (j + 1 + (cs.length - j) = (putLc x cs).length) := Lib.hid (by rw [hput, List.length_append, List.length_cons, List.length_take, List.length_drop]; omega)
                  have HCU := Lib.hid (Arr.below HCw.out HB8.out)
                  have hp9c : p9 < wc.heap.size := Nat.lt_of_lt_of_le hp9U HB8.out.size
                  have n0 := (HU2.out.cell (p := ⟨p9, 0, none⟩) hl9).trans K0.out
                  have n1 := (HU2.out.cell (p := ⟨p9, 1, none⟩) hl9).trans K1.out
                  have n2 := (HU2.out.cell (p := ⟨p9, 2, none⟩) hl9).trans K2.out
                  have n3 := (HU2.out.cell (p := ⟨p9, 3, none⟩) hl9).trans K3.out
                  have n4 := (HU2.out.cell (p := ⟨p9, 4, none⟩) hl9).trans K4.out
                  have Hx := Lib.hid hx
                  clear hah hput HCw hzU hx
                  go_wp2_with (first | (at_builtin; refine wpList_append_arr _ rfl _ _ 29 rfl wc.heap.size 37 i0 _ 5 72 Try.underlying29 Hi.out iz0 iz1 iz2 rfl (by decide) (.slice a8 (j + 1) k8) _ _ rfl HR8.out rfl HAd.out (by omega) (by unfold maxLen; omega) (by have := HB8.out.size; omega) ?_; intro v9 w9 hr9 hb9 hg9; rw [He9.out] at hr9; obtain ⟨a9, k9, rfl⟩ := row_slice hr9; have HR9 := Lib.hid hr9; have HB9 := Lib.hid (HB8.out.trans hb9); clear hr9 hb9 hg9) | (refine wpList_slice_from rfl _ _ 29 rfl i0 5 37 Try.underlying29 Hi.out iz1 rfl rfl hj HC8.out ?_; intro ad cd hAd; have HAd := Lib.hid hAd; clear hAd) | (at_builtin; refine wpList_append_arr _ rfl _ _ 29 rfl wc.heap.size 37 i0 _ 5 72 Try.underlying29 Hi.out iz0 iz1 iz2 rfl (by decide) (.slice a7 j k7) _ _ rfl (Row.alloc HR7.out _) rfl (locs_one w7 _ ⟨3 + m, s.lo, s.hi, s.ep, na, nn, nc, nodesL s⟩ _ rfl) (by omega) (by unfold maxLen; omega) (by have := HB7.out.size; rw [World.size_alloc]; omega) ?_; intro v8 w8 hr8 hb8 hg8; obtain ⟨a8, k8, rfl⟩ := row_slice hr8; have HR8 := Lib.hid hr8; have HB8 := Lib.hid ((HB7.out.trans ((Below.refl _ _).alloc HB7.out.size _)).trans hb8); have HC8 := Lib.hid (Arr.below HCU.out HB8.out); clear hr8 hb8 hg8) | (at_builtin; refine wpList_append_arr wc rfl _ _ 29 rfl wc.heap.size 37 i0 _ 5 72 Try.underlying29 Hi.out iz0 iz1 iz2 rfl (by decide) (.slice none 0 0) 0 [] rfl (Row.nil _ _ _ _) rfl (Arr.take HCU.out hj) (by omega) (by unfold maxLen; omega) (Nat.le_refl _) ?_; intro v7 w7 hr7 hb7 hg7; rw [Nat.zero_add, List.nil_append] at hr7; obtain ⟨a7, k7, rfl⟩ := row_slice hr7; have HR7 := Lib.hid hr7; have HB7 := Lib.hid hb7; have n0 := (hb7.cell (p := ⟨p9, 0, none⟩) hp9c).trans n0; have n1 := (hb7.cell (p := ⟨p9, 1, none⟩) hp9c).trans n1; have n2 := (hb7.cell (p := ⟨p9, 2, none⟩) hp9c).trans n2; have n3 := (hb7.cell (p := ⟨p9, 3, none⟩) hp9c).trans n3; have n4 := (hb7.cell (p := ⟨p9, 4, none⟩) hp9c).trans n4; clear hr7 hb7 hg7))
                  have hb59 : Below V5.heap.size V5 w9 := HU2.out.trans (HB9.out.mono HU2.out.size)
                  have hbw9 : Below w.heap.size w w9 := HBw5.out.trans ((HBV.out.trans (hb59.mono HBV.out.size)).mono HBw5.out.size)
                  have hsz : w.heap.size ≤ wc.heap.size := Nat.le_trans HBw5.out.size (Nat.le_trans HBV.out.size HU2.out.size)
                  refine ⟨⟨m + 1, putLc x cs, a9, k9, by omega, by go_num, rfl, Lib.hid ?_, Lib.hid ?_, Lib.hid (fun c hc => ?_), Lib.hid hbw9⟩, by simp [intOf]; omega⟩
                  · rw [putLc_says, hP.out, hP1.out, Hx.out]; rfl
                  · have h1 := Row.mono HR9.out hsz
                    have e : ((putLc x cs).map LocI.l).flatten = ((cs.map LocI.l).take j).flatten ++ ([(⟨3 + m, s.lo, s.hi, s.ep, na, nn, nc, nodesL s⟩ : LocI)].map LocI.l).flatten ++ ((cs.map LocI.l).drop j).flatten := by
                      rw [Hput.out, Hx.out, List.map_append, List.map_cons, List.flatten_append, List.map_take, List.map_drop]; simp
                    rw [e]
                    exact h1
                  · rw [Hput.out] at hc
                    rcases List.mem_append.1 hc with hc | hc
                    · exact Ints.below (HNV.out c (List.mem_of_mem_take hc)) hb59
                    · rcases List.mem_cons.1 hc with rfl | hc
                      · have : Ints w9 na nn nc (nodesL s) := Ints.below HIx.out hb59
                        rw [Hx.out]; exact this
                      · exact Ints.below (HNV.out c (List.mem_of_mem_drop hc)) hb59
    · obtain rfl : m = 9 := by omega
      go_wp2_with fail
      go_returns
      exact ⟨_, cs, rfl, hR.out, hN.out, by rw [hP.out, rtabs_eq]; rfl, hB.out⟩
end Go.Proofs.Yteibnignjghedaa
