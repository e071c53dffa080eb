/-
  Where the tablets are: the walk of audit.Tablets.
-/
import Derived.Test.YteibnignjghedaaAudY
import Derived.Test.YteibnignjghedaaAppendAt
namespace Go.Proofs.Yteibnignjghedaa
open Go.RowKit Go.Sort

/-- a place whose nodes lie in a row of their own -/
def NodesR (w : World) (B : Nat) (c : LocI) : Prop := Row w B 3 1 (.slice c.na c.nn c.nc) c.nn (c.nd.map intE).flatten
theorem NodesR.below {w w' : World} {B : Nat} {c : LocI} (h : NodesR w B c) (hb : Below w.heap.size w w') : NodesR w' B c := Row.below h hb

/-- .. and apart from the row v -/
structure NodesA (w : World) (B : Nat) (v : Value) (c : LocI) : Prop where
  row : NodesR w B c
  ap : ∀ q, v.ownBlock = some q → (Value.slice c.na c.nn c.nc).ownBlock ≠ some q
theorem NodesA.below {w w' : World} {B : Nat} {v : Value} {c : LocI} (h : NodesA w B v c) (hb : Below w.heap.size w w') : NodesA w' B v c := ⟨h.row.below hb, h.ap⟩
theorem NodesA.own {w w' : World} {B : Nat} {v : Value} {c : LocI} (h : NodesA w B v c) (hg : w.grownBy w' v.ownBlock) : NodesA w' B v c :=
  ⟨Row.of_heap h.row fun k hk => hg.block k (Row.lt h.row k hk).2 (fun e => h.ap k e.symm hk), h.ap⟩
theorem LocI.one (c : LocI) : ∀ u ∈ c.l, u.oneCell' = true := fun u hu => by
  simp only [LocI.l, List.mem_cons, List.not_mem_nil, or_false] at hu
  rcases hu with rfl | rfl | rfl | rfl | rfl <;> rfl
theorem isort_mem {c : LocI} {l : List LocI} (h : c ∈ isort l) : c ∈ l := by
  have : ∀ (l r : List LocI), c ∈ l.foldl (fun r x => insR x r) r → c ∈ l ∨ c ∈ r := by
    intro l
    induction l with
    | nil => intro r h; exact .inr h
    | cons x l ih =>
      intro r h
      rcases ih _ h with h | h
      · exact .inl (by simp [h])
      · rcases insR_mem h with rfl | h
        · exact .inl (by simp)
        · exact .inr h
  rcases this l [] (by simpa [isort, isR] using h) with h | h
  · exact h
  · cases h
theorem row_slice {w : World} {B : Nat} {T : TypeId} {size n : Nat} {v : Value} {xs : List Value} (h : Row w B T size v n xs) : ∃ a c, v = .slice a n c := by
  rcases h.form with ⟨rfl, rfl⟩ | ⟨g, c, rfl, _⟩
  · exact ⟨_, _, rfl⟩
  · exact ⟨_, _, rfl⟩
theorem locs_one (w : World) (T : TypeId) (c : LocI) (g : Nat) (hg : w.heap.size = g) : Arr (w.alloc (.cells #[.int .i64 c.gr, .string c.lo, .string c.hi, .int .u64 c.ep, .slice c.na c.nn c.nc] T)) 5 (some ⟨g, 0, none⟩) 1 1 ([c].map LocI.l) := by
  subst hg
  refine ⟨loc_elems _, rfl, Nat.le_refl _, by unfold maxLen; omega, fun _ => ⟨w.heap.size, 0, rfl, by rw [World.size_alloc]; omega, fun i e he j u hu => ?_⟩⟩
  have hi : i = 0 := by
    have := (List.getElem?_eq_some_iff.1 he).1
    simp at this; exact this
  subst hi
  simp only [List.map_cons, List.map_nil, List.getElem?_cons_zero, Option.some.injEq] at he
  subst he
  simp only [Nat.zero_mul, Nat.zero_add]
  rw [World.cell?_alloc_new]
  simpa [LocI.l] using hu
theorem Try.info_loc : (Try.prog.info? 37).map (fun i => (i.zero, i.size, i.bytes)) = some (some (.agg #[.int .i64 0, .string ⟨#[]⟩, .string ⟨#[]⟩, .int .u64 0, .slice none 0 0]), 5, 72) := by kernel_rfl
structure PlaceI (wc : World) (g : Int) (s : SeenA) (k : Nat) (V : World) : Prop where
  ex : ∃ (na : Option Addr) (nn nc : Nat), Ints V na nn nc (nodesF s s.bm (s.es.take k)) ∧ nn * 8 ≤ 140737488355328 ∧ V.cell? ⟨wc.heap.size, 4, none⟩ = some (.slice na nn nc)
  c0 : V.cell? ⟨wc.heap.size, 0, none⟩ = some (.int .i64 g)
  c1 : V.cell? ⟨wc.heap.size, 1, none⟩ = some (.string s.lo)
  c2 : V.cell? ⟨wc.heap.size, 2, none⟩ = some (.string s.hi)
  c3 : V.cell? ⟨wc.heap.size, 3, none⟩ = some (.int .u64 s.ep)
  f4 : V.frozen? ⟨wc.heap.size, 4, none⟩ = false
  bel : Below wc.heap.size wc V
theorem PlaceI.next {wc V V' : World} {g : Int} {s : SeenA} {k : Nat} {e : EntA} (h : PlaceI wc g s k V) (he : s.es[k]? = some e) (hc : confB s e = false) (hb : Below V.heap.size V V') : PlaceI wc g s (k + 1) V' := by
  obtain ⟨⟨na, nn, nc, h1, h2, h3⟩, c0, c1, c2, c3, f4, bel⟩ := h
  have hl := World.block_lt_of_cell? _ _ c0
  refine ⟨⟨na, nn, nc, ?_, h2, (hb.cell (p := ⟨wc.heap.size, 4, none⟩) hl).trans h3⟩, (hb.cell (p := ⟨wc.heap.size, 0, none⟩) hl).trans c0, (hb.cell (p := ⟨wc.heap.size, 1, none⟩) hl).trans c1, (hb.cell (p := ⟨wc.heap.size, 2, none⟩) hl).trans c2, (hb.cell (p := ⟨wc.heap.size, 3, none⟩) hl).trans c3, (hb.frozen (p := ⟨wc.heap.size, 4, none⟩) hl).trans f4, bel.trans (hb.mono bel.size)⟩
  have : nodesF s s.bm (s.es.take (k + 1)) = nodesF s s.bm (s.es.take k) := by rw [List.take_add_one, he]; show nodesF s s.bm (s.es.take k ++ [e]) = _; rw [nodesF_snoc, hc]; rfl
  rw [this]
  exact h1.below hb
theorem PlaceI.conf {wc V V' : World} {g : Int} {s : SeenA} {k : Nat} {e : EntA} (h : PlaceI wc g s k V) (he : s.es[k]? = some e) (hc : confB s e = true) (hb : Below V.heap.size V V') (hm : e.In wc) (hw : e.mn * 8 ≤ 140737488355328) : PlaceI wc g s (k + 1) (V'.setCell ⟨wc.heap.size, 4, none⟩ (.slice e.ma e.mn e.mc)) := by
  obtain ⟨⟨na, nn, nc, h1, h2, h3⟩, c0, c1, c2, c3, f4, bel⟩ := h
  have hl := World.block_lt_of_cell? _ _ c0
  have hn : nodesF s s.bm (s.es.take (k + 1)) = e.mem := by rw [List.take_add_one, he]; show nodesF s s.bm (s.es.take k ++ [e]) = _; rw [nodesF_snoc, hc]; rfl
  have o : ∀ (j : Nat) (u : Value), j ≠ 4 → V.cell? ⟨wc.heap.size, j, none⟩ = some u → (V'.setCell ⟨wc.heap.size, 4, none⟩ (.slice e.ma e.mn e.mc)).cell? ⟨wc.heap.size, j, none⟩ = some u := fun j u hj hu => by
    rw [World.cell?_setCell_other _ _ _ _ (fun x => hj (by cases x; rfl))]
    exact (hb.cell (p := ⟨wc.heap.size, j, none⟩) hl).trans hu
  refine ⟨⟨e.ma, e.mn, e.mc, ?_, hw, World.cell?_setCell_same _ _ _ ((hb.cell (p := ⟨wc.heap.size, 4, none⟩) hl).trans h3)⟩, o 0 _ (by omega) c0, o 1 _ (by omega) c1, o 2 _ (by omega) c2, o 3 _ (by omega) c3, by rw [World.frozen?_setCell]; exact (hb.frozen (p := ⟨wc.heap.size, 4, none⟩) hl).trans f4, (bel.trans (hb.mono bel.size)).setCell (Nat.le_refl _) _⟩
  rw [hn]
  exact Ints.below hm ((bel.trans (hb.mono bel.size)).setCell (Nat.le_refl _) _)

set_option maxRecDepth 100000 in
set_option maxHeartbeats 8000000 in
theorem tablets_any (ao : Option Addr) (n cap : Nat) (l : List SeenA) (w : World) (h : Seens w ao n cap l) (hwt : ∀ s ∈ l, s.bn * 8 ≤ 140737488355328 ∧ ∀ e ∈ s.es, e.mn * 8 ≤ 140737488355328) :
    Calls Try.prog 13 #[.slice ao n cap] w fun e w' => ∃ (v : Value) (cs : List LocI), e = .returned v ∧ Row w' w.heap.size 37 5 v cs.length (cs.map LocI.l).flatten ∧ (∀ c ∈ cs, NodesR w' w.heap.size c) ∧ cs.map LocI.says = tabsL l ∧ Below w.heap.size w w' := by
  have H := Lib.hid h
  have HW := Lib.hid hwt
  have hc1 := Arr.fits h.arr
  have hc2 := Arr.max h.arr
  unfold maxLen at hc2
  have Hn := Lib.hid h.len
  clear h hwt
  go_enter Try.func13, Try.ntmps13
  go_wp2
  go_loopw [3, 4] (fun v gi wr => ∃ (m : Nat) (cs : List LocI), m ≤ 9 ∧ gi = .int .i64 (3 + m) ∧ Hid (cs.map LocI.says = placesL l m) ∧ Hid (Row wr w.heap.size 37 5 v cs.length (cs.map LocI.l).flatten) ∧ Hid (∀ c ∈ cs, NodesA wr w.heap.size v c) ∧ Below w.heap.size w wr) (fun _ gi _ => 12 - (intOf gi).toNat)
  case atStart => exact ⟨0, [], by omega, rfl, Lib.hid rfl, Lib.hid (Row.nil _ _ _ _), Lib.hid (fun c hc => by cases hc), Below.refl _ _⟩
  case round =>
    obtain ⟨m, cs, hm, rfl, hP, hR, hN, hB⟩ := hrel
    have hzr := hB.size
    by_cases hlt : m < 9
    · have t0 : decide ((3 : Int) + (m : Int) < 12) = true := by simp; omega
      go_wp2
      obtain ⟨wo, hwo⟩ : ∃ wo, wo = wr := ⟨_, rfl⟩
      subst hwo
      go_loopw [5, 18] (fun bst i wr => ∃ k : Nat, k ≤ n ∧ bst = .int .i64 (bestI (bestL (3 + m) (l.take k))) ∧ i = .int .i64 k ∧ Below wo.heap.size wo wr) (fun _ i _ => n - (intOf i).toNat)
      case atStart => exact ⟨0, by omega, rfl, rfl, Below.refl _ _⟩
      case round =>
        obtain ⟨k, hk, rfl, rfl, hB0⟩ := hrel
        have hz0 := hB0.size
        have hBw : Below w.heap.size w wr := hB.trans (hB0.mono hzr)
        obtain ⟨acc, hacc⟩ : ∃ acc, acc = bestL (3 + m) (l.take k) := ⟨_, rfl⟩
        rw [← hacc]
        by_cases hlt : k < n
        · obtain ⟨s, hs⟩ : ∃ s, l[k]? = some s := ⟨_, List.getElem?_eq_getElem (by rw [Hn.out]; omega)⟩
          obtain ⟨b, off, e0, hb, xx⟩ := (H.out.below hBw).at_ hs
          have HLs := Lib.hid xx.load
          have Htk : Hid (bestL (3 + m) (l.take (k + 1)) = stepB (3 + m) acc k s) := Lib.hid (by rw [bestL_take hs, hacc])
          have Hq : Hid (∀ q, acc = some q → q.1 < k ∧ l[q.1]? = some q.2) := Lib.hid (fun q hq => bestL_at k (by rw [Hn.out]; omega) q (by rw [← hacc]; exact hq))
          clear hs xx hacc
          cases e0
          go_upto_region 9 with (first | (refine wpList_loadK rfl (by rfl) rfl (by exact HLs.out) ?_; simp only [Act.put, List.setIfInBounds_toArray, List.set_cons_succ, List.set_cons_zero]) | (refine wpList_storeN rfl rfl rfl rfl (by first | rfl | simp) (by kernel_rfl) (by rfl) (SeenA.all _) ?_; simp only [Act.put, List.setIfInBounds_toArray, List.set_cons_succ, List.set_cons_zero]))
          obtain ⟨wc, hwc⟩ : ∃ wc, wc = wr.alloc (.cells s.l.toArray 49) := ⟨_, rfl⟩
          obtain ⟨p, hp⟩ : ∃ p, p = wr.heap.size := ⟨_, rfl⟩
          have hE := SeenAt.new wr s 49
          have hBc : Below wr.heap.size wr wc := by rw [hwc]; exact (Below.refl _ _).alloc (Nat.le_refl _) _
          rw [← hwc, ← hp] at hE ⊢
          clear hwc hp
          have hpl := hE.lt
          have x1 := hE.at_ 1 _ rfl
          have x11 := hE.at_ 11 _ rfl
          simp only [Nat.zero_add] at x1 x11
          have HBc := Lib.hid (hB0.trans (hBc.mono hz0))
          have hzc := HBc.out.size
          have hBwc : Below w.heap.size w wc := hBw.trans (hBc.mono hBw.size)
          clear hE hBc hBw
          have HBo := Lib.hid hB
          clear hB
          cases acc with
          | none =>
            simp only [bestI]
            have t1 : decide ((-1 : Int) < 0) = true := rfl
            by_cases d1 : s.group = 3 + m
            · have s1 : (s.group == 3 + (m : Int)) = true := by simpa using d1
              by_cases d2 : 0 < s.app
              · have s2 : decide ((0 : Int) < s.app) = true := by simpa using d2
                have hst : Hid (stepB (3 + m) none k s = some (k, s)) := Lib.hid (by rw [stepB, if_pos (by simp [d1, d2, newer])])
                clear d1 d2
                refine wp_region_below (by kernel_rfl) (by kernel_rfl) (fun hkept => ?_)
                obtain ⟨r0, rf0⟩ := hkept (p) (by go_size); clear hkept
                repeat (any_goals (first | go_big_quiet_step (fail) | quiet_step (fail) | (refine wpQuiet_step (fun K hK => ?_); go_simp; split <;> (refine hK _ ?_; clear hK K))))
                all_goals (refine wpQuiet_nil ?_; intro w5 hb; obtain ⟨hB, hS, hk⟩ := after (B := wc.heap.size) (w := wc) (by go_grown) (by go_size) hb; obtain ⟨c0, f0, z0⟩ := hk (p) (by go_size); clear hk hb r0 rf0)
                have HB5 := Lib.hid (HBc.out.trans (hB.mono HBc.out.size))
                clear hB
                go_wp2
                exact ⟨⟨k + 1, by omega, by rw [Htk.out, hst.out]; rfl, by go_num, HB5.out⟩, by simp [intOf]; omega⟩
              · have s2 : decide ((0 : Int) < s.app) = false := by simpa using d2
                have hst : Hid (stepB (3 + m) none k s = none) := Lib.hid (by rw [stepB, if_neg (by simp [d2])])
                clear d1 d2
                refine wp_region_below (by kernel_rfl) (by kernel_rfl) (fun hkept => ?_)
                obtain ⟨r0, rf0⟩ := hkept (p) (by go_size); clear hkept
                repeat (any_goals (first | go_big_quiet_step (fail) | quiet_step (fail) | (refine wpQuiet_step (fun K hK => ?_); go_simp; split <;> (refine hK _ ?_; clear hK K))))
                all_goals (refine wpQuiet_nil ?_; intro w5 hb; obtain ⟨hB, hS, hk⟩ := after (B := wc.heap.size) (w := wc) (by go_grown) (by go_size) hb; obtain ⟨c0, f0, z0⟩ := hk (p) (by go_size); clear hk hb r0 rf0)
                have HB5 := Lib.hid (HBc.out.trans (hB.mono HBc.out.size))
                clear hB
                go_wp2
                exact ⟨⟨k + 1, by omega, by rw [Htk.out, hst.out]; rfl, by go_num, HB5.out⟩, by simp [intOf]; omega⟩
            · have s1 : (s.group == 3 + (m : Int)) = false := by simpa using d1
              have hst : Hid (stepB (3 + m) none k s = none) := Lib.hid (by rw [stepB, if_neg (by simp [d1])])
              clear d1
              refine wp_region_below (by kernel_rfl) (by kernel_rfl) (fun hkept => ?_)
              obtain ⟨r0, rf0⟩ := hkept (p) (by go_size); clear hkept
              repeat (any_goals (first | go_big_quiet_step (fail) | quiet_step (fail) | (refine wpQuiet_step (fun K hK => ?_); go_simp; split <;> (refine hK _ ?_; clear hK K))))
              all_goals (refine wpQuiet_nil ?_; intro w5 hb; obtain ⟨hB, hS, hk⟩ := after (B := wc.heap.size) (w := wc) (by go_grown) (by go_size) hb; obtain ⟨c0, f0, z0⟩ := hk (p) (by go_size); clear hk hb r0 rf0)
              have HB5 := Lib.hid (HBc.out.trans (hB.mono HBc.out.size))
              clear hB
              go_wp2
              exact ⟨⟨k + 1, by omega, by rw [Htk.out, hst.out]; rfl, by go_num, HB5.out⟩, by simp [intOf]; omega⟩
          | some qq =>
            obtain ⟨qi, q⟩ := qq
            obtain ⟨hq1, hq2⟩ := Hq.out _ rfl
            obtain ⟨b2, off2, e2, hb2, yy⟩ := (H.out.below hBwc).at_ hq2
            have y11 := yy.at_ 11 _ rfl
            cases e2
            simp only [bestI]
            have t1 : decide ((qi : Int) < 0) = false := by simp
            have hqn : qi < n := by simp only at hq1; omega
            clear yy hq2
            by_cases d1 : s.group = 3 + m
            · have s1 : (s.group == 3 + (m : Int)) = true := by simpa using d1
              by_cases d2 : 0 < s.app
              · have s2 : decide ((0 : Int) < s.app) = true := by simpa using d2
                by_cases d3 : q.app < s.app
                · have s3 : decide (q.app < s.app) = true := by simpa using d3
                  have hst : Hid (stepB (3 + m) (some (qi, q)) k s = some (k, s)) := Lib.hid (by rw [stepB, if_pos (by simp [d1, d2, d3, newer])])
                  clear d1 d2 d3
                  refine wp_region_below (by kernel_rfl) (by kernel_rfl) (fun hkept => ?_)
                  obtain ⟨r0, rf0⟩ := hkept (p) (by go_size); obtain ⟨r1, rf1⟩ := hkept (b) (by go_size); clear hkept
                  repeat (any_goals (first | go_big_quiet_step (fail) | quiet_step (fail) | (refine wpQuiet_step (fun K hK => ?_); go_simp; split <;> (refine hK _ ?_; clear hK K))))
                  all_goals (refine wpQuiet_nil ?_; intro w5 hb; obtain ⟨hB, hS, hk⟩ := after (B := wc.heap.size) (w := wc) (by go_grown) (by go_size) hb; obtain ⟨c0, f0, z0⟩ := hk (p) (by go_size); obtain ⟨c1, f1, z1⟩ := hk (b) (by go_size); clear hk hb r0 rf0 r1 rf1)
                  have HB5 := Lib.hid (HBc.out.trans (hB.mono HBc.out.size))
                  clear hB
                  go_wp2
                  exact ⟨⟨k + 1, by omega, by rw [Htk.out, hst.out]; rfl, by go_num, HB5.out⟩, by simp [intOf]; omega⟩
                · have s3 : decide (q.app < s.app) = false := by simpa using d3
                  have hst : Hid (stepB (3 + m) (some (qi, q)) k s = some (qi, q)) := Lib.hid (by rw [stepB, if_neg (by simp [d3, newer])])
                  clear d1 d2 d3
                  refine wp_region_below (by kernel_rfl) (by kernel_rfl) (fun hkept => ?_)
                  obtain ⟨r0, rf0⟩ := hkept (p) (by go_size); obtain ⟨r1, rf1⟩ := hkept (b) (by go_size); clear hkept
                  repeat (any_goals (first | go_big_quiet_step (fail) | quiet_step (fail) | (refine wpQuiet_step (fun K hK => ?_); go_simp; split <;> (refine hK _ ?_; clear hK K))))
                  all_goals (refine wpQuiet_nil ?_; intro w5 hb; obtain ⟨hB, hS, hk⟩ := after (B := wc.heap.size) (w := wc) (by go_grown) (by go_size) hb; obtain ⟨c0, f0, z0⟩ := hk (p) (by go_size); obtain ⟨c1, f1, z1⟩ := hk (b) (by go_size); clear hk hb r0 rf0 r1 rf1)
                  have HB5 := Lib.hid (HBc.out.trans (hB.mono HBc.out.size))
                  clear hB
                  go_wp2
                  exact ⟨⟨k + 1, by omega, by rw [Htk.out, hst.out]; rfl, by go_num, HB5.out⟩, by simp [intOf]; omega⟩
              · have s2 : decide ((0 : Int) < s.app) = false := by simpa using d2
                have hst : Hid (stepB (3 + m) (some (qi, q)) k s = (some (qi, q))) := Lib.hid (by rw [stepB, if_neg (by simp [d2])])
                clear d1 d2
                refine wp_region_below (by kernel_rfl) (by kernel_rfl) (fun hkept => ?_)
                obtain ⟨r0, rf0⟩ := hkept (p) (by go_size); obtain ⟨r1, rf1⟩ := hkept (b) (by go_size); clear hkept
                repeat (any_goals (first | go_big_quiet_step (fail) | quiet_step (fail) | (refine wpQuiet_step (fun K hK => ?_); go_simp; split <;> (refine hK _ ?_; clear hK K))))
                all_goals (refine wpQuiet_nil ?_; intro w5 hb; obtain ⟨hB, hS, hk⟩ := after (B := wc.heap.size) (w := wc) (by go_grown) (by go_size) hb; obtain ⟨c0, f0, z0⟩ := hk (p) (by go_size); obtain ⟨c1, f1, z1⟩ := hk (b) (by go_size); clear hk hb r0 rf0 r1 rf1)
                have HB5 := Lib.hid (HBc.out.trans (hB.mono HBc.out.size))
                clear hB
                go_wp2
                exact ⟨⟨k + 1, by omega, by rw [Htk.out, hst.out]; rfl, by go_num, HB5.out⟩, by simp [intOf]; omega⟩
            · have s1 : (s.group == 3 + (m : Int)) = false := by simpa using d1
              have hst : Hid (stepB (3 + m) (some (qi, q)) k s = (some (qi, q))) := Lib.hid (by rw [stepB, if_neg (by simp [d1])])
              clear d1
              refine wp_region_below (by kernel_rfl) (by kernel_rfl) (fun hkept => ?_)
              obtain ⟨r0, rf0⟩ := hkept (p) (by go_size); obtain ⟨r1, rf1⟩ := hkept (b) (by go_size); clear hkept
              repeat (any_goals (first | go_big_quiet_step (fail) | quiet_step (fail) | (refine wpQuiet_step (fun K hK => ?_); go_simp; split <;> (refine hK _ ?_; clear hK K))))
              all_goals (refine wpQuiet_nil ?_; intro w5 hb; obtain ⟨hB, hS, hk⟩ := after (B := wc.heap.size) (w := wc) (by go_grown) (by go_size) hb; obtain ⟨c0, f0, z0⟩ := hk (p) (by go_size); obtain ⟨c1, f1, z1⟩ := hk (b) (by go_size); clear hk hb r0 rf0 r1 rf1)
              have HB5 := Lib.hid (HBc.out.trans (hB.mono HBc.out.size))
              clear hB
              go_wp2
              exact ⟨⟨k + 1, by omega, by rw [Htk.out, hst.out]; rfl, by go_num, HB5.out⟩, by simp [intOf]; omega⟩
        · obtain rfl : k = n := by omega
          have hfin : Hid (acc = bestL (3 + m) l) := Lib.hid (by rw [hacc, List.take_of_length_le (by rw [Hn.out]; exact Nat.le_refl _)])
          clear hacc
          cases acc with
          | none =>
            simp only [bestI]
            go_wp2
            have hPn : placesL l (m + 1) = placesL l m := by rw [placesL, ← hfin.out, List.append_nil]
            exact ⟨⟨m + 1, cs, by omega, by go_num, Lib.hid (by rw [hPn]; exact hP.out), Lib.hid (hR.out.below hB0), Lib.hid (fun c hc => (hN.out c hc).below hB0), hBw⟩, by simp [intOf]; omega⟩
          | some qq =>
            obtain ⟨qi, s⟩ := qq
            obtain ⟨hq1, hq2⟩ : qi < k ∧ l[qi]? = some s := by
              have := bestL_at (g := 3 + m) k (by rw [Hn.out]; exact Nat.le_refl _) (qi, s) (by rw [List.take_of_length_le (by rw [Hn.out]; exact Nat.le_refl _)]; exact hfin.out.symm)
              exact this
            obtain ⟨b, off, e0, hb, xx⟩ := (H.out.below hBw).at_ hq2
            have HsI := Lib.hid ((H.out.below hBw).ins s (List.mem_of_getElem? hq2))
            have Hsw := Lib.hid (HW.out s (List.mem_of_getElem? hq2))
            have HLs := Lib.hid xx.load
            have t1 : decide ((qi : Int) < 0) = false := by simp
            have hP1 : Hid (placesL l (m + 1) = placesL l m ++ [placeL (3 + m) s]) := Lib.hid (by rw [placesL, ← hfin.out])
            cases e0
            clear xx hq2
            simp only [bestI]
            go_upto_region 14 with (first | (refine wpList_loadK rfl (by rfl) rfl (by exact HLs.out) ?_; simp only [Act.put, List.setIfInBounds_toArray, List.set_cons_succ, List.set_cons_zero]) | (refine wpList_storeN rfl rfl rfl rfl (by first | rfl | simp) (by kernel_rfl) (by rfl) (SeenA.all _) ?_; simp only [Act.put, List.setIfInBounds_toArray, List.set_cons_succ, List.set_cons_zero]))
            obtain ⟨wc, hwc⟩ : ∃ wc, wc = wr.alloc (.cells s.l.toArray 49) := ⟨_, rfl⟩
            obtain ⟨p, hp⟩ : ∃ p, p = wr.heap.size := ⟨_, rfl⟩
            have hE := SeenAt.new wr s 49
            have hBc : Below wr.heap.size wr wc := by rw [hwc]; exact (Below.refl _ _).alloc (Nat.le_refl _) _
            rw [← hwc, ← hp] at hE ⊢
            clear hwc hp
            have hpl := hE.lt
            have x8 := hE.at_ 8 _ rfl
            have x9 := hE.at_ 9 _ rfl
            have x11 := hE.at_ 11 _ rfl
            have x12 := hE.at_ 12 _ rfl
            have x13 := hE.at_ 13 _ rfl
            have x14 := hE.at_ 14 _ rfl
            simp only [Nat.zero_add] at x8 x9 x11 x12 x13 x14
            have HBc := Lib.hid (hB0.trans (hBc.mono hz0))
            have x9c := x9
            have x11c := x11
            clear hE
            go_upto_region 15 with fail
            obtain ⟨wd, hwd⟩ : ∃ wd, wd = wc.alloc (.cells #[.int .i64 (3 + m), .string s.lo, .string s.hi, .int .u64 s.ep, .slice s.ba s.bn s.bc] 37) := ⟨_, rfl⟩
            have hPI : PlaceI wc (3 + m) s 0 wd := by
              rw [hwd]
              refine ⟨⟨s.ba, s.bn, s.bc, (HsI.out.bm.below (hBc)).below ((Below.refl _ _).alloc (Nat.le_refl _) _), Hsw.out.1, by go_simp⟩, by go_simp, by go_simp, by go_simp, by go_simp, by go_simp, (Below.refl _ _).alloc (Nat.le_refl _) _⟩
            rw [← hwd]
            have HPI := Lib.hid hPI
            have hBcw := Lib.hid hBc
            obtain ⟨p9, hp9⟩ : ∃ p9, p9 = wc.heap.size := ⟨_, rfl⟩
            rw [← hp9]
            have Hp9 := Lib.hid hp9
            have hzd := hPI.bel.size
            have HX := Lib.hid (show wd.cell? ⟨p, 9, none⟩ = some (.slice s.ea s.en s.ec) ∧ wd.cell? ⟨p, 11, none⟩ = some (.int .u64 s.app) from ⟨(hPI.bel.cell (p := ⟨p, 9, none⟩) hpl).trans x9, (hPI.bel.cell (p := ⟨p, 11, none⟩) hpl).trans x11⟩)
            have x9 := HX.out.1
            have X9 := Lib.hid x9c
            have X11 := Lib.hid x11c
            have HsC := Lib.hid (HsI.out.below hBc)
            have hce := Arr.fits HsI.out.es.arr
            have hcm := Arr.max HsI.out.es.arr
            unfold maxLen at hcm
            have Hel := Lib.hid HsI.out.es.len
            clear hwd hPI hBc hp9 x8 x12 x13 x14
            obtain ⟨wq, hwq⟩ : ∃ wq, wq = wr := ⟨_, rfl⟩
            subst hwq
            go_wp2
            go_loopw [68] (fun i V => ∃ k : Nat, k ≤ s.en ∧ i = .int .i64 k ∧ Hid (PlaceI wc (3 + m) s k V)) (fun i _ => s.en - (intOf i).toNat)
            case atStart => exact ⟨0, by omega, rfl, HPI⟩
            case round =>
              obtain ⟨k2, hk2, rfl, hI⟩ := hrel
              have hbI := hI.out.bel
              have hzI := hbI.size
              have hpc : p < wc.heap.size := hpl
              have x9 := (hbI.cell (p := ⟨p, 9, none⟩) hpl).trans X9.out
              have x11 := (hbI.cell (p := ⟨p, 11, none⟩) hpl).trans X11.out
              by_cases hlt3 : k2 < s.en
              · obtain ⟨e, he⟩ : ∃ e, s.es[k2]? = some e := ⟨_, List.getElem?_eq_getElem (by rw [Hel.out]; exact hlt3)⟩
                obtain ⟨g4, off4, e4, hg4, hEe, _⟩ := (HsC.out.es.below (hbI.mono (Nat.le_refl _))).at_ he
                have HEI := Lib.hid (HsC.out.es.mem e (List.mem_of_getElem? he))
                have Hew := Lib.hid (Hsw.out.2 e (List.mem_of_getElem? he))
                have HLe := Lib.hid hEe.load
                have He := Lib.hid he
                rw [e4] at x9 ⊢
                clear hEe he e4
                go_upto_region 18 with (first | (refine wpList_loadK rfl (by rfl) rfl (by exact HLe.out) ?_; simp only [Act.put, List.setIfInBounds_toArray, List.set_cons_succ, List.set_cons_zero]) | (refine wpList_storeN rfl rfl rfl rfl (by first | rfl | simp) (by kernel_rfl) (by rfl) (EntA.all _) ?_; simp only [Act.put, List.setIfInBounds_toArray, List.set_cons_succ, List.set_cons_zero]))
                obtain ⟨we, hwe⟩ : ∃ we, we = wr.alloc (.cells e.l.toArray 60) := ⟨_, rfl⟩
                obtain ⟨pe, hpe⟩ : ∃ p, p = wr.heap.size := ⟨_, rfl⟩
                have hE2 := EntAt.new wr e 60
                have hBe : Below wr.heap.size wr we := by rw [hwe]; exact (Below.refl _ _).alloc (Nat.le_refl _) _
                rw [← hwe, ← hpe] at hE2 ⊢
                clear hwe hpe
                have v0 := hE2.idx
                have v2 := hE2.kind
                have v23 := hE2.mem
                simp only [Nat.zero_add] at v2 v23
                have x11 := (hBe.cell (p := ⟨p, 11, none⟩) (by simp only; omega)).trans x11
                have hl9 := World.block_lt_of_cell? _ _ hI.out.c0
                have HBe := Lib.hid hBe
                have f4 := (hBe.frozen (p := ⟨wc.heap.size, 4, none⟩) hl9).trans hI.out.f4
                obtain ⟨_, _, _, _, _, c4⟩ := hI.out.ex
                have c4 := (hBe.cell (p := ⟨wc.heap.size, 4, none⟩) hl9).trans c4
                rw [← Hp9.out] at f4 c4
                clear hE2 hBe hbI
                by_cases d1 : e.kind = 2
                · have s1 : (e.kind == 2) = true := by simpa using d1
                  by_cases d2 : e.idx ≤ s.app
                  · have s2 : decide (e.idx ≤ s.app) = true := by simpa using d2
                    have hcf : Hid (confB s e = true) := Lib.hid (by simp [confB, d1, d2])
                    clear d1 d2
                    go_wp2_with fail
                    exact ⟨⟨k2 + 1, by omega, by go_num, Lib.hid (by rw [Hp9.out]; exact hI.out.conf He.out hcf.out HBe.out HEI.out Hew.out)⟩, by simp [intOf]; omega⟩
                  · have s2 : decide (e.idx ≤ s.app) = false := by simpa using d2
                    have hcf : Hid (confB s e = false) := Lib.hid (by simp [confB, d2])
                    clear d1 d2
                    go_wp2_with fail
                    exact ⟨⟨k2 + 1, by omega, by go_num, Lib.hid (hI.out.next He.out hcf.out HBe.out)⟩, by simp [intOf]; omega⟩
                · have s1 : (e.kind == 2) = false := by simpa using d1
                  have hcf : Hid (confB s e = false) := Lib.hid (by simp [confB, d1])
                  clear d1
                  go_wp2_with fail
                  exact ⟨⟨k2 + 1, by omega, by go_num, Lib.hid (hI.out.next He.out hcf.out HBe.out)⟩, by simp [intOf]; omega⟩
              · obtain rfl : k2 = s.en := by omega
                obtain ⟨na, nn, nc, hI4, hw4, c4⟩ := hI.out.ex
                rw [List.take_of_length_le (by rw [Hel.out]; exact Nat.le_refl _)] at hI4
                have KC := Lib.hid (iclone_any na nn nc (nodesL s) wr hI4 hw4)
                have hl9 := World.block_lt_of_cell? _ _ hI.out.c0
                obtain ⟨_, k0, k1, k2, k3, f4, _⟩ := hI.out
                rw [← Hp9.out] at c4 k0 k1 k2 k3 f4 hl9
                simp only at hl9
                have Hnl := Lib.hid hI4.len
                clear hI4 hw4
                go_wp2_with fail
                refine KC.out.mono ?_
                rintro e w5 ⟨v5, rfl, hr5, hb5⟩
                obtain ⟨a5, c5, rfl⟩ := row_slice hr5
                have m0 := (hb5.cell (p := ⟨p9, 0, none⟩) hl9).trans k0
                have m1 := (hb5.cell (p := ⟨p9, 1, none⟩) hl9).trans k1
                have m2 := (hb5.cell (p := ⟨p9, 2, none⟩) hl9).trans k2
                have m3 := (hb5.cell (p := ⟨p9, 3, none⟩) hl9).trans k3
                have m4 := (hb5.cell (p := ⟨p9, 4, none⟩) hl9).trans c4
                have f4 := (hb5.frozen (p := ⟨p9, 4, none⟩) hl9).trans f4
                have Hr5 := Lib.hid hr5
                have Hb5 := Lib.hid hb5
                clear hr5 hb5 k0 k1 k2 k3 c4 KC
                go_upto_region 22 with fail
                obtain ⟨V6, hV6⟩ : ∃ V6 : World, V6 = w5.setCell ⟨p9, 4, none⟩ (.slice a5 nn c5) := ⟨_, rfl⟩
                have hbW5 := hI.out.bel.trans (Hb5.out.mono hI.out.bel.size)
                have hbW6 : Below wc.heap.size wc V6 := by rw [hV6, Hp9.out]; exact hbW5.setCell (Nat.le_refl _) _
                have n0 : V6.cell? ⟨p9, 0, none⟩ = some (.int .i64 (3 + m)) := by rw [hV6, World.cell?_setCell_other _ _ _ _ (by simp)]; exact m0
                have n1 : V6.cell? ⟨p9, 1, none⟩ = some (.string s.lo) := by rw [hV6, World.cell?_setCell_other _ _ _ _ (by simp)]; exact m1
                have n2 : V6.cell? ⟨p9, 2, none⟩ = some (.string s.hi) := by rw [hV6, World.cell?_setCell_other _ _ _ _ (by simp)]; exact m2
                have n3 : V6.cell? ⟨p9, 3, none⟩ = some (.int .u64 s.ep) := by rw [hV6, World.cell?_setCell_other _ _ _ _ (by simp)]; exact m3
                have n4 : V6.cell? ⟨p9, 4, none⟩ = some (.slice a5 nn c5) := by rw [hV6]; exact World.cell?_setCell_same _ _ _ m4
                have hpr : p9 < wr.heap.size := hl9
                have hR6 : Row V6 wr.heap.size 3 1 (.slice a5 nn c5) nn ((nodesL s).map intE).flatten := by
                  rw [hV6]
                  exact Hr5.out.setCell (fun q hq e => by have := (Row.lt Hr5.out q hq).1; simp only at e; omega) _
                have hzo6 : wo.heap.size ≤ wc.heap.size := HBc.out.size
                have hWo6 : Below wo.heap.size wo V6 := HBc.out.trans (hbW6.mono hzo6)
                have HWo6 := Lib.hid hWo6
                have HR6 := Lib.hid hR6
                have hzw : wc.heap.size ≤ wr.heap.size := hI.out.bel.size
                have hz56 : wr.heap.size ≤ V6.heap.size := by rw [hV6, World.size_setCell]; exact Hb5.out.size
                rw [← hV6]
                clear hV6 hR6 hWo6 hbW5 hbW6 m0 m1 m2 m3 m4 f4
                obtain ⟨i0, hi, iz0, iz1, iz2⟩ := info_parts Try.info_loc
                have hcl : cs.length = (placesL l m).length := by rw [← hP.out, List.length_map]
                have hcl9 : cs.length ≤ 9 := by have := places_len l m; omega
                have Hi := Lib.hid hi
                clear hi
                go_wp2_with (at_builtin; refine wpList_append_at _ rfl _ _ 29 rfl w.heap.size 37 i0 _ 5 72 Try.underlying29 Hi.out iz0 iz1 iz2 rfl (by decide) u3 _ _ rfl (Row.alloc (Row.below hR.out HWo6.out) _) rfl (locs_one V6 _ ⟨3 + m, s.lo, s.hi, s.ep, a5, nn, c5, nodesL s⟩ _ rfl) (by omega) (by unfold maxLen; omega) (by go_size) ?_; intro v7 w7 hr7 hg7 ho7; have HR7 := Lib.hid hr7; have HG7 := Lib.hid hg7; have HO7 := Lib.hid ho7; clear hr7 hg7 ho7)
                have hwo : w.heap.size ≤ wo.heap.size := hzr
                have hzv := HWo6.out.size
                have hRo := hR.out
                have hu3 : ∀ q, u3.ownBlock = some q → w.heap.size ≤ q ∧ q < wo.heap.size := fun q e => Row.lt hRo q e
                have hG := HG7.out
                refine ⟨⟨m + 1, cs ++ [⟨3 + m, s.lo, s.hi, s.ep, a5, nn, c5, nodesL s⟩], by omega, by go_num, Lib.hid (by rw [List.map_append, hP.out, hP1.out]; rfl), Lib.hid (by rw [List.length_append, List.map_append, List.flatten_append]; exact HR7.out), Lib.hid (fun c hc => ?_), ?_⟩, by simp [intOf]; omega⟩
                · rcases List.mem_append.1 hc with hc | hc
                  · have h1 := hN.out c hc
                    have h2 := ((h1.below HWo6.out).below ((Below.refl _ _).alloc (Nat.le_refl _) _)).own hG
                    refine ⟨h2.row, fun q hq => ?_⟩
                    rcases HO7.out with e | e
                    · exact h1.ap q (e ▸ hq)
                    · rw [e] at hq
                      cases hq
                      intro e2
                      have := (Row.lt h1.row _ e2).2
                      rw [World.size_alloc] at this
                      omega
                  · rw [List.mem_singleton] at hc
                    subst hc
                    have h1 := Row.alloc (Row.mono HR6.out (B' := w.heap.size) (by omega)) (.cells #[.int .i64 (3 + m), .string s.lo, .string s.hi, .int .u64 s.ep, .slice a5 nn c5] 37)
                    refine ⟨Row.of_heap h1 fun q hq => hG.block q (Row.lt h1 q hq).2 (fun e => ?_), fun q hq e2 => ?_⟩
                    · have h3 := (hu3 q e.symm).2
                      have h4 := (Row.lt HR6.out q hq).1
                      omega
                    · rcases HO7.out with e | e
                      · rw [e] at hq
                        have h3 := (hu3 q hq).2
                        have h4 := (Row.lt HR6.out q e2).1
                        omega
                      · rw [e] at hq
                        cases hq
                        have h4 := (Row.lt HR6.out _ e2).2
                        rw [World.size_alloc] at h4
                        omega
                · exact (((hB.trans (HWo6.out.mono hwo)).alloc (by omega) _).grown hG (by rw [World.size_alloc]; omega) (fun q e => (hu3 q e).1))
    · obtain rfl : m = 9 := by omega
      have hcl : cs.length ≤ 9 := by
        have := places_len l 9
        rw [← hP.out, List.length_map] at this
        exact this
      have KS := Lib.hid (lsort_any u3 cs cs.length w.heap.size wr rfl (by omega) hR.out)
      clear hcl
      go_wp2_with (go_at_call 32; refine KS.out.mono ?_; rintro e w7 ⟨rfl, hr, hg⟩; have Hr := Lib.hid hr; have Hg := Lib.hid hg; clear hr hg)
      go_returns
      exact ⟨u3, isort cs, rfl, by rw [isort_len]; exact Hr.out, fun c hc => ((hN.out c (isort_mem hc)).own Hg.out).row, by rw [isort_says, hP.out]; rfl, hB.grown Hg.out hzr (fun q e => (Row.lt hR.out q e).1)⟩
end Go.Proofs.Yteibnignjghedaa
