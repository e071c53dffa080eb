/-
  The walk of acreagelaw03.KeysOpen.
-/
import Derived.Test.YtdmepdjlfdigeaaKeysGapW
import Derived.Deep.DeepCutAuto
import Derived.Deep.RegionWith
import Derived.Deep.RegionHeld3
namespace Go.Proofs.Ytdmepdjlfdigeaa
open Go.RowKit Go.Sort

def txE (t : ByteArray) : List Value := [.string t]
theorem txE_elems (ts : List ByteArray) : Elems 1 (ts.map txE) := fun e he => by
  obtain ⟨r, _, rfl⟩ := List.mem_map.1 he
  exact ⟨rfl, fun u hu => by simp only [txE, List.mem_cons, List.not_mem_nil, or_false] at hu; subst hu; rfl⟩

/-- what the law asks of the gap and one text -/
structure AskOk (is s h l : Bool) : Prop where
  a : is = false → s = true
  b : is = true → s = true → h = false
  c : is = true → s = false → l = false
theorem ask_ok (L : List (List UInt8 × List UInt8)) (t : List UInt8) : (∀ A H bb, gapV (gapL L) = .tuple #[.agg #[.string A, .string H], .bool bb] → AskOk bb (covB L t) (hasL A.toList H.toList t) (Op.bytesLess t A.toList)) := by
  intro A H bb hv
  have hok := gap_ok L
  cases hg : gapL L with
  | none =>
    rw [hg] at hv hok
    simp only [gapV, Value.tuple.injEq] at hv
    have : bb = false := by simp at hv; exact hv.2
    subst this
    exact ⟨fun _ => covB_iff.2 (hok t), (fun h => by cases h), (fun h => by cases h)⟩
  | some r =>
    obtain ⟨a, h⟩ := r
    rw [hg] at hv hok
    simp only [gapV, Value.tuple.injEq] at hv
    simp at hv
    obtain ⟨⟨rfl, rfl⟩, rfl⟩ := hv
    have e1 : (ofB a).toList = a := by rw [ofB, Lib.toList_data]
    have e2 : (ofB h).toList = h := by rw [ofB, Lib.toList_data]
    rw [e1, e2]
    refine ⟨(fun h => by cases h), fun _ hs => gap_has hok (covB_iff.1 hs), fun _ hs => ?_⟩
    rw [less_eq]
    have : ¬ Cov L t := fun hc => by rw [covB_iff.2 hc] at hs; cases hs
    have : ¬ t < a := fun hl => this (hok.1 t hl)
    simpa using this

theorem split_ok (lo hi key : ByteArray) (w : World) (hl : lo.size ≤ maxLen) (hh : hi.size ≤ maxLen) (hk : key.size ≤ maxLen) (h : splitL lo.toList hi.toList key.toList = true) :
    Calls Try.prog 10 #[.agg #[.string lo, .string hi], .string key] w fun e w' => e = .returned (.tuple #[.agg #[.string lo, .string key], .agg #[.string key, .string hi], .int .i64 0]) ∧ Below w.heap.size w w' := by
  have := split_any lo hi key w hl hh hk; rwa [split_pos _ _ _ h] at this
theorem split_bad (lo hi key : ByteArray) (w : World) (hl : lo.size ≤ maxLen) (hh : hi.size ≤ maxLen) (hk : key.size ≤ maxLen) (h : splitL lo.toList hi.toList key.toList = false) :
    Calls Try.prog 10 #[.agg #[.string lo, .string hi], .string key] w fun e w' => e = .returned (.tuple #[.agg #[.string ⟨#[]⟩, .string ⟨#[]⟩], .agg #[.string ⟨#[]⟩, .string ⟨#[]⟩], .int .i64 2]) ∧ Below w.heap.size w w' := by
  have := split_any lo hi key w hl hh hk; rwa [split_neg _ _ _ h] at this

/-- the second part's loops -/
theorem bcell {W w1 : World} (hb : Below W.heap.size W w1) : (∀ b o, b < W.heap.size → w1.cell? ⟨b, o, none⟩ = W.cell? ⟨b, o, none⟩) ∧ (∀ b o, b < W.heap.size → w1.frozen? ⟨b, o, none⟩ = W.frozen? ⟨b, o, none⟩) :=
  ⟨fun b o h => hb.cell (p := ⟨b, o, none⟩) h, fun b o h => hb.frozen (p := ⟨b, o, none⟩) h⟩
structure Parts (wo wr : World) (T : TypeId) (v : Value) (p : Nat) (ps : List (ByteArray × ByteArray)) : Prop where
  row : Row wr wo.heap.size T 2 v ps.length (ps.map rgE).flatten
  pos : 0 < ps.length
  le : ps.length ≤ p + 1
  cov : ∀ t, Cov (rgL ps) t
  ok : ∀ r ∈ ps, r.1.size ≤ maxLen ∧ r.2.size ≤ maxLen
theorem Parts.form {wo wr : World} {T : TypeId} {v : Value} {p : Nat} {ps : List (ByteArray × ByteArray)} (h : Parts wo wr T v p ps) : ∃ g cap, v = .slice (some ⟨g, 0, none⟩) ps.length cap ∧ wo.heap.size ≤ g ∧ g < wr.heap.size ∧ ps.length ≤ cap ∧ cap ≤ maxLen := by
  rcases h.row.form with ⟨_, h0⟩ | h
  · have := h.pos; omega
  · exact h
theorem Parts.below {wo wr w' : World} {T : TypeId} {v : Value} {p : Nat} {ps : List (ByteArray × ByteArray)} (h : Parts wo wr T v p ps) (hb : Below wr.heap.size wr w') : Parts wo w' T v p ps := ⟨h.row.below hb, h.pos, h.le, h.cov, h.ok⟩
theorem Parts.next {wo wr : World} {T : TypeId} {v : Value} {p : Nat} {ps : List (ByteArray × ByteArray)} (h : Parts wo wr T v p ps) : Parts wo wr T v (p + 1) ps := ⟨h.row, h.pos, by have := h.le; omega, h.cov, h.ok⟩
theorem Parts.cells {wo wr : World} {T : TypeId} {g cap p : Nat} {ps : List (ByteArray × ByteArray)} (h : Parts wo wr T (.slice (some ⟨g, 0, none⟩) ps.length cap) p ps) {q : Nat} {x : ByteArray × ByteArray} (hx : ps[q]? = some x) :
    wr.cell? ⟨g, q * 2, none⟩ = some (.string x.1) ∧ wr.cell? ⟨g, q * 2 + 1, none⟩ = some (.string x.2) ∧ wr.frozen? ⟨g, q * 2, none⟩ = false ∧ wr.frozen? ⟨g, q * 2 + 1, none⟩ = false := by
  have hq := (List.getElem?_eq_some_iff.1 hx).1
  have e0 := flatten_get (size := 2) (rgE_elems ps).len q (rgE x) (by simp [hx]) 0 _ rfl
  have e1 := flatten_get (size := 2) (rgE_elems ps).len q (rgE x) (by simp [hx]) 1 _ rfl
  exact ⟨by rw [h.row.cell _ (by omega)]; exact e0, by rw [h.row.cell _ (by omega)]; exact e1, h.row.free (by omega), h.row.free (by omega)⟩
theorem Parts.stored {wo wr : World} {T : TypeId} {g cap p : Nat} {ps : List (ByteArray × ByteArray)} (h : Parts wo wr T (.slice (some ⟨g, 0, none⟩) ps.length cap) p ps) {q : Nat} {x : ByteArray × ByteArray} (hx : ps[q]? = some x) (k : ByteArray) :
    Row ((wr.setCell ⟨g, q * 2, none⟩ (.string x.1)).setCell ⟨g, q * 2 + 1, none⟩ (.string k)) wo.heap.size T 2 (.slice (some ⟨g, 0, none⟩) ps.length cap) ps.length ((ps.set q (x.1, k)).map rgE).flatten := by
  have hq := (List.getElem?_eq_some_iff.1 hx).1
  have := (h.row.store (k := 0) (j := q * 2) (by omega) (.string x.1)).store (k := 0) (j := q * 2 + 1) (by omega) (.string k)
  rw [flatten_set2 _ (rgE_elems ps).len q _ _ (by simpa using hq)] at this
  rw [List.map_set]
  exact this
theorem rgL_parts (ps : List (ByteArray × ByteArray)) (q : Nat) (a b c : ByteArray) : rgL (ps.set q (a, b) ++ [(b, c)]) = (rgL ps).set q (a.toList, b.toList) ++ [(b.toList, c.toList)] := by
  simp [rgL, List.map_set]

theorem check_val (lo hi : ByteArray) (b : Bool) (w : World) (hl : lo.size ≤ maxLen) (hh : hi.size ≤ maxLen) (hm : mayL lo.toList hi.toList = b) :
    Calls Try.prog 13 #[.agg #[.string lo, .string hi]] w fun e w' => e = .returned (.int .i64 (if b then 0 else 2)) ∧ Below w.heap.size w w' := by
  subst hm; exact check_any lo hi w hl hh
theorem check_ok (lo hi : ByteArray) (w : World) (hl : lo.size ≤ maxLen) (hh : hi.size ≤ maxLen) (hm : mayL lo.toList hi.toList = true) :
    Calls Try.prog 13 #[.agg #[.string lo, .string hi]] w fun e w' => e = .returned (.int .i64 0) ∧ Below w.heap.size w w' := check_val lo hi true w hl hh hm
theorem check_bad (lo hi : ByteArray) (w : World) (hl : lo.size ≤ maxLen) (hh : hi.size ≤ maxLen) (hm : mayL lo.toList hi.toList = false) :
    Calls Try.prog 13 #[.agg #[.string lo, .string hi]] w fun e w' => e = .returned (.int .i64 2) ∧ Below w.heap.size w w' := check_val lo hi false w hl hh hm
theorem has_val (lo hi key : ByteArray) (b : Bool) (w : World) (hb : hasL lo.toList hi.toList key.toList = b) :
    Calls Try.prog 12 #[.agg #[.string lo, .string hi], .string key] w fun e w' => e = .returned (.bool b) ∧ Below w.heap.size w w' := by
  subst hb; exact has_any lo hi key w

theorem parts_next {wo wr w7 : World} {T : TypeId} {v v7 : Value} {p L q : Nat} {ps : List (ByteArray × ByteArray)} {x : ByteArray × ByteArray} {t : ByteArray} (h : Parts wo wr T v p ps) (hL : L = ps.length) (hx : ps[q]? = some x) (hs : splitL x.1.toList x.2.toList t.toList = true) (ht : t.size ≤ maxLen)
    (hr : Row w7 wo.heap.size T 2 v7 (L + 1) (((ps.set q (x.1, t)).map rgE).flatten ++ ([(t, x.2)].map rgE).flatten)) : Parts wo w7 T v7 (p + 1) (ps.set q (x.1, t) ++ [(t, x.2)]) := by
  subst hL
  obtain ⟨k1, k2⟩ := h.ok x (List.mem_of_getElem? hx)
  refine ⟨?_, by simp, by have := h.le; simp; omega, ?_, fun r hr => ?_⟩
  · rw [List.length_append, List.length_set, List.map_append, List.flatten_append]; exact hr
  · rw [rgL_parts]
    exact cov_split h.cov (rgL_get hx) hs
  · rcases List.mem_append.1 hr with hr | hr
    · rcases List.mem_or_eq_of_mem_set hr with hr | rfl
      · exact h.ok r hr
      · exact ⟨k1, ht⟩
    · have := List.mem_singleton.1 hr; subst this; exact ⟨ht, k2⟩
theorem rg_new (w : World) (T : TypeId) (a b : ByteArray) (g : Nat) (hg : w.heap.size = g) : Arr (w.alloc (.cells #[.string a, .string b] T)) 2 (some ⟨g, 0, none⟩) 1 1 ([(a, b)].map rgE) := by
  subst hg
  refine ⟨rgE_elems _, rfl, Nat.le_refl _, by unfold maxLen; omega, fun _ => ⟨w.heap.size, 0, rfl, by rw [World.size_alloc]; omega, fun i e he j u hu => ?_⟩⟩
  have hi : i = 0 := by
    have := (List.getElem?_eq_some_iff.1 he).1
    simp at this; exact this
  subst hi
  simp only [List.map_cons, List.map_nil, List.getElem?_cons_zero, Option.some.injEq] at he
  subst he
  match j, hu with
  | 0, hu => simp only [rgE, List.getElem?_cons_zero, Option.some.injEq] at hu; subst hu; simp [World.cell?_alloc_new]
  | 1, hu => simp only [rgE, List.getElem?_cons_succ, List.getElem?_cons_zero, Option.some.injEq] at hu; subst hu; simp [World.cell?_alloc_new]
  | j + 2, hu => simp [rgE] at hu

set_option maxRecDepth 100000 in
set_option maxHeartbeats 4000000 in
theorem keysopen_any (ao ao2 : Option Addr) (len cap len2 cap2 : Nat) (rs : List (ByteArray × ByteArray)) (ts : List ByteArray) (w : World) (h : Arr w 2 ao len cap (rs.map rgE)) (hok : ∀ r ∈ rs, r.1.size ≤ maxLen ∧ r.2.size ≤ maxLen)
    (h2 : Arr w 1 ao2 len2 cap2 (ts.map txE)) (hok2 : ∀ t ∈ ts, t.size ≤ maxLen) :
    Calls Try.prog 6 #[.slice ao len cap, .slice ao2 len2 cap2] w fun e w' => e = .returned (.bool true) ∧ Below w.heap.size w w' := by
  obtain ⟨n, hn⟩ : ∃ n : Nat, min (len : Int) 20 = n := ⟨min len 20, by omega⟩
  have hn1 : n ≤ 20 := by omega
  have hn2 : n ≤ len := by omega
  obtain ⟨m, hm⟩ : ∃ m : Nat, min (len2 : Int) 20 = m := ⟨min len2 20, by omega⟩
  have hm1 : m ≤ 20 := by omega
  have hm2 : m ≤ len2 := by omega
  have hcap := h.fits
  have hmax := h.max
  have hcap2 := h2.fits
  have hmax2 := h2.max
  unfold maxLen at hmax hmax2
  have hA := h.take hn2
  rw [← List.map_take] at hA
  have hT := h2.take hm2
  rw [← List.map_take] at hT
  have hok3 : ∀ r ∈ rs.take n, r.1.size ≤ maxLen ∧ r.2.size ≤ maxLen := fun r hr => hok r (List.mem_of_mem_take hr)
  have hok4 : ∀ r ∈ ts.take m, r.size ≤ maxLen := fun r hr => hok2 r (List.mem_of_mem_take hr)
  have hlen : (rs.take n).length = n := by have := hA.len; rwa [List.length_map] at this
  have hlent : (ts.take m).length = m := by have := hT.len; rwa [List.length_map] at this
  generalize rs.take n = qs at *
  generalize ts.take m = us at *
  have HA := Lib.hid hA
  have HT := Lib.hid hT
  have Hok := Lib.hid hok3
  have Hok2 := Lib.hid hok4
  have Hlen := Lib.hid hlen
  have Hlent := Lib.hid hlent
  clear hA hok2 hlen h hok hT hok3 hok4 hlent h2
  obtain ⟨i0, hi, hz0, hz1, hz2⟩ := info_parts Try.info_rg
  go_enter Try.func6, Try.ntmps6
  obtain ⟨A, H, bb, hv⟩ : ∃ A H bb, gapV (gapL (rgL qs)) = .tuple #[.agg #[.string A, .string H], .bool bb] := by
    cases gapL (rgL qs) with
    | none => exact ⟨_, _, _, rfl⟩
    | some r => exact ⟨_, _, _, rfl⟩
  have Hask : Hid (∀ t, AskOk bb (covB (rgL qs) t) (hasL A.toList H.toList t) (Op.bytesLess t A.toList)) := Lib.hid fun t => ask_ok _ t A H bb hv
  go_wp2_with (first | (go_at_call 23; refine (gap_of _ _ _ qs _ Hlen.out (Rgs.of_arr HA.out Hok.out)).mono ?_; rintro e w2 ⟨rfl, hb⟩; obtain ⟨hB, hS, hk⟩ := after (B := w.heap.size) (w := w) (by go_grown) (by go_size) hb; have Hw2 := Lib.hid hb; clear hb; clear hk))
  obtain ⟨W4, hW4⟩ : ∃ W4, w2.alloc (.cells #[.string A, .string H] 23) = W4 := ⟨_, rfl⟩
  obtain ⟨s0, s1, s3, s4⟩ : Below w.heap.size w W4 ∧ w2.heap.size < W4.heap.size ∧ W4.cell? ⟨w2.heap.size, 0, none⟩ = some (.string A) ∧ W4.cell? ⟨w2.heap.size, 1, none⟩ = some (.string H) := by
    subst hW4
    exact ⟨by go_grown, by go_size, by go_simp, by go_simp⟩
  rw [hW4]
  clear hW4 hv
  have HA0 := Lib.hid (HA.out.below s0)
  have HT0 := Lib.hid (HT.out.below s0)
  have hzW : w.heap.size ≤ W4.heap.size := s0.size
  clear HA HT Hw2
  go_loopw [7, 8, 9] (fun i _ _ wr => ∃ k : Nat, k ≤ m ∧ i = .int .i64 k ∧ Below W4.heap.size W4 wr) (fun i _ _ _ => m - (intOf i).toNat)
  case atStart => exact ⟨0, by omega, rfl, Below.refl _ _⟩
  case round =>
    obtain ⟨k, hk, rfl, hbr⟩ := hrel
    by_cases hlt : k < m
    · obtain ⟨t, ht⟩ : ∃ t, us[k]? = some t := ⟨_, List.getElem?_eq_getElem (by rw [Hlent.out]; omega)⟩
      obtain ⟨b2, off2, rfl, hb2, hc2⟩ := HT0.out.at_ (i := k) (e := txE t) (by simp [ht])
      have htm := Hok2.out t (List.mem_of_getElem? ht)
      have hc0 : W4.cell? ⟨b2, off2 + k, none⟩ = some (.string t) := by have := hc2 0 _ rfl; simpa using this
      clear ht hc2
      go_wp2
      obtain ⟨wo, rfl⟩ : ∃ wo : World, wo = wr := ⟨_, rfl⟩
      go_loopw [8, 9] (fun s j wr => ∃ q : Nat, q ≤ n ∧ j = .int .i64 q ∧ s = .bool (covB ((rgL qs).take q) t.toList) ∧ Below W4.heap.size W4 wr) (fun _ j _ => n - (intOf j).toNat)
      case atStart => exact ⟨0, by omega, rfl, by simp [covB], hbr⟩
      case round =>
        obtain ⟨q, hq, rfl, rfl, hbq⟩ := hrel
        obtain ⟨k0, k0f⟩ := keep_of hbq w2.heap.size s1
        obtain ⟨k1, k1f⟩ := keep_of hbq b2 hb2
        have hzr := hbq.size
        by_cases hlt2 : q < n
        · obtain ⟨x, hx⟩ : ∃ x, qs[q]? = some x := ⟨_, List.getElem?_eq_getElem (by rw [Hlen.out]; omega)⟩
          obtain ⟨b, off, rfl, hb, hc⟩ := (HA0.out.below hbq).at_ (i := q) (e := rgE x) (by simp [hx])
          have d0 := hc 0 _ rfl
          have d1 := hc 1 _ rfl
          simp only [Nat.add_zero] at d0
          obtain ⟨hx1, hx2⟩ := Hok.out x (List.mem_of_getElem? hx)
          have hsn := covB_snoc ((rgL qs).take q) (x.1.toList, x.2.toList) t.toList
          rw [← rgL_take hx] at hsn
          have Hsn := Lib.hid hsn
          clear hx hc hsn
          cases hs : covB ((rgL qs).take q) t.toList
          · cases hm : mayL x.1.toList x.2.toList
            · have hn : covB ((rgL qs).take (q + 1)) t.toList = false := by rw [Hsn.out, hs, hm]; rfl
              go_wp2
              refine wp_region_below (by kernel_rfl) (by kernel_rfl) (fun hkept => ?_)
              obtain ⟨r0, rf0⟩ := hkept (b) (by go_size); obtain ⟨r1, rf1⟩ := hkept (b2) (by go_size); obtain ⟨r2, rf2⟩ := hkept (w2.heap.size) (by go_size); clear hkept
              repeat (any_goals (first | go_big_quiet_step (first | (go_at_call 13; exact Calls.regrown_of (check_bad _ _ _ hx1 hx2 hm))) | quiet_step (first | (go_at_call 13; exact Calls.regrown_of (check_bad _ _ _ hx1 hx2 hm))) | (refine wpQuiet_step (fun K hK => ?_); go_simp; split <;> (refine hK _ ?_; clear hK K))))
              all_goals (refine wpQuiet_nil ?_; intro w5 hb; obtain ⟨hB, hS, hk⟩ := after (B := W4.heap.size) (w := W4) (by go_grown) (by go_size) hb; obtain ⟨c0, f0, z0⟩ := hk (b) (by go_size); obtain ⟨c1, f1, z1⟩ := hk (b2) (by go_size); obtain ⟨c2, f2, z2⟩ := hk (w2.heap.size) (by go_size); clear hk hb r0 rf0 r1 rf1 r2 rf2)
              go_wp2
              exact ⟨⟨q + 1, by omega, by go_num, by rw [hn], hB⟩, by simp [intOf]; omega⟩
            · cases hh : hasL x.1.toList x.2.toList t.toList
              · have hn : covB ((rgL qs).take (q + 1)) t.toList = false := by rw [Hsn.out, hs, hm, hh]; rfl
                go_wp2
                refine wp_region_below (by kernel_rfl) (by kernel_rfl) (fun hkept => ?_)
                obtain ⟨r0, rf0⟩ := hkept (b) (by go_size); obtain ⟨r1, rf1⟩ := hkept (b2) (by go_size); obtain ⟨r2, rf2⟩ := hkept (w2.heap.size) (by go_size); clear hkept
                repeat (any_goals (first | go_big_quiet_step (first | (go_at_call 13; exact Calls.regrown_of (check_ok _ _ _ hx1 hx2 hm)) | (go_at_call 12; exact Calls.regrown_of (has_val _ _ _ _ _ hh))) | quiet_step (first | (go_at_call 13; exact Calls.regrown_of (check_ok _ _ _ hx1 hx2 hm)) | (go_at_call 12; exact Calls.regrown_of (has_val _ _ _ _ _ hh))) | (refine wpQuiet_step (fun K hK => ?_); go_simp; split <;> (refine hK _ ?_; clear hK K))))
                all_goals (refine wpQuiet_nil ?_; intro w5 hb; obtain ⟨hB, hS, hk⟩ := after (B := W4.heap.size) (w := W4) (by go_grown) (by go_size) hb; obtain ⟨c0, f0, z0⟩ := hk (b) (by go_size); obtain ⟨c1, f1, z1⟩ := hk (b2) (by go_size); obtain ⟨c2, f2, z2⟩ := hk (w2.heap.size) (by go_size); clear hk hb r0 rf0 r1 rf1 r2 rf2)
                go_wp2
                exact ⟨⟨q + 1, by omega, by go_num, by rw [hn], hB⟩, by simp [intOf]; omega⟩
              · have hn : covB ((rgL qs).take (q + 1)) t.toList = true := by rw [Hsn.out, hs, hm, hh]; rfl
                go_wp2
                refine wp_region_below (by kernel_rfl) (by kernel_rfl) (fun hkept => ?_)
                obtain ⟨r0, rf0⟩ := hkept (b) (by go_size); obtain ⟨r1, rf1⟩ := hkept (b2) (by go_size); obtain ⟨r2, rf2⟩ := hkept (w2.heap.size) (by go_size); clear hkept
                repeat (any_goals (first | go_big_quiet_step (first | (go_at_call 13; exact Calls.regrown_of (check_ok _ _ _ hx1 hx2 hm)) | (go_at_call 12; exact Calls.regrown_of (has_val _ _ _ _ _ hh))) | quiet_step (first | (go_at_call 13; exact Calls.regrown_of (check_ok _ _ _ hx1 hx2 hm)) | (go_at_call 12; exact Calls.regrown_of (has_val _ _ _ _ _ hh))) | (refine wpQuiet_step (fun K hK => ?_); go_simp; split <;> (refine hK _ ?_; clear hK K))))
                all_goals (refine wpQuiet_nil ?_; intro w5 hb; obtain ⟨hB, hS, hk⟩ := after (B := W4.heap.size) (w := W4) (by go_grown) (by go_size) hb; obtain ⟨c0, f0, z0⟩ := hk (b) (by go_size); obtain ⟨c1, f1, z1⟩ := hk (b2) (by go_size); obtain ⟨c2, f2, z2⟩ := hk (w2.heap.size) (by go_size); clear hk hb r0 rf0 r1 rf1 r2 rf2)
                go_wp2
                exact ⟨⟨q + 1, by omega, by go_num, by rw [hn], hB⟩, by simp [intOf]; omega⟩
          · have hn : covB ((rgL qs).take (q + 1)) t.toList = true := by rw [Hsn.out, hs]; rfl
            go_wp2
            refine wp_region_below (by kernel_rfl) (by kernel_rfl) (fun hkept => ?_)
            obtain ⟨r0, rf0⟩ := hkept (b) (by go_size); obtain ⟨r1, rf1⟩ := hkept (b2) (by go_size); obtain ⟨r2, rf2⟩ := hkept (w2.heap.size) (by go_size); clear hkept
            repeat (any_goals (first | go_big_quiet_step (fail) | quiet_step (fail) | (refine wpQuiet_step (fun K hK => ?_); go_simp; split <;> (refine hK _ ?_; clear hK K))))
            all_goals (refine wpQuiet_nil ?_; intro w5 hb; obtain ⟨hB, hS, hk⟩ := after (B := W4.heap.size) (w := W4) (by go_grown) (by go_size) hb; obtain ⟨c0, f0, z0⟩ := hk (b) (by go_size); obtain ⟨c1, f1, z1⟩ := hk (b2) (by go_size); obtain ⟨c2, f2, z2⟩ := hk (w2.heap.size) (by go_size); clear hk hb r0 rf0 r1 rf1 r2 rf2)
            go_wp2
            exact ⟨⟨q + 1, by omega, by go_num, by rw [hn], hB⟩, by simp [intOf]; omega⟩
        · obtain rfl : q = n := by omega
          have hq2 : (rgL qs).take q = rgL qs := List.take_of_length_le (by rw [rgL_len, Hlen.out]; omega)
          rw [hq2]
          have ask := Hask.out t.toList
          cases hs : covB (rgL qs) t.toList
          · rw [hs] at ask
            cases hbb : bb
            · have := ask.a hbb; cases this
            · have hl := ask.c hbb rfl
              subst hbb
              clear ask
              go_wp2
              refine wp_region_below (by kernel_rfl) (by kernel_rfl) (fun hkept => ?_)
              obtain ⟨r0, rf0⟩ := hkept (b2) (by go_size); obtain ⟨r1, rf1⟩ := hkept (w2.heap.size) (by go_size); clear hkept
              repeat (any_goals (first | go_big_quiet_step (fail) | quiet_step (fail) | (refine wpQuiet_step (fun K hK => ?_); go_simp; split <;> (refine hK _ ?_; clear hK K))))
              all_goals (refine wpQuiet_nil ?_; intro w5 hb; obtain ⟨hB, hS, hk⟩ := after (B := W4.heap.size) (w := W4) (by go_grown) (by go_size) hb; obtain ⟨c0, f0, z0⟩ := hk (b2) (by go_size); obtain ⟨c1, f1, z1⟩ := hk (w2.heap.size) (by go_size); clear hk hb r0 rf0 r1 rf1)
              go_wp2
              exact ⟨⟨k + 1, by omega, by go_num, hB⟩, by simp [intOf]; omega⟩
          · rw [hs] at ask
            cases hbb : bb
            · subst hbb
              clear ask
              go_wp2
              refine wp_region_below (by kernel_rfl) (by kernel_rfl) (fun hkept => ?_)
              obtain ⟨r0, rf0⟩ := hkept (b2) (by go_size); obtain ⟨r1, rf1⟩ := hkept (w2.heap.size) (by go_size); clear hkept
              repeat (any_goals (first | go_big_quiet_step (fail) | quiet_step (fail) | (refine wpQuiet_step (fun K hK => ?_); go_simp; split <;> (refine hK _ ?_; clear hK K))))
              all_goals (refine wpQuiet_nil ?_; intro w5 hb; obtain ⟨hB, hS, hk⟩ := after (B := W4.heap.size) (w := W4) (by go_grown) (by go_size) hb; obtain ⟨c0, f0, z0⟩ := hk (b2) (by go_size); obtain ⟨c1, f1, z1⟩ := hk (w2.heap.size) (by go_size); clear hk hb r0 rf0 r1 rf1)
              go_wp2
              exact ⟨⟨k + 1, by omega, by go_num, hB⟩, by simp [intOf]; omega⟩
            · have hh := ask.b hbb rfl
              subst hbb
              clear ask
              go_wp2
              refine wp_region_below (by kernel_rfl) (by kernel_rfl) (fun hkept => ?_)
              obtain ⟨r0, rf0⟩ := hkept (b2) (by go_size); obtain ⟨r1, rf1⟩ := hkept (w2.heap.size) (by go_size); clear hkept
              repeat (any_goals (first | go_big_quiet_step (first | (go_at_call 12; exact Calls.regrown_of (has_val _ _ _ _ _ hh))) | quiet_step (first | (go_at_call 12; exact Calls.regrown_of (has_val _ _ _ _ _ hh))) | (refine wpQuiet_step (fun K hK => ?_); go_simp; split <;> (refine hK _ ?_; clear hK K))))
              all_goals (refine wpQuiet_nil ?_; intro w5 hb; obtain ⟨hB, hS, hk⟩ := after (B := W4.heap.size) (w := W4) (by go_grown) (by go_size) hb; obtain ⟨c0, f0, z0⟩ := hk (b2) (by go_size); obtain ⟨c1, f1, z1⟩ := hk (w2.heap.size) (by go_size); clear hk hb r0 rf0 r1 rf1)
              go_wp2
              exact ⟨⟨k + 1, by omega, by go_num, hB⟩, by simp [intOf]; omega⟩
    · obtain rfl : k = m := by omega
      go_wp2
      obtain ⟨wo, rfl⟩ : ∃ wo : World, wo = wr := ⟨_, rfl⟩
      have hbo := s0.trans (hbr.mono hzW)
      have HT1 := Lib.hid (HT0.out.below hbr)
      go_loopw [10, 11, 12, 13, 14, 15] (fun v i _ _ _ _ wr => ∃ (p : Nat) (ps : List (ByteArray × ByteArray)), p ≤ k ∧ i = .int .i64 p ∧ Hid (Parts wo wr 23 v p ps) ∧ Below wo.heap.size wo wr) (fun _ i _ _ _ _ _ => k - (intOf i).toNat)
      case atStart =>
        refine ⟨0, [(⟨#[]⟩, ⟨#[]⟩)], by omega, rfl, Lib.hid ⟨?_, by simp, by simp, ?_, ?_⟩, by go_grown⟩
        · exact ⟨rfl, .inr ⟨wo.heap.size, 1, #[.string ⟨#[]⟩, .string ⟨#[]⟩], (0, 0), rfl, Nat.le_refl _, World.alloc_heap_new _ _, .inl rfl, Nat.le_refl _, by unfold maxLen; omega, rfl, rfl⟩⟩
        · have := cov_first
          simpa [rgL, nilB] using this
        · intro r hr; simp at hr; subst hr; exact ⟨Nat.zero_le _, Nat.zero_le _⟩
      case round =>
        obtain ⟨p, ps, hp, rfl, hP, hbr2⟩ := hrel
        obtain ⟨g, cp, rfl, hg1, hg2, hg3, hg4⟩ := hP.out.form
        have hle := hP.out.le
        unfold maxLen at hg4
        by_cases hlt2 : p < k
        · obtain ⟨t, ht⟩ : ∃ t, us[p]? = some t := ⟨_, List.getElem?_eq_getElem (by rw [Hlent.out]; omega)⟩
          obtain ⟨b2, off2, rfl, hb2, hc2⟩ := HT1.out.at_ (i := p) (e := txE t) (by simp [ht])
          have htm := Hok2.out t (List.mem_of_getElem? ht)
          have hc0 : wo.cell? ⟨b2, off2 + p, none⟩ = some (.string t) := by have := hc2 0 _ rfl; simpa using this
          clear ht hc2
          obtain ⟨L, hL⟩ : ∃ L, L = ps.length := ⟨_, rfl⟩
          have HL := Lib.hid hL
          rw [← hL] at hle hg3 ⊢
          clear hL
          go_wp2
          obtain ⟨w1, rfl⟩ : ∃ w1 : World, w1 = wr := ⟨_, rfl⟩
          go_loopw [10, 12, 13, 14, 15] (fun v j _ _ _ wr => ∃ q : Nat, q ≤ L ∧ v = .slice (some ⟨g, 0, none⟩) L cp ∧ j = .int .i64 q ∧ Below w1.heap.size w1 wr) (fun _ j _ _ _ _ => L - (intOf j).toNat)
          case atStart => exact ⟨0, by omega, rfl, rfl, Below.refl _ _⟩
          case round =>
            obtain ⟨q, hq, rfl, rfl, hbq⟩ := hrel
            have hzq := hbq.size
            have hzq2 := hbr2.size
            obtain ⟨k1, k1f⟩ := keep_of hbq b2 (by omega)
            obtain ⟨k2, k2f⟩ := keep_of hbr2 b2 (by omega)
            by_cases hlt3 : q < L
            · obtain ⟨x, hx⟩ : ∃ x, ps[q]? = some x := ⟨_, List.getElem?_eq_getElem (by rw [← HL.out]; omega)⟩
              have HP := Lib.hid (hP.out.below hbq)
              have hcs := HP.out.cells hx
              obtain ⟨d0, d1, d2, d3⟩ := hcs
              obtain ⟨hx1, hx2⟩ := hP.out.ok x (List.mem_of_getElem? hx)
              have Hx := Lib.hid hx
              clear hx
              cases hs : splitL x.1.toList x.2.toList t.toList
              · go_wp2
                have q2 : wr.cell? ⟨b2, off2 + p, none⟩ = some (.string t) := by rw [k1, k2]; exact hc0
                have hg5 : g < wr.heap.size := by omega
                have hb5 : b2 < wr.heap.size := by omega
                have hw1 : w1.heap.size ≤ wr.heap.size := hzq
                have HS : Hid (∀ W, Below wr.heap.size wr W → W.cell? ⟨g, q * 2, none⟩ = some (.string x.1) ∧ W.cell? ⟨g, q * 2 + 1, none⟩ = some (.string x.2) ∧ W.cell? ⟨b2, off2 + p, none⟩ = some (.string t)) := Lib.hid fun W h => ⟨(h.cell (p := ⟨g, _, none⟩) hg5).trans d0, (h.cell (p := ⟨g, _, none⟩) hg5).trans d1, (h.cell (p := ⟨b2, _, none⟩) hb5).trans q2⟩
                have hnb0 : ¬ b2 = wr.heap.size := by omega
                have hnb1 : ¬ wr.heap.size = b2 := by omega
                have hnb2 : ¬ b2 = wr.heap.size + 1 := by omega
                have hnb3 : ¬ wr.heap.size + 1 = b2 := by omega
                clear k1 k1f k2 k2f
                go_cut [13, 14, 15] (fun a b e wx => ∃ x' y' : Nat, a = .pointer (some ⟨x', 0, none⟩) ∧ b = .pointer (some ⟨y', 0, none⟩) ∧ e = .int .i64 2 ∧ Below w1.heap.size w1 wx)
                case first =>
                  go_region_held3 (fun W => W.cell? ⟨g, q * 2, none⟩ = some (.string x.1) ∧ W.cell? ⟨g, q * 2 + 1, none⟩ = some (.string x.2) ∧ W.cell? ⟨b2, off2 + p, none⟩ = some (.string t)) (exact HS.out _ (by go_grown)) (first | (go_at_call 10; refine (split_bad _ _ _ _ hx1 hx2 htm hs).mono ?_; rintro e w5 ⟨rfl, hb⟩; obtain ⟨hc5, hf5⟩ := bcell hb; have hz5 := hb.size; have hB5 : Below wr.heap.size wr w5 := Below.trans (by go_grown) (hb.mono (by go_size)); simp only [World.size_alloc, World.size_drew] at hz5 hc5 hf5; have hz4 : wr.heap.size ≤ w5.heap.size := (by omega); (try have hz6 : wr.heap.size < w5.heap.size := (by omega)); (try have hz7 : wr.heap.size + 1 < w5.heap.size := (by omega)); clear hb))
                  all_goals (go_wp2_with fail; go_meet; exact ⟨_, _, rfl, rfl, rfl, (by assumption : Below w1.heap.size w1 wr).trans (Below.mono (by go_grown : Below wr.heap.size wr _) hzq)⟩)
                case rest =>
                  obtain ⟨x', y', rfl, rfl, rfl, hbx⟩ := hcut
                  go_wp2
                  exact ⟨⟨q + 1, by omega, rfl, by go_num, hbx⟩, by simp [intOf]; omega⟩
              · go_wp2
                have q2 : wr.cell? ⟨b2, off2 + p, none⟩ = some (.string t) := by rw [k1, k2]; exact hc0
                have hg5 : g < wr.heap.size := by omega
                have hb5 : b2 < wr.heap.size := by omega
                have hw1 : w1.heap.size ≤ wr.heap.size := hzq
                have HS : Hid (∀ W, Below wr.heap.size wr W → W.cell? ⟨g, q * 2, none⟩ = some (.string x.1) ∧ W.cell? ⟨g, q * 2 + 1, none⟩ = some (.string x.2) ∧ W.cell? ⟨b2, off2 + p, none⟩ = some (.string t)) := Lib.hid fun W h => ⟨(h.cell (p := ⟨g, _, none⟩) hg5).trans d0, (h.cell (p := ⟨g, _, none⟩) hg5).trans d1, (h.cell (p := ⟨b2, _, none⟩) hb5).trans q2⟩
                have hnb0 : ¬ b2 = wr.heap.size := by omega
                have hnb1 : ¬ wr.heap.size = b2 := by omega
                have hnb2 : ¬ b2 = wr.heap.size + 1 := by omega
                have hnb3 : ¬ wr.heap.size + 1 = b2 := by omega
                clear k1 k1f k2 k2f
                go_cut [13, 14, 15] (fun a b e wx => ∃ x' y' : Nat, a = .pointer (some ⟨x', 0, none⟩) ∧ b = .pointer (some ⟨y', 0, none⟩) ∧ e = .int .i64 0 ∧ wr.heap.size ≤ x' ∧ x' < (wx : World).heap.size ∧ wr.heap.size ≤ y' ∧ y' < wx.heap.size ∧ Below wr.heap.size wr wx ∧ wx.cell? ⟨x', 0, none⟩ = some (.string x.1) ∧ wx.cell? ⟨x', 1, none⟩ = some (.string t) ∧ wx.cell? ⟨y', 0, none⟩ = some (.string t) ∧ wx.cell? ⟨y', 1, none⟩ = some (.string x.2))
                case first =>
                  go_region_held3 (fun W => W.cell? ⟨g, q * 2, none⟩ = some (.string x.1) ∧ W.cell? ⟨g, q * 2 + 1, none⟩ = some (.string x.2) ∧ W.cell? ⟨b2, off2 + p, none⟩ = some (.string t)) (exact HS.out _ (by go_grown)) (first | (go_at_call 10; refine (split_ok _ _ _ _ hx1 hx2 htm hs).mono ?_; rintro e w5 ⟨rfl, hb⟩; obtain ⟨hc5, hf5⟩ := bcell hb; have hz5 := hb.size; have hB5 : Below wr.heap.size wr w5 := Below.trans (by go_grown) (hb.mono (by go_size)); simp only [World.size_alloc, World.size_drew] at hz5 hc5 hf5; have hz4 : wr.heap.size ≤ w5.heap.size := (by omega); (try have hz6 : wr.heap.size < w5.heap.size := (by omega)); (try have hz7 : wr.heap.size + 1 < w5.heap.size := (by omega)); clear hb))
                  all_goals (go_wp2_with fail; go_meet; refine ⟨_, _, rfl, rfl, rfl, by omega, by go_size, by omega, by go_size, by go_grown, ?_, ?_, ?_, ?_⟩ <;> (first | (go_simp; done) | (go_simp; exact World.cell?_setCell_same _ _ _ (by go_simp : _ = some (Value.string ⟨#[]⟩)))))
                case rest =>
                  obtain ⟨x', y', rfl, rfl, rfl, hx0, hxl, hy0, hyl, hbx, e0, e1, e2, e3⟩ := hcut
                  have hzx := hbx.size
                  have HPx := Lib.hid (HP.out.below hbx)
                  obtain ⟨f0, f1, f2, f3⟩ := HPx.out.cells Hx.out
                  have hst := HPx.out.stored Hx.out t
                  rw [← HL.out] at hst
                  have hst := Lib.hid hst
                  go_wp2_with (at_builtin; go_loud (refine wpList_append_arr _ rfl _ _ 34 rfl wo.heap.size 23 i0 _ 2 32 Try.underlying34 hi hz0 hz1 hz2 rfl (by decide) _ _ _ rfl (Row.alloc hst.out _) rfl (rg_new _ _ t x.2 _ (by simp only [World.size_setCell])) (by omega) (by unfold maxLen; omega) (by go_size) ?_); intro v7 w7 hr7 hb7 hg7; have HR7 := Lib.hid hr7; have HB7 := Lib.hid hb7; clear hr7 hb7 hg7)
                  have hz7 := HB7.out.size
                  simp only [World.size_alloc, World.size_setCell] at hz7
                  have h1 : Below wo.heap.size wo wc := hbr2.trans (Below.mono (hbq.trans (Below.mono hbx hzq)) hzq2)
                  have h1s := h1.size
                  have h2 := (((h1.setCell (p := ⟨g, q * 2, none⟩) (by simp only; omega) (.string x.1)).setCell (p := ⟨g, q * 2 + 1, none⟩) (by simp only; omega) (.string t)).alloc (by simp only [World.size_setCell]; omega) _).trans HB7.out
                  refine ⟨⟨p + 1, ps.set q (x.1, t) ++ [(t, x.2)], by omega, by go_num, Lib.hid (parts_next hP.out HL.out Hx.out hs htm HR7.out), h2⟩, by simp [intOf]; omega⟩
            · obtain rfl : q = L := by omega
              go_wp2
              have hnx := (hP.out.below hbq).next
              rw [← HL.out] at hnx
              exact ⟨⟨p + 1, ps, by omega, by go_num, Lib.hid hnx, hbr2.trans (hbq.mono hbr2.size)⟩, by simp [intOf]; omega⟩
        · obtain rfl : p = k := by omega
          have hnone := Lib.hid (gapV_none (l := rgL ps) hP.out.cov)
          obtain ⟨ao', cap', e', hArr⟩ := Row.arr (es := ps.map rgE) (by decide) (by rw [List.length_map]; exact hP.out.row) (rgE_elems ps)
          rw [List.length_map] at hArr e'
          cases e'
          have KG := gap_of _ _ _ ps _ rfl (Rgs.of_arr hArr hP.out.ok)
          rw [hnone.out] at KG
          have KG := Lib.hid KG
          clear hnone hArr hm hm1 hm2
          go_wp2_with (first
            | (go_at_call 23; refine (KG.out).mono ?_; rintro e w8 ⟨rfl, hb⟩; obtain ⟨hB, hS, hk⟩ := after (B := wo.heap.size) (w := wo) (by go_grown) (by go_size) hb; clear hb; clear hk)
            | (go_at_call 11; refine (works_any _).mono ?_; rintro e w9 ⟨rfl, hb⟩; obtain ⟨hB, hS, hk⟩ := after (B := wo.heap.size) (w := wo) (by go_grown) (by go_size) hb; clear hb; clear hk))
          go_returns
          exact ⟨rfl, hbo.trans (hB.mono hbo.size)⟩

end Go.Proofs.Ytdmepdjlfdigeaa
