/-
  strings.Builder: WriteByte.
-/
import Derived.Test.YtihglmicgccgiaaBldW
import Derived.Test.YtihglmicgccgiaaBloomM
import Derived.Test.YtihglmicgccgiaaPartsB
import Derived.Test.YtihglmicgccgiaaBuildW
namespace Go.Proofs.Ytihglmicgccgiaa
open Go.RowKit Go.Shelf

/-- append(out, c): where the new slice lies. -/
theorem run_append_byteT {P : Program} (w : World) (t ty e : TypeId) (i : TypeInfo) (ht : P.underlying t = some (.slice e)) (hi : P.info? e = some i) (hz : i.zero = some (.int .u8 0))
    (hsize : i.size = 1) (hby : i.bytes = 1) (v : Value) (l : List UInt8) (hown : Row w 0 e 1 v l.length (l.map bval)) (a : Addr) (c : UInt8) (hc : w.cell? a = some (bval c)) (hbytes : l.length + 1 ≤ 140737488355328) :
    ∃ v' w', (Builtin.append_ #[t, t] ty #[v, .slice (some a) 1 1]).run P w = .ok v' w' ∧ Row w' 0 e 1 v' (l ++ [c]).length ((l ++ [c]).map bval) ∧ w.grownBy w' v.ownBlock ∧ ∀ k, v'.ownBlock = some k → v.ownBlock = some k ∨ w.heap.size ≤ k := by
  have fin : ∀ {B : Nat} {v' : Value} {w' : World}, Row w' B e 1 v' (l.length + 1) (l.map bval ++ [bval c]) → Row w' B e 1 v' (l ++ [c]).length ((l ++ [c]).map bval) := fun h => by
    rw [List.map_append, List.length_append]
    exact h
  have hnews : ∀ j u, [bval c][j]? = some u → w.cell? (a.add j) = some u := by
    intro j u hu
    match j, hu with
    | 0, hu => cases hu; rw [show a.add 0 = a by unfold Addr.add; split <;> simp_all]; exact hc
    | j + 1, hu => simp at hu
  have h1c : ∀ u ∈ [bval c], u.oneCell' = true := by intro u hu; rw [List.mem_singleton.1 hu]; rfl
  have hm : l.length + 1 ≤ maxLen := by unfold maxLen; omega
  have hb2 : (l.length + 1) * 1 ≤ 140737488355328 := by omega
  rcases hown.form with ⟨rfl, h0⟩ | ⟨g, cap, rfl, _, hgl, hnc, hcm⟩
  · obtain ⟨v', w', h1, h2, h3, _⟩ := run_append_rowM (P := P) w w.heap.size t ty e i (.int .u8 0) 1 1 ht hi hz hsize hby rfl (by decide) (.slice none 0 0) l.length (l.map bval) ⟨hown.1, .inl ⟨rfl, h0⟩⟩ a 1 1 [bval c] rfl hnews h1c hm hb2 (Nat.le_refl _)
    exact ⟨v', w', h1, (fin h2).mono (Nat.zero_le _), h3, fun k hk => .inr (h2.lt k hk).1⟩
  · obtain ⟨v', w', h1, h2, h3, _⟩ := run_append_rowM (P := P) w 0 t ty e i (.int .u8 0) 1 1 ht hi hz hsize hby rfl (by decide) _ l.length (l.map bval) hown a 1 1 [bval c] rfl hnews h1c hm hb2 (Nat.zero_le _)
    refine ⟨v', w', h1, fin h2, h3, fun k hk => ?_⟩
    by_cases hroom : l.length + 1 ≤ cap
    · refine .inl ?_
      rcases hown.2 with ⟨e0, _⟩ | ⟨g', cap', cur, fr, e1, hbg, hg, hfr, hnc', hcm', hcs, htake⟩
      · cases e0
      · cases e1
        have hf := run_firstCells_some (P := P) w 1 1 a 1 1 [bval c] rfl hnews
        have hst := run_storeCells_row (P := P) g e fr [bval c] l.length 0 cur w hg hfr (by simp only [List.length_cons, List.length_nil]; omega) h1c
        simp only [Nat.add_zero] at hst
        have hr : (Builtin.append_ #[t, t] ty #[.slice (some ⟨g, 0, none⟩) l.length cap, .slice (some a) 1 1]).run P w =
            .ok (.slice (some ⟨g, 0, none⟩) (l.length + 1) cap) (w.setRow g (cur.toList.take l.length ++ [bval c] ++ cur.toList.drop (l.length + [bval c].length)).toArray) := by
          simp [Builtin.append_, run_underlying ht, sizeOf, typeInfo, hi, hsize, Builtin.lenOf, hroom, hf, Addr.add_lit, hst]
        rw [hr] at h1
        cases h1
        exact hk
    · refine .inr ?_
      have holds : ∀ j u, (l.map bval)[j]? = some u → w.cell? ((⟨g, 0, none⟩ : Addr).add j) = some u := by
        intro j u hu
        have hj : j < (l.map bval).length := (List.getElem?_eq_some_iff.1 hu).1
        rw [Addr.add_lit, ← hu]
        have := hown.cell (g := g) j (by rw [← hown.1]; exact hj)
        simpa using this
      have hr := run_append_grow (P := P) w t ty e i (.int .u8 0) ht hi hz ⟨g, 0, none⟩ l.length cap (l.map bval) (by rw [hsize]; simp) holds a 1 1 [bval c] (by rw [hsize]; rfl) hnews (by omega) (by omega) (growslice_fits (by omega) (by rw [hby]; omega))
      rw [hr] at h1
      cases h1
      cases hk
      exact Nat.le_refl _
theorem wpList_append_byteT {P : Program} (w : World) {ops : Array Oper} {rest : List Oper} {o : Oper} {a : Act} {Q : Exit → Act → World → Prop} (hgd : o.guard = none) (sl x : Operand) (t : TypeId)
    (ho : o.op = .call { callee := .builtin .append, args := #[sl, x], argTypes := #[t, t] })
    (e : TypeId) (i : TypeInfo) (ht : P.underlying t = some (.slice e)) (hi : P.info? e = some i) (hz : i.zero = some (.int .u8 0)) (hsize : i.size = 1) (hby : i.bytes = 1)
    (v : Value) (l : List UInt8) (hs : a.eval sl = v) (hown : Row w 0 e 1 v l.length (l.map bval))
    (ad : Addr) (c : UInt8) (hx : a.eval x = .slice (some ad) 1 1) (hc : w.cell? ad = some (bval c)) (hlen : l.length + 1 ≤ 140737488355328)
    (h : ∀ v' w', Row w' 0 e 1 v' (l ++ [c]).length ((l ++ [c]).map bval) → w.grownBy w' v.ownBlock → (∀ k, v'.ownBlock = some k → v.ownBlock = some k ∨ w.heap.size ≤ k) → wpList P ops Q rest (a.put o.dst v') w') : wpList P ops Q (o :: rest) a w := by
  refine wpList_plain hgd fun K hK => ?_
  obtain ⟨v', w', hr, h2, h3, h4⟩ := run_append_byteT (P := P) w t o.type e i ht hi hz hsize hby v l hown ad c hc hlen
  unfold Oper.wp execOp
  simp only [ho, resolve, invoke, builtin, Sem.run_bind, Sem.run_pure, Result.andThen_ok, List.map_toArray, List.map_cons, List.map_nil, hs, hx, hr]
  exact hK _ _ (h v' w' h2 h3 h4)

set_option maxRecDepth 100000 in
set_option maxHeartbeats 2000000 in
theorem writebyte_bl (b : Nat) (l : List UInt8) (F : Nat → Prop) (c : UInt8) (w : World) (h : Bl b l F w) (hlen : l.length + 1 ≤ 140737488355328) :
    Calls Try.prog 68 #[.pointer (some ⟨b, 0, none⟩), .int .u8 c.toNat] w fun e w' => e = .returned .nilIface ∧
      ∃ F', Bl b (l ++ [c]) F' w' ∧ Kept F w w' ∧ ∀ k, F' k → F k ∨ w.heap.size ≤ k := by
  obtain ⟨i0, hi, hz0, hz1, hz2⟩ := info_parts Try.info_u8
  have Hi := Lib.hid hi
  have hbl := h.inb b h.own
  have KC := Lib.hid (copycheck_bl b l F w h)
  clear hi h
  go_enter Try.func68, Try.ntmps68
  go_wp2_with fail
  refine KC.out.mono ?_
  rintro e w1 ⟨rfl, v, hbk, hrow, hne, hF, hk, hz⟩
  have c0 : w1.cell? ⟨b, 0, none⟩ = some (.pointer (some ⟨b, 0, none⟩)) := by simp [World.cell?, hbk]
  have c1 : w1.cell? ⟨b, 1, none⟩ = some v := by simp [World.cell?, hbk]
  have Hbk := Lib.hid hbk
  have Hrow := Lib.hid hrow
  have HF := Lib.hid hF
  have HK := Lib.hid hk
  have Hne := Lib.hid hne
  have hz1' : w.heap.size ≤ w1.heap.size := by omega
  have hz2' : w1.heap.size ≤ w.heap.size := by omega
  have hbl1 : b < w1.heap.size := by omega
  clear hbk hrow hF hk hne hz
  obtain ⟨W2, hW2⟩ : ∃ V : World, V = w1.alloc (.cells #[.int .u8 c.toNat] 5) := ⟨_, rfl⟩
  have hA : Below w1.heap.size w1 W2 := by rw [hW2]; exact (Below.refl _ _).alloc (Nat.le_refl _) _
  have hcc : W2.cell? ⟨w1.heap.size, 0, none⟩ = some (bval c) := by rw [hW2]; go_simp; rfl
  have HA := Lib.hid hA
  have HCC := Lib.hid hcc
  have HW2 := Lib.hid hW2
  have hzA : W2.heap.size = w1.heap.size + 1 := by rw [hW2, World.size_alloc]
  have HzA := Lib.hid hzA
  clear hA hcc hW2 hzA
  go_wp2_with (at_builtin; go_loud (rw [← HW2.out]; refine wpList_append_byteT W2 rfl _ _ 33 rfl 5 i0 Try.underlying33 Hi.out hz0 hz1 hz2 v l rfl (Row.below Hrow.out HA.out) ⟨w1.heap.size, 0, none⟩ c rfl HCC.out hlen ?_; intro v' w2 hrow2 hg2 hown2; have hb2 : w2.heap[b]? = some (.cells #[.pointer (some ⟨b, 0, none⟩), v] 85 (0, 0)) := (hg2.block b (by rw [HzA.out]; omega) (fun e => Hne.out e.symm)).trans ((HA.out.block b hbl1).trans Hbk.out); obtain ⟨d0, d1, f1⟩ := bl_cells hb2; obtain ⟨ao2, cap2, rfl⟩ := row_slice hrow2; obtain ⟨m, hm⟩ : ∃ m, m = (l ++ [c]).length := ⟨_, rfl⟩; rw [← hm] at hrow2 hown2 ⊢; have Hm := Lib.hid hm; clear hm; have Hrow2 := Lib.hid hrow2; have Hg2 := Lib.hid hg2; have Hown2 := Lib.hid hown2; have Hb2 := Lib.hid hb2; clear hrow2 hg2 hown2 hb2))
  go_ret
  have hz := Hg2.out.size
  have hz3 := HzA.out
  refine ⟨rfl, _, ⟨_, .slice ao2 m cap2, ?_, .inr rfl, Row.setCell (by rw [← Hm.out]; exact Hrow2.out) (fun k hk e => ?_) _, fun e => ?_, rfl⟩, ?_, ?_⟩
  · exact heap_set2b Hb2.out _
  · rcases Hown2.out k hk with h1 | h1
    · simp only at e; exact Hne.out (by rw [h1, e])
    · simp only at e; omega
  · rcases Hown2.out b e with h1 | h1
    · exact Hne.out h1
    · omega
  · refine Kept.setCell ?_ (.inl (by rw [HF.out]; exact .inl rfl)) _
    have hb := HK.out
    have ha := HA.out
    refine ⟨Hg2.out.os.trans (ha.os.trans hb.os), Hg2.out.tape.trans (ha.tape.trans hb.tape), Hg2.out.output.trans (ha.output.trans hb.output), by omega, fun k hk hn => ?_⟩
    rw [Hg2.out.block k (by omega) (fun e => hn (by rw [HF.out]; exact .inr e.symm)), ha.block k (by omega)]
    exact hb.block k hk hn
  · rintro k (rfl | hk)
    · rw [HF.out]; exact .inl (.inl rfl)
    · rcases Hown2.out k hk with h1 | h1
      · rw [HF.out]; exact .inl (.inr h1)
      · exact .inr (by omega)
end Go.Proofs.Ytihglmicgccgiaa

/-
  Tables: the walks of of, key, ahead, eight, none.
-/
namespace Go.Proofs.Ytihglmicgccgiaa
open Go.RowKit Go.Shelf

/-- is a place ahead of another one? -/
def aheadL (r c r2 c2 : List UInt8) : Bool := decide (r < r2) || (decide (r = r2) && decide (c < c2))
/-- the bytes of a place's key -/
def keyL (r c : List UInt8) : List UInt8 := r ++ [0] ++ c
set_option maxRecDepth 100000 in
set_option maxHeartbeats 1000000 in
theorem tof_any (c : CellA) (w : World) :
    Calls Try.prog 26 #[c.v] w fun e w' => e = .returned (.agg #[.string c.row, .string c.col]) ∧ Below w.heap.size w w' := by
  obtain ⟨r, k, v, g, l⟩ := c
  simp only [CellA.v]
  go_enter Try.func26, Try.ntmps26
  go_wp2_with (first | (with_reducible refine bodyPost_ret (v := .agg #[.string r, .string k]) ?hr ?hd ?hR))
  case hd => rfl
  case hr => simp [results, Try.results26, go_sem, *]
  case hR => go_grown
set_option maxRecDepth 100000 in
set_option maxHeartbeats 1000000 in
theorem key_any (r c : ByteArray) (w : World) (hr : r.size ≤ 1000000) (hc : c.size ≤ 1000000) :
    Calls Try.prog 31 #[.agg #[.string r, .string c]] w fun e w' => e = .returned (.string (ofL (keyL r.toList c.toList))) ∧ Below w.heap.size w w' := by
  have e1 : r ++ ⟨#[0]⟩ ++ c = ofL (keyL r.toList c.toList) := by
    rw [append_ofL, append_ofL, ofL_toList, show (⟨#[0]⟩ : ByteArray).toList = [0] by rw [Lib.toList_data]]
    rfl
  obtain ⟨R, hR⟩ : ∃ R, R = ofL (keyL r.toList c.toList) := ⟨_, rfl⟩
  rw [← hR] at e1 ⊢
  clear hR
  go_enter Try.func31, Try.ntmps31
  go_wp2
  go_ret
  exact ⟨rfl, by go_grown⟩
set_option maxRecDepth 100000 in
set_option maxHeartbeats 1000000 in
theorem tahead_any (r c r2 c2 : ByteArray) (w : World) :
    Calls Try.prog 27 #[.agg #[.string r, .string c], .agg #[.string r2, .string c2]] w fun e w' => e = .returned (.bool (aheadL r.toList c.toList r2.toList c2.toList)) ∧ Below w.heap.size w w' := by
  go_enter Try.func27, Try.ntmps27
  go_wp2
  all_goals (go_ret; refine ⟨ret_bool ?_, by go_grown⟩)
  all_goals (simp only [less_eq, aheadL] at * <;> grind)
set_option maxHeartbeats 400000 in
theorem tnone_nil (w : World) :
    Calls Try.prog 22 #[.pointer none] w fun e w' => e = .returned (.bool true) ∧ w = w' := by
  go_enter Try.func22, Try.ntmps22
  go_wp2
  go_ret
  exact ⟨rfl, rfl⟩
set_option maxHeartbeats 400000 in
theorem tnone_any (b : Nat) (w : World) (h : w.cell? ⟨b, 2, none⟩ = some (.bool true)) :
    Calls Try.prog 22 #[.pointer (some ⟨b, 0, none⟩)] w fun e w' => e = .returned (.bool false) ∧ w = w' := by
  go_enter Try.func22, Try.ntmps22
  go_wp2
  go_ret
  exact ⟨rfl, rfl⟩
end Go.Proofs.Ytihglmicgccgiaa

/-
  Tables: the walk of eight.
-/
namespace Go.Proofs.Ytihglmicgccgiaa
open Go.RowKit Go.Shelf

/-- eight bytes of a number, the highest first -/
def eightTo (n j : Nat) : List UInt8 := (List.range j).map fun i => UInt8.ofNat (n / 2 ^ (56 - 8 * i))
def eightL (n : Nat) : List UInt8 := eightTo n 8
theorem eightTo_succ (n j : Nat) : eightTo n (j + 1) = eightTo n j ++ [UInt8.ofNat (n / 2 ^ (56 - 8 * j))] := by simp [eightTo, List.range_succ]
theorem eightTo_len (n j : Nat) : (eightTo n j).length = j := by simp [eightTo]
set_option maxRecDepth 100000 in
set_option maxHeartbeats 2000000 in
theorem eight_any (n : Nat) (w : World) (hn : n < 1099511627776) :
    Calls Try.prog 49 #[.int .i64 n] w fun e w' => e = .returned (.string (ofL (eightL n))) ∧ Below w.heap.size w w' := by
  have KW := Lib.hid fun (b : Nat) (l : List UInt8) (F : Nat → Prop) (c : UInt8) (W : World) (h : Bl b l F W) (hl : l.length + 1 ≤ 140737488355328) => writebyte_bl b l F c W h hl
  have KS := Lib.hid fun (b : Nat) (l : List UInt8) (F : Nat → Prop) (W : World) (h : Bl b l F W) => string_bl b l F W h
  have HB0 := Lib.hid (bl_new w)
  go_enter Try.func49, Try.ntmps49
  go_wp2_with fail
  go_loopw [4] (fun i wr => ∃ (j : Nat) (F : Nat → Prop), j ≤ 8 ∧ i = .int .i64 (56 - 8 * (j : Int)) ∧ Hid (Bl w.heap.size (eightTo n j) F wr) ∧ Hid (∀ k, F k → w.heap.size ≤ k) ∧ Hid (Below w.heap.size w wr)) (fun i _ => (intOf i + 8).toNat)
  case atStart => exact ⟨0, _, by omega, rfl, HB0, Lib.hid (fun k h => by subst h; exact Nat.le_refl _), Lib.hid (by go_grown)⟩
  case round =>
    obtain ⟨j, F, hj, rfl, hB, hF, hW⟩ := hrel
    have hz := hW.out.size
    have hln := eightTo_len n j
    by_cases hlt : j < 8
    · have hv : ((n : Int) / 2 ^ (56 - 8 * j) % 256 : Int) = ((UInt8.ofNat (n / 2 ^ (56 - 8 * j))).toNat : Int) := by
        rw [UInt8.toNat_ofNat']
        simp
      have HV := Lib.hid hv
      clear hv
      go_wp2_with fail
      rw [HV.out]
      refine (KW.out _ _ _ _ wr hB.out (by omega)).mono ?_
      rintro e w2 ⟨rfl, F2, hB2, hK2, hF2⟩
      have HB2 : Hid (Bl w.heap.size (eightTo n (j + 1)) F2 w2) := Lib.hid (by rw [eightTo_succ]; exact hB2)
      have HF2 : Hid (∀ k, F2 k → w.heap.size ≤ k) := Lib.hid fun k h => (hF2 k h).elim (hF.out k) (fun h => by omega)
      have HW2 : Hid (Below w.heap.size w w2) := Lib.hid (hW.out.trans (hK2.below hF.out hz))
      clear hB2 hK2 hF2 HV hB hF hW
      go_wp2_with fail
      exact ⟨⟨j + 1, F2, by omega, by go_num, HB2, HF2, HW2⟩, by simp [intOf]; omega⟩
    · obtain rfl : j = 8 := by omega
      obtain ⟨R, hR⟩ : ∃ R, R = ofL (eightL n) := ⟨_, rfl⟩
      have HR := Lib.hid hR
      have hS := KS.out _ _ _ wr hB.out
      rw [show ofL (eightTo n 8) = R from hR.symm] at hS
      have HS := Lib.hid hS
      clear hR hS
      go_wp2_with fail
      refine HS.out.mono ?_
      rintro e w2 ⟨rfl, hK2, _⟩
      have HW2 : Hid (Below w.heap.size w w2) := Lib.hid (hW.out.trans (hK2.below hF.out hz))
      clear hK2
      go_wp2_with fail
      go_ret
      exact ⟨by rw [HR.out]; rfl, HW2.out⟩
theorem eightL_inj {a b : Nat} (ha : a < 1099511627776) (hb : b < 1099511627776) (h : eightL a = eightL b) : a = b := by
  have k : ∀ i, i < 8 → a / 2 ^ (56 - 8 * i) % 256 = b / 2 ^ (56 - 8 * i) % 256 := by
    intro i hi
    have h1 : (eightL a)[i]? = (eightL b)[i]? := by rw [h]
    unfold eightL eightTo at h1
    rw [List.getElem?_map, List.getElem?_map, List.getElem?_range hi] at h1
    have h2 := congrArg UInt8.toNat (Option.some.inj h1)
    rw [UInt8.toNat_ofNat', UInt8.toNat_ofNat'] at h2
    exact h2
  have k3 := k 3 (by decide)
  have k4 := k 4 (by decide)
  have k5 := k 5 (by decide)
  have k6 := k 6 (by decide)
  have k7 := k 7 (by decide)
  simp at k3 k4 k5 k6 k7
  omega
theorem eightL_len (n : Nat) : (eightL n).length = 8 := eightTo_len n 8
end Go.Proofs.Ytihglmicgccgiaa

/-
  Tables: the walk of ordered.
-/
namespace Go.Proofs.Ytihglmicgccgiaa
open Go.RowKit Go.Shelf

set_option maxRecDepth 100000 in
set_option maxHeartbeats 4000000 in
theorem ordered_any (ao : Option Addr) (n cap : Nat) (cs : List CellA) (w : World) (h : Cells w ao n cap cs) (hok : ∀ c ∈ cs, c.Ok) :
    Calls Try.prog 17 #[.slice ao n cap] w fun e w' => e = .returned (.bool (!wrongB cs)) ∧ Below w.heap.size w w' := by
  have hl := h.len
  have hc1 := Arr.fits h
  have hc2 := Arr.max h
  unfold maxLen at hc2
  obtain ⟨R1, hR1⟩ : ∃ R, R = !wrongB cs := ⟨_, rfl⟩
  rw [← hR1]
  have HR1 : Hid (wrongB cs = true → R1 = false) := Lib.hid fun h => by rw [hR1, h]; rfl
  have HR2 : Hid (wrongB cs = false → R1 = true) := Lib.hid fun h => by rw [hR1, h]; rfl
  clear hR1
  have Hl := Lib.hid hl
  have H := Lib.hid h
  have Hok := Lib.hid hok
  clear h hl hok
  go_enter Try.func17, Try.ntmps17
  go_wp2
  go_loopw [7] (fun i wr => ∃ k : Nat, k ≤ n ∧ i = .int .i64 k ∧ Hid (∀ j, j < k → wrongAt cs j = false) ∧ Hid (Below w.heap.size w wr)) (fun i _ => n - (intOf i).toNat)
  case atStart => exact ⟨0, by omega, rfl, Lib.hid (fun j h => by omega), Lib.hid (Below.refl _ _)⟩
  case round =>
    obtain ⟨k, hk, rfl, hW, hD⟩ := hrel
    have hzr := hD.out.size
    by_cases hlt : k < n
    · obtain ⟨x, hx⟩ : ∃ x, cs[k]? = some x := ⟨_, List.getElem?_eq_getElem (by rw [Hl.out]; omega)⟩
      obtain ⟨b, off, rfl, hb, ⟨x0, x1, x2, x3, x4⟩⟩ := Cells.at_ H.out hx
      obtain ⟨k0, k0f⟩ := keep_below hD.out b hb
      have KC := Lib.hid fun W => cell_any x W (Hok.out x (List.mem_of_getElem? hx))
      have Hwr : Hid (wrongAt cs k = true → R1 = false) := Lib.hid fun h => HR1.out (wrongB_true (by rw [Hl.out]; exact hlt) h)
      have Hwn : Hid (wrongAt cs k = false → ∀ j, j < k + 1 → wrongAt cs j = false) := Lib.hid fun h j hj => by
        by_cases e : j = k
        · rw [e]; exact h
        · exact hW.out j (by omega)
      by_cases hcx : cellL x = true
      · rw [hcx] at KC
        have KC : Hid (∀ W, Calls Try.prog 39 #[x.v] W fun e w' => e = .returned (.int .i64 0) ∧ Below W.heap.size W w') := KC
        cases k with
        | zero =>
          have HN := Lib.hid (Hwn.out ((wrongAt_zero hx).trans (by rw [hcx]; rfl)))
          obtain ⟨xr, xc, xv, xg, xl⟩ := x
          simp only [Nat.zero_mul, Nat.add_zero] at x0 x1 x2 x3 x4
          clear Hwr Hwn hx hW hcx
          go_wp2_with fail
          refine wp_region_below (by kernel_rfl) (by kernel_rfl) (fun hkept => ?_)
          obtain ⟨r0, rf0⟩ := hkept (wr.heap.size) (by go_size); clear hkept
          repeat (any_goals (first | go_big_quiet_step (first | (go_at_call 39; exact Calls.regrown_of (KC.out _))) | quiet_step (first | (go_at_call 39; exact Calls.regrown_of (KC.out _))) | (refine wpQuiet_step (fun K hK => ?_); go_simp; split <;> (refine hK _ ?_; clear hK K))))
          all_goals (refine wpQuiet_nil ?_; intro w1 hb; obtain ⟨hB, hS, hk⟩ := after (B := wr.heap.size) (w := wr) (by go_grown) (by go_size) hb; obtain ⟨c0, f0, z0⟩ := hk (wr.heap.size) (by go_size); clear hk hb r0 rf0)
          go_wp2
          exact ⟨⟨1, by omega, by go_num, HN, Lib.hid (hD.out.trans (hB.mono hzr))⟩, by simp [intOf]; omega⟩
        | succ j =>
          obtain ⟨y, hy⟩ : ∃ y, cs[j]? = some y := ⟨_, List.getElem?_eq_getElem (by rw [Hl.out]; omega)⟩
          obtain ⟨b', off', e', hb', ⟨y0, y1, y2, y3, y4⟩⟩ := Cells.at_ H.out hy
          cases e'
          have hcm := Lib.hid fun W => cmp_any y x W
          obtain ⟨c, hc⟩ : ∃ c, cmpC y x = c := ⟨_, rfl⟩
          have Hxw : Hid (wrongAt cs (j + 1) = decide (0 ≤ c)) := Lib.hid ((wrongAt_succ hx hy).trans (by rw [hcx, hc]; rfl))
          rw [hc] at hcm
          obtain ⟨xr, xc, xv, xg, xl⟩ := x
          obtain ⟨yr, yc, yv, yg, yl⟩ := y
          simp only at x0 x1 x2 x3 x4 y0 y1 y2 y3 y4
          clear hy hb' hc hx hW hcx
          have hbr : b < wr.heap.size := Nat.lt_of_lt_of_le hb hzr
          have hbn : ¬ b = wr.heap.size := by omega
          by_cases hneg : 0 ≤ c
          · have hneg1 : decide (0 ≤ c) = true := by simp; omega
            have HN := Lib.hid (Hwr.out (Hxw.out.trans hneg1))
            clear Hwr Hwn Hxw
            go_wp2_with fail
            refine wp_region_below (by kernel_rfl) (by kernel_rfl) (fun hkept => ?_)
            obtain ⟨r0, rf0⟩ := hkept (wr.heap.size) (by go_size); obtain ⟨r1, rf1⟩ := hkept (b) (by go_size); clear hkept
            repeat (any_goals (first | go_big_quiet_step (first | (go_at_call 39; exact Calls.regrown_of (KC.out _)) | (go_at_call 15; exact Calls.regrown_of (hcm.out _))) | quiet_step (first | (go_at_call 39; exact Calls.regrown_of (KC.out _)) | (go_at_call 15; exact Calls.regrown_of (hcm.out _))) | (refine wpQuiet_step (fun K hK => ?_); go_simp; split <;> (refine hK _ ?_; clear hK K))))
            all_goals (refine wpQuiet_nil ?_; intro w1 hb; obtain ⟨hB, hS, hk⟩ := after (B := wr.heap.size) (w := wr) (by go_grown) (by go_size) hb; obtain ⟨c0, f0, z0⟩ := hk (wr.heap.size) (by go_size); obtain ⟨c1, f1, z1⟩ := hk (b) (by go_size); clear hk hb r0 rf0 r1 rf1)
            go_wp2
            go_returns
            exact ⟨by rw [HN.out]; rfl, hD.out.trans (hB.mono hzr)⟩
          · have hneg1 : decide (0 ≤ c) = false := by simp; omega
            have HN := Lib.hid (Hwn.out (Hxw.out.trans hneg1))
            clear Hwr Hwn Hxw
            go_wp2_with fail
            refine wp_region_below (by kernel_rfl) (by kernel_rfl) (fun hkept => ?_)
            obtain ⟨r0, rf0⟩ := hkept (wr.heap.size) (by go_size); obtain ⟨r1, rf1⟩ := hkept (b) (by go_size); clear hkept
            repeat (any_goals (first | go_big_quiet_step (first | (go_at_call 39; exact Calls.regrown_of (KC.out _)) | (go_at_call 15; exact Calls.regrown_of (hcm.out _))) | quiet_step (first | (go_at_call 39; exact Calls.regrown_of (KC.out _)) | (go_at_call 15; exact Calls.regrown_of (hcm.out _))) | (refine wpQuiet_step (fun K hK => ?_); go_simp; split <;> (refine hK _ ?_; clear hK K))))
            all_goals (refine wpQuiet_nil ?_; intro w1 hb; obtain ⟨hB, hS, hk⟩ := after (B := wr.heap.size) (w := wr) (by go_grown) (by go_size) hb; obtain ⟨c0, f0, z0⟩ := hk (wr.heap.size) (by go_size); obtain ⟨c1, f1, z1⟩ := hk (b) (by go_size); clear hk hb r0 rf0 r1 rf1)
            go_wp2
            exact ⟨⟨j + 1 + 1, by omega, by go_num, HN, Lib.hid (hD.out.trans (hB.mono hzr))⟩, by simp [intOf]; omega⟩
      · rw [Bool.not_eq_true] at hcx
        rw [hcx] at KC
        have KC : Hid (∀ W, Calls Try.prog 39 #[x.v] W fun e w' => e = .returned (.int .i64 2) ∧ Below W.heap.size W w') := KC
        have HN := Lib.hid (Hwr.out (wrongAt_bad hx hcx))
        obtain ⟨xr, xc, xv, xg, xl⟩ := x
        simp only at x0 x1 x2 x3 x4
        clear Hwr Hwn hx hW hcx
        go_wp2_with fail
        refine wp_region_below (by kernel_rfl) (by kernel_rfl) (fun hkept => ?_)
        obtain ⟨r0, rf0⟩ := hkept (wr.heap.size) (by go_size); clear hkept
        repeat (any_goals (first | go_big_quiet_step (first | (go_at_call 39; exact Calls.regrown_of (KC.out _))) | quiet_step (first | (go_at_call 39; exact Calls.regrown_of (KC.out _))) | (refine wpQuiet_step (fun K hK => ?_); go_simp; split <;> (refine hK _ ?_; clear hK K))))
        all_goals (refine wpQuiet_nil ?_; intro w1 hb; obtain ⟨hB, hS, hk⟩ := after (B := wr.heap.size) (w := wr) (by go_grown) (by go_size) hb; obtain ⟨c0, f0, z0⟩ := hk (wr.heap.size) (by go_size); clear hk hb r0 rf0)
        go_wp2
        go_returns
        exact ⟨by rw [HN.out]; rfl, hD.out.trans (hB.mono hzr)⟩
    · obtain rfl : n = k := by omega
      have HW : Hid (wrongB cs = false) := Lib.hid (wrongB_of (fun j hj => hW.out j (by rw [← Hl.out]; exact hj)))
      have HN := Lib.hid (HR2.out HW.out)
      clear hW
      go_wp2_with fail
      go_returns
      exact ⟨by rw [HN.out]; rfl, hD.out⟩
end Go.Proofs.Ytihglmicgccgiaa
