/-
  strings.Builder: WriteString, Len, String over a builder's own blocks.
-/
import Derived.Test.YtihglmicgccgiaaRowStr
import Derived.Test.YtihglmicgccgiaaQuiet
import Derived.Test.YtihglmicgccgiaaKept
import Derived.Test.YtihglmicgccgiaaWirePutW
import Derived.Lib.Builder
import Derived.Lib.UnsafeStr
import Derived.Laws.Externs
import Derived.Laws.IdiomCopy
import Derived.Shelf.RegionOpenPlain
namespace Go.Proofs.Ytihglmicgccgiaa
open Go.RowKit Go.Shelf

/-- append(out, s...): where the new slice lies. -/
theorem run_append_rowT {P : Program} (w : World) (t u ty e : TypeId) (i : TypeInfo) (ht : P.underlying t = some (.slice e)) (hu : P.underlying u = some .string) (hi : P.info? e = some i) (hz : i.zero = some (.int .u8 0))
    (hsize : i.size = 1) (hby : i.bytes = 1) (v : Value) (l : List UInt8) (hown : Row w 0 e 1 v l.length (l.map bval)) (s : ByteArray) (hbytes : l.length + s.size ≤ 140737488355328) :
    ∃ v' w', (Builtin.append_ #[t, u] ty #[v, .string s]).run P w = .ok v' w' ∧ Row w' 0 e 1 v' (l ++ s.toList).length ((l ++ s.toList).map bval) ∧ w.grownBy w' v.ownBlock ∧ ∀ k, v'.ownBlock = some k → v.ownBlock = some k ∨ w.heap.size ≤ k := by
  have fin : ∀ {B : Nat} {v' : Value} {w' : World}, Row w' B e 1 v' (l.length + s.size) (l.map bval ++ Lib.strCells s) → Row w' B e 1 v' (l ++ s.toList).length ((l ++ s.toList).map bval) := fun h => by
    rw [strCells_bval] at h
    rw [List.map_append, List.length_append, show s.toList.length = s.size by rw [Lib.toList_data]; rfl]
    exact h
  rcases hown.form with ⟨rfl, h0⟩ | ⟨g, cap, rfl, _, hgl, hnc, hcm⟩
  · obtain ⟨v', w', h1, h2, h3⟩ := run_append_rowS (P := P) w w.heap.size t u ty e i ht hu hi hz hsize hby (.slice none 0 0) l.length (l.map bval) ⟨hown.1, .inl ⟨rfl, h0⟩⟩ s hbytes (Nat.le_refl _)
    exact ⟨v', w', h1, (fin h2).mono (Nat.zero_le _), h3, fun k hk => .inr (h2.lt k hk).1⟩
  · by_cases hroom : l.length + s.size ≤ cap
    · obtain ⟨v', w', h1, h2, h3⟩ := run_append_rowS (P := P) w 0 t u ty e i ht hu hi hz hsize hby _ l.length (l.map bval) hown s hbytes (Nat.zero_le _)
      refine ⟨v', w', h1, fin h2, h3, fun k hk => .inl ?_⟩
      rcases hown.2 with ⟨e0, _⟩ | ⟨g', cap', cur, fr, e1, hbg, hg, hfr, hnc', hcm', hcs, htake⟩
      · cases e0
      · cases e1
        have hf := Lib.run_firstCells_string (P := P) w 1 s
        have hst := run_storeCells_row (P := P) g e fr (Lib.strCells s) l.length 0 cur w hg hfr (by rw [Lib.strCells_length]; omega) (Lib.strCells_oneCell s)
        simp only [Nat.add_zero, Lib.strCells_length] at hst
        have hr : (Builtin.append_ #[t, u] ty #[.slice (some ⟨g, 0, none⟩) l.length cap, .string s]).run P w =
            .ok (.slice (some ⟨g, 0, none⟩) (l.length + s.size) cap) (w.setRow g (cur.toList.take l.length ++ Lib.strCells s ++ cur.toList.drop (l.length + s.size)).toArray) := by
          simp [Builtin.append_, run_underlying ht, run_underlying hu, sizeOf, typeInfo, hi, hsize, Builtin.lenOf, hroom, hf, Addr.add_lit, hst]
        rw [hr] at h1
        cases h1
        exact hk
    · have holds : ∀ j u, (l.map bval)[j]? = some u → w.cell? ((⟨g, 0, none⟩ : Addr).add j) = some u := by
        intro j u hu
        have hj : j < (l.map bval).length := (List.getElem?_eq_some_iff.1 hu).1
        rw [Addr.add_lit, ← hu]
        have := hown.cell (g := g) j (by rw [← hown.1]; exact hj)
        simpa using this
      have hsm : l.length + s.size ≤ 9223372036854775807 := by omega
      have hr := Lib.run_append_grow_string (P := P) w t u ty e i (.int .u8 0) ht hu hi hz ⟨g, 0, none⟩ l.length cap (l.map bval) (by rw [hsize]; simp) holds s (by omega) (by omega) (by rw [hby]; exact growslice_fits (by omega) (by omega))
      obtain ⟨v', w', h1, h2, h3⟩ := run_append_rowS (P := P) w 0 t u ty e i ht hu hi hz hsize hby _ l.length (l.map bval) hown s hbytes (Nat.zero_le _)
      refine ⟨v', w', h1, fin h2, h3, fun k hk => .inr ?_⟩
      rw [hr] at h1
      cases h1
      cases hk
      exact Nat.le_refl _

theorem wpList_append_strT {P : Program} (w : World) {ops : Array Oper} {rest : List Oper} {o : Oper} {a : Act} {Q : Exit → Act → World → Prop} (hgd : o.guard = none) (sl x : Operand) (t u : TypeId)
    (ho : o.op = .call { callee := .builtin .append, args := #[sl, x], argTypes := #[t, u] })
    (e : TypeId) (i : TypeInfo) (ht : P.underlying t = some (.slice e)) (hu : P.underlying u = some .string) (hi : P.info? e = some i) (hz : i.zero = some (.int .u8 0)) (hsize : i.size = 1) (hby : i.bytes = 1)
    (v : Value) (l : List UInt8) (hs : a.eval sl = v) (hown : Row w 0 e 1 v l.length (l.map bval))
    (s : ByteArray) (hx : a.eval x = .string s) (hlen : l.length + s.size ≤ 140737488355328)
    (h : ∀ v' w', Row w' 0 e 1 v' (l ++ s.toList).length ((l ++ s.toList).map bval) → w.grownBy w' v.ownBlock → (∀ k, v'.ownBlock = some k → v.ownBlock = some k ∨ w.heap.size ≤ k) → wpList P ops Q rest (a.put o.dst v') w') : wpList P ops Q (o :: rest) a w := by
  refine wpList_plain hgd fun K hK => ?_
  obtain ⟨v', w', hr, h2, h3, h4⟩ := run_append_rowT (P := P) w t u o.type e i ht hu hi hz hsize hby v l hown s hlen
  unfold Oper.wp execOp
  simp only [ho, resolve, invoke, builtin, Sem.run_bind, Sem.run_pure, Result.andThen_ok, List.map_toArray, List.map_cons, List.map_nil, hs, hx, hr]
  exact hK _ _ (h v' w' h2 h3 h4)

/-- a builder in block b that holds l; its own blocks are F's -/
structure Bl (b : Nat) (l : List UInt8) (F : Nat → Prop) (w : World) : Prop where
  ex : ∃ p v, w.heap[b]? = some (.cells #[p, v] 85 (0, 0)) ∧ (p = .pointer none ∨ p = .pointer (some ⟨b, 0, none⟩)) ∧ Row w 0 5 1 v l.length (l.map bval) ∧ v.ownBlock ≠ some b ∧ F = fun k => k = b ∨ v.ownBlock = some k
section
variable {b : Nat} {l : List UInt8} {F : Nat → Prop} {w w' : World}
theorem Bl.keep (h : Bl b l F w) (hb : ∀ k, F k → w'.heap[k]? = w.heap[k]?) : Bl b l F w' := by
  obtain ⟨p, v, h1, h2, h3, h4, rfl⟩ := h.ex
  exact ⟨p, v, (hb b (.inl rfl)).trans h1, h2, h3.of_heap (fun k hk => hb k (.inr hk)), h4, rfl⟩
theorem Bl.inb (h : Bl b l F w) : ∀ k, F k → k < w.heap.size := by
  obtain ⟨p, v, h1, h2, h3, h4, rfl⟩ := h.ex
  rintro k (rfl | hk)
  · exact (Array.getElem?_eq_some_iff.1 h1).1
  · exact (h3.lt k hk).2
theorem Bl.below (h : Bl b l F w) (hb : Below w.heap.size w w') : Bl b l F w' := h.keep (fun k hk => hb.block k (h.inb k hk))
theorem Bl.own (h : Bl b l F w) : F b := by obtain ⟨p, v, h1, h2, h3, h4, rfl⟩ := h.ex; exact .inl rfl
end
theorem bl_new (w : World) : Bl w.heap.size [] (fun k => k = w.heap.size) (w.alloc (.cells #[.pointer none, .slice none 0 0] 85)) :=
  ⟨_, _, heap_alloc_new w _, .inl rfl, Row.nil _ _ _ _, by simp [Value.ownBlock], by funext k; simp [Value.ownBlock]⟩

theorem heap_set2 {w : World} {b : Nat} {p v : Value} {T : TypeId} {fr : Nat × Nat} (h : w.heap[b]? = some (.cells #[p, v] T fr)) (u : Value) : (w.setCell ⟨b, 0, none⟩ u).heap[b]? = some (.cells #[u, v] T fr) := by
  unfold World.setCell
  simp only [Array.getElem?_modify, if_true, h, Option.map_some]
  rfl
theorem heap_set2b {w : World} {b : Nat} {p v : Value} {T : TypeId} {fr : Nat × Nat} (h : w.heap[b]? = some (.cells #[p, v] T fr)) (u : Value) : (w.setCell ⟨b, 1, none⟩ u).heap[b]? = some (.cells #[p, u] T fr) := by
  unfold World.setCell
  simp only [Array.getElem?_modify, if_true, h, Option.map_some]
  rfl
theorem bl_cells {w : World} {b : Nat} {p v : Value} {T : TypeId} (h : w.heap[b]? = some (.cells #[p, v] T (0, 0))) : w.cell? ⟨b, 0, none⟩ = some p ∧ w.cell? ⟨b, 1, none⟩ = some v ∧ w.frozen? ⟨b, 1, none⟩ = false :=
  ⟨by simp [World.cell?, h], by simp [World.cell?, h], by simp [World.frozen?, h]⟩
theorem row_slice {w : World} {B : Nat} {e : TypeId} {v : Value} {n : Nat} {xs : List Value} (h : Row w B e 1 v n xs) : ∃ ao cap, v = .slice ao n cap := by
  rcases h.form with ⟨rfl, e⟩ | ⟨g, cap, rfl, _⟩
  · rw [e]; exact ⟨_, _, rfl⟩
  · exact ⟨_, _, rfl⟩
theorem bl_size : (Try.prog.info? 85).map (·.size) = some 2 := by kernel_rfl
theorem bl_lies : liesAt Try.prog Try.prog.depth 85 (2 / Try.prog.cellsOf 85) 0 85 1 = true := by kernel_rfl

set_option maxRecDepth 100000 in
theorem copycheck_fresh (b : Nat) (w : World) (h0 : w.cell? ⟨b, 0, none⟩ = some (.pointer none)) (hsh : w.shape? b = some (85, 2)) (hfz : w.frozen? ⟨b, 0, none⟩ = false) :
    Calls Try.prog 66 #[.pointer (some ⟨b, 0, none⟩)] w fun e w' => e = .returned (.tuple #[]) ∧ w.setCell ⟨b, 0, none⟩ (.pointer (some ⟨b, 0, none⟩)) = w' := by
  obtain ⟨j, hj, hjs⟩ := Option.map_eq_some_iff.1 bl_size
  go_enter Try.func66, Try.ntmps66
  go_wp2
  rw [Lib.run_to_unsafe w ⟨b, 0, none⟩ Try.underlying83 Try.underlying134 hj (by rw [hjs]; decide) hsh (Nat.zero_lt_succ 1)]
  simp only [Result.andThen]
  rw [Oper.upon_value]
  go_wp2
  rw [run_callFunc_extern Try.func82 (by kernel_rfl) (by kernel_rfl) (by kernel_rfl) (e := Extern.AbiNoEscape.same) (by kernel_rfl)]
  rw [Lib.run_noEscape]
  simp only [Result.andThen]
  rw [Oper.upon_value]
  go_wp2
  rw [Lib.run_from_unsafe w ⟨b, 0, none⟩ Try.underlying134 Try.underlying83 hj hsh bl_lies]
  simp only [Result.andThen]
  rw [Oper.upon_value]
  go_wp2
  go_end0
  exact ⟨rfl, rfl⟩
set_option maxRecDepth 100000 in
theorem copycheck_used (b : Nat) (w : World) (h0 : w.cell? ⟨b, 0, none⟩ = some (.pointer (some ⟨b, 0, none⟩))) :
    Calls Try.prog 66 #[.pointer (some ⟨b, 0, none⟩)] w fun e w' => e = .returned (.tuple #[]) ∧ w = w' := by
  obtain ⟨j, hj, hjs⟩ := Option.map_eq_some_iff.1 bl_size
  have hne := fun W => Lib.run_neq_ptr_same (P := Try.prog) (w := W) ⟨b, 0, none⟩ Try.underlying83 hj
  clear hj hjs
  go_enter Try.func66, Try.ntmps66
  go_wp2
  go_end0
  exact ⟨rfl, rfl⟩
/-- copyCheck: behind it the address is its own -/
theorem copycheck_bl (b : Nat) (l : List UInt8) (F : Nat → Prop) (w : World) (h : Bl b l F w) :
    Calls Try.prog 66 #[.pointer (some ⟨b, 0, none⟩)] w fun e w' => e = .returned (.tuple #[]) ∧
      ∃ v, w'.heap[b]? = some (.cells #[.pointer (some ⟨b, 0, none⟩), v] 85 (0, 0)) ∧ Row w' 0 5 1 v l.length (l.map bval) ∧ v.ownBlock ≠ some b ∧ F = (fun k => k = b ∨ v.ownBlock = some k) ∧ Kept F w w' ∧ w'.heap.size = w.heap.size := by
  obtain ⟨p, v, h1, h2, h3, h4, rfl⟩ := h.ex
  have c0 : w.cell? ⟨b, 0, none⟩ = some p := by simp [World.cell?, h1]
  rcases h2 with rfl | rfl
  · refine (copycheck_fresh b w c0 (by simp [World.shape?, h1]) (by simp [World.frozen?, h1])).mono ?_
    rintro e w' ⟨rfl, rfl⟩
    refine ⟨rfl, v, ?_, h3.setCell (fun k hk e => h4 (by rw [hk, e])) _, h4, rfl, (Kept.refl _ _).setCell (.inl (.inl rfl)) _, World.size_setCell ..⟩
    exact heap_set2 h1 _
  · refine (copycheck_used b w c0).mono ?_
    rintro e w' ⟨rfl, rfl⟩
    exact ⟨rfl, v, h1, h3, h4, rfl, Kept.refl _ _, rfl⟩

set_option maxRecDepth 100000 in
set_option maxHeartbeats 2000000 in
theorem writestring_bl (b : Nat) (l : List UInt8) (F : Nat → Prop) (s : ByteArray) (w : World) (h : Bl b l F w) (hlen : l.length + s.size ≤ 140737488355328) :
    Calls Try.prog 43 #[.pointer (some ⟨b, 0, none⟩), .string s] w fun e w' => e = .returned (.tuple #[.int .i64 s.size, .nilIface]) ∧
      ∃ F', Bl b (l ++ s.toList) F' w' ∧ Kept F w w' ∧ ∀ k, F' k → F k ∨ w.heap.size ≤ k := by
  obtain ⟨i0, hi, hz0, hz1, hz2⟩ := info_parts Try.info_u8
  have Hi := Lib.hid hi
  have hbl := h.inb b h.own
  have KC := Lib.hid (copycheck_bl b l F w h)
  clear hi h
  go_enter Try.func43, Try.ntmps43
  go_wp2_with fail
  refine KC.out.mono ?_
  rintro e w1 ⟨rfl, v, hbk, hrow, hne, hF, hk, hz⟩
  have c0 : w1.cell? ⟨b, 0, none⟩ = some (.pointer (some ⟨b, 0, none⟩)) := by simp [World.cell?, hbk]
  have c1 : w1.cell? ⟨b, 1, none⟩ = some v := by simp [World.cell?, hbk]
  have Hbk := Lib.hid hbk
  have Hrow := Lib.hid hrow
  have HF := Lib.hid hF
  have HK := Lib.hid hk
  have Hne := Lib.hid hne
  have hz1' : w.heap.size ≤ w1.heap.size := by omega
  have hz2' : w1.heap.size ≤ w.heap.size := by omega
  clear hbk hrow hF hk hne hz
  go_wp2_with (at_builtin; go_loud (refine wpList_append_strT w1 rfl _ _ 33 9 rfl 5 i0 Try.underlying33 Try.underlying9 Hi.out hz0 hz1 hz2 v l rfl Hrow.out s rfl hlen ?_; intro v' w2 hrow2 hg2 hown2; have hb2 : w2.heap[b]? = some (.cells #[.pointer (some ⟨b, 0, none⟩), v] 85 (0, 0)) := (hg2.block b (Array.getElem?_eq_some_iff.1 Hbk.out).1 (fun e => Hne.out e.symm)).trans Hbk.out; obtain ⟨d0, d1, f1⟩ := bl_cells hb2; obtain ⟨ao2, cap2, rfl⟩ := row_slice hrow2; obtain ⟨m, hm⟩ : ∃ m, m = (l ++ s.toList).length := ⟨_, rfl⟩; rw [← hm] at hrow2 hown2 ⊢; have Hm := Lib.hid hm; clear hm; have Hrow2 := Lib.hid hrow2; have Hg2 := Lib.hid hg2; have Hown2 := Lib.hid hown2; have Hb2 := Lib.hid hb2; clear hrow2 hg2 hown2 hb2))
  go_ret2
  have hz := Hg2.out.size
  refine ⟨rfl, _, ⟨_, .slice ao2 m cap2, ?_, .inr rfl, Row.setCell (by rw [← Hm.out]; exact Hrow2.out) (fun k hk e => ?_) _, fun e => ?_, rfl⟩, ?_, ?_⟩
  · exact heap_set2b Hb2.out _
  · rcases Hown2.out k hk with h1 | h1
    · simp only at e; exact Hne.out (by rw [h1, e])
    · simp only at e; omega
  · rcases Hown2.out b e with h1 | h1
    · exact Hne.out h1
    · omega
  · refine Kept.setCell ?_ (.inl (by rw [HF.out]; exact .inl rfl)) _
    have hb := HK.out
    refine ⟨Hg2.out.os.trans hb.os, Hg2.out.tape.trans hb.tape, Hg2.out.output.trans hb.output, by omega, fun k hk hn => ?_⟩
    rw [Hg2.out.block k (by omega) (fun e => hn (by rw [HF.out]; exact .inr e.symm))]
    exact hb.block k hk hn
  · rintro k (rfl | hk)
    · rw [HF.out]; exact .inl (.inl rfl)
    · rcases Hown2.out k hk with h1 | h1
      · rw [HF.out]; exact .inl (.inr h1)
      · exact .inr (by omega)
theorem len_bl (b : Nat) (l : List UInt8) (F : Nat → Prop) (w : World) (h : Bl b l F w) :
    Calls Try.prog 45 #[.pointer (some ⟨b, 0, none⟩)] w fun e w' => e = .returned (.int .i64 l.length) ∧ w = w' := by
  obtain ⟨p, v, h1, h2, h3, h4, rfl⟩ := h.ex
  obtain ⟨ao, cap, rfl⟩ : ∃ ao cap, v = .slice ao l.length cap := by
    rcases h3.form with ⟨rfl, e⟩ | ⟨g, cap, rfl, _⟩
    · rw [e]; exact ⟨_, _, rfl⟩
    · exact ⟨_, _, rfl⟩
  have c1 : w.cell? ⟨b, 1, none⟩ = some (.slice ao l.length cap) := by simp [World.cell?, h1]
  clear h h1 h2 h3 h4
  go_enter Try.func45, Try.ntmps45
  go_wp2
  go_ret
  exact ⟨rfl, rfl⟩
set_option maxRecDepth 100000 in
set_option maxHeartbeats 4000000 in
/-- String: the bytes; the builder's own buffer is marked. -/
theorem string_bl (b : Nat) (l : List UInt8) (F : Nat → Prop) (w : World) (h : Bl b l F w) :
    Calls Try.prog 48 #[.pointer (some ⟨b, 0, none⟩)] w fun e w' => e = .returned (.string (ofL l)) ∧ Kept F w w' ∧ (∀ o, w'.cell? ⟨b, o, none⟩ = w.cell? ⟨b, o, none⟩) := by
  obtain ⟨p, v, h1, h2, h3, h4, rfl⟩ := h.ex
  have hmx : Try.prog.follows .mixedOrders = true := by kernel_rfl
  have kept_drew : Kept (fun k => k = b ∨ v.ownBlock = some k) w w.drew := Kept.of_below (Below.refl _ _).drew
  by_cases h0 : l = []
  · subst h0
    have hUS : ∀ (W : World) (q : Option Addr), (Builtin.unsafeString_ #[117, 3] 9 #[.pointer q, .int .i64 0]).run Try.prog W = .ok (.string .empty) W := fun W q => Lib.run_unsafeString_none W _ _ _ q
    rcases h3.form with ⟨rfl, _⟩ | ⟨g, cap, rfl, _, hgl, hnc, hcm⟩
    · have c1 : w.drew.cell? ⟨b, 1, none⟩ = some (.slice none 0 0) := by
        have : w.drew.heap[b]? = _ := h1
        rw [Lib.cell_of_heap this]; rfl
      have hSD : (Builtin.unsafeSliceData_ #[33] 117 #[.slice none 0 0]).run Try.prog w.drew = .ok (.pointer none) w.drew := rfl
      have HK := Lib.hid kept_drew
      clear h1 h2 h3 h4 kept_drew
      go_enter Try.func48, Try.ntmps48
      go_wp2
      go_region_o
      all_goals (go_wp2; go_ret; exact ⟨rfl, HK.out, fun _ => rfl⟩)
    · by_cases hc0 : cap = 0
      · subst hc0
        obtain ⟨cur, fr, hg⟩ : ∃ cur fr, w.heap[g]? = some (.cells cur 5 fr) := by
          rcases h3.2 with ⟨e0, _⟩ | ⟨g', cap', cur, fr, e1, _, hg, _⟩
          · cases e0
          · cases e1; exact ⟨cur, fr, hg⟩
        have hlt := (Array.getElem?_eq_some_iff.1 h1).1
        have c1 : w.drew.cell? ⟨b, 1, none⟩ = some (.slice (some ⟨g, 0, none⟩) 0 0) := by
          have : w.drew.heap[b]? = _ := h1
          rw [Lib.cell_of_heap this]; rfl
        have hSD : (Builtin.unsafeSliceData_ #[33] 117 #[.slice (some ⟨g, 0, none⟩) 0 0]).run Try.prog w.drew = .ok (.pointer (some ⟨w.drew.heap.size, 0, none⟩)) (w.drew.alloc (.view ⟨g, 0, none⟩ 5)) :=
          Lib.run_unsafeSliceData_zero w.drew _ _ 5 Try.underlying117 ⟨g, 0, none⟩ 0 (5, cur.size) (by have hg' : w.drew.heap[g]? = some (.cells cur 5 fr) := hg; simp [World.shape?, hg'])
        have c2 : (w.drew.alloc (.view ⟨g, 0, none⟩ 5)).cell? ⟨b, 1, none⟩ = some (.slice (some ⟨g, 0, none⟩) 0 0) := by
          have : (w.drew.alloc (.view ⟨g, 0, none⟩ 5)).heap[b]? = _ := (Lib.alloc_old w.drew _ b hlt).trans h1
          rw [Lib.cell_of_heap this]; rfl
        have c3 : (w.alloc (.view ⟨g, 0, none⟩ 5)).drew.cell? ⟨b, 1, none⟩ = some (.slice (some ⟨g, 0, none⟩) 0 0) := c2
        have c0 : w.cell? ⟨b, 1, none⟩ = some (.slice (some ⟨g, 0, none⟩) 0 0) := c1
        have HK := Lib.hid (kept_drew.alloc (.view ⟨g, 0, none⟩ 5))
        have HC : Hid (∀ o, (w.drew.alloc (.view ⟨g, 0, none⟩ 5)).cell? ⟨b, o, none⟩ = w.cell? ⟨b, o, none⟩) := Lib.hid fun o => World.cell?_of_block (a := ⟨b, o, none⟩) (Lib.alloc_old w.drew _ b hlt)
        clear h1 h2 h3 h4 kept_drew hg
        go_enter Try.func48, Try.ntmps48
        go_wp2
        go_region_o
        all_goals (go_wp2; go_ret; exact ⟨rfl, HK.out, HC.out⟩)
      · have c1 : w.drew.cell? ⟨b, 1, none⟩ = some (.slice (some ⟨g, 0, none⟩) 0 cap) := by
          have : w.drew.heap[b]? = _ := h1
          rw [Lib.cell_of_heap this]; rfl
        have hSD : (Builtin.unsafeSliceData_ #[33] 117 #[.slice (some ⟨g, 0, none⟩) 0 cap]).run Try.prog w.drew = .ok (.pointer (some ⟨g, 0, none⟩)) w.drew :=
          Lib.run_unsafeSliceData_row _ _ _ _ _ _ hc0
        have HK := Lib.hid kept_drew
        clear h1 h2 h3 h4 kept_drew hc0
        go_enter Try.func48, Try.ntmps48
        go_wp2
        go_region_o
        all_goals (go_wp2; go_ret; exact ⟨rfl, HK.out, fun _ => rfl⟩)
  · have hl0 : l.length ≠ 0 := by simpa using h0
    obtain ⟨g, cap, rfl, hgl, hnc, hcm, cur, fr, hg, hcz⟩ : ∃ g cap, v = .slice (some ⟨g, 0, none⟩) l.length cap ∧ g < w.heap.size ∧ l.length ≤ cap ∧ cap ≤ maxLen ∧ ∃ cur fr, w.heap[g]? = some (.cells cur 5 fr) ∧ cur.size = cap := by
      rcases h3.2 with ⟨_, e0⟩ | ⟨g', cap', cur, fr, e1, _, hg, _, h5, h6, h7, _⟩
      · exact absurd e0 hl0
      · exact ⟨g', cap', e1, (Array.getElem?_eq_some_iff.1 hg).1, h5, h6, cur, fr, hg, by simpa using h7⟩
    have c1 : w.drew.cell? ⟨b, 1, none⟩ = some (.slice (some ⟨g, 0, none⟩) l.length cap) := by
      have : w.drew.heap[b]? = _ := h1
      rw [Lib.cell_of_heap this]; rfl
    have hSD : (Builtin.unsafeSliceData_ #[33] 117 #[.slice (some ⟨g, 0, none⟩) l.length cap]).run Try.prog w.drew = .ok (.pointer (some ⟨g, 0, none⟩)) w.drew :=
      Lib.run_unsafeSliceData_row _ _ _ _ _ _ (by omega)
    have hUS : (Builtin.unsafeString_ #[117, 3] 9 #[.pointer (some ⟨g, 0, none⟩), .int .i64 l.length]).run Try.prog w.drew = .ok (.string (ofL l)) (w.drew.freeze ⟨g, 0, none⟩ l.length) := by
      refine Lib.run_unsafeString_row w.drew 117 3 9 5 Try.underlying117 (by kernel_rfl) g cur.size (by have hg' : w.drew.heap[g]? = some (.cells cur 5 fr) := hg; simp [World.shape?, hg']) l h0 (by omega) (by unfold maxLen at hcm; omega) ?_
      intro j x hx
      have hj := (List.getElem?_eq_some_iff.1 hx).1
      have := h3.cell (g := g) j (by omega)
      rw [Addr.add_lit]
      simp only [Nat.zero_add]
      show w.cell? _ = _
      rw [this]
      simp [hx, bval]
    have HK : Hid (Kept (fun k => k = b ∨ (Value.slice (some ⟨g, 0, none⟩) l.length cap).ownBlock = some k) w (w.drew.freeze ⟨g, 0, none⟩ l.length)) := Lib.hid (by
      have hf := Lib.below_freeze (B := g) (a := w.drew) (w := w.drew) (Below.refl _ _) (p := ⟨g, 0, none⟩) (Nat.le_refl _) l.length
      refine ⟨hf.os, hf.tape, hf.output, hf.size, fun k hk hn => ?_⟩
      have hkg : k ≠ g := fun e => hn (.inr (by rw [e]; rfl))
      unfold World.freeze
      rw [if_neg hl0]
      show (w.heap.modify g _)[k]? = _
      rw [Array.getElem?_modify, if_neg (Ne.symm hkg)])
    have HC : Hid (∀ o, (w.drew.freeze ⟨g, 0, none⟩ l.length).cell? ⟨b, o, none⟩ = w.cell? ⟨b, o, none⟩) := Lib.hid fun o => by
      refine World.cell?_of_block (a := ⟨b, o, none⟩) ?_
      have hbg : b ≠ g := fun e => h4 (by rw [e]; rfl)
      unfold World.freeze
      rw [if_neg hl0]
      show (w.heap.modify g _)[b]? = _
      rw [Array.getElem?_modify, if_neg (Ne.symm hbg)]
    clear h1 h2 h3 h4 kept_drew hg h0
    go_enter Try.func48, Try.ntmps48
    go_wp2
    go_region_o
    all_goals (go_wp2; go_ret; exact ⟨rfl, HK.out, HC.out⟩)
end Go.Proofs.Ytihglmicgccgiaa
