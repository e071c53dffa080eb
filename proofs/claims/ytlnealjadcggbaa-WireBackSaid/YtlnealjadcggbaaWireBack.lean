/-
  PROVED HERE: acreagelaw01.WireBack returns true at every list of things and all bytes behind, and leaves what was there as it was. No conditions.
-/
import Derived.Test.YtlnealjadcggbaaWireBackW
import Derived.Test.YtlnealjadcggbaaOpenSlice
namespace Go.Proofs.Ytlnealjadcggbaa
open Go.ChangeShapes Go.WideShapes Go.ChangeAt Go.RowKit Go.Joins
open Go.ChangeMaps (open_string)

set_option maxRecDepth 100000 in
set_option maxHeartbeats 2000000 in
theorem back_none (ao : Option Addr) (cap : Nat) (behind : ByteArray) (w : World) (hmax : cap ≤ maxLen) (hb : behind.size ≤ maxLen) :
    Calls Try.prog 3 #[.slice ao 0 cap, .string behind] w fun e w' => e = .returned (.bool true) ∧ Below w.heap.size w w' := by
  obtain ⟨m, hm⟩ : ∃ m : Nat, (if (1000 : Int) < (behind.size : Int) then (1000 : Int) else behind.size) = m := ⟨min 1000 behind.size, by split <;> omega⟩
  have hm1 : m ≤ 1000 := by split at hm <;> omega
  have hm2 : m ≤ behind.size := by split at hm <;> omega
  unfold maxLen at hmax hb
  have hbl : (behind.extract 0 m).size = m := by rw [ByteArray.size_extract]; omega
  have hbsz : (behind.extract 0 m).size ≤ 1000 := by omega
  go_enter Try.func3, Try.ntmps3
  go_wp2
  have hem : ((⟨#[]⟩ : ByteArray) ++ behind.extract 0 m) = behind.extract 0 m := by rw [append_ofL, Lib.toList_data]; exact (ofL_eq _).symm
  have Hbl := Lib.hid hbl
  clear hbl
  generalize behind.extract 0 m = bh at *
  have hof := ofL_toList bh.toList
  have hbm : bh.size ≤ maxLen := by unfold maxLen; omega
  have hnil := Lib.hid (List.append_nil bh.toList)
  refine wp_loop_rounds 1 ?_
  rw [rounds_succ]
  go_wp2_with (first | (go_at_call 9; refine (new_any _ _).mono ?_; rintro e w3 ⟨rfl, rfl⟩) | (go_at_call 12; refine (rtake_n bh _ bh.toList [] _ _ (by rw [size_list]) hbm hnil.out.symm (by go_simp) (by go_simp)).mono ?_; rintro e w4 ⟨rfl, s3, hs3, rfl⟩; have hs40 : ((s3.size : Int) == 0) = true := (by rw [size_eq hs3]; rfl); clear hs3) | (go_at_call 13; refine (left_any s3 _ _ (by go_simp)).mono ?_; rintro e w' ⟨rfl, rfl⟩) | (go_at_call 14; refine (works_any _).mono ?_; rintro e w5 ⟨rfl, hb⟩; obtain ⟨hB, hS, hk⟩ := after (B := w.heap.size) (w := w) (by go_grown) (by go_size) hb; clear hb; clear hk))
  refine wp_loop_rounds 1 ?_
  rw [rounds_succ]
  go_wp2_with (first | (go_at_call 9; refine (new_any _ _).mono ?_; rintro e w3 ⟨rfl, rfl⟩) | (go_at_call 12; refine (rtake_n bh _ bh.toList [] _ _ (by rw [size_list]) hbm hnil.out.symm (by go_simp) (by go_simp)).mono ?_; rintro e w4 ⟨rfl, s3, hs3, rfl⟩; have hs40 : ((s3.size : Int) == 0) = true := (by rw [size_eq hs3]; rfl); clear hs3) | (go_at_call 13; refine (left_any s3 _ _ (by go_simp)).mono ?_; rintro e w' ⟨rfl, rfl⟩) | (go_at_call 14; refine (works_any _).mono ?_; rintro e w5 ⟨rfl, hb⟩; obtain ⟨hB, hS, hk⟩ := after (B := w.heap.size) (w := w) (by go_grown) (by go_size) hb; clear hb; clear hk))
  go_returns
  exact ⟨rfl, by go_grown⟩

theorem cells_thing : Try.prog.cellsOf 25 = 3 := by kernel_rfl

theorem wireBack_walk (H : Type) (enc : TypeId × Value → H) : LawWalk H enc 3 [22, 9] := by
  intro W base args ds p hval hA _ _
  obtain ⟨v0, v1, d0, d1, p0, p1, rfl, rfl, rfl, h0, h1⟩ := trodAll_two hA
  obtain ⟨behind, rfl, _, _, hb⟩ := open_string Try.underlying9 (hval 1 _ _ rfl rfl) h1
  rcases open_slice_structs Try.underlying22 Try.underlying25 (by kernel_rfl) cells_thing (by decide) (hval 0 _ _ rfl rfl) h0 with ⟨ao, cap, rfl, hm⟩ | ⟨b, off, len, cap, rfl, h2, h3, h4, hc⟩
  · exact back_none ao cap behind W hm hb
  · obtain ⟨things, hl, hp⟩ := list_of (fun i (x : ThingA) => x.Ok ∧ W.cell? ⟨b, off + i * 3, none⟩ = some (.bool x.text) ∧ W.cell? ⟨b, off + i * 3 + 1, none⟩ = some (.int .u64 x.num) ∧ W.cell? ⟨b, off + i * 3 + 2, none⟩ = some (.string x.str)) len (by
      intro i hi
      obtain ⟨n0, y0, u0, c0, t0⟩ := hc i hi 0 _ rfl
      obtain ⟨n1, y1, u1, c1, t1⟩ := hc i hi 1 _ rfl
      obtain ⟨n2, y2, u2, c2, t2⟩ := hc i hi 2 _ rfl
      obtain ⟨a, q0, _⟩ := DataW.trod_bool Try.underlying4 t0
      obtain ⟨n, q1, _, wn⟩ := DataW.trod_int Try.underlying23 t1
      obtain ⟨s, q2, _, ws⟩ := DataW.trod_string Try.underlying9 t2
      simp only [List.cons.injEq, and_true] at q0 q1 q2
      subst q0 q1 q2
      have hb : 0 ≤ n ∧ n ≤ 18446744073709551615 := by
        simpa [Lit.wf, IntKind.min, IntKind.max, IntKind.signed, IntKind.bits] using wn
      obtain ⟨k, rfl⟩ := Int.eq_ofNat_of_zero_le hb.1
      exact ⟨⟨a, k, s⟩, ⟨hb, ws⟩, c0, c1, c2⟩)
    have hget : ∀ x ∈ things, ∃ i, things[i]? = some x := fun x hx => by
      obtain ⟨i, hi⟩ := List.mem_iff_getElem?.1 hx
      exact ⟨i, hi⟩
    have h0c : ∃ x, things[0]? = some x := ⟨_, List.getElem?_eq_getElem (by omega)⟩
    obtain ⟨x0, hx0⟩ := h0c
    exact back_some things b off len cap behind W (fun x hx => by obtain ⟨i, hi⟩ := hget x hx; exact (hp i x hi).1) hl h3 h4 hb
      ⟨World.block_lt_of_cell? _ _ (hp 0 x0 hx0).2.1, fun i x hx => (hp i x hx).2.1, fun i x hx => (hp i x hx).2.2.1, fun i x hx => (hp i x hx).2.2.2⟩

set_option maxRecDepth 100000 in
theorem wireBack_lifted (os : Os) (started : os.Started) (H : Type) (enc : TypeId × Value → H) :
    ReturnsInHanded {} Try.checked os 3 .any (Rows.wireBackSpec.pre6 enc Try.prog Try.f3 Rows.wireBackRow.domain false) (Rows.wireBackSpec.post enc Try.prog Try.f3 false true false false) :=
  lift_law (s := Rows.wireBackSpec) started _ Try.func3 (by kernel_rfl) rfl rfl Try.underlying4 rfl
    (fun ds h => match ds, h with | [_, _], _ => ⟨rfl, rfl, rfl⟩) (by kernel_rfl)
    (ChangeSpec.witness6 (enc := enc) (C := Try.checked) false ⟨#[], #[.slice none 0 0, .string ⟨#[]⟩], []⟩ 8 (by kernel_rfl) (by kernel_rfl) (by kernel_rfl) (by kernel_rfl))
    (wireBack_walk H enc)

set_option maxRecDepth 100000 in
theorem wireBack_holds : Rows.WireBackSaid :=
  OpenClaim.holds_of_wide 3 Try.f3 rfl rfl rfl rfl rfl rfl rfl ⟨rfl, rfl, rfl, rfl, rfl⟩ rfl rfl rfl rfl rfl (by kernel_rfl) Try.func3 (by kernel_rfl)
    (of_decide_eq_true (by kernel_rfl)) (by unfold Func.isWrapper; rw [if_neg (of_decide_eq_false (by kernel_rfl))]; exact ⟨rfl, rfl⟩)
    (fun os started H enc _ => wireBack_lifted os started H enc)

#print axioms wireBack_holds

end Go.Proofs.Ytlnealjadcggbaa
