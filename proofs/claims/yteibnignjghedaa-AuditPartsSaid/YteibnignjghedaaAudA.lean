/-
  Faults told: the walk of audit.Check$1.
-/
import Derived.Test.YteibnignjghedaaAudZ
namespace Go.Proofs.Yteibnignjghedaa
open Go.RowKit Go.Sort

def faultE (f : Int × Int) : List Value := [.int .i64 f.1, .int .i64 f.2]
theorem fault_elems (fs : List (Int × Int)) : Elems 2 (fs.map faultE) := fun l hl => by
  obtain ⟨e, _, rfl⟩ := List.mem_map.1 hl
  exact ⟨rfl, fun u hu => by simp [faultE] at hu; rcases hu with rfl | rfl <;> rfl⟩
/-- the faults so far, in a row of their own that the cell o holds -/
structure OutAt (w : World) (B o : Nat) (v : Value) (fs : List (Int × Int)) : Prop where
  c0 : w.cell? ⟨o, 0, none⟩ = some v
  f0 : w.frozen? ⟨o, 0, none⟩ = false
  row : Row w B 65 2 v fs.length (fs.map faultE).flatten
  ap : v.ownBlock ≠ some o
theorem OutAt.below {w w' : World} {B o : Nat} {v : Value} {fs : List (Int × Int)} (h : OutAt w B o v fs) (hb : Below w.heap.size w w') : OutAt w' B o v fs :=
  ⟨(hb.cell (p := ⟨o, 0, none⟩) (World.block_lt_of_cell? _ _ h.c0)).trans h.c0, (hb.frozen (p := ⟨o, 0, none⟩) (World.block_lt_of_cell? _ _ h.c0)).trans h.f0, h.row.below hb, h.ap⟩
theorem fault_one (w : World) (T : TypeId) (f : Int × Int) (g : Nat) (hg : w.heap.size = g) : Arr (w.alloc (.cells #[.int .i64 f.1, .int .i64 f.2] T)) 2 (some ⟨g, 0, none⟩) 1 1 ([f].map faultE) := by
  subst hg
  refine ⟨fault_elems _, rfl, Nat.le_refl _, by unfold maxLen; omega, fun _ => ⟨w.heap.size, 0, rfl, by rw [World.size_alloc]; omega, fun i e he j u hu => ?_⟩⟩
  have hi : i = 0 := by
    have := (List.getElem?_eq_some_iff.1 he).1
    simp at this; exact this
  subst hi
  simp only [List.map_cons, List.map_nil, List.getElem?_cons_zero, Option.some.injEq] at he
  subst he
  simp only [Nat.zero_mul, Nat.zero_add]
  rw [World.cell?_alloc_new]
  simpa [faultE] using hu
theorem Try.info_fault : (Try.prog.info? 65).map (fun i => (i.zero, i.size, i.bytes)) = some (some (.agg #[.int .i64 0, .int .i64 0]), 2, 16) := by kernel_rfl

/-- all but the cell o and the row v is as it was -/
structure Wrote (w w' : World) (o : Nat) (v : Value) : Prop where
  os : w'.os = w.os
  tape : w'.tape = w.tape
  output : w'.output = w.output
  size : w.heap.size ≤ w'.heap.size
  block : ∀ k, k < w.heap.size → k ≠ o → v.ownBlock ≠ some k → w'.heap[k]? = w.heap[k]?
def addF (is : Bool) (fs : List (Int × Int)) (f : Int × Int) : List (Int × Int) := match is with | true => fs ++ [f] | false => fs

set_option maxRecDepth 100000 in
set_option maxHeartbeats 1000000 in
theorem wrong_any (B o : Nat) (is : Bool) (code at_ : Int) (v : Value) (fs : List (Int × Int)) (w : World) (h : OutAt w B o v fs) (hB : B ≤ w.heap.size) (hle : fs.length ≤ 1000000) :
    Calls Try.prog 18 #[.bool is, .int .i64 code, .int .i64 at_, .pointer (some ⟨o, 0, none⟩)] w fun e w' => e = .returned (.tuple #[]) ∧ ∃ v', OutAt w' B o v' (addF is fs (code, at_)) ∧ Wrote w w' o v ∧ (v'.ownBlock = v.ownBlock ∨ ∃ q, v'.ownBlock = some q ∧ w.heap.size ≤ q) := by
  cases is
  · go_enter Try.func18, Try.ntmps18
    go_wp2
    go_returns
    exact ⟨rfl, v, h, ⟨rfl, rfl, rfl, Nat.le_refl _, fun _ _ _ _ => rfl⟩, .inl rfl⟩
  · obtain ⟨i0, hi, iz0, iz1, iz2⟩ := info_parts Try.info_fault
    have Hi := Lib.hid hi
    have H := Lib.hid h
    have c0 := h.c0
    have f0 := h.f0
    have hol := World.block_lt_of_cell? _ _ h.c0
    simp only at hol
    clear hi h
    go_enter Try.func18, Try.ntmps18
    go_wp2_with (at_builtin; go_loud (refine wpList_append_at _ rfl _ _ 24 rfl B 65 i0 _ 2 16 Try.underlying24 Hi.out iz0 iz1 iz2 rfl (by decide) v _ _ rfl (Row.alloc H.out.row _) rfl (fault_one w _ (code, at_) _ rfl) (by omega) (by unfold maxLen; omega) (by rw [World.size_alloc]; omega) ?_; intro v7 w7 hr7 hg7 ho7; obtain ⟨a7, k7, rfl⟩ := row_slice hr7; have HR7 := Lib.hid hr7; have HG7 := Lib.hid hg7; have HO7 := Lib.hid ho7; have hb7 := hg7.block o (by rw [World.size_alloc]; omega) (fun e => H.out.ap e.symm); have c7 := World.cell?_of_block (a := ⟨o, 0, none⟩) hb7; have f7 := World.frozen?_of_block (a := ⟨o, 0, none⟩) hb7; rw [World.cell?_alloc_lt _ _ _ hol] at c7; rw [World.frozen?_alloc_past _ _ _ hol] at f7; have c8 := c7.trans c0; have f8 := f7.trans f0; clear hr7 hg7 ho7 hb7 c7 f7))
    go_returns
    have hno : (Value.slice a7 (fs.length + 1) k7).ownBlock ≠ some o := by
      intro e2
      rcases HO7.out with e | e
      · exact H.out.ap (e ▸ e2)
      · rw [e, World.size_alloc] at e2
        have := Option.some.inj e2
        omega
    refine ⟨rfl, .slice a7 (fs.length + 1) k7, ⟨World.cell?_setCell_same _ _ _ c8, by rw [World.frozen?_setCell]; exact f8, ?_, ?_⟩, ⟨?_, ?_, ?_, ?_, fun k h1 h2 h3 => ?_⟩, ?_⟩
    · have := HR7.out.setCell (a := ⟨o, 0, none⟩) (fun q hq e => hno (by rw [hq]; exact congrArg some e)) (.slice a7 (fs.length + 1) k7)
      rw [addF, List.length_append, List.map_append, List.flatten_append]
      exact this
    · exact hno
    · exact HG7.out.os
    · exact HG7.out.tape
    · exact HG7.out.output
    · have := HG7.out.size
      rw [World.size_alloc] at this
      rw [World.size_setCell]
      omega
    · refine (Below.heap_setCell _ _ _ _ h2).trans ((HG7.out.block k (by rw [World.size_alloc]; omega) (fun e => h3 e.symm)).trans ?_)
      exact ((Below.refl w.heap.size w).alloc (Nat.le_refl _) _).block k h1
    · rcases HO7.out with e | e
      · exact .inl e
      · exact .inr ⟨_, e, by rw [World.size_alloc]; omega⟩
end Go.Proofs.Yteibnignjghedaa
