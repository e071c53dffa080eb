/-
  Rows as one (package merge): the walks of slices.Clone at rows, of All.
-/
import Derived.Test.YtehbikofoidjhaaAll2W
namespace Go.Proofs.Ytehbikofoidjhaa
open Go.RowKit


/-- All's function has these cells yet to tell -/
def AllSt (a : AV) (cs : List CellA) (F : Nat → Prop) (w : World) : Prop :=
  (∃ (ao : Option Addr) (n cap : Nat) (rs : List (Option RI)), New a ao n cap rs F w ∧ Tells none (rs.filterMap headP) cs) ∨
  (∃ (v : Value) (hs : List HI) (last : Option CellA), Beg a v hs last F w ∧ Tells last (hs.map HI.p) cs)
theorem step_nil (last : Option CellA) : stepP last [] = [] := by cases last <;> rfl
theorem BegNext.row {a : AV} {hs : List HI} {last : Option CellA} {F : Nat → Prop} {w w' : World} {e : Ending} {cs : List CellA} (h : BegNext a hs last F w e w') (ht : Tells last (hs.map HI.p) cs) :
    e = .returned (headV cs) ∧ ∃ F', AllSt a cs.tail F' w' ∧ (∀ b, F' b → F b ∨ w.heap.size ≤ b) ∧ Kept F w w' := by
  obtain ⟨h1, ⟨v', hs', F', h2, h3, h4⟩, h5⟩ := h
  generalize hs.map HI.p = l at *
  cases ht with
  | done h0 =>
    rw [h0] at h1 h2 h3
    exact ⟨h1, F', .inr ⟨v', hs', _, h3, by rw [h2]; exact .done (step_nil _)⟩, h4, h5⟩
  | @tell _ _ h tl cs h0 ht =>
    rw [h0] at h1 h2 h3
    exact ⟨h1, F', .inr ⟨v', hs', _, h3, by rw [h2]; exact ht⟩, h4, h5⟩
theorem all_row (a : AV) : RowOf 31 a.caps (AllSt a) := by
  refine ⟨⟨_, _, Try.func31, by kernel_rfl, rfl⟩, fun h hs hb => ?_, fun h => ?_, fun {cs F w} h => ?_⟩
  · rcases h with ⟨ao, n, cap, rs, h1, h2⟩ | ⟨v, l, last, h1, h2⟩
    · exact .inl ⟨ao, n, cap, rs, h1.keep hs hb, h2⟩
    · exact .inr ⟨v, l, last, h1.keep hs hb, h2⟩
  · rcases h with ⟨ao, n, cap, rs, h1, h2⟩ | ⟨v, l, last, h1, h2⟩
    · exact h1.inb
    · exact h1.inb
  · rcases h with ⟨ao, n, cap, rs, h1, h2⟩ | ⟨v, l, last, h1, h2⟩
    · refine (all1_first a ao n cap rs F w h1).mono ?_
      rintro e w' ⟨hs, hp, hn⟩
      exact hn.row (by rw [hp]; exact h2)
    · cases last with
      | none => exact (all1_untold a v l F w h1).mono fun e w' hn => hn.row h2
      | some c => exact (all1_told a v l c F w h1).mono fun e w' hn => hn.row h2

theorem Try.info_row : (Try.prog.info? 25).map (fun i => (i.zero, i.size, i.bytes)) = some (some .nilFunc, 1, 8) := by kernel_rfl

set_option maxHeartbeats 1000000 in
theorem clone_rows (ao : Option Addr) (n cap : Nat) (rs : List (Option RI)) (w : World) (h : Arr w 1 ao n cap (rs.map rowE)) (hle : n ≤ 1000000) :
    Calls Try.prog 30 #[.slice ao n cap] w fun e w' => ∃ v, e = .returned v ∧ Row w' w.heap.size 25 1 v n (rs.map rowE).flatten ∧ Below w.heap.size w w' := by
  have hl : rs.length = n := by have := h.len; rwa [List.length_map] at this
  have hcap := Arr.fits h
  have hmax := Arr.max h
  unfold maxLen at hmax
  obtain ⟨i0, hi, hz0, hz1, hz2⟩ := info_parts Try.info_row
  have H := Lib.hid h
  clear h
  cases ao with
  | none =>
    have h0 : n = 0 := by
      rcases Nat.eq_zero_or_pos n with h | h
      · exact h
      · obtain ⟨_, _, e, _⟩ := Arr.base H.out h; cases e
    subst h0
    obtain rfl := List.eq_nil_of_length_eq_zero hl
    have hnil := fun w => Lib.run_eql_slice_nil (P := Try.prog) w 27 25 none 0 cap 0 0 Try.underlying27
    go_enter Try.func30, Try.ntmps30
    go_wp2
    go_returns
    exact ⟨_, rfl, Row.nil _ _ _ _, Below.refl _ _⟩
  | some a =>
    have hnil := fun w => Lib.run_eql_slice_nil (P := Try.prog) w 27 25 (some a) n cap 0 0 Try.underlying27
    have hr0 : Row (w.alloc (.cells #[] 25)) w.heap.size 25 1 (.slice (some ⟨w.heap.size, 0, none⟩) 0 0) 0 [] :=
      ⟨rfl, .inr ⟨w.heap.size, 0, #[], (0, 0), rfl, Nat.le_refl _, heap_new _ _, .inl rfl, Nat.le_refl _, by unfold maxLen; omega, rfl, rfl⟩⟩
    have Hr0 := Lib.hid hr0
    clear hr0
    go_enter Try.func30, Try.ntmps30
    go_wp2_with (at_builtin; refine wpList_append_arr _ rfl _ _ 27 rfl w.heap.size 25 i0 _ 1 8 Try.underlying27 hi hz0 hz1 hz2 rfl (by decide) _ 0 [] rfl Hr0.out rfl (Arr.below H.out ((Below.refl _ _).alloc (Nat.le_refl _) _)) (by omega) (by unfold maxLen; omega) (by go_size) ?_; intro v1 w1 hr1 hb1 hg1)
    go_returns
    refine ⟨_, rfl, by simpa using hr1, ?_⟩
    exact ((Below.refl _ _).alloc (Nat.le_refl _) _).trans hb1

/-- rows, apart from one another -/
structure RowsAt (rs : List (Option RI)) (w : World) : Prop where
  st : ∀ (i : Nat) (r : RI), rs[i]? = some (some r) → r.St r.cs r.F w
  apart : ∀ (i j : Nat) (r q : RI), i ≠ j → rs[i]? = some (some r) → rs[j]? = some (some q) → ∀ k, r.F k → ¬ q.F k
theorem RowsAt.inb {rs : List (Option RI)} {w : World} (h : RowsAt rs w) : ∀ k, RowsF rs k → k < w.heap.size := fun k ⟨i, r, hr, hk⟩ => r.ok.inb (h.st i r hr) k hk

theorem cell_of_obj {w : World} {k o : Nat} {vs : Array Value} {T : TypeId} {v : Value} (h : w.heap[k]? = some (.cells vs T)) (hv : vs[o]? = some v) : w.cell? ⟨k, o, none⟩ = some v := by
  unfold World.cell?
  simp [h, hv]
theorem free_of_obj {w : World} {k : Nat} {vs : Array Value} {T : TypeId} (h : w.heap[k]? = some (.cells vs T)) (o : Nat) : w.frozen? ⟨k, o, none⟩ = false := by
  unfold World.frozen?
  simp [h]
theorem alloc_new (w : World) (o : Obj) {k : Nat} (h : w.heap.size = k) : (w.alloc o).heap[k]? = some o := by subst h; exact heap_new w o
/-- the state that All lays -/
theorem new_W {rs : List (Option RI)} {w w1 : World} {ao : Option Addr} {n cap z : Nat} {u : Value} {T1 T2 T3 T4 : TypeId} {xs : List Value} (hz : w.heap.size = z) (hR : RowsAt rs w) (hB : Below w.heap.size w w1) (hr : Row w1 (z + 1) T1 1 (.slice ao n cap) n xs)
    (hA : Arr w1 1 ao n cap (rs.map rowE)) (c0 : w1.cell? ⟨z, 0, none⟩ = some u) (f0 : ∀ o, w1.frozen? ⟨z, o, none⟩ = false) (hn : n ≤ 1000000) :
    New ⟨w1.heap.size + 2, z, w1.heap.size, w1.heap.size + 3, w1.heap.size + 1⟩ ao n cap rs (fun k => RowsF rs k ∨ (w.heap.size ≤ k ∧ k < w1.heap.size + 4))
      (((((w1.setCell ⟨z, 0, none⟩ (.slice ao n cap)).alloc (.cells #[.slice none 0 0] T2)).alloc (.cells #[.string ⟨#[]⟩, .string ⟨#[]⟩, .int .u64 0, .bool false, .string ⟨#[]⟩] T3)).alloc (.cells #[.bool false] T4)).alloc (.cells #[.bool false] T4)) := by
  have hzl : z < w1.heap.size := World.block_lt_of_cell? _ _ c0
  obtain ⟨V, hV⟩ : ∃ V, V = w1.setCell ⟨z, 0, none⟩ (.slice ao n cap) := ⟨_, rfl⟩
  have hVs : V.heap.size = w1.heap.size := by rw [hV, World.size_setCell]
  have hVz : V.cell? ⟨z, 0, none⟩ = some (.slice ao n cap) := by rw [hV]; exact World.cell?_setCell_same _ _ _ c0
  have hVf : ∀ o, V.frozen? ⟨z, o, none⟩ = false := fun o => by rw [hV, World.frozen?_setCell]; exact f0 o
  have hVo : ∀ k, k ≠ z → V.heap[k]? = w1.heap[k]? := fun k hk => by rw [hV]; exact Below.heap_setCell _ _ _ _ hk
  rw [← hV]
  obtain ⟨s, hs⟩ : ∃ s, s = w1.heap.size := ⟨_, rfl⟩
  rw [← hs] at hVs hzl ⊢
  obtain ⟨W1, hW1⟩ : ∃ W, W = V.alloc (.cells #[.slice none 0 0] T2) := ⟨_, rfl⟩
  have z1 : W1.heap.size = s + 1 := by rw [hW1, World.size_alloc, hVs]
  have o1 : ∀ k, k < s → W1.heap[k]? = V.heap[k]? := fun k hk => by rw [hW1]; exact Below.heap_alloc _ _ _ (by omega)
  have x1 : W1.heap[s]? = some (.cells #[.slice none 0 0] T2) := by rw [hW1]; exact alloc_new _ _ hVs
  rw [← hW1]
  obtain ⟨W2, hW2⟩ : ∃ W, W = W1.alloc (.cells #[.string ⟨#[]⟩, .string ⟨#[]⟩, .int .u64 0, .bool false, .string ⟨#[]⟩] T3) := ⟨_, rfl⟩
  have z2 : W2.heap.size = s + 2 := by rw [hW2, World.size_alloc, z1]
  have o2 : ∀ k, k < s + 1 → W2.heap[k]? = W1.heap[k]? := fun k hk => by rw [hW2]; exact Below.heap_alloc _ _ _ (by omega)
  have x2 : W2.heap[s + 1]? = some (.cells #[.string ⟨#[]⟩, .string ⟨#[]⟩, .int .u64 0, .bool false, .string ⟨#[]⟩] T3) := by rw [hW2]; exact alloc_new _ _ z1
  rw [← hW2]
  obtain ⟨W3, hW3⟩ : ∃ W, W = W2.alloc (.cells #[.bool false] T4) := ⟨_, rfl⟩
  have z3 : W3.heap.size = s + 3 := by rw [hW3, World.size_alloc, z2]
  have o3 : ∀ k, k < s + 2 → W3.heap[k]? = W2.heap[k]? := fun k hk => by rw [hW3]; exact Below.heap_alloc _ _ _ (by omega)
  have x3 : W3.heap[s + 2]? = some (.cells #[.bool false] T4) := by rw [hW3]; exact alloc_new _ _ z2
  rw [← hW3]
  obtain ⟨W4, hW4⟩ : ∃ W, W = W3.alloc (.cells #[.bool false] T4) := ⟨_, rfl⟩
  have z4 : W4.heap.size = s + 4 := by rw [hW4, World.size_alloc, z3]
  have o4 : ∀ k, k < s + 3 → W4.heap[k]? = W3.heap[k]? := fun k hk => by rw [hW4]; exact Below.heap_alloc _ _ _ (by omega)
  have x4 : W4.heap[s + 3]? = some (.cells #[.bool false] T4) := by rw [hW4]; exact alloc_new _ _ z3
  rw [← hW4]
  have hold : ∀ k, k < s → W4.heap[k]? = V.heap[k]? := fun k hk => (o4 k (by omega)).trans ((o3 k (by omega)).trans ((o2 k (by omega)).trans (o1 k hk)))
  have y1 : W4.heap[s]? = _ := (o4 s (by omega)).trans ((o3 s (by omega)).trans ((o2 s (by omega)).trans x1))
  have y2 : W4.heap[s + 1]? = _ := (o4 (s + 1) (by omega)).trans ((o3 (s + 1) (by omega)).trans x2)
  have y3 : W4.heap[s + 2]? = _ := (o4 (s + 2) (by omega)).trans x3
  have hrF : ∀ k, RowsF rs k → k < z := fun k hk => by have := hR.inb k hk; omega
  have hsz := hB.size
  have hg : ∀ p, ao = some p → z + 1 ≤ p.block ∧ p.block < s := fun p hp => by
    rcases Row.form hr with ⟨e, _⟩ | ⟨g, cap', e, h1, h2, _⟩
    · cases e; cases hp
    · cases e; cases hp; exact ⟨h1, by show g < s; omega⟩
  clear hW1 hW2 hW3 hW4 hV
  refine ⟨⟨?_, ?_, ?_, ?_, ?_, ?_, ?_, ?_, ?_, ?_⟩, cell_of_obj y3 rfl, (World.cell?_of_block (a := ⟨z, 0, none⟩) (hold z hzl)).trans hVz, cell_of_obj y1 rfl, cell_of_obj x4 rfl, ⟨fun c h => (by cases h), fun o ho => ?_⟩, fun k o hk => ?_, ?_, ⟨fun i r hr => ?_, hR.apart, fun i r hr k hk hi => ?_⟩, hn, fun p hp => ?_, fun k hk => ?_, fun k hk => .inl hk, fun k hk => ?_⟩
  iterate 10 (simp only [ne_eq]; omega)
  · match o, ho with
    | 0, _ => exact ⟨_, cell_of_obj y2 rfl⟩
    | 1, _ => exact ⟨_, cell_of_obj y2 rfl⟩
    | 2, _ => exact ⟨_, cell_of_obj y2 rfl⟩
    | 3, _ => exact ⟨_, cell_of_obj y2 rfl⟩
    | 4, _ => exact ⟨_, cell_of_obj y2 rfl⟩
  · rcases hk with e | e | e | e | e <;> simp only at e <;> subst e
    · exact free_of_obj y3 o
    · exact (World.frozen?_of_block (a := ⟨k, o, none⟩) (hold k hzl)).trans (hVf o)
    · exact free_of_obj y1 o
    · exact free_of_obj x4 o
    · exact free_of_obj y2 o
  · exact arr_keep hA (by omega) (fun p hp => (hold _ (hg p hp).2).trans (hVo _ (by have := (hg p hp).1; omega)))
  · have h0 := hR.st i r hr
    exact r.ok.keep h0 (by omega) (fun k hk => by
      have := hrF k ⟨i, r, hr, hk⟩
      rw [hold k (by omega), hVo k (by omega)]
      exact hB.block k (by omega))
  · have := hrF k ⟨i, r, hr, hk⟩
    rcases hi with e | e | e | e | e <;> simp only at e <;> omega
  · obtain ⟨h1, h2⟩ := hg p hp
    refine ⟨.inr ⟨by omega, by omega⟩, fun hi => ?_, fun hf => ?_⟩
    · rcases hi with e | e | e | e | e <;> simp only at e <;> omega
    · have := hrF _ hf; omega
  · rcases hk with e | e | e | e | e <;> simp only at e <;> exact .inr ⟨by omega, by omega⟩
  · rcases hk with hk | hk
    · have := hrF k hk; omega
    · omega

set_option maxRecDepth 100000 in
set_option maxHeartbeats 2000000 in
theorem all_any (ao : Option Addr) (n cap : Nat) (rs : List (Option RI)) (cs : List CellA) (w : World) (h : Arr w 1 ao n cap (rs.map rowE)) (hR : RowsAt rs w) (hn : n ≤ 1000000) (ht : Tells none (rs.filterMap headP) cs) :
    Calls Try.prog 11 #[.slice ao n cap] w fun e w' => ∃ (a : AV) (F : Nat → Prop), e = .returned (.func (.func 31) #[] a.caps) ∧ AllSt a cs F w' ∧ (∀ k, F k → RowsF rs k ∨ w.heap.size ≤ k) ∧ Below w.heap.size w w' := by
  have HK := Lib.hid fun W (hb : Below w.heap.size w W) => clone_rows ao n cap rs W (Arr.below h hb) hn
  have HR := Lib.hid hR
  have hl : rs.length = n := by have := h.len; rwa [List.length_map] at this
  have Hl := Lib.hid hl
  clear h hR hl
  go_enter Try.func11, Try.ntmps11
  go_wp2_with (go_at_call 30; refine (HK.out _ (by go_grown)).mono ?_; rintro e w1 ⟨v, rfl, hr, hb⟩; rw [World.size_alloc] at hr; have HR1 := Lib.hid hr; obtain ⟨ao1, cap1, rfl, hc1⟩ := Row.arr (es := rs.map rowE) (by decide) (by rw [List.length_map, Hl.out]; exact hr) (rowE_elems rs); rw [List.length_map, Hl.out]; rw [List.length_map, Hl.out] at hc1 HR1; have HC := Lib.hid hc1; obtain ⟨hB, hS, hk⟩ := after (B := w.heap.size) (w := w) (by go_grown) (by go_size) hb; obtain ⟨c0, f0, z0⟩ := hk w.heap.size (by go_size); have zl := (hk w.heap.size (by go_size)).2.2; clear hr hc1 hk hb)
  go_returns
  have hN := new_W (T2 := 50) (T3 := 37) (T4 := 4) rfl HR.out hB HR1.out HC.out (u := .slice ao n cap) (by rw [c0]; go_simp) (fun o => by rw [f0]; go_simp) hn
  refine ⟨_, _, rfl, .inl ⟨_, _, _, _, hN, ht⟩, fun k hk => ?_, by go_grown⟩
  rcases hk with h | h
  · exact .inl h
  · exact .inr h.1
end Go.Proofs.Ytehbikofoidjhaa
