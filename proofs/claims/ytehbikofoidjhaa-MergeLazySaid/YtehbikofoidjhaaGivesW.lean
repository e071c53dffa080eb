/-
  Rows of cells as functions (package merge): what Of, All, Newest, Alive give; List.
-/
import Derived.Test.YtehbikofoidjhaaKeepW
namespace Go.Proofs.Ytehbikofoidjhaa
open Go.RowKit

/-- a row is given: it has these cells to tell; its own blocks are among F0's or new -/
def Gives (cs : List CellA) (F0 : Nat → Prop) (w : World) (e : Ending) (w' : World) : Prop :=
  ∃ q : RI, e = .returned (.func (.func q.f) #[] q.caps) ∧ q.cs = cs ∧ q.St q.cs q.F w' ∧ (∀ k, q.F k → F0 k ∨ w.heap.size ≤ k) ∧ Below w.heap.size w w'
/-- a row is there -/
def RI.Here (q : RI) (w : World) : Prop := q.St q.cs q.F w
theorem RI.Here.keep {q : RI} {w w' : World} (h : q.Here w) (hs : w.heap.size ≤ w'.heap.size) (hb : ∀ k, q.F k → w'.heap[k]? = w.heap[k]?) : q.Here w' := q.ok.keep h hs hb
theorem RI.Here.below {q : RI} {w w' : World} (h : q.Here w) (hb : Below w.heap.size w w') : q.Here w' := q.ok.keep h hb.size (fun k hk => hb.block k (q.ok.inb h k hk))
theorem RI.Here.lt {q : RI} {w : World} (h : q.Here w) : ∀ k, q.F k → k < w.heap.size := q.ok.inb h

theorem of_gives (ao : Option Addr) (n cap : Nat) (cs : List CellA) (w : World) (h : Cells w ao n cap cs) (hn : n * 64 ≤ 140737488355328) :
    Calls Try.prog 16 #[.slice ao n cap] w fun e w' => Gives cs (fun _ => False) w e w' := by
  refine (of_any ao n cap cs w h hn).mono ?_
  rintro e w' ⟨rfl, ⟨F, h1, h2⟩, hb⟩
  exact ⟨⟨_, _, _, of_row w.heap.size, cs, F⟩, rfl, rfl, h1, fun k hk => .inr (h2 k hk), hb⟩
theorem all_gives (ao : Option Addr) (n cap : Nat) (rs : List (Option RI)) (cs : List CellA) (w : World) (h : Arr w 1 ao n cap (rs.map rowE)) (hR : RowsAt rs w) (hn : n ≤ 1000000) (ht : Tells none (rs.filterMap headP) cs) :
    Calls Try.prog 11 #[.slice ao n cap] w fun e w' => Gives cs (RowsF rs) w e w' := by
  refine (all_any ao n cap rs cs w h hR hn ht).mono ?_
  rintro e w' ⟨a, F, rfl, h1, h2, hb⟩
  exact ⟨⟨_, _, _, all_row a, cs, F⟩, rfl, rfl, h1, h2, hb⟩

/-- merge.none is a row -/
theorem none_row : RowOf 36 #[] (fun cs F w => cs = [] ∧ ∀ k, F k → k < w.heap.size) := by
  refine ⟨⟨_, _, Try.func36, by kernel_rfl, rfl⟩, fun h hs hb => ⟨h.1, fun k hk => Nat.lt_of_lt_of_le (h.2 k hk) hs⟩, fun h => h.2, fun {cs F w} h => ?_⟩
  obtain ⟨rfl, h2⟩ := h
  refine (none_any w).mono ?_
  rintro e w' ⟨rfl, hb⟩
  exact ⟨rfl, F, ⟨rfl, fun k hk => Nat.lt_of_lt_of_le (h2 k hk) hb.size⟩, fun k hk => .inl hk, Kept.of_below hb⟩

/-- the state that keep lays -/
theorem keep_W {f : FuncId} {caps : Array Value} {St : List CellA → (Nat → Prop) → World → Prop} (hR : RowOf f caps St) {T : FuncId} {t : CellA → Bool} {cs : List CellA} {F : Nat → Prop} {w : World} (hS : St cs F w) {T1 T2 T3 T4 : TypeId} :
    KeepSt ⟨w.heap.size, w.heap.size + 3, w.heap.size + 2, w.heap.size + 1⟩ f caps St T t (keepL t none cs) (fun k => F k ∨ (w.heap.size ≤ k ∧ k < w.heap.size + 4))
      ((((w.alloc (.cells #[.func (.func f) #[] caps] T1)).alloc (.cells #[.func (.func T) #[] #[]] T2)).alloc (.cells #[.string ⟨#[]⟩, .string ⟨#[]⟩, .int .u64 0, .bool false, .string ⟨#[]⟩] T3)).alloc (.cells #[.bool true] T4)) := by
  have hF := hR.inb hS
  obtain ⟨s, hs⟩ : ∃ s, w.heap.size = s := ⟨_, rfl⟩
  rw [hs] at hF ⊢
  obtain ⟨W1, hW1⟩ : ∃ W, W = w.alloc (.cells #[.func (.func f) #[] caps] T1) := ⟨_, rfl⟩
  have z1 : W1.heap.size = s + 1 := by rw [hW1, World.size_alloc, hs]
  have o1 : ∀ k, k < s → W1.heap[k]? = w.heap[k]? := fun k hk => by rw [hW1]; exact Below.heap_alloc _ _ _ (by omega)
  have x1 : W1.heap[s]? = some (.cells #[.func (.func f) #[] caps] T1) := by rw [hW1]; exact alloc_new _ _ hs
  rw [← hW1]
  obtain ⟨W2, hW2⟩ : ∃ W, W = W1.alloc (.cells #[.func (.func T) #[] #[]] T2) := ⟨_, rfl⟩
  have z2 : W2.heap.size = s + 2 := by rw [hW2, World.size_alloc, z1]
  have o2 : ∀ k, k < s + 1 → W2.heap[k]? = W1.heap[k]? := fun k hk => by rw [hW2]; exact Below.heap_alloc _ _ _ (by omega)
  have x2 : W2.heap[s + 1]? = some (.cells #[.func (.func T) #[] #[]] T2) := by rw [hW2]; exact alloc_new _ _ z1
  rw [← hW2]
  obtain ⟨W3, hW3⟩ : ∃ W, W = W2.alloc (.cells #[.string ⟨#[]⟩, .string ⟨#[]⟩, .int .u64 0, .bool false, .string ⟨#[]⟩] T3) := ⟨_, rfl⟩
  have z3 : W3.heap.size = s + 3 := by rw [hW3, World.size_alloc, z2]
  have o3 : ∀ k, k < s + 2 → W3.heap[k]? = W2.heap[k]? := fun k hk => by rw [hW3]; exact Below.heap_alloc _ _ _ (by omega)
  have x3 : W3.heap[s + 2]? = some (.cells #[.string ⟨#[]⟩, .string ⟨#[]⟩, .int .u64 0, .bool false, .string ⟨#[]⟩] T3) := by rw [hW3]; exact alloc_new _ _ z2
  rw [← hW3]
  obtain ⟨W4, hW4⟩ : ∃ W, W = W3.alloc (.cells #[.bool true] T4) := ⟨_, rfl⟩
  have z4 : W4.heap.size = s + 4 := by rw [hW4, World.size_alloc, z3]
  have o4 : ∀ k, k < s + 3 → W4.heap[k]? = W3.heap[k]? := fun k hk => by rw [hW4]; exact Below.heap_alloc _ _ _ (by omega)
  have x4 : W4.heap[s + 3]? = some (.cells #[.bool true] T4) := by rw [hW4]; exact alloc_new _ _ z3
  rw [← hW4]
  have hold : ∀ k, k < s → W4.heap[k]? = w.heap[k]? := fun k hk => (o4 k (by omega)).trans ((o3 k (by omega)).trans ((o2 k (by omega)).trans (o1 k hk)))
  have y1 : W4.heap[s]? = some (.cells #[.func (.func f) #[] caps] T1) := (o4 s (by omega)).trans ((o3 s (by omega)).trans ((o2 s (by omega)).trans x1))
  have y2 : W4.heap[s + 1]? = some (.cells #[.func (.func T) #[] #[]] T2) := (o4 (s + 1) (by omega)).trans ((o3 (s + 1) (by omega)).trans x2)
  have y3 : W4.heap[s + 2]? = some (.cells #[.string ⟨#[]⟩, .string ⟨#[]⟩, .int .u64 0, .bool false, .string ⟨#[]⟩] T3) := (o4 (s + 2) (by omega)).trans x3
  clear hW1 hW2 hW3 hW4
  refine ⟨none, cs, F, ⟨⟨?_, ?_, ?_, ?_, ?_⟩, cell_of_obj y1 rfl, cell_of_obj x4 rfl, ⟨fun c h => (by cases h), fun o ho => ?_⟩, cell_of_obj y2 rfl, fun k o hk => ?_⟩, hR.keep hS (by omega) (fun b hb => hold b (hF b hb)), rfl, fun k hk => .inl hk, fun k hk => ?_, fun k hk => ?_⟩
  iterate 5 (simp only [ne_eq]; omega)
  · match o, ho with
    | 0, _ => exact ⟨_, cell_of_obj y3 rfl⟩
    | 1, _ => exact ⟨_, cell_of_obj y3 rfl⟩
    | 2, _ => exact ⟨_, cell_of_obj y3 rfl⟩
    | 3, _ => exact ⟨_, cell_of_obj y3 rfl⟩
    | 4, _ => exact ⟨_, cell_of_obj y3 rfl⟩
  · rcases hk with e | e | e | e <;> simp only at e <;> subst e
    · exact free_of_obj y1 o
    · exact free_of_obj x4 o
    · exact free_of_obj y3 o
    · exact free_of_obj y2 o
  · rcases hk with e | e | e | e <;> simp only at e <;> exact ⟨.inr ⟨by omega, by omega⟩, fun hf => by have := hF k hf; omega⟩
  · rcases hk with hk | hk
    · have := hF k hk; omega
    · omega

set_option maxRecDepth 100000 in
set_option maxHeartbeats 2000000 in
theorem keep_newest (q : RI) (w : World) (h : q.Here w) :
    Calls Try.prog 42 #[.func (.func q.f) #[] q.caps, .func (.func 43) #[] #[]] w fun e w' => Gives (keepL (fun _ => true) none q.cs) q.F w e w' := by
  have hq := func_eql (.func q.f) #[] q.caps
  have H := Lib.hid h
  clear h
  go_enter Try.func42, Try.ntmps42
  go_wp2
  go_returns
  have hK := keep_W (T := 43) (t := fun _ => true) (T1 := 25) (T2 := 59) (T3 := 37) (T4 := 4) q.ok H.out
  refine ⟨⟨_, _, _, keep_row ⟨w.heap.size, w.heap.size + 3, w.heap.size + 2, w.heap.size + 1⟩ q.f q.caps q.St q.ok 43 (fun _ => true) ⟨_, _, Try.func43, by kernel_rfl, rfl⟩ newest1_any, _, _⟩, rfl, rfl, hK, fun k hk => ?_, by go_grown⟩
  rcases hk with h | h
  · exact .inl h
  · exact .inr h.1
set_option maxRecDepth 100000 in
set_option maxHeartbeats 2000000 in
theorem keep_alive (q : RI) (w : World) (h : q.Here w) :
    Calls Try.prog 42 #[.func (.func q.f) #[] q.caps, .func (.func 45) #[] #[]] w fun e w' => Gives (keepL (fun c => !c.gone) none q.cs) q.F w e w' := by
  have hq := func_eql (.func q.f) #[] q.caps
  have H := Lib.hid h
  clear h
  go_enter Try.func42, Try.ntmps42
  go_wp2
  go_returns
  have hK := keep_W (T := 45) (t := fun c => !c.gone) (T1 := 25) (T2 := 59) (T3 := 37) (T4 := 4) q.ok H.out
  refine ⟨⟨_, _, _, keep_row ⟨w.heap.size, w.heap.size + 3, w.heap.size + 2, w.heap.size + 1⟩ q.f q.caps q.St q.ok 45 (fun c => !c.gone) ⟨_, _, Try.func45, by kernel_rfl, rfl⟩ alive1_any, _, _⟩, rfl, rfl, hK, fun k hk => ?_, by go_grown⟩
  rcases hk with h | h
  · exact .inl h
  · exact .inr h.1
set_option maxRecDepth 100000 in
set_option maxHeartbeats 2000000 in
theorem keepnil_newest (w : World) :
    Calls Try.prog 42 #[.nilFunc, .func (.func 43) #[] #[]] w fun e w' => Gives [] (fun _ => False) w e w' := by
  have hq := nil_eql
  go_enter Try.func42, Try.ntmps42
  go_wp2
  go_returns
  exact ⟨⟨_, _, _, none_row, [], fun _ => False⟩, rfl, rfl, ⟨rfl, fun _ h => h.elim⟩, fun k hk => .inl hk, by go_grown⟩
set_option maxRecDepth 100000 in
set_option maxHeartbeats 2000000 in
theorem keepnil_alive (w : World) :
    Calls Try.prog 42 #[.nilFunc, .func (.func 45) #[] #[]] w fun e w' => Gives [] (fun _ => False) w e w' := by
  have hq := nil_eql
  go_enter Try.func42, Try.ntmps42
  go_wp2
  go_returns
  exact ⟨⟨_, _, _, none_row, [], fun _ => False⟩, rfl, rfl, ⟨rfl, fun _ h => h.elim⟩, fun k hk => .inl hk, by go_grown⟩
set_option maxRecDepth 100000 in
theorem newest_gives (q : RI) (w : World) (h : q.Here w) :
    Calls Try.prog 19 #[.func (.func q.f) #[] q.caps] w fun e w' => Gives (keepL (fun _ => true) none q.cs) q.F w e w' := by
  have HK := Lib.hid (keep_newest q w h)
  clear h
  go_enter Try.func19, Try.ntmps19
  go_wp2_with (go_at_call 42; refine HK.out.mono ?_; rintro e w1 ⟨q1, rfl, h1, h2, h3, h4⟩; have H1 := Lib.hid h1; have H2 := Lib.hid h2; have H3 := Lib.hid h3; have H4 := Lib.hid h4; clear h1 h2 h3 h4)
  go_returns
  exact ⟨q1, rfl, H1.out, H2.out, H3.out, H4.out⟩
set_option maxRecDepth 100000 in
theorem newest_nil (w : World) :
    Calls Try.prog 19 #[.nilFunc] w fun e w' => Gives [] (fun _ => False) w e w' := by
  have HK := Lib.hid (keepnil_newest w)
  go_enter Try.func19, Try.ntmps19
  go_wp2_with (go_at_call 42; refine HK.out.mono ?_; rintro e w1 ⟨q1, rfl, h1, h2, h3, h4⟩; have H1 := Lib.hid h1; have H2 := Lib.hid h2; have H3 := Lib.hid h3; have H4 := Lib.hid h4; clear h1 h2 h3 h4)
  go_returns
  exact ⟨q1, rfl, H1.out, H2.out, H3.out, H4.out⟩
set_option maxRecDepth 100000 in
theorem alive_gives (q : RI) (w : World) (h : q.Here w) :
    Calls Try.prog 21 #[.func (.func q.f) #[] q.caps] w fun e w' => Gives (keepL (fun c => !c.gone) none q.cs) q.F w e w' := by
  have HK := Lib.hid (keep_alive q w h)
  clear h
  go_enter Try.func21, Try.ntmps21
  go_wp2_with (go_at_call 42; refine HK.out.mono ?_; rintro e w1 ⟨q1, rfl, h1, h2, h3, h4⟩; have H1 := Lib.hid h1; have H2 := Lib.hid h2; have H3 := Lib.hid h3; have H4 := Lib.hid h4; clear h1 h2 h3 h4)
  go_returns
  exact ⟨q1, rfl, H1.out, H2.out, H3.out, H4.out⟩
set_option maxRecDepth 100000 in
theorem alive_nil (w : World) :
    Calls Try.prog 21 #[.nilFunc] w fun e w' => Gives [] (fun _ => False) w e w' := by
  have HK := Lib.hid (keepnil_alive w)
  go_enter Try.func21, Try.ntmps21
  go_wp2_with (go_at_call 42; refine HK.out.mono ?_; rintro e w1 ⟨q1, rfl, h1, h2, h3, h4⟩; have H1 := Lib.hid h1; have H2 := Lib.hid h2; have H3 := Lib.hid h3; have H4 := Lib.hid h4; clear h1 h2 h3 h4)
  go_returns
  exact ⟨q1, rfl, H1.out, H2.out, H3.out, H4.out⟩
end Go.Proofs.Ytehbikofoidjhaa
