/-
  acreageref08.Put.
-/
import Derived.Test.YtlnfdejflpgleaaPutBad
import Derived.Test.YtlnfdejflpgleaaLits
namespace Go.Proofs.Ytlnfdejflpgleaa
open Go.RowKit

/-- a row of heights -/
def Ints (w : World) (ao : Option Addr) (n cap : Nat) (hs : List Nat) : Prop := Arr w 1 ao n cap (hs.map fun (h : Nat) => [Value.int .i64 (h : Int)])
theorem Ints.len {w : World} {ao : Option Addr} {n cap : Nat} {hs : List Nat} (h : Ints w ao n cap hs) : hs.length = n := by have := Arr.len h; rwa [List.length_map] at this
theorem Ints.at_ {w : World} {ao : Option Addr} {n cap : Nat} {hs : List Nat} (h : Ints w ao n cap hs) {i x : Nat} (hx : hs[i]? = some x) : ∃ b off, ao = some ⟨b, off, none⟩ ∧ b < w.heap.size ∧ w.cell? ⟨b, off + i, none⟩ = some (.int .i64 (x : Int)) := by
  obtain ⟨b, off, e, hl, hc⟩ := Arr.lies h (by have := (List.getElem?_eq_some_iff.1 hx).1; have := h.len; omega)
  refine ⟨b, off, e, hl, ?_⟩
  have := hc i [Value.int .i64 (x : Int)] (by rw [List.getElem?_map, hx]; rfl) 0 _ rfl
  simpa using this
/-- the document's list -/
structure LM (w : World) (v : Value) (l : List CH) : Prop where
  nil : l = [] → v = .agg #[.slice none 0 0, .slice none 0 0]
  ex : ∃ ao cap ao2 cap2, v = .agg #[.slice ao l.length cap, .slice ao2 l.length cap2] ∧ Cells w ao l.length cap (l.map Prod.fst) ∧ Ints w ao2 l.length cap2 (l.map Prod.snd)
theorem LM.below {w w' : World} {v : Value} {l : List CH} (h : LM w v l) (hb : Below w.heap.size w w') : LM w' v l := by
  obtain ⟨ao, cap, ao2, cap2, e, h1, h2⟩ := h.ex
  exact ⟨h.nil, ao, cap, ao2, cap2, e, Arr.below h1 hb, Arr.below h2 hb⟩
/-- the list's two rows lie in blocks from B on -/
def NewS (B : Nat) (v : Value) : Prop := ∀ ao n cap ao2 n2 cap2, v = .agg #[.slice ao n cap, .slice ao2 n2 cap2] → (∀ a, ao = some a → B ≤ a.block) ∧ ∀ a, ao2 = some a → B ≤ a.block
set_option maxRecDepth 100000 in
set_option maxHeartbeats 2000000 in
theorem rput_bad (c : CellA) (hok : c.Ok) (h : Int) (hb : cellL c = false ∨ h < 1 ∨ 12 < h) (a1 a2 : Option Addr) (n1 k1 n2 k2 : Nat) (w : World) :
    Calls Try.prog 14 #[.agg #[.slice a1 n1 k1, .slice a2 n2 k2], .agg #[.string c.row, .string c.col, .int .u64 c.ver, .bool c.gone, .string c.val], .int .i64 h] w fun e w' =>
      e = .returned (.tuple #[.agg #[.slice a1 n1 k1, .slice a2 n2 k2], .int .i64 2]) ∧ Below w.heap.size w w' := by
  have KC := Lib.hid fun (W : World) => rcell_any c W hok
  simp only [CellA.v] at KC
  obtain ⟨P, hP⟩ : ∃ P : Ending → World → Prop, P = fun e w' => e = .returned (.tuple #[.agg #[.slice a1 n1 k1, .slice a2 n2 k2], .int .i64 2]) ∧ Below w.heap.size w w' := ⟨_, rfl⟩
  rw [← hP]
  have HP := Lib.hid hP
  clear hP
  cases hcl : cellL c with
  | false =>
    have he : errB (cellL c) = 2 := by rw [hcl]; rfl
    rw [hcl] at he
    rw [hcl, he] at KC
    clear hb he hcl hok
    go_enter Try.func14, Try.ntmps14
    go_wp2_with (first | (go_at_call 33; refine (KC.out _).mono ?_; rintro e w1 ⟨rfl, hb⟩; obtain ⟨hB, hS, hk⟩ := after (B := w.heap.size) (w := w) (by go_grown) (by go_size) hb; clear hb; obtain ⟨c0, f0, z0⟩ := hk (w.heap.size) (by go_size); obtain ⟨c1, f1, z1⟩ := hk (w.heap.size + 1) (by go_size); obtain ⟨c2, f2, z2⟩ := hk (w.heap.size + 2) (by go_size); clear hk) | (with_reducible refine bodyPost_ret (v := .tuple #[.agg #[.slice a1 n1 k1, .slice a2 n2 k2], .int .i64 2]) ?hr ?hd ?hR))
    case hd => rfl
    case hR => rw [HP.out]; exact ⟨rfl, by go_grown⟩
    case hr => simp [results, Try.results14, go_sem, *]
  | true =>
    have he : errB (cellL c) = 0 := by rw [hcl]; rfl
    rw [hcl] at he
    rw [hcl, he] at KC
    have hb2 : h < 1 ∨ (¬ h < 1 ∧ 12 < h) := by rw [hcl] at hb; rcases hb with h1 | h1; cases h1; omega
    clear hb he hcl hok
    rcases hb2 with h1 | ⟨h1, h2⟩
    · have t1 : decide (h < 1) = true := by simpa using h1
      go_enter Try.func14, Try.ntmps14
      go_wp2_with (first | (go_at_call 33; refine (KC.out _).mono ?_; rintro e w1 ⟨rfl, hb⟩; obtain ⟨hB, hS, hk⟩ := after (B := w.heap.size) (w := w) (by go_grown) (by go_size) hb; clear hb; obtain ⟨c0, f0, z0⟩ := hk (w.heap.size) (by go_size); obtain ⟨c1, f1, z1⟩ := hk (w.heap.size + 1) (by go_size); obtain ⟨c2, f2, z2⟩ := hk (w.heap.size + 2) (by go_size); clear hk) | (with_reducible refine bodyPost_ret (v := .tuple #[.agg #[.slice a1 n1 k1, .slice a2 n2 k2], .int .i64 2]) ?hr ?hd ?hR))
      case hd => rfl
      case hR => rw [HP.out]; exact ⟨rfl, by go_grown⟩
      case hr => simp [results, Try.results14, go_sem, *]
    · have t1 : decide (h < 1) = false := by simpa using h1
      have t2 : decide (12 < h) = true := by simpa using h2
      go_enter Try.func14, Try.ntmps14
      go_wp2_with (first | (go_at_call 33; refine (KC.out _).mono ?_; rintro e w1 ⟨rfl, hb⟩; obtain ⟨hB, hS, hk⟩ := after (B := w.heap.size) (w := w) (by go_grown) (by go_size) hb; clear hb; obtain ⟨c0, f0, z0⟩ := hk (w.heap.size) (by go_size); obtain ⟨c1, f1, z1⟩ := hk (w.heap.size + 1) (by go_size); obtain ⟨c2, f2, z2⟩ := hk (w.heap.size + 2) (by go_size); clear hk) | (with_reducible refine bodyPost_ret (v := .tuple #[.agg #[.slice a1 n1 k1, .slice a2 n2 k2], .int .i64 2]) ?hr ?hd ?hR))
      case hd => rfl
      case hR => rw [HP.out]; exact ⟨rfl, by go_grown⟩
      case hr => simp [results, Try.results14, go_sem, *]

theorem row_sl {w : World} {B size n : Nat} {e : TypeId} {v : Value} {xs : List Value} (h : Row w B e size v n xs) : ∃ ao cap, v = .slice ao n cap := by
  rcases h.form with ⟨rfl, rfl⟩ | ⟨g, cap, rfl, _⟩
  · exact ⟨none, 0, rfl⟩
  · exact ⟨_, _, rfl⟩
theorem arr_drop8 {w : World} {size n cap : Nat} {b off : Nat} {es : List (List Value)} (h : Arr w size (some ⟨b, off, none⟩) n cap es) (k : Nat) (hk : k ≤ n) {o : Nat} (ho : o = off + k * size) : Arr w size (some ⟨b, o, none⟩) (n - k) (cap - k) (es.drop k) := by
  have hl := h.len
  have hf := h.fits
  have hm := h.max
  refine ⟨fun e he => h.elems e (List.mem_of_mem_drop he), by rw [List.length_drop, hl], by omega, by omega, fun h0 => ?_⟩
  obtain ⟨b', off', e, hb, hc⟩ := h.lies (by omega)
  cases e
  refine ⟨b, o, rfl, hb, fun i e he j u hu => ?_⟩
  rw [List.getElem?_drop] at he
  have := hc (k + i) e he j u hu
  rw [Nat.add_mul, ← Nat.add_assoc, ← ho] at this
  exact this
theorem arr_dropI {w : World} {size n cap : Nat} {b off : Nat} {es : List (List Value)} (h : Arr w size (some ⟨b, off, none⟩) n cap es) (k : Nat) (hk : k ≤ n) {o : Nat} (ho : o = off + k * size) : Arr w size (if cap = k then some ⟨b, off, none⟩ else some ⟨b, o, none⟩) (n - k) (cap - k) (es.drop k) := by
  have h2 := arr_drop8 h k hk ho
  split
  · rename_i e
    have hf := h.fits
    exact ⟨h2.elems, h2.len, h2.fits, h2.max, fun h0 => by omega⟩
  · exact h2
/-- a row in the first cell of block p, none in the second one -/
structure OneR (p : Nat) (T : TypeId) (su : Nat) (va : Value) (na : Nat) (xa : List Value) (W : World) : Prop where
  c0 : W.cell? ⟨p, 0, none⟩ = some va
  c1 : W.cell? ⟨p, 1, none⟩ = some (.slice none 0 0)
  f0 : W.frozen? ⟨p, 0, none⟩ = false
  f1 : W.frozen? ⟨p, 1, none⟩ = false
  ra : Row W (p + 1) T su va na xa
  lt : p < W.heap.size
/-- two rows in the two cells of block p -/
structure TwoR (p Bb : Nat) (T U : TypeId) (su : Nat) (va vb : Value) (na nb : Nat) (xa xb : List Value) (W : World) : Prop where
  c0 : W.cell? ⟨p, 0, none⟩ = some va
  c1 : W.cell? ⟨p, 1, none⟩ = some vb
  f0 : W.frozen? ⟨p, 0, none⟩ = false
  f1 : W.frozen? ⟨p, 1, none⟩ = false
  ra : Row W (p + 1) T su va na xa
  rb : Row W Bb U 1 vb nb xb
  lt : p < W.heap.size
  le : p + 1 ≤ Bb
  bl : Bb ≤ W.heap.size
  sep : ∀ k, va.ownBlock = some k → k < Bb
section
variable {p Bb : Nat} {T U : TypeId} {su : Nat} {va vb v' : Value} {na nb n' : Nat} {xa xb x' : List Value} {W V V' : World}
theorem OneR.below (h : OneR p T su va na xa W) (hb : Below W.heap.size W V) : OneR p T su va na xa V :=
  ⟨(hb.cell (p := ⟨p, 0, none⟩) h.lt).trans h.c0, (hb.cell (p := ⟨p, 1, none⟩) h.lt).trans h.c1, (hb.frozen (p := ⟨p, 0, none⟩) h.lt).trans h.f0, (hb.frozen (p := ⟨p, 1, none⟩) h.lt).trans h.f1, h.ra.below hb, Nat.lt_of_lt_of_le h.lt hb.size⟩
theorem TwoR.below (h : TwoR p Bb T U su va vb na nb xa xb W) (hb : Below W.heap.size W V) : TwoR p Bb T U su va vb na nb xa xb V :=
  ⟨(hb.cell (p := ⟨p, 0, none⟩) h.lt).trans h.c0, (hb.cell (p := ⟨p, 1, none⟩) h.lt).trans h.c1, (hb.frozen (p := ⟨p, 0, none⟩) h.lt).trans h.f0, (hb.frozen (p := ⟨p, 1, none⟩) h.lt).trans h.f1, h.ra.below hb, h.rb.below hb, Nat.lt_of_lt_of_le h.lt hb.size, h.le, Nat.le_trans h.bl hb.size, h.sep⟩
theorem OneR.two (h : OneR p T su va na xa W) (U : TypeId) : TwoR p W.heap.size T U su va (.slice none 0 0) na 0 xa [] W :=
  ⟨h.c0, h.c1, h.f0, h.f1, h.ra, Row.nil _ _ _ _, h.lt, h.lt, Nat.le_refl _, fun k hk => (Row.lt h.ra k hk).2⟩
theorem OneR.put (h : OneR p T su va na xa V) (hr : Row V' (p + 1) T su v' n' x') (hg : V.grownBy V' va.ownBlock) : OneR p T su v' n' x' (V'.setCell ⟨p, 0, none⟩ v') := by
  have hs : V'.heap[p]? = V.heap[p]? := hg.block p h.lt (fun e => by have := (Row.lt h.ra p e.symm).1; omega)
  have e0 := (World.cell?_of_block (a := ⟨p, 0, none⟩) hs).trans h.c0
  have e1 := (World.cell?_of_block (a := ⟨p, 1, none⟩) hs).trans h.c1
  have g0 := (World.frozen?_of_block (a := ⟨p, 0, none⟩) hs).trans h.f0
  have g1 := (World.frozen?_of_block (a := ⟨p, 1, none⟩) hs).trans h.f1
  exact ⟨World.cell?_setCell_same _ _ _ e0, by go_simp, by rw [World.frozen?_setCell]; exact g0, by rw [World.frozen?_setCell]; exact g1, hr.setCell (fun k hk e => by have := (Row.lt hr k hk).1; simp only at e; omega) _, by rw [World.size_setCell]; exact Nat.lt_of_lt_of_le h.lt hg.size⟩
theorem TwoR.put (h : TwoR p Bb T U su va vb na nb xa xb V) (hr : Row V' Bb U 1 v' n' x') (hg : V.grownBy V' vb.ownBlock) : TwoR p Bb T U su va v' na n' xa x' (V'.setCell ⟨p, 1, none⟩ v') := by
  have hle := h.le
  have hs : V'.heap[p]? = V.heap[p]? := hg.block p h.lt (fun e => by have := (Row.lt h.rb p e.symm).1; omega)
  have e0 := (World.cell?_of_block (a := ⟨p, 0, none⟩) hs).trans h.c0
  have e1 := (World.cell?_of_block (a := ⟨p, 1, none⟩) hs).trans h.c1
  have g0 := (World.frozen?_of_block (a := ⟨p, 0, none⟩) hs).trans h.f0
  have g1 := (World.frozen?_of_block (a := ⟨p, 1, none⟩) hs).trans h.f1
  have hra : Row V' (p + 1) T su va na xa := h.ra.of_heap fun k hk => hg.block k (Row.lt h.ra k hk).2 (fun e => by have := (Row.lt h.rb k e.symm).1; have := h.sep k hk; omega)
  exact ⟨by go_simp, World.cell?_setCell_same _ _ _ e1, by rw [World.frozen?_setCell]; exact g0, by rw [World.frozen?_setCell]; exact g1,
    hra.setCell (fun k hk e => by have := (Row.lt hra k hk).1; simp only at e; omega) _, hr.setCell (fun k hk e => by have := (Row.lt hr k hk).1; simp only at e; omega) _, by rw [World.size_setCell]; exact Nat.lt_of_lt_of_le h.lt hg.size, h.le, by rw [World.size_setCell]; exact Nat.le_trans h.bl hg.size, h.sep⟩
theorem OneR.mid (h : OneR p T su va na xa V) (hg : V.grownBy V' va.ownBlock) : V'.cell? ⟨p, 0, none⟩ = some va ∧ V'.frozen? ⟨p, 0, none⟩ = false ∧ V'.cell? ⟨p, 1, none⟩ = some (.slice none 0 0) ∧ p < V'.heap.size := by
  have hs : V'.heap[p]? = V.heap[p]? := hg.block p h.lt (fun e => by have := (Row.lt h.ra p e.symm).1; omega)
  exact ⟨(World.cell?_of_block (a := ⟨p, 0, none⟩) hs).trans h.c0, (World.frozen?_of_block (a := ⟨p, 0, none⟩) hs).trans h.f0, (World.cell?_of_block (a := ⟨p, 1, none⟩) hs).trans h.c1, Nat.lt_of_lt_of_le h.lt hg.size⟩
theorem TwoR.mid (h : TwoR p Bb T U su va vb na nb xa xb V) (hg : V.grownBy V' vb.ownBlock) : V'.cell? ⟨p, 1, none⟩ = some vb ∧ V'.frozen? ⟨p, 1, none⟩ = false ∧ V'.cell? ⟨p, 0, none⟩ = some va ∧ p < V'.heap.size := by
  have hle := h.le
  have hs : V'.heap[p]? = V.heap[p]? := hg.block p h.lt (fun e => by have := (Row.lt h.rb p e.symm).1; omega)
  exact ⟨(World.cell?_of_block (a := ⟨p, 1, none⟩) hs).trans h.c1, (World.frozen?_of_block (a := ⟨p, 1, none⟩) hs).trans h.f1, (World.cell?_of_block (a := ⟨p, 0, none⟩) hs).trans h.c0, Nat.lt_of_lt_of_le h.lt hg.size⟩
/-- what has changed since block p was laid -/
theorem put_below {W1 : World} {o : Nat} (hb : Below p W1 V) (hr : ∀ k, va.ownBlock = some k → p ≤ k) (hg : V.grownBy V' va.ownBlock) (hp : p ≤ V.heap.size) (u : Value) : Below p W1 (V'.setCell ⟨p, o, none⟩ u) :=
  (hb.grown hg hp hr).setCell (by show p ≤ p; omega) u
end
theorem OneR.later {p : Nat} {T : TypeId} {su : Nat} {va : Value} {na : Nat} {xa : List Value} {W1 V V' : World} (h : OneR p T su va na xa V) (hb : Below p W1 V) (hg : V.grownBy V' va.ownBlock) (u : Value) : Below p W1 (V'.setCell ⟨p, 0, none⟩ u) :=
  put_below hb (fun k hk => by have := (Row.lt h.ra k hk).1; omega) hg (Nat.le_of_lt h.lt) u
theorem TwoR.later {p Bb : Nat} {T U : TypeId} {su : Nat} {va vb : Value} {na nb : Nat} {xa xb : List Value} {W1 V V' : World} (h : TwoR p Bb T U su va vb na nb xa xb V) (hb : Below p W1 V) (hg : V.grownBy V' vb.ownBlock) (u : Value) : Below p W1 (V'.setCell ⟨p, 1, none⟩ u) :=
  put_below hb (fun k hk => by have := (Row.lt h.rb k hk).1; have := h.le; omega) hg (Nat.le_of_lt h.lt) u
theorem info_intB : (Try.prog.info? 3).map (fun i => (i.zero, i.size, i.bytes)) = some (some (.int .i64 0), 1, 8) := by kernel_rfl
theorem ints_new (w : World) (T : TypeId) (h : Nat) (b : Nat) (hb : b = w.heap.size) : Ints (w.alloc (.cells #[.int .i64 (h : Int)] T)) (some ⟨b, 0, none⟩) 1 1 [h] := by
  subst hb
  refine ⟨fun e he => ?_, rfl, Nat.le_refl _, by unfold maxLen; omega, fun _ => ⟨w.heap.size, 0, rfl, by rw [World.size_alloc]; omega, fun i e he j u hu => ?_⟩⟩
  · simp only [List.map_cons, List.map_nil, List.mem_singleton] at he
    subst he
    exact ⟨rfl, fun u hu => by simp at hu; subst hu; rfl⟩
  · have hi : i = 0 := by have := (List.getElem?_eq_some_iff.1 he).1; simpa using this
    subst hi
    simp only [List.map_cons, List.map_nil, List.getElem?_cons_zero, Option.some.injEq] at he
    subst he
    cases j with
    | zero => simp at hu; subst hu; simp [World.cell?_alloc_new]
    | succ j => simp at hu
theorem ints_elems (hs : List Nat) : Elems 1 (hs.map fun (h : Nat) => [Value.int .i64 (h : Int)]) := fun e he => by
  obtain ⟨h, _, rfl⟩ := List.mem_map.1 he
  exact ⟨rfl, fun u hu => by simp at hu; subst hu; rfl⟩
/-- the document's list, out of its two rows -/
theorem lm_of {W : World} {B1 B2 : Nat} {T1 T2 : TypeId} {L : List CH} {a a2 : Option Addr} {N c c2 : Nat} {xa xb : List Value} (hN : N = L.length) (h0 : L ≠ [])
    (ra : Row W B1 T1 5 (.slice a N c) N xa) (ea : xa = ((L.map Prod.fst).map cellE).flatten) (rb : Row W B2 T2 1 (.slice a2 N c2) N xb) (eb : xb = ((L.map Prod.snd).map fun (h : Nat) => [Value.int .i64 (h : Int)]).flatten) :
    LM W (.agg #[.slice a N c, .slice a2 N c2]) L := by
  subst hN ea eb
  refine ⟨fun e => absurd e h0, a, c, a2, c2, rfl, ?_, ?_⟩
  · have h1 := Row.arr (es := (L.map Prod.fst).map cellE) (by decide) (by rw [List.length_map, List.length_map]; exact ra) (cellE_elems _)
    rw [List.length_map, List.length_map] at h1
    obtain ⟨ao, cap, e, h⟩ := h1
    cases e
    exact h
  · have h1 := Row.arr (es := (L.map Prod.snd).map fun (h : Nat) => [Value.int .i64 (h : Int)]) (by decide) (by rw [List.length_map, List.length_map]; exact rb) (ints_elems _)
    rw [List.length_map, List.length_map] at h1
    obtain ⟨ao, cap, e, h⟩ := h1
    cases e
    exact h
theorem lm_lists (l : List CH) (k b : Nat) (c : CellA) (h : Nat) :
    ((([] : List Value) ++ (((l.map Prod.fst).map cellE).take k).flatten) ++ ([c].map cellE).flatten) ++ (((l.map Prod.fst).map cellE).drop b).flatten = (((l.take k ++ (c, h) :: l.drop b).map Prod.fst).map cellE).flatten ∧
    ((([] : List Value) ++ (((l.map Prod.snd).map fun (h : Nat) => [Value.int .i64 (h : Int)]).take k).flatten) ++ ([h].map fun (h : Nat) => [Value.int .i64 (h : Int)]).flatten) ++ (((l.map Prod.snd).map fun (h : Nat) => [Value.int .i64 (h : Int)]).drop b).flatten =
      (((l.take k ++ (c, h) :: l.drop b).map Prod.snd).map fun (h : Nat) => [Value.int .i64 (h : Int)]).flatten := by
  constructor <;> simp [List.map_take, List.map_drop]
theorem LM.same {w w' : World} {v : Value} {l : List CH} {z : Nat} (h : LM w v l) (hz : ∀ g, g < w.heap.size → g ≠ z → w'.heap[g]? = w.heap[g]?) (hs : w.heap.size ≤ w'.heap.size)
    (hn : ∀ ao n cap ao2 n2 cap2, v = .agg #[.slice ao n cap, .slice ao2 n2 cap2] → (∀ a, ao = some a → a.block ≠ z) ∧ (∀ a, ao2 = some a → a.block ≠ z)) : LM w' v l := by
  obtain ⟨ao, cap, ao2, cap2, e, h1, h2⟩ := h.ex
  obtain ⟨n1, n2⟩ := hn _ _ _ _ _ _ e
  refine ⟨h.nil, ao, cap, ao2, cap2, e, ⟨Arr.elems h1, Arr.len h1, Arr.fits h1, Arr.max h1, fun h0 => ?_⟩, ⟨Arr.elems h2, Arr.len h2, Arr.fits h2, Arr.max h2, fun h0 => ?_⟩⟩
  · obtain ⟨b, off, e2, hb, hc⟩ := Arr.lies h1 h0
    exact ⟨b, off, e2, Nat.lt_of_lt_of_le hb hs, fun i x hx j u hu => (World.cell?_of_block (a := ⟨b, _, none⟩) (hz b hb (n1 _ e2))).trans (hc i x hx j u hu)⟩
  · obtain ⟨b, off, e2, hb, hc⟩ := Arr.lies h2 h0
    exact ⟨b, off, e2, Nat.lt_of_lt_of_le hb hs, fun i x hx j u hu => (World.cell?_of_block (a := ⟨b, _, none⟩) (hz b hb (n2 _ e2))).trans (hc i x hx j u hu)⟩
theorem row_block {W : World} {B n size c : Nat} {T : TypeId} {a : Option Addr} {xs : List Value} (h : Row W B T size (.slice a n c) n xs) : ∀ x, a = some x → B ≤ x.block := fun x hx => by
  rcases h.form with ⟨e, _⟩ | ⟨g, cap, e, hg, _⟩
  · cases e; cases hx
  · cases e; cases hx; exact hg
end Go.Proofs.Ytlnfdejflpgleaa
