/-
  Slices as lists of elements of several cells: reading, cutting, appending. Plain laws over any program.
-/
import Derived.Test.YtihglmicgccgiaaRow
namespace Go.Proofs.Ytihglmicgccgiaa
open Go.RowKit

theorem flatten_get {size : Nat} : ∀ {es : List (List Value)}, (∀ e ∈ es, e.length = size) → ∀ (i : Nat) (e : List Value), es[i]? = some e → ∀ (j : Nat) (u : Value), e[j]? = some u → es.flatten[i * size + j]? = some u
  | [], _, i, e, h, _, _, _ => by simp at h
  | x :: es, hl, 0, e, h, j, u, hj => by
    simp only [List.getElem?_cons_zero, Option.some.injEq] at h
    subst h
    rw [List.flatten_cons, Nat.zero_mul, Nat.zero_add, List.getElem?_append_left (List.getElem?_eq_some_iff.1 hj).1]
    exact hj
  | x :: es, hl, i + 1, e, h, j, u, hj => by
    rw [List.flatten_cons, List.getElem?_append_right (by rw [hl x (by simp), Nat.succ_mul]; omega), hl x (by simp)]
    have := flatten_get (es := es) (fun e he => hl e (by simp [he])) i e (by simpa using h) j u hj
    rw [← this]
    congr 1
    rw [Nat.succ_mul]; omega
theorem flatten_len {size : Nat} : ∀ {es : List (List Value)}, (∀ e ∈ es, e.length = size) → es.flatten.length = es.length * size
  | [], _ => by simp
  | x :: es, hl => by
    rw [List.flatten_cons, List.length_append, hl x (by simp), flatten_len (es := es) (fun e he => hl e (by simp [he])), List.length_cons, Nat.succ_mul]; omega
theorem flatten_inv {size : Nat} (hs : 0 < size) : ∀ {es : List (List Value)}, (∀ e ∈ es, e.length = size) → ∀ (k : Nat) (u : Value), es.flatten[k]? = some u → ∃ e, es[k / size]? = some e ∧ e[k % size]? = some u := by
  intro es hl k u h
  have hk := (List.getElem?_eq_some_iff.1 h).1
  rw [flatten_len hl] at hk
  have hi : k / size < es.length := Nat.div_lt_of_lt_mul (by rw [Nat.mul_comm]; exact hk)
  have hj : k % size < size := Nat.mod_lt _ hs
  have he := hl es[k / size] (List.getElem_mem hi)
  refine ⟨es[k / size], List.getElem?_eq_getElem hi, ?_⟩
  have hj' : k % size < es[k / size].length := by omega
  have h1 := flatten_get hl (k / size) _ (List.getElem?_eq_getElem hi) (k % size) _ (List.getElem?_eq_getElem hj')
  rw [Nat.mul_comm, Nat.div_add_mod] at h1
  rw [List.getElem?_eq_getElem hj', ← h1, h]

theorem flatten_set5 : ∀ (es : List (List Value)), (∀ e ∈ es, e.length = 5) → ∀ (i : Nat) (a b c d e : Value), i < es.length → (((((es.flatten.set (i * 5) a).set (i * 5 + 1) b).set (i * 5 + 2) c).set (i * 5 + 3) d).set (i * 5 + 4) e) = (es.set i [a, b, c, d, e]).flatten
  | [], _, i, _, _, _, _, _, h => by simp at h
  | x :: es, hl, 0, a, b, c, d, e, _ => by
    have := hl x (by simp)
    match x, this with
    | [p, q, r, s, t], _ => simp
  | x :: es, hl, i + 1, a, b, c, d, e, h => by
    have := hl x (by simp)
    match x, this with
    | [p, q, r, s, t], _ =>
      have ih := flatten_set5 es (fun e he => hl e (by simp [he])) i a b c d e (by simpa using h)
      rw [List.set_cons_succ, List.flatten_cons, List.flatten_cons, ← ih]
      simp [Nat.succ_mul]
theorem flatten_set2 : ∀ (es : List (List Value)), (∀ e ∈ es, e.length = 2) → ∀ (i : Nat) (a b : Value), i < es.length → (es.flatten.set (i * 2) a).set (i * 2 + 1) b = (es.set i [a, b]).flatten
  | [], _, i, _, _, h => by simp at h
  | x :: es, hl, 0, a, b, _ => by
    have := hl x (by simp)
    match x, this with
    | [p, q], _ => simp
  | x :: es, hl, i + 1, a, b, h => by
    have := hl x (by simp)
    match x, this with
    | [p, q], _ =>
      have ih := flatten_set2 es (fun e he => hl e (by simp [he])) i a b (by simpa using h)
      rw [List.set_cons_succ, List.flatten_cons, List.flatten_cons, ← ih]
      simp [Nat.succ_mul]

/-- each element: so many cells, each of one -/
def Elems (size : Nat) (es : List (List Value)) : Prop := ∀ e ∈ es, e.length = size ∧ ∀ u ∈ e, u.oneCell' = true
theorem Elems.len {size : Nat} {es : List (List Value)} (h : Elems size es) : ∀ e ∈ es, e.length = size := fun e he => (h e he).1
theorem Elems.one {size : Nat} {es : List (List Value)} (h : Elems size es) : ∀ u ∈ es.flatten, u.oneCell' = true := fun u hu => by
  obtain ⟨e, he, hu⟩ := List.mem_flatten.1 hu
  exact (h e he).2 u hu
theorem Elems.append {size : Nat} {es fs : List (List Value)} (h : Elems size es) (h' : Elems size fs) : Elems size (es ++ fs) := fun e he => (List.mem_append.1 he).elim (h e) (h' e)
theorem Elems.take {size : Nat} {es : List (List Value)} (h : Elems size es) (k : Nat) : Elems size (es.take k) := fun e he => h e (List.mem_of_mem_take he)
theorem Elems.drop {size : Nat} {es : List (List Value)} (h : Elems size es) (k : Nat) : Elems size (es.drop k) := fun e he => h e (List.mem_of_mem_drop he)

/-- The slice v reads as es. -/
structure Arr (w : World) (size : Nat) (ao : Option Addr) (n cap : Nat) (es : List (List Value)) : Prop where
  elems : Elems size es
  len : es.length = n
  fits : n ≤ cap
  max : cap ≤ maxLen
  lies : 0 < n → ∃ b off, ao = some ⟨b, off, none⟩ ∧ b < w.heap.size ∧ ∀ (i : Nat) e, es[i]? = some e → ∀ (j : Nat) u, e[j]? = some u → w.cell? ⟨b, off + i * size + j, none⟩ = some u

section
variable {w w' : World} {size n cap : Nat} {ao : Option Addr} {es : List (List Value)}

theorem Arr.below (h : Arr w size ao n cap es) (hb : Below w.heap.size w w') : Arr w' size ao n cap es :=
  ⟨h.elems, h.len, h.fits, h.max, fun h0 => let ⟨b, off, e, hl, hc⟩ := h.lies h0; ⟨b, off, e, by have := hb.size; omega, fun i e he j u hu => (hb.cell (p := ⟨b, _, none⟩) hl).trans (hc i e he j u hu)⟩⟩
theorem Arr.nil (w : World) (size : Nat) : Arr w size none 0 0 [] := ⟨fun _ h => by simp at h, rfl, Nat.le_refl _, Nat.zero_le _, fun h => by omega⟩
theorem Arr.take (h : Arr w size ao n cap es) {k : Nat} (hk : k ≤ n) : Arr w size ao k cap (es.take k) :=
  ⟨h.elems.take k, by rw [List.length_take, h.len]; omega, by have := h.fits; omega, h.max, fun h0 => let ⟨b, off, e, hl, hc⟩ := h.lies (by omega); ⟨b, off, e, hl, fun i x hx j u hu => hc i x (by
    have := (List.getElem?_eq_some_iff.1 hx).1
    rw [List.length_take] at this
    rwa [List.getElem?_take_of_lt (by omega)] at hx) j u hu⟩⟩
/-- One element's cells. -/
theorem Arr.at_ (h : Arr w size ao n cap es) {i : Nat} {e : List Value} (he : es[i]? = some e) : ∃ b off, ao = some ⟨b, off, none⟩ ∧ b < w.heap.size ∧ ∀ (j : Nat) u, e[j]? = some u → w.cell? ⟨b, off + i * size + j, none⟩ = some u := by
  have hi := (List.getElem?_eq_some_iff.1 he).1
  obtain ⟨b, off, e1, hl, hc⟩ := h.lies (by have := h.len; omega)
  exact ⟨b, off, e1, hl, fun j u hu => hc i e he j u hu⟩
theorem Arr.base (h : Arr w size ao n cap es) (h0 : 0 < n) : ∃ b off, ao = some ⟨b, off, none⟩ ∧ b < w.heap.size := let ⟨b, off, e, hl, _⟩ := h.lies h0; ⟨b, off, e, hl⟩

/-- A store into a row. -/
theorem Row.store {B : Nat} {T : TypeId} {g k : Nat} {xs : List Value} (h : Row w B T size (.slice (some ⟨g, 0, none⟩) n cap) n xs) {j : Nat} (hj : j < n * size) (u : Value) : Row (w.setCell ⟨g, j, none⟩ u) B T size (.slice (some ⟨g, 0, none⟩) n cap) n (xs.set j u) := by
  refine ⟨by rw [List.length_set]; exact h.1, ?_⟩
  rcases h.2 with ⟨h0, _⟩ | ⟨g', cap', cur, fr, h1, h2, h3, h4, h5, h6, h7, h8⟩
  · cases h0
  · cases h1
    refine .inr ⟨g, cap, cur.setIfInBounds j u, fr, rfl, h2, ?_, by simpa using h4, h5, h6, by simpa using h7, ?_⟩
    · rw [setCell_eq_setRow w g j cur T fr u h3]
      exact setRow_heap w g cur _ T fr h3
    · rw [Array.toList_setIfInBounds, List.take_set, h8]
theorem Row.free {B : Nat} {T : TypeId} {g : Nat} {xs : List Value} (h : Row w B T size (.slice (some ⟨g, 0, none⟩) n cap) n xs) {j : Nat} (hj : j < n * size) : w.frozen? ⟨g, j, none⟩ = false := by
  rcases h.2 with ⟨h0, _⟩ | ⟨g', cap', cur, fr, h1, h2, h3, h4, h5, h6, h7, h8⟩
  · cases h0
  · cases h1
    obtain ⟨lo, hi⟩ := fr
    have hc : j < cur.size := by rw [h7]; exact Nat.lt_of_lt_of_le hj (Nat.mul_le_mul_right _ h5)
    rcases h4 with h4 | h4
    · cases h4; simp [World.frozen?, h3]
    · simp only at h4; simp [World.frozen?, h3]; intro h; omega

/-- A row that a call owns reads as its elements. -/
theorem Row.arr {B : Nat} {T : TypeId} {v : Value} (hs : 0 < size) (h : Row w B T size v es.length es.flatten) (he : Elems size es) : ∃ ao cap, v = .slice ao es.length cap ∧ Arr w size ao es.length cap es := by
  rcases h.form with ⟨rfl, h0⟩ | ⟨g, cap, rfl, _, hg, hn, hm⟩
  · obtain rfl := List.eq_nil_of_length_eq_zero h0
    exact ⟨none, 0, rfl, Arr.nil w size⟩
  · refine ⟨_, cap, rfl, he, rfl, hn, hm, fun _ => ⟨g, 0, rfl, hg, fun i e hi j u hu => ?_⟩⟩
    have h1 := flatten_get he.len i e hi j u hu
    have h2 := (List.getElem?_eq_some_iff.1 h1).1
    rw [Nat.zero_add, h.cell _ (by rw [← flatten_len he.len]; exact h2)]
    exact h1
/-- .. behind an append. -/
theorem Row.arr_app {B : Nat} {T : TypeId} {v : Value} {m k : Nat} {fs : List (List Value)} (hs : 0 < size) (h : Row w B T size v (m + k) (es.flatten ++ fs.flatten)) (hm : es.length = m) (hk : fs.length = k) (he : Elems size es) (hf : Elems size fs) :
    ∃ ao cap, v = .slice ao (m + k) cap ∧ Arr w size ao (m + k) cap (es ++ fs) := by
  subst hm hk
  have := Row.arr (es := es ++ fs) hs (by rw [List.length_append, List.flatten_append]; exact h) (he.append hf)
  rwa [List.length_append] at this
theorem Row.arr_new {B : Nat} {T : TypeId} {v : Value} {k : Nat} {fs : List (List Value)} (hs : 0 < size) (h : Row w B T size v (0 + k) ([] ++ fs.flatten)) (hk : fs.length = k) (hf : Elems size fs) :
    ∃ ao cap, v = .slice ao k cap ∧ Arr w size ao k cap fs := by
  subst hk
  rw [Nat.zero_add, List.nil_append] at h
  exact Row.arr hs h hf
end

section
variable {P : Program}
theorem run_append_arr (w : World) (B : Nat) (t ty e : TypeId) (i : TypeInfo) (z : Value) (size bytes : Nat) (ht : P.underlying t = some (.slice e)) (hi : P.info? e = some i) (hz : i.zero = some z)
    (hsize : i.size = size) (hby : i.bytes = bytes) (hzs : z.cells.size = size) (hsz : 0 < size)
    (v : Value) (n : Nat) (xs : List Value) (hown : Row w B e size v n xs) {ao : Option Addr} {m c : Nat} {fs : List (List Value)} (hsrc : Arr w size ao m c fs)
    (hbytes : (n + m) * bytes ≤ 140737488355328) (h63 : n + m ≤ maxLen) (hbase : B ≤ w.heap.size) :
    ∃ v' w', (Builtin.append_ #[t, t] ty #[v, .slice ao m c]).run P w = .ok v' w' ∧ Row w' B e size v' (n + m) (xs ++ fs.flatten) ∧ w.grownBy w' v.ownBlock := by
  cases ao with
  | some a =>
    have hnews : ∀ j u, fs.flatten[j]? = some u → w.cell? (a.add j) = some u := by
      intro j u hu
      obtain ⟨x, hx, hju⟩ := flatten_inv hsz hsrc.elems.len j u hu
      obtain ⟨b, off, e1, hl, hc⟩ := hsrc.at_ hx
      cases e1
      have := hc _ u hju
      rw [Addr.add_lit]
      rw [show off + j / size * size + j % size = off + j by rw [Nat.add_assoc, Nat.mul_comm, Nat.div_add_mod]] at this
      exact this
    obtain ⟨v', w', r1, r2, r3, _⟩ := run_append_rowM (P := P) w B t ty e i z size bytes ht hi hz hsize hby hzs hsz v n xs hown a m c fs.flatten (by rw [flatten_len hsrc.elems.len, hsrc.len]) hnews hsrc.elems.one h63 hbytes hbase
    exact ⟨v', w', r1, r2, r3⟩
  | none =>
    have hm : m = 0 := by
      rcases Nat.eq_zero_or_pos m with h | h
      · exact h
      · obtain ⟨_, _, e1, _⟩ := hsrc.lies h; cases e1
    subst hm
    obtain rfl := List.eq_nil_of_length_eq_zero hsrc.len
    refine ⟨v, w, ?_, by simpa using hown, ⟨rfl, rfl, rfl, Nat.le_refl _, fun _ _ _ => rfl⟩⟩
    rcases hown.form with ⟨rfl, rfl⟩ | ⟨g, cap, rfl, _, _, hn, _⟩
    · simp [Builtin.append_, run_underlying ht, sizeOf, typeInfo, hi, Builtin.lenOf, Builtin.firstCells]
    · simp [Builtin.append_, run_underlying ht, sizeOf, typeInfo, hi, Builtin.lenOf, Builtin.firstCells, hn, storeCells]

/-- append(s, x...): a row of the call's own; x reads as a list. As an arm of the walk (behind at_builtin). -/
theorem wpList_append_arr (w : World) {ops : Array Oper} {rest : List Oper} {o : Oper} {a : Act} {Q : Exit → Act → World → Prop} (hgd : o.guard = none) (s x : Operand) (t : TypeId)
    (ho : o.op = .call { callee := .builtin .append, args := #[s, x], argTypes := #[t, t] })
    (B : Nat) (e : TypeId) (i : TypeInfo) (z : Value) (size bytes : Nat) (ht : P.underlying t = some (.slice e)) (hi : P.info? e = some i) (hz : i.zero = some z)
    (hsize : i.size = size) (hby : i.bytes = bytes) (hzs : z.cells.size = size) (hsz : 0 < size)
    (v : Value) (n : Nat) (xs : List Value) (hs : a.eval s = v) (hown : Row w B e size v n xs)
    {ao : Option Addr} {m c : Nat} (hx : a.eval x = .slice ao m c) {fs : List (List Value)} (hsrc : Arr w size ao m c fs)
    (hbytes : (n + m) * bytes ≤ 140737488355328) (h63 : n + m ≤ maxLen) (hbase : B ≤ w.heap.size)
    (h : ∀ v' w', Row w' B e size v' (n + m) (xs ++ fs.flatten) → Below B w w' → w.grownBy w' v.ownBlock → wpList P ops Q rest (a.put o.dst v') w') : wpList P ops Q (o :: rest) a w := by
  refine wpList_plain hgd fun K hK => ?_
  obtain ⟨v', w', hr, h2, h3⟩ := run_append_arr (P := P) w B t o.type e i z size bytes ht hi hz hsize hby hzs hsz v n xs hown hsrc hbytes h63 hbase
  unfold Oper.wp execOp
  simp only [ho, resolve, invoke, builtin, Sem.run_bind, Sem.run_pure, Result.andThen_ok, List.map_toArray, List.map_cons, List.map_nil, hs, hx, hr]
  exact hK _ _ (h v' w' h2 ((Below.refl _ _).grown h3 hbase fun k hk => (hown.lt k hk).1) h3)
end

end Go.Proofs.Ytihglmicgccgiaa
