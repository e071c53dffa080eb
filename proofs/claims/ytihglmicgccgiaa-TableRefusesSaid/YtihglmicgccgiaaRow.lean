/-
  Rows that a call owns, whatever mark a conversion has left behind their end: append, reading, carrying on. Plain laws over any program.
-/
import Derived.Laws.AppendOwn
import Derived.Laws.OwnMore
import Derived.Laws.MakeOwn
import Derived.Laws.IdiomStrings
import Derived.Lib.ConvBytes
import Derived.Lib.Strings
import Derived.Below
import Derived.OwnWalk
namespace Go.Proofs.Ytihglmicgccgiaa
open Go.RowKit

/-- v has n elements of type e (size cells each), the cells xs, in a block from B on, at its head, that may be written up to its end. -/
def Row (w : World) (B : Nat) (e : TypeId) (size : Nat) (v : Value) (n : Nat) (xs : List Value) : Prop :=
  xs.length = n * size ∧ ((v = .slice none 0 0 ∧ n = 0) ∨
    ∃ g cap cur fr, v = .slice (some ⟨g, 0, none⟩) n cap ∧ B ≤ g ∧ w.heap[g]? = some (.cells cur e fr) ∧ (fr = (0, 0) ∨ cur.size ≤ fr.1) ∧ n ≤ cap ∧ cap ≤ maxLen ∧ cur.size = cap * size ∧ cur.toList.take (n * size) = xs)

theorem Row.nil (w : World) (B : Nat) (e : TypeId) (size : Nat) : Row w B e size (.slice none 0 0) 0 [] := ⟨by simp, .inl ⟨rfl, rfl⟩⟩

theorem Row.of_own {w : World} {B : Nat} {e : TypeId} {size n : Nat} {v : Value} {xs : List Value} (h : w.ownsRow B e size v n xs) : Row w B e size v n xs :=
  ⟨h.1, h.2.imp id fun ⟨g, cap, cur, h1, h2, h3, h4, h5, h6, h7⟩ => ⟨g, cap, cur, (0, 0), h1, h2, h3, .inl rfl, h4, h5, h6, h7⟩⟩

section
variable {w w' : World} {B : Nat} {e : TypeId} {size n : Nat} {v : Value} {xs : List Value}

theorem Row.mono (h : Row w B e size v n xs) {B' : Nat} (hb : B' ≤ B) : Row w B' e size v n xs :=
  ⟨h.1, h.2.imp id fun ⟨g, cap, cur, fr, h1, h2, h3⟩ => ⟨g, cap, cur, fr, h1, by omega, h3⟩⟩

/-- It looks at its own block alone. -/
theorem Row.of_heap (h : Row w B e size v n xs) (hk : ∀ k, v.ownBlock = some k → w'.heap[k]? = w.heap[k]?) : Row w' B e size v n xs :=
  ⟨h.1, h.2.imp id fun ⟨g, cap, cur, fr, h1, h2, h3, h4⟩ => ⟨g, cap, cur, fr, h1, h2, by rw [hk g (by rw [h1]; rfl)]; exact h3, h4⟩⟩

theorem Row.lt (h : Row w B e size v n xs) : ∀ k, v.ownBlock = some k → B ≤ k ∧ k < w.heap.size := by
  intro k hk
  rcases h.2 with ⟨rfl, _⟩ | ⟨g, cap, cur, fr, rfl, h2, h3, _⟩
  · cases hk
  · cases hk
    exact ⟨h2, (Array.getElem?_eq_some_iff.1 h3).1⟩

theorem Row.below (h : Row w B e size v n xs) (hb : Below w.heap.size w w') : Row w' B e size v n xs :=
  h.of_heap fun k hk => hb.block k (h.lt k hk).2
theorem Row.alloc (h : Row w B e size v n xs) (o : Obj) : Row (w.alloc o) B e size v n xs := h.below ((Below.refl _ _).alloc (Nat.le_refl _) o)
theorem Row.drew (h : Row w B e size v n xs) : Row w.drew B e size v n xs := h.below ((Below.refl _ _).drew)
theorem Row.setCell (h : Row w B e size v n xs) {a : Addr} (ha : ∀ k, v.ownBlock = some k → k ≠ a.block) (u : Value) : Row (w.setCell a u) B e size v n xs :=
  h.of_heap fun k hk => Below.heap_setCell _ _ _ _ (ha k hk)

theorem Row.form (h : Row w B e size v n xs) : (v = .slice none 0 0 ∧ n = 0) ∨ ∃ g cap, v = .slice (some ⟨g, 0, none⟩) n cap ∧ B ≤ g ∧ g < w.heap.size ∧ n ≤ cap ∧ cap ≤ maxLen := by
  rcases h.2 with h0 | ⟨g, cap, cur, fr, h1, h2, h3, _, h5, h6, _⟩
  · exact .inl h0
  · exact .inr ⟨g, cap, h1, h2, (Array.getElem?_eq_some_iff.1 h3).1, h5, h6⟩

theorem Row.cell {g cap : Nat} (h : Row w B e size (.slice (some ⟨g, 0, none⟩) n cap) n xs) (j : Nat) (hj : j < n * size) : w.cell? ⟨g, j, none⟩ = xs[j]? := by
  rcases h.2 with ⟨h0, _⟩ | ⟨g', cap', cur, fr, h1, h2, h3, _, h5, h6, h7, h8⟩
  · cases h0
  · cases h1
    rw [← h8, List.getElem?_take_of_lt hj]
    simp [World.cell?, h3]

end

section
variable {P : Program}

/-- Stores side by side in a block that may be written there. -/
theorem run_storeCells_row (g : Nat) (t : TypeId) (fr : Nat × Nat) (vs : List Value) : ∀ (k : Nat) (i : Nat) (cur : Array Value) (w : World), w.heap[g]? = some (.cells cur t fr) → (fr = (0, 0) ∨ cur.size ≤ fr.1) → k + i + vs.length ≤ cur.size →
    (∀ v ∈ vs, v.oneCell' = true) →
    (storeCells ⟨g, k, none⟩ vs i).run P w = .ok () (w.setRow g (cur.toList.take (k + i) ++ vs ++ cur.toList.drop (k + i + vs.length)).toArray) := by
  induction vs with
  | nil =>
    intro k i cur w hg _ _ _
    simp only [storeCells, List.append_nil, List.length_nil, Nat.add_zero, List.take_append_drop, Array.toArray_toList]
    rw [setRow_self w g cur t fr hg]
    rfl
  | cons v rest ih =>
    intro k i cur w hg hf hl h1
    simp only [List.length_cons] at hl
    have hi : k + i < cur.size := by omega
    have hadd : (⟨g, k, none⟩ : Addr).add i = ⟨g, k + i, none⟩ := by unfold Addr.add; split <;> simp_all
    have hcell : w.cell? ⟨g, k + i, none⟩ = some cur[k + i] := by simp [World.cell?, hg, hi]
    have hfro : w.frozen? ⟨g, k + i, none⟩ = false := by
      obtain ⟨lo, hi'⟩ := fr
      rcases hf with hf | hf
      · cases hf; simp [World.frozen?, hg]
      · simp only at hf; simp [World.frozen?, hg]; intro h; omega
    have hst : (store ((⟨g, k, none⟩ : Addr).add i) v).run P w = .ok () (w.setRow g (cur.setIfInBounds (k + i) v)) := by
      rw [hadd, run_store P w _ v _ (h1 v (by simp)), hcell]
      simp [hfro, setCell_eq_setRow w g (k + i) cur t fr v hg]
    have r := ih k (i + 1) (cur.setIfInBounds (k + i) v) (w.setRow g (cur.setIfInBounds (k + i) v)) (setRow_heap w g cur _ t _ hg) (by simpa using hf) (by simp; omega) (fun x hx => h1 x (by simp [hx]))
    simp only [storeCells, Sem.run_bind, hst, Result.andThen_ok, r, setRow_setRow]
    congr 3
    have e := list_seg_step cur.toList (k + i) v rest (by simp; omega)
    simpa [Array.toList_setIfInBounds, Nat.add_assoc] using e

/-- APPEND to a row. -/
theorem run_append_rowM (w : World) (B : Nat) (t ty e : TypeId) (i : TypeInfo) (z : Value) (size bytes : Nat) (ht : P.underlying t = some (.slice e)) (hi : P.info? e = some i) (hz : i.zero = some z)
    (hsize : i.size = size) (hby : i.bytes = bytes) (hzs : z.cells.size = size) (hsz : 0 < size)
    (v : Value) (n : Nat) (xs : List Value) (hown : Row w B e size v n xs)
    (a : Addr) (m c : Nat) (news : List Value) (hl : news.length = m * size) (hnews : ∀ j u, news[j]? = some u → w.cell? (a.add j) = some u) (h1 : ∀ u ∈ news, u.oneCell' = true)
    (h63 : n + m ≤ maxLen) (hbytes : (n + m) * bytes ≤ 140737488355328) (hbase : B ≤ w.heap.size) :
    ∃ v' w', (Builtin.append_ #[t, t] ty #[v, .slice (some a) m c]).run P w = .ok v' w' ∧ Row w' B e size v' (n + m) (xs ++ news) ∧ w.grownBy w' v.ownBlock ∧ (v' = .slice none 0 0 ↔ v = .slice none 0 0 ∧ m = 0) := by
  have hlen : (xs ++ news).length = (n + m) * size := by rw [List.length_append, hown.1, hl, Nat.add_mul]
  rcases hown.2 with h0 | ⟨g, cap, cur, fr, rfl, hbg, hg, hfr, hnc, hcm, hcs, htake⟩
  · obtain ⟨v', w', r1, r2, r3, r4⟩ := run_append_own (P := P) w B t ty e i z size bytes ht hi hz hsize hby hzs hsz v n xs ⟨hown.1, .inl h0⟩ a m c news hl hnews h1 h63 hbytes hbase
    exact ⟨v', w', r1, .of_own r2, r3, r4⟩
  · by_cases hroom : n + m ≤ cap
    · have hfit : n * size + news.length ≤ cur.size := by rw [hl, hcs, ← Nat.add_mul]; exact Nat.mul_le_mul_right _ hroom
      have hf := run_firstCells_some (P := P) w i.size m a m c news (by rw [hsize]; exact hl) hnews
      have hst := run_storeCells_row (P := P) g e fr news (n * size) 0 cur w hg hfr (by simpa using hfit) h1
      simp only [Nat.add_zero] at hst
      rw [← hsize] at hst
      have hr : (Builtin.append_ #[t, t] ty #[.slice (some ⟨g, 0, none⟩) n cap, .slice (some a) m c]).run P w =
          .ok (.slice (some ⟨g, 0, none⟩) (n + m) cap) (w.setRow g (cur.toList.take (n * i.size) ++ news ++ cur.toList.drop (n * i.size + news.length)).toArray) := by
        simp [Builtin.append_, run_underlying ht, sizeOf, typeInfo, hi, Builtin.lenOf, hroom, hf, Addr.add_lit, hst]
      rw [hsize] at hr
      have hcz : (cur.toList.take (n * size) ++ news ++ cur.toList.drop (n * size + news.length)).toArray.size = cur.size := by
        simp only [List.size_toArray, List.length_append, List.length_take, List.length_drop, Array.length_toList]; omega
      refine ⟨_, _, hr, ⟨hlen, .inr ⟨g, cap, _, fr, rfl, hbg, setRow_heap w g cur _ e _ hg, by rw [hcz]; exact hfr, hroom, hcm, by rw [hcz]; exact hcs, ?_⟩⟩,
        ⟨rfl, rfl, rfl, by simp, fun k _ hk => setRow_other w g k _ (fun e => hk (by simp [Value.ownBlock, e]))⟩, by simp⟩
      rw [htake, ← hlen]
      exact List.take_left
    · have holds : ∀ j u, xs[j]? = some u → w.cell? ((⟨g, 0, none⟩ : Addr).add j) = some u := by
        intro j u hu
        have hj : j < xs.length := (List.getElem?_eq_some_iff.1 hu).1
        rw [Addr.add_lit, ← hu]
        have := hown.cell (g := g) j (by rw [← hown.1]; exact hj)
        simpa using this
      have hsm : n + m ≤ 9223372036854775807 := by simp only [maxLen] at h63; omega
      have hr := run_append_grow (P := P) w t ty e i z ht hi hz ⟨g, 0, none⟩ n cap xs (by rw [hsize]; exact hown.1) holds a m c news (by rw [hsize]; exact hl) hnews (by omega) (by omega) (growslice_fits (by omega) (by rw [hby]; exact hbytes))
      have hge := grownCap_ge w (n + m) cap e
      have hcm' : grownCap w (n + m) cap e ≤ maxLen := grownCap_le_maxLen w (n + m) cap e h63
      refine ⟨_, _, hr, ⟨hlen, .inr ⟨w.heap.size, _, _, (0, 0), rfl, hbase, heap_alloc_new w.drew _, .inl rfl, hge, hcm', ?_, ?_⟩⟩, ⟨rfl, rfl, rfl, by simp, fun k hk _ => heap_alloc_old w.drew _ k hk⟩, by simp⟩
      · simp only [Array.size_append, List.size_toArray, size_zeroCells, hzs, hown.1, hl, ← Nat.add_mul]
        congr 1
        omega
      · simp only [Array.toList_append, List.append_assoc]
        rw [← List.append_assoc, ← hlen]
        exact List.take_left

/-- As an arm of the walk (behind 'at_builtin'). -/
theorem wpList_append_row (w : World) {ops : Array Oper} {rest : List Oper} {o : Oper} {a : Act} {Q : Exit → Act → World → Prop} (hgd : o.guard = none) (s x : Operand) (t : TypeId)
    (ho : o.op = .call { callee := .builtin .append, args := #[s, x], argTypes := #[t, t] })
    (B : Nat) (e : TypeId) (i : TypeInfo) (z : Value) (size bytes : Nat) (ht : P.underlying t = some (.slice e)) (hi : P.info? e = some i) (hz : i.zero = some z)
    (hsize : i.size = size) (hby : i.bytes = bytes) (hzs : z.cells.size = size) (hsz : 0 < size)
    (v : Value) (n : Nat) (xs : List Value) (hs : a.eval s = v) (hown : Row w B e size v n xs)
    (ad : Addr) (m c : Nat) (news : List Value) (hx : a.eval x = .slice (some ad) m c) (hl : news.length = m * size) (hnews : ∀ j u, news[j]? = some u → w.cell? (ad.add j) = some u) (h1 : ∀ u ∈ news, u.oneCell' = true)
    (h63 : n + m ≤ maxLen) (hbytes : (n + m) * bytes ≤ 140737488355328) (hbase : B ≤ w.heap.size)
    (h : ∀ v' w', Row w' B e size v' (n + m) (xs ++ news) → w.grownBy w' v.ownBlock → (v' = .slice none 0 0 ↔ v = .slice none 0 0 ∧ m = 0) → wpList P ops Q rest (a.put o.dst v') w') : wpList P ops Q (o :: rest) a w := by
  refine wpList_plain hgd fun K hK => ?_
  obtain ⟨v', w', hr, h2, h3, h4⟩ := run_append_rowM (P := P) w B t o.type e i z size bytes ht hi hz hsize hby hzs hsz v n xs hown ad m c news hl hnews h1 h63 hbytes hbase
  unfold Oper.wp execOp
  simp only [ho, resolve, invoke, builtin, Sem.run_bind, Sem.run_pure, Result.andThen_ok, List.map_toArray, List.map_cons, List.map_nil, hs, hx, hr]
  exact hK _ _ (h v' w' h2 h3 h4)

end

/-- append(s, x, ..): the elements stand in a block that the statement itself has just laid. -/
theorem wpList_append_fresh {P : Program} (wr : World) {ops : Array Oper} {rest : List Oper} {o : Oper} {a : Act} {Q : Exit → Act → World → Prop} (hgd : o.guard = none) (s x : Operand) (t : TypeId)
    (ho : o.op = .call { callee := .builtin .append, args := #[s, x], argTypes := #[t, t] })
    (B : Nat) (e e' : TypeId) (i : TypeInfo) (z : Value) (size bytes : Nat) (ht : P.underlying t = some (.slice e)) (hi : P.info? e = some i) (hz : i.zero = some z)
    (hsize : i.size = size) (hby : i.bytes = bytes) (hzs : z.cells.size = size) (hsz : 0 < size)
    (v : Value) (n : Nat) (xs : List Value) (hs : a.eval s = v) (hown : Row wr B e size v n xs)
    (m c : Nat) (news : List Value) (hx : a.eval x = .slice (some ⟨wr.heap.size, 0, none⟩) m c) (hl : news.length = m * size) (h1 : ∀ u ∈ news, u.oneCell' = true)
    (h63 : n + m ≤ maxLen) (hbytes : (n + m) * bytes ≤ 140737488355328) (hB : B ≤ wr.heap.size)
    (h : ∀ v' w', Row w' B e size v' (n + m) (xs ++ news) → Below B wr w' → wr.grownBy w' v.ownBlock → wpList P ops Q rest (a.put o.dst v') w') : wpList P ops Q (o :: rest) a (wr.alloc (.cells news.toArray e')) := by
  refine wpList_append_row _ hgd s x t ho B e i z size bytes ht hi hz hsize hby hzs hsz v n xs hs (hown.alloc _) ⟨wr.heap.size, 0, none⟩ m c news hx hl ?_ h1 h63 hbytes (by rw [World.size_alloc]; omega) ?_
  · intro j u hu
    rw [Addr.add_lit]
    simp only [Nat.zero_add, World.cell?_alloc_new]
    simpa using hu
  · intro v' w' r g _
    have g0 : wr.grownBy (wr.alloc (.cells news.toArray e')) v.ownBlock := World.grownBy_alloc _ _ _
    have gb : Below B wr (wr.alloc (.cells news.toArray e')) := (Below.refl _ _).alloc hB _
    refine h v' w' r (gb.grown g (by rw [World.size_alloc]; omega) fun k hk => (hown.lt k hk).1) ⟨g.os.trans g0.os, g.tape.trans g0.tape, g.output.trans g0.output, Nat.le_trans g0.size g.size, fun k hk hne => ?_⟩
    rw [g.block k (by rw [World.size_alloc]; omega) hne]
    exact g0.block k hk hne

/-! ### Bytes -/
def bval (b : UInt8) : Value := .int .u8 (b.toNat : Int)

theorem map_snoc (l : List UInt8) (c : UInt8) : l.map bval ++ [bval c] = (l ++ [c]).map bval := by simp
theorem bval_of (c : Int) (h0 : 0 ≤ c) (h1 : c < 256) : bval (UInt8.ofNat c.toNat) = .int .u8 c := by
  unfold bval
  have : (UInt8.ofNat c.toNat).toNat = c.toNat := by simp [UInt8.toNat_ofNat']; omega
  rw [this]
  congr 1
  omega

/-- append(out, c) on a row of bytes. -/
theorem wpList_append_byte {P : Program} (wr : World) {ops : Array Oper} {rest : List Oper} {o : Oper} {a : Act} {Q : Exit → Act → World → Prop} (hgd : o.guard = none) (s x : Operand) (t : TypeId)
    (ho : o.op = .call { callee := .builtin .append, args := #[s, x], argTypes := #[t, t] })
    (B : Nat) (e e' : TypeId) (i : TypeInfo) (ht : P.underlying t = some (.slice e)) (hi : P.info? e = some i) (hz : i.zero = some (.int .u8 0)) (hsize : i.size = 1) (hby : i.bytes = 1)
    (v : Value) (l : List UInt8) (hs : a.eval s = v) (hown : Row wr B e 1 v l.length (l.map bval))
    (c : Int) (h0 : 0 ≤ c) (hc : c < 256) (hx : a.eval x = .slice (some ⟨wr.heap.size, 0, none⟩) 1 1)
    (hlen : l.length + 1 ≤ 140737488355328) (hB : B ≤ wr.heap.size)
    (h : ∀ v' w', Row w' B e 1 v' (l ++ [UInt8.ofNat c.toNat]).length ((l ++ [UInt8.ofNat c.toNat]).map bval) → Below B wr w' → wr.grownBy w' v.ownBlock → wpList P ops Q rest (a.put o.dst v') w') :
    wpList P ops Q (o :: rest) a (wr.alloc (.cells #[.int .u8 c] e')) := by
  refine wpList_append_fresh wr hgd s x t ho B e e' i (.int .u8 0) 1 1 ht hi hz hsize hby rfl (by decide) v l.length (l.map bval) hs hown 1 1 [.int .u8 c] hx rfl (by intro u hu; simp at hu; subst hu; rfl) (by unfold maxLen; omega) (by omega) hB ?_
  intro v' w' r b g
  refine h v' w' ?_ b g
  rw [← map_snoc, bval_of c h0 hc]
  simpa using r

/-- append(out, c, d, ..) on a row of bytes. -/
theorem wpList_append_bytes {P : Program} (wr : World) {ops : Array Oper} {rest : List Oper} {o : Oper} {a : Act} {Q : Exit → Act → World → Prop} (hgd : o.guard = none) (s x : Operand) (t : TypeId)
    (ho : o.op = .call { callee := .builtin .append, args := #[s, x], argTypes := #[t, t] })
    (B : Nat) (e e' : TypeId) (i : TypeInfo) (ht : P.underlying t = some (.slice e)) (hi : P.info? e = some i) (hz : i.zero = some (.int .u8 0)) (hsize : i.size = 1) (hby : i.bytes = 1)
    (v : Value) (l : List UInt8) (hs : a.eval s = v) (hown : Row wr B e 1 v l.length (l.map bval))
    (cs : List UInt8) (m : Nat) (hm : cs.length = m) (hx : a.eval x = .slice (some ⟨wr.heap.size, 0, none⟩) m m)
    (hlen : l.length + m ≤ 140737488355328) (hB : B ≤ wr.heap.size)
    (h : ∀ v' w', Row w' B e 1 v' (l ++ cs).length ((l ++ cs).map bval) → Below B wr w' → wr.grownBy w' v.ownBlock → wpList P ops Q rest (a.put o.dst v') w') :
    wpList P ops Q (o :: rest) a (wr.alloc (.cells (cs.map bval).toArray e')) := by
  subst hm
  refine wpList_append_fresh wr hgd s x t ho B e e' i (.int .u8 0) 1 1 ht hi hz hsize hby rfl (by decide) v l.length (l.map bval) hs hown cs.length cs.length (cs.map bval) hx (by simp) (by intro u hu; obtain ⟨c, _, rfl⟩ := List.mem_map.1 hu; rfl) (by unfold maxLen; omega) (by omega) hB ?_
  intro v' w' r b g
  refine h v' w' ?_ b g
  rw [List.map_append, List.length_append]
  exact r

/-- '[]byte(s)': a new row of the string's bytes. -/
theorem convert_row {P : Program} (w : World) (src dst e : TypeId) (s : ByteArray) (hs : P.underlying src = some .string) (hd : P.underlying dst = some (.slice e)) (he : P.underlying e = some (.int .u8)) (hm : s.size ≤ maxLen) :
    ∃ v w', (convert src dst (.string s)).run P w = .ok v w' ∧ Row w' w.heap.size e 1 v s.toList.length (s.toList.map bval) ∧ Below w.heap.size w w' := by
  refine ⟨_, _, Lib.run_convert_string_bytes w src dst e s hs hd he, ?_, ?_⟩
  · have hl : s.toList.length = s.size := by rw [Lib.toList_data]; rfl
    have hge := grownCap_ge w s.size 0 e
    have hcs : (Lib.bytesCells w e s).size = grownCap w s.size 0 e := by
      simp only [Lib.bytesCells, Array.size_append, Array.size_map, Array.size_replicate]
      have : s.data.size = s.size := rfl
      omega
    refine ⟨by simp, .inr ⟨w.heap.size, grownCap w s.size 0 e, Lib.bytesCells w e s, _, by rw [hl], Nat.le_refl _, Lib.bytesWorld_at_new w e s, .inr (Nat.le_refl _), by omega, grownCap_le_maxLen w s.size 0 e hm, by omega, ?_⟩⟩
    simp only [Lib.bytesCells, Array.toList_append, Nat.mul_one]
    rw [List.take_left' (by rw [Lib.toList_data]; simp)]
    rw [Lib.toList_data]
    simp only [Array.toList_map]
    rfl
  · have := Lib.bytesWorld_size w e s
    exact ⟨rfl, rfl, rfl, by omega, fun k hk => Lib.bytesWorld_at_old w e s k hk⟩

/-- 'string(b)' of a row of bytes. -/
theorem convert_back {P : Program} (w : World) (src dst e : TypeId) (B : Nat) (v : Value) (l : List UInt8) (hs : P.underlying src = some (.slice e)) (he : P.underlying e = some (.int .u8)) (hd : P.underlying dst = some .string)
    (h : Row w B e 1 v l.length (l.map bval)) : (convert src dst v).run P w = .ok (.string ⟨l.toArray⟩) w := by
  rcases h.form with ⟨rfl, h0⟩ | ⟨g, cap, rfl, _⟩
  · obtain rfl : l = [] := List.eq_nil_of_length_eq_zero h0
    have := run_convert_bytes_string (P := P) w src dst e none 0 0 hs he hd
    rw [this]
    rfl
  · refine run_convert_bytes_back w src dst e ⟨g, 0, none⟩ cap l hs he hd fun j hj => ?_
    rw [Addr.add_lit]
    have := h.cell j (by simpa using hj)
    simp only [Nat.zero_add] at this ⊢
    rw [this]
    simp [bval, hj]

end Go.Proofs.Ytihglmicgccgiaa
