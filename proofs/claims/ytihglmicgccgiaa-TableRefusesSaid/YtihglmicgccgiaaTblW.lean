/-
  append on a row of the call's own: where the new slice lies; rows of slices of cells.
-/
import Derived.Test.YtihglmicgccgiaaTblF
import Derived.Test.YtihglmicgccgiaaTblM
namespace Go.Proofs.Ytihglmicgccgiaa
open Go.RowKit Go.Shelf

theorem run_append_T {P : Program} (w : World) (t ty e : TypeId) (i : TypeInfo) (z : Value) (size bytes : Nat) (ht : P.underlying t = some (.slice e)) (hi : P.info? e = some i) (hz : i.zero = some z)
    (hsize : i.size = size) (hby : i.bytes = bytes) (hzs : z.cells.size = size) (hsz : 0 < size) (v : Value) (n : Nat) (xs : List Value) (B : Nat) (hown : Row w B e size v n xs) (a : Addr) (m c : Nat) (news : List Value)
    (hl : news.length = m * size) (hnews : ∀ j u, news[j]? = some u → w.cell? (a.add j) = some u) (h1c : ∀ u ∈ news, u.oneCell' = true) (hm : n + m ≤ maxLen) (hb2 : (n + m) * bytes ≤ 140737488355328) (hB : B ≤ w.heap.size) :
    ∃ v' w', (Builtin.append_ #[t, t] ty #[v, .slice (some a) m c]).run P w = .ok v' w' ∧ Row w' B e size v' (n + m) (xs ++ news) ∧ w.grownBy w' v.ownBlock ∧ ∀ k, v'.ownBlock = some k → v.ownBlock = some k ∨ w.heap.size ≤ k := by
  rcases hown.form with ⟨rfl, h0⟩ | ⟨g, cap, rfl, _, hgl, hnc, hcm⟩
  · obtain ⟨v', w', h1, h2, h3, _⟩ := run_append_rowM (P := P) w w.heap.size t ty e i z size bytes ht hi hz hsize hby hzs hsz (.slice none 0 0) n xs ⟨hown.1, .inl ⟨rfl, h0⟩⟩ a m c news hl hnews h1c hm hb2 (Nat.le_refl _)
    exact ⟨v', w', h1, h2.mono hB, h3, fun k hk => .inr (h2.lt k hk).1⟩
  · obtain ⟨v', w', h1, h2, h3, _⟩ := run_append_rowM (P := P) w B t ty e i z size bytes ht hi hz hsize hby hzs hsz _ n xs hown a m c news hl hnews h1c hm hb2 hB
    refine ⟨v', w', h1, h2, h3, fun k hk => ?_⟩
    by_cases hroom : n + m ≤ cap
    · refine .inl ?_
      rcases hown.2 with ⟨e0, _⟩ | ⟨g', cap', cur, fr, e1, hbg, hg, hfr, hnc', hcm', hcs, htake⟩
      · cases e0
      · cases e1
        have hfit : n * size + news.length ≤ cur.size := by rw [hl, hcs, ← Nat.add_mul]; exact Nat.mul_le_mul_right _ hroom
        have hf := run_firstCells_some (P := P) w i.size m a m c news (by rw [hsize]; exact hl) hnews
        have hst := run_storeCells_row (P := P) g e fr news (n * size) 0 cur w hg hfr (by simpa using hfit) h1c
        simp only [Nat.add_zero] at hst
        rw [← hsize] at hst
        have hr : (Builtin.append_ #[t, t] ty #[.slice (some ⟨g, 0, none⟩) n cap, .slice (some a) m c]).run P w =
            .ok (.slice (some ⟨g, 0, none⟩) (n + m) cap) (w.setRow g (cur.toList.take (n * i.size) ++ news ++ cur.toList.drop (n * i.size + news.length)).toArray) := by
          simp [Builtin.append_, run_underlying ht, sizeOf, typeInfo, hi, Builtin.lenOf, hroom, hf, Addr.add_lit, hst]
        rw [hr] at h1
        cases h1
        exact hk
    · refine .inr ?_
      have holds : ∀ j u, xs[j]? = some u → w.cell? ((⟨g, 0, none⟩ : Addr).add j) = some u := by
        intro j u hu
        have hj : j < xs.length := (List.getElem?_eq_some_iff.1 hu).1
        rw [Addr.add_lit, ← hu]
        have := hown.cell (g := g) j (by rw [← hown.1]; exact hj)
        simpa using this
      have hsm : n + m ≤ 9223372036854775807 := by unfold maxLen at hm; omega
      have hr := run_append_grow (P := P) w t ty e i z ht hi hz ⟨g, 0, none⟩ n cap xs (by rw [hsize]; exact hown.1) holds a m c news (by rw [hsize]; exact hl) hnews (by omega) (by omega) (growslice_fits (by omega) (by rw [hby]; exact hb2))
      rw [hr] at h1
      cases h1
      cases hk
      exact Nat.le_refl _

theorem Arr.dropT {w : World} {size n cap : Nat} {b off : Nat} {es : List (List Value)} (h : Arr w size (some ⟨b, off, none⟩) n cap es) (k : Nat) (hk : k ≤ n) {o : Nat} (ho : o = off + k * size) : Arr w size (some ⟨b, o, none⟩) (n - k) (cap - k) (es.drop k) := by
  subst ho
  refine ⟨h.elems.drop k, by rw [List.length_drop, h.len], by have := h.fits; omega, by have := h.max; omega, fun h0 => ?_⟩
  obtain ⟨b', off', e, hl, hc⟩ := h.lies (by omega)
  cases e
  refine ⟨b, off + k * size, rfl, hl, fun i e he j u hu => ?_⟩
  rw [List.getElem?_drop] at he
  have := hc (k + i) e he j u hu
  rwa [show off + k * size + i * size + j = off + (k + i) * size + j by rw [Nat.add_mul]; omega]
/-- a part of cells -/
theorem Cells.part {w : World} {n cap : Nat} {b off : Nat} {cs : List CellA} (h : Cells w (some ⟨b, off, none⟩) n cap cs) (fr i : Nat) (hf : fr ≤ i) (hi : i ≤ n) {o m c : Nat} (ho : o = off + fr * 5) (hm : m = i - fr) (hc : c = cap - fr) : Cells w (some ⟨b, o, none⟩) m c ((cs.take i).drop fr) := by
  subst hm hc
  have h1 := Arr.dropT (Arr.take h hi) fr hf ho
  unfold Cells
  rw [List.map_drop, List.map_take]
  exact h1
theorem Cells.grown {w w' : World} {a : Option Addr} {n c : Nat} {cs : List CellA} (h : Cells w a n c cs) {r : Option Nat} (hg : w.grownBy w' r) (hr : ∀ p, a = some p → r ≠ some p.block) : Cells w' a n c cs :=
  ⟨Arr.elems h, Arr.len h, Arr.fits h, Arr.max h, fun h0 => by
    obtain ⟨b, off, e, hl, hc⟩ := Arr.lies h h0
    exact ⟨b, off, e, Nat.lt_of_lt_of_le hl hg.size, fun i x hx j u hu => (grown_cell hg hl (hr _ e)).1.trans (hc i x hx j u hu)⟩⟩

/-- a row of the call's own of blocks of cells; no block of cells is the row's, or N's -/
structure OwnB (w : World) (B : Nat) (v : Value) (bss : List (List CellA)) (N : Nat → Prop := fun _ => False) : Prop where
  ex : ∃ es : List Value, es.length = bss.length ∧ Row w B 32 1 v bss.length es ∧ ∀ (i : Nat) e bs, es[i]? = some e → bss[i]? = some bs → ∃ a c, e = .slice a bs.length c ∧ Cells w a bs.length c bs ∧ ∀ p, a = some p → v.ownBlock ≠ some p.block ∧ p.block < w.heap.size ∧ ¬ N p.block
section
variable {w w' : World} {B : Nat} {v : Value} {bss : List (List CellA)} {N : Nat → Prop}
theorem OwnB.nil (w : World) (B : Nat) (N : Nat → Prop := fun _ => False) : OwnB w B (.slice none 0 0) [] N := ⟨⟨[], rfl, Row.nil _ _ _ _, fun i e bs he => by cases he⟩⟩
theorem OwnB.lt (h : OwnB w B v bss N) : ∀ k, v.ownBlock = some k → B ≤ k ∧ k < w.heap.size := by
  obtain ⟨es, h1, h2, h3⟩ := h.ex
  exact h2.lt
theorem OwnB.form (h : OwnB w B v bss N) : ∃ ao cap, v = .slice ao bss.length cap := by
  obtain ⟨es, h1, h2, h3⟩ := h.ex
  exact row_slice h2
theorem OwnB.below (h : OwnB w B v bss N) (hb : Below w.heap.size w w') : OwnB w' B v bss N := by
  obtain ⟨es, h1, h2, h3⟩ := h.ex
  refine ⟨es, h1, h2.below hb, fun i e bs he hbs => ?_⟩
  obtain ⟨a, c, h4, h5, h6⟩ := h3 i e bs he hbs
  exact ⟨a, c, h4, Arr.below h5 hb, fun p hp => ⟨(h6 p hp).1, Nat.lt_of_lt_of_le (h6 p hp).2.1 hb.size, (h6 p hp).2.2⟩⟩
/-- another block, one of N's, may change -/
theorem OwnB.other (h : OwnB w B v bss N) {r : Option Nat} (hg : w.grownBy w' r) (hr : ∀ k, v.ownBlock = some k → r ≠ some k) (hN : ∀ k, r = some k → N k) : OwnB w' B v bss N := by
  obtain ⟨es, h1, h2, h3⟩ := h.ex
  refine ⟨es, h1, h2.of_heap (fun k hk => hg.block k (h2.lt k hk).2 (fun e => hr k hk e.symm)), fun i e bs he hbs => ?_⟩
  obtain ⟨a, c, h4, h5, h6⟩ := h3 i e bs he hbs
  exact ⟨a, c, h4, h5.grown hg (fun p hp hk => (h6 p hp).2.2 (hN _ hk)), fun p hp => ⟨(h6 p hp).1, Nat.lt_of_lt_of_le (h6 p hp).2.1 hg.size, (h6 p hp).2.2⟩⟩
theorem OwnB.reN (h : OwnB w B v bss N) {M : Nat → Prop} (hM : ∀ k, k < w.heap.size → M k → N k) : OwnB w B v bss M := by
  obtain ⟨es, h1, h2, h3⟩ := h.ex
  refine ⟨es, h1, h2, fun i e bs he hbs => ?_⟩
  obtain ⟨a, c, h4, h5, h6⟩ := h3 i e bs he hbs
  exact ⟨a, c, h4, h5, fun p hp => ⟨(h6 p hp).1, (h6 p hp).2.1, fun hm => (h6 p hp).2.2 (hM _ (h6 p hp).2.1 hm)⟩⟩
end
theorem OwnB.bb {w : World} {B : Nat} {ao : Option Addr} {n cap : Nat} {bss : List (List CellA)} {N : Nat → Prop} (h : OwnB w B (.slice ao n cap) bss N) : BB w ao n cap bss := by
  obtain ⟨es, h1, h2, h3⟩ := h.ex
  have he : ∀ i e, es[i]? = some e → ∃ a m c, e = Value.slice a m c := fun i e hi => by
    have hlt := (List.getElem?_eq_some_iff.1 hi).1
    obtain ⟨a, c, h4, _⟩ := h3 i e bss[i] hi (List.getElem?_eq_getElem (by omega))
    exact ⟨_, _, _, h4⟩
  have hf : (es.map fun e => [e]).flatten = es := by
    clear h1 h2 h3 he
    induction es with
    | nil => rfl
    | cons x m ih => simp [ih]
  obtain ⟨ao', cap', h4, h5⟩ := Row.arr (size := 1) (es := es.map fun e => [e]) (by decide) (by rw [List.length_map, hf, h1]; exact h2) (fun x hx => by
    obtain ⟨b, hb, rfl⟩ := List.mem_map.1 hx
    obtain ⟨i, hi⟩ := List.mem_iff_getElem?.1 hb
    obtain ⟨a, m, c, rfl⟩ := he i b hi
    exact ⟨rfl, fun u hu => by rw [List.mem_singleton.1 hu]; rfl⟩)
  rw [List.length_map] at h4 h5
  cases h4
  refine ⟨es, h1, h5, fun i e bs hi hbs => ?_⟩
  obtain ⟨a, c, h6, h7, _⟩ := h3 i e bs hi hbs
  exact ⟨a, c, h6, h7⟩
theorem Try.info_cells : (Try.prog.info? 32).map (fun i => (i.zero, i.size, i.bytes)) = some (some (.slice none 0 0), 1, 24) := by kernel_rfl
/-- append(out, bs): as an arm of the walk (behind at_builtin) -/
theorem wpList_append_B {P : Program} (wr : World) {ops : Array Oper} {rest : List Oper} {o : Oper} {a : Act} {Q : Exit → Act → World → Prop} (hgd : o.guard = none) (s x : Operand) (t : TypeId)
    (ho : o.op = .call { callee := .builtin .append, args := #[s, x], argTypes := #[t, t] })
    (B : Nat) (e' : TypeId) (i : TypeInfo) (ht : P.underlying t = some (.slice 32)) (hi : P.info? 32 = some i) (hz : i.zero = some (.slice none 0 0)) (hsize : i.size = 1) (hby : i.bytes = 24)
    (v : Value) (bss : List (List CellA)) (hs : a.eval s = v) {N : Nat → Prop} (hown : OwnB wr B v bss N)
    (ad : Option Addr) (m c : Nat) (bs : List CellA) (hbs : Cells wr ad m c bs) (had : ∀ p, ad = some p → v.ownBlock ≠ some p.block ∧ p.block < wr.heap.size ∧ ¬ N p.block) (hx : a.eval x = .slice (some ⟨wr.heap.size, 0, none⟩) 1 1)
    (hlen : bss.length ≤ 1099511627776) (hB : B ≤ wr.heap.size)
    (h : ∀ v' w', OwnB w' B v' (bss ++ [bs]) N → Below B wr w' → wr.grownBy w' v.ownBlock → (∀ k, v'.ownBlock = some k → v.ownBlock = some k ∨ wr.heap.size ≤ k) → wpList P ops Q rest (a.put o.dst v') w') :
    wpList P ops Q (o :: rest) a (wr.alloc (.cells #[.slice ad m c] e')) := by
  refine wpList_plain hgd fun K hK => ?_
  obtain ⟨es, h1, h2, h3⟩ := hown.ex
  have hA : Below wr.heap.size wr (wr.alloc (.cells #[.slice ad m c] e')) := (Below.refl _ _).alloc (Nat.le_refl _) _
  have g0 : wr.grownBy (wr.alloc (.cells #[.slice ad m c] e')) v.ownBlock := World.grownBy_alloc _ _ _
  obtain ⟨v', w', hr, r2, r3, r4⟩ := run_append_T (P := P) (wr.alloc (.cells #[.slice ad m c] e')) t o.type 32 i (.slice none 0 0) 1 24 ht hi hz hsize hby rfl (by decide) v bss.length es B (h2.below hA) ⟨wr.heap.size, 0, none⟩ 1 1 [.slice ad m c] rfl (by
      intro j u hu
      match j, hu with
      | 0, hu =>
        cases hu
        rw [Addr.add_lit]
        exact World.cell?_alloc_mark wr _ _ (0, 0) 0
      | j + 1, hu => simp at hu) (by intro u hu; rw [List.mem_singleton.1 hu]; rfl) (by unfold maxLen; omega) (by omega) (by rw [World.size_alloc]; omega)
  have hml : m = bs.length := by have := Cells.len hbs; omega
  have g2 : wr.grownBy w' v.ownBlock := ⟨r3.os.trans g0.os, r3.tape.trans g0.tape, r3.output.trans g0.output, Nat.le_trans g0.size r3.size, fun k hk hne => by
    rw [r3.block k (by rw [World.size_alloc]; omega) hne]
    exact g0.block k hk hne⟩
  unfold Oper.wp execOp
  simp only [ho, resolve, invoke, builtin, Sem.run_bind, Sem.run_pure, Result.andThen_ok, List.map_toArray, List.map_cons, List.map_nil, hs, hx, hr]
  have own4 : ∀ k, v'.ownBlock = some k → v.ownBlock = some k ∨ wr.heap.size ≤ k := fun k hk => (r4 k hk).imp id fun h => by rw [World.size_alloc] at h; omega
  refine hK _ _ (h v' w' ⟨es ++ [.slice ad m c], by simp [h1], by rw [List.length_append]; exact r2, fun i e cs he hcs => ?_⟩ ((Below.refl _ _).grown g2 hB fun k hk => (h2.lt k hk).1) g2 own4)
  by_cases hi2 : i < es.length
  · rw [List.getElem?_append_left hi2] at he
    rw [List.getElem?_append_left (by omega)] at hcs
    obtain ⟨a1, c1, h4, h5, h6⟩ := h3 i e cs he hcs
    refine ⟨a1, c1, h4, h5.grown g2 (fun p hp => (h6 p hp).1), fun p hp => ⟨fun hk => ?_, Nat.lt_of_lt_of_le (h6 p hp).2.1 g2.size, (h6 p hp).2.2⟩⟩
    rcases own4 _ hk with h7 | h7
    · exact (h6 p hp).1 h7
    · have := (h6 p hp).2.1; omega
  · have hie : i = es.length := by
      have := (List.getElem?_eq_some_iff.1 he).1
      simp at this; omega
    subst hie
    rw [List.getElem?_append_right (Nat.le_refl _), Nat.sub_self] at he
    rw [h1, List.getElem?_append_right (Nat.le_refl _), Nat.sub_self] at hcs
    cases he
    cases hcs
    rw [hml] at hbs ⊢
    refine ⟨ad, c, rfl, hbs.grown g2 (fun p hp => (had p hp).1), fun p hp => ⟨fun hk => ?_, Nat.lt_of_lt_of_le (had p hp).2.1 g2.size, (had p hp).2.2⟩⟩
    rcases own4 _ hk with h7 | h7
    · exact (had p hp).1 h7
    · have := (had p hp).2.1; omega
/-- append(all, l...): a row of the call's own of cells; l is not empty. As an arm of the walk (behind at_builtin). -/
theorem wpList_append_C {P : Program} (wr : World) {ops : Array Oper} {rest : List Oper} {o : Oper} {a : Act} {Q : Exit → Act → World → Prop} (hgd : o.guard = none) (s x : Operand) (t : TypeId)
    (ho : o.op = .call { callee := .builtin .append, args := #[s, x], argTypes := #[t, t] })
    (B : Nat) (i : TypeInfo) (z : Value) (bytes : Nat) (ht : P.underlying t = some (.slice 31)) (hi : P.info? 31 = some i) (hz : i.zero = some z) (hsize : i.size = 5) (hby : i.bytes = bytes) (hzs : z.cells.size = 5) (hb64 : bytes ≤ 1000)
    (v : Value) (xs : List CellA) (hs : a.eval s = v) (hown : Own wr B v xs)
    (ad : Addr) (m c : Nat) (cs : List CellA) (hcs : Cells wr (some ad) m c cs) (hne : 0 < m) (hx : a.eval x = .slice (some ad) m c)
    (hlen : xs.length + m ≤ 1000000) (hB : B ≤ wr.heap.size)
    (h : ∀ v' w', Own w' B v' (xs ++ cs) → Below B wr w' → wr.grownBy w' v.ownBlock → (∀ k, v'.ownBlock = some k → v.ownBlock = some k ∨ wr.heap.size ≤ k) → wpList P ops Q rest (a.put o.dst v') w') :
    wpList P ops Q (o :: rest) a wr := by
  refine wpList_plain hgd fun K hK => ?_
  have hl := Cells.len hcs
  have hel := Arr.elems hcs
  have hnews : ∀ j u, (cs.map cellE).flatten[j]? = some u → wr.cell? (ad.add j) = some u := by
    intro j u hu
    obtain ⟨e, he, hju⟩ := flatten_inv (by decide) hel.len j u hu
    obtain ⟨b, off, e1, hl, hc⟩ := Arr.at_ hcs he
    cases e1
    have := hc _ u hju
    rw [Addr.add_lit]
    rw [show off + j / 5 * 5 + j % 5 = off + j by rw [Nat.add_assoc, Nat.mul_comm, Nat.div_add_mod]] at this
    exact this
  have hby2 : (xs.length + m) * bytes ≤ 140737488355328 := Nat.le_trans (Nat.mul_le_mul hlen hb64) (by decide)
  obtain ⟨v', w', hr, r2, r3, r4⟩ := run_append_T (P := P) wr t o.type 31 i z 5 bytes ht hi hz hsize hby hzs (by decide) v xs.length (xs.map cellE).flatten B hown ad m c (cs.map cellE).flatten (by rw [flatten_len hel.len, List.length_map, hl]) hnews hel.one (by unfold maxLen; omega) hby2 hB
  unfold Oper.wp execOp
  simp only [ho, resolve, invoke, builtin, Sem.run_bind, Sem.run_pure, Result.andThen_ok, List.map_toArray, List.map_cons, List.map_nil, hs, hx, hr]
  refine hK _ _ (h v' w' ?_ ((Below.refl _ _).grown r3 hB fun k hk => (Row.lt hown k hk).1) r3 r4)
  unfold Own
  rw [List.length_append, List.map_append, List.flatten_append, hl]
  exact r2
end Go.Proofs.Ytihglmicgccgiaa

/-
  Tables: cells parted into blocks; the walks of parts and Write.
-/
namespace Go.Proofs.Ytihglmicgccgiaa
open Go.RowKit Go.Shelf

def pcons (b : List CellA) (r : Int × List (List CellA)) : Int × List (List CellA) := if r.1 = 0 then (0, b :: r.2) else r
/-- what parts answers: an error, or blocks -/
def partsG (most : Int) : List CellA → List CellA → Int × List (List CellA)
  | now, [] => (0, if now = [] then [] else [now])
  | now, c :: rest =>
    if (buildR (now ++ [c])).2 = 0 then
      if most ≤ ((buildR (now ++ [c])).1.length : Int) then pcons (now ++ [c]) (partsG most [] rest) else partsG most (now ++ [c]) rest
    else if now = [] then ((buildR [c]).2, [])
    else if (buildR [c]).2 = 0 then
      if most ≤ ((buildR [c]).1.length : Int) then pcons now (pcons [c] (partsG most [] rest)) else pcons now (partsG most [c] rest)
    else ((buildR [c]).2, [])
def joinP (obs : List (List CellA)) (r : Int × List (List CellA)) : Int × List (List CellA) := if r.1 = 0 then (0, obs ++ r.2) else r
theorem joinP_nil (r : Int × List (List CellA)) : joinP [] r = r := by
  unfold joinP
  split
  · rename_i h; rw [← h]; rfl
  · rfl
theorem joinP_pcons (obs : List (List CellA)) (b : List CellA) (r : Int × List (List CellA)) : joinP obs (pcons b r) = joinP (obs ++ [b]) r := by
  unfold joinP pcons
  by_cases h : r.1 = 0
  · rw [if_pos h, if_pos h, if_pos rfl]; simp
  · rw [if_neg h, if_neg h, if_neg h]
theorem partsG_fail {most : Int} {now : List CellA} {x : CellA} {rest : List CellA} (hn : now ≠ []) (hf : (buildR (now ++ [x])).2 ≠ 0) : partsG most now (x :: rest) = pcons now (partsG most [] (x :: rest)) := by
  rw [partsG, if_neg hf, if_neg hn, partsG, List.nil_append]
  by_cases h : (buildR [x]).2 = 0
  · rw [if_pos h, if_pos h]
    split <;> rfl
  · rw [if_neg h, if_neg h, if_pos rfl]
    unfold pcons
    rw [if_neg h]
theorem partsG_bad {most : Int} {x : CellA} {rest : List CellA} (hf : (buildR [x]).2 ≠ 0) : partsG most [] (x :: rest) = ((buildR [x]).2, []) := by
  rw [partsG, List.nil_append, if_neg hf, if_pos rfl]
theorem partsG_big {most : Int} {now : List CellA} {x : CellA} {rest : List CellA} (h0 : (buildR (now ++ [x])).2 = 0) (hm : most ≤ ((buildR (now ++ [x])).1.length : Int)) : partsG most now (x :: rest) = pcons (now ++ [x]) (partsG most [] rest) := by
  rw [partsG, if_pos h0, if_pos hm]
theorem partsG_small {most : Int} {now : List CellA} {x : CellA} {rest : List CellA} (h0 : (buildR (now ++ [x])).2 = 0) (hm : ¬ most ≤ ((buildR (now ++ [x])).1.length : Int)) : partsG most now (x :: rest) = partsG most (now ++ [x]) rest := by
  rw [partsG, if_pos h0, if_neg hm]

set_option maxRecDepth 100000 in
set_option maxHeartbeats 8000000 in
theorem parts_cells (ao : Option Addr) (n cap : Nat) (cs : List CellA) (most : Int) (w : World) (h : Cells w ao n cap cs) (hok : ∀ c ∈ cs, c.Ok) (hm1 : 0 ≤ most) (hm2 : most ≤ 1099511627776) (hn : n ≤ 1000000) :
    Calls Try.prog 18 #[.slice ao n cap, .int .i64 most] w fun e w' => ∃ v, e = .returned (.tuple #[v, .int .i64 (partsG most [] cs).1]) ∧ OwnB w' w.heap.size v (partsG most [] cs).2 ∧ Below w.heap.size w w' := by
  obtain ⟨i0, hi, iz0, iz1, iz2⟩ := info_parts Try.info_cells
  have Hi := Lib.hid hi
  obtain ⟨R, hR⟩ : ∃ R, R = partsG most [] cs := ⟨_, rfl⟩
  rw [← hR]
  have hl := h.len
  have hc1 := Arr.fits h
  have hc2 := Arr.max h
  unfold maxLen at hc2
  have Hl := Lib.hid hl
  have H := Lib.hid h
  have Hok := Lib.hid hok
  have HR0 : Hid (R = joinP [] (partsG most ((cs.take 0).drop 0) (cs.drop 0))) := Lib.hid (by rw [joinP_nil]; exact hR)
  clear h hl hok hi hR
  go_enter Try.func18, Try.ntmps18
  go_wp2
  go_loopw [6, 7, 8] (fun v f i wr => ∃ (k g : Nat) (obs : List (List CellA)), g ≤ k ∧ k ≤ n ∧ obs.length ≤ g ∧ f = .int .i64 g ∧ i = .int .i64 k ∧ Hid (OwnB wr w.heap.size v obs) ∧ Hid (R = joinP obs (partsG most ((cs.take k).drop g) (cs.drop k))) ∧ Hid (Below w.heap.size w wr)) (fun _ f i _ => 2 * (n - (intOf i).toNat) + (if (intOf f).toNat < (intOf i).toNat then 1 else 0))
  case atStart => exact ⟨0, 0, [], by omega, by omega, by simp, rfl, rfl, Lib.hid (OwnB.nil _ _), HR0, Lib.hid (Below.refl _ _)⟩
  case round =>
    clear HR0
    obtain ⟨k, g, obs, hgk, hkn, hol, rfl, rfl, hO, hR, hB⟩ := hrel
    obtain ⟨v6, rfl⟩ : ∃ v, v = u6 := ⟨_, rfl⟩
    have hzr := hB.out.size
    by_cases hlt : k < n
    · obtain ⟨x, hx⟩ : ∃ x, cs[k]? = some x := ⟨_, List.getElem?_eq_getElem (by rw [Hl.out]; omega)⟩
      obtain ⟨b, off, rfl, hbl, _⟩ := Cells.at_ H.out hx
      have hdr : cs.drop k = x :: cs.drop (k + 1) := by
        rw [List.drop_eq_getElem_cons (by rw [Hl.out]; exact hlt)]
        rw [List.getElem?_eq_getElem (by rw [Hl.out]; exact hlt)] at hx
        rw [Option.some.inj hx]
      have hnx : (cs.take k).drop g ++ [x] = (cs.take (k + 1)).drop g := by
        rw [List.take_add_one, hx]
        show _ = List.drop g (List.take k cs ++ [x])
        rw [List.drop_append_of_le_length (by rw [List.length_take, Hl.out]; omega)]
      have hnl : ((cs.take k).drop g).length = k - g := by rw [List.length_drop, List.length_take, Hl.out]; omega
      obtain ⟨now, hnow⟩ : ∃ now, now = (cs.take k).drop g := ⟨_, rfl⟩
      rw [← hnow] at hnx hnl
      have hR2 := hR.out
      rw [← hnow, hdr] at hR2
      have KB := Lib.hid fun (W : World) (hW : Below w.heap.size w W) (o m c : Nat) (ho : o = off + g * 5) (hm : m = k + 1 - g) (hc : c = cap - g) => build_any (some ⟨b, o, none⟩) m c (now ++ [x]) W (by rw [hnx]; exact Arr.below (Cells.part H.out g (k + 1) (by omega) (by omega) ho hm hc) hW) (fun c hc => Hok.out c (by
        rw [hnx] at hc
        exact List.mem_of_mem_take (List.mem_of_mem_drop hc)))
      obtain ⟨rb, hrb⟩ : ∃ r, r = buildR (now ++ [x]) := ⟨_, rfl⟩
      rw [← hrb] at KB
      obtain ⟨ub, hub⟩ : ∃ u, u = ofL rb.1 := ⟨_, rfl⟩
      obtain ⟨eb, heb⟩ : ∃ u, u = rb.2 := ⟨_, rfl⟩
      have hubs : ub.size = rb.1.length := by rw [hub, ofL_size]
      rw [← hub, ← heb] at KB
      have Hub := Lib.hid hubs
      have KP := Lib.hid fun (W : World) (hW : Below w.heap.size w W) (i : Nat) (hgi : g ≤ i) (hin : i ≤ n) => Arr.below (Cells.part H.out g i hgi hin rfl rfl rfl) hW
      have HD := Lib.hid fun (v : Value) (W : World) (os : List (List CellA)) (ho : OwnB W w.heap.size v os) (hW : w.heap.size ≤ W.heap.size) (o : Nat) => fun (p : Addr) (hp : (some (⟨b, o, none⟩ : Addr)) = some p) => show v.ownBlock ≠ some p.block ∧ p.block < W.heap.size ∧ ¬ False by
        cases hp
        exact ⟨fun e => by have := (ho.lt _ e).1; simp only at this; omega, by simp only; omega, id⟩
      have hobl : obs.length ≤ 1099511627776 := by omega
      have kn1 : k + 1 ≤ n := by omega
      have gk1 : g ≤ k + 1 := by omega
      clear hub hubs hx
      go_wp2_with fail
      refine (KB.out wr hB.out (off + g * 5) (k + 1 - g) (cap - g) rfl rfl rfl).mono ?_
      rintro e w1 ⟨rfl, hb1⟩
      have HB1 := Lib.hid (hB.out.trans (hb1.mono hzr))
      have HO1 := Lib.hid (hO.out.below hb1)
      have hz1 := hb1.size
      clear hb1 hB hO KB
      by_cases he : eb = 0
      · have hb0 : (buildR (now ++ [x])).2 = 0 := by rw [← hrb, ← heb, he]
        subst he
        by_cases hbig : most ≤ (ub.size : Int)
        · have hR3 : R = joinP (obs ++ [now ++ [x]]) (partsG most [] (cs.drop (k + 1))) := by
            rw [hR2, partsG_big hb0 (by rw [← hrb, ← Hub.out]; exact hbig), joinP_pcons]
          rw [hnx] at hR3
          have HR3 : Hid (R = joinP (obs ++ [(cs.take (k + 1)).drop g]) (partsG most ((cs.take (k + 1)).drop (k + 1)) (cs.drop (k + 1)))) := Lib.hid (by
            rw [hR3, show (cs.take (k + 1)).drop (k + 1) = [] from List.drop_eq_nil_of_le (by rw [List.length_take]; omega)])
          clear hR hR2 hR3 hb0 hrb heb hnow hnx hnl hdr
          go_wp2_with (at_builtin; refine wpList_append_B w1 rfl _ _ 51 rfl w.heap.size 32 i0 Try.underlying51 Hi.out iz0 iz1 iz2 v6 obs rfl HO1.out (some ⟨b, off + g * 5, none⟩) (k + 1 - g) (cap - g) _ (KP.out w1 HB1.out (k + 1) gk1 kn1) (HD.out v6 w1 obs HO1.out (Nat.le_trans hzr hz1) _) rfl hobl (Nat.le_trans hzr hz1) ?_; intro v3 w3 ho3 hb3 hg3 hq3; have HO3 := Lib.hid ho3; have HB3 := Lib.hid (HB1.out.trans hb3); clear ho3 hb3 hg3 hq3)
          exact ⟨⟨k + 1, k + 1, obs ++ [(cs.take (k + 1)).drop g], by omega, by omega, by simp; omega, by go_num, by go_num, HO3, HR3, HB3⟩, by simp [intOf]; omega⟩
        · have hR3 : R = joinP obs (partsG most (now ++ [x]) (cs.drop (k + 1))) := by
            rw [hR2, partsG_small hb0 (by rw [← hrb, ← Hub.out]; exact hbig)]
          rw [hnx] at hR3
          have HR3 := Lib.hid hR3
          clear hR hR2 hR3 hb0 hrb heb hnow hnx hnl hdr
          go_wp2_with fail
          exact ⟨⟨k + 1, g, obs, by omega, by omega, by omega, rfl, by go_num, HO1, HR3, HB1⟩, by simp only [intOf, Int.toNat_natCast, show ((k : Int) + 1).toNat = k + 1 by omega]; by_cases q2 : g < k <;> simp only [q2, show g < k + 1 by omega, if_true, if_false] <;> omega⟩
      · have hb0 : (buildR (now ++ [x])).2 ≠ 0 := by rw [← hrb, ← heb]; exact he
        have gz : (eb != 0) = true := by simpa using he
        by_cases hg : k = g
        · subst hg
          have hnn : now = [] := List.length_eq_zero_iff.1 (by rw [hnl]; omega)
          have hR3 : R = (eb, []) := by
            rw [hR2, hnn, partsG_bad (by rw [hnn] at hb0; exact hb0)]
            rw [hnn, List.nil_append] at hrb hb0
            unfold joinP
            rw [if_neg hb0, heb, hrb]
          have HR3 := Lib.hid hR3
          clear hR hR2 hR3 hb0 hrb heb hnow hnx hnl hdr hnn
          go_wp2_with fail
          go_returns
          refine ⟨_, by rw [HR3.out]; rfl, ?_, HB1.out⟩
          rw [HR3.out]
          exact OwnB.nil _ _
        · have hnn : now ≠ [] := fun e => by rw [e] at hnl; simp at hnl; omega
          have hR3 : R = joinP (obs ++ [now]) (partsG most [] (cs.drop k)) := by
            rw [hR2, partsG_fail hnn hb0, joinP_pcons, hdr]
          rw [hnow] at hR3
          have HR3 : Hid (R = joinP (obs ++ [(cs.take k).drop g]) (partsG most ((cs.take k).drop k) (cs.drop k))) := Lib.hid (by
            rw [hR3, show (cs.take k).drop k = [] from List.drop_eq_nil_of_le (by rw [List.length_take]; omega)])
          clear hR hR2 hR3 hb0 hrb heb hnow hnx hnl hdr hnn
          go_wp2_with (at_builtin; refine wpList_append_B w1 rfl _ _ 51 rfl w.heap.size 32 i0 Try.underlying51 Hi.out iz0 iz1 iz2 v6 obs rfl HO1.out (some ⟨b, off + g * 5, none⟩) (k - g) (cap - g) _ (KP.out w1 HB1.out (k) hgk hkn) (HD.out v6 w1 obs HO1.out (Nat.le_trans hzr hz1) _) rfl hobl (Nat.le_trans hzr hz1) ?_; intro v3 w3 ho3 hb3 hg3 hq3; have HO3 := Lib.hid ho3; have HB3 := Lib.hid (HB1.out.trans hb3); clear ho3 hb3 hg3 hq3)
          exact ⟨⟨k, k, obs ++ [(cs.take k).drop g], by omega, by omega, by simp; omega, by go_num, by go_num, HO3, HR3, HB3⟩, by simp [intOf, show g < k by omega]⟩
    · obtain rfl : k = n := by omega
      have hR2 := hR.out
      rw [show cs.drop k = [] from List.drop_eq_nil_of_le (by rw [Hl.out]; exact Nat.le_refl _), partsG, List.take_of_length_le (Nat.le_of_eq Hl.out)] at hR2
      by_cases hgk2 : g < k
      · have hne : cs.drop g ≠ [] := fun e => by
          have := congrArg List.length e
          rw [List.length_drop, Hl.out] at this
          simp at this
          omega
        rw [if_neg hne] at hR2
        have hR3 : R = (0, obs ++ [cs.drop g]) := by rw [hR2]; rfl
        have HR3 := Lib.hid hR3
        obtain ⟨x, hx⟩ : ∃ x, cs[g]? = some x := ⟨_, List.getElem?_eq_getElem (by rw [Hl.out]; omega)⟩
        obtain ⟨b, off, rfl, hbl, _⟩ := Cells.at_ H.out hx
        have hP : Cells wr (some ⟨b, off + g * 5, none⟩) (k - g) (cap - g) (cs.drop g) := by
          have := Arr.below (Cells.part H.out g k (by omega) (Nat.le_refl _) rfl rfl rfl) hB.out
          rw [List.take_of_length_le (Nat.le_of_eq Hl.out)] at this
          exact this
        have HP := Lib.hid hP
        have hD : ∀ (p : Addr), (some (⟨b, off + g * 5, none⟩ : Addr)) = some p → v6.ownBlock ≠ some p.block ∧ p.block < wr.heap.size ∧ ¬ False := fun p hp => by
          cases hp
          exact ⟨fun e => by have := (hO.out.lt _ e).1; simp only at this; omega, by simp only; omega, id⟩
        have HD := Lib.hid hD
        have hobl : obs.length ≤ 1099511627776 := by omega
        clear hR hR2 hR3 hne hP hD hx
        go_wp2_with (at_builtin; refine wpList_append_B wr rfl _ _ 51 rfl w.heap.size 32 i0 Try.underlying51 Hi.out iz0 iz1 iz2 v6 obs rfl hO.out (some ⟨b, off + g * 5, none⟩) (k - g) (cap - g) _ HP.out HD.out rfl hobl hzr ?_; intro v3 w3 ho3 hb3 hg3 hq3; have HO3 := Lib.hid ho3; have HB3 := Lib.hid (hB.out.trans hb3); clear ho3 hb3 hg3 hq3)
        go_returns
        exact ⟨_, by rw [HR3.out]; rfl, by rw [HR3.out]; exact HO3.out, HB3.out⟩
      · obtain rfl : g = k := by omega
        rw [if_pos (List.drop_eq_nil_of_le (by rw [Hl.out]; exact Nat.le_refl _))] at hR2
        have hR3 : R = (0, obs) := by rw [hR2]; unfold joinP; rw [if_pos rfl]; simp
        have HR3 := Lib.hid hR3
        clear hR hR2 hR3
        go_wp2_with fail
        go_returns
        exact ⟨_, by rw [HR3.out]; rfl, by rw [HR3.out]; exact hO.out, hB.out⟩
end Go.Proofs.Ytihglmicgccgiaa

/-
  Tables: the walk of Write.
-/
namespace Go.Proofs.Ytihglmicgccgiaa
open Go.RowKit Go.Shelf

theorem pcons_zero {b : List CellA} {r : Int × List (List CellA)} (h : (pcons b r).1 = 0) : r.1 = 0 ∧ pcons b r = (0, b :: r.2) := by
  unfold pcons at h ⊢
  by_cases h0 : r.1 = 0
  · rw [if_pos h0]; exact ⟨h0, rfl⟩
  · rw [if_neg h0] at h; exact absurd h h0
theorem goodB_cons {b : List CellA} {l : List (List CellA)} (hb : b ≠ []) (h0 : (buildR b).2 = 0) (hl : GoodB l) : GoodB (b :: l) := ⟨fun x hx => by
  rcases List.mem_cons.1 hx with rfl | hx
  · exact ⟨hb, (buildR_ok' h0).1⟩
  · exact hl.each x hx⟩
/-- what parts answers is good, and has just its cells -/
theorem partsG_good (most : Int) : ∀ (cs now : List CellA), (now = [] ∨ (buildR now).2 = 0) → (partsG most now cs).1 = 0 → GoodB (partsG most now cs).2 ∧ (partsG most now cs).2.flatten = now ++ cs ∧ (partsG most now cs).2.length ≤ now.length + cs.length
  | [], now, hn, _ => by
    rw [partsG]
    by_cases h : now = []
    · simp only [h, if_true]
      exact ⟨⟨fun x hx => by cases hx⟩, rfl, by simp⟩
    · simp only [h, if_false]
      refine ⟨goodB_cons h (hn.resolve_left h) ⟨fun x hx => by cases hx⟩, by simp, ?_⟩
      have := List.length_pos_iff.2 h
      simp; omega
  | c :: cs, now, hn, hz => by
    have ih0 := partsG_good most cs []
    by_cases h1 : (buildR (now ++ [c])).2 = 0
    · by_cases h2 : most ≤ ((buildR (now ++ [c])).1.length : Int)
      · rw [partsG_big h1 h2] at hz ⊢
        obtain ⟨h3, h4⟩ := pcons_zero hz
        obtain ⟨g1, g2, g3⟩ := ih0 (.inl rfl) h3
        rw [h4]
        refine ⟨goodB_cons (by simp) h1 g1, by simp [g2], ?_⟩
        simp only [List.length_cons, List.length_nil] at g3 ⊢
        omega
      · rw [partsG_small h1 h2] at hz ⊢
        obtain ⟨g1, g2, g3⟩ := partsG_good most cs (now ++ [c]) (.inr h1) hz
        refine ⟨g1, by rw [g2]; simp, ?_⟩
        simp only [List.length_append, List.length_cons, List.length_nil] at g3 ⊢
        omega
    · by_cases h2 : now = []
      · subst h2
        rw [List.nil_append] at h1
        rw [partsG_bad h1] at hz
        exact absurd hz h1
      · have hn0 := hn.resolve_left h2
        have hnp := List.length_pos_iff.2 h2
        rw [partsG_fail h2 h1] at hz ⊢
        obtain ⟨h3, h4⟩ := pcons_zero hz
        rw [h4]
        by_cases h5 : (buildR ([] ++ [c])).2 = 0
        · by_cases h6 : most ≤ ((buildR ([] ++ [c])).1.length : Int)
          · rw [partsG_big h5 h6] at h3 ⊢
            obtain ⟨h7, h8⟩ := pcons_zero h3
            obtain ⟨g1, g2, g3⟩ := ih0 (.inl rfl) h7
            rw [h8]
            refine ⟨goodB_cons h2 hn0 (goodB_cons (by simp) h5 g1), by simp [g2], ?_⟩
            simp only [List.length_cons, List.length_nil] at g3 ⊢
            omega
          · rw [partsG_small h5 h6] at h3 ⊢
            obtain ⟨g1, g2, g3⟩ := partsG_good most cs ([] ++ [c]) (.inr h5) h3
            refine ⟨goodB_cons h2 hn0 g1, by rw [List.flatten_cons, g2]; simp, ?_⟩
            simp only [List.nil_append, List.length_cons, List.length_nil] at g3 ⊢
            omega
        · rw [List.nil_append] at h5
          rw [partsG_bad h5] at h3
          exact absurd h3 h5
/-- what Write answers -/
def writeR (cs : List CellA) (most : Int) : List UInt8 × Int :=
  if most < 1 ∨ 32768 < most ∨ wrongB cs = true then ([], 2) else if (partsG most [] cs).1 ≠ 0 then ([], (partsG most [] cs).1) else (tableL (partsG most [] cs).2, 0)

set_option maxRecDepth 100000 in
set_option maxHeartbeats 4000000 in
theorem write_any (ao : Option Addr) (n cap : Nat) (cs : List CellA) (most : Int) (w : World) (h : Cells w ao n cap cs) (hok : ∀ c ∈ cs, c.Ok) (hn : n ≤ 10000) (hm : 0 ≤ most + 1099511627776 ∧ most ≤ 1099511627776) :
    Calls Try.prog 6 #[.slice ao n cap, .int .i64 most] w fun e w' => e = .returned (.tuple #[.string (ofL (writeR cs most).1), .int .i64 (writeR cs most).2]) ∧ Below w.heap.size w w' := by
  obtain ⟨R1, hR1⟩ : ∃ R, R = ofL (writeR cs most).1 := ⟨_, rfl⟩
  obtain ⟨R2, hR2⟩ : ∃ R, R = (writeR cs most).2 := ⟨_, rfl⟩
  rw [← hR1, ← hR2]
  unfold writeR at hR1 hR2
  have hl := h.len
  by_cases h1 : most < 1
  · have HR : Hid (R1 = ⟨#[]⟩ ∧ R2 = 2) := Lib.hid (by rw [hR1, hR2, if_pos (.inl h1)]; exact ⟨rfl, rfl⟩)
    clear hR1 hR2
    go_enter Try.func6, Try.ntmps6
    go_wp2
    go_returns
    exact ⟨by rw [HR.out.1, HR.out.2]; rfl, Below.refl _ _⟩
  · by_cases h2 : 32768 < most
    · have HR : Hid (R1 = ⟨#[]⟩ ∧ R2 = 2) := Lib.hid (by rw [hR1, hR2, if_pos (.inr (.inl h2))]; exact ⟨rfl, rfl⟩)
      clear hR1 hR2
      go_enter Try.func6, Try.ntmps6
      go_wp2
      go_returns
      exact ⟨by rw [HR.out.1, HR.out.2]; rfl, Below.refl _ _⟩
    · have KO := Lib.hid (ordered_any ao n cap cs w h hok)
      by_cases h3 : wrongB cs = true
      · have HR : Hid (R1 = ⟨#[]⟩ ∧ R2 = 2) := Lib.hid (by rw [hR1, hR2, if_pos (.inr (.inr h3))]; exact ⟨rfl, rfl⟩)
        rw [h3] at KO
        have KO : Hid (Calls Try.prog 17 #[.slice ao n cap] w fun e w' => e = .returned (.bool false) ∧ Below w.heap.size w w') := KO
        clear hR1 hR2 h3
        go_enter Try.func6, Try.ntmps6
        go_wp2_with (go_at_call 17; refine KO.out.mono ?_; rintro e w1 ⟨rfl, hb⟩; have Hb := Lib.hid hb; clear hb)
        go_returns
        exact ⟨by rw [HR.out.1, HR.out.2]; rfl, Hb.out⟩
      · have hno : ¬ (most < 1 ∨ 32768 < most ∨ wrongB cs = true) := fun h => h.elim h1 fun h => h.elim h2 h3
        rw [if_neg hno] at hR1 hR2
        rw [Bool.not_eq_true] at h3
        rw [h3] at KO
        have KO : Hid (Calls Try.prog 17 #[.slice ao n cap] w fun e w' => e = .returned (.bool true) ∧ Below w.heap.size w w') := KO
        have KP := Lib.hid fun (W : World) (hW : Below w.heap.size w W) => parts_cells ao n cap cs most W (Arr.below h hW) hok (by omega) (by omega) (by omega)
        have HG := Lib.hid (partsG_good most cs [] (.inl rfl))
        obtain ⟨r, hr⟩ : ∃ r, r = partsG most [] cs := ⟨_, rfl⟩
        rw [← hr] at KP hR1 hR2 HG
        obtain ⟨er, bss⟩ := r
        simp only at KP hR1 hR2 HG
        by_cases h4 : er = 0
        · subst h4
          have HR : Hid (R1 = ofL (tableL bss) ∧ R2 = 0) := Lib.hid (by rw [hR1, hR2, if_neg (by simp)]; exact ⟨rfl, rfl⟩)
          obtain ⟨g1, g2, g3⟩ := HG.out rfl
          rw [List.nil_append] at g2
          simp only [List.length_nil, Nat.zero_add] at g3
          have hcl : bss.flatten.length ≤ 32768 := by rw [g2, hl]; omega
          have hbl : bss.length ≤ 10000 := by omega
          have KL := Lib.hid fun (W : World) (ao : Option Addr) (cap : Nat) (hB : BB W ao bss.length cap bss) => lay_table ao bss.length cap bss W hB g1 hbl hcl
          obtain ⟨ut, hut⟩ : ∃ u, u = ofL (tableL bss) := ⟨_, rfl⟩
          rw [← hut] at KL HR
          clear hR1 hR2 hr HG g1 g2 g3 hut hcl h3 h hok
          go_enter Try.func6, Try.ntmps6
          go_wp2_with fail
          refine KO.out.mono ?_
          rintro e w1 ⟨rfl, hb⟩
          have Hb := Lib.hid hb
          clear hb
          go_wp2_with fail
          refine (KP.out w1 Hb.out).mono ?_
          rintro e w2 ⟨v, rfl, hO, hb2⟩
          obtain ⟨ao2, cap2, rfl⟩ := hO.form
          have Hb2 := Lib.hid (Hb.out.trans (hb2.mono Hb.out.size))
          have HBB := Lib.hid hO.bb
          have hz := hb2.size
          have hz1 := Hb.out.size
          obtain ⟨m, hm⟩ : ∃ m, m = bss.length := ⟨_, rfl⟩
          rw [← hm] at KL HBB ⊢
          clear hO hb2 hm
          go_wp2_with fail
          refine (KL.out w2 ao2 cap2 HBB.out).mono ?_
          rintro e w3 ⟨rfl, hb3⟩
          have Hb3 := Lib.hid (Hb2.out.trans (hb3.mono (by omega)))
          clear hb3
          go_wp2_with fail
          go_returns
          exact ⟨by rw [HR.out.1, HR.out.2]; rfl, Hb3.out⟩
        · have HR : Hid (R1 = ⟨#[]⟩ ∧ R2 = er) := Lib.hid (by rw [hR1, hR2, if_pos h4]; exact ⟨rfl, rfl⟩)
          have gz : (er != 0) = true := by simpa using h4
          clear hR1 hR2 hr HG h3 h hok
          go_enter Try.func6, Try.ntmps6
          go_wp2_with fail
          refine KO.out.mono ?_
          rintro e w1 ⟨rfl, hb⟩
          have Hb := Lib.hid hb
          clear hb
          go_wp2_with fail
          refine (KP.out w1 Hb.out).mono ?_
          rintro e w2 ⟨v, rfl, hO, hb2⟩
          have Hb2 := Lib.hid (Hb.out.trans (hb2.mono Hb.out.size))
          clear hO hb2
          go_wp2_with fail
          go_returns
          exact ⟨by rw [HR.out.1, HR.out.2]; rfl, Hb2.out⟩
end Go.Proofs.Ytihglmicgccgiaa
