/-
  Lists of bytes, and of parts, in memory.
-/
import Derived.Test.YteibnignjghedaaAudPP
import Derived.Test.YteibnignjghedaaAudWO
namespace Go.Proofs.Yteibnignjghedaa
open Go.RowKit Go.Sort

def u8E (x : Int) : List Value := [.int .u8 x]
theorem u8_elems (l : List Int) : Elems 1 (l.map u8E) := fun k hk => by
  obtain ⟨x, _, rfl⟩ := List.mem_map.1 hk
  exact ⟨rfl, fun u hu => by rw [u8E, List.mem_singleton] at hu; subst hu; rfl⟩
/-- how far a replica's log goes, what it has compacted, and committed -/
structure PartA where
  last : Int
  base : Int
  com : Int
def PartA.l (p : PartA) : List Value := [.int .u8 p.last, .int .u8 p.base, .int .u8 p.com]
structure PartA.Ok (p : PartA) : Prop where
  l0 : 0 ≤ p.last
  l1 : p.last ≤ 255
  b0 : 0 ≤ p.base
  b1 : p.base ≤ 255
  c0 : 0 ≤ p.com
  c1 : p.com ≤ 255
theorem part_elems (l : List PartA) : Elems 3 (l.map PartA.l) := fun k hk => by
  obtain ⟨x, _, rfl⟩ := List.mem_map.1 hk
  exact ⟨rfl, fun u hu => by simp [PartA.l] at hu; rcases hu with rfl | rfl | rfl <;> rfl⟩
/-- A block that was just laid is a row. -/
theorem Row.fresh (w : World) (B : Nat) (T : TypeId) (size n : Nat) (c : Array Value) (g : Nat) (hg : g = w.heap.size) (hB : B ≤ w.heap.size) (hc : c.size = n * size) (hn : n ≤ maxLen) : Row (w.alloc (.cells c T)) B T size (.slice (some ⟨g, 0, none⟩) n n) n c.toList := by
  subst hg
  exact ⟨by simpa using hc, .inr ⟨w.heap.size, n, c, (0, 0), rfl, hB, heap_alloc_new _ _, .inl rfl, Nat.le_refl _, hn, hc, by rw [List.take_of_length_le (by simp [hc])]⟩⟩
/-- the log's first entry; an entry of a command -/
def logE0 (g : Nat) : EntA := ⟨1, 1, 2, zeroC, some ⟨g, 0, none⟩, 3, 3, [0, 1, 2]⟩
def logE (i : Nat) (t : Int) : EntA := ⟨(i : Int) + 2, t, 1, { zeroC with seq := (i : Int) }, none, 0, 0, []⟩
/-- a log, all of whose entries but the first name no members -/
structure LogB (all : List EntA) : Prop where
  log : LogA all
  mem : ∀ (j : Nat) (e : EntA), all[j]? = some e → 0 < j → e.ma = none ∧ e.mn = 0 ∧ e.mc = 0 ∧ e.mem = []
theorem LogB.one (g : Nat) : LogB [logE0 g] := by
  refine ⟨⟨by simp, fun j e h => ?_, fun j e h => ?_, fun j e h h0 => ?_, fun j e f h1 h2 => ?_⟩, fun j e h h0 => ?_⟩
  all_goals
    have hj : j < 1 := by
      first
        | exact (List.getElem?_eq_some_iff.1 h).1
        | exact (List.getElem?_eq_some_iff.1 h1).1
    have e0 : j = 0 := by omega
    subst e0
  · simp at h; subst h; rfl
  · simp at h; subst h; exact ⟨by simp [logE0], by simp [logE0]⟩
  · omega
  · simp at h2
  · omega
theorem LogB.snoc {all : List EntA} (h : LogB all) {k : Nat} (hk : all.length = k + 1) {e : EntA} (he : all[k]? = some e) {t : Int} (h0 : e.term ≤ t) (h1 : t ≤ e.term + 2) : LogB (all ++ [logE k t]) := by
  have hp := h.log.term _ _ he
  have key : ∀ (j : Nat) (x : EntA), (all ++ [logE k t])[j]? = some x → all[j]? = some x ∨ (j = k + 1 ∧ x = logE k t) := fun j x hx => by
    rw [List.getElem?_append] at hx
    split at hx
    · exact .inl hx
    · have hl := (List.getElem?_eq_some_iff.1 hx).1
      simp at hl
      have e1 : j - all.length = 0 := by omega
      rw [e1] at hx
      simp at hx
      exact .inr ⟨by omega, hx.symm⟩
  refine ⟨⟨by simp, fun j x hx => ?_, fun j x hx => ?_, fun j x hx h2 => ?_, fun j x y hx hy => ?_⟩, fun j x hx h2 => ?_⟩
  · rcases key j x hx with h3 | ⟨rfl, rfl⟩
    · exact h.log.idx _ _ h3
    · simp only [logE]; omega
  · rcases key j x hx with h3 | ⟨rfl, rfl⟩
    · exact h.log.term _ _ h3
    · simp only [logE]; omega
  · rcases key j x hx with h3 | ⟨rfl, rfl⟩
    · exact h.log.kind _ _ h3 h2
    · exact ⟨rfl, rfl⟩
  · rcases key (j + 1) y hy with h3 | ⟨h4, rfl⟩
    · have hl := (List.getElem?_eq_some_iff.1 h3).1
      rcases key j x hx with h5 | ⟨h5, _⟩
      · exact h.log.mono _ _ _ h5 h3
      · omega
    · have e1 : j = k := by omega
      subst e1
      rcases key j x hx with h5 | ⟨h5, _⟩
      · rw [he] at h5; cases h5; exact h0
      · omega
  · rcases key j x hx with h3 | ⟨rfl, rfl⟩
    · exact h.mem _ _ h3 h2
    · exact ⟨rfl, rfl, rfl, rfl⟩
/-- the entries of a part lie where the log lies -/
theorem ents_part {w : World} {g off n cap : Nat} {all : List EntA} (h : Arr w 24 (some ⟨g, off, none⟩) n cap (all.map EntA.l)) (hl : LogB all) {base last : Nat} (h1 : 1 ≤ base) (h2 : base ≤ last) (h3 : last ≤ n) : Ents w (some ⟨g, off + base * 24, none⟩) (last - base) (cap - base) ((all.drop base).take (last - base)) := by
  have hlen : all.length = n := by have := Arr.len h; rwa [List.length_map] at this
  have hf := Arr.fits h
  have hm := Arr.max h
  refine ⟨⟨ent_elems _, by rw [List.length_map, List.length_take, List.length_drop]; omega, by omega, by omega, fun h0 => ?_⟩, fun e he => ?_⟩
  · obtain ⟨b, o, e1, hb, hc⟩ := h.lies (by omega)
    cases e1
    refine ⟨g, off + base * 24, rfl, hb, fun i x hx j u hu => ?_⟩
    rw [List.getElem?_map, List.getElem?_take] at hx
    split at hx
    · rw [List.getElem?_drop] at hx
      have := hc (base + i) x (by rw [List.getElem?_map]; exact hx) j u hu
      rw [show off + base * 24 + i * 24 + j = off + (base + i) * 24 + j by omega]
      exact this
    · cases hx
  · obtain ⟨k, hk⟩ := List.mem_iff_getElem?.1 he
    rw [List.getElem?_take] at hk
    split at hk
    · rw [List.getElem?_drop] at hk
      obtain ⟨m1, m2, m3, m4⟩ := hl.mem (base + k) e hk (by omega)
      show Ints w e.ma e.mn e.mc e.mem
      rw [m1, m2, m3, m4]
      exact Arr.nil _ _
    · cases hk
/-- a replica whose log is a part of it, as it is laid -/
def partS (node : Nat) (base last : Nat) (t com : Int) (g : Nat) (ea : Option Addr) (ec : Nat) (es : List EntA) : SeenA :=
  ⟨(node : Int), 3, false, false, 0, 0, (base : Int), t, some ⟨g, 0, none⟩, 3, 3, [0, 1, 2], ea, last - base, ec, es, com, 0, ⟨#[]⟩, ⟨#[]⟩, 0, false, none, 0, 0, [], none, 0, 0, [], 0⟩
theorem partS_of {all : List EntA} {node base last : Nat} {t com : Int} {g : Nat} {ea : Option Addr} {ec : Nat} (h1 : 1 ≤ base) (h2 : base ≤ last) (h3 : last ≤ all.length) {e : EntA} (he : all[base - 1]? = some e) (ht : t = e.term) (hc0 : (base : Int) ≤ com) (hc1 : com ≤ (last : Int)) (hn : node < 5) :
    PartOf all (partS node base last t com g ea ec ((all.drop base).take (last - base))) base last :=
  ⟨h1, h2, h3, rfl, rfl, ⟨e, he, ht⟩, hc0, hc1, rfl, rfl, rfl, Int.natCast_nonneg _, by simp only [partS]; omega, rfl⟩
/-- what a check asks of a replica besides -/
theorem part_ok {all : List EntA} (hl : LogB all) (hlen : all.length ≤ 41) {s : SeenA} {base last : Nat} (h : PartOf all s base last) (hlo : s.lo.size ≤ maxLen) (hhi : s.hi.size ≤ maxLen) (hbn : s.bn = 3) : s.Ok ∧ s.bn * 8 ≤ 140737488355328 ∧ ∀ e ∈ s.es, e.mn * 8 ≤ 140737488355328 := by
  have h1 := h.b1
  have h2 := h.bl
  have h3 := h.ll
  have hb := h.bidx
  obtain ⟨e0, he0, ht⟩ := h.bterm
  have ht0 := hl.log.term _ _ he0
  have hc0 := h.com0
  have hc1 := h.com1
  have hap := h.app
  refine ⟨⟨hlo, hhi, by omega, by omega, by omega, by omega, by omega, by omega, by omega, fun e he => ?_⟩, by omega, fun e he => ?_⟩
  · obtain ⟨j, hj0, hj1, hj⟩ := h.mem he
    have := hl.log.idx _ _ hj
    have := hl.log.term _ _ hj
    exact ⟨by omega, by omega, by omega, by omega⟩
  · obtain ⟨j, hj0, hj1, hj⟩ := h.mem he
    rw [(hl.mem _ _ hj (by omega)).2.1]; omega
theorem part_nums (m : Nat) (hm : m ≤ 40) (p : PartA) : ∃ L B : Nat, wrap64 (1 + p.last % ((m : Int) + 1)) = (L : Int) ∧ 1 ≤ L ∧ L ≤ m + 1 ∧ wrap64 (1 + p.base % (L : Int)) = (B : Int) ∧ 1 ≤ B ∧ B ≤ L := by
  have h1 := Int.emod_nonneg p.last (show (m : Int) + 1 ≠ 0 by omega)
  have h2 := Int.emod_lt_of_pos p.last (show 0 < (m : Int) + 1 by omega)
  obtain ⟨L, hL⟩ : ∃ L : Nat, 1 + p.last % ((m : Int) + 1) = (L : Int) := ⟨(1 + p.last % ((m : Int) + 1)).toNat, by omega⟩
  have h3 := Int.emod_nonneg p.base (show (L : Int) ≠ 0 by omega)
  have h4 := Int.emod_lt_of_pos p.base (show 0 < (L : Int) by omega)
  obtain ⟨B, hB⟩ : ∃ B : Nat, 1 + p.base % (L : Int) = (B : Int) := ⟨(1 + p.base % (L : Int)).toNat, by omega⟩
  refine ⟨L, B, ?_, by omega, by omega, ?_, by omega, by omega⟩
  · rw [hL]; unfold wrap64; omega
  · rw [hB]; unfold wrap64; omega
/-- where a part of the log lies -/
def partAt (eb cap B : Nat) : Option Addr := if cap = B then some ⟨eb, 0, none⟩ else some ⟨eb, B * 24, none⟩
theorem run_part (w : World) (eb n cap B L : Nat) (h1 : B ≤ L) (h2 : L ≤ cap) (h3 : cap ≤ maxLen) : (Instr.sliceAt 42 (.slice (some ⟨eb, 0, none⟩) n cap) (some (.int .i64 (B : Int))) (some (.int .i64 (L : Int))) none).run Try.prog w = .ok (.slice (partAt eb cap B) (L - B) (cap - B)) w := by
  unfold maxLen at h3
  unfold partAt
  by_cases h : cap = B
  · go_simp
    intro hx
    omega
  · go_simp
theorem ents_at {w : World} {eb n cap : Nat} {all : List EntA} (h : Arr w 24 (some ⟨eb, 0, none⟩) n cap (all.map EntA.l)) (hl : LogB all) {base last : Nat} (h1 : 1 ≤ base) (h2 : base ≤ last) (h3 : last ≤ n) : Ents w (partAt eb cap base) (last - base) (cap - base) ((all.drop base).take (last - base)) := by
  have hf := Arr.fits h
  have hm := Arr.max h
  unfold partAt
  split
  · have e : last - base = 0 := by omega
    rw [e, List.take_zero]
    exact ⟨⟨fun _ h => by simp at h, rfl, Nat.zero_le _, by omega, fun h => by omega⟩, fun e h => by cases h⟩
  · have := ents_part h hl h1 h2 h3
    rwa [Nat.zero_add] at this
/-- a replica of the log's, as the law lays it -/
def PartX (all : List EntA) (s : SeenA) : Prop := ∃ base last, PartOf all s base last ∧ s.lo = ⟨#[]⟩ ∧ s.hi = ⟨#[]⟩ ∧ s.bn = 3
theorem PartX.ok {all : List EntA} (hl : LogB all) (hlen : all.length ≤ 41) {s : SeenA} (h : PartX all s) : s.Ok ∧ s.bn * 8 ≤ 140737488355328 ∧ ∀ e ∈ s.es, e.mn * 8 ≤ 140737488355328 := by
  obtain ⟨b, t, hp, h1, h2, h3⟩ := h
  exact part_ok hl hlen hp (by rw [h1]; exact Nat.zero_le _) (by rw [h2]; exact Nat.zero_le _) h3
/-- It reads the same, whatever is done to the row v. -/
theorem Safe.part {wc V : World} {v : Value} {node base last : Nat} {t com : Int} {g ec : Nat} {ea : Option Addr} {es : List EntA} (hE : Ents wc ea (last - base) ec es) (hb : Below wc.heap.size wc V) (hv : ∀ q, v.ownBlock = some q → wc.heap.size ≤ q)
    (hI : Ints V (some ⟨g, 0, none⟩) 3 3 [0, 1, 2]) (hg : g < V.heap.size) (hn : v.ownBlock ≠ some g) : Safe V v (partS node base last t com g ea ec es) := fun V' hG => by
  have hw : Below wc.heap.size wc V' := hb.grown hG hb.size hv
  exact ⟨Arr.sameBlk hI (hG.block g hg (fun e => hn e.symm)), hE.below hw, ⟨Arr.nil _ _, fun c hc => by cases hc⟩, Arr.nil _ _⟩
theorem there_whole {V : World} {p : Nat} {s : SeenA} (h : V.there p 0 19) : (V.setCells p 0 s.l).there p 0 19 := fun j hj => by
  have h2 : SeenAt (V.setCells p 0 s.l) p 0 s := World.rangeAt_setCells_same _ _ _ _ h
  have h3 := h2 j _ (List.getElem?_eq_getElem (show j < s.l.length from hj))
  refine ⟨by rw [h3]; rfl, ?_⟩
  rw [frozen_setCells]
  exact (h j hj).2
/-- behind the store into the variable -/
theorem part_end {wr V : World} {pv g : Nat} {s : SeenA} (hB : Below wr.heap.size wr V) (hT : V.there pv 0 19) (hI : Ints V (some ⟨g, 0, none⟩) 3 3 [0, 1, 2]) (hgp : g ≠ pv) (h : wr.heap.size ≤ pv) :
    Below wr.heap.size wr (V.setCells pv 0 s.l) ∧ Ints (V.setCells pv 0 s.l) (some ⟨g, 0, none⟩) 3 3 [0, 1, 2] ∧ (V.setCells pv 0 s.l).there pv 0 19 ∧ SeenAt (V.setCells pv 0 s.l) pv 0 s ∧ (V.setCells pv 0 s.l).heap.size = V.heap.size :=
  ⟨Below.setCells h _ _ hB, Arr.sameBlk hI (heap_setCells hgp _ _ _), there_whole hT, World.rangeAt_setCells_same _ _ _ _ hT, size_setCells _ _ _⟩
theorem ints_lt {w : World} {g : Nat} (h : Ints w (some ⟨g, 0, none⟩) 3 3 [0, 1, 2]) : g < w.heap.size := by
  obtain ⟨b, o, e, hb, _⟩ := Arr.lies h (by decide)
  cases e
  exact hb
theorem there_lt {w : World} {p : Nat} (h : w.there p 0 19) : p < w.heap.size := by
  have h1 := (h 0 (by decide)).1
  obtain ⟨u, hu⟩ := Option.isSome_iff_exists.1 h1
  exact World.block_lt_of_cell? _ _ hu
theorem there_below {w w' : World} {p : Nat} (h : w.there p 0 19) (hb : Below w.heap.size w w') : w'.there p 0 19 := fun j hj => by
  have hl := there_lt h
  obtain ⟨h1, h2⟩ := h j hj
  exact ⟨by rw [hb.cell (p := ⟨p, _, none⟩) hl]; exact h1, by rw [hb.frozen (p := ⟨p, _, none⟩) hl]; exact h2⟩
theorem part_com (bb Ls : Nat) (h : bb + 1 ≤ Ls) (hL : Ls ≤ 41) (c : Int) : ∃ C : Int, IntKind.u64.wrap ((bb : Int) + 1 + c % ((Ls : Int) - ((bb : Int) + 1) + 1)) = C ∧ (bb : Int) + 1 ≤ C ∧ C ≤ (Ls : Int) := by
  have h1 := Int.emod_nonneg c (show (Ls : Int) - ((bb : Int) + 1) + 1 ≠ 0 by omega)
  have h2 := Int.emod_lt_of_pos c (show 0 < (Ls : Int) - ((bb : Int) + 1) + 1 by omega)
  obtain ⟨x, hx⟩ : ∃ x, x = c % ((Ls : Int) - ((bb : Int) + 1) + 1) := ⟨_, rfl⟩
  rw [← hx] at h1 h2 ⊢
  refine ⟨(bb : Int) + 1 + x, ?_, by omega, by omega⟩
  simp [IntKind.wrap, IntKind.bits, IntKind.signed]
  omega
theorem wpList_store_one {P : Program} {w : World} {ops : Array Oper} {rest : List Oper} {o : Oper} {a : Act} {Q : Exit → Act → World → Prop} {ty : TypeId} {x y : Operand} (p k : Nat) (u : Value) (hg : o.guard = none) (hop : o.op = .store ty x y)
    (hx : a.eval x = .pointer (some ⟨p, k, none⟩)) (hy : a.eval y = u) (hth : w.there p k 1) (hi : (P.info? ty).map (·.size) = some 1) (h1 : u.oneCell' = true)
    (h : wpList P ops Q rest (a.put o.dst undef) (w.setCell ⟨p, k, none⟩ u)) : wpList P ops Q (o :: rest) a w := by
  refine wpList_plain hg fun K hK => ?_
  have h0 : w.there p k (#[u] : Array Value).size := hth
  have hs := run_storeVar_mid (P := P) w p k ty #[u] h0 hi (by simp [h1])
  have hs2 : (storeVar ty ⟨p, k, none⟩ u).run P w = .ok () (w.setCell ⟨p, k, none⟩ u) := by
    have hc : u.cells = #[u] := by cases u <;> first | rfl | cases h1
    have : storeVar ty ⟨p, k, none⟩ u = storeVar ty ⟨p, k, none⟩ (.agg #[u]) := by
      unfold storeVar
      rw [hc]
      rfl
    rw [this]
    exact hs
  unfold Oper.wp execOp
  simp only [hop, hx, hy, Instr.storeAt, Instr.sureAddr, Sem.run_bind, Sem.run_pure, Result.andThen_ok, hs2]
  exact hK _ _ h
theorem there_one {V : World} {p n : Nat} (h : V.there p 0 n) (k : Nat) (hk : k < n) : V.there p k 1 := fun j hj => by
  have := h (k + j) (by omega)
  rwa [Nat.zero_add] at this
theorem flatten_setK {size : Nat} : ∀ (ls : List (List Value)), (∀ l ∈ ls, l.length = size) → ∀ (i k : Nat) (l : List Value) (u : Value), ls[i]? = some l → k < size → ls.flatten.set (i * size + k) u = (ls.set i (l.set k u)).flatten
  | [], _, i, k, l, u, h, _ => by simp at h
  | a :: r, hs, 0, k, l, u, h, hk => by
    simp only [List.getElem?_cons_zero, Option.some.injEq] at h
    subst h
    rw [Nat.zero_mul, Nat.zero_add, List.flatten_cons, List.set_cons_zero, List.flatten_cons, List.set_append, if_pos (by rw [hs a (by simp)]; exact hk)]
  | a :: r, hs, i + 1, k, l, u, h, hk => by
    simp only [List.getElem?_cons_succ] at h
    have ih := flatten_setK r (fun x hx => hs x (List.mem_cons_of_mem _ hx)) i k l u h hk
    have ha := hs a (by simp)
    rw [List.flatten_cons, List.set_cons_succ, List.flatten_cons, List.set_append, if_neg (by rw [ha, Nat.succ_mul]; omega), ha, show (i + 1) * size + k - size = i * size + k by rw [Nat.succ_mul]; omega, ih]
theorem turn_flat {es : List EntA} {j : Nat} {e : EntA} (h : es[j]? = some e) : (es.map EntA.l).flatten.set (j * 24 + 6) (.int .u64 9) = ((es.set j (turnE e)).map EntA.l).flatten := by
  rw [flatten_setK (size := 24) (es.map EntA.l) (fun l hl => (ent_elems es l hl).1) j 6 e.l (.int .u64 9) (by rw [List.getElem?_map, h]; rfl) (by decide), List.map_set]
  rfl
theorem row_one {w : World} {B : Nat} {T : TypeId} {size n g cap : Nat} {xs : List Value} (h : Row w B T size (.slice (some ⟨g, 0, none⟩) n cap) n xs) {j : Nat} (hj : j < n * size) : w.there g j 1 := fun i hi => by
  obtain rfl : i = 0 := by omega
  rw [Nat.add_zero]
  have hl := h.1
  exact ⟨by rw [h.cell j hj, List.getElem?_eq_getElem (by omega)]; rfl, h.free hj⟩
theorem turn_in {w : World} {s : SeenA} (h : s.In w) {j : Nat} {e : EntA} (he : s.es[j]? = some e) (hm : e.ma = none ∧ e.mn = 0 ∧ e.mc = 0 ∧ e.mem = []) {B g c : Nat} (hr : Row w B 60 24 (.slice (some ⟨g, 0, none⟩) s.en c) s.en ((s.es.set j (turnE e)).map EntA.l).flatten) : (turnS s j e (some ⟨g, 0, none⟩) c).In w := by
  have hlen : s.es.length = s.en := h.es.len
  refine ⟨h.bm, ⟨row_arr (by decide) (by rw [List.length_map]; exact (List.length_set ..).trans hlen) hr (ent_elems _), fun x hx => ?_⟩, h.locs, h.procs⟩
  rcases List.mem_or_eq_of_mem_set hx with hx | rfl
  · exact h.es.mem x hx
  · show Ints w e.ma e.mn e.mc e.mem
    rw [hm.1, hm.2.1, hm.2.2.1, hm.2.2.2]
    exact Arr.nil _ _
theorem partx_mem {all : List EntA} (hl : LogB all) {s : SeenA} (h : PartX all s) : ∀ e ∈ s.es, e.ma = none ∧ e.mn = 0 ∧ e.mc = 0 ∧ e.mem = [] := fun e he => by
  obtain ⟨b, t, hp, _⟩ := h
  obtain ⟨j, hj0, _, hj⟩ := hp.mem he
  exact hl.mem _ _ hj (by have := hp.b1; omega)
theorem turn_ok {s : SeenA} {j : Nat} {e : EntA} (he : s.es[j]? = some e) (h : s.Ok ∧ s.bn * 8 ≤ 140737488355328 ∧ ∀ e ∈ s.es, e.mn * 8 ≤ 140737488355328) (ea : Option Addr) (ec : Nat) : (turnS s j e ea ec).Ok ∧ (turnS s j e ea ec).bn * 8 ≤ 140737488355328 ∧ ∀ x ∈ (turnS s j e ea ec).es, x.mn * 8 ≤ 140737488355328 := by
  have hm := List.mem_of_getElem? he
  obtain ⟨h1, h2, h3⟩ := h
  refine ⟨⟨h1.lo, h1.hi, h1.i0, h1.i1, h1.t0, h1.t1, h1.c0, h1.c1, h1.a0, fun x hx => ?_⟩, h2, fun x hx => ?_⟩
  · rcases List.mem_or_eq_of_mem_set hx with hx | rfl
    · exact h1.es x hx
    · have := h1.es e hm
      exact ⟨this.i0, this.i1, this.t0, this.t1⟩
  · rcases List.mem_or_eq_of_mem_set hx with hx | rfl
    · exact h3 x hx
    · exact h3 e hm
theorem partx_check {all : List EntA} (hl : LogB all) {l : List SeenA} (h : ∀ s ∈ l, PartX all s) : checkL l = [] := check_parts hl.log l fun s hs => by
  obtain ⟨b, t, hp, _⟩ := h s hs
  exact ⟨b, t, hp⟩
/-- what the second check tells -/
theorem turned_any {all : List EntA} (hl : LogB all) (hlen : all.length ≤ 41) {a c : SeenA} (W : World) (ha : a.In W) (hc : c.In W) (ka : a.Ok ∧ a.bn * 8 ≤ 140737488355328 ∧ ∀ e ∈ a.es, e.mn * 8 ≤ 140737488355328) (kc : c.Ok ∧ c.bn * 8 ≤ 140737488355328 ∧ ∀ e ∈ c.es, e.mn * 8 ≤ 140737488355328) (h : ((6 : Int), (1 : Int)) ∈ checkL [a, c]) :
    Calls Try.prog 9 #[.slice (some ⟨W.heap.size, 0, none⟩) 2 2] (W.alloc (.cells (a.l ++ c.l).toArray 49)) fun e w' => ∃ (g n fc : Nat) (fs : List (Int × Int)), e = .returned (.slice (some ⟨g, 0, none⟩) n fc) ∧ ((6 : Int), (1 : Int)) ∈ fs ∧ Arr w' 2 (some ⟨g, 0, none⟩) n fc (fs.map faultE) ∧ Below W.heap.size W w' := by
  refine (acheck_any _ 2 2 [a, c] _ (seens_two W 49 a c W.heap.size rfl ha hc) (fun s hs => ?_) (fun s hs => ?_) (by omega)).mono ?_
  · simp only [List.mem_cons, List.not_mem_nil, or_false] at hs
    rcases hs with rfl | rfl
    · exact ka.1
    · exact kc.1
  · simp only [List.mem_cons, List.not_mem_nil, or_false] at hs
    rcases hs with rfl | rfl
    · exact ka.2
    · exact kc.2
  rintro e w' ⟨v, rfl, hr, hb⟩
  have h0 : 0 < (checkL [a, c]).length := List.length_pos_of_mem h
  rcases hr.form with ⟨_, h1⟩ | ⟨g, fc, rfl, _⟩
  · omega
  refine ⟨g, _, fc, checkL [a, c], rfl, h, row_arr (by decide) (by rw [List.length_map]) hr (fault_elems _), Below.trans ((Below.refl W.heap.size W).alloc (Nat.le_refl _) _) (hb.mono (by rw [World.size_alloc]; omega))⟩
end Go.Proofs.Yteibnignjghedaa
