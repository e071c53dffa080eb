/-
  Tables: blocks in memory; the walk of filter.
-/
import Derived.Test.YtihglmicgccgiaaTblO
namespace Go.Proofs.Ytihglmicgccgiaa
open Go.RowKit Go.Shelf

/-- blocks of cells in memory -/
structure BB (w : World) (ao : Option Addr) (n cap : Nat) (bss : List (List CellA)) : Prop where
  ex : ∃ es : List Value, es.length = bss.length ∧ Arr w 1 ao n cap (es.map fun e => [e]) ∧ ∀ (i : Nat) e bs, es[i]? = some e → bss[i]? = some bs → ∃ a c, e = .slice a bs.length c ∧ Cells w a bs.length c bs
theorem BB.len {w : World} {ao : Option Addr} {n cap : Nat} {bss : List (List CellA)} (h : BB w ao n cap bss) : bss.length = n := by
  obtain ⟨es, h1, h2, _⟩ := h.ex
  have := h2.len
  rw [List.length_map] at this
  omega
theorem BB.fits {w : World} {ao : Option Addr} {n cap : Nat} {bss : List (List CellA)} (h : BB w ao n cap bss) : n ≤ cap ∧ cap ≤ 2 ^ 63 - 1 := by
  obtain ⟨es, h1, h2, _⟩ := h.ex
  exact ⟨h2.fits, h2.max⟩
theorem BB.below {w w' : World} {ao : Option Addr} {n cap : Nat} {bss : List (List CellA)} (h : BB w ao n cap bss) (hb : Below w.heap.size w w') : BB w' ao n cap bss := by
  obtain ⟨es, h1, h2, h3⟩ := h.ex
  refine ⟨es, h1, h2.below hb, fun i e bs he hbs => ?_⟩
  obtain ⟨a, c, h4, h5⟩ := h3 i e bs he hbs
  exact ⟨a, c, h4, Arr.below h5 hb⟩
theorem BB.at_ {w : World} {ao : Option Addr} {n cap : Nat} {bss : List (List CellA)} (h : BB w ao n cap bss) {i : Nat} {bs : List CellA} (hi : bss[i]? = some bs) :
    ∃ b off a c, ao = some ⟨b, off, none⟩ ∧ b < w.heap.size ∧ w.cell? ⟨b, off + i, none⟩ = some (.slice a bs.length c) ∧ Cells w a bs.length c bs := by
  obtain ⟨es, h1, h2, h3⟩ := h.ex
  have hlt : i < es.length := by rw [h1]; exact (List.getElem?_eq_some_iff.1 hi).1
  obtain ⟨b, off, e, hb, hc⟩ := h2.at_ (i := i) (e := [es[i]]) (by rw [List.getElem?_map, List.getElem?_eq_getElem hlt]; rfl)
  obtain ⟨a, c, h4, h5⟩ := h3 i es[i] bs (List.getElem?_eq_getElem hlt) hi
  have := hc 0 _ rfl
  rw [Nat.mul_one, Nat.add_zero] at this
  exact ⟨b, off, a, c, e, hb, by rw [this, h4], h5⟩

/-- what filter keeps while it goes: the keys and the last place -/
abbrev KSt := List (List UInt8) × ByteArray × ByteArray
def stepK (st : KSt) (c : CellA) : KSt := if st.1 = [] ∨ ¬ (c.row = st.2.1 ∧ c.col = st.2.2) then (st.1 ++ [keyL c.row.toList c.col.toList], c.row, c.col) else st
def keysOf (cs : List CellA) : List (List UInt8) := (cs.foldl stepK (([], ⟨#[]⟩, ⟨#[]⟩) : KSt)).1
theorem stepK_len (st : KSt) (c : CellA) : (stepK st c).1.length ≤ st.1.length + 1 := by
  unfold stepK
  split
  · simp
  · omega
theorem foldK_len : ∀ (cs : List CellA) (st : KSt), (cs.foldl stepK st).1.length ≤ st.1.length + cs.length
  | [], st => by simp
  | c :: cs, st => by
    have h1 := foldK_len cs (stepK st c)
    have h2 := stepK_len st c
    simp only [List.foldl_cons, List.length_cons]
    omega
theorem keysOf_len (cs : List CellA) : (keysOf cs).length ≤ cs.length := by
  have := foldK_len cs (([], ⟨#[]⟩, ⟨#[]⟩) : KSt)
  simpa [keysOf] using this
theorem keyL_len (r c : List UInt8) : (keyL r c).length = r.length + c.length + 1 := by simp [keyL]; omega
theorem foldK_short : ∀ (cs : List CellA) (st : KSt), (∀ b ∈ st.1, b.length ≤ 1000000) → (∀ c ∈ cs, c.row.size ≤ 1000 ∧ c.col.size ≤ 1000) → ∀ b ∈ (cs.foldl stepK st).1, b.length ≤ 1000000
  | [], _, h, _ => h
  | c :: cs, st, h, hc => by
    refine foldK_short cs (stepK st c) ?_ (fun x hx => hc x (List.mem_cons_of_mem _ hx))
    intro b hb
    unfold stepK at hb
    split at hb
    · rcases List.mem_append.1 hb with hb | hb
      · exact h b hb
      · rw [List.mem_singleton.1 hb, keyL_len, ← size_toList, ← size_toList]
        have := hc c (List.mem_cons_self ..)
        omega
    · exact h b hb
theorem OwnS.arrS {w : World} {B : Nat} {v : Value} {l : List (List UInt8)} (h : OwnS w B v l) : ∃ ao cap, v = .slice ao l.length cap ∧ ArrS w ao l.length cap l := by
  have e0 : ∀ m : List (List UInt8), (m.map fun b => [sval b]).flatten = m.map sval := by
    intro m
    induction m with
    | nil => rfl
    | cons x m ih => simp [ih]
  have e := e0 l
  obtain ⟨ao, cap, h1, h2⟩ := Row.arr (size := 1) (es := l.map fun b => [sval b]) (by decide) (by rw [List.length_map, e]; exact h) (fun x hx => by
    obtain ⟨b, _, rfl⟩ := List.mem_map.1 hx
    exact ⟨rfl, fun u hu => by rw [List.mem_singleton.1 hu]; rfl⟩)
  rw [List.length_map] at h1 h2
  exact ⟨ao, cap, h1, h2⟩
structure KeyI (w : World) (v : Value) (st : KSt) (V : World) : Prop where
  own : OwnS V (w.heap.size + 1) v st.1
  c0 : V.cell? ⟨w.heap.size, 0, none⟩ = some (.string st.2.1)
  c1 : V.cell? ⟨w.heap.size, 1, none⟩ = some (.string st.2.2)
  f0 : V.frozen? ⟨w.heap.size, 0, none⟩ = false
  f1 : V.frozen? ⟨w.heap.size, 1, none⟩ = false
  bel : Below w.heap.size w V
theorem KeyI.lt {w V : World} {v : Value} {st : KSt} (h : KeyI w v st V) : w.heap.size < V.heap.size := World.block_lt_of_cell? _ _ h.c0
theorem KeyI.below {w V V' : World} {v : Value} {st : KSt} (h : KeyI w v st V) (hb : Below V.heap.size V V') : KeyI w v st V' :=
  ⟨h.own.below hb, (hb.cell (p := ⟨w.heap.size, 0, none⟩) h.lt).trans h.c0, (hb.cell (p := ⟨w.heap.size, 1, none⟩) h.lt).trans h.c1, (hb.frozen (p := ⟨w.heap.size, 0, none⟩) h.lt).trans h.f0, (hb.frozen (p := ⟨w.heap.size, 1, none⟩) h.lt).trans h.f1, h.bel.trans (hb.mono h.bel.size)⟩
theorem grown_cell {W W' : World} {r : Option Nat} (hg : W.grownBy W' r) {b o : Nat} (hlt : b < W.heap.size) (hne : r ≠ some b) : W'.cell? ⟨b, o, none⟩ = W.cell? ⟨b, o, none⟩ ∧ W'.frozen? ⟨b, o, none⟩ = W.frozen? ⟨b, o, none⟩ :=
  ⟨World.cell?_of_block (a := ⟨b, o, none⟩) (hg.block b hlt (fun e => hne e.symm)), World.frozen?_of_block (a := ⟨b, o, none⟩) (hg.block b hlt (fun e => hne e.symm))⟩
/-- behind an append of a key -/
structure KeyA (w : World) (v : Value) (st : KSt) (ks : List (List UInt8)) (pb : Nat) (xr xc : ByteArray) (V : World) : Prop where
  k : KeyI w v (ks, st.2) V
  p0 : V.cell? ⟨pb, 0, none⟩ = some (.string xr)
  p1 : V.cell? ⟨pb, 1, none⟩ = some (.string xc)
theorem keyA_of {w wr W3 w4 : World} {v v4 : Value} {st : KSt} {ks : List (List UInt8)} {pb : Nat} {xr xc : ByteArray} (hK : KeyI w v st wr) (hB : Below wr.heap.size wr W3) (hp : wr.heap.size ≤ pb)
    (q0 : W3.cell? ⟨pb, 0, none⟩ = some (.string xr)) (q1 : W3.cell? ⟨pb, 1, none⟩ = some (.string xc)) (ho : OwnS w4 (w.heap.size + 1) v4 ks) (hb : Below (w.heap.size + 1) W3 w4) (hg : W3.grownBy w4 v.ownBlock) : KeyA w v4 st ks pb xr xc w4 := by
  have hK3 := hK.below hB
  have hl := hK3.lt
  have hpl := World.block_lt_of_cell? _ _ q0
  have hne : v.ownBlock ≠ some w.heap.size := fun e => by have := (Row.lt hK.own _ e).1; omega
  have hnp : v.ownBlock ≠ some pb := fun e => by have := (Row.lt hK.own _ e).2; omega
  exact ⟨⟨ho, (grown_cell hg hl hne).1.trans hK3.c0, (grown_cell hg hl hne).1.trans hK3.c1, (grown_cell hg hl hne).2.trans hK3.f0, (grown_cell hg hl hne).2.trans hK3.f1, hK3.bel.trans (hb.mono (Nat.le_succ _))⟩, (grown_cell hg hpl hnp).1.trans q0, (grown_cell hg hpl hnp).1.trans q1⟩
theorem KeyA.set {w V : World} {v : Value} {st : KSt} {ks : List (List UInt8)} {pb : Nat} {xr xc : ByteArray} (h : KeyA w v st ks pb xr xc V) : KeyI w v (ks, xr, xc) ((V.setCell ⟨w.heap.size, 0, none⟩ (.string xr)).setCell ⟨w.heap.size, 1, none⟩ (.string xc)) := by
  have hne : ∀ k, v.ownBlock = some k → k ≠ w.heap.size := fun k e => by have := (Row.lt h.k.own _ e).1; omega
  have h1 : (⟨w.heap.size, 1, none⟩ : Addr) ≠ ⟨w.heap.size, 0, none⟩ := by intro e; cases e
  have d1 : (V.setCell ⟨w.heap.size, 0, none⟩ (.string xr)).cell? ⟨w.heap.size, 1, none⟩ = some (.string st.2.2) := (World.cell?_setCell_other _ _ _ _ h1.symm).trans h.k.c1
  refine ⟨Row.setCell (Row.setCell h.k.own (a := ⟨w.heap.size, 0, none⟩) hne _) (a := ⟨w.heap.size, 1, none⟩) hne _, ?_, World.cell?_setCell_same _ _ _ d1, ?_, ?_, (h.k.bel.setCell (p := ⟨w.heap.size, 0, none⟩) (Nat.le_refl _) _).setCell (p := ⟨w.heap.size, 1, none⟩) (Nat.le_refl _) _⟩
  · exact (World.cell?_setCell_other _ _ _ _ h1).trans (World.cell?_setCell_same _ _ _ h.k.c0)
  · rw [World.frozen?_setCell, World.frozen?_setCell]; exact h.k.f0
  · rw [World.frozen?_setCell, World.frozen?_setCell]; exact h.k.f1

set_option maxRecDepth 100000 in
set_option maxHeartbeats 4000000 in
theorem filter_any (ao : Option Addr) (n cap : Nat) (bss : List (List CellA)) (w : World) (h : BB w ao n cap bss) (hsm : ∀ c ∈ bss.flatten, c.row.size ≤ 1000 ∧ c.col.size ≤ 1000) (hn : bss.flatten.length ≤ 32768) :
    Calls Try.prog 47 #[.slice ao n cap] w fun e w' => e = .returned (.tuple #[.string (ofL (makeF (keysOf bss.flatten))), .int .i64 0]) ∧ Below w.heap.size w w' := by
  obtain ⟨i0, hi, iz0, iz1, iz2⟩ := info_parts Try.info_str
  have Hi := Lib.hid hi
  have hl := h.len
  obtain ⟨hc1, hc2⟩ := h.fits
  have Hl := Lib.hid hl
  have H := Lib.hid h
  have Hsm := Lib.hid hsm
  have Hn := Lib.hid hn
  clear h hl hsm hn hi
  go_enter Try.func47, Try.ntmps47
  go_wp2
  have HI0 : Hid (KeyI w (.slice none 0 0) (((bss.take 0).flatten).foldl stepK (([], ⟨#[]⟩, ⟨#[]⟩) : KSt)) (w.alloc (.cells #[.string ⟨#[]⟩, .string ⟨#[]⟩] 62))) := Lib.hid ⟨Row.nil _ _ _ _, by go_simp, by go_simp, by go_simp, by go_simp, by go_grown⟩
  go_loopw [4, 13] (fun v i wr => ∃ k : Nat, k ≤ n ∧ i = .int .i64 k ∧ Hid (KeyI w v (((bss.take k).flatten).foldl stepK (([], ⟨#[]⟩, ⟨#[]⟩) : KSt)) wr)) (fun _ i _ => n - (intOf i).toNat)
  case atStart => exact ⟨0, by omega, rfl, HI0⟩
  case round =>
    clear HI0
    obtain ⟨v4, rfl⟩ : ∃ v, v = u4 := ⟨_, rfl⟩
    obtain ⟨k, hk, rfl, hK⟩ := hrel
    have hzr := hK.out.bel.size
    have hzl := hK.out.lt
    by_cases hlt : k < n
    · obtain ⟨bs, hbs⟩ : ∃ bs, bss[k]? = some bs := ⟨_, List.getElem?_eq_getElem (by rw [Hl.out]; omega)⟩
      obtain ⟨b, off, a, c, rfl, hb, hbc, hcs⟩ := H.out.at_ hbs
      have hx0 := (hK.out.bel.cell (p := ⟨b, off + k, none⟩) hb).trans hbc
      have hst : (((bss.take (k + 1)).flatten).foldl stepK (([], ⟨#[]⟩, ⟨#[]⟩) : KSt)) = bs.foldl stepK (((bss.take k).flatten).foldl stepK (([], ⟨#[]⟩, ⟨#[]⟩) : KSt)) := by
        rw [List.take_add_one, hbs]
        show List.foldl stepK _ ((List.take k bss ++ [bs]).flatten) = _
        rw [List.flatten_append, List.flatten_singleton, List.foldl_append]
      have hsb : ∀ c ∈ bs, c.row.size ≤ 1000 ∧ c.col.size ≤ 1000 := fun c hc => Hsm.out c (List.mem_flatten.2 ⟨bs, List.mem_of_getElem? hbs, hc⟩)
      have hcnt : (((bss.take k).flatten).foldl stepK (([], ⟨#[]⟩, ⟨#[]⟩) : KSt)).1.length + bs.length ≤ 32768 := by
        have h1 := foldK_len (bss.take k).flatten (([], ⟨#[]⟩, ⟨#[]⟩) : KSt)
        have h2 : (bss.take (k + 1)).flatten.length ≤ bss.flatten.length := by
          conv => rhs; rw [← List.take_append_drop (k + 1) bss, List.flatten_append, List.length_append]
          omega
        rw [List.take_add_one, hbs] at h2
        simp only [Option.toList_some, List.flatten_append, List.flatten_singleton, List.length_append] at h2
        have h3 := Hn.out
        simp only [List.length_nil, Nat.zero_add] at h1
        omega
      obtain ⟨st0, hst0⟩ : ∃ st0, st0 = ((bss.take k).flatten).foldl stepK (([], ⟨#[]⟩, ⟨#[]⟩) : KSt) := ⟨_, rfl⟩
      rw [← hst0] at hst hK hcnt
      have Hst := Lib.hid hst
      have Hsb := Lib.hid hsb
      have Hcs := Lib.hid hcs
      have hcl := Arr.fits hcs
      have hcm := Arr.max hcs
      unfold maxLen at hcm
      have Hcnt := Lib.hid hcnt
      obtain ⟨m, hm⟩ : ∃ m, m = bs.length := ⟨_, rfl⟩
      rw [← hm] at hx0 hcl Hcs hcnt
      have Hm := Lib.hid hm
      clear hbs hbc hst hst0 hsb hcs hm
      have HK0 : Hid (KeyI w v4 ((bs.take 0).foldl stepK st0) wr) := hK
      clear hK
      obtain ⟨W1, rfl⟩ : ∃ W : World, W = wr := ⟨_, rfl⟩
      go_wp2_with fail
      go_loopw [4, 19] (fun v i wr => ∃ j : Nat, j ≤ m ∧ i = .int .i64 j ∧ Hid (KeyI w v ((bs.take j).foldl stepK st0) wr)) (fun _ i _ => m - (intOf i).toNat)
      case atStart => exact ⟨0, by omega, rfl, HK0⟩
      case round =>
        clear HK0
        obtain ⟨v5, rfl⟩ : ∃ v, v = u4 := ⟨_, rfl⟩
        obtain ⟨j, hj, rfl, hK⟩ := hrel
        have hzr2 := hK.out.bel.size
        have hzl2 := hK.out.lt
        by_cases hjt : j < m
        · obtain ⟨x, hx⟩ : ∃ x, bs[j]? = some x := ⟨_, List.getElem?_eq_getElem (by rw [← Hm.out]; omega)⟩
          obtain ⟨bx, ox, rfl, hbx, ⟨x0, x1, x2, x3, x4⟩⟩ := Cells.at_ Hcs.out hx
          obtain ⟨k0, k0f⟩ := keep_below hK.out.bel bx hbx
          have hxs := Hsb.out x (List.mem_of_getElem? hx)
          have hst1 : (bs.take (j + 1)).foldl stepK st0 = stepK ((bs.take j).foldl stepK st0) x := by
            rw [List.take_add_one, hx]
            show List.foldl stepK _ (List.take j bs ++ [x]) = _
            rw [List.foldl_append]
            rfl
          have hcnt2 : ((bs.take j).foldl stepK st0).1.length ≤ 32768 := by
            have h1 := foldK_len (bs.take j) st0
            have h2 : (bs.take j).length ≤ bs.length := by rw [List.length_take]; omega
            have h3 := Hcnt.out
            omega
          obtain ⟨st, hst⟩ : ∃ st, st = (bs.take j).foldl stepK st0 := ⟨_, rfl⟩
          rw [← hst] at hK hst1 hcnt2
          obtain ⟨ks, lr, lc⟩ := st
          obtain ⟨ao5, cap5, rfl⟩ := row_slice hK.out.own
          obtain ⟨q, hq⟩ : ∃ q, q = ks.length := ⟨_, rfl⟩
          simp only at hcnt2 hK ⊢
          rw [← hq] at hcnt2 hK ⊢
          have Hq := Lib.hid hq
          clear hq
          have hc0 := hK.out.c0
          have hc1' := hK.out.c1
          have hf0 := hK.out.f0
          have hf1 := hK.out.f1
          simp only at hc0 hc1'
          have Hst1 := Lib.hid hst1
          obtain ⟨xr, xc, xv, xg, xl⟩ := x
          simp only at x0 x1 x2 x3 x4 hxs
          have Kof := Lib.hid fun W => tof_any ⟨xr, xc, xv, xg, xl⟩ W
          have Kkey := Lib.hid fun W => key_any xr xc W (by omega) (by omega)
          obtain ⟨ub, hub⟩ : ∃ ub, ub = ofL (keyL xr.toList xc.toList) := ⟨_, rfl⟩
          rw [← hub] at Kkey
          have Hub := Lib.hid hub
          clear hx hst hst1 hub
          have hcase : (q = 0 ∨ (q ≠ 0 ∧ xr ≠ lr) ∨ (q ≠ 0 ∧ xr = lr ∧ xc ≠ lc)) ∨ (q ≠ 0 ∧ xr = lr ∧ xc = lc) := by
            by_cases h1 : q = 0
            · exact .inl (.inl h1)
            · by_cases h2 : xr = lr
              · by_cases h3 : xc = lc
                · exact .inr ⟨h1, h2, h3⟩
                · exact .inl (.inr (.inr ⟨h1, h2, h3⟩))
              · exact .inl (.inr (.inl ⟨h1, h2⟩))
          rcases hcase with hnew | hold
          · have hst2 : stepK (ks, lr, lc) ⟨xr, xc, xv, xg, xl⟩ = (ks ++ [keyL xr.toList xc.toList], xr, xc) := by
              unfold stepK
              rw [if_pos]
              rcases hnew with h | ⟨_, h⟩ | ⟨_, _, h⟩
              · exact .inl (List.length_eq_zero_iff.1 (by rw [← Hq.out]; exact h))
              · exact .inr fun h2 => h h2.1
              · exact .inr fun h2 => h h2.2
            rw [hst2] at Hst1
            have hq1 : ((q : Int) == 0) = decide (q = 0) := by
              by_cases h : q = 0
              · subst h; rfl
              · rw [decide_eq_false h]; simp; omega
            have hnew2 : q = 0 ∨ (q ≠ 0 ∧ ¬ xr.toList = lr.toList) ∨ (q ≠ 0 ∧ xr = lr ∧ ¬ xc.toList = lc.toList) := by
              rcases hnew with h | ⟨h, h2⟩ | ⟨h, h2, h3⟩
              · exact .inl h
              · exact .inr (.inl ⟨h, (ne_of h2).2⟩)
              · exact .inr (.inr ⟨h, h2, (ne_of h3).2⟩)
            clear hnew
            have hlen5 : ks.length ≤ 1099511627776 := by rw [← Hq.out]; omega
            rcases hnew2 with h | ⟨h, h2⟩ | ⟨h, h2, h3⟩
            · subst h
              clear hst2
              go_wp2_with (first | ((go_at_call 26; refine (Kof.out _).mono ?_; rintro e w2 ⟨rfl, hb⟩; obtain ⟨hB, hS, hk⟩ := after (B := wr.heap.size) (w := wr) (by go_grown) (by go_size) hb; clear hb; obtain ⟨c0, f0, z0⟩ := hk (w.heap.size) (by go_size); clear hk); have hS2 := hS) | (go_at_call 31; refine (Kkey.out _).mono ?_; rintro e w3 ⟨rfl, hb⟩; obtain ⟨hB, hS, hk⟩ := after (B := wr.heap.size) (w := wr) (by go_grown) (by go_size) hb; clear hb; obtain ⟨c0, f0, z0⟩ := hk (w.heap.size) (by go_size); obtain ⟨c1, f1, z1⟩ := hk (w2.heap.size) (by go_size); clear hk) | (at_builtin; go_loud (refine wpList_append_s w3 rfl _ _ 34 rfl (w.heap.size + 1) 9 i0 Try.underlying34 Hi.out iz0 iz1 iz2 (.slice ao5 0 cap5) ks rfl (hK.out.own.below hB) _ ub Hub.out rfl hlen5 ?hb1 ?_; (case hb1 => omega); intro v6 w4 ho4 hb4 hg4; have HA := Lib.hid (keyA_of (pb := w2.heap.size) hK.out hB hS2 ((c1 0).trans (World.cell?_alloc_mark w2 _ _ (0, 0) 0)) ((c1 1).trans (World.cell?_alloc_mark w2 _ _ (0, 0) 1)) ho4 hb4 hg4); have e0 := HA.out.k.c0; have e1 := HA.out.k.c1; have e2 := HA.out.k.f0; have e3 := HA.out.k.f1; have e4 := HA.out.p0; have e5 := HA.out.p1; clear ho4 hb4 hg4)))
              have HN : Hid (KeyI w v6 ((bs.take (j + 1)).foldl stepK st0) ((w4.setCell ⟨w.heap.size, 0, none⟩ (.string xr)).setCell ⟨w.heap.size, 1, none⟩ (.string xc))) := Lib.hid (by rw [Hst1.out]; exact HA.out.set)
              exact ⟨⟨j + 1, by omega, by go_num, HN⟩, by simp [intOf]; omega⟩
            · clear hst2
              go_wp2_with (first | ((go_at_call 26; refine (Kof.out _).mono ?_; rintro e w2 ⟨rfl, hb⟩; obtain ⟨hB, hS, hk⟩ := after (B := wr.heap.size) (w := wr) (by go_grown) (by go_size) hb; clear hb; obtain ⟨c0, f0, z0⟩ := hk (w.heap.size) (by go_size); clear hk); have hS2 := hS) | (go_at_call 31; refine (Kkey.out _).mono ?_; rintro e w3 ⟨rfl, hb⟩; obtain ⟨hB, hS, hk⟩ := after (B := wr.heap.size) (w := wr) (by go_grown) (by go_size) hb; clear hb; obtain ⟨c0, f0, z0⟩ := hk (w.heap.size) (by go_size); obtain ⟨c1, f1, z1⟩ := hk (w2.heap.size) (by go_size); clear hk) | (at_builtin; go_loud (refine wpList_append_s w3 rfl _ _ 34 rfl (w.heap.size + 1) 9 i0 Try.underlying34 Hi.out iz0 iz1 iz2 (.slice ao5 q cap5) ks rfl (hK.out.own.below hB) _ ub Hub.out rfl hlen5 ?hb1 ?_; (case hb1 => omega); intro v6 w4 ho4 hb4 hg4; have HA := Lib.hid (keyA_of (pb := w2.heap.size) hK.out hB hS2 ((c1 0).trans (World.cell?_alloc_mark w2 _ _ (0, 0) 0)) ((c1 1).trans (World.cell?_alloc_mark w2 _ _ (0, 0) 1)) ho4 hb4 hg4); have e0 := HA.out.k.c0; have e1 := HA.out.k.c1; have e2 := HA.out.k.f0; have e3 := HA.out.k.f1; have e4 := HA.out.p0; have e5 := HA.out.p1; clear ho4 hb4 hg4)))
              have HN : Hid (KeyI w v6 ((bs.take (j + 1)).foldl stepK st0) ((w4.setCell ⟨w.heap.size, 0, none⟩ (.string xr)).setCell ⟨w.heap.size, 1, none⟩ (.string xc))) := Lib.hid (by rw [Hst1.out]; exact HA.out.set)
              exact ⟨⟨j + 1, by omega, by go_num, HN⟩, by simp [intOf]; omega⟩
            · subst h2
              clear hst2
              go_wp2_with (first | ((go_at_call 26; refine (Kof.out _).mono ?_; rintro e w2 ⟨rfl, hb⟩; obtain ⟨hB, hS, hk⟩ := after (B := wr.heap.size) (w := wr) (by go_grown) (by go_size) hb; clear hb; obtain ⟨c0, f0, z0⟩ := hk (w.heap.size) (by go_size); clear hk); have hS2 := hS) | (go_at_call 31; refine (Kkey.out _).mono ?_; rintro e w3 ⟨rfl, hb⟩; obtain ⟨hB, hS, hk⟩ := after (B := wr.heap.size) (w := wr) (by go_grown) (by go_size) hb; clear hb; obtain ⟨c0, f0, z0⟩ := hk (w.heap.size) (by go_size); obtain ⟨c1, f1, z1⟩ := hk (w2.heap.size) (by go_size); clear hk) | (at_builtin; go_loud (refine wpList_append_s w3 rfl _ _ 34 rfl (w.heap.size + 1) 9 i0 Try.underlying34 Hi.out iz0 iz1 iz2 (.slice ao5 q cap5) ks rfl (hK.out.own.below hB) _ ub Hub.out rfl hlen5 ?hb1 ?_; (case hb1 => omega); intro v6 w4 ho4 hb4 hg4; have HA := Lib.hid (keyA_of (pb := w2.heap.size) hK.out hB hS2 ((c1 0).trans (World.cell?_alloc_mark w2 _ _ (0, 0) 0)) ((c1 1).trans (World.cell?_alloc_mark w2 _ _ (0, 0) 1)) ho4 hb4 hg4); have e0 := HA.out.k.c0; have e1 := HA.out.k.c1; have e2 := HA.out.k.f0; have e3 := HA.out.k.f1; have e4 := HA.out.p0; have e5 := HA.out.p1; clear ho4 hb4 hg4)))
              have HN : Hid (KeyI w v6 ((bs.take (j + 1)).foldl stepK st0) ((w4.setCell ⟨w.heap.size, 0, none⟩ (.string xr)).setCell ⟨w.heap.size, 1, none⟩ (.string xc))) := Lib.hid (by rw [Hst1.out]; exact HA.out.set)
              exact ⟨⟨j + 1, by omega, by go_num, HN⟩, by simp [intOf]; omega⟩
          · obtain ⟨h, h2, h3⟩ := hold
            subst h2 h3
            have hst2 : stepK (ks, xr, xc) ⟨xr, xc, xv, xg, xl⟩ = (ks, xr, xc) := by
              unfold stepK
              rw [if_neg]
              rintro (h4 | h4)
              · exact h (by rw [Hq.out]; exact List.length_eq_zero_iff.2 h4)
              · exact h4 ⟨rfl, rfl⟩
            rw [hst2] at Hst1
            clear hst2
            go_wp2_with (first | (go_at_call 26; refine (Kof.out _).mono ?_; rintro e w2 ⟨rfl, hb⟩; obtain ⟨hB, hS, hk⟩ := after (B := wr.heap.size) (w := wr) (by go_grown) (by go_size) hb; have Hw2 := Lib.hid hb; clear hb; obtain ⟨c0, f0, z0⟩ := hk (w.heap.size) (by go_size); clear hk))
            have HN : Hid (KeyI w (.slice ao5 q cap5) ((bs.take (j + 1)).foldl stepK st0) (w2.alloc (.cells #[.string xr, .string xc] 62))) := Lib.hid (by rw [Hst1.out]; exact hK.out.below (hB.alloc hS _))
            exact ⟨⟨j + 1, by omega, by go_num, HN⟩, by simp [intOf]; omega⟩
        · obtain rfl : j = m := by omega
          rw [List.take_of_length_le (Nat.le_of_eq Hm.out.symm), ← Hst.out] at hK
          go_wp2_with fail
          exact ⟨⟨k + 1, by omega, by go_num, hK⟩, by simp [intOf]; omega⟩
    · obtain rfl : k = n := by omega
      rw [List.take_of_length_le (Nat.le_of_eq Hl.out)] at hK
      have hKo := hK.out.own
      obtain ⟨ao6, cap6, e6, hA6⟩ := hKo.arrS
      have hks : (bss.flatten.foldl stepK (([], ⟨#[]⟩, ⟨#[]⟩) : KSt)).1.length ≤ 32768 := Nat.le_trans (keysOf_len bss.flatten) Hn.out
      have hsh := foldK_short bss.flatten (([], ⟨#[]⟩, ⟨#[]⟩) : KSt) (fun b hb => by cases hb) Hsm.out
      have KM := Lib.hid (make_any ao6 _ cap6 _ wr hA6 hks hsh)
      obtain ⟨R, hR⟩ : ∃ R, R = ofL (makeF (keysOf bss.flatten)) := ⟨_, rfl⟩
      rw [show makeF (bss.flatten.foldl stepK (([], ⟨#[]⟩, ⟨#[]⟩) : KSt)).1 = makeF (keysOf bss.flatten) from rfl, ← hR] at KM
      have HR := Lib.hid hR
      subst e6
      clear hR hKo hA6 hks hsh
      go_wp2_with (go_at_call 67; refine KM.out.mono ?_; rintro e w6 ⟨rfl, hb6⟩; have Hb6 := Lib.hid hb6; clear hb6)
      go_returns
      exact ⟨by rw [HR.out]; rfl, hK.out.bel.trans (Hb6.out.mono hzr)⟩
end Go.Proofs.Ytihglmicgccgiaa
