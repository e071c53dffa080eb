/-
  The walk of bloom.places and of the iterator that it hands back.
-/
import Derived.Test.YtihglmicgccgiaaBloomH
import Derived.Test.YtihglmicgccgiaaRangeA
import Derived.Test.YtihglmicgccgiaaReadsT
namespace Go.Proofs.Ytihglmicgccgiaa
open Go.RowKit Go.Shelf

attribute [local go_sem] Oper.semAt_some readsUpon
def seqH (x y : Int) : Nat → Int
  | 0 => x
  | j + 1 => IntKind.u64.wrap (seqH x y j + y)
theorem seqH_in {x y : Int} (h : 0 ≤ x ∧ x ≤ 18446744073709551615) : ∀ j, 0 ≤ seqH x y j ∧ seqH x y j ≤ 18446744073709551615
  | 0 => h
  | j + 1 => by rw [seqH, IntKind.wrap_u64]; omega
/-- the places of a key among m bits -/
def placesH (l : List UInt8) (k : Nat) (m : Int) : List Int := (List.range k).map fun j => seqH (hashH 14695981039346656037 l) (hashH 9521554427338878180 l) j % m
theorem placesH_get {l : List UInt8} {k j : Nat} {m : Int} (h : j < k) : (placesH l k m)[j]? = some (seqH (hashH 14695981039346656037 l) (hashH 9521554427338878180 l) j % m) := by
  unfold placesH
  rw [List.getElem?_map, List.getElem?_range h]
  rfl
theorem placesH_len (l : List UInt8) (k : Nat) (m : Int) : (placesH l k m).length = k := by simp [placesH]
theorem placesH_in {l : List UInt8} {k : Nat} {m : Int} (hm : 0 < m) : ∀ x ∈ placesH l k m, 0 ≤ x ∧ x < m := by
  intro x hx
  obtain ⟨j, _, rfl⟩ := List.mem_map.1 hx
  exact ⟨Int.emod_nonneg _ (by omega), Int.emod_lt_of_pos _ hm⟩

set_option maxRecDepth 100000 in
theorem places_any (s : ByteArray) (k m : Int) (w : World) :
    Calls Try.prog 55 #[.string s, .int .i64 k, .int .i64 m] w fun e w' => e = .returned (.func (.func 76) #[] #[.pointer (some ⟨w.heap.size, 0, none⟩), .pointer (some ⟨w.heap.size + 1, 0, none⟩), .pointer (some ⟨w.heap.size + 2, 0, none⟩)]) ∧
      Below w.heap.size w w' ∧ w'.heap.size = w.heap.size + 3 ∧ w'.cell? ⟨w.heap.size, 0, none⟩ = some (.string s) ∧ w'.cell? ⟨w.heap.size + 1, 0, none⟩ = some (.int .i64 k) ∧ w'.cell? ⟨w.heap.size + 2, 0, none⟩ = some (.int .i64 m) := by
  go_enter Try.func55, Try.ntmps55
  go_wp2
  go_ret
  exact ⟨rfl, by go_grown, by simp, by go_simp, by go_simp, by go_simp⟩

set_option maxRecDepth 100000 in
set_option maxHeartbeats 4000000 in
theorem places1_stops (n : Nat) (hn : 1 ≤ n) (s : ByteArray) (k : Nat) (m : Int) (b0 b1 b2 : Nat) (w : World) (h0 : w.cell? ⟨b0, 0, none⟩ = some (.string s)) (h1 : w.cell? ⟨b1, 0, none⟩ = some (.int .i64 k)) (h2 : w.cell? ⟨b2, 0, none⟩ = some (.int .i64 m)) (hs : s.size ≤ maxLen) (hm : 0 < m ∧ m ≤ 1099511627776) (hk : k ≤ 1000) :
    SeqA (α := Int) n Try.prog 76 #[.pointer (some ⟨b0, 0, none⟩), .pointer (some ⟨b1, 0, none⟩), .pointer (some ⟨b2, 0, none⟩)] (fun x => #[.int .i64 x]) (placesH s.toList k m) (fun b => b = b2) w := by
  intro l J Jx W hW hJ hJx hY hJ0
  have HY := Lib.hid hY
  have HJ := Lib.hid hJ
  have H0 := Lib.hid hJ0
  have hWz := hW.size
  have c0 := (hW.cell (p := ⟨b0, 0, none⟩) (World.block_lt_of_cell? _ _ h0)).trans h0
  have c1 := (hW.cell (p := ⟨b1, 0, none⟩) (World.block_lt_of_cell? _ _ h1)).trans h1
  have hb2 := World.block_lt_of_cell? _ _ h2
  simp only at hb2
  have C2 := Lib.hid ((hW.cell (p := ⟨b2, 0, none⟩) hb2).trans h2)
  have KH := Lib.hid fun (g : Nat) (V : World) (q0 : g < V.heap.size) (q1 : V.cell? ⟨g, 0, none⟩ = some (.int .u64 14695981039346656037)) (q2 : V.cell? ⟨g, 1, none⟩ = some (.int .u64 9521554427338878180)) => hashes_any g s 14695981039346656037 9521554427338878180 V (by decide) (by decide) q0 q1 q2 hs
  have hxi := hashH_in (x := 14695981039346656037) s.toList (by decide)
  have hyi := hashH_in (x := 9521554427338878180) s.toList (by decide)
  have hgt := Lib.hid fun j (h : j < k) => placesH_get (l := s.toList) (m := m) h
  have hln := placesH_len s.toList k m
  obtain ⟨x, hx⟩ : ∃ x, x = hashH 14695981039346656037 s.toList := ⟨_, rfl⟩
  obtain ⟨y, hy⟩ : ∃ y, y = hashH 9521554427338878180 s.toList := ⟨_, rfl⟩
  obtain ⟨L, hL⟩ : ∃ L, L = placesH s.toList k m := ⟨_, rfl⟩
  rw [← hx, ← hL] at hgt
  rw [← hy] at hgt
  rw [← hx] at KH hxi
  rw [← hy] at KH hyi
  rw [← hL] at HY hln ⊢
  have Hln := Lib.hid hln
  clear hY hJ hJ0 h0 h1 h2 hx hy hL hln hJx
  refine callsIn_of_wp (F := Fence.wide) Try.func76 rfl trivial ?_ rfl
  refine wpIn_wide.2 ?_
  simp only [Try.ntmps76, List.size_toArray, List.length_cons, List.length_nil, Nat.reduceAdd, Nat.reduceSub, Array.replicate_succ, Array.replicate_zero, List.push_toArray, List.append_toArray, List.nil_append, List.cons_append]
  go_wp2_with fail
  refine (KH.out _ (W.alloc (.cells #[.int .u64 14695981039346656037, .int .u64 9521554427338878180] 29)) (by rw [World.size_alloc]; omega) (by go_simp) (by go_simp)).mono ?_
  rintro e w1 ⟨p, cap, rfl, hT, hB⟩
  have hA : Below W.heap.size W (W.alloc (.cells #[.int .u64 14695981039346656037, .int .u64 9521554427338878180] 29)) := (Below.refl _ _).alloc (Nat.le_refl _) _
  have hB1 := hA.trans (hB.mono hA.size)
  have HT1 : Hid (Two w1 W.heap.size p cap x y) := Lib.hid (Row.mono hT hA.size)
  have HB1 := Lib.hid hB1
  have hz1 := hB1.size
  clear hT hA hB
  have d1 := (hB1.cell (p := ⟨b1, 0, none⟩) (World.block_lt_of_cell? _ _ c1)).trans c1
  clear hB1 c0 c1
  go_wp2
  refine (wpIn_wide (n := n)).1 ?_
  have hbs := fun (V : World) (h : Below W.heap.size W V) => (h.cell (p := ⟨b2, 0, none⟩) (show b2 < W.heap.size by omega)).trans C2.out
  have HJ1 : Hid (J 0 w1) := Lib.hid (HJ.out _ _ _ none H0.out (grown_none' HB1.out) (fun r e => by cases e))
  have HC1 : Hid (w1.cell? ⟨b2, 0, none⟩ = some (.int .i64 m) ∧ W.heap.size ≤ w1.heap.size) := Lib.hid ⟨hbs _ HB1.out, HB1.out.size⟩
  clear hbs
  gi_loopw [10] (fun i wr => ∃ j : Nat, j ≤ k ∧ i = .int .i64 j ∧ Hid (J j wr) ∧ Hid (Two wr W.heap.size p cap (seqH x y j) y) ∧ Hid (wr.cell? ⟨b2, 0, none⟩ = some (.int .i64 m) ∧ W.heap.size ≤ wr.heap.size)) (fun i _ => k - (intOf i).toNat)
  case atStart => exact ⟨0, Nat.zero_le _, rfl, HJ1, HT1, HC1⟩
  case round =>
    clear HJ1 HT1 HC1 HB1
    obtain ⟨j, hj, rfl, hJ1, hT, hC⟩ := hrel
    by_cases hlt : j < k
    · have hxj := hgt.out j hlt
      have hsq := seqH_in (y := y) hxi j
      obtain ⟨q, hq⟩ : ∃ q, q = seqH x y j := ⟨_, rfl⟩
      have hqs : seqH x y (j + 1) = IntKind.u64.wrap (q + y) := by rw [seqH, hq]
      rw [← hq] at hxj hsq hT
      have Hqs := Lib.hid hqs
      clear hq hqs
      have hmod1 : 0 ≤ q % m := Int.emod_nonneg _ (by omega)
      have hmod2 : q % m < m := Int.emod_lt_of_pos _ hm.1
      obtain ⟨hm1, hm2⟩ := hm
      obtain ⟨hsq1, hsq2⟩ := hsq
      have hmne : ¬ m = 0 := by omega
      have hw1 : IntKind.u64.wrap m = m := by rw [IntKind.wrap_u64]; omega
      have htm : q.tmod m = q % m := Int.tmod_eq_emod_of_nonneg hsq1
      have hw2 : IntKind.i64.wrap (q % m) = q % m := by rw [IntKind.wrap_i64]; omega
      have hbz : b2 < W.heap.size := by omega
      obtain ⟨hp1, hp2⟩ := hT.out.lt
      have hjk : j < L.length := by rw [Hln.out]; exact hlt
      have hJd : J j wr.drew := HJ.out j wr wr.drew none hJ1.out ⟨rfl, rfl, rfl, Nat.le_refl _, fun _ _ _ => rfl⟩ (fun r e => by cases e)
      obtain ⟨fn, tmps, assign, body, hyy, hR⟩ := HY.out j _ wr.drew hxj hJd
      try dsimp only at hyy
      have HR := Lib.hid hR
      have x0 := hT.out.c0
      have x2 := hC.out.1
      have hmx : Try.prog.follows .mixedOrders = true := by kernel_rfl
      clear hR hJd hxj
      gi_wp2_with fail
      refine wpIn_region_reads_tail 31 8 (fun _ => trivial) hmx (by kernel_rfl) (by kernel_rfl) (by kernel_rfl) (by kernel_rfl) (by decide) rfl ?_
      simp only [List.take_succ_cons, List.take_zero, List.drop_succ_cons, List.drop_zero]
      repeat (refine wpReads_step (fun K hK => ?_); go_simp; refine hK _ ?_; clear hK K)
      refine wpReads_nil ?_
      gi_wp2_with fail
      refine HR.out.mono ?_
      rintro e W3 (⟨rfl, hJ3, hk3⟩ | ⟨rfl, hJ3, hk3⟩)
      · have hT3 : Two W3 W.heap.size p cap q y := Row.of_heap (Row.drew hT.out) (fun r e => by
          cases e
          exact hk3.same p (.inr hp1) hp2)
        have hC3 : W3.cell? ⟨b2, 0, none⟩ = some (.int .i64 m) := (hk3.cell (p := ⟨b2, 0, none⟩) (.inl rfl) (Nat.lt_of_lt_of_le hbz hC.out.2)).trans hC.out.1
        have hz3 := Nat.le_trans hC.out.2 hk3.size
        have hT3d : Two W3.drew W.heap.size p cap q y := Row.drew hT3
        have y0 := hT3.c0
        have y1 := hT3.c1
        have yf := hT3.free (j := 0) (by decide)
        have hp3 : p < W3.heap.size := Nat.lt_of_lt_of_le hp2 hk3.size
        have hJ5 := Lib.hid hJ3
        have HT3 := Lib.hid hT3
        have HC3 := Lib.hid hC3
        clear hT3 hT3d hC3 hJ3 hk3 x0 x2
        gi_wp2_with fail
        refine wpIn_wide.2 ?_
        refine wp_region_below_tail 8 (by kernel_rfl) (by kernel_rfl) (fun hkept => ?_)
        obtain ⟨r0, rf0⟩ := hkept (p) (by go_size); clear hkept
        simp only [List.take_succ_cons, List.take_zero, List.drop_succ_cons, List.drop_zero]
        repeat (any_goals (first | go_big_quiet_step (fail) | quiet_step (fail) | (refine wpQuiet_step (fun K hK => ?_); go_simp; split <;> (refine hK _ ?_; clear hK K))))
        all_goals (refine wpQuiet_nil ?_; intro V hb; obtain ⟨hB, hS, hk⟩ := after (B := W3.heap.size) (w := W3) (by go_grown) (by go_size) hb; obtain ⟨c0, f0, z0⟩ := hk (p) (by go_size); clear hk hb r0 rf0)
        have hT4 := HT3.out.below hB
        have hC4 := (hB.cell (p := ⟨b2, 0, none⟩) (Nat.lt_of_lt_of_le hbz hz3)).trans HC3.out
        have HJ4 : Hid (J (j + 1) (V.setCell ⟨p, 0, none⟩ (.int .u64 (IntKind.u64.wrap (q + y))))) := Lib.hid (HJ.out _ _ _ (some p) (HJ.out _ _ V none hJ5.out (grown_none' hB) (fun r e => by cases e)) (gb_set gb_row _) (fun r e => by cases e; exact hp1))
        have HT4 : Hid (Two (V.setCell ⟨p, 0, none⟩ (.int .u64 (IntKind.u64.wrap (q + y)))) W.heap.size p cap (seqH x y (j + 1)) y) := Lib.hid (by rw [Hqs.out]; exact hT4.set0 _)
        have HC4 : Hid ((V.setCell ⟨p, 0, none⟩ (.int .u64 (IntKind.u64.wrap (q + y)))).cell? ⟨b2, 0, none⟩ = some (.int .i64 m) ∧ W.heap.size ≤ (V.setCell ⟨p, 0, none⟩ (.int .u64 (IntKind.u64.wrap (q + y)))).heap.size) := Lib.hid ⟨by
          have hne : (⟨p, 0, none⟩ : Addr) ≠ ⟨b2, 0, none⟩ := by intro e; cases e; omega
          exact (World.cell?_setCell_other _ _ _ _ hne).trans hC4, by have := hB.size; simp only [World.setCell]; simp; omega⟩
        clear hT4 hC4
        go_wp2_with fail
        refine NoPanic.normal ?_
        gi_wp2
        go_roundw
        case rel => exact ⟨j + 1, by omega, by go_num, HJ4, HT4, HC4⟩
        case measure => simp [intOf]; omega
      · gi_wp2
        refine bodyPost_ret (results_none rfl _ _ _) rfl ?_
        exact ⟨⟨_, rfl⟩, .inr ⟨j + 1, by omega, hJ3⟩⟩
    · obtain rfl : j = k := by omega
      gi_wp2
      go_end0
      exact ⟨⟨_, rfl⟩, .inl (by rw [Hln.out]; exact hJ1.out)⟩
end Go.Proofs.Ytihglmicgccgiaa

/-
  The walk of bloom.Check.
-/
namespace Go.Proofs.Ytihglmicgccgiaa
open Go.RowKit Go.Shelf

/-- may bytes be a filter? -/
def okF (l : List UInt8) : Bool := decide (9 ≤ l.length) && decide (l.length ≤ 131073) && decide (1 ≤ (l[0]?.getD 0).toNat) && decide ((l[0]?.getD 0).toNat ≤ 8)
set_option maxRecDepth 100000 in
set_option maxHeartbeats 2000000 in
theorem check_any (s : ByteArray) (w : World) (hs : s.size ≤ maxLen) :
    Calls Try.prog 54 #[.string s] w fun e w' => e = .returned (.int .i64 (if okF s.toList then 0 else 4)) ∧ Below w.heap.size w w' := by
  unfold maxLen at hs
  obtain ⟨R, hR⟩ : ∃ R : Int, R = (if okF s.toList then 0 else 4) := ⟨_, rfl⟩
  rw [← hR]
  by_cases h1 : s.size < 9
  · have H : Hid (R = 4) := Lib.hid (by rw [hR, okF, size_list, decide_eq_false (show ¬ 9 ≤ s.size by omega)]; rfl)
    clear hR
    go_enter Try.func54, Try.ntmps54
    go_wp2
    go_ret
    exact ⟨by rw [H.out]; rfl, by go_grown⟩
  · by_cases h2 : 131073 < s.size
    · have H : Hid (R = 4) := Lib.hid (by rw [hR, okF, size_list, decide_eq_false (show ¬ s.size ≤ 131073 by omega), Bool.and_false]; rfl)
      clear hR
      go_enter Try.func54, Try.ntmps54
      go_wp2
      go_ret
      exact ⟨by rw [H.out]; rfl, by go_grown⟩
    · have i0 := fun W => idx_at s 0 (by omega) .i64 0 rfl W
      have e0 : s.toList[0]?.getD 0 = s[0] := byte_getD (by omega)
      obtain ⟨c, hc⟩ : ∃ c, c = s[0] := ⟨_, rfl⟩
      rw [← hc] at i0 e0
      have hR2 : R = if (1 ≤ c.toNat ∧ c.toNat ≤ 8) then 0 else 4 := by
        rw [hR, okF, e0, size_list, decide_eq_true (show 9 ≤ s.size by omega), decide_eq_true (show s.size ≤ 131073 by omega)]
        simp
      clear hR hc e0
      by_cases h3 : c.toNat < 1
      · have H : Hid (R = 4) := Lib.hid (by rw [hR2, if_neg (by omega)])
        clear hR2
        go_enter Try.func54, Try.ntmps54
        go_wp2
        go_ret
        exact ⟨by rw [H.out]; rfl, by go_grown⟩
      · by_cases h4 : 8 < c.toNat
        · have H : Hid (R = 4) := Lib.hid (by rw [hR2, if_neg (by omega)])
          clear hR2
          go_enter Try.func54, Try.ntmps54
          go_wp2
          go_ret
          exact ⟨by rw [H.out]; rfl, by go_grown⟩
        · have H : Hid (R = 0) := Lib.hid (by rw [hR2, if_pos (by omega)])
          clear hR2
          go_enter Try.func54, Try.ntmps54
          go_wp2
          go_ret
          exact ⟨by rw [H.out]; rfl, by go_grown⟩
end Go.Proofs.Ytihglmicgccgiaa

/-
  The walk of bloom.Has.
-/
namespace Go.Proofs.Ytihglmicgccgiaa
open Go.RowKit Go.Shelf

attribute [local go_sem] Oper.semAt_some readsUpon
/-- is a bit of a filter set? -/
def bitS (s : List UInt8) (x : Int) : Bool := !(bits .and .u8 ((((s[1 + x.toNat / 8]?).getD 0).toNat : Int) / 2 ^ (x.toNat % 8)) 1 == 0)
/-- what Has answers, for a filter that may be one -/
def hasS (s key : List UInt8) : Bool := (placesH key ((s[0]?).getD 0).toNat (8 * ((s.length : Int) - 1))).all (bitS s)
theorem all_false {α : Type} {p : α → Bool} {l : List α} {k : Nat} {x : α} (h : l[k]? = some x) (hp : p x = false) : l.all p = false := List.all_eq_false.2 ⟨x, List.mem_of_getElem? h, by rw [hp]; exact Bool.false_ne_true⟩
theorem all_take {α : Type} {p : α → Bool} {l : List α} {k : Nat} {x : α} (h : l[k]? = some x) (hp : p x = true) (ht : (l.take k).all p = true) : (l.take (k + 1)).all p = true := by
  rw [List.take_add_one, h, List.all_append, ht]
  simp [hp]
/-- what Has keeps while it goes -/
structure HasI (w w1 : World) (s : ByteArray) (p q : Nat) (r : Bool) (V : World) : Prop where
  bel : Below w.heap.size w V
  size : w1.heap.size ≤ V.heap.size
  c0 : V.cell? ⟨p, 0, none⟩ = some (.string s)
  c1 : V.cell? ⟨q, 0, none⟩ = some (.bool r)
  f1 : V.frozen? ⟨q, 0, none⟩ = false
theorem HasI.own {w w1 : World} {s : ByteArray} {p q : Nat} {r : Bool} {V V' : World} {row : Option Nat} (h : HasI w w1 s p q r V) (hp : p < w1.heap.size) (hq : q < w1.heap.size) (hg : V.grownBy V' row) (hr : ∀ q, row = some q → w1.heap.size ≤ q) (hw : w.heap.size ≤ w1.heap.size := by omega) : HasI w w1 s p q r V' := by
  have hk : ∀ k, k < w1.heap.size → V'.heap[k]? = V.heap[k]? := fun k hk => hg.block k (by have := h.size; omega) (fun e => by have := hr k e.symm; omega)
  refine ⟨h.bel.grown hg (by have := h.size; omega) fun k e => by have := hr k e; omega, Nat.le_trans h.size hg.size, (World.cell?_of_block (a := ⟨p, 0, none⟩) (hk p hp)).trans h.c0, (World.cell?_of_block (a := ⟨q, 0, none⟩) (hk q hq)).trans h.c1, ?_⟩
  have := hk q hq
  have hf := h.f1
  unfold World.frozen? at hf ⊢
  rw [this]
  exact hf

set_option maxRecDepth 100000 in
set_option maxHeartbeats 4000000 in
theorem has_any (s key : ByteArray) (w : World) (hs : s.size ≤ maxLen) (hk : key.size ≤ maxLen) (hok : okF s.toList = true) :
    Calls Try.prog 30 #[.string s, .string key] w fun e w' => e = .returned (.bool (hasS s.toList key.toList)) ∧ Below w.heap.size w w' := by
  obtain ⟨A, hA⟩ : ∃ A, A = hasS s.toList key.toList := ⟨_, rfl⟩
  rw [← hA]
  unfold hasS at hA
  unfold okF at hok
  simp only [Bool.and_eq_true, decide_eq_true_eq, size_list] at hok
  obtain ⟨⟨⟨o1, o2⟩, o3⟩, o4⟩ := hok
  have hck := check_any s
  have i0 := fun W => idx_at s 0 (by omega) .i64 0 rfl W
  rw [byte_getD (show 0 < s.size by omega)] at o3 o4 hA
  rw [size_list] at hA
  obtain ⟨c, hc⟩ : ∃ c, c = s[0] := ⟨_, rfl⟩
  rw [← hc] at i0 o3 o4 hA
  have HA := Lib.hid hA
  clear hA
  have KC := Lib.hid fun (V : World) => (hck V hs)
  rw [show (if okF s.toList then (0 : Int) else 4) = 0 from if_pos (by
    unfold okF
    simp only [Bool.and_eq_true, decide_eq_true_eq, size_list]
    rw [byte_getD (show 0 < s.size by omega), ← hc]
    exact ⟨⟨⟨o1, o2⟩, o3⟩, o4⟩)] at KC
  clear hc hck
  refine callsIn_wide.1 (callsIn_of_wp_marks (F := Fence.wide) (n := 20) Try.func30 rfl trivial ?_ rfl); refine wpIn_wide.2 ?_; simp only [Try.ntmps30, List.size_toArray, List.length_cons, List.length_nil, Nat.reduceAdd, Nat.reduceSub, Array.replicate_succ, Array.replicate_zero, List.push_toArray, List.append_toArray, List.nil_append, List.cons_append]
  go_wp2_with fail
  obtain ⟨W0, hW0⟩ : ∃ V : World, V = (w.alloc (.cells #[.string s] 9)).alloc (.cells #[.bool false] 4) := ⟨_, rfl⟩
  have q0 : W0.cell? ⟨w.heap.size, 0, none⟩ = some (.string s) := by rw [hW0]; go_simp
  have q1 : W0.cell? ⟨w.heap.size + 1, 0, none⟩ = some (.bool false) := by rw [hW0]; go_simp
  have q2 : W0.frozen? ⟨w.heap.size + 1, 0, none⟩ = false := by rw [hW0]; go_simp
  have q3 : Below w.heap.size w W0 := by rw [hW0]; go_grown
  have q4 : W0.heap.size = w.heap.size + 2 := by rw [hW0]; simp
  rw [← hW0]
  obtain ⟨P, hP⟩ : ∃ P, P = w.heap.size := ⟨_, rfl⟩
  obtain ⟨R, hR⟩ : ∃ R, R = w.heap.size + 1 := ⟨_, rfl⟩
  rw [← hR] at q1 q2 ⊢
  rw [← hP] at q0 ⊢
  clear hW0
  refine (KC.out _).mono ?_
  rintro e w1 ⟨rfl, hb⟩
  have hPz : P < W0.heap.size := by omega
  have hRz : R < W0.heap.size := by omega
  have a0 := (hb.cell (p := ⟨P, 0, none⟩) hPz).trans q0
  have a1 := (hb.cell (p := ⟨R, 0, none⟩) hRz).trans q1
  have af := (hb.frozen (p := ⟨R, 0, none⟩) hRz).trans q2
  have hB1 : Below w.heap.size w w1 := q3.trans (hb.mono (by omega))
  have hz1 := hb.size
  have hPw : P < w1.heap.size := by omega
  have hRw : R < w1.heap.size := by omega
  unfold maxLen at hs hk
  have hwP : w.heap.size ≤ P := by omega
  have hPR : P < R := by omega
  have HP := Lib.hid hP
  have HR := Lib.hid hR
  have Hq4 := Lib.hid q4
  clear hb q0 q1 q2 hP hR q4
  go_wp2_with fail
  refine wp_region_below_tail 8 (by kernel_rfl) (by kernel_rfl) (fun hkept => ?_)
  obtain ⟨r0, rf0⟩ := hkept (P) (by go_size); obtain ⟨r1, rf1⟩ := hkept (R) (by go_size); clear hkept
  simp only [List.take_succ_cons, List.take_zero, List.drop_succ_cons, List.drop_zero]
  repeat (any_goals (first | go_big_quiet_step (fail) | quiet_step (fail) | (refine wpQuiet_step (fun K hK => ?_); go_simp; split <;> (refine hK _ ?_; clear hK K))))
  all_goals (refine wpQuiet_nil ?_; intro V hb; obtain ⟨hB, hS, hk⟩ := after (B := w1.heap.size) (w := w1) (by go_grown) (by go_size) hb; obtain ⟨c0, f0, z0⟩ := hk (P) (by go_size); obtain ⟨c1, f1, z1⟩ := hk (R) (by go_size); clear hk hb r0 rf0 r1 rf1)
  go_wp2_with fail
  obtain ⟨m, hm⟩ : ∃ m : Int, m = 8 * ((s.size : Int) - 1) := ⟨_, rfl⟩
  have hm1 : 0 < m ∧ m ≤ 1099511627776 := by omega
  rw [← hm]
  refine (places_any key c.toNat m V).mono ?_
  rintro e w2 ⟨rfl, hb2, hz2, k0, k1, k2⟩
  have hPV : P < V.heap.size := by have := hB.size; omega
  have hRV : R < V.heap.size := by have := hB.size; omega
  have HI0 : Hid (HasI w w2 s P R false w2) := Lib.hid ⟨hB1.trans ((hB.trans (hb2.mono hB.size)).mono hB1.size), Nat.le_refl _, (hb2.cell (p := ⟨P, 0, none⟩) hPV).trans ((hB.cell (p := ⟨P, 0, none⟩) hPw).trans a0), (hb2.cell (p := ⟨R, 0, none⟩) hRV).trans ((hB.cell (p := ⟨R, 0, none⟩) hRw).trans a1), (hb2.frozen (p := ⟨R, 0, none⟩) hRV).trans ((hB.frozen (p := ⟨R, 0, none⟩) hRw).trans af)⟩
  have Hm := Lib.hid hm
  clear hm c0 c1 f1 a0 a1 af hb2 hB hB1
  go_wp2
  refine NoPanic.normal ?_
  go_wp2
  refine (wpIn_wide (n := 20)).1 ?_
  refine rangeA (n := 20) (by omega) (gf := 76) (lb := #[.pointer (some ⟨V.heap.size, 0, none⟩), .pointer (some ⟨V.heap.size + 1, 0, none⟩), .pointer (some ⟨V.heap.size + 2, 0, none⟩)]) rfl (enters_of Try.func76 (by kernel_rfl) rfl)
    (F := fun b => b = V.heap.size + 2) (fun k e => by subst e; omega) (places1_stops 19 (by omega) key c.toNat m _ _ _ w2 k0 k1 k2 (by unfold maxLen; omega) hm1 (by omega)) (fun _ => rfl)
    (fun k W => HasI w w2 s P R false W ∧ ((placesH key.toList c.toNat m).take k).all (bitS s.toList) = true) (fun cd _ W => cd = .ret ∧ HasI w w2 s P R false W ∧ (placesH key.toList c.toNat m).all (bitS s.toList) = false) ?hI ?hIx ⟨HI0.out, rfl⟩ ?hround ?done ?stop
  case hI =>
    intro k A B row h hg hr
    exact ⟨h.1.own (by omega) (by omega) hg hr (by omega), h.2⟩
  case hIx =>
    intro cd k A B row h hg hr
    exact ⟨h.1, h.2.1.own (by omega) (by omega) hg hr (by omega), h.2.2⟩
  case hround =>
    rintro l k x W hl hlW hx ⟨hI, hall⟩
    have hxm := placesH_in hm1.1 x (List.mem_of_getElem? hx)
    obtain ⟨d, hd⟩ : ∃ d : Nat, x.tdiv 8 = d := ⟨(x / 8).toNat, by rw [Int.tdiv_eq_ediv_of_nonneg hxm.1]; omega⟩
    obtain ⟨r, hr⟩ : ∃ r : Nat, x.tmod 8 = r := ⟨(x % 8).toNat, by rw [Int.tmod_eq_emod_of_nonneg hxm.1]; omega⟩
    have hd2 : 1 + d < s.size := by have := Hm.out; rw [Int.tdiv_eq_ediv_of_nonneg hxm.1] at hd; omega
    have hr8 : r < 8 := by rw [Int.tmod_eq_emod_of_nonneg hxm.1] at hr; omega
    have ii := fun W => idx_at s (1 + d) hd2 .i64 (1 + (d : Int)) (by omega) W
    obtain ⟨y, hy⟩ : ∃ y, y = s[1 + d] := ⟨_, rfl⟩
    rw [← hy] at ii
    have hy256 := y.toNat_lt
    obtain ⟨hx0, hx1⟩ := hxm
    have HX := Lib.hid hx
    have HY := Lib.hid hy
    clear hx hy
    gi_wp2
    refine ⟨KpC.refl _ _ _, fun W2 hg2 hz2 => ?_⟩
    have hI2 := hI.own (by omega) (by omega) hg2 (fun r e => by cases e; rw [hl]; omega)
    have y0 := hI2.c0
    have y1 := hI2.c1
    have y2 := hI2.f1
    have HI := Lib.hid hI2
    have hwe : w.heap.size ≤ w2.heap.size := by omega
    have HK : Hid (KpC (fun b => b = V.heap.size + 2) (w2.heap.size + 2) W W2) := Lib.hid ⟨hg2.size, fun k hk hlt => hg2.block k hlt (fun e => by have := Option.some.inj e; omega)⟩
    clear hI hI2 hg2
    have hbit : bitS s.toList x = !(bits .and .u8 ((y.toNat : Int) / 2 ^ r) 1 == 0) := by
      rw [Int.tdiv_eq_ediv_of_nonneg hx0] at hd
      rw [Int.tmod_eq_emod_of_nonneg hx0] at hr
      unfold bitS
      rw [show x.toNat / 8 = d by omega, show x.toNat % 8 = r by omega, byte_getD hd2, ← HY.out]
    obtain ⟨t, ht⟩ : ∃ t : Bool, t = (bits .and .u8 ((y.toNat : Int) / 2 ^ r) 1 == 0) := ⟨_, rfl⟩
    rw [← ht] at hbit
    have ht2 := ht.symm
    clear ht
    cases t
    · have HN := Lib.hid (all_take HX.out hbit hall)
      clear hbit hall
      gi_wp2_with fail
      exact ⟨⟨KpC.refl _ _ _, HK.out⟩, HI.out, HN.out⟩
    · have HN := Lib.hid (all_false HX.out hbit)
      clear hbit hall
      gi_wp2_with fail
      have hI5 := HI.out
      have hk1 : KpC (fun b => b = V.heap.size + 2) w2.heap.size W2 (W2.setCell ⟨R, 0, none⟩ (.bool false)) := ⟨by simp [World.setCell], fun k hk hlt => Below.heap_setCell _ _ _ _ (by simp only; omega)⟩
      refine ⟨⟨hk1, HK.out.trans (hk1.later (by omega))⟩, rfl, ⟨hI5.bel.setCell (p := ⟨R, 0, none⟩) (by simp only; omega) _, by have := hI5.size; simp only [World.setCell]; simp; omega, ?_, World.cell?_setCell_same _ _ _ y1, by rw [World.frozen?_setCell]; exact y2⟩, HN.out⟩
      have hne : (⟨R, 0, none⟩ : Addr) ≠ ⟨P, 0, none⟩ := by intro e; cases e; omega
      exact (World.cell?_setCell_other _ _ _ _ hne).trans y0
  case done =>
    rintro D W hD ⟨hI, hall⟩ hK
    have hA2 : A = true := by rw [HA.out, ← Hm.out, ← hall, List.take_of_length_le (Nat.le_refl _)]
    have HA2 := Lib.hid hA2
    have HI := Lib.hid hI
    have HK := Lib.hid hK
    have y1 := hI.c1
    have y2 := hI.f1
    have hwR : w.heap.size ≤ R := by omega
    have hwD : w.heap.size ≤ D := by omega
    clear hI hall hA2 hK
    go_wp2_with fail
    have hKs := (KeepsOthers.setCell W ⟨R, 0, none⟩ (.bool true)).same D _ HK.out rfl
    have t0 : (W.setCell ⟨R, 0, none⟩ (.bool true)).cell? ⟨R, 0, none⟩ = some (.bool true) := World.cell?_setCell_same _ _ _ y1
    have t1 := cell_put (o' := .deferred none) hKs rfl t0
    exact postM_ret1 (v := .bool true) rfl hKs (by simp [results, Try.results30, go_sem, t1]) ⟨by rw [HA2.out], ((HI.out.bel.setCell (p := ⟨R, 0, none⟩) hwR _).trans (below_put hKs hwD))⟩
  case stop =>
    rintro D cd k W hD hk2 ⟨rfl, hI, hall⟩ hK
    have hA2 : A = false := by rw [HA.out, ← Hm.out, hall]
    have hwD : w.heap.size ≤ D := by omega
    refine wpIn_wide.2 ?_
    go_wp2_with fail
    have t1 := cell_put (o' := .deferred none) hK rfl hI.c1
    exact postM_ret1 (v := .bool false) rfl hK (by simp [results, Try.results30, go_sem, t1]) ⟨by rw [hA2], hI.bel.trans (below_put hK hwD)⟩
end Go.Proofs.Ytihglmicgccgiaa
