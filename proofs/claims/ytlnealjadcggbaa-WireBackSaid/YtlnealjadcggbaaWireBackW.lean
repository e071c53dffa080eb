/-
  The walk of acreagelaw01.WireBack.
-/
import Derived.Test.YtlnealjadcggbaaWireLW
namespace Go.Proofs.Ytlnealjadcggbaa
open Go.RowKit

structure ThingA where
  text : Bool
  num : Nat
  str : ByteArray
structure ThingA.Ok (x : ThingA) : Prop where
  num : U64 x.num
  str : x.str.size ≤ maxLen

def cutS (x : ThingA) : List UInt8 := x.str.toList.take 300
def encT (x : ThingA) : List UInt8 := if x.text then textB (cutS x) else numL x.num
def flat (l : List ThingA) : List UInt8 := l.flatMap encT

theorem encT_len (x : ThingA) (h : x.Ok) : (encT x).length ≤ 310 := by
  unfold encT
  split
  · have h1 : (cutS x).length ≤ 300 := by simp [cutS]; omega
    have := numL_ten (v := (cutS x).length) (by omega)
    simp only [textB, List.length_append]; omega
  · have := numL_ten h.num.lt; omega
theorem flat_len : ∀ l : List ThingA, (∀ x ∈ l, x.Ok) → (flat l).length ≤ 310 * l.length
  | [], _ => by simp [flat]
  | x :: l, h => by
    have h1 := encT_len x (h x (by simp))
    have h2 := flat_len l (fun y hy => h y (by simp [hy]))
    simp only [flat, List.flatMap_cons, List.length_append, List.length_cons] at h2 ⊢
    omega
theorem flat_snoc (l : List ThingA) (x : ThingA) : flat (l ++ [x]) = flat l ++ encT x := by simp [flat]
theorem flat_cons (l : List ThingA) (x : ThingA) : flat (x :: l) = encT x ++ flat l := by simp [flat]
theorem take_snoc (l : List ThingA) (k : Nat) (x : ThingA) (h : l[k]? = some x) : l.take (k + 1) = l.take k ++ [x] := by
  rw [List.take_add_one, h]; rfl
theorem drop_cons (l : List ThingA) (k : Nat) (x : ThingA) (h : l[k]? = some x) : l.drop k = x :: l.drop (k + 1) := by
  obtain ⟨hk, rfl⟩ := List.getElem?_eq_some_iff.1 h
  exact List.drop_eq_getElem_cons hk

/-- Where the things lie. -/
structure Lie (w : World) (b off : Nat) (things : List ThingA) : Prop where
  lt : b < w.heap.size
  c0 : ∀ i x, things[i]? = some x → w.cell? ⟨b, off + i * 3, none⟩ = some (.bool x.text)
  c1 : ∀ i x, things[i]? = some x → w.cell? ⟨b, off + i * 3 + 1, none⟩ = some (.int .u64 x.num)
  c2 : ∀ i x, things[i]? = some x → w.cell? ⟨b, off + i * 3 + 2, none⟩ = some (.string x.str)
theorem Lie.of {w w' : World} {b off : Nat} {things : List ThingA} (h : Lie w b off things) (hb : Below w.heap.size w w') : Lie w' b off things :=
  ⟨by have := h.lt; have := hb.size; omega, fun i x hx => (hb.cell h.lt).trans (h.c0 i x hx), fun i x hx => (hb.cell h.lt).trans (h.c1 i x hx), fun i x hx => (hb.cell h.lt).trans (h.c2 i x hx)⟩

/-- The first loop. -/
structure Put1 (things : List ThingA) (w : World) (k : Nat) (s : ByteArray) (wr : World) : Prop where
  str : s = ofL (flat (things.take k))
  bel : Below w.heap.size w wr

theorem Put1.size {things : List ThingA} {w : World} {k : Nat} {s : ByteArray} {wr : World} (h : Put1 things w k s wr) (hok : ∀ x ∈ things, x.Ok) (hk : k ≤ 30) : s.size ≤ 1099511627776 := by
  rw [h.str, ofL_size]
  have := flat_len (things.take k) (fun x hx => hok x (List.mem_of_mem_take hx))
  rw [List.length_take] at this
  omega
theorem Put1.next {things : List ThingA} {w : World} {k : Nat} {s : ByteArray} {wr : World} (h : Put1 things w k s wr) {x : ThingA} (hx : things[k]? = some x) {s' : ByteArray} (hs : s' = ofL (s.toList ++ encT x)) {w' : World} (hb : Below wr.heap.size wr w') : Put1 things w (k + 1) s' w' :=
  ⟨by rw [hs, h.str, ofL_toList, take_snoc _ _ _ hx, flat_snoc], h.bel.trans (hb.mono h.bel.size)⟩

/-- The second loop: the reader has what is still to read. -/
structure Read2 (things : List ThingA) (n : Nat) (bh : List UInt8) (w : World) (g k : Nat) (s : ByteArray) (wr : World) : Prop where
  bel : Below w.heap.size w wr
  lo : w.heap.size ≤ g
  hi : g < wr.heap.size
  cell : wr.cell? ⟨g, 0, none⟩ = some (.string s)
  free : wr.frozen? ⟨g, 0, none⟩ = false
  str : s.toList = flat ((things.take n).drop k) ++ bh
theorem Read2.size {things : List ThingA} {n : Nat} {bh : List UInt8} {w : World} {g k : Nat} {s : ByteArray} {wr : World} (h : Read2 things n bh w g k s wr) (hok : ∀ x ∈ things, x.Ok) (hn : n ≤ 30) (hb : bh.length ≤ 1000) : s.size ≤ maxLen := by
  refine size_le h.str ?_
  have := flat_len ((things.take n).drop k) (fun x hx => hok x (List.mem_of_mem_take (List.mem_of_mem_drop hx)))
  rw [List.length_drop, List.length_take] at this
  rw [List.length_append]
  unfold maxLen
  omega
theorem Read2.front {things : List ThingA} {n : Nat} {bh : List UInt8} {w : World} {g k : Nat} {s : ByteArray} {wr : World} (h : Read2 things n bh w g k s wr) {x : ThingA} (hx : things[k]? = some x) (hk : k < n) : s.toList = encT x ++ (flat ((things.take n).drop (k + 1)) ++ bh) := by
  rw [h.str, drop_cons (things.take n) k x (by rw [List.getElem?_take_of_lt hk]; exact hx), flat_cons, List.append_assoc]
theorem Read2.last {things : List ThingA} {n : Nat} {bh : List UInt8} {w : World} {g k : Nat} {s : ByteArray} {wr : World} (h : Read2 things n bh w g k s wr) (hk : n ≤ k) : s.toList = bh ++ [] := by
  rw [h.str, List.drop_eq_nil_of_le (by rw [List.length_take]; omega)]
  simp [flat]

theorem Read2.stored {things : List ThingA} {n : Nat} {bh : List UInt8} {w : World} {g k : Nat} {s : ByteArray} {wr : World} (h : Read2 things n bh w g k s wr) {s' : ByteArray} (hs : s'.toList = flat ((things.take n).drop (k + 1)) ++ bh) : Read2 things n bh w g (k + 1) s' (wr.setCell ⟨g, 0, none⟩ (.string s')) :=
  ⟨h.bel.setCell h.lo _, h.lo, by rw [World.size_setCell]; exact h.hi, World.cell?_setCell_same _ _ _ h.cell, by rw [World.frozen?_setCell]; exact h.free, hs⟩
theorem Read2.later {things : List ThingA} {n : Nat} {bh : List UInt8} {w : World} {g k : Nat} {s : ByteArray} {wr w' : World} (h : Read2 things n bh w g k s wr) (hb : Below wr.heap.size wr w') : Read2 things n bh w g k s w' :=
  ⟨h.bel.trans (hb.mono h.bel.size), h.lo, by have := h.hi; have := hb.size; omega, (hb.cell h.hi).trans h.cell, (hb.frozen h.hi).trans h.free, h.str⟩

theorem cut_take (x : ThingA) (q : Nat) (h : (if (300 : Int) < (x.str.size : Int) then (300 : Int) else x.str.size) = q) : (x.str.extract 0 q).toList = cutS x := by
  rw [toList_extract, List.drop_zero, cutS]
  by_cases h3 : (300 : Int) < (x.str.size : Int)
  · rw [if_pos h3] at h; obtain rfl : q = 300 := by omega
    rfl
  · rw [if_neg h3] at h; obtain rfl : q = x.str.size := by omega
    rw [← size_list, List.take_length, List.take_of_length_le (by rw [size_list]; omega)]

set_option maxRecDepth 100000 in
set_option maxHeartbeats 2000000 in
theorem back_some (things : List ThingA) (b off len cap : Nat) (behind : ByteArray) (w : World) (hok : ∀ x ∈ things, x.Ok) (hlen : things.length = len) (hcap : len ≤ cap) (hmax : cap ≤ maxLen) (hb : behind.size ≤ maxLen) (hlie : Lie w b off things) :
    Calls Try.prog 3 #[.slice (some ⟨b, off, none⟩) len cap, .string behind] w fun e w' => e = .returned (.bool true) ∧ Below w.heap.size w w' := by
  obtain ⟨n, hn⟩ : ∃ n : Nat, (if (30 : Int) < (len : Int) then (30 : Int) else len) = n := ⟨min 30 len, by split <;> omega⟩
  obtain ⟨m, hm⟩ : ∃ m : Nat, (if (1000 : Int) < (behind.size : Int) then (1000 : Int) else behind.size) = m := ⟨min 1000 behind.size, by split <;> omega⟩
  have hn1 : n ≤ 30 := by split at hn <;> omega
  have hn2 : n ≤ len := by split at hn <;> omega
  have hm1 : m ≤ 1000 := by split at hm <;> omega
  have hm2 : m ≤ behind.size := by split at hm <;> omega
  have Hok := Lib.hid hok
  have Hlen := Lib.hid hlen
  have Hlie := Lib.hid hlie
  unfold maxLen at hmax hb
  clear hok hlen hlie
  go_enter Try.func3, Try.ntmps3
  go_wp2
  go_loopw [5, 7] (fun v i wr => ∃ (k : Nat) (s : ByteArray), k ≤ n ∧ i = .int .i64 k ∧ v = .string s ∧ Hid (Put1 things w k s wr)) (fun _ i _ => n - (intOf i).toNat)
  case atStart => exact ⟨0, _, Nat.zero_le _, rfl, rfl, ⟨by simp [flat, ofL], Below.refl _ _⟩⟩
  case round =>
    obtain ⟨k, s, hk, rfl, rfl, hr⟩ := hrel
    by_cases hlt : k < n
    · obtain ⟨x, hx⟩ : ∃ x, things[k]? = some x := ⟨_, List.getElem?_eq_getElem (by rw [Hlen.out]; omega)⟩
      have hl := Hlie.out.of hr.out.bel
      have c0 := hl.c0 k x hx
      have c1 := hl.c1 k x hx
      have c2 := hl.c2 k x hx
      have Hx := Lib.hid hx
      have hxok := Hok.out x (List.mem_of_getElem? hx)
      have hblt := hl.lt
      clear hx hl
      obtain ⟨q, hq⟩ : ∃ q : Nat, (if (300 : Int) < (x.str.size : Int) then (300 : Int) else x.str.size) = q := ⟨min 300 x.str.size, by split <;> omega⟩
      have hq1 : q ≤ x.str.size := by split at hq <;> omega
      have hq2 : q ≤ 300 := by split at hq <;> omega
      have hcut := Lib.hid (cut_take x q hq)
      have hssz := hr.out.size Hok.out (by omega)
      have hxs := hxok.str
      have hesz : (x.str.extract 0 q).size ≤ 1099511627776 := by rw [size_eq hcut.out]; simp [cutS]; omega
      unfold maxLen at hxs
      have hxu := hxok.num
      cases ht : x.text
      · have hen := Lib.hid (show encT x = numL x.num by simp [encT, ht])
        rw [ht] at c0
        clear ht hxok
        go_wp2_with (go_at_call 8; refine (putnumber_of s x.num _ hssz hxu).mono ?_; rintro e w1 ⟨rfl, hb⟩; obtain ⟨hB, hS, hk⟩ := after (B := wr.heap.size) (w := wr) (by go_grown) (by go_size) hb; clear hb; clear hk)
        go_roundw
        case rel => exact ⟨k + 1, _, by omega, by go_num, rfl, hr.out.next Hx.out (by rw [hen.out]; rfl) hB⟩
        case measure => simp [intOf]; omega
      · have hen := Lib.hid (show encT x = textB (x.str.extract 0 q).toList by simp [encT, ht, hcut.out])
        rw [ht] at c0
        clear ht hxok
        go_wp2
        refine wp_region_below (by kernel_rfl) (by kernel_rfl) (fun hkept => ?_)
        obtain ⟨r0, rf0⟩ := hkept (b) (by go_size); clear hkept
        repeat (any_goals (first | go_big_quiet_step (first | (go_at_call 7; exact Calls.regrown_of (puttext_of s _ _ hssz hesz))) | quiet_step (first | (go_at_call 7; exact Calls.regrown_of (puttext_of s _ _ hssz hesz))) | (refine wpQuiet_step (fun K hK => ?_); go_simp; split <;> (refine hK _ ?_; clear hK K))))
        all_goals (refine wpQuiet_nil ?_; intro w1 hb; obtain ⟨hB, hS, hk⟩ := after (B := wr.heap.size) (w := wr) (by go_grown) (by go_size) hb; obtain ⟨c0, f0, z0⟩ := hk (b) (by go_size); clear hk hb r0 rf0)
        go_wp2
        go_roundw
        case rel => exact ⟨k + 1, _, by omega, by go_num, rfl, hr.out.next Hx.out (by rw [hen.out]) hB⟩
        case measure => simp [intOf]; omega
    · obtain rfl : k = n := by omega
      have hssz := hr.out.size Hok.out (by omega)
      have hbsz : (behind.extract 0 m).size ≤ 1000 := by rw [ByteArray.size_extract]; omega
      have hbl : (behind.extract 0 m).size = m := by rw [ByteArray.size_extract]; omega
      have hcat := Lib.hid (show (s ++ behind.extract 0 m).toList = flat ((things.take k).drop 0) ++ (behind.extract 0 m).toList by rw [append_ofL, ofL_toList, hr.out.str, ofL_toList, List.drop_zero])
      have hbel := hr.out.bel
      have hbs := hr.out.bel.size
      have Hbl := Lib.hid hbl
      clear hbl
      generalize behind.extract 0 m = bh at *
      go_wp2_with (go_at_call 9; refine (new_any _ _).mono ?_; rintro e w3 ⟨rfl, rfl⟩)
      obtain ⟨wo, rfl⟩ : ∃ wo : World, wo = wr := ⟨_, rfl⟩
      go_loopw [9] (fun i w2 => ∃ (k2 : Nat) (s2 : ByteArray), k2 ≤ k ∧ i = .int .i64 k2 ∧ Hid (Read2 things k bh.toList w wo.heap.size k2 s2 w2)) (fun i _ => k - (intOf i).toNat)
      case atStart => exact ⟨0, _, Nat.zero_le _, rfl, ⟨hbel.alloc hbs _, hbs, by simp, by simp, by simp, hcat.out⟩⟩
      case round =>
        obtain ⟨k2, s2, hk2, rfl, hr2⟩ := hrel
        have hss := hr2.out.size Hok.out hn1 (by rw [size_list]; exact hbsz)
        have hcg := hr2.out.cell
        have hfg := hr2.out.free
        have hlo := hr2.out.lo
        have hhi := hr2.out.hi
        have hbel2 := hr2.out.bel
        by_cases hlt2 : k2 < k
        · obtain ⟨x, hx⟩ : ∃ x, things[k2]? = some x := ⟨_, List.getElem?_eq_getElem (by rw [Hlen.out]; omega)⟩
          have hl := Hlie.out.of hr2.out.bel
          have c0 := hl.c0 k2 x hx
          have c1 := hl.c1 k2 x hx
          have c2 := hl.c2 k2 x hx
          have hxok := Hok.out x (List.mem_of_getElem? hx)
          have hfront := Lib.hid (hr2.out.front hx hlt2)
          have hblt := hl.lt
          have hbg := Hlie.out.lt
          obtain ⟨q, hq⟩ : ∃ q : Nat, (if (300 : Int) < (x.str.size : Int) then (300 : Int) else x.str.size) = q := ⟨min 300 x.str.size, by split <;> omega⟩
          have hq1 : q ≤ x.str.size := by split at hq <;> omega
          have hcut := cut_take x q hq
          have hof := ofL_toList (cutS x)
          have hcl : ((cutS x).length : Int) ≤ 300 := by simp [cutS]; omega
          have hxs := hxok.str
          unfold maxLen at hxs
          have hxu := hxok.num
          clear hx hl
          cases ht : x.text
          · have hen := Lib.hid (show encT x = numL x.num by simp [encT, ht])
            rw [ht] at c0
            clear ht hxok
            go_wp2_with (go_at_call 11; refine (rnumber_L s2 _ x.num _ _ hss (by rw [hfront.out, hen.out]) hxu hcg hfg).mono ?_; rintro e w4 ⟨rfl, s3, hs3, rfl⟩; have Hs3 := Lib.hid hs3; clear hs3)
            exact ⟨⟨k2 + 1, s3, by omega, by go_num, hr2.out.stored Hs3.out⟩, by simp [intOf]; omega⟩
          · have hen := Lib.hid (show encT x = textB (cutS x) by simp [encT, ht])
            rw [ht] at c0
            clear ht hxok
            go_wp2_with (go_at_call 10; refine (rtext_L s2 _ (cutS x) _ 300 _ hss (by rw [hfront.out, hen.out]) hcl (by omega) hcg hfg).mono ?_; rintro e w4 ⟨rfl, s3, hs3, rfl⟩; have Hs3 := Lib.hid hs3; clear hs3)
            refine wp_region_below (by kernel_rfl) (by kernel_rfl) (fun hkept => ?_)
            obtain ⟨r0, rf0⟩ := hkept (b) (by go_size); obtain ⟨r1, rf1⟩ := hkept (wo.heap.size) (by go_size); clear hkept
            repeat (any_goals (first | go_big_quiet_step (fail) | quiet_step (fail) | (refine wpQuiet_step (fun K hK => ?_); go_simp; split <;> (refine hK _ ?_; clear hK K))))
            all_goals (refine wpQuiet_nil ?_; intro w5 hb; obtain ⟨hB, hS, hk⟩ := after (B := w.heap.size) (w := w) (by go_grown) (by go_size) hb; obtain ⟨c0, f0, z0⟩ := hk (b) (by go_size); obtain ⟨c1, f1, z1⟩ := hk (wo.heap.size) (by go_size); clear hk hb r0 rf0 r1 rf1)
            go_wp2
            have hst := hr2.out.stored Hs3.out
            exact ⟨⟨k2 + 1, s3, by omega, by go_num, ⟨hB, hlo, z1, (c1 0).trans hst.cell, (f1 0).trans hst.free, Hs3.out⟩⟩, by simp [intOf]; omega⟩
        · have hlast := Lib.hid (hr2.out.last (by omega))
          have hof := ofL_toList bh.toList
          go_wp2_with (first | (go_at_call 12; refine (rtake_n s2 _ bh.toList [] _ _ (by rw [size_list]) hss hlast.out hcg hfg).mono ?_; rintro e w4 ⟨rfl, s3, hs3, rfl⟩; have hs40 : ((s3.size : Int) == 0) = true := (by rw [size_eq hs3]; rfl); clear hs3) | (go_at_call 13; refine (left_any s3 _ _ (by go_simp)).mono ?_; rintro e w' ⟨rfl, rfl⟩) | (go_at_call 14; refine (works_any _).mono ?_; rintro e w5 ⟨rfl, hb⟩; obtain ⟨hB, hS, hk⟩ := after (B := w.heap.size) (w := w) (by go_grown) (by go_size) hb; clear hb; clear hk))
          go_returns
          exact ⟨rfl, by go_grown⟩

end Go.Proofs.Ytlnealjadcggbaa
