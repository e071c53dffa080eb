/-
  The walk of acreagelaw08.put: all cells of a list, put one behind the other.
-/
import Derived.Test.YtlnfdejflpgleaaWorks8W
namespace Go.Proofs.Ytlnfdejflpgleaa
open Go.RowKit

/-- heights, as they came in -/
structure Hts (w : World) (ao : Option Addr) (m cap : Nat) : Prop where
  fits : m ≤ cap
  max : cap ≤ maxLen
  lies : 0 < m → ∃ b off, ao = some ⟨b, off, none⟩ ∧ b < w.heap.size ∧ ∀ j, j < m → ∃ v : Int, 0 ≤ v ∧ v < 256 ∧ w.cell? ⟨b, off + j, none⟩ = some (.int .u8 v)
theorem Hts.below {w w' : World} {ao : Option Addr} {m cap B : Nat} (h : Hts w ao m cap) (hb : Below B w w') (hB : B = w.heap.size := by rfl) : Hts w' ao m cap := by
  subst hB
  refine ⟨h.fits, h.max, fun h0 => ?_⟩
  obtain ⟨b, off, e, hl, hc⟩ := h.lies h0
  exact ⟨b, off, e, Nat.lt_of_lt_of_le hl hb.size, fun j hj => let ⟨v, h1, h2, h3⟩ := hc j hj; ⟨v, h1, h2, (hb.cell (p := ⟨b, off + j, none⟩) hl).trans h3⟩⟩
def putC (c : CellA) (l : List CellA) : List CellA := (putV c 1 (l.map fun x => (x, 1))).map Prod.fst
theorem putV_fst (c : CellA) (h g : Nat) : ∀ (l k : List CH), l.map Prod.fst = k.map Prod.fst → (putV c h l).map Prod.fst = (putV c g k).map Prod.fst
  | [], [], _ => rfl
  | [], _ :: _, e => by simp at e
  | _ :: _, [], e => by simp at e
  | (x, hx) :: r, (y, hy) :: s, e => by
    simp only [List.map_cons, List.cons.injEq] at e
    obtain ⟨rfl, e⟩ := e
    have ih := putV_fst c h g r s e
    rw [putV, putV]
    split
    · simp [ih]
    · split <;> simp [e]
theorem putV_c (c : CellA) (h : Nat) (l : List CH) : (putV c h l).map Prod.fst = putC c (l.map Prod.fst) := by
  unfold putC
  exact putV_fst c h 1 _ _ (by rw [List.map_map, List.map_map]; rfl)
def putAll (l : List CellA) : List CellA := l.foldl (fun a c => putC c a) []
theorem putAll_snoc (l : List CellA) (c : CellA) : putAll (l ++ [c]) = putC c (putAll l) := by simp [putAll]
/-- in which order cells are put -/
def turned (back : Bool) (cs : List CellA) : List CellA := if back then cs.reverse else cs
theorem turned_at {back : Bool} {cs : List CellA} {n k : Nat} (hn : cs.length = n) (hk : k < n) {c : CellA} (h : cs[if back then n - 1 - k else k]? = some c) : (turned back cs).take (k + 1) = (turned back cs).take k ++ [c] := by
  have : (turned back cs)[k]? = some c := by
    unfold turned
    cases back with
    | false => simpa using h
    | true =>
      simp only [if_true] at h ⊢
      rw [List.getElem?_reverse (by omega), hn]; exact h
  rw [List.take_add_one, this]; rfl
theorem put_sli (c : CellA) (hok : c.Ok) (hcl : cellL c = true) (h : Int) (h1 : 1 ≤ h) (h12 : h ≤ 12) (lb : Nat) (l : List CH) (F : Nat → Prop) (w : World) (hS : SL lb l F w) (hn : l.length < 1000000) :
    Calls Try.prog 12 #[.pointer (some ⟨lb, 0, none⟩), .agg #[.string c.row, .string c.col, .int .u64 c.ver, .bool c.gone, .string c.val], .int .i64 h] w fun e w' => e = .returned (.int .i64 0) ∧ ∃ F', SL lb (putV c h.toNat l) F' w' ∧ Kept F w w' ∧ ∀ k, F' k → F k ∨ w.heap.size ≤ k := by
  have := put_sl c hok hcl h.toNat (by omega) (by omega) lb l F w hS hn
  rwa [show ((h.toNat : Nat) : Int) = h by omega] at this

-- PRINTED
set_option maxRecDepth 100000 in
set_option maxHeartbeats 4000000 in
theorem put8_any (ao ao2 : Option Addr) (n cap m cap2 : Nat) (cs : List CellA) (back : Bool) (w : World) (h : Cells w ao n cap cs) (hok : ∀ c ∈ cs, c.Ok ∧ cellL c = true) (hh : Hts w ao2 m cap2) (hn : n ≤ 1000) :
    Calls Try.prog 9 #[.slice ao n cap, .slice ao2 m cap2, .bool back] w fun e w' => ∃ lb l F, e = .returned (.pointer (some ⟨lb, 0, none⟩)) ∧ SL lb l F w' ∧ l.map Prod.fst = putAll (turned back cs) ∧ l.length ≤ n ∧ (∀ k, F k → w.heap.size ≤ k) ∧ Below w.heap.size w w' := by
  have H := Lib.hid h
  have Hl := Lib.hid h.len
  have Hok := Lib.hid hok
  have HH := Lib.hid hh
  have hm1 := hh.fits
  have hm2 := hh.max
  unfold maxLen at hm2
  clear h hok hh
  rcases Nat.eq_zero_or_pos m with hm | hm <;> rcases back with _ | _
  · subst hm
    go_enter Try.func9, Try.ntmps9
    go_wp2_with fail
    refine (new_sl _).mono ?_
    rintro e w1 ⟨rfl, F0, hS0, hF0, hb⟩
    have HS0 := Lib.hid hS0
    have HF0 := Lib.hid hF0
    have B1 := Lib.hid hb
    clear hS0 hF0 hb
    go_wp2
    go_loopw [8] (fun i wr => ∃ (k : Nat) (l : List CH) (F : Nat → Prop), k ≤ n ∧ i = .int .i64 k ∧ Hid (SL (w.heap.size + 1) l F wr) ∧ Hid (l.map Prod.fst = putAll ((turned false cs).take k)) ∧ l.length ≤ k ∧ Hid (∀ k, F k → w.heap.size ≤ k) ∧ Hid (Below w.heap.size w wr)) (fun i _ => n - (intOf i).toNat)
    case atStart => exact ⟨0, [], F0, by omega, rfl, HS0, Lib.hid rfl, by simp, HF0, B1⟩
    case round =>
      clear HS0 HF0 B1
      obtain ⟨k, l, F, hk, rfl, hS, hL, hll, hF, hB⟩ := hrel
      have hz := hB.out.size
      by_cases hlt : k < n
      · obtain ⟨c, hc⟩ : ∃ c, cs[k]? = some c := ⟨_, List.getElem?_eq_getElem (by rw [Hl.out]; omega)⟩
        obtain ⟨b, off, rfl, hbl, ⟨x0, x1, x2, x3, x4⟩⟩ := Cells.at_ H.out hc
        obtain ⟨k0, k0f⟩ := keep_below hB.out b hbl
        obtain ⟨hco, hcl⟩ := Hok.out c (List.mem_of_getElem? hc)
        have Htk := Lib.hid (turned_at (back := false) Hl.out hlt (by simpa using hc))
        have KP := Lib.hid fun W (hs : SL (w.heap.size + 1) l F W) => put_sl c hco hcl 1 (by decide) (by decide) _ _ _ W hs (by omega)
        clear hc hco hcl
        go_wp2_with fail
        refine (KP.out _ hS.out).mono ?_
        rintro e w2 ⟨rfl, F2, hS2, hk2, hf2⟩
        have HS2 := Lib.hid hS2
        have hL2 : Hid ((putV c 1 l).map Prod.fst = putAll ((turned false cs).take (k + 1))) := Lib.hid (by rw [Htk.out, putAll_snoc, putV_c, hL.out])
        have HF2 : Hid (∀ k, F2 k → w.heap.size ≤ k) := Lib.hid fun k h => (hf2 k h).elim (hF.out k) (fun h => by omega)
        have HB2 := Lib.hid (hB.out.trans (hk2.below hF.out hz))
        clear hS2 hk2 hf2
        go_wp2
        exact ⟨⟨k + 1, _, F2, by omega, by go_num, HS2, hL2, by have := putV_len (c := c) (h := 1) (l := l); omega, HF2, HB2⟩, by simp [intOf]; omega⟩
      · obtain rfl : k = n := by omega
        go_wp2
        go_ret
        exact ⟨_, l, F, rfl, hS.out, by rw [hL.out, List.take_of_length_le (by simp [turned, Hl.out])], hll, hF.out, hB.out⟩
  · subst hm
    go_enter Try.func9, Try.ntmps9
    go_wp2_with fail
    refine (new_sl _).mono ?_
    rintro e w1 ⟨rfl, F0, hS0, hF0, hb⟩
    have HS0 := Lib.hid hS0
    have HF0 := Lib.hid hF0
    have B1 := Lib.hid hb
    clear hS0 hF0 hb
    go_wp2
    go_loopw [8] (fun i wr => ∃ (k : Nat) (l : List CH) (F : Nat → Prop), k ≤ n ∧ i = .int .i64 k ∧ Hid (SL (w.heap.size + 1) l F wr) ∧ Hid (l.map Prod.fst = putAll ((turned true cs).take k)) ∧ l.length ≤ k ∧ Hid (∀ k, F k → w.heap.size ≤ k) ∧ Hid (Below w.heap.size w wr)) (fun i _ => n - (intOf i).toNat)
    case atStart => exact ⟨0, [], F0, by omega, rfl, HS0, Lib.hid rfl, by simp, HF0, B1⟩
    case round =>
      clear HS0 HF0 B1
      obtain ⟨k, l, F, hk, rfl, hS, hL, hll, hF, hB⟩ := hrel
      have hz := hB.out.size
      by_cases hlt : k < n
      · obtain ⟨c, hc⟩ : ∃ c, cs[n - 1 - k]? = some c := ⟨_, List.getElem?_eq_getElem (by rw [Hl.out]; omega)⟩
        obtain ⟨b, off, rfl, hbl, ⟨x0, x1, x2, x3, x4⟩⟩ := Cells.at_ H.out hc
        obtain ⟨k0, k0f⟩ := keep_below hB.out b hbl
        obtain ⟨hco, hcl⟩ := Hok.out c (List.mem_of_getElem? hc)
        have Htk := Lib.hid (turned_at (back := true) Hl.out hlt (by simpa using hc))
        have KP := Lib.hid fun W (hs : SL (w.heap.size + 1) l F W) => put_sl c hco hcl 1 (by decide) (by decide) _ _ _ W hs (by omega)
        have hix : ((n : Int) - 1 - k) = ((n - 1 - k : Nat) : Int) := by omega
        have Hix := Lib.hid hix
        clear hix
        obtain ⟨q, hq⟩ : ∃ q, q = n - 1 - k := ⟨_, rfl⟩
        rw [← hq] at x0 x1 x2 x3 x4 Hix
        have hqn : q < n := by omega
        have hix := Hix.out
        clear hq
        clear hc hco hcl
        go_wp2_with fail
        refine (KP.out _ hS.out).mono ?_
        rintro e w2 ⟨rfl, F2, hS2, hk2, hf2⟩
        have HS2 := Lib.hid hS2
        have hL2 : Hid ((putV c 1 l).map Prod.fst = putAll ((turned true cs).take (k + 1))) := Lib.hid (by rw [Htk.out, putAll_snoc, putV_c, hL.out])
        have HF2 : Hid (∀ k, F2 k → w.heap.size ≤ k) := Lib.hid fun k h => (hf2 k h).elim (hF.out k) (fun h => by omega)
        have HB2 := Lib.hid (hB.out.trans (hk2.below hF.out hz))
        clear hS2 hk2 hf2
        go_wp2
        exact ⟨⟨k + 1, _, F2, by omega, by go_num, HS2, hL2, by have := putV_len (c := c) (h := 1) (l := l); omega, HF2, HB2⟩, by simp [intOf]; omega⟩
      · obtain rfl : k = n := by omega
        go_wp2
        go_ret
        exact ⟨_, l, F, rfl, hS.out, by rw [hL.out, List.take_of_length_le (by simp [turned, Hl.out])], hll, hF.out, hB.out⟩
  · go_enter Try.func9, Try.ntmps9
    go_wp2_with fail
    refine (new_sl _).mono ?_
    rintro e w1 ⟨rfl, F0, hS0, hF0, hb⟩
    have HS0 := Lib.hid hS0
    have HF0 := Lib.hid hF0
    have B1 := Lib.hid hb
    clear hS0 hF0 hb
    go_wp2
    go_loopw [8] (fun i wr => ∃ (k : Nat) (l : List CH) (F : Nat → Prop), k ≤ n ∧ i = .int .i64 k ∧ Hid (SL (w.heap.size + 1) l F wr) ∧ Hid (l.map Prod.fst = putAll ((turned false cs).take k)) ∧ l.length ≤ k ∧ Hid (∀ k, F k → w.heap.size ≤ k) ∧ Hid (Below w.heap.size w wr)) (fun i _ => n - (intOf i).toNat)
    case atStart => exact ⟨0, [], F0, by omega, rfl, HS0, Lib.hid rfl, by simp, HF0, B1⟩
    case round =>
      clear HS0 HF0 B1
      obtain ⟨k, l, F, hk, rfl, hS, hL, hll, hF, hB⟩ := hrel
      have hz := hB.out.size
      by_cases hlt : k < n
      · obtain ⟨c, hc⟩ : ∃ c, cs[k]? = some c := ⟨_, List.getElem?_eq_getElem (by rw [Hl.out]; omega)⟩
        obtain ⟨b, off, rfl, hbl, ⟨x0, x1, x2, x3, x4⟩⟩ := Cells.at_ H.out hc
        obtain ⟨k0, k0f⟩ := keep_below hB.out b hbl
        obtain ⟨hco, hcl⟩ := Hok.out c (List.mem_of_getElem? hc)
        have Htk := Lib.hid (turned_at (back := false) Hl.out hlt (by simpa using hc))
        obtain ⟨hb, ho, rfl, hhl, hat⟩ := HH.out.lies (by omega)
        obtain ⟨v, hv0, hv1, hv⟩ := hat (k % m) (Nat.mod_lt _ (by omega))
        obtain ⟨k1, k1f⟩ := keep_below hB.out hb hhl
        have hmk : k % m < m := Nat.mod_lt _ (by omega)
        have KP := Lib.hid fun W (hs : SL (w.heap.size + 1) l F W) => put_sli c hco hcl (1 + v % 12) (by omega) (by omega) _ _ _ W hs (by omega)
        clear hat
        clear hc hco hcl
        go_wp2_with fail
        refine (KP.out _ hS.out).mono ?_
        rintro e w2 ⟨rfl, F2, hS2, hk2, hf2⟩
        have HS2 := Lib.hid hS2
        have hL2 : Hid ((putV c (1 + v % 12).toNat l).map Prod.fst = putAll ((turned false cs).take (k + 1))) := Lib.hid (by rw [Htk.out, putAll_snoc, putV_c, hL.out])
        have HF2 : Hid (∀ k, F2 k → w.heap.size ≤ k) := Lib.hid fun k h => (hf2 k h).elim (hF.out k) (fun h => by omega)
        have HB2 := Lib.hid (hB.out.trans (hk2.below hF.out hz))
        clear hS2 hk2 hf2
        go_wp2
        exact ⟨⟨k + 1, _, F2, by omega, by go_num, HS2, hL2, by have := putV_len (c := c) (h := (1 + v % 12).toNat) (l := l); omega, HF2, HB2⟩, by simp [intOf]; omega⟩
      · obtain rfl : k = n := by omega
        go_wp2
        go_ret
        exact ⟨_, l, F, rfl, hS.out, by rw [hL.out, List.take_of_length_le (by simp [turned, Hl.out])], hll, hF.out, hB.out⟩
  · go_enter Try.func9, Try.ntmps9
    go_wp2_with fail
    refine (new_sl _).mono ?_
    rintro e w1 ⟨rfl, F0, hS0, hF0, hb⟩
    have HS0 := Lib.hid hS0
    have HF0 := Lib.hid hF0
    have B1 := Lib.hid hb
    clear hS0 hF0 hb
    go_wp2
    go_loopw [8] (fun i wr => ∃ (k : Nat) (l : List CH) (F : Nat → Prop), k ≤ n ∧ i = .int .i64 k ∧ Hid (SL (w.heap.size + 1) l F wr) ∧ Hid (l.map Prod.fst = putAll ((turned true cs).take k)) ∧ l.length ≤ k ∧ Hid (∀ k, F k → w.heap.size ≤ k) ∧ Hid (Below w.heap.size w wr)) (fun i _ => n - (intOf i).toNat)
    case atStart => exact ⟨0, [], F0, by omega, rfl, HS0, Lib.hid rfl, by simp, HF0, B1⟩
    case round =>
      clear HS0 HF0 B1
      obtain ⟨k, l, F, hk, rfl, hS, hL, hll, hF, hB⟩ := hrel
      have hz := hB.out.size
      by_cases hlt : k < n
      · obtain ⟨c, hc⟩ : ∃ c, cs[n - 1 - k]? = some c := ⟨_, List.getElem?_eq_getElem (by rw [Hl.out]; omega)⟩
        obtain ⟨b, off, rfl, hbl, ⟨x0, x1, x2, x3, x4⟩⟩ := Cells.at_ H.out hc
        obtain ⟨k0, k0f⟩ := keep_below hB.out b hbl
        obtain ⟨hco, hcl⟩ := Hok.out c (List.mem_of_getElem? hc)
        have Htk := Lib.hid (turned_at (back := true) Hl.out hlt (by simpa using hc))
        obtain ⟨hb, ho, rfl, hhl, hat⟩ := HH.out.lies (by omega)
        obtain ⟨v, hv0, hv1, hv⟩ := hat (k % m) (Nat.mod_lt _ (by omega))
        obtain ⟨k1, k1f⟩ := keep_below hB.out hb hhl
        have hmk : k % m < m := Nat.mod_lt _ (by omega)
        have KP := Lib.hid fun W (hs : SL (w.heap.size + 1) l F W) => put_sli c hco hcl (1 + v % 12) (by omega) (by omega) _ _ _ W hs (by omega)
        clear hat
        have hix : ((n : Int) - 1 - k) = ((n - 1 - k : Nat) : Int) := by omega
        have Hix := Lib.hid hix
        clear hix
        obtain ⟨q, hq⟩ : ∃ q, q = n - 1 - k := ⟨_, rfl⟩
        rw [← hq] at x0 x1 x2 x3 x4 Hix
        have hqn : q < n := by omega
        have hix := Hix.out
        clear hq
        clear hc hco hcl
        go_wp2_with fail
        refine (KP.out _ hS.out).mono ?_
        rintro e w2 ⟨rfl, F2, hS2, hk2, hf2⟩
        have HS2 := Lib.hid hS2
        have hL2 : Hid ((putV c (1 + v % 12).toNat l).map Prod.fst = putAll ((turned true cs).take (k + 1))) := Lib.hid (by rw [Htk.out, putAll_snoc, putV_c, hL.out])
        have HF2 : Hid (∀ k, F2 k → w.heap.size ≤ k) := Lib.hid fun k h => (hf2 k h).elim (hF.out k) (fun h => by omega)
        have HB2 := Lib.hid (hB.out.trans (hk2.below hF.out hz))
        clear hS2 hk2 hf2
        go_wp2
        exact ⟨⟨k + 1, _, F2, by omega, by go_num, HS2, hL2, by have := putV_len (c := c) (h := (1 + v % 12).toNat) (l := l); omega, HF2, HB2⟩, by simp [intOf]; omega⟩
      · obtain rfl : k = n := by omega
        go_wp2
        go_ret
        exact ⟨_, l, F, rfl, hS.out, by rw [hL.out, List.take_of_length_le (by simp [turned, Hl.out])], hll, hF.out, hB.out⟩
end Go.Proofs.Ytlnfdejflpgleaa
