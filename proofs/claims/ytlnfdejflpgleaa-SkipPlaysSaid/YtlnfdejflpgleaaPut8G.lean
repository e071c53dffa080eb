/-
  The walk of acreagelaw08.put at cells of whatever kind, from the front (printed by mkput8g.py).
-/
import Derived.Test.YtlnfdejflpgleaaPut8W
import Derived.Test.YtlnfdejflpgleaaPutBad
namespace Go.Proofs.Ytlnfdejflpgleaa
open Go.RowKit

set_option maxRecDepth 100000 in
set_option maxHeartbeats 4000000 in
theorem put8g_any (ao ao2 : Option Addr) (n cap m cap2 : Nat) (cs : List CellA) (w : World) (h : Cells w ao n cap cs) (hok : ∀ c ∈ cs, c.Ok) (hh : Hts w ao2 m cap2) (hn : n ≤ 1000) :
    Calls Try.prog 9 #[.slice ao n cap, .slice ao2 m cap2, .bool false] w fun e w' => ∃ lb l F, e = .returned (.pointer (some ⟨lb, 0, none⟩)) ∧ SL lb l F w' ∧ l.length ≤ n ∧ (∀ k, F k → w.heap.size ≤ k) ∧ Below w.heap.size w w' ∧ ∀ p ∈ l, p.1.Ok := by
  have H := Lib.hid h
  have Hl := Lib.hid h.len
  have Hok := Lib.hid hok
  have HH := Lib.hid hh
  have hm1 := hh.fits
  have hm2 := hh.max
  unfold maxLen at hm2
  clear h hok hh
  rcases Nat.eq_zero_or_pos m with hm | hm
  · subst hm
    go_enter Try.func9, Try.ntmps9
    go_wp2_with fail
    refine (new_sl _).mono ?_
    rintro e w1 ⟨rfl, F0, hS0, hF0, hb⟩
    have HS0 := Lib.hid hS0
    have HF0 := Lib.hid hF0
    have B1 := Lib.hid hb
    clear hS0 hF0 hb
    go_wp2
    go_loopw [8] (fun i wr => ∃ (k : Nat) (l : List CH) (F : Nat → Prop), k ≤ n ∧ i = .int .i64 k ∧ Hid (SL (w.heap.size + 1) l F wr) ∧ l.length ≤ k ∧ Hid (∀ k, F k → w.heap.size ≤ k) ∧ Hid (Below w.heap.size w wr) ∧ Hid (∀ p ∈ l, p.1.Ok)) (fun i _ => n - (intOf i).toNat)
    case atStart => exact ⟨0, [], F0, by omega, rfl, HS0, by simp, HF0, B1, Lib.hid (fun _ h => by cases h)⟩
    case round =>
      clear HS0 HF0 B1
      obtain ⟨k, l, F, hk, rfl, hS, hll, hF, hB, hO⟩ := hrel
      have hz := hB.out.size
      by_cases hlt : k < n
      · obtain ⟨c, hc⟩ : ∃ c, cs[k]? = some c := ⟨_, List.getElem?_eq_getElem (by rw [Hl.out]; omega)⟩
        obtain ⟨b, off, rfl, hbl, ⟨x0, x1, x2, x3, x4⟩⟩ := Cells.at_ H.out hc
        obtain ⟨k0, k0f⟩ := keep_below hB.out b hbl
        have hco := Hok.out c (List.mem_of_getElem? hc)
        have HO2 := Lib.hid (putX_ok (h := 1) hco hO.out)
        have KP := Lib.hid fun W (hs : SL (w.heap.size + 1) l F W) => put_slx c hco 1 _ _ _ W hs (by omega)
        clear hc hco
        go_wp2_with fail
        refine (KP.out _ hS.out).mono ?_
        rintro e w2 ⟨rfl, F2, hS2, hk2, hf2⟩
        have HS2 := Lib.hid hS2
        have HF2 : Hid (∀ k, F2 k → w.heap.size ≤ k) := Lib.hid fun k h => (hf2 k h).elim (hF.out k) (fun h => by omega)
        have HB2 := Lib.hid (hB.out.trans (hk2.below hF.out hz))
        clear hS2 hk2 hf2
        go_wp2
        exact ⟨⟨k + 1, _, F2, by omega, by go_num, HS2, by have := putX_len c 1 l; omega, HF2, HB2, HO2⟩, by simp [intOf]; omega⟩
      · obtain rfl : k = n := by omega
        go_wp2
        go_ret
        exact ⟨_, l, F, rfl, hS.out, hll, hF.out, hB.out, hO.out⟩
  · go_enter Try.func9, Try.ntmps9
    go_wp2_with fail
    refine (new_sl _).mono ?_
    rintro e w1 ⟨rfl, F0, hS0, hF0, hb⟩
    have HS0 := Lib.hid hS0
    have HF0 := Lib.hid hF0
    have B1 := Lib.hid hb
    clear hS0 hF0 hb
    go_wp2
    go_loopw [8] (fun i wr => ∃ (k : Nat) (l : List CH) (F : Nat → Prop), k ≤ n ∧ i = .int .i64 k ∧ Hid (SL (w.heap.size + 1) l F wr) ∧ l.length ≤ k ∧ Hid (∀ k, F k → w.heap.size ≤ k) ∧ Hid (Below w.heap.size w wr) ∧ Hid (∀ p ∈ l, p.1.Ok)) (fun i _ => n - (intOf i).toNat)
    case atStart => exact ⟨0, [], F0, by omega, rfl, HS0, by simp, HF0, B1, Lib.hid (fun _ h => by cases h)⟩
    case round =>
      clear HS0 HF0 B1
      obtain ⟨k, l, F, hk, rfl, hS, hll, hF, hB, hO⟩ := hrel
      have hz := hB.out.size
      by_cases hlt : k < n
      · obtain ⟨c, hc⟩ : ∃ c, cs[k]? = some c := ⟨_, List.getElem?_eq_getElem (by rw [Hl.out]; omega)⟩
        obtain ⟨b, off, rfl, hbl, ⟨x0, x1, x2, x3, x4⟩⟩ := Cells.at_ H.out hc
        obtain ⟨k0, k0f⟩ := keep_below hB.out b hbl
        have hco := Hok.out c (List.mem_of_getElem? hc)
        obtain ⟨hb, ho, rfl, hhl, hat⟩ := HH.out.lies (by omega)
        obtain ⟨v, hv0, hv1, hv⟩ := hat (k % m) (Nat.mod_lt _ (by omega))
        obtain ⟨k1, k1f⟩ := keep_below hB.out hb hhl
        have hmk : k % m < m := Nat.mod_lt _ (by omega)
        have HO2 := Lib.hid (putX_ok (h := 1 + v % 12) hco hO.out)
        have KP := Lib.hid fun W (hs : SL (w.heap.size + 1) l F W) => put_slx c hco (1 + v % 12) _ _ _ W hs (by omega)
        clear hat
        clear hc hco
        go_wp2_with fail
        refine (KP.out _ hS.out).mono ?_
        rintro e w2 ⟨rfl, F2, hS2, hk2, hf2⟩
        have HS2 := Lib.hid hS2
        have HF2 : Hid (∀ k, F2 k → w.heap.size ≤ k) := Lib.hid fun k h => (hf2 k h).elim (hF.out k) (fun h => by omega)
        have HB2 := Lib.hid (hB.out.trans (hk2.below hF.out hz))
        clear hS2 hk2 hf2
        go_wp2
        exact ⟨⟨k + 1, _, F2, by omega, by go_num, HS2, by have := putX_len c (1 + v % 12) l; omega, HF2, HB2, HO2⟩, by simp [intOf]; omega⟩
      · obtain rfl : k = n := by omega
        go_wp2
        go_ret
        exact ⟨_, l, F, rfl, hS.out, hll, hF.out, hB.out, hO.out⟩
end Go.Proofs.Ytlnfdejflpgleaa
