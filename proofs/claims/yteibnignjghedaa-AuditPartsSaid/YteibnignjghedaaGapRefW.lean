/-
  The walk of acreageref03.Gap; ranges in a slice.
-/
import Derived.Test.YteibnignjghedaaRefKeysW
import Derived.Test.YteibnignjghedaaGapPlain
import Derived.LoopTactic
namespace Go.Proofs.Yteibnignjghedaa
open Go.RowKit

def ofB (l : List UInt8) : ByteArray := ⟨l.toArray⟩
theorem ofB_toList (a : ByteArray) : ofB a.toList = a := by
  rw [ofB, Lib.toList_data]

theorem nilB : (⟨#[]⟩ : ByteArray).toList = [] := by rw [Lib.toList_data]

/-- ranges that lie in memory -/
structure RgAt (w : World) (b off : Nat) (rs : List (ByteArray × ByteArray)) : Prop where
  lt : b < w.heap.size
  c0 : ∀ i r, rs[i]? = some r → w.cell? ⟨b, off + i * 2, none⟩ = some (.string r.1)
  c1 : ∀ i r, rs[i]? = some r → w.cell? ⟨b, off + i * 2 + 1, none⟩ = some (.string r.2)
theorem RgAt.of {w w' : World} {b off : Nat} {rs : List (ByteArray × ByteArray)} (h : RgAt w b off rs) (hb : Below w.heap.size w w') : RgAt w' b off rs :=
  ⟨by have := h.lt; have := hb.size; omega, fun i x hx => (hb.cell h.lt).trans (h.c0 i x hx), fun i x hx => (hb.cell h.lt).trans (h.c1 i x hx)⟩
/-- a slice of them: where it begins -/
structure Rgs (w : World) (ao : Option Addr) (cap : Nat) (rs : List (ByteArray × ByteArray)) : Prop where
  fits : rs.length ≤ cap
  max : cap ≤ maxLen
  at_ : 0 < rs.length → ∃ b off, ao = some ⟨b, off, none⟩ ∧ RgAt w b off rs
  ok : ∀ r ∈ rs, r.1.size ≤ maxLen ∧ r.2.size ≤ maxLen
theorem Rgs.of {w w' : World} {ao : Option Addr} {cap : Nat} {rs : List (ByteArray × ByteArray)} (h : Rgs w ao cap rs) (hb : Below w.heap.size w w') : Rgs w' ao cap rs :=
  ⟨h.fits, h.max, fun h0 => let ⟨b, off, e, ha⟩ := h.at_ h0; ⟨b, off, e, ha.of hb⟩, h.ok⟩

def rgL (rs : List (ByteArray × ByteArray)) : List (List UInt8 × List UInt8) := rs.map fun r => (r.1.toList, r.2.toList)
theorem rgL_len (rs : List (ByteArray × ByteArray)) : (rgL rs).length = rs.length := by simp [rgL]
theorem rgL_get {rs : List (ByteArray × ByteArray)} {i : Nat} {r : ByteArray × ByteArray} (h : rs[i]? = some r) : (rgL rs)[i]? = some (r.1.toList, r.2.toList) := by simp [rgL, h]
theorem rgL_take {rs : List (ByteArray × ByteArray)} {i : Nat} {r : ByteArray × ByteArray} (h : rs[i]? = some r) : (rgL rs).take (i + 1) = (rgL rs).take i ++ [(r.1.toList, r.2.toList)] := by
  rw [List.take_add_one, rgL_get h]; rfl

def gapV : Option (List UInt8 × List UInt8) → Value
  | none => .tuple #[.agg #[.string ⟨#[]⟩, .string ⟨#[]⟩], .bool false]
  | some (a, h) => .tuple #[.agg #[.string (ofB a), .string (ofB h)], .bool true]
theorem gapV_some {l : List (List UInt8 × List UInt8)} {a h : ByteArray} (hg : GapOk l (some (a.toList, h.toList))) : gapV (gapL l) = .tuple #[.agg #[.string a, .string h], .bool true] := by
  rw [hg.eq, gapV, ofB_toList, ofB_toList]
theorem gapV_none {l : List (List UInt8 × List UInt8)} (hg : ∀ t, Cov l t) : gapV (gapL l) = .tuple #[.agg #[.string ⟨#[]⟩, .string ⟨#[]⟩], .bool false] := by
  rw [gap_none hg, gapV]

theorem keep_of {B : Nat} {W wr : World} (h : Below B W wr) (b : Nat) (hb : b < B) : (∀ o, wr.cell? ⟨b, o, none⟩ = W.cell? ⟨b, o, none⟩) ∧ (∀ o, wr.frozen? ⟨b, o, none⟩ = W.frozen? ⟨b, o, none⟩) :=
  ⟨fun o => h.cell (p := ⟨b, o, none⟩) hb, fun o => h.frozen (p := ⟨b, o, none⟩) hb⟩

theorem made (w : World) (cs : Array Value) (T : TypeId) : ∃ W0, w.alloc (.cells cs T) = W0 ∧ Below w.heap.size w W0 ∧ w.heap.size < W0.heap.size ∧ w.heap.size ≤ W0.heap.size ∧
    (∀ o, W0.cell? ⟨w.heap.size, o, none⟩ = cs[o]?) ∧ (∀ o, W0.frozen? ⟨w.heap.size, o, none⟩ = false) :=
  ⟨_, rfl, (Below.refl _ _).alloc (Nat.le_refl _) _, by simp, by simp, fun o => by go_simp, fun o => by go_simp⟩

set_option maxRecDepth 100000 in
set_option maxHeartbeats 2000000 in
theorem rgap_any (ao : Option Addr) (cap : Nat) (rs : List (ByteArray × ByteArray)) (w : World) (h : Rgs w ao cap rs) (hle : rs.length ≤ 1000000) :
    Calls Try.prog 30 #[.slice ao rs.length cap] w fun e w' => e = .returned (gapV (gapL (rgL rs))) ∧ Below w.heap.size w w' := by
  have hcap := h.fits
  have hmax := h.max
  unfold maxLen at hmax
  obtain ⟨n, hn⟩ : ∃ n, n = rs.length := ⟨_, rfl⟩
  have Hn := Lib.hid hn
  rw [← hn] at hcap hle ⊢
  clear hn
  have Hr := Lib.hid h
  clear h
  go_enter Try.func30, Try.ntmps30
  go_wp2
  obtain ⟨W0, hW0, hb0, hs0, hz0, hc0, hf0⟩ := made w #[.string ⟨#[]⟩, .string ⟨#[]⟩] 33
  rw [hW0]
  clear hW0
  go_loopw [4, 5, 6] (fun a t _ wr => ∃ (A : ByteArray) (k : Nat), k ≤ n + 1 ∧ a = .string A ∧ t = .int .i64 k ∧ Hid (Turn (rgL rs) A.toList k) ∧ Below W0.heap.size W0 wr) (fun _ t _ _ => n + 1 - (intOf t).toNat)
  case atStart => exact ⟨_, 0, by omega, rfl, rfl, by rw [Lib.toList_data]; exact Turn.first _, Below.refl _ _⟩
  case round =>
    obtain ⟨A, k, hk, rfl, rfl, hr, hbr⟩ := hrel
    obtain ⟨kc, kf⟩ := keep_of hbr w.heap.size hs0
    by_cases hlt : k ≤ n
    · go_wp2
      go_loopw [4, 6] (fun a i w2 => ∃ (B : ByteArray) (j : Nat), j ≤ n ∧ a = .string B ∧ i = .int .i64 j ∧ Hid (Inner (rgL rs) B.toList k j) ∧ Below W0.heap.size W0 w2) (fun _ i _ => n - (intOf i).toNat)
      case atStart => exact ⟨_, 0, by omega, rfl, rfl, hr.out.inner, hbr⟩
      case round =>
        obtain ⟨B, j, hj, rfl, rfl, hr2, hbr2⟩ := hrel
        clear kc kf
        obtain ⟨kc, kf⟩ := keep_of hbr2 w.heap.size hs0
        by_cases hlt2 : j < n
        · obtain ⟨x, hx⟩ : ∃ x, rs[j]? = some x := ⟨_, List.getElem?_eq_getElem (by rw [← Hn.out]; omega)⟩
          obtain ⟨b, off, rfl, hat⟩ := Hr.out.at_ (by rw [← Hn.out]; omega)
          have hbl : b < w.heap.size := hat.lt
          have hat2 := (hat.of hb0).of hbr2
          have c0 := hat2.c0 j x hx
          have c1 := hat2.c1 j x hx
          obtain ⟨hx1, hx2⟩ := Hr.out.ok x (List.mem_of_getElem? hx)
          have Hx := Lib.hid hx
          have hz2 := hbr2.size
          clear hat hat2 hx
          have hmem := List.mem_of_getElem? (rgL_get Hx.out)
          by_cases hm : mayL x.1.toList x.2.toList = true
          · by_cases hh : hasL x.1.toList x.2.toList B.toList = true
            · by_cases he : x.2.toList = []
              · have he1 : x.2.toList.isEmpty = true := by simp [he]
                have Hg := Lib.hid (gapV_none (cov_all hr2.out.1 hmem hm hh he))
                clear he hmem
                go_wp2_with (first | (go_at_call 55; refine (rmay_any _ _ _ hx1 hx2).mono ?_; rintro e w3 ⟨rfl, hb⟩; obtain ⟨hB, hS, hk⟩ := after (B := W0.heap.size) (w := W0) (by go_grown) (by go_size) hb; clear hb; obtain ⟨c0, f0, z0⟩ := hk (b) (by go_size); obtain ⟨c1, f1, z1⟩ := hk (w.heap.size) (by go_size); clear hk) | (go_at_call 54; refine (rhas_any _ _ _ _).mono ?_; rintro e w4 ⟨rfl, hb⟩; obtain ⟨hB, hS, hk⟩ := after (B := W0.heap.size) (w := W0) (by go_grown) (by go_size) hb; clear hb; obtain ⟨c0, f0, z0⟩ := hk (b) (by go_size); obtain ⟨c1, f1, z1⟩ := hk (w.heap.size) (by go_size); clear hk))
                exact bodyPost_ret (v := gapV (gapL (rgL rs))) (by rw [Hg.out]; simp [results, Try.results30, go_sem, *]) rfl ⟨rfl, by have hB5 := hb0.trans (hB.mono hz0); go_grown⟩
              · have he1 : x.2.toList.isEmpty = false := by simp [he]
                have Hm := Lib.hid (hr2.out.move (rgL_get Hx.out) hm hh he)
                clear he hmem
                go_wp2_with (first | (go_at_call 55; refine (rmay_any _ _ _ hx1 hx2).mono ?_; rintro e w3 ⟨rfl, hb⟩; obtain ⟨hB, hS, hk⟩ := after (B := W0.heap.size) (w := W0) (by go_grown) (by go_size) hb; clear hb; obtain ⟨c0, f0, z0⟩ := hk (b) (by go_size); obtain ⟨c1, f1, z1⟩ := hk (w.heap.size) (by go_size); clear hk) | (go_at_call 54; refine (rhas_any _ _ _ _).mono ?_; rintro e w4 ⟨rfl, hb⟩; obtain ⟨hB, hS, hk⟩ := after (B := W0.heap.size) (w := W0) (by go_grown) (by go_size) hb; clear hb; obtain ⟨c0, f0, z0⟩ := hk (b) (by go_size); obtain ⟨c1, f1, z1⟩ := hk (w.heap.size) (by go_size); clear hk))
                exact ⟨⟨_, j + 1, by omega, rfl, by go_num, Hm, by assumption⟩, by simp [intOf]; omega⟩
            · have hh1 : hasL x.1.toList x.2.toList B.toList = false := by simpa using hh
              have Hm := Lib.hid (hr2.out.keep (rgL_get Hx.out) (fun _ => hh1))
              clear hh hmem
              go_wp2_with (first | (go_at_call 55; refine (rmay_any _ _ _ hx1 hx2).mono ?_; rintro e w3 ⟨rfl, hb⟩; obtain ⟨hB, hS, hk⟩ := after (B := W0.heap.size) (w := W0) (by go_grown) (by go_size) hb; clear hb; obtain ⟨c0, f0, z0⟩ := hk (b) (by go_size); obtain ⟨c1, f1, z1⟩ := hk (w.heap.size) (by go_size); clear hk) | (go_at_call 54; refine (rhas_any _ _ _ _).mono ?_; rintro e w4 ⟨rfl, hb⟩; obtain ⟨hB, hS, hk⟩ := after (B := W0.heap.size) (w := W0) (by go_grown) (by go_size) hb; clear hb; obtain ⟨c0, f0, z0⟩ := hk (b) (by go_size); obtain ⟨c1, f1, z1⟩ := hk (w.heap.size) (by go_size); clear hk))
              exact ⟨⟨_, j + 1, by omega, rfl, by go_num, Hm, by assumption⟩, by simp [intOf]; omega⟩
          · have hm1 : mayL x.1.toList x.2.toList = false := by simpa using hm
            have Hm := Lib.hid (hr2.out.keep (rgL_get Hx.out) (fun h => absurd h hm))
            clear hm hmem
            go_wp2_with (first | (go_at_call 55; refine (rmay_any _ _ _ hx1 hx2).mono ?_; rintro e w3 ⟨rfl, hb⟩; obtain ⟨hB, hS, hk⟩ := after (B := W0.heap.size) (w := W0) (by go_grown) (by go_size) hb; clear hb; obtain ⟨c0, f0, z0⟩ := hk (b) (by go_size); obtain ⟨c1, f1, z1⟩ := hk (w.heap.size) (by go_size); clear hk) | (go_at_call 54; refine (rhas_any _ _ _ _).mono ?_; rintro e w4 ⟨rfl, hb⟩; obtain ⟨hB, hS, hk⟩ := after (B := W0.heap.size) (w := W0) (by go_grown) (by go_size) hb; clear hb; obtain ⟨c0, f0, z0⟩ := hk (b) (by go_size); obtain ⟨c1, f1, z1⟩ := hk (w.heap.size) (by go_size); clear hk))
            exact ⟨⟨_, j + 1, by omega, rfl, by go_num, Hm, by assumption⟩, by simp [intOf]; omega⟩
        · obtain rfl : j = n := by omega
          have Ht := Lib.hid (hr2.out.turn (by rw [rgL_len, ← Hn.out]; omega))
          go_wp2
          exact ⟨⟨_, k + 1, by omega, rfl, by go_num, Ht, hbr2⟩, by simp [intOf]; omega⟩
    · have hkn : n < k := by omega
      have hd12 : decide (k ≤ n) = false := by simp; omega
      clear hlt
      have hz2 := hbr.size
      go_wp2
      have hnc := Lib.hid (hr.out.last (by rw [rgL_len, ← Hn.out]; omega))
      have hlow := Lib.hid hr.out.1
      obtain ⟨wo, rfl⟩ : ∃ wo : World, wo = wr := ⟨_, rfl⟩
      go_loopw [8] (fun i w2 => ∃ (j : Nat) (H : ByteArray), j ≤ n ∧ i = .int .i64 j ∧ Hid (High ((rgL rs).take j) A.toList H.toList) ∧ w2.cell? ⟨wo.heap.size, 0, none⟩ = some (.string A) ∧ w2.cell? ⟨wo.heap.size, 1, none⟩ = some (.string H) ∧
        w2.frozen? ⟨wo.heap.size, 0, none⟩ = false ∧ w2.frozen? ⟨wo.heap.size, 1, none⟩ = false ∧ wo.heap.size < w2.heap.size ∧ Below wo.heap.size wo w2) (fun i _ => n - (intOf i).toNat)
      case atStart => exact ⟨0, ⟨#[]⟩, by omega, rfl, Lib.hid (by rw [nilB, List.take_zero]; exact high_nil _), by go_simp, by go_simp, by go_simp, by go_simp, by simp, by go_grown⟩
      case round =>
        obtain ⟨j, H, hj, rfl, hh, hd0, hd1, he0, he1, hwo, hbo⟩ := hrel
        obtain ⟨kc3, kf3⟩ := keep_of hbo w.heap.size (by omega)
        have hz3 := hbo.size
        by_cases hlt2 : j < n
        · obtain ⟨x, hx⟩ : ∃ x, rs[j]? = some x := ⟨_, List.getElem?_eq_getElem (by rw [← Hn.out]; omega)⟩
          obtain ⟨b, off, rfl, hat⟩ := Hr.out.at_ (by rw [← Hn.out]; omega)
          have hbl : b < w.heap.size := hat.lt
          have hat2 := ((hat.of hb0).of hbr).of hbo
          have c0 := hat2.c0 j x hx
          have c1 := hat2.c1 j x hx
          obtain ⟨hx1, hx2⟩ := Hr.out.ok x (List.mem_of_getElem? hx)
          have Hx := Lib.hid hx
          have Hst := Lib.hid (high_step hh.out (x.1.toList, x.2.toList))
          clear hat hat2 hx
          by_cases hm : mayL x.1.toList x.2.toList = true
          · by_cases hl : A.toList < x.1.toList
            · obtain ⟨g1, g1b⟩ := le_false x.1.toList A.toList hl
              by_cases hz : H.toList = []
              · have g2 : H.toList.isEmpty = true := by simp [hz]
                have Hs : Hid (High ((rgL rs).take (j + 1)) A.toList x.1.toList) := Lib.hid (by rw [rgL_take Hx.out]; have := Hst.out; simpa [stepH, hm, hl, hz] using this)
                clear hl hz
                go_wp2
                refine wp_region_below (by kernel_rfl) (by kernel_rfl) (fun hkept => ?_)
                obtain ⟨r0, rf0⟩ := hkept (b) (by go_size); obtain ⟨r1, rf1⟩ := hkept (w.heap.size) (by go_size); obtain ⟨r2, rf2⟩ := hkept (wo.heap.size) (by go_size); clear hkept
                repeat (any_goals (first | go_big_quiet_step (first | (go_at_call 55; exact Calls.regrown_of (rmay_any _ _ _ hx1 hx2))) | quiet_step (first | (go_at_call 55; exact Calls.regrown_of (rmay_any _ _ _ hx1 hx2))) | (refine wpQuiet_step (fun K hK => ?_); go_simp; split <;> (refine hK _ ?_; clear hK K))))
                all_goals (refine wpQuiet_nil ?_; intro w3 hb; obtain ⟨hB, hS, hk⟩ := after (B := wo.heap.size) (w := wo) (by go_grown) (by go_size) hb; obtain ⟨c0, f0, z0⟩ := hk (b) (by go_size); obtain ⟨c1, f1, z1⟩ := hk (w.heap.size) (by go_size); obtain ⟨c2, f2, z2⟩ := hk (wo.heap.size) (by go_size); clear hk hb r0 rf0 r1 rf1 r2 rf2)
                go_wp2
                go_roundw
                case rel => exact ⟨j + 1, x.1, by omega, by go_num, Hs, by go_simp, by go_simp, by go_simp, by go_simp, by go_size, by go_grown⟩
                case measure => simp [intOf]; omega
              · have g2 : H.toList.isEmpty = false := by simp [hz]
                by_cases hl2 : x.1.toList < H.toList
                · have g3 : Op.bytesLess x.1.toList H.toList = true := by rw [less_eq]; simpa using hl2
                  have Hs : Hid (High ((rgL rs).take (j + 1)) A.toList x.1.toList) := Lib.hid (by rw [rgL_take Hx.out]; have := Hst.out; simpa [stepH, hm, hl, hl2] using this)
                  clear hl hz hl2
                  go_wp2
                  refine wp_region_below (by kernel_rfl) (by kernel_rfl) (fun hkept => ?_)
                  obtain ⟨r0, rf0⟩ := hkept (b) (by go_size); obtain ⟨r1, rf1⟩ := hkept (w.heap.size) (by go_size); obtain ⟨r2, rf2⟩ := hkept (wo.heap.size) (by go_size); clear hkept
                  repeat (any_goals (first | go_big_quiet_step (first | (go_at_call 55; exact Calls.regrown_of (rmay_any _ _ _ hx1 hx2))) | quiet_step (first | (go_at_call 55; exact Calls.regrown_of (rmay_any _ _ _ hx1 hx2))) | (refine wpQuiet_step (fun K hK => ?_); go_simp; split <;> (refine hK _ ?_; clear hK K))))
                  all_goals (refine wpQuiet_nil ?_; intro w3 hb; obtain ⟨hB, hS, hk⟩ := after (B := wo.heap.size) (w := wo) (by go_grown) (by go_size) hb; obtain ⟨c0, f0, z0⟩ := hk (b) (by go_size); obtain ⟨c1, f1, z1⟩ := hk (w.heap.size) (by go_size); obtain ⟨c2, f2, z2⟩ := hk (wo.heap.size) (by go_size); clear hk hb r0 rf0 r1 rf1 r2 rf2)
                  go_wp2
                  go_roundw
                  case rel => exact ⟨j + 1, x.1, by omega, by go_num, Hs, by go_simp, by go_simp, by go_simp, by go_simp, by go_size, by go_grown⟩
                  case measure => simp [intOf]; omega
                · have g3 : Op.bytesLess x.1.toList H.toList = false := by rw [less_eq]; simpa using hl2
                  have Hs : Hid (High ((rgL rs).take (j + 1)) A.toList H.toList) := Lib.hid (by rw [rgL_take Hx.out]; have := Hst.out; simpa [stepH, hm, hl, hl2, hz] using this)
                  clear hl hz hl2
                  go_wp2
                  refine wp_region_below (by kernel_rfl) (by kernel_rfl) (fun hkept => ?_)
                  obtain ⟨r0, rf0⟩ := hkept (b) (by go_size); obtain ⟨r1, rf1⟩ := hkept (w.heap.size) (by go_size); obtain ⟨r2, rf2⟩ := hkept (wo.heap.size) (by go_size); clear hkept
                  repeat (any_goals (first | go_big_quiet_step (first | (go_at_call 55; exact Calls.regrown_of (rmay_any _ _ _ hx1 hx2))) | quiet_step (first | (go_at_call 55; exact Calls.regrown_of (rmay_any _ _ _ hx1 hx2))) | (refine wpQuiet_step (fun K hK => ?_); go_simp; split <;> (refine hK _ ?_; clear hK K))))
                  all_goals (refine wpQuiet_nil ?_; intro w3 hb; obtain ⟨hB, hS, hk⟩ := after (B := wo.heap.size) (w := wo) (by go_grown) (by go_size) hb; obtain ⟨c0, f0, z0⟩ := hk (b) (by go_size); obtain ⟨c1, f1, z1⟩ := hk (w.heap.size) (by go_size); obtain ⟨c2, f2, z2⟩ := hk (wo.heap.size) (by go_size); clear hk hb r0 rf0 r1 rf1 r2 rf2)
                  go_wp2
                  go_roundw
                  case rel => exact ⟨j + 1, H, by omega, by go_num, Hs, by go_simp, by go_simp, by go_simp, by go_simp, by go_size, by go_grown⟩
                  case measure => simp [intOf]; omega
            · have g1 := le_true x.1.toList A.toList hl
              have Hs : Hid (High ((rgL rs).take (j + 1)) A.toList H.toList) := Lib.hid (by rw [rgL_take Hx.out]; have := Hst.out; simpa [stepH, hm, hl] using this)
              clear hl
              go_wp2
              refine wp_region_below (by kernel_rfl) (by kernel_rfl) (fun hkept => ?_)
              obtain ⟨r0, rf0⟩ := hkept (b) (by go_size); obtain ⟨r1, rf1⟩ := hkept (w.heap.size) (by go_size); obtain ⟨r2, rf2⟩ := hkept (wo.heap.size) (by go_size); clear hkept
              repeat (any_goals (first | go_big_quiet_step (first | (go_at_call 55; exact Calls.regrown_of (rmay_any _ _ _ hx1 hx2))) | quiet_step (first | (go_at_call 55; exact Calls.regrown_of (rmay_any _ _ _ hx1 hx2))) | (refine wpQuiet_step (fun K hK => ?_); go_simp; split <;> (refine hK _ ?_; clear hK K))))
              all_goals (refine wpQuiet_nil ?_; intro w3 hb; obtain ⟨hB, hS, hk⟩ := after (B := wo.heap.size) (w := wo) (by go_grown) (by go_size) hb; obtain ⟨c0, f0, z0⟩ := hk (b) (by go_size); obtain ⟨c1, f1, z1⟩ := hk (w.heap.size) (by go_size); obtain ⟨c2, f2, z2⟩ := hk (wo.heap.size) (by go_size); clear hk hb r0 rf0 r1 rf1 r2 rf2)
              go_wp2
              go_roundw
              case rel => exact ⟨j + 1, H, by omega, by go_num, Hs, by go_simp, by go_simp, by go_simp, by go_simp, by go_size, by go_grown⟩
              case measure => simp [intOf]; omega
          · have hm1 : mayL x.1.toList x.2.toList = false := by simpa using hm
            have Hs : Hid (High ((rgL rs).take (j + 1)) A.toList H.toList) := Lib.hid (by rw [rgL_take Hx.out]; have := Hst.out; simpa [stepH, hm] using this)
            clear hm
            go_wp2
            refine wp_region_below (by kernel_rfl) (by kernel_rfl) (fun hkept => ?_)
            obtain ⟨r0, rf0⟩ := hkept (b) (by go_size); obtain ⟨r1, rf1⟩ := hkept (w.heap.size) (by go_size); obtain ⟨r2, rf2⟩ := hkept (wo.heap.size) (by go_size); clear hkept
            repeat (any_goals (first | go_big_quiet_step (first | (go_at_call 55; exact Calls.regrown_of (rmay_any _ _ _ hx1 hx2))) | quiet_step (first | (go_at_call 55; exact Calls.regrown_of (rmay_any _ _ _ hx1 hx2))) | (refine wpQuiet_step (fun K hK => ?_); go_simp; split <;> (refine hK _ ?_; clear hK K))))
            all_goals (refine wpQuiet_nil ?_; intro w3 hb; obtain ⟨hB, hS, hk⟩ := after (B := wo.heap.size) (w := wo) (by go_grown) (by go_size) hb; obtain ⟨c0, f0, z0⟩ := hk (b) (by go_size); obtain ⟨c1, f1, z1⟩ := hk (w.heap.size) (by go_size); obtain ⟨c2, f2, z2⟩ := hk (wo.heap.size) (by go_size); clear hk hb r0 rf0 r1 rf1 r2 rf2)
            go_wp2
            go_roundw
            case rel => exact ⟨j + 1, H, by omega, by go_num, Hs, by go_simp, by go_simp, by go_simp, by go_simp, by go_size, by go_grown⟩
            case measure => simp [intOf]; omega
        · obtain rfl : j = n := by omega
          have hb5 : Below w.heap.size w wr := (hb0.trans (hbr.mono hz0)).trans (hbo.mono (by omega))
          have hfin := Lib.hid (gapV_some (l := rgL rs) (a := A) (h := H) ⟨hlow.out, hnc.out, by have := hh.out; rwa [List.take_of_length_le (by rw [rgL_len, ← Hn.out]; omega)] at this⟩)
          go_wp2
          exact bodyPost_ret (v := gapV (gapL (rgL rs))) (by rw [hfin.out]; simp [results, Try.results30, go_sem, *]) rfl ⟨rfl, by go_grown⟩

end Go.Proofs.Yteibnignjghedaa
