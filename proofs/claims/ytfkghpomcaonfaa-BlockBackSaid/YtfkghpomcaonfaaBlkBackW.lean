/-
  The walk of acreagelaw10.BlockBack.
-/
import Derived.Test.YtfkghpomcaonfaaBlkBackP
import Derived.Deep.DeepCutAuto
namespace Go.Proofs.Ytfkghpomcaonfaa
open Go.RowKit

theorem bcellB {w w' : World} (h : Below w.heap.size w w') : (∀ b o, b < w.heap.size → w'.cell? ⟨b, o, none⟩ = w.cell? ⟨b, o, none⟩) ∧ (∀ b o, b < w.heap.size → w'.frozen? ⟨b, o, none⟩ = w.frozen? ⟨b, o, none⟩) :=
  ⟨fun b o hb => h.cell (p := ⟨b, o, none⟩) hb, fun b o hb => h.frozen (p := ⟨b, o, none⟩) hb⟩
set_option maxRecDepth 100000 in
set_option maxHeartbeats 4000000 in
theorem blockback_any (ao : Option Addr) (n cap : Nat) (cs : List CellA) (row col : ByteArray) (w : World) (h : Cells w ao n cap cs) (hok : ∀ c ∈ cs, c.Ok) :
    Calls Try.prog 9 #[.slice ao n cap, .string row, .string col] w fun e w' => e = .returned (.bool true) ∧ Below w.heap.size w w' := by
  obtain ⟨m, hm⟩ : ∃ m, m = min n 200 := ⟨_, rfl⟩
  have hmn : m ≤ n := by omega
  have hm2 : m ≤ 200 := by omega
  have hmi : min (n : Int) 200 = (m : Int) := by omega
  have H := Lib.hid (Cells.take h m hmn)
  have hok2 : ∀ c ∈ sortL (cs.take m), c.Ok := fun c hc => hok c (List.mem_of_mem_take (sortL_sub _ c hc))
  have hsl := sortL_len (cs.take m)
  have hcl := h.len
  have hc1 := Arr.fits h
  have hc2 := Arr.max h
  unfold maxLen at hc2
  rw [List.length_take] at hsl
  clear hm
  obtain ⟨ss, hss⟩ : ∃ s, s = sortL (cs.take m) := ⟨_, rfl⟩
  have KS := Lib.hid fun W (h : Cells W ao m cap (cs.take m)) => sort_any ao m cap (cs.take m) W h (by omega)
  rw [← hss] at hok2 hsl KS
  have Hok := Lib.hid hok2
  clear h hok hok2 hss
  have hnc : m ≤ cap := by omega
  go_enter Try.func9, Try.ntmps9
  go_wp2_with (first | (go_at_call 14; refine (works10_any _).mono ?_; rintro e w1 ⟨rfl, hb⟩; obtain ⟨hB, hS, hk⟩ := after (B := w.heap.size) (w := w) (by go_grown) (by go_size) hb; have Hw1 := Lib.hid hb; clear hb; clear hk))
  all_goals
    (first | (have e : m = 200 := (by omega); subst e) | (have e : m = n := (by omega); subst e))
    refine (KS.out _ (Arr.below H.out (by assumption))).mono ?_
    rintro e w2 ⟨v2, rfl, hO, hb2⟩
    have HB2 := Lib.hid (hB.trans (hb2.mono hB.size))
    obtain ⟨ao2, cap2, rfl, hC⟩ := hO.cells
    have HC2 := Lib.hid hC
    have hs2 := HB2.out.size
    obtain ⟨q, hq⟩ : ∃ q, q = ss.length := ⟨_, rfl⟩
    have Hq := Lib.hid hq.symm
    rw [← hq] at HC2 hsl ⊢
    have hq2 : q ≤ 200 := by omega
    clear hO hb2 hC hB hS Hw1 KS H hq hsl
    go_wp2_with fail
    refine (build_any ao2 q cap2 ss w2 HC2.out Hok.out).mono ?_
    rintro e w3 ⟨rfl, hb3⟩
    have HC3 := Lib.hid (Arr.below HC2.out hb3)
    have HB3 := Lib.hid (HB2.out.trans (hb3.mono hs2))
    have hs3 := HB3.out.size
    obtain ⟨r1, hr1⟩ : ∃ r, r = ofL (buildR ss).1 := ⟨_, rfl⟩
    obtain ⟨r2, hr2⟩ : ∃ r, r = (buildR ss).2 := ⟨_, rfl⟩
    rw [← hr1, ← hr2]
    clear HC2 HB2 hb3
    by_cases h0 : r2 = 0
    · subst h0
      have hbk : BlockOf r1.toList ss := by rw [hr1, ofL_toList, (buildR_ok hr2.symm).2]; exact (buildR_ok hr2.symm).1
      have HBk := Lib.hid hbk
      have hat := newest_at hbk.rise
      have Hall := Lib.hid (thereB_all (row := row.toList) (col := col.toList) hbk.rise)
      have hnl := newestL_len ss
      have KN := Lib.hid fun W (h : Cells W ao2 q cap2 ss) => newest_any ao2 q cap2 ss W h (by omega)
      obtain ⟨nn, hnn⟩ : ∃ l, l = newestL ss := ⟨_, rfl⟩
      rw [← hnn] at hat Hall hnl KN
      have Hat := Lib.hid hat.1
      obtain ⟨p, hp⟩ : ∃ p, p = nn.length := ⟨_, rfl⟩
      have Hp := Lib.hid hp.symm
      rw [← hp] at hnl Hall
      have hpl : p ≤ 200 := by have := Hq.out; omega
      clear hr1 hr2 hbk hat hnn hp
      go_wp2_with fail
      refine (readb_yes r1 ss HBk.out w3).mono ?_
      rintro e w4 ⟨ao4, cap4, rfl, hO4, hb4⟩
      have HR4 : Hid (Cells w4 ao4 q cap4 ss) := Lib.hid (by have h := own_arr hO4 rfl; rw [Hq.out] at h; exact h)
      have HC4 := Lib.hid (Arr.below HC3.out hb4)
      have HB4 := Lib.hid (HB3.out.trans (hb4.mono hs3))
      have hs4 := HB4.out.size
      rw [Hq.out]
      clear HC3 HB3 hb4 hO4
      go_wp2_with fail
      refine (same10_any ao4 ao2 q cap4 q cap2 ss ss w4 HR4.out HC4.out).mono ?_
      rw [sameC_self]
      rintro e w5 ⟨rfl, hb5⟩
      have HC5 := Lib.hid (Arr.below HC4.out hb5)
      have HB5 := Lib.hid (HB4.out.trans (hb5.mono hs4))
      have hs5 := HB5.out.size
      clear HC4 HB4 HR4 hb5
      go_wp2_with fail
      refine (KN.out w5 HC5.out).mono ?_
      rintro e w6 ⟨v6, rfl, hO6, hb6⟩
      obtain ⟨ao6, cap6, rfl, hC6⟩ := own_n hO6 Hp.out
      have HC6 := Lib.hid hC6
      have HB6 := Lib.hid (HB5.out.trans (hb6.mono hs5))
      have hs6 := HB6.out.size
      have hf6 := Arr.fits hC6
      have hm6 := Arr.max hC6
      unfold maxLen at hm6
      clear HC5 HB5 hb6 hO6 hC6 KN
      go_wp2_with fail
      go_loopw [13, 14] (fun x i wr => ∃ k : Nat, k ≤ p ∧ i = .int .i64 k ∧ x = .bool (thereB row.toList col.toList nn k) ∧ Hid (Below w6.heap.size w6 wr)) (fun _ i _ => p - (intOf i).toNat)
      case atStart => exact ⟨0, by omega, rfl, rfl, Lib.hid (Below.refl _ _)⟩
      case round =>
        obtain ⟨k, hk, rfl, rfl, hD⟩ := hrel
        have hzr := hD.out.size
        obtain ⟨T, hT⟩ : ∃ T, T = thereB row.toList col.toList nn k := ⟨_, rfl⟩
        have HT := Lib.hid hT
        rw [← hT]
        clear hT
        by_cases hlt : k < p
        · obtain ⟨y, hy⟩ : ∃ y, nn[k]? = some y := ⟨_, List.getElem?_eq_getElem (by rw [Hp.out]; exact hlt)⟩
          have KF := Lib.hid (find_some r1 y.row y.col ss HBk.out y (Hat.out y (List.mem_of_getElem? hy)))
          obtain ⟨g, off, rfl, hg, ⟨y0, y1, y2, y3, y4⟩⟩ := Cells.at_ HC6.out hy
          obtain ⟨k0, k0f⟩ := keep_below hD.out g hg
          have HTs := Lib.hid (thereB_succ (row := row.toList) (col := col.toList) hy)
          have Hisc : Hid (isC row.toList col.toList y = (decide (y.row.toList = row.toList) && decide (y.col.toList = col.toList))) := Lib.hid rfl
          obtain ⟨yr, yc, yv, yg, yl⟩ := y
          simp only at KF y0 y1 y2 y3 y4 Hisc
          rw [← HT.out] at HTs
          have z0 := (k0 _).trans y0
          have z1 := (k0 _).trans y1
          have z2 := (k0 _).trans y2
          have z3 := (k0 _).trans y3
          have z4 := (k0 _).trans y4
          have hgr : g < wr.heap.size := by omega
          have hgn : ¬ g = wr.heap.size := by omega
          have hgn1 : ¬ wr.heap.size = g := by omega
          clear hy y0 y1 y2 y3 y4 k0 k0f hg
          have HS : Hid (∀ W, Below wr.heap.size wr W → W.cell? ⟨g, off + k * 5, none⟩ = some (.string yr) ∧ W.cell? ⟨g, off + k * 5 + 1, none⟩ = some (.string yc)) := Lib.hid fun W h => ⟨(h.cell (p := ⟨g, _, none⟩) hgr).trans z0, (h.cell (p := ⟨g, _, none⟩) hgr).trans z1⟩
          go_wp2_with fail
          go_cut [15, 16, 17] (fun a b e wx => ∃ x' : Nat, a = .pointer (some ⟨x', 0, none⟩) ∧ b = .bool true ∧ e = .int .i64 0 ∧ wr.heap.size ≤ x' ∧ x' < (wx : World).heap.size ∧ Below wr.heap.size wr wx ∧ wx.cell? ⟨x', 0, none⟩ = some (.string yr) ∧ wx.cell? ⟨x', 1, none⟩ = some (.string yc) ∧ wx.cell? ⟨x', 2, none⟩ = some (.int .u64 yv) ∧ wx.cell? ⟨x', 3, none⟩ = some (.bool yg) ∧ wx.cell? ⟨x', 4, none⟩ = some (.string yl))
          case first =>
            clear z0 z1 z2 z3 z4
            go_region_held3 (fun W => W.cell? ⟨g, off + k * 5, none⟩ = some (.string yr) ∧ W.cell? ⟨g, off + k * 5 + 1, none⟩ = some (.string yc)) (exact HS.out _ (by go_grown)) (first | (go_at_call 17; refine (KF.out _).mono ?_; rintro e w7 ⟨rfl, hb⟩; obtain ⟨hc7, hf7⟩ := bcellB hb; have hz7 := hb.size; have hB7 : Below wr.heap.size wr w7 := Below.trans (by go_grown) (hb.mono (by go_size)); simp only [World.size_alloc, World.size_drew] at hz7 hc7 hf7; have hz8 : wr.heap.size ≤ w7.heap.size := (by omega); (try have hz9 : wr.heap.size < w7.heap.size := (by omega)); clear hb))
            all_goals (go_wp2_with fail; go_meet; refine ⟨_, rfl, rfl, rfl, by omega, by go_size, by go_grown, ?_, ?_, ?_, ?_, ?_⟩ <;> (first | (go_simp; done) | (go_simp; exact World.cell?_setCell_same _ _ _ (by go_simp : _ = some (Value.string ⟨#[]⟩)))))
          case rest =>
            obtain ⟨x', rfl, rfl, rfl, hx0, hxl, hbx, e0, e1, e2, e3, e4⟩ := hcut
            have u0 := (hbx.cell (p := ⟨g, _, none⟩) hgr).trans z0
            have u1 := (hbx.cell (p := ⟨g, _, none⟩) hgr).trans z1
            have u2 := (hbx.cell (p := ⟨g, _, none⟩) hgr).trans z2
            have u3 := (hbx.cell (p := ⟨g, _, none⟩) hgr).trans z3
            have u4 := (hbx.cell (p := ⟨g, _, none⟩) hgr).trans z4
            have hgx : g < wc.heap.size := Nat.lt_of_lt_of_le hgr hbx.size
            have HX := Lib.hid (hD.out.trans (hbx.mono hzr))
            have hsx := HX.out.size
            clear z0 z1 z2 z3 z4 HS hbx
            go_wp2_with fail
            refine wp_region_below (by kernel_rfl) (by kernel_rfl) (fun hkept => ?_)
            obtain ⟨r0, rf0⟩ := hkept (g) (by go_size); obtain ⟨r1, rf1⟩ := hkept (x') (by go_size); clear hkept
            repeat (any_goals (first | go_big_quiet_step (fail) | quiet_step (fail) | (refine wpQuiet_step (fun K hK => ?_); go_simp; split <;> (refine hK _ ?_; clear hK K))))
            all_goals (refine wpQuiet_nil ?_; intro w8 hb; obtain ⟨hB, hS, hk⟩ := after (B := wc.heap.size) (w := wc) (by go_grown) (by go_size) hb; obtain ⟨c0, f0, z0⟩ := hk (g) (by go_size); obtain ⟨c1, f1, z1⟩ := hk (x') (by go_size); clear hk hb r0 rf0 r1 rf1)
            have HX8 := Lib.hid (HX.out.trans (hB.mono hsx))
            have hgl : g < w8.heap.size := Nat.lt_of_lt_of_le hgx hB.size
            clear HX hB hS
            cases T
            · by_cases hrr : yr = row
              · subst hrr
                by_cases hcc : yc = col
                · subst hcc
                  have HN : Hid (thereB yr.toList yc.toList nn (k + 1) = true) := Lib.hid (by rw [HTs.out, Hisc.out]; simp)
                  clear HTs Hisc
                  go_wp2_with fail
                  exact ⟨⟨k + 1, by omega, by go_num, by rw [HN.out], HX8⟩, by simp [intOf]; omega⟩
                · have hcc1 := ne_of hcc
                  have HN : Hid (thereB yr.toList col.toList nn (k + 1) = false) := Lib.hid (by rw [HTs.out, Hisc.out]; simp [hcc1.2])
                  clear HTs Hisc
                  go_wp2_with fail
                  exact ⟨⟨k + 1, by omega, by go_num, by rw [HN.out], HX8⟩, by simp [intOf]; omega⟩
              · have hrr1 := ne_of hrr
                have HN : Hid (thereB row.toList col.toList nn (k + 1) = false) := Lib.hid (by rw [HTs.out, Hisc.out]; simp [hrr1.2])
                clear HTs Hisc
                go_wp2_with fail
                exact ⟨⟨k + 1, by omega, by go_num, by rw [HN.out], HX8⟩, by simp [intOf]; omega⟩
            · have HN : Hid (thereB row.toList col.toList nn (k + 1) = true) := Lib.hid (by rw [HTs.out]; simp)
              clear HTs Hisc
              go_wp2_with fail
              exact ⟨⟨k + 1, by omega, by go_num, by rw [HN.out], HX8⟩, by simp [intOf]; omega⟩
        · obtain rfl : k = p := by omega
          have hall := Hall.out
          rw [← HT.out] at hall
          cases hf : findL row.toList col.toList ss with
          | none =>
            rw [hf] at hall
            have KF := Lib.hid (find_none r1 row col ss HBk.out hf)
            obtain rfl : T = false := by simpa using hall.symm
            clear hall hf
            go_wp2_with (first | (go_at_call 17; refine (KF.out _).mono ?_; rintro e w7 ⟨rfl, hb⟩; have HB7 := Lib.hid (hD.out.trans (hb.mono hzr)); clear hb))
            go_returns
            have hB7 := HB6.out.trans (HB7.out.mono hs6)
            have hs7 := hB7.size
            exact ⟨rfl, by go_grown⟩
          | some c =>
            rw [hf] at hall
            have KF := Lib.hid (find_some r1 row col ss HBk.out c hf)
            obtain rfl : T = true := by simpa using hall.symm
            clear hall hf
            go_wp2_with (first | (go_at_call 17; refine (KF.out _).mono ?_; rintro e w7 ⟨rfl, hb⟩; have HB7 := Lib.hid (hD.out.trans (hb.mono hzr)); clear hb))
            go_returns
            have hB7 := HB6.out.trans (HB7.out.mono hs6)
            have hs7 := hB7.size
            exact ⟨rfl, by go_grown⟩
    · have h1 : r1 = ⟨#[]⟩ := by rw [hr1, buildR_err (by rw [← hr2]; exact h0)]; rfl
      subst h1
      clear hr1 hr2
      go_wp2
      go_returns
      exact ⟨rfl, HB3.out⟩
end Go.Proofs.Ytfkghpomcaonfaa
