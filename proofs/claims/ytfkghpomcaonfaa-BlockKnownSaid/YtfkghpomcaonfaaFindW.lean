/-
  block.Find.
-/
import Derived.Test.YtfkghpomcaonfaaFindC
namespace Go.Proofs.Ytfkghpomcaonfaa
open Go.RowKit

/-- what stands where Find's own cells lie: the row, the column, the body, the places, the answer -/
structure FW (r c z p q : Nat) (row col bd pl : ByteArray) (W : World) : Prop where
  hr : W.cell? ⟨r, 0, none⟩ = some (.string row)
  hc : W.cell? ⟨c, 0, none⟩ = some (.string col)
  hp : W.cell? ⟨p, 0, none⟩ = some (.string bd)
  hq : W.cell? ⟨q, 0, none⟩ = some (.string pl)
  z0 : W.cell? ⟨z, 0, none⟩ = some (.string ⟨#[]⟩)
  z1 : W.cell? ⟨z, 1, none⟩ = some (.string ⟨#[]⟩)
  z2 : W.cell? ⟨z, 2, none⟩ = some (.int .u64 0)
  z3 : W.cell? ⟨z, 3, none⟩ = some (.bool false)
  z4 : W.cell? ⟨z, 4, none⟩ = some (.string ⟨#[]⟩)
  f0 : W.frozen? ⟨z, 0, none⟩ = false
  f1 : W.frozen? ⟨z, 1, none⟩ = false
  f2 : W.frozen? ⟨z, 2, none⟩ = false
  f3 : W.frozen? ⟨z, 3, none⟩ = false
  f4 : W.frozen? ⟨z, 4, none⟩ = false
  lr : r < W.heap.size
  lc : c < W.heap.size
  lp : p < W.heap.size
  lq : q < W.heap.size
  lz : z < W.heap.size
theorem FW.below {r c z p q : Nat} {row col bd pl : ByteArray} {W W' : World} (h : FW r c z p q row col bd pl W) (hb : Below W.heap.size W W') : FW r c z p q row col bd pl W' :=
  ⟨(hb.cell (p := ⟨r, 0, none⟩) h.lr).trans h.hr, (hb.cell (p := ⟨c, 0, none⟩) h.lc).trans h.hc, (hb.cell (p := ⟨p, 0, none⟩) h.lp).trans h.hp, (hb.cell (p := ⟨q, 0, none⟩) h.lq).trans h.hq,
    (hb.cell (p := ⟨z, 0, none⟩) h.lz).trans h.z0, (hb.cell (p := ⟨z, 1, none⟩) h.lz).trans h.z1, (hb.cell (p := ⟨z, 2, none⟩) h.lz).trans h.z2, (hb.cell (p := ⟨z, 3, none⟩) h.lz).trans h.z3, (hb.cell (p := ⟨z, 4, none⟩) h.lz).trans h.z4,
    (hb.frozen (p := ⟨z, 0, none⟩) h.lz).trans h.f0, (hb.frozen (p := ⟨z, 1, none⟩) h.lz).trans h.f1, (hb.frozen (p := ⟨z, 2, none⟩) h.lz).trans h.f2, (hb.frozen (p := ⟨z, 3, none⟩) h.lz).trans h.f3, (hb.frozen (p := ⟨z, 4, none⟩) h.lz).trans h.f4,
    Nat.lt_of_lt_of_le h.lr hb.size, Nat.lt_of_lt_of_le h.lc hb.size, Nat.lt_of_lt_of_le h.lp hb.size, Nat.lt_of_lt_of_le h.lq hb.size, Nat.lt_of_lt_of_le h.lz hb.size⟩
def cellV (c : CellA) : Value := .agg #[.string c.row, .string c.col, .int .u64 c.ver, .bool c.gone, .string c.val]
def noneV : Value := .agg #[.string ⟨#[]⟩, .string ⟨#[]⟩, .int .u64 0, .bool false, .string ⟨#[]⟩]
set_option maxRecDepth 100000 in
set_option maxHeartbeats 4000000 in
theorem find_no (s row col : ByteArray) (h : ∀ cs, ¬ BlockOf s.toList cs) (w : World) :
    Calls Try.prog 17 #[.string s, .string row, .string col] w fun e w' => e = .returned (.tuple #[.agg #[.string ⟨#[]⟩, .string ⟨#[]⟩, .int .u64 0, .bool false, .string ⟨#[]⟩], .bool false, .int .i64 4]) ∧ Below w.heap.size w w' := by
  have K := Lib.hid (readb_no s h)
  clear h
  obtain ⟨P, hP⟩ : ∃ P : Ending → World → Prop, P = fun e w' => e = .returned (.tuple #[.agg #[.string ⟨#[]⟩, .string ⟨#[]⟩, .int .u64 0, .bool false, .string ⟨#[]⟩], .bool false, .int .i64 4]) ∧ Below w.heap.size w w' := ⟨_, rfl⟩
  rw [← hP]
  have HP := Lib.hid hP
  clear hP
  go_enter Try.func17, Try.ntmps17
  go_wp2_with (first | (go_at_call 15; refine (K.out _).mono ?_; rintro e w1 ⟨rfl, hb⟩; obtain ⟨hB, hS, hk⟩ := after (B := w.heap.size) (w := w) (by go_grown) (by go_size) hb; clear hb; obtain ⟨c0, f0, z0⟩ := hk (w.heap.size) (by go_size); obtain ⟨c1, f1, z1⟩ := hk (w.heap.size + 1) (by go_size); obtain ⟨c2, f2, z2⟩ := hk (w.heap.size + 2) (by go_size); clear hk) | (with_reducible refine bodyPost_ret (v := .tuple #[.agg #[.string ⟨#[]⟩, .string ⟨#[]⟩, .int .u64 0, .bool false, .string ⟨#[]⟩], .bool false, .int .i64 4]) ?hr ?hd ?hR))
  case hd => rfl
  case hR => rw [HP.out]; exact ⟨rfl, by go_grown⟩
  case hr => simp [results, Try.results17, go_sem, *]
set_option maxRecDepth 100000 in
set_option maxHeartbeats 4000000 in
theorem find_yes (s row col : ByteArray) (cs : List CellA) (h : BlockOf s.toList cs) (w : World) (P : Ending → World → Prop)
    (h1 : ∀ c w', findL row.toList col.toList cs = some c → Below w.heap.size w w' → P (.returned (.tuple #[.agg #[.string c.row, .string c.col, .int .u64 c.ver, .bool c.gone, .string c.val], .bool true, .int .i64 0])) w')
    (h2 : ∀ w', findL row.toList col.toList cs = none → Below w.heap.size w w' → P (.returned (.tuple #[.agg #[.string ⟨#[]⟩, .string ⟨#[]⟩, .int .u64 0, .bool false, .string ⟨#[]⟩], .bool false, .int .i64 0])) w') :
    Calls Try.prog 17 #[.string s, .string row, .string col] w P := by
  have K := Lib.hid (readb_yes s cs h)
  have KP := Lib.hid fun W => partsB_some s _ _ W (parts_block h)
  have HBk := Lib.hid h
  have H1 := Lib.hid h1
  have H2 := Lib.hid h2
  have hbl := h.body
  have hlong := bodyTo_long cs cs.length (Nat.le_refl _)
  clear h h1 h2
  obtain ⟨bd, hbd⟩ : ∃ x, x = ofL (bodyTo cs cs.length) := ⟨_, rfl⟩
  obtain ⟨pl, hpl⟩ : ∃ x, x = ofL (placesTo cs cs.length) := ⟨_, rfl⟩
  have hps : pl.size = 2 * ((cs.length + 7) / 8) := by rw [hpl, ofL_size, placesTo_len]
  have Hbd := Lib.hid hbd
  have Hpl := Lib.hid hpl
  rw [← hbd, ← hpl] at KP
  obtain ⟨n, hn⟩ : ∃ n, n = cs.length := ⟨_, rfl⟩
  have Hn := Lib.hid hn
  have hsm0 : cs.length ≤ 6000 := by omega
  rw [← hn] at hps K hsm0
  obtain ⟨M, hM⟩ : ∃ M, M = (n + 7) / 8 := ⟨_, rfl⟩
  rw [← hM] at hps
  have hMn : n ≤ 8 * M ∧ 8 * M ≤ n + 7 := by omega
  have hdiv : ((pl.size : Int).tdiv 2) = (M : Int) := by rw [hps, Int.tdiv_eq_ediv_of_nonneg (by omega)]; omega
  have hdiv2 : ((pl.size : Int) / 2) = (M : Int) := by rw [hps]; omega
  clear hbd hpl hn hM hbl hlong
  go_enter Try.func17, Try.ntmps17
  go_wp2_with (first
    | (go_at_call 15; refine (K.out _).mono ?_; rintro e w1 ⟨ao, cap, rfl, hO, hb⟩; obtain ⟨hB, hS, hk⟩ := after (B := w.heap.size) (w := w) (by go_grown) (by go_size) hb; obtain ⟨c0, f0, z0⟩ := hk w.heap.size (by go_size); obtain ⟨c1, f1, z1⟩ := hk (w.heap.size + 1) (by go_size); obtain ⟨c2, f2, z2⟩ := hk (w.heap.size + 2) (by go_size); clear hk hO)
    | (go_at_call 34; refine (KP.out _).mono ?_; rintro e w2 ⟨rfl, hb⟩; obtain ⟨hB, hS, hk⟩ := after (B := w.heap.size) (w := w) (by go_grown) (by go_size) hb; clear hb; obtain ⟨c0, f0, z0⟩ := hk (w.heap.size) (by go_size); obtain ⟨c1, f1, z1⟩ := hk (w.heap.size + 1) (by go_size); obtain ⟨c2, f2, z2⟩ := hk (w.heap.size + 2) (by go_size); clear hk))
  obtain ⟨W0, hW0⟩ : ∃ W : World, W = (w2.alloc (.cells #[.string bd] 9)).alloc (.cells #[.string pl] 9) := ⟨_, rfl⟩
  have HB0 : Hid (Below w.heap.size w W0) := Lib.hid (by rw [hW0]; go_grown)
  obtain ⟨p, hp⟩ : ∃ p, p = w2.heap.size := ⟨_, rfl⟩
  obtain ⟨q, hq⟩ : ∃ q, q = w2.heap.size + 1 := ⟨_, rfl⟩
  obtain ⟨r, hr⟩ : ∃ r, r = w.heap.size := ⟨_, rfl⟩
  obtain ⟨c, hc⟩ : ∃ c, c = w.heap.size + 1 := ⟨_, rfl⟩
  obtain ⟨z, hz⟩ : ∃ z, z = w.heap.size + 1 + 1 := ⟨_, rfl⟩
  have HW0 : FW r c z p q row col bd pl W0 := by
    rw [hW0, hp, hq, hr, hc, hz]
    exact ⟨by go_simp, by go_simp, by go_simp, by go_simp, by go_simp, by go_simp, by go_simp, by go_simp, by go_simp, by go_simp, by go_simp, by go_simp, by go_simp, by go_simp, by go_size, by go_size, by go_size, by go_size, by go_size⟩
  rw [← hW0, ← hq, ← hp, ← hz, ← hc, ← hr]
  have Hrw := Lib.hid hr
  have Hzz := Lib.hid hz
  have HF0 := Lib.hid HW0
  have q0 := HW0.hq
  have lq := HW0.lq
  clear hW0 hq hp hz hc hr HW0 hB hS c0 f0 z0 c1 f1 z1 c2 f2 z2
  refine wp_region_below (by kernel_rfl) (by kernel_rfl) (fun hkept => ?_)
  obtain ⟨r0, rf0⟩ := hkept (q) (by go_size); clear hkept
  repeat (any_goals (first | go_big_quiet_step (fail) | quiet_step (fail) | (refine wpQuiet_step (fun K hK => ?_); go_simp; split <;> (refine hK _ ?_; clear hK K))))
  all_goals (refine wpQuiet_nil ?_; intro w3 hb; obtain ⟨hB, hS, hk⟩ := after (B := W0.heap.size) (w := W0) (by go_grown) (by go_size) hb; obtain ⟨c0, f0, z0⟩ := hk (q) (by go_size); clear hk hb r0 rf0)
  have HF3 := Lib.hid (HF0.out.below hB)
  have HB3 := Lib.hid (HB0.out.trans (hB.mono HB0.out.size))
  have q3 := HF3.out.hq
  have lq3 := HF3.out.lq
  clear HF0 HB0 q0 lq hB hS c0 f0 z0
  have hzw : w.heap.size ≤ z := by rw [Hzz.out]; omega
  have hzw : w.heap.size ≤ z := by rw [Hzz.out]; omega
  go_wp2_with fail
  go_loopw [16, 17, 47] (fun lo hi ct wr => ∃ a b m : Nat, lo = .int .i64 a ∧ hi = .int .i64 b ∧ ct = .int .i64 m ∧ a ≤ b ∧ b ≤ M ∧ m ≤ 2 * M ∧ Hid (Scanned row.toList col.toList cs (8 * a)) ∧ Hid (Below w3.heap.size w3 wr)) (fun _ _ ct _ => 2 * M - (intOf ct).toNat)
  case atStart => exact ⟨0, M, 0, rfl, rfl, rfl, by omega, by omega, by omega, Lib.hid (scanned_zero _ _ _), Lib.hid (Below.refl _ _)⟩
  case round =>
    obtain ⟨a, b, m, rfl, rfl, rfl, hab, hbM, hmM, HS, HB⟩ := hrel
    by_cases hlt : m < 2 * M
    · by_cases hbr : b - a < 2
      · have hbr1 : (b : Int) - (a : Int) < 2 := by omega
        have hbr2 : decide ((b : Int) - (a : Int) < 2) = true := by simp; omega
        have hbr3 : decide ((m : Int) < 2 * (M : Int)) = true := by simp; omega
        have hbr4 : decide (m < 2 * M) = true := by simp; omega
        go_wp2_with fail
        have HFr := Lib.hid (HF3.out.below HB.out)
        have hqr := HFr.out.hq
        go_wp2_with fail
        go_loopw [21] (fun i wr => ∃ k : Nat, k ≤ M ∧ i = .int .i64 k ∧ Hid (Scanned row.toList col.toList cs (8 * k)) ∧ Hid (Below w3.heap.size w3 wr)) (fun i _ => M - (intOf i).toNat)
        case atStart => exact ⟨a, by omega, rfl, HS, HB⟩
        case round =>
          clear HFr hqr HS HB
          obtain ⟨k, hk, rfl, HS, HB⟩ := hrel
          have HFr := Lib.hid (HF3.out.below HB.out)
          have hqr := HFr.out.hq
          by_cases hlt : k < M
          · skip
            go_wp2_with fail
            refine (from_in HBk.out k p q (by rw [← Hn.out]; omega) _ (by rw [← Hbd.out]; exact HFr.out.hp) (by rw [← Hpl.out]; exact HFr.out.hq) HFr.out.lp HFr.out.lq).mono ?_
            rintro e w4 ⟨rfl, hb4⟩
            have Hb4 := Lib.hid hb4
            clear hb4
            go_wp2_with fail
            refine (taker_any (ofL (bodyFrom cs (8 * k))) w4).mono ?_
            rintro e w5 ⟨rfl, hT, hb5⟩
            rw [ofL_toList] at hT
            have HT5 : Hid (TK w4.heap.size 0 (rowB cs (8 * k) 0) (bodyFrom cs (8 * k)) w5) := Lib.hid hT
            have Hb5 := Lib.hid (Hb4.out.trans (hb5.mono Hb4.out.size))
            have hs4 := Hb4.out.size
            clear hT hb5 Hb4
            clear hqr
            have HB5 := Lib.hid (HB.out.trans (Hb5.out.mono HB.out.size))
            have hb4 : w3.heap.size ≤ w4.heap.size := Nat.le_trans HB.out.size hs4
            obtain ⟨b, hb⟩ : ∃ b, b = w4.heap.size := ⟨_, rfl⟩
            rw [← hb] at HT5 hb4 ⊢
            clear HB HFr Hb5 hs4 hb
            go_wp2_with fail
            go_loopw [83] (fun i wr => ∃ j : Nat, j ≤ 8 ∧ i = .int .i64 j ∧ 8 * k + j ≤ n ∧ Hid (TK b j (rowB cs (8 * k + j) j) (bodyFrom cs (8 * k + j)) wr) ∧ Hid (Scanned row.toList col.toList cs (8 * k + j)) ∧ Hid (Below w3.heap.size w3 wr)) (fun i _ => 8 - (intOf i).toNat)
            case atStart => exact ⟨0, by omega, rfl, by omega, HT5, HS, HB5⟩
            case round =>
              clear HS HB5 HT5
              obtain ⟨j, hj, rfl, hjn, HT, HS, HB⟩ := hrel
              by_cases hj8 : j < 8
              · skip
                have hj8i : (j : Int) < 8 := by omega
                have hj8d : decide ((j : Int) < 8) = true := by simp; omega
                by_cases he : 8 * k + j = n
                · have KT := Lib.hid (take_out HBk.out b (8 * k + j) j (by omega) (by rw [← Hn.out]; exact he) _ HT.out)
                  have Hse : Hid (findL row.toList col.toList cs = none) := Lib.hid (scanned_end HS.out (by rw [← Hn.out]; omega))
                  go_wp2_with fail
                  refine KT.out.mono ?_
                  rintro e w6 ⟨rfl, hk6⟩
                  have HB6 := Lib.hid (HB.out.trans (hk6.below (fun y hy => Nat.le_trans hb4 hy.1) HB.out.size))
                  have HF6 := Lib.hid (HF3.out.below HB6.out)
                  have hz6 : w.heap.size ≤ w6.heap.size := Nat.le_trans HB3.out.size HB6.out.size
                  clear hk6 KT HT HB
                  have khr := HF6.out.hr
                  have khc := HF6.out.hc
                  have khp := HF6.out.hp
                  have khq := HF6.out.hq
                  have kz0 := HF6.out.z0
                  have kz1 := HF6.out.z1
                  have kz2 := HF6.out.z2
                  have kz3 := HF6.out.z3
                  have kz4 := HF6.out.z4
                  have kf0 := HF6.out.f0
                  have kf1 := HF6.out.f1
                  have kf2 := HF6.out.f2
                  have kf3 := HF6.out.f3
                  have kf4 := HF6.out.f4
                  have klr := HF6.out.lr
                  have klc := HF6.out.lc
                  have klp := HF6.out.lp
                  have klq := HF6.out.lq
                  have klz := HF6.out.lz
                  have hzn : ¬ z = w6.heap.size := by omega
                  go_wp2_with (first | (with_reducible refine bodyPost_ret (v := .tuple #[.agg #[.string ⟨#[]⟩, .string ⟨#[]⟩, .int .u64 0, .bool false, .string ⟨#[]⟩], .bool false, .int .i64 0]) ?hr ?hd ?hR))
                  case hd => rfl
                  case hR => exact H2.out _ (Hse.out) (by have hbb := (HB3.out.trans (HB6.out.mono HB3.out.size)); go_grown)
                  case hr => simp [results, Try.results17, go_sem, *]
                · obtain ⟨x, hx⟩ : ∃ x, cs[8 * k + j]? = some x := ⟨_, List.getElem?_eq_getElem (by rw [← Hn.out]; omega)⟩
                  have KT := Lib.hid (take_in HBk.out b (8 * k + j) j (by omega) hx _ HT.out)
                  have Hst := Lib.hid fun ha => scanned_step HS.out hx ha
                  have Hfi := Lib.hid fun ha => scanned_find HBk.out.rise HS.out hx ha
                  have KA := Lib.hid fun W h1 h2 h3 h4 => find2_any x row col r c W h1 h2 h3 h4
                  obtain ⟨av, hav⟩ : ∃ v, v = aheadC row.toList col.toList x := ⟨_, rfl⟩
                  rw [← hav] at KA Hst Hfi
                  have Hisc : Hid (isC row.toList col.toList x = (decide (x.row.toList = row.toList) && decide (x.col.toList = col.toList))) := Lib.hid rfl
                  have HX1 : Hid (isC row.toList col.toList x = true → av = false → findL row.toList col.toList cs = some x) := Lib.hid fun h hv => by rw [Hfi.out hv, if_pos h]
                  have HX2 : Hid (isC row.toList col.toList x = false → av = false → findL row.toList col.toList cs = none) := Lib.hid fun h hv => by rw [Hfi.out hv, if_neg (by rw [h]; exact Bool.false_ne_true)]
                  have Hout : Hid (∀ w', findL row.toList col.toList cs = some x → Below w.heap.size w w' → P (.returned (.tuple #[.agg #[.string x.row, .string x.col, .int .u64 x.ver, .bool x.gone, .string x.val], .bool true, .int .i64 0])) w') := Lib.hid fun w' h hb => H1.out x w' h hb
                  obtain ⟨xr, xc, xv, xg, xl⟩ := x
                  simp only at KT KA Hisc Hout
                  clear hav hx Hfi
                  go_wp2_with fail
                  refine KT.out.mono ?_
                  rintro e w6 ⟨rfl, hT6, hk6⟩
                  have HT6 := Lib.hid hT6
                  have HB6 := Lib.hid (HB.out.trans (hk6.below (fun y hy => Nat.le_trans hb4 hy.1) HB.out.size))
                  clear hk6 hT6 KT HT HB
                  go_wp2_with fail
                  have HBA := Lib.hid (HB6.out.alloc HB6.out.size (.cells #[.string xr, .string xc, .int .u64 xv, .bool xg, .string xl] 35))
                  have HTA := Lib.hid (HT6.out.below ((Below.refl _ _).alloc (Nat.le_refl _) (.cells #[.string xr, .string xc, .int .u64 xv, .bool xg, .string xl] 35)))
                  obtain ⟨WA, hWA⟩ : ∃ W : World, W = w6.alloc (.cells #[.string xr, .string xc, .int .u64 xv, .bool xg, .string xl] 35) := ⟨_, rfl⟩
                  obtain ⟨y, hy⟩ : ∃ y, y = w6.heap.size := ⟨_, rfl⟩
                  have d0 : WA.cell? ⟨y, 0, none⟩ = some (.string xr) := by rw [hWA, hy]; go_simp
                  have d1 : WA.cell? ⟨y, 1, none⟩ = some (.string xc) := by rw [hWA, hy]; go_simp
                  have d2 : WA.cell? ⟨y, 2, none⟩ = some (.int .u64 xv) := by rw [hWA, hy]; go_simp
                  have d3 : WA.cell? ⟨y, 3, none⟩ = some (.bool xg) := by rw [hWA, hy]; go_simp
                  have d4 : WA.cell? ⟨y, 4, none⟩ = some (.string xl) := by rw [hWA, hy]; go_simp
                  have ly : y < WA.heap.size := by rw [hWA, hy, World.size_alloc]; omega
                  rw [← hWA] at HBA HTA ⊢
                  rw [← hy]
                  have HFA := Lib.hid (HF3.out.below HBA.out)
                  clear hWA hy HB6 HT6
                  refine (KA.out _ HFA.out.hr HFA.out.hc HFA.out.lr HFA.out.lc).mono ?_
                  rintro e w7 ⟨rfl, hb7⟩
                  have HB7 := Lib.hid (HBA.out.trans (hb7.mono HBA.out.size))
                  have HT7 := Lib.hid (HTA.out.below hb7)
                  have HF7 := Lib.hid (HFA.out.below hb7)
                  have e0 := (hb7.cell (p := ⟨y, 0, none⟩) ly).trans d0
                  have e1 := (hb7.cell (p := ⟨y, 1, none⟩) ly).trans d1
                  have e2 := (hb7.cell (p := ⟨y, 2, none⟩) ly).trans d2
                  have e3 := (hb7.cell (p := ⟨y, 3, none⟩) ly).trans d3
                  have e4 := (hb7.cell (p := ⟨y, 4, none⟩) ly).trans d4
                  have ly7 := Nat.lt_of_lt_of_le ly hb7.size
                  have hz7 : w.heap.size ≤ w7.heap.size := Nat.le_trans HB3.out.size HB7.out.size
                  clear HBA HTA HFA d0 d1 d2 d3 d4 ly hb7 KA
                  cases av
                  · skip
                    have khr := HF7.out.hr
                    have khc := HF7.out.hc
                    have khp := HF7.out.hp
                    have khq := HF7.out.hq
                    have kz0 := HF7.out.z0
                    have kz1 := HF7.out.z1
                    have kz2 := HF7.out.z2
                    have kz3 := HF7.out.z3
                    have kz4 := HF7.out.z4
                    have kf0 := HF7.out.f0
                    have kf1 := HF7.out.f1
                    have kf2 := HF7.out.f2
                    have kf3 := HF7.out.f3
                    have kf4 := HF7.out.f4
                    have klr := HF7.out.lr
                    have klc := HF7.out.lc
                    have klp := HF7.out.lp
                    have klq := HF7.out.lq
                    have klz := HF7.out.lz
                    by_cases hrr : xr = row
                    · subst hrr
                      by_cases hcc : xc = col
                      · subst hcc
                        have HN := Lib.hid (HX1.out (by rw [Hisc.out]; simp) rfl)
                        clear Hst HX1 HX2 Hisc HT7 HF7 klr klc klp klq
                        go_wp2_with (first | (with_reducible refine bodyPost_ret (v := .tuple #[.agg #[.string xr, .string xc, .int .u64 xv, .bool xg, .string xl], .bool true, .int .i64 0]) ?hr ?hd ?hR))
                        case hd => rfl
                        case hR => exact Hout.out _ HN.out (by have hbb := (HB3.out.trans (HB7.out.mono HB3.out.size)); go_grown)
                        case hr => simp [results, Try.results17, go_sem, *]
                      · have hcc1 := ne_of hcc
                        have HN := Lib.hid (HX2.out (by rw [Hisc.out]; simp [hcc1.2]) rfl)
                        clear Hst HX1 HX2 Hisc HT7 HF7 klr klc klp klq
                        go_wp2_with (first | (with_reducible refine bodyPost_ret (v := .tuple #[.agg #[.string ⟨#[]⟩, .string ⟨#[]⟩, .int .u64 0, .bool false, .string ⟨#[]⟩], .bool false, .int .i64 0]) ?hr ?hd ?hR))
                        case hd => rfl
                        case hR => exact H2.out _ (HN.out) (by have hbb := (HB3.out.trans (HB7.out.mono HB3.out.size)); go_grown)
                        case hr => simp [results, Try.results17, go_sem, *]
                    · have hrr1 := ne_of hrr
                      have HN := Lib.hid (HX2.out (by rw [Hisc.out]; simp [hrr1.2]) rfl)
                      clear Hst HX1 HX2 Hisc HT7 HF7 klr klc klp klq
                      go_wp2_with (first | (with_reducible refine bodyPost_ret (v := .tuple #[.agg #[.string ⟨#[]⟩, .string ⟨#[]⟩, .int .u64 0, .bool false, .string ⟨#[]⟩], .bool false, .int .i64 0]) ?hr ?hd ?hR))
                      case hd => rfl
                      case hR => exact H2.out _ (HN.out) (by have hbb := (HB3.out.trans (HB7.out.mono HB3.out.size)); go_grown)
                      case hr => simp [results, Try.results17, go_sem, *]
                  · have HN := Lib.hid (Hst.out rfl)
                    clear Hst HX1 HX2 Hisc HF7
                    go_wp2_with fail
                    exact ⟨⟨j + 1, by omega, by go_num, by omega, HT7, HN, HB7⟩, by simp [intOf]; omega⟩
              · obtain rfl : j = 8 := by omega
                go_wp2_with fail
                exact ⟨⟨k + 1, by omega, by go_num, Lib.hid (by have h := HS.out; rw [show 8 * (k + 1) = 8 * k + 8 by omega]; exact h), HB⟩, by simp [intOf]; omega⟩
          · have Hse : Hid (findL row.toList col.toList cs = none) := Lib.hid (scanned_end HS.out (by rw [← Hn.out]; omega))
            have hz6 : w.heap.size ≤ wr.heap.size := Nat.le_trans HB3.out.size HB.out.size
            have khr := HFr.out.hr
            have khc := HFr.out.hc
            have khp := HFr.out.hp
            have khq := HFr.out.hq
            have kz0 := HFr.out.z0
            have kz1 := HFr.out.z1
            have kz2 := HFr.out.z2
            have kz3 := HFr.out.z3
            have kz4 := HFr.out.z4
            have kf0 := HFr.out.f0
            have kf1 := HFr.out.f1
            have kf2 := HFr.out.f2
            have kf3 := HFr.out.f3
            have kf4 := HFr.out.f4
            have klr := HFr.out.lr
            have klc := HFr.out.lc
            have klp := HFr.out.lp
            have klq := HFr.out.lq
            have klz := HFr.out.lz
            clear hqr HS
            go_wp2_with (first | (with_reducible refine bodyPost_ret (v := .tuple #[.agg #[.string ⟨#[]⟩, .string ⟨#[]⟩, .int .u64 0, .bool false, .string ⟨#[]⟩], .bool false, .int .i64 0]) ?hr ?hd ?hR))
            case hd => rfl
            case hR => exact H2.out _ (Hse.out) (by have hbb := (HB3.out.trans (HB.out.mono HB3.out.size)); go_grown)
            case hr => simp [results, Try.results17, go_sem, *]
      · skip
        have hbr1 : ¬ (b : Int) - (a : Int) < 2 := by omega
        have hbr2 : decide ((b : Int) - (a : Int) < 2) = false := by simp; omega
        obtain ⟨h, hh⟩ : ∃ h, h = (a + b) / 2 := ⟨_, rfl⟩
        have hd1 : (((a : Int) + (b : Int)).tdiv 2) = (h : Int) := by rw [Int.tdiv_eq_ediv_of_nonneg (by omega)]; omega
        have hd2 : (((a : Int) + (b : Int)) / 2) = (h : Int) := by omega
        have ha : a < h := by omega
        have hb : h < b := by omega
        clear hh
        obtain ⟨x, hx⟩ : ∃ x, cs[8 * h]? = some x := ⟨_, List.getElem?_eq_getElem (by rw [← Hn.out]; omega)⟩
        have HFr := Lib.hid (HF3.out.below HB.out)
        go_wp2_with fail
        refine (from_in HBk.out h p q (by rw [← Hn.out]; omega) _ (by rw [← Hbd.out]; exact HFr.out.hp) (by rw [← Hpl.out]; exact HFr.out.hq) HFr.out.lp HFr.out.lq).mono ?_
        rintro e w4 ⟨rfl, hb4⟩
        have Hb4 := Lib.hid hb4
        clear hb4
        go_wp2_with fail
        refine (taker_any (ofL (bodyFrom cs (8 * h))) w4).mono ?_
        rintro e w5 ⟨rfl, hT, hb5⟩
        rw [ofL_toList] at hT
        have HT5 : Hid (TK w4.heap.size 0 (rowB cs (8 * h) 0) (bodyFrom cs (8 * h)) w5) := Lib.hid hT
        have Hb5 := Lib.hid (Hb4.out.trans (hb5.mono Hb4.out.size))
        have hs4 := Hb4.out.size
        clear hT hb5 Hb4
        have KT := Lib.hid (take_in HBk.out w4.heap.size (8 * h) 0 (by omega) hx _ HT5.out)
        have Hst := Lib.hid fun ha => scanned_of (row := row.toList) (col := col.toList) HBk.out.rise hx ha
        have KA := Lib.hid fun W h1 h2 h3 h4 => find2_any x row col r c W h1 h2 h3 h4
        obtain ⟨av, hav⟩ : ∃ v, v = aheadC row.toList col.toList x := ⟨_, rfl⟩
        rw [← hav] at KA Hst
        obtain ⟨xr, xc, xv, xg, xl⟩ := x
        simp only at KT KA
        have HB5 := Lib.hid (HB.out.trans (Hb5.out.mono HB.out.size))
        have hb4 : w3.heap.size ≤ w4.heap.size := Nat.le_trans HB.out.size hs4
        clear hav hx HB HFr Hb5 hs4
        go_wp2_with fail
        refine KT.out.mono ?_
        rintro e w6 ⟨rfl, hT6, hk6⟩
        have HB6 := Lib.hid (HB5.out.trans (hk6.below (fun y hy => Nat.le_trans hb4 hy.1) HB5.out.size))
        clear hk6 hT6 KT HT5 HB5
        go_wp2_with fail
        have HBA := Lib.hid (HB6.out.alloc HB6.out.size (.cells #[.string xr, .string xc, .int .u64 xv, .bool xg, .string xl] 35))
        have HFA := Lib.hid (HF3.out.below HBA.out)
        refine (KA.out _ HFA.out.hr HFA.out.hc HFA.out.lr HFA.out.lc).mono ?_
        rintro e w7 ⟨rfl, hb7⟩
        have HB7 := Lib.hid (HBA.out.trans (hb7.mono HBA.out.size))
        clear HBA HFA hb7 KA
        cases av
        · go_wp2_with fail
          exact ⟨⟨a, h, m + 1, rfl, rfl, by go_num, by omega, by omega, by omega, HS, HB7⟩, by simp [intOf]; omega⟩
        · have HN := Lib.hid (Hst.out rfl)
          go_wp2_with fail
          exact ⟨⟨h, b, m + 1, rfl, rfl, by go_num, by omega, by omega, by omega, HN, HB7⟩, by simp [intOf]; omega⟩
    · have hbr3 : decide ((m : Int) < 2 * (M : Int)) = false := by simp; omega
      have hbr4 : decide (m < 2 * M) = false := by simp; omega
      go_wp2_with fail
      have HFr := Lib.hid (HF3.out.below HB.out)
      have hqr := HFr.out.hq
      go_wp2_with fail
      go_loopw [21] (fun i wr => ∃ k : Nat, k ≤ M ∧ i = .int .i64 k ∧ Hid (Scanned row.toList col.toList cs (8 * k)) ∧ Hid (Below w3.heap.size w3 wr)) (fun i _ => M - (intOf i).toNat)
      case atStart => exact ⟨a, by omega, rfl, HS, HB⟩
      case round =>
        clear HFr hqr HS HB
        obtain ⟨k, hk, rfl, HS, HB⟩ := hrel
        have HFr := Lib.hid (HF3.out.below HB.out)
        have hqr := HFr.out.hq
        by_cases hlt : k < M
        · skip
          go_wp2_with fail
          refine (from_in HBk.out k p q (by rw [← Hn.out]; omega) _ (by rw [← Hbd.out]; exact HFr.out.hp) (by rw [← Hpl.out]; exact HFr.out.hq) HFr.out.lp HFr.out.lq).mono ?_
          rintro e w4 ⟨rfl, hb4⟩
          have Hb4 := Lib.hid hb4
          clear hb4
          go_wp2_with fail
          refine (taker_any (ofL (bodyFrom cs (8 * k))) w4).mono ?_
          rintro e w5 ⟨rfl, hT, hb5⟩
          rw [ofL_toList] at hT
          have HT5 : Hid (TK w4.heap.size 0 (rowB cs (8 * k) 0) (bodyFrom cs (8 * k)) w5) := Lib.hid hT
          have Hb5 := Lib.hid (Hb4.out.trans (hb5.mono Hb4.out.size))
          have hs4 := Hb4.out.size
          clear hT hb5 Hb4
          clear hqr
          have HB5 := Lib.hid (HB.out.trans (Hb5.out.mono HB.out.size))
          have hb4 : w3.heap.size ≤ w4.heap.size := Nat.le_trans HB.out.size hs4
          obtain ⟨b, hb⟩ : ∃ b, b = w4.heap.size := ⟨_, rfl⟩
          rw [← hb] at HT5 hb4 ⊢
          clear HB HFr Hb5 hs4 hb
          go_wp2_with fail
          go_loopw [83] (fun i wr => ∃ j : Nat, j ≤ 8 ∧ i = .int .i64 j ∧ 8 * k + j ≤ n ∧ Hid (TK b j (rowB cs (8 * k + j) j) (bodyFrom cs (8 * k + j)) wr) ∧ Hid (Scanned row.toList col.toList cs (8 * k + j)) ∧ Hid (Below w3.heap.size w3 wr)) (fun i _ => 8 - (intOf i).toNat)
          case atStart => exact ⟨0, by omega, rfl, by omega, HT5, HS, HB5⟩
          case round =>
            clear HS HB5 HT5
            obtain ⟨j, hj, rfl, hjn, HT, HS, HB⟩ := hrel
            by_cases hj8 : j < 8
            · skip
              have hj8i : (j : Int) < 8 := by omega
              have hj8d : decide ((j : Int) < 8) = true := by simp; omega
              by_cases he : 8 * k + j = n
              · have KT := Lib.hid (take_out HBk.out b (8 * k + j) j (by omega) (by rw [← Hn.out]; exact he) _ HT.out)
                have Hse : Hid (findL row.toList col.toList cs = none) := Lib.hid (scanned_end HS.out (by rw [← Hn.out]; omega))
                go_wp2_with fail
                refine KT.out.mono ?_
                rintro e w6 ⟨rfl, hk6⟩
                have HB6 := Lib.hid (HB.out.trans (hk6.below (fun y hy => Nat.le_trans hb4 hy.1) HB.out.size))
                have HF6 := Lib.hid (HF3.out.below HB6.out)
                have hz6 : w.heap.size ≤ w6.heap.size := Nat.le_trans HB3.out.size HB6.out.size
                clear hk6 KT HT HB
                have khr := HF6.out.hr
                have khc := HF6.out.hc
                have khp := HF6.out.hp
                have khq := HF6.out.hq
                have kz0 := HF6.out.z0
                have kz1 := HF6.out.z1
                have kz2 := HF6.out.z2
                have kz3 := HF6.out.z3
                have kz4 := HF6.out.z4
                have kf0 := HF6.out.f0
                have kf1 := HF6.out.f1
                have kf2 := HF6.out.f2
                have kf3 := HF6.out.f3
                have kf4 := HF6.out.f4
                have klr := HF6.out.lr
                have klc := HF6.out.lc
                have klp := HF6.out.lp
                have klq := HF6.out.lq
                have klz := HF6.out.lz
                have hzn : ¬ z = w6.heap.size := by omega
                go_wp2_with (first | (with_reducible refine bodyPost_ret (v := .tuple #[.agg #[.string ⟨#[]⟩, .string ⟨#[]⟩, .int .u64 0, .bool false, .string ⟨#[]⟩], .bool false, .int .i64 0]) ?hr ?hd ?hR))
                case hd => rfl
                case hR => exact H2.out _ (Hse.out) (by have hbb := (HB3.out.trans (HB6.out.mono HB3.out.size)); go_grown)
                case hr => simp [results, Try.results17, go_sem, *]
              · obtain ⟨x, hx⟩ : ∃ x, cs[8 * k + j]? = some x := ⟨_, List.getElem?_eq_getElem (by rw [← Hn.out]; omega)⟩
                have KT := Lib.hid (take_in HBk.out b (8 * k + j) j (by omega) hx _ HT.out)
                have Hst := Lib.hid fun ha => scanned_step HS.out hx ha
                have Hfi := Lib.hid fun ha => scanned_find HBk.out.rise HS.out hx ha
                have KA := Lib.hid fun W h1 h2 h3 h4 => find2_any x row col r c W h1 h2 h3 h4
                obtain ⟨av, hav⟩ : ∃ v, v = aheadC row.toList col.toList x := ⟨_, rfl⟩
                rw [← hav] at KA Hst Hfi
                have Hisc : Hid (isC row.toList col.toList x = (decide (x.row.toList = row.toList) && decide (x.col.toList = col.toList))) := Lib.hid rfl
                have HX1 : Hid (isC row.toList col.toList x = true → av = false → findL row.toList col.toList cs = some x) := Lib.hid fun h hv => by rw [Hfi.out hv, if_pos h]
                have HX2 : Hid (isC row.toList col.toList x = false → av = false → findL row.toList col.toList cs = none) := Lib.hid fun h hv => by rw [Hfi.out hv, if_neg (by rw [h]; exact Bool.false_ne_true)]
                have Hout : Hid (∀ w', findL row.toList col.toList cs = some x → Below w.heap.size w w' → P (.returned (.tuple #[.agg #[.string x.row, .string x.col, .int .u64 x.ver, .bool x.gone, .string x.val], .bool true, .int .i64 0])) w') := Lib.hid fun w' h hb => H1.out x w' h hb
                obtain ⟨xr, xc, xv, xg, xl⟩ := x
                simp only at KT KA Hisc Hout
                clear hav hx Hfi
                go_wp2_with fail
                refine KT.out.mono ?_
                rintro e w6 ⟨rfl, hT6, hk6⟩
                have HT6 := Lib.hid hT6
                have HB6 := Lib.hid (HB.out.trans (hk6.below (fun y hy => Nat.le_trans hb4 hy.1) HB.out.size))
                clear hk6 hT6 KT HT HB
                go_wp2_with fail
                have HBA := Lib.hid (HB6.out.alloc HB6.out.size (.cells #[.string xr, .string xc, .int .u64 xv, .bool xg, .string xl] 35))
                have HTA := Lib.hid (HT6.out.below ((Below.refl _ _).alloc (Nat.le_refl _) (.cells #[.string xr, .string xc, .int .u64 xv, .bool xg, .string xl] 35)))
                obtain ⟨WA, hWA⟩ : ∃ W : World, W = w6.alloc (.cells #[.string xr, .string xc, .int .u64 xv, .bool xg, .string xl] 35) := ⟨_, rfl⟩
                obtain ⟨y, hy⟩ : ∃ y, y = w6.heap.size := ⟨_, rfl⟩
                have d0 : WA.cell? ⟨y, 0, none⟩ = some (.string xr) := by rw [hWA, hy]; go_simp
                have d1 : WA.cell? ⟨y, 1, none⟩ = some (.string xc) := by rw [hWA, hy]; go_simp
                have d2 : WA.cell? ⟨y, 2, none⟩ = some (.int .u64 xv) := by rw [hWA, hy]; go_simp
                have d3 : WA.cell? ⟨y, 3, none⟩ = some (.bool xg) := by rw [hWA, hy]; go_simp
                have d4 : WA.cell? ⟨y, 4, none⟩ = some (.string xl) := by rw [hWA, hy]; go_simp
                have ly : y < WA.heap.size := by rw [hWA, hy, World.size_alloc]; omega
                rw [← hWA] at HBA HTA ⊢
                rw [← hy]
                have HFA := Lib.hid (HF3.out.below HBA.out)
                clear hWA hy HB6 HT6
                refine (KA.out _ HFA.out.hr HFA.out.hc HFA.out.lr HFA.out.lc).mono ?_
                rintro e w7 ⟨rfl, hb7⟩
                have HB7 := Lib.hid (HBA.out.trans (hb7.mono HBA.out.size))
                have HT7 := Lib.hid (HTA.out.below hb7)
                have HF7 := Lib.hid (HFA.out.below hb7)
                have e0 := (hb7.cell (p := ⟨y, 0, none⟩) ly).trans d0
                have e1 := (hb7.cell (p := ⟨y, 1, none⟩) ly).trans d1
                have e2 := (hb7.cell (p := ⟨y, 2, none⟩) ly).trans d2
                have e3 := (hb7.cell (p := ⟨y, 3, none⟩) ly).trans d3
                have e4 := (hb7.cell (p := ⟨y, 4, none⟩) ly).trans d4
                have ly7 := Nat.lt_of_lt_of_le ly hb7.size
                have hz7 : w.heap.size ≤ w7.heap.size := Nat.le_trans HB3.out.size HB7.out.size
                clear HBA HTA HFA d0 d1 d2 d3 d4 ly hb7 KA
                cases av
                · skip
                  have khr := HF7.out.hr
                  have khc := HF7.out.hc
                  have khp := HF7.out.hp
                  have khq := HF7.out.hq
                  have kz0 := HF7.out.z0
                  have kz1 := HF7.out.z1
                  have kz2 := HF7.out.z2
                  have kz3 := HF7.out.z3
                  have kz4 := HF7.out.z4
                  have kf0 := HF7.out.f0
                  have kf1 := HF7.out.f1
                  have kf2 := HF7.out.f2
                  have kf3 := HF7.out.f3
                  have kf4 := HF7.out.f4
                  have klr := HF7.out.lr
                  have klc := HF7.out.lc
                  have klp := HF7.out.lp
                  have klq := HF7.out.lq
                  have klz := HF7.out.lz
                  by_cases hrr : xr = row
                  · subst hrr
                    by_cases hcc : xc = col
                    · subst hcc
                      have HN := Lib.hid (HX1.out (by rw [Hisc.out]; simp) rfl)
                      clear Hst HX1 HX2 Hisc HT7 HF7 klr klc klp klq
                      go_wp2_with (first | (with_reducible refine bodyPost_ret (v := .tuple #[.agg #[.string xr, .string xc, .int .u64 xv, .bool xg, .string xl], .bool true, .int .i64 0]) ?hr ?hd ?hR))
                      case hd => rfl
                      case hR => exact Hout.out _ HN.out (by have hbb := (HB3.out.trans (HB7.out.mono HB3.out.size)); go_grown)
                      case hr => simp [results, Try.results17, go_sem, *]
                    · have hcc1 := ne_of hcc
                      have HN := Lib.hid (HX2.out (by rw [Hisc.out]; simp [hcc1.2]) rfl)
                      clear Hst HX1 HX2 Hisc HT7 HF7 klr klc klp klq
                      go_wp2_with (first | (with_reducible refine bodyPost_ret (v := .tuple #[.agg #[.string ⟨#[]⟩, .string ⟨#[]⟩, .int .u64 0, .bool false, .string ⟨#[]⟩], .bool false, .int .i64 0]) ?hr ?hd ?hR))
                      case hd => rfl
                      case hR => exact H2.out _ (HN.out) (by have hbb := (HB3.out.trans (HB7.out.mono HB3.out.size)); go_grown)
                      case hr => simp [results, Try.results17, go_sem, *]
                  · have hrr1 := ne_of hrr
                    have HN := Lib.hid (HX2.out (by rw [Hisc.out]; simp [hrr1.2]) rfl)
                    clear Hst HX1 HX2 Hisc HT7 HF7 klr klc klp klq
                    go_wp2_with (first | (with_reducible refine bodyPost_ret (v := .tuple #[.agg #[.string ⟨#[]⟩, .string ⟨#[]⟩, .int .u64 0, .bool false, .string ⟨#[]⟩], .bool false, .int .i64 0]) ?hr ?hd ?hR))
                    case hd => rfl
                    case hR => exact H2.out _ (HN.out) (by have hbb := (HB3.out.trans (HB7.out.mono HB3.out.size)); go_grown)
                    case hr => simp [results, Try.results17, go_sem, *]
                · have HN := Lib.hid (Hst.out rfl)
                  clear Hst HX1 HX2 Hisc HF7
                  go_wp2_with fail
                  exact ⟨⟨j + 1, by omega, by go_num, by omega, HT7, HN, HB7⟩, by simp [intOf]; omega⟩
            · obtain rfl : j = 8 := by omega
              go_wp2_with fail
              exact ⟨⟨k + 1, by omega, by go_num, Lib.hid (by have h := HS.out; rw [show 8 * (k + 1) = 8 * k + 8 by omega]; exact h), HB⟩, by simp [intOf]; omega⟩
        · have Hse : Hid (findL row.toList col.toList cs = none) := Lib.hid (scanned_end HS.out (by rw [← Hn.out]; omega))
          have hz6 : w.heap.size ≤ wr.heap.size := Nat.le_trans HB3.out.size HB.out.size
          have khr := HFr.out.hr
          have khc := HFr.out.hc
          have khp := HFr.out.hp
          have khq := HFr.out.hq
          have kz0 := HFr.out.z0
          have kz1 := HFr.out.z1
          have kz2 := HFr.out.z2
          have kz3 := HFr.out.z3
          have kz4 := HFr.out.z4
          have kf0 := HFr.out.f0
          have kf1 := HFr.out.f1
          have kf2 := HFr.out.f2
          have kf3 := HFr.out.f3
          have kf4 := HFr.out.f4
          have klr := HFr.out.lr
          have klc := HFr.out.lc
          have klp := HFr.out.lp
          have klq := HFr.out.lq
          have klz := HFr.out.lz
          clear hqr HS
          go_wp2_with (first | (with_reducible refine bodyPost_ret (v := .tuple #[.agg #[.string ⟨#[]⟩, .string ⟨#[]⟩, .int .u64 0, .bool false, .string ⟨#[]⟩], .bool false, .int .i64 0]) ?hr ?hd ?hR))
          case hd => rfl
          case hR => exact H2.out _ (Hse.out) (by have hbb := (HB3.out.trans (HB.out.mono HB3.out.size)); go_grown)
          case hr => simp [results, Try.results17, go_sem, *]
end Go.Proofs.Ytfkghpomcaonfaa
