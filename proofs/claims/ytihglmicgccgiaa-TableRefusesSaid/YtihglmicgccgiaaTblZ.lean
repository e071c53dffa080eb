/-
  The walk of acreagelaw11.of: cells by small numbers, in order.
-/
import Derived.Test.YtihglmicgccgiaaTblY
import Derived.Test.YtihglmicgccgiaaRReadW
namespace Go.Proofs.Ytihglmicgccgiaa
open Go.RowKit Go.Shelf

structure SpotA where
  row : UInt8
  col : UInt8
  ver : UInt8
  gone : Bool
  val : ByteArray
def spotE (x : SpotA) : List Value := [.int .u8 x.row.toNat, .int .u8 x.col.toNat, .int .u8 x.ver.toNat, .bool x.gone, .string x.val]
theorem spotE_elems (ss : List SpotA) : Elems 5 (ss.map spotE) := fun e he => by
  obtain ⟨d, _, rfl⟩ := List.mem_map.1 he
  exact ⟨rfl, fun u hu => by simp [spotE] at hu; rcases hu with rfl | rfl | rfl | rfl | rfl <;> rfl⟩
def Spots (w : World) (ao : Option Addr) (n cap : Nat) (ss : List SpotA) : Prop := Arr w 5 ao n cap (ss.map spotE)
theorem Spots.len {w : World} {ao : Option Addr} {n cap : Nat} {ss : List SpotA} (h : Spots w ao n cap ss) : ss.length = n := by have := Arr.len h; rwa [List.length_map] at this
structure SpotAt (w : World) (b o : Nat) (x : SpotA) : Prop where
  c0 : w.cell? ⟨b, o, none⟩ = some (.int .u8 x.row.toNat)
  c1 : w.cell? ⟨b, o + 1, none⟩ = some (.int .u8 x.col.toNat)
  c2 : w.cell? ⟨b, o + 2, none⟩ = some (.int .u8 x.ver.toNat)
  c3 : w.cell? ⟨b, o + 3, none⟩ = some (.bool x.gone)
  c4 : w.cell? ⟨b, o + 4, none⟩ = some (.string x.val)
theorem Spots.at_ {w : World} {ao : Option Addr} {n cap : Nat} {ss : List SpotA} (h : Spots w ao n cap ss) {i : Nat} {x : SpotA} (hx : ss[i]? = some x) : ∃ b off, ao = some ⟨b, off, none⟩ ∧ b < w.heap.size ∧ SpotAt w b (off + i * 5) x := by
  obtain ⟨b, off, e, hb, hc⟩ := Arr.at_ h (i := i) (e := spotE x) (by rw [List.getElem?_map, hx]; rfl)
  exact ⟨b, off, e, hb, ⟨hc 0 _ rfl, hc 1 _ rfl, hc 2 _ rfl, hc 3 _ rfl, hc 4 _ rfl⟩⟩
/-- a cell of small numbers -/
def ofC (x : SpotA) : CellA := ⟨⟨#[114]⟩ ++ ofL [UInt8.ofNat (x.row.toNat % 9), UInt8.ofNat (x.row.toNat % 5)], ⟨#[99]⟩ ++ ofL [UInt8.ofNat (x.col.toNat % 4)], 1 + (x.ver.toNat : Int) % 6, x.gone, if x.gone then ⟨#[]⟩ else x.val.extract 0 (min x.val.size 100)⟩
def ofT (ss : List SpotA) : List CellA := sortL ((ss.take 60).map ofC)
theorem ofC_sizes (x : SpotA) : (ofC x).row.size = 3 ∧ (ofC x).col.size = 2 ∧ (ofC x).val.size ≤ 100 := by
  refine ⟨?_, ?_, ?_⟩
  · simp only [ofC, ByteArray.size_append, ofL_size]
    rfl
  · simp only [ofC, ByteArray.size_append, ofL_size]
    rfl
  · simp only [ofC]
    cases x.gone
    · simp only [Bool.false_eq_true, if_false, ByteArray.size_extract]; omega
    · simp only [if_true]; decide
theorem ofC_may (x : SpotA) : cellL (ofC x) = true := by
  obtain ⟨h1, h2, h3⟩ := ofC_sizes x
  have e1 : (ofC x).row.toList.length = 3 := by rw [size_list]; exact h1
  have e2 : (ofC x).col.toList.length = 2 := by rw [size_list]; exact h2
  have e3 : (ofC x).val.toList.length ≤ 65536 := by rw [size_list]; omega
  have e4 : (ofC x).col.toList ≠ [] := fun e => by rw [e] at e2; cases e2
  have e5 : 1 ≤ (ofC x).ver ∧ (ofC x).ver ≤ 1099511627776 := by simp only [ofC]; omega
  have e6 : (ofC x).gone = true → (ofC x).val.toList = [] := by
    simp only [ofC]
    intro h
    rw [h, if_pos rfl, tlT]
  unfold cellL storedL
  simp only [Bool.and_eq_true, decide_eq_true_eq, Bool.or_eq_true, Bool.not_eq_true', List.isEmpty_eq_false_iff]
  refine ⟨⟨⟨⟨⟨⟨by omega, by omega⟩, .inl e4⟩, e5.1⟩, e5.2⟩, e3⟩, ?_⟩
  cases hg : (ofC x).gone
  · exact .inl rfl
  · exact .inr (by rw [e6 hg]; rfl)
theorem ofT_mem {ss : List SpotA} {c : CellA} (h : c ∈ ofT ss) : ∃ x, c = ofC x := by
  obtain ⟨x, _, hx⟩ := List.mem_map.1 (sortL_sub _ c h)
  exact ⟨x, hx.symm⟩
theorem ofT_len (ss : List SpotA) : (ofT ss).length ≤ 60 := by
  have := sortL_len ((ss.take 60).map ofC)
  unfold ofT
  rw [List.length_map, List.length_take] at this
  omega

set_option maxRecDepth 100000 in
set_option maxHeartbeats 4000000 in
theorem of_any (ao : Option Addr) (n cap : Nat) (ss : List SpotA) (w : World) (h : Spots w ao n cap ss) (hv : ∀ x ∈ ss, x.val.size ≤ maxLen) :
    Calls Try.prog 14 #[.slice ao n cap] w fun e w' => ∃ v, e = .returned v ∧ Own w' w.heap.size v (ofT ss) ∧ Below w.heap.size w w' := by
  obtain ⟨i0, hi, iz0, iz1, iz2⟩ := info_parts Try.info_cell
  have hl := h.len
  have hc1 := Arr.fits h
  have hc2 := Arr.max h
  unfold maxLen at hc2
  have Hi := Lib.hid hi
  have Hl := Lib.hid hl
  have H := Lib.hid h
  have Hv := Lib.hid hv
  clear h hl hv hi
  go_enter Try.func14, Try.ntmps14
  go_wp2_with fail
  go_loopw [3, 4] (fun v i wr => ∃ k : Nat, k ≤ n ∧ k ≤ 60 ∧ i = .int .i64 k ∧ Hid (Own wr w.heap.size v ((ss.take k).map ofC)) ∧ Hid (Below w.heap.size w wr)) (fun _ i _ => 60 - (intOf i).toNat)
  case atStart => exact ⟨0, by omega, by omega, rfl, Lib.hid (Row.nil _ _ _ _), Lib.hid (Below.refl _ _)⟩
  case round =>
    obtain ⟨v3, rfl⟩ : ∃ v, v = u3 := ⟨_, rfl⟩
    obtain ⟨k, hk, hk2, rfl, hO, hB⟩ := hrel
    have hzr := hB.out.size
    by_cases hlt : k < n ∧ k < 60
    · obtain ⟨hlt, hlt2⟩ := hlt
      obtain ⟨x, hx⟩ : ∃ x, ss[k]? = some x := ⟨_, List.getElem?_eq_getElem (by rw [Hl.out]; omega)⟩
      obtain ⟨bx, ox, rfl, hbx, ⟨x0, x1, x2, x3, x4⟩⟩ := H.out.at_ hx
      obtain ⟨k0, k0f⟩ := keep_below hB.out bx hbx
      have hvx := Hv.out x (List.mem_of_getElem? hx)
      unfold maxLen at hvx
      have hst : (ss.take (k + 1)).map ofC = (ss.take k).map ofC ++ [ofC x] := by rw [List.take_add_one, hx]; simp
      have Hst := Lib.hid hst
      obtain ⟨xr, xc, xv, xg, xl⟩ := x
      simp only at x0 x1 x2 x3 x4 hvx
      have r1 := xr.toNat_lt
      have r2 := xc.toNat_lt
      have r3 := xv.toNat_lt
      obtain ⟨u2, hu2⟩ : ∃ u, u = ofL [UInt8.ofNat (xr.toNat % 9), UInt8.ofNat (xr.toNat % 5)] := ⟨_, rfl⟩
      obtain ⟨u1, hu1⟩ : ∃ u, u = ofL [UInt8.ofNat (xc.toNat % 4)] := ⟨_, rfl⟩
      have hu2s : u2.size = 2 := by rw [hu2, ofL_size]; rfl
      have hu1s : u1.size = 1 := by rw [hu1, ofL_size]; rfl
      have cv2 := conv_two ((xr.toNat : Int) % 9) ((xr.toNat : Int) % 5) (by omega) (by omega) (by omega) (by omega) (wr.alloc (.cells #[.int .u8 xr.toNat, .int .u8 xc.toNat, .int .u8 xv.toNat, .bool xg, .string xl] 47))
      rw [World.size_alloc, show ((xr.toNat : Int) % 9).toNat = xr.toNat % 9 by omega, show ((xr.toNat : Int) % 5).toNat = xr.toNat % 5 by omega, ← hu2] at cv2
      have cv1 := conv_one ((xc.toNat : Int) % 4) (by omega) (by omega) ((wr.alloc (.cells #[.int .u8 xr.toNat, .int .u8 xc.toNat, .int .u8 xv.toNat, .bool xg, .string xl] 47)).alloc (.cells #[.int .u8 ((xr.toNat : Int) % 9), .int .u8 ((xr.toNat : Int) % 5)] 5))
      rw [World.size_alloc, World.size_alloc, show ((xc.toNat : Int) % 4).toNat = xc.toNat % 4 by omega, ← hu1] at cv1
      have Hu2 := Lib.hid hu2
      have Hu1 := Lib.hid hu1
      clear hx hst hu2 hu1
      have hlen : ((ss.take k).map ofC).length ≤ 60 := by rw [List.length_map, List.length_take]; omega
      cases xg
      · by_cases h100 : 100 < xl.size
        · have hcell : ofC ⟨xr, xc, xv, false, xl⟩ = ⟨⟨#[114]⟩ ++ u2, ⟨#[99]⟩ ++ u1, 1 + (xv.toNat : Int) % 6, false, (xl.extract 0 100)⟩ := by
            rw [ofC, ← Hu2.out, ← Hu1.out]
            simp [show min xl.size 100 = 100 by omega]
          have HC := Lib.hid hcell
          clear hcell
          go_upto_region 9 with fail
          obtain ⟨W4, hW4⟩ : ∃ V : World, V = (((wr.alloc (.cells #[.int .u8 xr.toNat, .int .u8 xc.toNat, .int .u8 xv.toNat, .bool false, .string xl] 47)).alloc (.cells #[.int .u8 ((xr.toNat : Int) % 9), .int .u8 ((xr.toNat : Int) % 5)] 5)).alloc (.cells #[.int .u8 ((xc.toNat : Int) % 4)] 5)).alloc (.cells #[.string (⟨#[114]⟩ ++ u2), .string (⟨#[99]⟩ ++ u1), .int .u64 (1 + (xv.toNat : Int) % 6), .bool false, .string (xl.extract 0 100)] 31) := ⟨_, rfl⟩
          have hBW : Below wr.heap.size wr W4 := by rw [hW4]; go_grown
          have hO4 := Own.below hO.out hBW
          have hB4 := hB.out.trans (hBW.mono hzr)
          obtain ⟨X, hX⟩ : ∃ X, X = wr.heap.size + 1 + 1 + 1 := ⟨_, rfl⟩
          have y0 : W4.cell? ⟨X, 0, none⟩ = some (.string (⟨#[114]⟩ ++ u2)) := by rw [hW4, hX]; go_simp
          have y1 : W4.cell? ⟨X, 1, none⟩ = some (.string (⟨#[99]⟩ ++ u1)) := by rw [hW4, hX]; go_simp
          have y2 : W4.cell? ⟨X, 2, none⟩ = some (.int .u64 (1 + (xv.toNat : Int) % 6)) := by rw [hW4, hX]; go_simp
          have y3 : W4.cell? ⟨X, 3, none⟩ = some (.bool false) := by rw [hW4, hX]; go_simp
          have y4 : W4.cell? ⟨X, 4, none⟩ = some (.string (xl.extract 0 100)) := by rw [hW4, hX]; go_simp
          rw [← hW4, ← hX]
          have HO4 := Lib.hid hO4
          have HB4 := Lib.hid hB4
          have hz4 := hB4.size
          have h1c : ∀ u ∈ cellE ⟨⟨#[114]⟩ ++ u2, ⟨#[99]⟩ ++ u1, 1 + (xv.toNat : Int) % 6, false, (xl.extract 0 100)⟩, u.oneCell' = true := fun u hu => (cellE_elems [⟨⟨#[114]⟩ ++ u2, ⟨#[99]⟩ ++ u1, 1 + (xv.toNat : Int) % 6, false, (xl.extract 0 100)⟩] _ (List.mem_singleton.2 rfl)).2 u hu
          have hmx : ((ss.take k).map ofC).length + 1 ≤ maxLen := by unfold maxLen; omega
          have hby : (((ss.take k).map ofC).length + 1) * 64 ≤ 140737488355328 := by omega
          clear hO hB hW4 hX hBW hO4 hB4 cv1 cv2 k0 k0f
          go_wp2_with (at_builtin; refine wpList_append_fresh W4 rfl _ _ 32 rfl w.heap.size 31 31 i0 _ 5 64 Try.underlying32 Hi.out iz0 iz1 iz2 rfl (by decide) v3 _ _ rfl HO4.out 1 1 (cellE ⟨⟨#[114]⟩ ++ u2, ⟨#[99]⟩ ++ u1, 1 + (xv.toNat : Int) % 6, false, (xl.extract 0 100)⟩) rfl rfl h1c hmx hby hz4 ?_; intro v5 w5 hr5 hb5 hg5; have HR5 := Lib.hid hr5; have HB5 := Lib.hid (HB4.out.trans hb5); clear hr5 hb5 hg5)
          have HN : Hid (Own w5 w.heap.size v5 ((ss.take (k + 1)).map ofC)) := Lib.hid (by
            rw [Hst.out, HC.out]
            unfold Own
            rw [List.length_append, List.map_append, List.flatten_append]
            simpa using HR5.out)
          exact ⟨⟨k + 1, by omega, by omega, by go_num, HN, HB5⟩, by simp [intOf]; omega⟩
        · have hcell : ofC ⟨xr, xc, xv, false, xl⟩ = ⟨⟨#[114]⟩ ++ u2, ⟨#[99]⟩ ++ u1, 1 + (xv.toNat : Int) % 6, false, xl⟩ := by
            rw [ofC, ← Hu2.out, ← Hu1.out]
            simp [show min xl.size 100 = xl.size by omega]
          have HC := Lib.hid hcell
          clear hcell
          go_upto_region 9 with fail
          obtain ⟨W4, hW4⟩ : ∃ V : World, V = (((wr.alloc (.cells #[.int .u8 xr.toNat, .int .u8 xc.toNat, .int .u8 xv.toNat, .bool false, .string xl] 47)).alloc (.cells #[.int .u8 ((xr.toNat : Int) % 9), .int .u8 ((xr.toNat : Int) % 5)] 5)).alloc (.cells #[.int .u8 ((xc.toNat : Int) % 4)] 5)).alloc (.cells #[.string (⟨#[114]⟩ ++ u2), .string (⟨#[99]⟩ ++ u1), .int .u64 (1 + (xv.toNat : Int) % 6), .bool false, .string xl] 31) := ⟨_, rfl⟩
          have hBW : Below wr.heap.size wr W4 := by rw [hW4]; go_grown
          have hO4 := Own.below hO.out hBW
          have hB4 := hB.out.trans (hBW.mono hzr)
          obtain ⟨X, hX⟩ : ∃ X, X = wr.heap.size + 1 + 1 + 1 := ⟨_, rfl⟩
          have y0 : W4.cell? ⟨X, 0, none⟩ = some (.string (⟨#[114]⟩ ++ u2)) := by rw [hW4, hX]; go_simp
          have y1 : W4.cell? ⟨X, 1, none⟩ = some (.string (⟨#[99]⟩ ++ u1)) := by rw [hW4, hX]; go_simp
          have y2 : W4.cell? ⟨X, 2, none⟩ = some (.int .u64 (1 + (xv.toNat : Int) % 6)) := by rw [hW4, hX]; go_simp
          have y3 : W4.cell? ⟨X, 3, none⟩ = some (.bool false) := by rw [hW4, hX]; go_simp
          have y4 : W4.cell? ⟨X, 4, none⟩ = some (.string xl) := by rw [hW4, hX]; go_simp
          rw [← hW4, ← hX]
          have HO4 := Lib.hid hO4
          have HB4 := Lib.hid hB4
          have hz4 := hB4.size
          have h1c : ∀ u ∈ cellE ⟨⟨#[114]⟩ ++ u2, ⟨#[99]⟩ ++ u1, 1 + (xv.toNat : Int) % 6, false, xl⟩, u.oneCell' = true := fun u hu => (cellE_elems [⟨⟨#[114]⟩ ++ u2, ⟨#[99]⟩ ++ u1, 1 + (xv.toNat : Int) % 6, false, xl⟩] _ (List.mem_singleton.2 rfl)).2 u hu
          have hmx : ((ss.take k).map ofC).length + 1 ≤ maxLen := by unfold maxLen; omega
          have hby : (((ss.take k).map ofC).length + 1) * 64 ≤ 140737488355328 := by omega
          clear hO hB hW4 hX hBW hO4 hB4 cv1 cv2 k0 k0f
          go_wp2_with (at_builtin; refine wpList_append_fresh W4 rfl _ _ 32 rfl w.heap.size 31 31 i0 _ 5 64 Try.underlying32 Hi.out iz0 iz1 iz2 rfl (by decide) v3 _ _ rfl HO4.out 1 1 (cellE ⟨⟨#[114]⟩ ++ u2, ⟨#[99]⟩ ++ u1, 1 + (xv.toNat : Int) % 6, false, xl⟩) rfl rfl h1c hmx hby hz4 ?_; intro v5 w5 hr5 hb5 hg5; have HR5 := Lib.hid hr5; have HB5 := Lib.hid (HB4.out.trans hb5); clear hr5 hb5 hg5)
          have HN : Hid (Own w5 w.heap.size v5 ((ss.take (k + 1)).map ofC)) := Lib.hid (by
            rw [Hst.out, HC.out]
            unfold Own
            rw [List.length_append, List.map_append, List.flatten_append]
            simpa using HR5.out)
          exact ⟨⟨k + 1, by omega, by omega, by go_num, HN, HB5⟩, by simp [intOf]; omega⟩
      · have hcell : ofC ⟨xr, xc, xv, true, xl⟩ = ⟨⟨#[114]⟩ ++ u2, ⟨#[99]⟩ ++ u1, 1 + (xv.toNat : Int) % 6, true, ⟨#[]⟩⟩ := by
          rw [ofC, ← Hu2.out, ← Hu1.out]
          simp only [if_true]
        have HC := Lib.hid hcell
        clear hcell
        go_upto_region 9 with fail
        obtain ⟨W4, hW4⟩ : ∃ V : World, V = (((wr.alloc (.cells #[.int .u8 xr.toNat, .int .u8 xc.toNat, .int .u8 xv.toNat, .bool true, .string xl] 47)).alloc (.cells #[.int .u8 ((xr.toNat : Int) % 9), .int .u8 ((xr.toNat : Int) % 5)] 5)).alloc (.cells #[.int .u8 ((xc.toNat : Int) % 4)] 5)).alloc (.cells #[.string (⟨#[114]⟩ ++ u2), .string (⟨#[99]⟩ ++ u1), .int .u64 (1 + (xv.toNat : Int) % 6), .bool true, .string ⟨#[]⟩] 31) := ⟨_, rfl⟩
        have hBW : Below wr.heap.size wr W4 := by rw [hW4]; go_grown
        have hO4 := Own.below hO.out hBW
        have hB4 := hB.out.trans (hBW.mono hzr)
        obtain ⟨X, hX⟩ : ∃ X, X = wr.heap.size + 1 + 1 + 1 := ⟨_, rfl⟩
        have y0 : W4.cell? ⟨X, 0, none⟩ = some (.string (⟨#[114]⟩ ++ u2)) := by rw [hW4, hX]; go_simp
        have y1 : W4.cell? ⟨X, 1, none⟩ = some (.string (⟨#[99]⟩ ++ u1)) := by rw [hW4, hX]; go_simp
        have y2 : W4.cell? ⟨X, 2, none⟩ = some (.int .u64 (1 + (xv.toNat : Int) % 6)) := by rw [hW4, hX]; go_simp
        have y3 : W4.cell? ⟨X, 3, none⟩ = some (.bool true) := by rw [hW4, hX]; go_simp
        have y4 : W4.cell? ⟨X, 4, none⟩ = some (.string ⟨#[]⟩) := by rw [hW4, hX]; go_simp
        rw [← hW4, ← hX]
        have HO4 := Lib.hid hO4
        have HB4 := Lib.hid hB4
        have hz4 := hB4.size
        have h1c : ∀ u ∈ cellE ⟨⟨#[114]⟩ ++ u2, ⟨#[99]⟩ ++ u1, 1 + (xv.toNat : Int) % 6, true, ⟨#[]⟩⟩, u.oneCell' = true := fun u hu => (cellE_elems [⟨⟨#[114]⟩ ++ u2, ⟨#[99]⟩ ++ u1, 1 + (xv.toNat : Int) % 6, true, ⟨#[]⟩⟩] _ (List.mem_singleton.2 rfl)).2 u hu
        have hmx : ((ss.take k).map ofC).length + 1 ≤ maxLen := by unfold maxLen; omega
        have hby : (((ss.take k).map ofC).length + 1) * 64 ≤ 140737488355328 := by omega
        clear hO hB hW4 hX hBW hO4 hB4 cv1 cv2 k0 k0f
        go_wp2_with (at_builtin; refine wpList_append_fresh W4 rfl _ _ 32 rfl w.heap.size 31 31 i0 _ 5 64 Try.underlying32 Hi.out iz0 iz1 iz2 rfl (by decide) v3 _ _ rfl HO4.out 1 1 (cellE ⟨⟨#[114]⟩ ++ u2, ⟨#[99]⟩ ++ u1, 1 + (xv.toNat : Int) % 6, true, ⟨#[]⟩⟩) rfl rfl h1c hmx hby hz4 ?_; intro v5 w5 hr5 hb5 hg5; have HR5 := Lib.hid hr5; have HB5 := Lib.hid (HB4.out.trans hb5); clear hr5 hb5 hg5)
        have HN : Hid (Own w5 w.heap.size v5 ((ss.take (k + 1)).map ofC)) := Lib.hid (by
          rw [Hst.out, HC.out]
          unfold Own
          rw [List.length_append, List.map_append, List.flatten_append]
          simpa using HR5.out)
        exact ⟨⟨k + 1, by omega, by omega, by go_num, HN, HB5⟩, by simp [intOf]; omega⟩
    · have htk : (ss.take k).map ofC = (ss.take 60).map ofC := by
        by_cases hk60 : k = 60
        · rw [hk60]
        · rw [List.take_of_length_le (by rw [Hl.out]; omega), List.take_of_length_le (by rw [Hl.out]; omega)]
      obtain ⟨ao3, cap3, e3, hC3⟩ := Own.cells hO.out
      have hlen : ((ss.take k).map ofC).length ≤ 60 := by rw [List.length_map, List.length_take]; omega
      have KS := Lib.hid (sort_any ao3 _ cap3 _ wr hC3 (by omega))
      rw [htk] at KS e3
      rw [show sortL ((ss.take 60).map ofC) = ofT ss from rfl] at KS
      subst e3
      obtain ⟨m, hm⟩ : ∃ m, m = ((ss.take 60).map ofC).length := ⟨_, rfl⟩
      rw [← hm] at KS ⊢
      have HB := Lib.hid hB.out
      clear hO hB hC3 htk hm
      by_cases hkn : k < n
      · have hk60 : k = 60 := by omega
        subst hk60
        clear hlt
        go_wp2_with fail
        refine KS.out.mono ?_
        rintro e w2 ⟨v, rfl, ho, hb⟩
        have HO := Lib.hid ho
        have HB2 := Lib.hid (HB.out.trans (hb.mono hzr))
        clear ho hb
        go_wp2_with fail
        go_returns
        exact ⟨v, rfl, Row.mono HO.out hzr, HB2.out⟩
      · have hkn2 : k = n := by omega
        subst hkn2
        clear hlt hkn
        go_wp2_with fail
        refine KS.out.mono ?_
        rintro e w2 ⟨v, rfl, ho, hb⟩
        have HO := Lib.hid ho
        have HB2 := Lib.hid (HB.out.trans (hb.mono hzr))
        clear ho hb
        go_wp2_with fail
        go_returns
        exact ⟨v, rfl, Row.mono HO.out hzr, HB2.out⟩
end Go.Proofs.Ytihglmicgccgiaa
