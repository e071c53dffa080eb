/-
  Tables: lay's plain part; the walk of the function that lays a frame.
-/
import Derived.Test.YtihglmicgccgiaaTblF
import Derived.Test.YtihglmicgccgiaaBlkRead
import Derived.Test.YtihglmicgccgiaaSortAnyW
import Derived.Test.YtihglmicgccgiaaReadBW
namespace Go.Proofs.Ytihglmicgccgiaa
open Go.RowKit Go.Shelf

/-- blocks that may be a table's -/
structure GoodB (bss : List (List CellA)) : Prop where
  each : ∀ bs ∈ bss, bs ≠ [] ∧ BlockOf (blockL bs) bs
def noC : CellA := ⟨⟨#[]⟩, ⟨#[]⟩, 0, false, ⟨#[]⟩⟩
def lastC (bs : List CellA) : CellA := (bs[bs.length - 1]?).getD noC
/-- the frames of blocks -/
def framesL (bss : List (List CellA)) : List UInt8 := (bss.map fun bs => frameB (blockL bs)).flatten
/-- a block's place in the index -/
def entryL (at_ : Nat) (bs : List CellA) : List UInt8 := txtL (lastC bs).row.toList ++ txtL (lastC bs).col.toList ++ numW at_ ++ numW (8 + (blockL bs).length : Nat) ++ numW (bs.length : Nat)
def indexTo (bss : List (List CellA)) : Nat → List UInt8
  | 0 => numW (bss.length : Nat)
  | k + 1 => indexTo bss k ++ (match bss[k]? with | some bs => entryL (framesL (bss.take k)).length bs | none => [])
def indexL (bss : List (List CellA)) : List UInt8 := indexTo bss bss.length
def filterL (bss : List (List CellA)) : List UInt8 := makeF (keysOf bss.flatten)
/-- a table's bytes -/
def tableL (bss : List (List CellA)) : List UInt8 :=
  framesL bss ++ frameB (indexL bss) ++ frameB (filterL bss) ++ eightL (framesL bss).length ++ eightL (framesL bss ++ frameB (indexL bss)).length
theorem framesL_succ {bss : List (List CellA)} {k : Nat} {bs : List CellA} (h : bss[k]? = some bs) : framesL (bss.take (k + 1)) = framesL (bss.take k) ++ frameB (blockL bs) := by
  rw [framesL, List.take_add_one, h]
  simp [framesL]
theorem indexTo_succ {bss : List (List CellA)} {k : Nat} {bs : List CellA} (h : bss[k]? = some bs) : indexTo bss (k + 1) = indexTo bss k ++ entryL (framesL (bss.take k)).length bs := by rw [indexTo, h]
theorem GoodB.cells {bss : List (List CellA)} (h : GoodB bss) : ∀ c ∈ bss.flatten, cellL c = true := by
  intro c hc
  obtain ⟨bs, hbs, hcb⟩ := List.mem_flatten.1 hc
  obtain ⟨k, hk⟩ := List.mem_iff_getElem?.1 hcb
  exact (wrongB_false (h.each bs hbs).2.good k c hk).1
theorem cellL_ok {c : CellA} (h : cellL c = true) : c.Ok := by
  obtain ⟨h1, h2, h3, h4, h5⟩ := cellL_sizesB h
  exact ⟨by unfold maxLen; omega, by unfold maxLen; omega, by unfold maxLen; omega, by omega, by omega⟩
theorem lastC_mem {bs : List CellA} (h : bs ≠ []) : lastC bs ∈ bs ∧ bs[bs.length - 1]? = some (lastC bs) := by
  have hl : 0 < bs.length := List.length_pos_iff.2 h
  have e : bs[bs.length - 1]? = some bs[bs.length - 1] := List.getElem?_eq_getElem (by omega)
  unfold lastC
  rw [e]
  exact ⟨List.getElem_mem _, rfl⟩
theorem framesL_len {bss : List (List CellA)} (h : GoodB bss) : ∀ k, k ≤ bss.length → (framesL (bss.take k)).length ≤ 32776 * k
  | 0, _ => by simp [framesL]
  | k + 1, hk => by
    have hb : bss[k]? = some bss[k] := List.getElem?_eq_getElem (by omega)
    have ih := framesL_len h k (by omega)
    have := (h.each bss[k] (List.getElem_mem _)).2.le
    rw [framesL_succ hb, List.length_append, frameB_len]
    omega
theorem txtL_small {l : List UInt8} (h : l.length ≤ 100) : (txtL l).length ≤ 101 := by
  rw [txtL, List.length_append, numL_small (by omega)]
  simp; omega
theorem numW_small (n : Nat) (h : n < 268435456) : (numW n).length ≤ 4 := by
  have := numL_length 3 n (by omega)
  simpa [numW] using this
theorem numW_mid (n : Nat) (h : n < 34359738368) : (numW n).length ≤ 5 := by
  have := numL_length 4 n (by omega)
  simpa [numW] using this
theorem txtL_cell {c : CellA} (h : cellL c = true) : (txtL c.row.toList).length ≤ 33 ∧ (txtL c.col.toList).length ≤ 17 := by
  obtain ⟨h1, h2, _⟩ := cellL_sizesB h
  rw [txtL, txtL, List.length_append, List.length_append, numL_small (by rw [size_list]; omega), numL_small (by rw [size_list]; omega), size_list, size_list]
  simp; omega
theorem block_cells {bs : List CellA} (h : BlockOf (blockL bs) bs) : bs.length ≤ 6000 := by
  have := bodyTo_long bs bs.length (Nat.le_refl _)
  have := h.body
  omega
theorem indexTo_len {bss : List (List CellA)} (h : GoodB bss) (hn : bss.length ≤ 10000) : ∀ k, k ≤ bss.length → (indexTo bss k).length ≤ 10 + 70 * k
  | 0, _ => by
    have := numW_small bss.length (by omega)
    rw [indexTo]
    omega
  | k + 1, hk => by
    have hb : bss[k]? = some bss[k] := List.getElem?_eq_getElem (by omega)
    have ih := indexTo_len h hn k (by omega)
    obtain ⟨h1, h2⟩ := h.each bss[k] (List.getElem_mem _)
    have hc := h.cells (lastC bss[k]) (List.mem_flatten.2 ⟨_, List.getElem_mem _, (lastC_mem h1).1⟩)
    obtain ⟨t1, t2⟩ := txtL_cell hc
    have n1 := numW_mid (framesL (bss.take k)).length (by have := framesL_len h k (by omega); omega)
    have n2 := numW_small (8 + (blockL bss[k]).length) (by have := h2.le; omega)
    have n3 := numW_small bss[k].length (by have := block_cells h2; omega)
    rw [indexTo_succ hb, List.length_append, entryL]
    simp only [List.length_append]
    omega

/-- what lay keeps: the builder in its first block -/
structure LayI (w : World) (out : List UInt8) (V : World) : Prop where
  ex : ∃ F, Bl w.heap.size out F V ∧ ∀ k, F k → w.heap.size ≤ k
  bel : Below w.heap.size w V
theorem LayI.below {w V V' : World} {out : List UInt8} (h : LayI w out V) (hb : Below V.heap.size V V') : LayI w out V' := by
  obtain ⟨F, h1, h2⟩ := h.ex
  exact ⟨⟨F, h1.below hb, h2⟩, h.bel.trans (hb.mono h.bel.size)⟩
theorem layI_new (w : World) : LayI w [] (w.alloc (.cells #[.pointer none, .slice none 0 0] 85)) := ⟨⟨_, bl_new w, fun k h => by subst h; exact Nat.le_refl _⟩, (Below.refl _ _).alloc (Nat.le_refl _) _⟩
theorem LayI.len {w V : World} {out : List UInt8} (h : LayI w out V) : Calls Try.prog 45 #[.pointer (some ⟨w.heap.size, 0, none⟩)] V fun e w' => e = .returned (.int .i64 out.length) ∧ V = w' := by
  obtain ⟨F, h1, h2⟩ := h.ex
  exact len_bl _ _ F V h1
theorem LayI.str {w V : World} {out : List UInt8} (h : LayI w out V) : Calls Try.prog 48 #[.pointer (some ⟨w.heap.size, 0, none⟩)] V fun e w' => e = .returned (.string (ofL out)) ∧ Below w.heap.size w w' := by
  obtain ⟨F, h1, h2⟩ := h.ex
  refine (string_bl _ _ F V h1).mono ?_
  rintro e w' ⟨rfl, hk, _⟩
  exact ⟨rfl, h.bel.trans (hk.below h2 h.bel.size)⟩

set_option maxRecDepth 100000 in
set_option maxHeartbeats 2000000 in
theorem lay1_any (s : ByteArray) (w V : World) (out : List UInt8) (h : LayI w out V) (hs : s.size ≤ 1048576) (ho : out.length ≤ 1099511627776) :
    Calls Try.prog 41 #[.string s, .pointer (some ⟨w.heap.size, 0, none⟩)] V fun e w' => e = .returned (.tuple #[.int .i64 (8 + s.toList.length : Nat), .int .i64 0]) ∧ LayI w (out ++ frameB s.toList) w' ∧ V.heap.size ≤ w'.heap.size := by
  have KF := frame_any s V (by unfold maxLen; omega)
  rw [show frameR s.toList = (frameB s.toList, 0) by rw [frameR, if_neg (by rw [size_list]; omega)]] at KF
  have hfl := frameB_len s.toList
  have hsl : s.toList.length ≤ 1048576 := by rw [size_list]; exact hs
  obtain ⟨fb, hfb⟩ : ∃ fb, fb = ofL (frameB s.toList) := ⟨_, rfl⟩
  have hfs : fb.size = 8 + s.toList.length := by rw [hfb, ofL_size, hfl]
  have hft : fb.toList = frameB s.toList := by rw [hfb, ofL_toList]
  simp only at KF
  rw [← hfb] at KF
  have KF := Lib.hid KF
  obtain ⟨m, hm⟩ : ∃ m, m = s.toList.length := ⟨_, rfl⟩
  rw [← hm] at hfs hsl ⊢
  have Hft := Lib.hid hft
  have Hfs := Lib.hid hfs
  have hz := h.bel.size
  clear hfb hft hfl hm hfs
  go_enter Try.func41, Try.ntmps41
  go_wp2_with fail
  refine KF.out.mono ?_
  rintro e w2 ⟨rfl, hb2⟩
  have h2 := Lib.hid (h.below hb2)
  have hz2 := hb2.size
  clear h hb2
  go_wp2_with fail
  obtain ⟨F, hB, hF⟩ := h2.out.ex
  refine (writestring_bl _ _ F fb w2 hB (by rw [Hfs.out]; omega)).mono ?_
  rintro e w3 ⟨rfl, F3, hB3, hK3, hF3⟩
  rw [Hft.out] at hB3
  have H3 : Hid (LayI w (out ++ frameB s.toList) w3) := Lib.hid ⟨⟨F3, hB3, fun k hk => (hF3 k hk).elim (hF k) (fun h => by omega)⟩, h2.out.bel.trans (hK3.below hF h2.out.bel.size)⟩
  have hz3 := hK3.size
  clear hB hF hB3 hK3 hF3 h2
  rw [Hfs.out]
  go_wp2_with fail
  go_returns
  exact ⟨by simp [Hfs.out], H3.out, Nat.le_trans hz2 hz3⟩
theorem buildR_ok' {cs : List CellA} (h : (buildR cs).2 = 0) : BlockOf (blockL cs) cs ∧ (buildR cs).1 = blockL cs := by
  unfold buildR at h ⊢
  split
  · rename_i h1; rw [if_pos h1] at h; cases h
  · rename_i h1; rw [if_neg h1] at h
    split
    · rename_i h2; rw [if_pos h2] at h; cases h
    · rename_i h2; rw [if_neg h2] at h
      split
      · rename_i h3; rw [if_pos h3] at h; cases h
      · rename_i h3
        exact ⟨⟨by simpa using h1, by omega, by omega, rfl⟩, rfl⟩
end Go.Proofs.Ytihglmicgccgiaa

/-
  Tables: the walk of lay.
-/
namespace Go.Proofs.Ytihglmicgccgiaa
open Go.RowKit Go.Shelf

theorem index3_0 (x y z : Int) (w : World) : (Instr.index 95 (.agg #[.int .i64 x, .int .i64 y, .int .i64 z]) (.int .i64 0)).run Try.prog w = .ok (.int .i64 x) w := by kernel_rfl
theorem index3_1 (x y z : Int) (w : World) : (Instr.index 95 (.agg #[.int .i64 x, .int .i64 y, .int .i64 z]) (.int .i64 1)).run Try.prog w = .ok (.int .i64 y) w := by kernel_rfl
theorem index3_2 (x y z : Int) (w : World) : (Instr.index 95 (.agg #[.int .i64 x, .int .i64 y, .int .i64 z]) (.int .i64 2)).run Try.prog w = .ok (.int .i64 z) w := by kernel_rfl

set_option maxRecDepth 100000 in
set_option maxHeartbeats 8000000 in
theorem lay_table (ao : Option Addr) (n cap : Nat) (bss : List (List CellA)) (w : World) (h : BB w ao n cap bss) (hg : GoodB bss) (hn : n ≤ 10000) (hc : bss.flatten.length ≤ 32768) :
    Calls Try.prog 19 #[.slice ao n cap] w fun e w' => e = .returned (.tuple #[.string (ofL (tableL bss)), .int .i64 0]) ∧ Below w.heap.size w w' := by
  have hl := h.len
  obtain ⟨hc1, hc2⟩ := h.fits
  have Hl := Lib.hid hl
  have H := Lib.hid h
  have Hg := Lib.hid hg
  have Hc := Lib.hid hc
  have e0 : numW (n : Int) = indexTo bss 0 := by rw [indexTo, hl]
  have KN := Lib.hid fun W => pnL [] (n : Int) W (by simp) ⟨by omega, by omega⟩
  rw [List.nil_append, e0] at KN
  have KN : Hid (∀ W, Calls Try.prog 44 #[.string ⟨#[]⟩, .int .u64 n] W fun e w' => e = .returned (.string (ofL (indexTo bss 0))) ∧ Below W.heap.size W w') := KN
  obtain ⟨u0, hu0⟩ : ∃ u, u = ofL (indexTo bss 0) := ⟨_, rfl⟩
  rw [← hu0] at KN
  have HL0 := Lib.hid (layI_new w)
  have Hu0 : Hid (Value.string u0 = Value.string (ofL (indexTo bss 0))) := Lib.hid (by rw [hu0])
  clear h hl hg hc e0 hu0
  go_enter Try.func19, Try.ntmps19
  go_wp2_with (first | (go_at_call 44; refine (KN.out _).mono ?_; rintro e w1 ⟨rfl, hb1⟩; have HL1 := Lib.hid (HL0.out.below hb1); clear hb1))
  go_loopw [6, 31] (fun v i wr => ∃ k : Nat, k ≤ n ∧ i = .int .i64 k ∧ v = .string (ofL (indexTo bss k)) ∧ Hid (LayI w (framesL (bss.take k)) wr)) (fun _ i _ => n - (intOf i).toNat)
  case atStart => exact ⟨0, by omega, rfl, Hu0.out, HL1⟩
  case round =>
    clear HL0 HL1
    obtain ⟨k, hk, rfl, rfl, hL⟩ := hrel
    have hzr := hL.out.bel.size
    obtain ⟨uk, huk⟩ : ∃ u, u = ofL (indexTo bss k) := ⟨_, rfl⟩
    rw [← huk]
    by_cases hlt : k < n
    · obtain ⟨bs, hbs⟩ : ∃ bs, bss[k]? = some bs := ⟨_, List.getElem?_eq_getElem (by rw [Hl.out]; omega)⟩
      obtain ⟨b, off, a, c, rfl, hb, hbc, hcs⟩ := H.out.at_ hbs
      obtain ⟨hne, hbk⟩ := Hg.out.each bs (List.mem_of_getElem? hbs)
      obtain ⟨hlm, hlx⟩ := lastC_mem hne
      have hcb : ∀ c ∈ bs, cellL c = true := fun c hc => Hg.out.cells c (List.mem_flatten.2 ⟨bs, List.mem_of_getElem? hbs, hc⟩)
      have hmb := hbk.le
      have hm6 := block_cells hbk
      have hout := framesL_len Hg.out k (by rw [Hl.out]; omega)
      have hidx := indexTo_len Hg.out (by rw [Hl.out]; omega) k (by rw [Hl.out]; omega)
      have hfs := framesL_succ hbs
      have his := indexTo_succ hbs
      have KB := Lib.hid fun (W : World) (hW : Below w.heap.size w W) => build_any a bs.length c bs W (Arr.below hcs hW) (fun c hc => cellL_ok (hcb c hc))
      rw [blockOf_iff.1 hbk] at KB
      obtain ⟨bx, ox, rfl, hbx, hca⟩ := Cells.at_ hcs hlx
      have hx0 := (hL.out.bel.cell (p := ⟨b, off + k, none⟩) hb).trans hbc
      obtain ⟨p, hp⟩ : ∃ p, bs.length = p + 1 := ⟨bs.length - 1, by have := List.length_pos_iff.2 hne; omega⟩
      have hcl := Arr.fits hcs
      have hcm := Arr.max hcs
      unfold maxLen at hcm
      rw [hp, Nat.add_sub_cancel] at hca
      obtain ⟨lr, hlr⟩ : ∃ x, x = (lastC bs).row := ⟨_, rfl⟩
      obtain ⟨lc, hlc⟩ : ∃ x, x = (lastC bs).col := ⟨_, rfl⟩
      have hls := cellL_sizesB (hcb _ hlm)
      have KO := Lib.hid fun W => tof_any (lastC bs) W
      rw [entryL, ← hlr, ← hlc] at his
      rw [← hlr, ← hlc] at KO hls
      obtain ⟨x0, x1, x2, x3, x4⟩ := hca
      rw [← hlr] at x0
      rw [← hlc] at x1
      obtain ⟨lv, hlv⟩ : ∃ x, x = (lastC bs).ver := ⟨_, rfl⟩
      obtain ⟨lg, hlg⟩ : ∃ x, x = (lastC bs).gone := ⟨_, rfl⟩
      obtain ⟨ll, hll⟩ : ∃ x, x = (lastC bs).val := ⟨_, rfl⟩
      rw [← hlv] at x2
      rw [← hlg] at x3
      rw [← hll] at x4
      have KO : Hid (∀ W, Calls Try.prog 26 #[.agg #[.string lr, .string lc, .int .u64 lv, .bool lg, .string ll]] W fun e w' => e = .returned (.agg #[.string lr, .string lc]) ∧ Below W.heap.size W w') := Lib.hid (by rw [hlv, hlg, hll]; have := KO.out; rw [CellA.v, ← hlr, ← hlc] at this; exact this)
      obtain ⟨ub, hub⟩ : ∃ u, u = ofL (blockL bs) := ⟨_, rfl⟩
      have hubt : ub.toList = blockL bs := by rw [hub, ofL_toList]
      have hubs : ub.size ≤ 32768 := by rw [hub, ofL_size]; exact hmb
      obtain ⟨fs, hfs0⟩ : ∃ f, f = framesL (bss.take k) := ⟨_, rfl⟩
      rw [← hfs0] at hfs his hout hL
      obtain ⟨o, ho⟩ : ∃ o, o = fs.length := ⟨_, rfl⟩
      obtain ⟨q, hq⟩ : ∃ q, q = 8 + (blockL bs).length := ⟨_, rfl⟩
      rw [← ho] at his hout
      rw [← hq, hp] at his
      have hqs : q ≤ 40000 := by omega
      have ho3 : o ≤ 400000000 := by omega
      -- the index, step by step
      obtain ⟨t1, ht1⟩ : ∃ t, t = indexTo bss k ++ txtL lr.toList := ⟨_, rfl⟩
      obtain ⟨t2, ht2⟩ : ∃ t, t = t1 ++ txtL lc.toList := ⟨_, rfl⟩
      obtain ⟨t3, ht3⟩ : ∃ t, t = t2 ++ numW (o : Int) := ⟨_, rfl⟩
      obtain ⟨t4, ht4⟩ : ∃ t, t = t3 ++ numW (q : Int) := ⟨_, rfl⟩
      have ht5 : indexTo bss (k + 1) = t4 ++ numW ((p + 1 : Nat) : Int) := by rw [his, ht4, ht3, ht2, ht1]; simp only [List.append_assoc]
      have l1 : t1.length ≤ 1000000 := by rw [ht1, List.length_append, txtL, List.length_append, numL_small (by rw [size_list]; omega), size_list]; simp; omega
      have l2 : t2.length ≤ 1100000 := by rw [ht2, List.length_append, txtL, List.length_append, numL_small (by rw [size_list]; omega), size_list]; simp; omega
      have l3 : t3.length ≤ 1200000 := by rw [ht3, List.length_append]; have := numW_len (o : Int) ⟨by omega, by omega⟩; omega
      have l4 : t4.length ≤ 1300000 := by rw [ht4, List.length_append]; have := numW_len (q : Int) ⟨by omega, by omega⟩; omega
      have T1 := Lib.hid fun W => ptL (indexTo bss k) lr W (by omega) (by omega)
      have T2 := Lib.hid fun W => ptL t1 lc W (by omega) (by omega)
      have T3 := Lib.hid fun W => pnL t2 (o : Int) W (by omega) ⟨by omega, by omega⟩
      have T4 := Lib.hid fun W => pnL t3 (q : Int) W (by omega) ⟨by omega, by omega⟩
      have T5 := Lib.hid fun W => pnL t4 ((p + 1 : Nat) : Int) W (by omega) ⟨by omega, by omega⟩
      rw [← ht1, ← huk] at T1
      rw [← ht2] at T2
      rw [← ht3] at T3
      rw [← ht4] at T4
      rw [← ht5] at T5
      obtain ⟨v1, hv1⟩ : ∃ v, v = ofL t1 := ⟨_, rfl⟩
      obtain ⟨v2, hv2⟩ : ∃ v, v = ofL t2 := ⟨_, rfl⟩
      obtain ⟨v3, hv3⟩ : ∃ v, v = ofL t3 := ⟨_, rfl⟩
      obtain ⟨v4, hv4⟩ : ∃ v, v = ofL t4 := ⟨_, rfl⟩
      rw [← hv1] at T1 T2
      rw [← hv2] at T2 T3
      rw [← hv3] at T3 T4
      rw [← hv4] at T4 T5
      rw [← hub] at KB
      rw [hp] at KB hx0 hcl
      have KLen := Lib.hid hL.out.len
      have Kf := Lib.hid fun (W : World) (h : LayI w fs W) => lay1_any ub w W fs h (by omega) (by omega)
      rw [hubt, ← hq] at Kf
      rw [← ho] at KLen
      have HFS := Lib.hid hfs
      simp only at KB
      clear hne hbk hlm hlx hcb hmb hfs his hbs hbc hlr hlc hlv hlg hll hub hubt hfs0 ho ht1 ht2 ht3 ht4 ht5 hv1 hv2 hv3 hv4 hcs l1 l2 l3 l4 huk hout hidx hp hq
      go_wp2_with fail
      refine KLen.out.mono ?_
      rintro e w' ⟨rfl, rfl⟩
      go_wp2_with fail
      refine (KB.out wr hL.out.bel).mono ?_
      rintro e w1 ⟨rfl, hb1⟩
      have HL1 := Lib.hid (hL.out.below hb1)
      clear hb1 hL
      go_wp2_with fail
      refine (Kf.out w1 HL1.out).mono ?_
      rintro e w2 ⟨rfl, hL2, hz12⟩
      have HL2 := Lib.hid hL2
      have hz2 := hL2.bel.size
      obtain ⟨k0, k0f⟩ := keep_below hL2.bel bx hbx
      clear hL2 HL1
      go_wp2_with (first | (go_at_call 26; refine (KO.out _).mono ?_; rintro e w3 ⟨rfl, hb⟩; obtain ⟨hB, hS, hk⟩ := after (B := w2.heap.size) (w := w2) (by go_grown) (by go_size) hb; have Hw3 := Lib.hid hb; clear hb; clear hk))
      obtain ⟨W8, hW8⟩ : ∃ W : World, W = w3.alloc (.cells #[.string lr, .string lc] 62) := ⟨_, rfl⟩
      have p0 : W8.cell? ⟨w3.heap.size, 0, none⟩ = some (.string lr) := by rw [hW8]; go_simp
      have p1 : W8.cell? ⟨w3.heap.size, 1, none⟩ = some (.string lc) := by rw [hW8]; go_simp
      have pl : w3.heap.size < W8.heap.size := by rw [hW8, World.size_alloc]; omega
      have HL8 : Hid (LayI w (fs ++ frameB (blockL bs)) W8) := Lib.hid (HL2.out.below (by rw [hW8]; exact Hw3.out.alloc hS _))
      rw [← hW8]
      obtain ⟨P, hP⟩ : ∃ P, P = w3.heap.size := ⟨_, rfl⟩
      rw [← hP] at p0 p1 pl ⊢
      clear hW8 hP HL2 hB Hw3 k0 k0f x0 x1 x2 x3 x4
      refine wp_region_below (by kernel_rfl) (by kernel_rfl) (fun hkept => ?_)
      obtain ⟨r0, rf0⟩ := hkept (P) (by go_size); clear hkept
      repeat (any_goals (first | go_big_quiet_step (first | (go_at_call 46; with_reducible exact Calls.regrown_of (T1.out _)) | (go_at_call 46; with_reducible exact Calls.regrown_of (T2.out _))) | quiet_step (first | (go_at_call 46; with_reducible exact Calls.regrown_of (T1.out _)) | (go_at_call 46; with_reducible exact Calls.regrown_of (T2.out _))) | (refine wpQuiet_step (fun K hK => ?_); go_simp; split <;> (refine hK _ ?_; clear hK K))))
      all_goals (refine wpQuiet_nil ?_; intro w4 hb; obtain ⟨hB, hS, hk⟩ := after (B := W8.heap.size) (w := W8) (by go_grown) (by go_size) hb; obtain ⟨c0, f0, z0⟩ := hk (P) (by go_size); clear hk hb r0 rf0)
      have HL9 := Lib.hid (HL8.out.below hB)
      clear HL8 hB c0 f0 z0 p0 p1 pl
      go_wp2_with fail
      have i0 := Lib.hid (index3_0 (o : Int) (q : Int) ((p : Int) + 1))
      have i1 := Lib.hid (index3_1 (o : Int) (q : Int) ((p : Int) + 1))
      have i2 := Lib.hid (index3_2 (o : Int) (q : Int) ((p : Int) + 1))
      have T5 : Hid (∀ W, Calls Try.prog 44 #[.string v4, .int .u64 ((p : Int) + 1)] W fun e w' => e = .returned (.string (ofL (indexTo bss (k + 1)))) ∧ Below W.heap.size W w') := T5
      refine wp_loop_rounds 4 ?_
      rw [rounds_succ]
      go_wp2_with fail
      rw [i0.out]
      simp only [Result.andThen]
      rw [Oper.upon_value]
      go_wp2_with fail
      refine (T3.out w4).mono ?_
      rintro e w5 ⟨rfl, hb5⟩
      have HLa := Lib.hid (HL9.out.below hb5)
      clear hb5 HL9
      go_wp2_with fail
      rw [rounds_succ]
      go_wp2_with fail
      rw [i1.out]
      simp only [Result.andThen]
      rw [Oper.upon_value]
      go_wp2_with fail
      refine (T4.out w5).mono ?_
      rintro e w6 ⟨rfl, hb6⟩
      have HLb := Lib.hid (HLa.out.below hb6)
      clear hb6 HLa
      go_wp2_with fail
      rw [rounds_succ]
      go_wp2_with fail
      rw [i2.out]
      simp only [Result.andThen]
      rw [Oper.upon_value]
      go_wp2_with fail
      refine (T5.out w6).mono ?_
      rintro e w7 ⟨rfl, hb7⟩
      have HLc := Lib.hid (HLb.out.below hb7)
      clear hb7 HLb
      obtain ⟨v5, hv5⟩ : ∃ v, v = ofL (indexTo bss (k + 1)) := ⟨_, rfl⟩
      rw [← hv5]
      have Hv5 := Lib.hid hv5
      clear hv5
      go_wp2_with fail
      rw [rounds_succ]
      go_wp2_with fail
      exact ⟨⟨k + 1, by omega, by go_num, by rw [Hv5.out], by rw [HFS.out]; exact HLc⟩, by simp [intOf]; omega⟩
    · obtain rfl : k = n := by omega
      have hix := indexTo_len Hg.out (by rw [Hl.out]; omega) k (by rw [Hl.out]; omega)
      have hix2 : indexTo bss k = indexL bss := by rw [indexL, Hl.out]
      have hfr := framesL_len Hg.out k (by rw [Hl.out]; omega)
      have htk : bss.take k = bss := List.take_of_length_le (by rw [Hl.out]; exact Nat.le_refl _)
      rw [htk] at hfr hL
      rw [hix2] at hix huk
      have hukt : uk.toList = indexL bss := by rw [huk, ofL_toList]
      have huks : uk.size ≤ 1048576 := by rw [huk, ofL_size]; omega
      have hsmall : ∀ c ∈ bss.flatten, c.row.size ≤ 1000 ∧ c.col.size ≤ 1000 := fun c hc => by
        have := cellL_sizesB (Hg.out.cells c hc)
        omega
      have KFil := Lib.hid fun (W : World) (hW : BB W ao k cap bss) => filter_any ao k cap bss W hW hsmall Hc.out
      have hfl : (filterL bss).length ≤ 50000 := by
        have h1 := makeF_len (keysOf bss.flatten)
        have h2 := keysOf_len bss.flatten
        have h3 := Hc.out
        unfold filterL
        rw [h1]
        unfold makeZ
        omega
      obtain ⟨uf, huf⟩ : ∃ u, u = ofL (filterL bss) := ⟨_, rfl⟩
      have huft : uf.toList = filterL bss := by rw [huf, ofL_toList]
      have hufs : uf.size ≤ 50000 := by rw [huf, ofL_size]; exact hfl
      rw [show makeF (keysOf bss.flatten) = filterL bss from rfl, ← huf] at KFil
      obtain ⟨o1, ho1⟩ : ∃ o, o = (framesL bss).length := ⟨_, rfl⟩
      obtain ⟨o2, ho2⟩ : ∃ o, o = (framesL bss ++ frameB (indexL bss)).length := ⟨_, rfl⟩
      have ho2' : o2 ≤ o1 + 1000000 := by rw [ho2, List.length_append, frameB_len, ← ho1]; omega
      have ho1' : o1 ≤ 400000000 := by omega
      have KL1 := Lib.hid hL.out.len
      have KL2 := Lib.hid fun (W : World) (h : LayI w (framesL bss ++ frameB (indexL bss)) W) => h.len
      rw [← ho1] at KL1
      rw [← ho2] at KL2
      have KF1 := Lib.hid fun (W : World) (h : LayI w (framesL bss) W) => lay1_any uk w W _ h huks (by omega)
      have KF2 := Lib.hid fun (W : World) (h : LayI w (framesL bss ++ frameB (indexL bss)) W) => lay1_any uf w W _ h (by omega) (by omega)
      rw [hukt] at KF1
      rw [huft] at KF2
      obtain ⟨us, hus⟩ : ∃ u, u = ofL (framesL bss ++ frameB (indexL bss) ++ frameB (filterL bss)) := ⟨_, rfl⟩
      have huss : us.size ≤ 500000000 := by rw [hus, ofL_size, List.length_append, ← ho2, frameB_len]; omega
      have KS := Lib.hid fun (W : World) (h : LayI w (framesL bss ++ frameB (indexL bss) ++ frameB (filterL bss)) W) => h.str
      rw [← hus] at KS
      have KE1 := Lib.hid fun W => eight_any o1 W (by omega)
      have KE2 := Lib.hid fun W => eight_any o2 W (by omega)
      obtain ⟨u1, hu1⟩ : ∃ u, u = ofL (eightL o1) := ⟨_, rfl⟩
      obtain ⟨u2, hu2⟩ : ∃ u, u = ofL (eightL o2) := ⟨_, rfl⟩
      have hu1s : u1.size = 8 := by rw [hu1, ofL_size, eightL_len]
      have hu2s : u2.size = 8 := by rw [hu2, ofL_size, eightL_len]
      rw [← hu1] at KE1
      rw [← hu2] at KE2
      have HR : Hid (us ++ u1 ++ u2 = ofL (tableL bss)) := Lib.hid (by rw [append_ofL, append_ofL, hus, hu1, hu2, ofL_toList, ofL_toList, ofL_toList, ofL_toList, tableL, ← ho1, ← ho2])
      obtain ⟨q1, hq1⟩ : ∃ q, q = 8 + (indexL bss).length := ⟨_, rfl⟩
      obtain ⟨q2, hq2⟩ : ∃ q, q = 8 + (filterL bss).length := ⟨_, rfl⟩
      rw [← hq1] at KF1
      rw [← hq2] at KF2
      clear hix hix2 hfr htk huk hukt hsmall hfl huf huft ho1 ho2 hus hu1 hu2 hq1 hq2 huks hufs
      go_wp2_with fail
      refine KL1.out.mono ?_
      rintro e w' ⟨rfl, rfl⟩
      go_wp2_with fail
      refine (KF1.out wr hL.out).mono ?_
      rintro e w2 ⟨rfl, hL2, hz12⟩
      have HL2 := Lib.hid hL2
      have hz2 := hL2.bel.size
      clear hL2 hL
      go_wp2_with fail
      refine (KFil.out w2 (H.out.below HL2.out.bel)).mono ?_
      rintro e w3 ⟨rfl, hb3⟩
      have HL3 := Lib.hid (HL2.out.below hb3)
      clear hb3 HL2
      go_wp2_with fail
      refine (KL2.out w3 HL3.out).mono ?_
      rintro e w' ⟨rfl, rfl⟩
      go_wp2_with fail
      refine (KF2.out w3 HL3.out).mono ?_
      rintro e w4 ⟨rfl, hL4, hz34⟩
      have HL4 := Lib.hid hL4
      have hz4 := hL4.bel.size
      clear hL4 HL3
      go_wp2_with fail
      refine (KS.out w4 HL4.out).mono ?_
      rintro e w5 ⟨rfl, hb5⟩
      have Hb5 := Lib.hid hb5
      have hz5 := hb5.size
      clear hb5 HL4
      go_wp2_with fail
      refine (KE1.out w5).mono ?_
      rintro e w6 ⟨rfl, hb6⟩
      have Hb6 := Lib.hid (Hb5.out.trans (hb6.mono hz5))
      have hz6 := hb6.size
      clear hb6
      go_wp2_with fail
      refine (KE2.out w6).mono ?_
      rintro e w7 ⟨rfl, hb7⟩
      have Hb7 := Lib.hid (Hb6.out.trans (hb7.mono (by omega)))
      clear hb7
      go_wp2_with fail
      go_returns
      exact ⟨by rw [← HR.out]; rfl, Hb7.out⟩
end Go.Proofs.Ytihglmicgccgiaa
