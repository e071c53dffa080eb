/-
  Tables: the walk of Open.
-/
import Derived.Test.YtihglmicgccgiaaTblQ
namespace Go.Proofs.Ytihglmicgccgiaa
open Go.RowKit Go.Shelf

/-- the blocks that have been read -/
structure ReadK (bs : List (List UInt8)) (bss : List (List CellA)) (k : Nat) : Prop where
  len : bss.length = k
  each : ∀ (j : Nat) c, bss[j]? = some c → c ≠ [] ∧ ∃ b, bs[j]? = some b ∧ BlockOf b c
theorem readK_cells : ∀ {css : List (List CellA)} {bs : List (List UInt8)}, (∀ (j : Nat) c, css[j]? = some c → c ≠ [] ∧ ∃ b, bs[j]? = some b ∧ BlockOf b c) → 6 * css.flatten.length ≤ lenFr bs
  | [], bs, _ => by simp
  | c :: css, [], h => by
    obtain ⟨_, b, hb, _⟩ := h 0 c rfl
    cases hb
  | c :: css, b :: bs, h => by
    have ih := readK_cells (css := css) (bs := bs) (fun j d hd => h (j + 1) d hd)
    obtain ⟨hne, b', hb, hbk⟩ := h 0 c rfl
    cases hb
    have h1 := hbk.eq
    subst h1
    have h2 := (block_long hbk hne).2
    unfold lenFr at ih ⊢
    simp only [List.map_cons, List.flatten_cons, List.length_append, frameB_len]
    omega
theorem ReadK.snoc {bs : List (List UInt8)} {bss : List (List CellA)} {k : Nat} (h : ReadK bs bss k) {c : List CellA} {b : List UInt8} (hc : c ≠ []) (hb : bs[k]? = some b) (hbk : BlockOf b c) : ReadK bs (bss ++ [c]) (k + 1) := by
  refine ⟨by rw [List.length_append, h.len]; rfl, fun j d hd => ?_⟩
  by_cases hj : j < bss.length
  · rw [List.getElem?_append_left hj] at hd
    exact h.each j d hd
  · have hl := (List.getElem?_eq_some_iff.1 hd).1
    simp only [List.length_append, List.length_cons, List.length_nil] at hl
    obtain rfl : j = bss.length := by omega
    rw [List.getElem?_append_right (Nat.le_refl _), Nat.sub_self] at hd
    cases hd
    rw [h.len]
    exact ⟨hc, b, hb, hbk⟩
theorem ReadK.good {bs : List (List UInt8)} {bss : List (List CellA)} {k : Nat} (h : ReadK bs bss k) : GoodB bss := ⟨fun x hx => by
  obtain ⟨j, hj⟩ := List.mem_iff_getElem?.1 hx
  obtain ⟨h1, b, _, h2⟩ := h.each j x hj
  have e := h2.eq
  subst e
  exact ⟨h1, h2⟩⟩

set_option maxRecDepth 100000 in
set_option maxHeartbeats 8000000 in
theorem open_table (s : ByteArray) (w : World) (hs : s.size ≤ 80000) :
    Calls Try.prog 7 #[.string s] w fun e w' => ((∃ bss p, IsT s.toList bss ∧ e = .returned (.tuple #[.pointer (some ⟨p, 0, none⟩), .int .i64 0]) ∧ TableAt w' p bss ∧ w.heap.size ≤ p) ∨ ((∀ bss, ¬ IsT s.toList bss) ∧ e = .returned (.tuple #[.pointer none, .int .i64 4]))) ∧ Below w.heap.size w w' := by
  obtain ⟨P, hP⟩ : ∃ P : Ending → World → Prop, P = fun e w' => ((∃ bss p, IsT s.toList bss ∧ e = .returned (.tuple #[.pointer (some ⟨p, 0, none⟩), .int .i64 0]) ∧ TableAt w' p bss ∧ w.heap.size ≤ p) ∨ ((∀ bss, ¬ IsT s.toList bss) ∧ e = .returned (.tuple #[.pointer none, .int .i64 4]))) ∧ Below w.heap.size w w' := ⟨_, rfl⟩
  rw [← hP]
  have Hno : Hid (∀ W, (∀ bss, ¬ IsT s.toList bss) → Below w.heap.size w W → P (.returned (.tuple #[.pointer none, .int .i64 4])) W) := Lib.hid (by rw [hP]; exact fun W h hb => ⟨.inr ⟨h, rfl⟩, hb⟩)
  have Hyes : Hid (∀ W bss p, IsT s.toList bss → TableAt W p bss → w.heap.size ≤ p → Below w.heap.size w W → P (.returned (.tuple #[.pointer (some ⟨p, 0, none⟩), .int .i64 0])) W) := Lib.hid (by rw [hP]; exact fun W bss p h ht hp hb => ⟨.inl ⟨bss, p, h, rfl, ht, hp⟩, hb⟩)
  clear hP
  have hsl : s.toList.length = s.size := size_list s
  by_cases h16 : s.size < 16
  · have HN := Lib.hid (Hno.out w (fun bss h => by have := h.len; omega) (Below.refl _ _))
    clear hsl
    go_enter Try.func7, Try.ntmps7
    go_wp2
    exact HN.out
  · obtain ⟨sx, hsx⟩ : ∃ x, x = s.extract 0 (s.size - 16) := ⟨_, rfl⟩
    have hxl : sx.toList = s.toList.take (s.toList.length - 16) := by rw [hsx, toList_extract, List.drop_zero, hsl]
    have hxs : sx.size ≤ 80000 := by rw [← size_list, hxl, List.length_take]; omega
    have KS := Lib.hid (scan_any sx w (by omega))
    have Hsx := Lib.hid hsx
    have Hxl := Lib.hid hxl
    have Hsl := Lib.hid hsl
    clear hsx hxl hsl
    go_enter Try.func7, Try.ntmps7
    go_wp2_with fail
    rw [← Hsx.out]
    refine KS.out.mono ?_
    rintro e w1 ⟨vb, bs, rest, hfr, rfl, hob, hb1⟩
    rw [Hxl.out] at hfr
    have HFR := Lib.hid hfr
    have HB1 := Lib.hid hb1
    have hz1 := hb1.size
    obtain ⟨ab, cb, rfl⟩ := row_slice hob
    have hln : lenFr bs ≤ s.size := by
      have h1 := congrArg List.length hfr.eq
      rw [List.length_append, List.length_take, Hsl.out] at h1
      unfold lenFr
      omega
    have hbl := lenFr_ge bs
    have HOB := Lib.hid hob
    have Hsc := Lib.hid fun bss (h : IsT s.toList bss) => h.scan (by rw [Hsl.out]; omega) hfr
    rw [Hsl.out] at Hsc
    clear hfr hb1 hob KS
    by_cases hgd : lenFr bs = s.size - 16
    · by_cases h2 : 2 ≤ bs.length
      · obtain ⟨m, hm⟩ : ∃ m, bs.length = m + 2 := ⟨bs.length - 2, by omega⟩
        obtain ⟨fb, hfb⟩ : ∃ fb, bs[m + 1]? = some fb := ⟨_, List.getElem?_eq_getElem (by omega)⟩
        have hgl : (lenFr bs : Int) = (s.size : Int) - 16 := by omega
        have HGL := Lib.hid hgl
        rw [hm] at hbl
        have hm8 : m ≤ 10000 := by omega
        have hstr : w1.cell? ⟨(match ab with | some a => a.block | none => 0), m + 1, none⟩ = some (.string (ofL fb)) := by
          rcases HOB.out.2 with ⟨e0, e1⟩ | ⟨g, cap, cur, fr, e0, _⟩
          · omega
          · cases e0
            have := Row.cell HOB.out (m + 1) (by omega)
            rw [List.getElem?_map, hfb] at this
            exact this
        obtain ⟨gb, rfl⟩ : ∃ gb, ab = some ⟨gb, 0, none⟩ := by
          rcases HOB.out.2 with ⟨e0, e1⟩ | ⟨g, cap, cur, fr, e0, _⟩
          · omega
          · cases e0; exact ⟨g, rfl⟩
        simp only at hstr
        obtain ⟨f, hf⟩ : ∃ f, f = ofL fb := ⟨_, rfl⟩
        rw [← hf] at hstr
        have Hf := Lib.hid hf
        have hgbl : gb < w1.heap.size := World.block_lt_of_cell? _ _ hstr
        have hcb : m + 2 ≤ cb ∧ cb ≤ 2 ^ 63 - 1 := by
          rcases Row.form HOB.out with ⟨e0, _⟩ | ⟨g, cap, e0, _, _, h5, h6⟩
          · cases e0
          · cases e0; unfold maxLen at h6; omega
        obtain ⟨hcb1, hcb2⟩ := hcb
        obtain ⟨q, hq⟩ : ∃ q, q = lenFr bs := ⟨_, rfl⟩
        rw [← hq] at hgd hln ⊢
        have hq2 : ((q : Int) != (s.size : Int) - 16) = false := by simp; omega
        rw [hm] at HOB ⊢
        have Hq := Lib.hid hq
        have Hm := Lib.hid hm
        have Hfb := Lib.hid hfb
        clear hq hm hfb hgd hgl hf
        go_wp2_with fail
        obtain ⟨p, hp⟩ : ∃ p, p = w1.heap.size := ⟨_, rfl⟩
        rw [← hp]
        have HI0 : Hid (OpenI w p f (.slice (some ⟨gb, 0, none⟩) (m + 2) cb) bs (.slice none 0 0) [] (.slice none 0 0) [] (w1.alloc (.cells #[.slice none 0 0, .string f, .bool true] 58))) := Lib.hid (by
          rw [hp]
          have hb1 := (Below.refl w1.heap.size w1).alloc (Nat.le_refl _) (.cells #[.slice none 0 0, .string f, .bool true] 58)
          refine ⟨HB1.out.trans (hb1.mono hz1), OwnS.below HOB.out hb1, OwnB.nil _ _ _, Row.nil _ _ _ _, by go_simp, by go_simp, by go_simp, by go_simp, hz1, ⟨by simp [Value.ownBlock], by simp [Value.ownBlock], fun e => ?_⟩, fun k hk => by simp [Value.ownBlock] at hk, fun k hk => by simp [Value.ownBlock] at hk⟩
          simp [Value.ownBlock] at e
          omega)
        have HK0 : Hid (ReadK bs [] 0) := Lib.hid ⟨rfl, fun j c h => by cases h⟩
        have hz1' : w.heap.size ≤ p := by omega
        clear hp HOB hstr hgbl
        go_loopw [8, 50] (fun va i wr => ∃ (k : Nat) (v : Value) (bss : List (List CellA)), k ≤ m ∧ i = .int .i64 k ∧ Hid (OpenI w p f (.slice (some ⟨gb, 0, none⟩) (m + 2) cb) bs v bss va bss.flatten wr) ∧ Hid (ReadK bs bss k)) (fun _ i _ => m - (intOf i).toNat)
        case atStart => exact ⟨0, .slice none 0 0, [], by omega, rfl, HI0, HK0⟩
        case round =>
          clear HI0 HK0
          obtain ⟨va, rfl⟩ : ∃ v, v = u8 := ⟨_, rfl⟩
          obtain ⟨k, v, bss, hkm, rfl, hI, hK⟩ := hrel
          have hzr := hI.out.bel.size
          by_cases hlt : k < m
          · obtain ⟨b, hb⟩ : ∃ b, bs[k]? = some b := ⟨_, List.getElem?_eq_getElem (by rw [Hm.out]; omega)⟩
            have hsr : Row wr w.heap.size 9 1 (.slice (some ⟨gb, 0, none⟩) (m + 2) cb) (m + 2) (bs.map sval) := by
              have := hI.out.strs
              unfold OwnS at this
              rw [Hm.out] at this
              exact this
            have hsb : wr.cell? ⟨gb, k, none⟩ = some (.string (ofL b)) := (Row.cell hsr k (by omega)).trans (by rw [List.getElem?_map, hb]; rfl)
            obtain ⟨u, hu⟩ : ∃ u, u = ofL b := ⟨_, rfl⟩
            have hut : u.toList = b := by rw [hu, ofL_toList]
            rw [← hu] at hsb
            have KR := Lib.hid (readb_any u wr)
            rw [hut] at KR
            have Hb := Lib.hid hb
            have Hnone : Hid ((∀ cs, cs ≠ [] → ¬ BlockOf b cs) → ∀ bss, ¬ IsT s.toList bss) := Lib.hid fun h css hT => by
              obtain ⟨_, h3, h4⟩ := Hsc.out css hT
              obtain ⟨c, hc⟩ : ∃ c, css[k]? = some c := ⟨_, List.getElem?_eq_getElem (by have := Hm.out; omega)⟩
              have h5 := h4 k c hc
              rw [Hb.out] at h5
              cases h5
              obtain ⟨h6, h7⟩ := hT.good.each c (List.mem_of_getElem? hc)
              exact h c h6 h7
            clear hb hu hut hsr
            go_wp2_with fail
            refine KR.out.mono ?_
            rintro e w3 ⟨hcase, hb3⟩
            have hI3 := hI.out.below hb3
            have hz3 := hb3.size
            rcases hcase with ⟨cs, v11, hbk, rfl, ho⟩ | ⟨hno, rfl⟩
            · by_cases hne : cs = []
              · subst hne
                have HN := Lib.hid (Hno.out w3 (Hnone.out fun ds hd hk => hd (block_inj hk hbk)) hI3.bel)
                obtain ⟨a0, c0, e9, _⟩ := Own.cells ho
                subst e9
                clear ho hI3 hb3 hbk Hsc
                go_wp2_with fail
                exact HN.out
              · obtain ⟨q1, hq1⟩ : ∃ q1, cs.length = q1 + 1 := ⟨cs.length - 1, by have := List.length_pos_iff.2 hne; omega⟩
                obtain ⟨g, c, rfl, hg1, hg2⟩ : ∃ g c, v11 = .slice (some ⟨g, 0, none⟩) (q1 + 1) c ∧ wr.heap.size ≤ g ∧ g < w3.heap.size := by
                  rcases Row.form ho with ⟨_, e0⟩ | ⟨g, c, e0, e1, e2, _⟩
                  · omega
                  · exact ⟨g, c, by rw [e0, hq1], e1, e2⟩
                obtain ⟨ao9, cap9, e9, hcs⟩ := Own.cells ho
                rw [hq1] at e9 hcs
                cases e9
                have hap := hI.out.fresh hb3 (ad := ⟨g, 0, none⟩) hg1 hg2
                have HAP := Lib.hid hap
                have HCS := Lib.hid hcs
                have hKn := hK.out.snoc hne Hb.out hbk
                have hcnt : 6 * (bss ++ [cs]).flatten.length ≤ s.size := Nat.le_trans (readK_cells hKn.each) (by rw [← Hq.out]; exact hln)
                rw [List.flatten_append, List.length_append, List.flatten_singleton, hq1] at hcnt
                have hfl : (bss ++ [cs]).flatten = bss.flatten ++ cs := by rw [List.flatten_append, List.flatten_singleton]
                have HKn := Lib.hid hKn
                have Hfl := Lib.hid hfl
                have hal : bss.flatten.length + (q1 + 1) ≤ 1000000 := by omega
                have hbl9 : bss.length ≤ 1099511627776 := by rw [hK.out.len]; omega
                have hz4 : w.heap.size ≤ w3.heap.size := by omega
                have hq9 : ((q1 : Int) + 1 == 0) = false := by simp; omega
                obtain ⟨i0, hi0, iz0, iz1, iz2⟩ := info_parts Try.info_cells
                obtain ⟨j0, hj0, jz0, jz1, jz2⟩ := info_parts Try.info_cell
                have Hi0 := Lib.hid hi0
                have Hj0 := Lib.hid hj0
                have HI3 := Lib.hid hI3
                have v0 := hI3.c0
                have hq1p : 0 < q1 + 1 := Nat.succ_pos _
                clear hi0 hj0 ho hI3 hb3 hbk Hsc hap hcs hKn hcnt hfl hne hq1 hI hK Hnone HFR hbl
                go_wp2_with (first
                  | (at_builtin; refine wpList_append_C _ rfl _ _ 32 rfl w.heap.size j0 _ 64 Try.underlying32 Hj0.out jz0 jz1 jz2 rfl (by decide) va bss.flatten rfl HI4.out.all ⟨g, 0, none⟩ (q1 + 1) c cs HC4.out.1 hq1p rfl hal hz5 ?_; intro va5 w5 ho5 hb5 hg5 hq5; have HI5 := Lib.hid (HI4.out.more ho5 hb5 hg5 hq5); clear ho5 hb5 hg5 hq5)
                  | (at_builtin; refine wpList_append_B w3 rfl _ _ 51 rfl w.heap.size 32 i0 Try.underlying51 Hi0.out iz0 iz1 iz2 v bss rfl HI3.out.blk (some ⟨g, 0, none⟩) (q1 + 1) c cs HCS.out ?had rfl hbl9 hz4 ?_; (case had => (intro pp hpp; cases hpp; exact ⟨HAP.out.own, HAP.out.lt, HAP.out.no⟩)); intro v4 w4 ho4 hb4 hg4 hq4; obtain ⟨ao4, cap4, e4⟩ := ho4.form; obtain ⟨n4, hn4⟩ : ∃ n, n = (bss ++ [cs]).length := ⟨_, rfl⟩; rw [← hn4] at e4; subst e4; clear hn4; obtain ⟨⟨e0, e1⟩, hI4, hC4⟩ := HI3.out.push ho4 hb4 hg4 hq4; have HI4 := Lib.hid hI4; have HC4 := Lib.hid (hC4 _ _ _ _ HAP.out HCS.out); have hz5 := hI4.bel.size; clear ho4 hb4 hg4 hq4 hI4 hC4))
                exact ⟨⟨k + 1, _, bss ++ [cs], by omega, by go_num, by rw [Hfl.out]; exact HI5, HKn⟩, by simp [intOf]; omega⟩
            · have HN := Lib.hid (Hno.out w3 (Hnone.out fun ds _ => hno ds) hI3.bel)
              clear hI3 hb3 Hsc
              go_wp2_with fail
              exact HN.out
          · obtain rfl : k = m := by omega
            have hcnt : 6 * bss.flatten.length ≤ s.size := Nat.le_trans (readK_cells hK.out.each) (by rw [← Hq.out]; exact hln)
            have hg := hK.out.good
            have hok : ∀ c ∈ bss.flatten, c.Ok := fun c hc => cellL_ok (hg.cells c hc)
            have Hsame : Hid (∀ css, IsT s.toList css → css = bss) := Lib.hid fun css hT => by
              obtain ⟨_, h3, _⟩ := Hsc.out css hT
              have h4 := hT.blocks (by rw [Hsl.out]; omega) HFR.out (css := bss) (k := k) hK.out.len (by rw [Hm.out]; exact Nat.le_refl _) (fun j c hj => (hK.out.each j c hj).2)
              rw [h4, List.take_of_length_le (by have := Hm.out; omega)]
            obtain ⟨ao9, cap9, e9, hc9⟩ := Own.cells hI.out.all
            subst e9
            have KO := Lib.hid (ordered_any ao9 _ cap9 _ wr hc9 hok)
            have Hc9 := Lib.hid hc9
            obtain ⟨n9, hn9⟩ : ∃ n9, n9 = bss.flatten.length := ⟨_, rfl⟩
            rw [← hn9] at KO
            have hn9s : n9 ≤ 80000 := by omega
            obtain ⟨ao6, cap6, e6⟩ := hI.out.blk.form
            rw [hK.out.len] at e6
            subst e6
            have Hcnt := Lib.hid hcnt
            have hblk := hI.out.blk.bb
            have Hblk := Lib.hid hblk
            have hv0 := hI.out.c0
            have hpl := hI.out.lt
            rw [← hn9] at hI ⊢
            clear hn9 hc9 hblk hcnt hok
            by_cases hwr : wrongB bss.flatten = true
            · have HN := Lib.hid (fun (W : World) (hW : Below w.heap.size w W) => Hno.out W (fun css hT => by
                have e := Hsame.out css hT
                have := hT.rise
                rw [e, hwr] at this
                cases this) hW)
              rw [hwr] at KO
              have KO : Hid (Calls Try.prog 17 #[.slice ao9 n9 cap9] wr fun e w' => e = .returned (.bool false) ∧ Below wr.heap.size wr w') := KO
              have hIb := Lib.hid hI.out.bel
              clear hwr hg hI Hsc Hblk hv0
              go_wp2_with fail
              refine KO.out.mono ?_
              rintro e w3 ⟨rfl, hb3⟩
              have HN2 := Lib.hid (HN.out w3 (hIb.out.trans (hb3.mono hzr)))
              clear hb3
              go_wp2_with fail
              exact HN2.out
            · rw [Bool.not_eq_true] at hwr
              rw [hwr] at KO
              have KO : Hid (Calls Try.prog 17 #[.slice ao9 n9 cap9] wr fun e w' => e = .returned (.bool true) ∧ Below wr.heap.size wr w') := KO
              have KL := Lib.hid fun (W : World) (hW : BB W ao6 k cap6 bss) => lay_table ao6 k cap6 bss W hW hg (by omega) (by have := Hcnt.out; omega)
              obtain ⟨ut, hut⟩ : ∃ u, u = ofL (tableL bss) := ⟨_, rfl⟩
              rw [← hut] at KL
              by_cases hse : ut = s
              · have hT : IsT s.toList bss := ⟨hg, hwr, by rw [← hse, hut, ofL_toList]⟩
                have hff : f = ofL (filterL bss) := by
                  obtain ⟨h5, _⟩ := hT.bodies (by rw [Hsl.out]; omega) HFR.out
                  have h6 := Hfb.out
                  rw [h5] at h6
                  unfold bodiesL at h6
                  rw [List.getElem?_append_right (by rw [List.length_map, hK.out.len]; omega), List.length_map, hK.out.len, Nat.add_sub_cancel_left] at h6
                  rw [Hf.out]
                  cases h6
                  rfl
                have HT := Lib.hid hT
                have HFF := Lib.hid hff
                subst hse
                clear hwr hg Hsc hut hT hff
                go_wp2_with fail
                refine KO.out.mono ?_
                rintro e w3 ⟨rfl, hb3⟩
                have hI3 := Lib.hid (hI.out.below hb3)
                have hB3 := Lib.hid (Hblk.out.below hb3)
                have hv3 := hI3.out.c0
                have hz3 := hb3.size
                clear hb3 hv0 hI Hblk
                go_wp2_with fail
                refine (KL.out w3 hB3.out).mono ?_
                rintro e w4 ⟨rfl, hb4⟩
                have hI4 := Lib.hid (hI3.out.below hb4)
                clear hb4 hI3 hB3 hv3
                go_wp2_with fail
                exact Hyes.out _ bss p HT.out (hI4.out.table HFF.out) hz1' hI4.out.bel
              · have HN := Lib.hid (fun (W : World) (hW : Below w.heap.size w W) => Hno.out W (fun css hT => by
                  have e := Hsame.out css hT
                  subst e
                  exact hse (by rw [hut, ← hT.eq]; exact toList_inj.1 (by rw [ofL_toList]))) hW)
                obtain ⟨ne1, ne2⟩ := ne_of hse
                clear hwr hg Hsc hut
                go_wp2_with fail
                refine KO.out.mono ?_
                rintro e w3 ⟨rfl, hb3⟩
                have hI3 := Lib.hid (hI.out.below hb3)
                have hB3 := Lib.hid (Hblk.out.below hb3)
                have hv3 := hI3.out.c0
                have hz3 := hb3.size
                clear hb3 hv0 hI Hblk
                go_wp2_with fail
                refine (KL.out w3 hB3.out).mono ?_
                rintro e w4 ⟨rfl, hb4⟩
                have hI4 := Lib.hid (hI3.out.below hb4)
                have HN2 := Lib.hid (HN.out w4 hI4.out.bel)
                clear hb4 hI3 hB3 hv3
                go_wp2_with fail
                exact HN2.out
      · have HN := Lib.hid (Hno.out w1 (fun bss h => by have := (Hsc.out bss h).2.1; omega) HB1.out)
        obtain ⟨q, hq⟩ : ∃ q, q = lenFr bs := ⟨_, rfl⟩
        rw [← hq] at hgd hln ⊢
        have hq2 : ((q : Int) != (s.size : Int) - 16) = false := by simp; omega
        have h01 : bs.length = 0 ∨ bs.length = 1 := by omega
        clear hq hgd
        rcases h01 with h | h
        · rw [h]
          clear h2 h hbl HOB Hsc HFR
          go_wp2_with fail
          exact HN.out
        · rw [h]
          clear h2 h hbl HOB Hsc HFR
          go_wp2_with fail
          exact HN.out
    · have HN := Lib.hid (Hno.out w1 (fun bss h => hgd (Hsc.out bss h).1) HB1.out)
      obtain ⟨q, hq⟩ : ∃ q, q = lenFr bs := ⟨_, rfl⟩
      rw [← hq] at hgd hln ⊢
      have hgl : ((q : Int) != (s.size : Int) - 16) = true := by simp; omega
      clear hq
      go_wp2_with fail
      exact HN.out
end Go.Proofs.Ytihglmicgccgiaa
