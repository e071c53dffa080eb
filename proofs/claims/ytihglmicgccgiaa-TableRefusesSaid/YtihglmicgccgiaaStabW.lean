/-
  The walks of slices.stableCmpFunc and slices.SortStableFunc at cells, of any length.
-/
import Derived.Test.YtihglmicgccgiaaSymMW
namespace Go.Proofs.Ytihglmicgccgiaa
open Go.RowKit Go.Sort

/-- all that the sort keeps -/
structure Same (L cs : List CellA) (n : Nat) : Prop where
  flt : ∀ x, L.filter (eqvC x) = cs.filter (eqvC x)
  len : L.length = n
/-- blocks of bs cells are sorted -/
structure Blk (L cs : List CellA) (n bs : Nat) : Prop where
  same : Same L cs n
  blk : ∀ t, bs ∣ t → t < n → SrtOn L t (min (t + bs) n)
/-- the same, up to a in blocks of twice as many -/
structure Blk2 (L cs : List CellA) (n bs a : Nat) : Prop where
  same : Same L cs n
  done : ∀ t, 2 * bs ∣ t → t < a → t < n → SrtOn L t (min (t + 2 * bs) n)
  todo : ∀ t, bs ∣ t → a ≤ t → t < n → SrtOn L t (min (t + bs) n)

theorem dvd_step {k t a : Nat} (h1 : k ∣ t) (h2 : k ∣ a) (h : t < a) : t + k ≤ a := by
  obtain ⟨x, rfl⟩ := h1
  obtain ⟨y, rfl⟩ := h2
  have : x < y := Nat.lt_of_mul_lt_mul_left h
  have := Nat.mul_le_mul_left k (show x + 1 ≤ y by omega)
  rwa [Nat.mul_add, Nat.mul_one] at this

/-- one stretch sorted anew -/
theorem srtOn_keep {L Z : List CellA} {a b i j : Nat} (hab : a ≤ b) (hbl : b ≤ L.length) (hz : Z.length = b - a) (h : SrtOn L i j) (ho : j ≤ a ∨ b ≤ i) : SrtOn (L.take a ++ Z ++ L.drop b) i j := by
  rw [three (l := L) hab] at h
  rcases ho with ho | ho
  · exact srtOn_pre (by rw [List.length_take]; omega) h
  · exact srtOn_suf (by rw [hz, List.length_take, List.length_drop]; omega) (by rw [List.length_take, List.length_take, List.length_drop]; omega) h
theorem same_keep {L Z cs : List CellA} {a b n : Nat} (hab : a ≤ b) (hbl : b ≤ n) (hz : IsSort Z ((L.drop a).take (b - a))) (h : Same L cs n) : Same (L.take a ++ Z ++ L.drop b) cs n := by
  have hl := h.len
  refine ⟨fun x => ?_, ?_⟩
  · rw [← h.flt x]
    conv => rhs; rw [three (l := L) hab]
    simp only [List.filter_append, hz.flt]
  · have := hz.len
    rw [List.length_take, List.length_drop] at this
    simp only [List.length_append, List.length_take, List.length_drop]; omega
theorem srtOn_new {L Z : List CellA} {a b : Nat} (hbl : a ≤ L.length) (hz : Z.length = b - a) (hab : a ≤ b) (h : Srt Z) : SrtOn (L.take a ++ Z ++ L.drop b) a b :=
  srtOn_mid h (by rw [List.length_take]; omega) (by omega)

theorem blk2_start {L cs : List CellA} {n bs : Nat} (h : Blk L cs n bs) : Blk2 L cs n bs 0 := ⟨h.same, fun t _ h => by omega, fun t h1 _ h2 => h.blk t h1 h2⟩
theorem blk2_end {L cs : List CellA} {n bs a : Nat} (h : Blk2 L cs n bs a) (hd : 2 * bs ∣ a) (ha : n ≤ a + bs) : Blk L cs n (2 * bs) := by
  refine ⟨h.same, fun t h1 h2 => ?_⟩
  rcases Nat.lt_or_ge t a with h3 | h3
  · exact h.done t h1 h3 h2
  · rcases Nat.eq_or_lt_of_le h3 with h4 | h4
    · subst h4
      have := h.todo a (Nat.dvd_trans (Nat.dvd_mul_left bs 2) hd) (Nat.le_refl _) h2
      rwa [show min (a + 2 * bs) n = min (a + bs) n by omega]
    · have := dvd_step hd h1 h4; omega
theorem blk2_next {L cs Z : List CellA} {n bs a b : Nat} (h : Blk2 L cs n bs a) (h0 : 0 < bs) (hd : 2 * bs ∣ a) (hb : b = min (a + 2 * bs) n) (ham : a + bs < n) (hz : IsSort Z ((L.drop a).take (b - a))) : Blk2 (L.take a ++ Z ++ L.drop b) cs n bs (a + 2 * bs) := by
  have hl := h.same.len
  have hzl := hz.len
  rw [List.length_take, List.length_drop] at hzl
  refine ⟨same_keep (by omega) (by omega) hz h.same, fun t h1 h2 h3 => ?_, fun t h1 h2 h3 => ?_⟩
  · rcases Nat.lt_or_ge t a with h4 | h4
    · have := dvd_step h1 hd h4
      exact srtOn_keep (by omega) (by omega) (by omega) (h.done t h1 h4 h3) (.inl (by omega))
    · obtain rfl : t = a := by
        rcases Nat.eq_or_lt_of_le h4 with h5 | h5
        · exact h5.symm
        · have := dvd_step hd h1 h5; omega
      rw [← hb]
      exact srtOn_new (by omega) (by omega) (by omega) hz.srt
  · exact srtOn_keep (by omega) (by omega) (by omega) (h.todo t h1 (by omega) h3) (.inr (by omega))
theorem blk2_last {L cs : List CellA} {n bs a : Nat} (h : Blk2 L cs n bs a) (ha : n ≤ a) : Blk L cs n (2 * bs) := ⟨h.same, fun t h1 h2 => h.done t h1 (by omega) h2⟩

/-- blocks of twenty, up to a -/
structure Blk20 (L cs : List CellA) (n a : Nat) : Prop where
  same : Same L cs n
  done : ∀ t, 20 ∣ t → t < a → SrtOn L t (min (t + 20) n)
theorem blk20_next {L cs Z : List CellA} {n a b : Nat} (h : Blk20 L cs n a) (hd : 20 ∣ a) (hb : b = min (a + 20) n) (han : a ≤ n) (hz : IsSort Z ((L.drop a).take (b - a))) : Blk20 (L.take a ++ Z ++ L.drop b) cs n (a + 20) := by
  have hl := h.same.len
  have hzl := hz.len
  rw [List.length_take, List.length_drop] at hzl
  refine ⟨same_keep (by omega) (by omega) hz h.same, fun t h1 h2 => ?_⟩
  rcases Nat.lt_or_ge t a with h4 | h4
  · exact srtOn_keep (by omega) (by omega) (by omega) (h.done t h1 h4) (.inl (by omega))
  · obtain rfl : t = a := by omega
    rw [← hb]
    exact srtOn_new (by omega) (by omega) (by omega) hz.srt
theorem blk20_end {L cs : List CellA} {n a : Nat} (h : Blk20 L cs n a) (han : n ≤ a) : Blk L cs n 20 := ⟨h.same, fun t h1 h2 => h.done t h1 (by omega)⟩
theorem blk_sorted {L cs : List CellA} {n bs : Nat} (h : Blk L cs n bs) (hn : n ≤ bs) : L = isort cs := by
  refine isort_of ?_ h.same.flt
  rcases Nat.eq_zero_or_pos n with h0 | h0
  · rw [len_zero (h.same.len.trans h0)]; exact List.Pairwise.nil
  · have := h.blk 0 (Nat.dvd_zero _) h0
    rw [show min (0 + bs) n = n by omega] at this
    exact srtOn_all this (by rw [h.same.len]; exact Nat.le_refl _)

theorem sort_on {w : World} {B g n cap gb gs : Nat} {L : List CellA} (h : SortW w B g n cap gb gs L) {a b : Nat} (hab : a ≤ b) (hbn : b ≤ n) : SortW w B g n cap gb gs (L.take a ++ (L.drop a).take (b - a) ++ L.drop b) := by
  rw [← three hab]; exact h
theorem insertion_z (L : List CellA) (g cap n a b gb gs B : Nat) (za zb : Int) (w : World) (hza : za = a) (hzb : zb = b) (hab : a ≤ b) (hbn : b ≤ n) (h : SortW w B g n cap gb gs L) (h1 : gb ≠ g) (h2 : gs ≠ g) (hle : n ≤ 1000000) :
    Calls Try.prog 86 #[.slice (some ⟨g, 0, none⟩) n cap, .int .i64 za, .int .i64 zb, .func (.func 78) #[] #[.pointer (some ⟨gb, 0, none⟩)]] w
      fun e w' => e = .returned (.tuple #[]) ∧ (∃ Z, IsSort Z ((L.drop a).take (b - a)) ∧ SortW w' B g n cap gb gs (L.take a ++ Z ++ L.drop b)) ∧ w.grownBy w' (some g) := by
  subst hza hzb
  have hl := h.len
  have h3 := sort_on h hab hbn
  refine (insertion_any (L.take a) ((L.drop a).take (b - a)) (L.drop b) g cap n a b gb gs B w (by rw [List.length_take]; omega) (by rw [List.length_take, List.length_drop]; omega) h3.len h3.row h3.ord h1 h2 hle).mono ?_
  rintro e w' ⟨rfl, hr, hg⟩
  refine ⟨rfl, ⟨_, isort_spec _, hr, ?_, h3.ord.grown hg h1 h2⟩, hg⟩
  rw [← h3.len]
  simp only [List.length_append, isort_len]
theorem sym_z (L : List CellA) (g cap n a m b gb gs B : Nat) (za zm zb : Int) (w : World) (hza : za = a) (hzm : zm = m) (hzb : zb = b) (ham : a < m) (hmb : m < b) (hbn : b ≤ n) (hx : SrtOn L a m) (hy : SrtOn L m b) (h : SortW w B g n cap gb gs L) (h1 : gb ≠ g) (h2 : gs ≠ g) (hle : n ≤ 1000000) :
    Calls Try.prog 87 #[.slice (some ⟨g, 0, none⟩) n cap, .int .i64 za, .int .i64 zm, .int .i64 zb, .func (.func 78) #[] #[.pointer (some ⟨gb, 0, none⟩)]] w
      fun e w' => e = .returned (.tuple #[]) ∧ (∃ Z, IsSort Z ((L.drop a).take (b - a)) ∧ SortW w' B g n cap gb gs (L.take a ++ Z ++ L.drop b)) ∧ w.grownBy w' (some g) := by
  subst hza hzm hzb
  have hl := h.len
  have e : (L.drop a).take (b - a) = (L.drop a).take (m - a) ++ (L.drop m).take (b - m) := by
    rw [show b - a = (m - a) + (b - m) by omega, List.take_add, List.drop_drop, show a + (m - a) = m by omega]
  have h3 := sort_on h (show a ≤ b by omega) hbn
  rw [e, ← List.append_assoc] at h3
  have := symmerge_any g cap n gb gs B h1 h2 hle (b - a) (L.take a) ((L.drop a).take (m - a)) ((L.drop m).take (b - m)) (L.drop b) a m b w (Nat.le_refl _) (by rw [List.length_take]; omega) (by rw [List.length_take, List.length_drop]; omega) (by rw [List.length_take, List.length_drop]; omega) ham hmb hx hy h3
  rw [e]
  exact this

set_option maxRecDepth 100000 in
set_option maxHeartbeats 4000000 in
theorem stable_any (cs : List CellA) (g cap n gb gs B : Nat) (w : World) (h : SortW w B g n cap gb gs cs) (h1 : gb ≠ g) (h2 : gs ≠ g) (hle : n ≤ 1000000) :
    Calls Try.prog 79 #[.slice (some ⟨g, 0, none⟩) n cap, .int .i64 n, .func (.func 78) #[] #[.pointer (some ⟨gb, 0, none⟩)]] w
      fun e w' => e = .returned (.tuple #[]) ∧ SortW w' B g n cap gb gs (isort cs) ∧ w.grownBy w' (some g) := by
  obtain ⟨hc1, hc2⟩ := h.cap
  have H := Lib.hid h
  clear h
  go_enter Try.func79, Try.ntmps79
  go_wp2
  go_loopw [7, 8] (fun i j wr => ∃ (a : Nat) (L : List CellA), i = .int .i64 a ∧ j = .int .i64 ((a : Int) + 20) ∧ a ≤ n ∧ 20 ∣ a ∧ Hid (Blk20 L cs n a) ∧ Hid (SortW wr B g n cap gb gs L) ∧ Hid (w.grownBy wr (some g))) (fun i _ _ => n + 20 - (intOf i).toNat)
  case atStart => exact ⟨0, cs, rfl, rfl, by omega, by omega, Lib.hid ⟨⟨fun _ => rfl, H.out.len⟩, fun t _ h => by omega⟩, H, Lib.hid gb_row⟩
  case round =>
    obtain ⟨a, L, rfl, rfl, han, hd, hB0, hW, hG⟩ := hrel
    by_cases hlt : a + 20 ≤ n
    · have hc : decide ((a : Int) + 20 ≤ (n : Int)) = true := by simp; omega
      go_wp2_with (go_at_call 86; refine (insertion_z L g cap n a (a + 20) gb gs B _ _ _ rfl (by omega) (by omega) hlt hW.out h1 h2 hle).mono ?_; rintro e w1 ⟨rfl, ⟨Z, hz, hS⟩, hg⟩; have Hz := Lib.hid hz; have HS := Lib.hid hS; have Hg := Lib.hid (gb_trans hG.out hg); clear hz hS hg)
      exact ⟨⟨a + 20, _, by go_num, by go_num, hlt, by omega, Lib.hid (blk20_next hB0.out hd (by omega) han Hz.out), HS, Hg⟩, by simp [intOf]; omega⟩
    · have hc : decide ((a : Int) + 20 ≤ (n : Int)) = false := by simp; omega
      obtain ⟨wo, rfl⟩ : ∃ wo : World, wo = wr := ⟨_, rfl⟩
      go_wp2_with (go_at_call 86; refine (insertion_z L g cap n a n gb gs B _ _ _ rfl rfl han (Nat.le_refl _) hW.out h1 h2 hle).mono ?_; rintro e w1 ⟨rfl, ⟨Z, hz, hS⟩, hg⟩; have Hz := Lib.hid hz; have HS := Lib.hid hS; have Hg := Lib.hid (gb_trans hG.out hg); clear hz hS hg)
      have HB1 : Hid (Blk (L.take a ++ Z ++ L.drop n) cs n 20) := Lib.hid (blk20_end (blk20_next hB0.out hd (by omega) han Hz.out) (by omega))
      obtain ⟨L1, hL1⟩ : ∃ L1, L1 = L.take a ++ Z ++ L.drop n := ⟨_, rfl⟩
      rw [← hL1] at HB1 HS
      clear hL1 Hz hB0 hW hG hd hlt
      go_loopw [6, 7, 8, 9] (fun s _ _ _ wr => ∃ (bs : Nat) (L : List CellA), s = .int .i64 bs ∧ 20 ≤ bs ∧ bs ≤ 2000000 ∧ Hid (Blk L cs n bs) ∧ Hid (SortW wr B g n cap gb gs L) ∧ Hid (w.grownBy wr (some g))) (fun s _ _ _ _ => n - (intOf s).toNat)
      case atStart => exact ⟨20, L1, rfl, by omega, by omega, HB1, HS, Hg⟩
      case round =>
        obtain ⟨bs, L, rfl, hb20, hbs, hB, hW, hG⟩ := hrel
        by_cases hlt : bs < n
        · have hbs1 : bs ≤ 1000000 := by omega
          obtain ⟨wo, rfl⟩ : ∃ wo : World, wo = wr := ⟨_, rfl⟩
          go_wp2
          go_loopw [7, 8] (fun i j wr => ∃ (a : Nat) (L : List CellA), i = .int .i64 a ∧ j = .int .i64 ((a : Int) + 2 * bs) ∧ a ≤ n ∧ 2 * bs ∣ a ∧ Hid (Blk2 L cs n bs a) ∧ Hid (SortW wr B g n cap gb gs L) ∧ Hid (w.grownBy wr (some g))) (fun i _ _ => n - (intOf i).toNat)
          case atStart => exact ⟨0, L, by go_num, by first | rfl | (congr 1; omega), by omega, Nat.dvd_zero _, Lib.hid (blk2_start hB.out), hW, hG⟩
          case round =>
            obtain ⟨a, L, rfl, rfl, han, hd, hB2, hW2, hG2⟩ := hrel
            have Hd := Lib.hid hd
            clear hd
            have Hda := Lib.hid (Nat.dvd_trans (Nat.dvd_mul_left bs 2) Hd.out)
            have Hdb : Hid (bs ∣ a + bs) := Lib.hid (Nat.dvd_add Hda.out (Nat.dvd_refl bs))
            by_cases hle2 : a + 2 * bs ≤ n
            · have hc : decide ((a : Int) + 2 * (bs : Int) ≤ (n : Int)) = true := by simp; omega
              have hX : Hid (SrtOn L a (a + bs)) := Lib.hid (by have := hB2.out.todo a Hda.out (Nat.le_refl _) (by omega); rwa [show min (a + bs) n = a + bs by omega] at this)
              have hY : Hid (SrtOn L (a + bs) (a + 2 * bs)) := Lib.hid (by have := hB2.out.todo (a + bs) Hdb.out (by omega) (by omega); rwa [show min (a + bs + bs) n = a + 2 * bs by omega] at this)
              go_wp2_with (go_at_call 87; refine (sym_z L g cap n a (a + bs) (a + 2 * bs) gb gs B _ _ _ _ rfl (by omega) (by omega) (by omega) (by omega) hle2 hX.out hY.out hW2.out h1 h2 hle).mono ?_; rintro e w1 ⟨rfl, ⟨Z, hz, hS⟩, hg⟩; have Hz := Lib.hid hz; have HS := Lib.hid hS; have Hg := Lib.hid (gb_trans hG2.out hg); clear hz hS hg)
              exact ⟨⟨a + 2 * bs, _, by go_num, by first | rfl | go_num | (congr 1; omega), hle2, Nat.dvd_add Hd.out (Nat.dvd_refl _), Lib.hid (blk2_next hB2.out (by omega) Hd.out (by omega) (by omega) Hz.out), HS, Hg⟩, by simp [intOf]; omega⟩
            · have hc : decide ((a : Int) + 2 * (bs : Int) ≤ (n : Int)) = false := by simp; omega
              by_cases hm : a + bs < n
              · have hc2 : decide ((a : Int) + (bs : Int) < (n : Int)) = true := by simp; omega
                have hX : Hid (SrtOn L a (a + bs)) := Lib.hid (by have := hB2.out.todo a Hda.out (Nat.le_refl _) (by omega); rwa [show min (a + bs) n = a + bs by omega] at this)
                have hY : Hid (SrtOn L (a + bs) n) := Lib.hid (by have := hB2.out.todo (a + bs) Hdb.out (by omega) (by omega); rwa [show min (a + bs + bs) n = n by omega] at this)
                go_wp2_with (go_at_call 87; refine (sym_z L g cap n a (a + bs) n gb gs B _ _ _ _ rfl (by omega) rfl (by omega) (by omega) (Nat.le_refl _) hX.out hY.out hW2.out h1 h2 hle).mono ?_; rintro e w1 ⟨rfl, ⟨Z, hz, hS⟩, hg⟩; have Hz := Lib.hid hz; have HS := Lib.hid hS; have Hg := Lib.hid (gb_trans hG2.out hg); clear hz hS hg)
                exact ⟨⟨2 * bs, _, by congr 1; omega, by omega, by omega, Lib.hid (blk2_last (blk2_next hB2.out (by omega) Hd.out (by omega) (by omega) Hz.out) (by omega)), HS, Hg⟩, by simp [intOf]; omega⟩
              · have hc2 : decide ((a : Int) + (bs : Int) < (n : Int)) = false := by simp; omega
                go_wp2
                exact ⟨⟨2 * bs, L, by congr 1; omega, by omega, by omega, Lib.hid (blk2_end hB2.out Hd.out (by omega)), hW2, hG2⟩, by simp [intOf]; omega⟩
        · have hfin := Lib.hid (blk_sorted hB.out (by omega))
          go_wp2
          go_returns
          exact ⟨rfl, by rw [← hfin.out]; exact hW.out, hG.out⟩

set_option maxHeartbeats 1000000 in
theorem sortStable_any (cs : List CellA) (g cap n gb gs B : Nat) (w : World) (h : SortW w B g n cap gb gs cs) (h1 : gb ≠ g) (h2 : gs ≠ g) (hle : n ≤ 1000000) :
    Calls Try.prog 58 #[.slice (some ⟨g, 0, none⟩) n cap, .func (.func 78) #[] #[.pointer (some ⟨gb, 0, none⟩)]] w
      fun e w' => e = .returned (.tuple #[]) ∧ SortW w' B g n cap gb gs (isort cs) ∧ w.grownBy w' (some g) := by
  have Hins := Lib.hid (stable_any cs g cap n gb gs B w h h1 h2 hle)
  clear h
  go_enter Try.func58, Try.ntmps58
  go_wp2_with (go_at_call 79; refine Hins.out.mono ?_; rintro e w1 ⟨rfl, hr, hg⟩; have Hr := Lib.hid hr; have Hg := Lib.hid hg; clear hr hg)
  go_returns
  exact ⟨rfl, Hr.out, Hg.out⟩

end Go.Proofs.Ytihglmicgccgiaa
