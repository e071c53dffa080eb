/-
  The walk of slices.symMergeCmpFunc.
-/
import Derived.Test.YtihglmicgccgiaaSymRW
namespace Go.Proofs.Ytihglmicgccgiaa
open Go.RowKit Go.Sort

/-- what the search knows -/
structure Cut2 (L : List CellA) (pp lo hi s r : Nat) : Prop where
  lo : ∀ c, lo ≤ c → c < s → ∀ x y, L[c]? = some x → L[pp - c]? = some y → leC x y
  hi : ∀ c, r ≤ c → c < hi → ∀ x y, L[c]? = some x → L[pp - c]? = some y → cmpC y x < 0
/-- where the two sorted stretches lie -/
structure TwoS (L : List CellA) (a m b : Nat) : Prop where
  x : ∀ i j, a ≤ i → i ≤ j → j < m → ∀ p q, L[i]? = some p → L[j]? = some q → leC p q
  y : ∀ i j, m ≤ i → i ≤ j → j < b → ∀ p q, L[i]? = some p → L[j]? = some q → leC p q
theorem at_x {pre X R : List CellA} {a m i : Nat} (ha : pre.length = a) (hm : a + X.length = m) (h1 : a ≤ i) (h2 : i < m) : (pre ++ X ++ R)[i]? = X[i - a]? := by
  rw [List.append_assoc, List.getElem?_append_right (by omega), ha, List.getElem?_append_left (by omega)]
theorem at_y {pre X Y R : List CellA} {a m b i : Nat} (ha : pre.length = a) (hm : a + X.length = m) (hb : m + Y.length = b) (h1 : m ≤ i) (h2 : i < b) : (pre ++ X ++ Y ++ R)[i]? = Y[i - m]? := by
  have e : (pre ++ X).length = m := by rw [List.length_append, ha, hm]
  rw [List.append_assoc, List.getElem?_append_right (by omega), e, List.getElem?_append_left (by omega)]
theorem twoS {pre X Y suf : List CellA} {a m b : Nat} (ha : pre.length = a) (hm : a + X.length = m) (hb : m + Y.length = b) (hx : Srt X) (hy : Srt Y) : TwoS (pre ++ X ++ Y ++ suf) a m b := by
  refine ⟨fun i j h1 h2 h3 p q hp hq => ?_, fun i j h1 h2 h3 p q hp hq => ?_⟩
  · rw [List.append_assoc, at_x ha hm (by omega) (by omega)] at hp hq
    exact srt_at hx (by omega) hp hq
  · rw [at_y ha hm hb (by omega) (by omega)] at hp hq
    exact srt_at hy (by omega) hp hq
theorem Cut2.up {L : List CellA} {a m b pp lo hi s r h : Nat} (c : Cut2 L pp lo hi s r) (t : TwoS L a m b) (hr : ∀ c, lo ≤ c → c < hi → a ≤ c ∧ c < m ∧ m ≤ pp - c ∧ pp - c < b) (hh : h < hi) (hl : ∀ i, i < b → ∃ x, L[i]? = some x) (hmb : m ≤ b)
    {x y : CellA} (hx : L[h]? = some x) (hy : L[pp - h]? = some y) (hp : leC x y) (hlo : lo ≤ h) : Cut2 L pp lo hi (h + 1) r := by
  refine ⟨fun c h1 h2 x' y' hx' hy' => ?_, c.hi⟩
  obtain ⟨k1, k2, k3, k4⟩ := hr c h1 (by omega)
  obtain ⟨g1, g2, g3, g4⟩ := hr h hlo hh
  exact leC_trans (t.x c h k1 (by omega) g2 _ _ hx' hx) (leC_trans hp (t.y (pp - h) (pp - c) g3 (by omega) k4 _ _ hy hy'))
theorem Cut2.down {L : List CellA} {a m b pp lo hi s r h : Nat} (c : Cut2 L pp lo hi s r) (t : TwoS L a m b) (hr : ∀ c, lo ≤ c → c < hi → a ≤ c ∧ c < m ∧ m ≤ pp - c ∧ pp - c < b) (hlo : lo ≤ h) (hh : h < hi)
    {x y : CellA} (hx : L[h]? = some x) (hy : L[pp - h]? = some y) (hp : cmpC y x < 0) : Cut2 L pp lo hi s h := by
  refine ⟨c.lo, fun c h1 h2 x' y' hx' hy' => ?_⟩
  obtain ⟨k1, k2, k3, k4⟩ := hr c (by omega) h2
  obtain ⟨g1, g2, g3, g4⟩ := hr h hlo hh
  exact le_lt_trans (t.y (pp - c) (pp - h) k3 (by omega) g4 _ _ hy' hy) (lt_le_trans hp (t.x h c g1 h1 k2 _ _ hx hx'))

/-- the two lists in two parts each -/
structure SymParts (X Y X1 X2 Y1 Y2 : List CellA) (a m b mid s : Nat) : Prop where
  ex : X = X1 ++ X2
  ey : Y = Y1 ++ Y2
  l1 : X1.length = s - a
  l2 : X2.length = m - s
  l3 : Y1.length = mid - s
  l4 : Y2.length = b - (mid + m - s)
  s1 : Srt X1
  s2 : Srt X2
  s3 : Srt Y1
  s4 : Srt Y2
  fin : ∀ Z1 Z2, IsSort Z1 (X1 ++ Y1) → IsSort Z2 (X2 ++ Y2) → IsSort (Z1 ++ Z2) (X ++ Y)

theorem sym_parts {pre X Y suf : List CellA} {a m b mid s lo hi : Nat} (ha : pre.length = a) (hm : a + X.length = m) (hb : m + Y.length = b) (hx : Srt X) (hy : Srt Y) (hmid : mid = (a + b) / 2) (ham : a < m) (hmb : m < b)
    (h1 : a ≤ s) (h2 : s ≤ m) (h3 : s ≤ mid) (h4 : mid + m ≤ s + b) (hlo : a < s → mid + m < s + b → lo + 1 ≤ s) (hhi : s < m → s < mid → s < hi) (c : Cut2 (pre ++ X ++ Y ++ suf) (mid + m - 1) lo hi s s) :
    ∃ X1 X2 Y1 Y2, SymParts X Y X1 X2 Y1 Y2 a m b mid s := by
  have hxs : Srt (X.take (s - a) ++ X.drop (s - a)) := by rw [List.take_append_drop]; exact hx
  have hys : Srt (Y.take (mid - s) ++ Y.drop (mid - s)) := by rw [List.take_append_drop]; exact hy
  refine ⟨X.take (s - a), X.drop (s - a), Y.take (mid - s), Y.drop (mid - s), ⟨(List.take_append_drop _ _).symm, (List.take_append_drop _ _).symm, by rw [List.length_take]; omega, by rw [List.length_drop]; omega, by rw [List.length_take]; omega, by rw [List.length_drop]; omega,
    (srt_append.1 hxs).1, (srt_append.1 hxs).2.1, (srt_append.1 hys).1, (srt_append.1 hys).2.1, fun Z1 Z2 z1 z2 => ?_⟩⟩
  have := merge_split hxs hys (fun y hy' x hx' => ?_) (fun x hx' y hy' => ?_) z1 z2
  · rwa [List.take_append_drop, List.take_append_drop] at this
  · obtain ⟨i, hi'⟩ := List.mem_iff_getElem?.1 hy'
    obtain ⟨j, hj'⟩ := List.mem_iff_getElem?.1 hx'
    rw [List.getElem?_take] at hi'
    split at hi'
    · rename_i hi2
      rw [List.getElem?_drop] at hj'
      have hjl := (List.getElem?_eq_some_iff.1 hj').1
      obtain ⟨x0, hx0⟩ : ∃ x0, X[s - a]? = some x0 := ⟨_, List.getElem?_eq_getElem (by omega)⟩
      obtain ⟨y0, hy0⟩ : ∃ y0, Y[mid - s - 1]? = some y0 := ⟨_, List.getElem?_eq_getElem (by omega)⟩
      have := c.hi s (Nat.le_refl _) (hhi (by omega) (by omega)) x0 y0 (by rw [List.append_assoc, at_x ha hm (by omega) (by omega)]; exact hx0)
        (by rw [at_y ha hm hb (by omega) (by omega), show mid + m - 1 - s - m = mid - s - 1 by omega]; exact hy0)
      exact le_lt_trans (srt_at hy (by omega) hi' hy0) (lt_le_trans this (srt_at hx (by omega) hx0 hj'))
    · cases hi'
  · obtain ⟨i, hi'⟩ := List.mem_iff_getElem?.1 hx'
    obtain ⟨j, hj'⟩ := List.mem_iff_getElem?.1 hy'
    rw [List.getElem?_take] at hi'
    split at hi'
    · rename_i hi2
      rw [List.getElem?_drop] at hj'
      have hjl := (List.getElem?_eq_some_iff.1 hj').1
      obtain ⟨x0, hx0⟩ : ∃ x0, X[s - 1 - a]? = some x0 := ⟨_, List.getElem?_eq_getElem (by omega)⟩
      obtain ⟨y0, hy0⟩ : ∃ y0, Y[mid - s]? = some y0 := ⟨_, List.getElem?_eq_getElem (by omega)⟩
      have h5 := hlo (by omega) (by omega)
      have := c.lo (s - 1) (by omega) (by omega) x0 y0 (by rw [List.append_assoc, at_x ha hm (by omega) (by omega)]; exact hx0)
        (by rw [at_y ha hm hb (by omega) (by omega), show mid + m - 1 - (s - 1) - m = mid - s by omega]; exact hy0)
      exact leC_trans (srt_at hx (by omega) hi' hx0) (leC_trans this (srt_at hy (by omega) hy0 hj'))
    · cases hi'

/-- what a call of symMerge does -/
def SymAt (g cap n gb gs B d : Nat) : Prop := ∀ (pre X Y suf : List CellA) (a m b : Nat) (w : World), b - a ≤ d → pre.length = a → a + X.length = m → m + Y.length = b → a < m → m < b → Srt X → Srt Y → SortW w B g n cap gb gs (pre ++ X ++ Y ++ suf) →
    Calls Try.prog 87 #[.slice (some ⟨g, 0, none⟩) n cap, .int .i64 a, .int .i64 m, .int .i64 b, .func (.func 78) #[] #[.pointer (some ⟨gb, 0, none⟩)]] w
      fun e w' => e = .returned (.tuple #[]) ∧ (∃ Z, IsSort Z (X ++ Y) ∧ SortW w' B g n cap gb gs (pre ++ Z ++ suf)) ∧ w.grownBy w' (some g)

theorem SortW.of {w : World} {B g n cap gb gs : Nat} {cs ds : List CellA} (h : SortW w B g n cap gb gs cs) (e : cs = ds) : SortW w B g n cap gb gs ds := e ▸ h

/-- the three last steps of symMerge, as states -/
structure SymTail (w : World) (pre X Y suf : List CellA) (g cap n a m b gb gs B mid s e : Nat) (S1 S2 S3 : World → Prop) : Prop where
  k0 : s < m → m < e → ∀ W, SortW W B g n cap gb gs (pre ++ X ++ Y ++ suf) → w.grownBy W (some g) → Calls Try.prog 88 #[.slice (some ⟨g, 0, none⟩) n cap, .int .i64 s, .int .i64 m, .int .i64 e, .func (.func 78) #[] #[.pointer (some ⟨gb, 0, none⟩)]] W fun e w' => e = .returned (.tuple #[]) ∧ S1 w'
  n0 : ¬ (s < m ∧ m < e) → ∀ W, SortW W B g n cap gb gs (pre ++ X ++ Y ++ suf) → w.grownBy W (some g) → S1 W
  k1 : a < s → s < mid → ∀ W, S1 W → Calls Try.prog 87 #[.slice (some ⟨g, 0, none⟩) n cap, .int .i64 a, .int .i64 s, .int .i64 mid, .func (.func 78) #[] #[.pointer (some ⟨gb, 0, none⟩)]] W fun e w' => e = .returned (.tuple #[]) ∧ S2 w'
  n1 : ¬ (a < s ∧ s < mid) → ∀ W, S1 W → S2 W
  k2 : mid < e → e < b → ∀ W, S2 W → Calls Try.prog 87 #[.slice (some ⟨g, 0, none⟩) n cap, .int .i64 mid, .int .i64 e, .int .i64 b, .func (.func 78) #[] #[.pointer (some ⟨gb, 0, none⟩)]] W fun e w' => e = .returned (.tuple #[]) ∧ S3 w'
  n2 : ¬ (mid < e ∧ e < b) → ∀ W, S2 W → S3 W
  fin : ∀ W, S3 W → (∃ Z, IsSort Z (X ++ Y) ∧ SortW W B g n cap gb gs (pre ++ Z ++ suf)) ∧ w.grownBy W (some g)

theorem len_zero {l : List CellA} (h : l.length = 0) : l = [] := List.eq_nil_of_length_eq_zero h

theorem sym_tail {w : World} {pre X Y suf X1 X2 Y1 Y2 : List CellA} {g cap n a m b gb gs B mid s e : Nat} (hP : SymParts X Y X1 X2 Y1 Y2 a m b mid s) (ha : pre.length = a) (hm : a + X.length = m) (hb : m + Y.length = b) (hs1 : a ≤ s) (hs2 : s ≤ m) (hs3 : s ≤ mid) (hs4 : mid + m ≤ s + b)
    (he : e + s = mid + m) (hma : a < mid) (hmb : mid < b) (h1 : gb ≠ g) (h2 : gs ≠ g) (hle : n ≤ 1000000) (hn : (pre ++ X ++ Y ++ suf).length = n) (ih : SymAt g cap n gb gs B (b - a - 1)) : ∃ S1 S2 S3, SymTail w pre X Y suf g cap n a m b gb gs B mid s e S1 S2 S3 := by
  obtain ⟨ex, ey, l1, l2, l3, l4, s1, s2, s3, s4, fin⟩ := hP
  have eL : pre ++ X ++ Y ++ suf = pre ++ X1 ++ X2 ++ Y1 ++ (Y2 ++ suf) := by rw [ex, ey]; simp
  refine ⟨fun W => SortW W B g n cap gb gs (pre ++ X1 ++ Y1 ++ (X2 ++ Y2 ++ suf)) ∧ w.grownBy W (some g), fun W => ∃ Z1, IsSort Z1 (X1 ++ Y1) ∧ SortW W B g n cap gb gs (pre ++ Z1 ++ (X2 ++ Y2 ++ suf)) ∧ w.grownBy W (some g),
    fun W => (∃ Z, IsSort Z (X ++ Y) ∧ SortW W B g n cap gb gs (pre ++ Z ++ suf)) ∧ w.grownBy W (some g), ⟨fun g1 g2 W hW hG => ?_, fun hno W hW hG => ?_, fun g1 g2 W hW => ?_, fun hno W hW => ?_, fun g1 g2 W hW => ?_, fun hno W hW => ?_, fun W h => h⟩⟩
  · have hW' := hW.of eL
    refine (rotate_any (pre ++ X1) X2 Y1 (Y2 ++ suf) g cap n s m e B _ W (by rw [List.length_append]; omega) (by omega) (by omega) (by omega) (by omega) hW'.len hW'.row hle).mono ?_
    rintro e' w' ⟨rfl, hr, hg⟩
    have e2 : pre ++ X1 ++ Y1 ++ X2 ++ (Y2 ++ suf) = pre ++ X1 ++ Y1 ++ (X2 ++ Y2 ++ suf) := by simp
    refine ⟨rfl, ⟨by rw [← e2]; exact hr, ?_, hW.ord.grown hg h1 h2⟩, gb_trans hG hg⟩
    rw [← hn, eL]; simp only [List.length_append]; omega
  · refine ⟨hW.of ?_, hG⟩
    rw [eL]
    rcases Nat.lt_or_ge s m with h | h
    · have : Y1 = [] := len_zero (by omega)
      subst this; simp
    · have : X2 = [] := len_zero (by omega)
      subst this; simp
  · refine (ih pre X1 Y1 (X2 ++ Y2 ++ suf) a s mid W (by omega) ha (by omega) (by omega) g1 g2 s1 s3 hW.1).mono ?_
    rintro e' w' ⟨rfl, ⟨Z, hz, hS⟩, hg⟩
    exact ⟨rfl, Z, hz, hS, gb_trans hW.2 hg⟩
  · refine ⟨X1 ++ Y1, ?_, by rw [← List.append_assoc pre]; exact hW.1, hW.2⟩
    rcases Nat.lt_or_ge a s with h | h
    · have : Y1 = [] := len_zero (by omega)
      subst this; rw [List.append_nil]; exact IsSort.of_srt s1
    · have : X1 = [] := len_zero (by omega)
      subst this; rw [List.nil_append]; exact IsSort.of_srt s3
  · obtain ⟨Z1, z1, hS, hG⟩ := hW
    have zl := z1.len
    rw [List.length_append] at zl
    refine (ih (pre ++ Z1) X2 Y2 suf mid e b W (by omega) (by rw [List.length_append]; omega) (by omega) (by omega) g1 g2 s2 s4 (hS.of (by simp))).mono ?_
    rintro e' w' ⟨rfl, ⟨Z, hz, hS'⟩, hg⟩
    exact ⟨rfl, ⟨Z1 ++ Z, fin _ _ z1 hz, hS'.of (by simp)⟩, gb_trans hG hg⟩
  · obtain ⟨Z1, z1, hS, hG⟩ := hW
    refine ⟨⟨Z1 ++ (X2 ++ Y2), fin _ _ z1 ?_, hS.of (by simp)⟩, hG⟩
    rcases Nat.lt_or_ge mid e with h | h
    · have : Y2 = [] := len_zero (by omega)
      subst this; rw [List.append_nil]; exact IsSort.of_srt s2
    · have : X2 = [] := len_zero (by omega)
      subst this; rw [List.nil_append]; exact IsSort.of_srt s4

set_option maxRecDepth 100000 in
set_option maxHeartbeats 16000000 in
theorem symmerge_main (pre X Y suf : List CellA) (g cap n a m b gb gs B : Nat) (w : World) (ha : pre.length = a) (hm : a + X.length = m) (hb : m + Y.length = b) (hx1 : 2 ≤ X.length) (hy1 : 2 ≤ Y.length) (hx : Srt X) (hy : Srt Y) (hrow : SortW w B g n cap gb gs (pre ++ X ++ Y ++ suf)) (h1 : gb ≠ g) (h2 : gs ≠ g) (hle : n ≤ 1000000)
    (ih : SymAt g cap n gb gs B (b - a - 1)) :
    Calls Try.prog 87 #[.slice (some ⟨g, 0, none⟩) n cap, .int .i64 a, .int .i64 m, .int .i64 b, .func (.func 78) #[] #[.pointer (some ⟨gb, 0, none⟩)]] w
      fun e w' => e = .returned (.tuple #[]) ∧ (∃ Z, IsSort Z (X ++ Y) ∧ SortW w' B g n cap gb gs (pre ++ Z ++ suf)) ∧ w.grownBy w' (some g) := by
  obtain ⟨hc1, hc2⟩ := hrow.cap
  have hbn : b ≤ n := by rw [← hrow.len, ← hb, ← hm, ← ha]; simp only [List.length_append]; omega
  have hab : a + 2 ≤ m := by omega
  have hmb : m + 2 ≤ b := by omega
  have hd0 : ((m : Int) - (a : Int) == 1) = false := by rw [beq_eq_false_iff_ne]; omega
  have hd1 : ((b : Int) - (m : Int) == 1) = false := by rw [beq_eq_false_iff_ne]; omega
  obtain ⟨mid, hmid⟩ : ∃ mid, mid = (a + b) / 2 := ⟨_, rfl⟩
  obtain ⟨nn, hnn⟩ : ∃ nn, nn = mid + m := ⟨_, rfl⟩
  obtain ⟨pp, hpp⟩ : ∃ pp, pp + 1 = nn := ⟨nn - 1, by omega⟩
  have hm1 : ((a : Int) + (b : Int)) / 2 = (mid : Int) := by omega
  have hm2 : (mid : Int) + (m : Int) = (nn : Int) := by omega
  have hm3 : (nn : Int) - 1 = (pp : Int) := by omega
  have hma : a < mid := by omega
  have hmidb : mid < b := by omega
  have hnnb : nn ≤ 2000000 := by omega
  have hppb : pp ≤ 2000000 := by omega
  obtain ⟨lo, hlo⟩ : ∃ lo, lo = if mid < m then nn - b else a := ⟨_, rfl⟩
  obtain ⟨hi, hhi⟩ : ∃ hi, hi = if mid < m then mid else m := ⟨_, rfl⟩
  have hT := Lib.hid (twoS (suf := suf) ha hm hb hx hy)
  have hl0 : Hid (∀ i, i < b → ∃ x, (pre ++ X ++ Y ++ suf)[i]? = some x) := Lib.hid fun i h => ⟨_, List.getElem?_eq_getElem (by rw [hrow.len]; omega)⟩
  have Hrow := Lib.hid hrow
  have Ha := Lib.hid ha
  have Hm := Lib.hid hm
  have Hb := Lib.hid hb
  have Hx := Lib.hid hx
  have Hy := Lib.hid hy
  have Hmid := Lib.hid hmid
  have Hnn := Lib.hid hnn
  have Hpp := Lib.hid hpp
  have IH := Lib.hid ih
  clear hrow ha hb hx hm hx1 hy1 hy ih
  obtain ⟨L, hL⟩ : ∃ L, L = pre ++ X ++ Y ++ suf := ⟨_, rfl⟩
  have HL := Lib.hid hL
  rw [← hL] at hT hl0 Hrow
  clear hL
  rcases Nat.lt_or_ge mid m with hmm | hmm
  · rw [if_pos hmm] at hlo hhi
    have hlo2 : (nn : Int) - (b : Int) = (lo : Int) := by omega
    have hgt : decide (mid < m) = true := by simp; omega
    have hst : Hid ((nn : Int) - (b : Int) = (lo : Int)) := Lib.hid hlo2
    have Hr : Hid (∀ c, lo ≤ c → c < hi → a ≤ c ∧ c < m ∧ m ≤ pp - c ∧ pp - c < b) := Lib.hid (by intro c h1 h2; omega)
    have hlom : lo ≤ hi := by omega
    have halo : a ≤ lo := by omega
    have hhim : hi ≤ m := by omega
    have hhimid : hi ≤ mid := by omega
    have hq1 : Hid (∀ s, lo ≤ s → mid + m ≤ s + b) := Lib.hid (fun s h => by omega)
    have hq2 : Hid (∀ s, a < s → mid + m < s + b → lo + 1 ≤ s) := Lib.hid (fun s h h' => by omega)
    have hq3 : Hid (∀ s, s < m → s < mid → s < hi) := Lib.hid (fun s h h' => by omega)
    have Hlo := Lib.hid hlo
    have Hhi := Lib.hid hhi
    clear hmid hnn hpp hlo hhi
    go_enter Try.func87, Try.ntmps87
    go_wp2
    go_loopw [20, 21] (fun i j wr => ∃ I J : Nat, i = .int .i64 I ∧ j = .int .i64 J ∧ lo ≤ I ∧ I ≤ J ∧ J ≤ hi ∧ Hid (Cut2 L pp lo hi I J) ∧ Hid (SortW wr B g n cap gb gs L) ∧ Hid (w.grownBy wr (some g))) (fun i j _ => (intOf j).toNat - (intOf i).toNat)
    case atStart => exact ⟨lo, hi, rfl, by congr 1; have := Hhi.out; omega, by omega, by omega, by omega, Lib.hid ⟨fun c _ _ => by omega, fun c _ _ => by omega⟩, Hrow, Lib.hid gb_row⟩
    case round =>
      obtain ⟨I, J, rfl, rfl, hI, hIJ, hJ, hC, hW, hG⟩ := hrel
      by_cases hlt : I < J
      · obtain ⟨h, hh⟩ : ∃ h : Nat, h = (I + J) / 2 := ⟨_, rfl⟩
        have hh1 : ((I : Int) + (J : Int)) / 2 = (h : Int) := by omega
        have hh2 : I ≤ h := by omega
        have hh3 : h < J := by omega
        have hhn : h < n := by omega
        have hrh := Hr.out h (by omega) (by omega)
        obtain ⟨q, hq⟩ : ∃ q, q = pp - h := ⟨_, rfl⟩
        have hq0 : (pp : Int) - (h : Int) = (q : Int) := by omega
        have hqn : q < n := by omega
        obtain ⟨x, hx⟩ := hl0.out h (by omega)
        obtain ⟨y, hy⟩ := hl0.out q (by omega)
        have hy' := hy
        rw [hq] at hy'
        have hln := hW.out.len
        obtain ⟨x0, x1, x2, x3, x4⟩ := Row.cellAt hW.out.row hln hx
        obtain ⟨y0, y1, y2, y3, y4⟩ := Row.cellAt hW.out.row hln hy
        have hcm := Lib.hid fun W h => order_any y x gb gs W h
        have Hx2 := Lib.hid hx
        have Hy2 := Lib.hid hy'
        obtain ⟨z, hz⟩ : ∃ z, cmpC y x = z := ⟨_, rfl⟩
        rw [hz] at hcm
        have Hz := Lib.hid hz
        have hgl : g < wr.heap.size := World.block_lt_of_cell? _ _ x0
        clear hz hx hln hh hy hy' hq hrh
        by_cases hneg : z < 0
        · have hneg1 : decide (z < 0) = true := by simpa using hneg
          go_wp2
          refine wp_region_below (by kernel_rfl) (by kernel_rfl) (fun hkept => ?_)
          obtain ⟨r0, rf0⟩ := hkept (g) (by go_size); clear hkept
          repeat (any_goals (first | go_big_quiet_step (first | (go_at_call 78; exact Calls.regrown_of (hcm.out _ (hW.out.ord.below (below_regrown _ _ _))))) | quiet_step (first | (go_at_call 78; exact Calls.regrown_of (hcm.out _ (hW.out.ord.below (below_regrown _ _ _))))) | (refine wpQuiet_step (fun K hK => ?_); go_simp; split <;> (refine hK _ ?_; clear hK K))))
          all_goals (refine wpQuiet_nil ?_; intro w5 hb; obtain ⟨hB, hS, hk⟩ := after (B := wr.heap.size) (w := wr) (by go_grown) (by go_size) hb; obtain ⟨c0, f0, z0⟩ := hk (g) (by go_size); clear hk hb r0 rf0)
          go_wp2
          exact ⟨⟨I, h, rfl, rfl, by omega, by omega, by omega, Lib.hid (hC.out.down hT.out Hr.out (by omega) (by omega) Hx2.out Hy2.out (by rw [Hz.out]; omega)), Lib.hid (hW.out.below hB), Lib.hid (gb_below hG.out hB)⟩, by simp [intOf]; omega⟩
        · have hneg1 : decide (z < 0) = false := by simpa using hneg
          go_wp2
          refine wp_region_below (by kernel_rfl) (by kernel_rfl) (fun hkept => ?_)
          obtain ⟨r0, rf0⟩ := hkept (g) (by go_size); clear hkept
          repeat (any_goals (first | go_big_quiet_step (first | (go_at_call 78; exact Calls.regrown_of (hcm.out _ (hW.out.ord.below (below_regrown _ _ _))))) | quiet_step (first | (go_at_call 78; exact Calls.regrown_of (hcm.out _ (hW.out.ord.below (below_regrown _ _ _))))) | (refine wpQuiet_step (fun K hK => ?_); go_simp; split <;> (refine hK _ ?_; clear hK K))))
          all_goals (refine wpQuiet_nil ?_; intro w5 hb; obtain ⟨hB, hS, hk⟩ := after (B := wr.heap.size) (w := wr) (by go_grown) (by go_size) hb; obtain ⟨c0, f0, z0⟩ := hk (g) (by go_size); clear hk hb r0 rf0)
          go_wp2
          exact ⟨⟨h + 1, J, by go_num, rfl, by omega, by omega, hJ, Lib.hid (hC.out.up hT.out Hr.out (by omega) hl0.out (by omega) Hx2.out Hy2.out (by unfold leC; rw [Hz.out]; omega) (by omega)), Lib.hid (hW.out.below hB), Lib.hid (gb_below hG.out hB)⟩, by simp [intOf]; omega⟩
      · obtain rfl : I = J := by omega
        clear hlt hIJ
        obtain ⟨e, he⟩ : ∃ e, e = nn - I := ⟨_, rfl⟩
        have hnI : I ≤ nn := by have := Hnn.out; omega
        have he1 : (nn : Int) - (I : Int) = (e : Int) := by omega
        have c := hC.out
        rw [HL.out, show pp = mid + m - 1 by have := Hnn.out; have := Hpp.out; omega] at c
        obtain ⟨X1, X2, Y1, Y2, hP⟩ := sym_parts Ha.out Hm.out Hb.out Hx.out Hy.out Hmid.out (by omega) (by omega) (by omega) (by omega) (by omega) (hq1.out I hI) (hq2.out I) (hq3.out I) c
        have e0 : e + I = mid + m := by have := Hnn.out; omega
        obtain ⟨S1, S2, S3, hTl⟩ := sym_tail (w := w) hP Ha.out Hm.out Hb.out (by omega) (by omega) (by omega) (hq1.out I hI) e0 (by omega) (by omega) h1 h2 hle (by rw [← HL.out]; exact Hrow.out.len) IH.out
        have HT := Lib.hid hTl
        have hW2 : Hid (SortW wr B g n cap gb gs (pre ++ X ++ Y ++ suf)) := Lib.hid (hW.out.of HL.out)
        have hqI := hq1.out I hI
        have hen : e ≤ b := by omega
        have E0 := Lib.hid e0
        clear c hP hTl he
        have cA : (I < m ∧ m < e) ∨ ¬ (I < m) ∨ (I < m ∧ ¬ (m < e)) := by omega
        have cB : (a < I ∧ I < mid) ∨ ¬ (a < I) ∨ (a < I ∧ ¬ (I < mid)) := by omega
        have cC : (mid < e ∧ e < b) ∨ ¬ (mid < e) ∨ (mid < e ∧ ¬ (e < b)) := by omega
        rcases cA with ⟨a1, a2⟩ | a1 | ⟨a1, a2⟩ <;> rcases cB with ⟨b1, b2⟩ | b1 | ⟨b1, b2⟩ <;> rcases cC with ⟨c1, c2⟩ | c1 | ⟨c1, c2⟩
        all_goals first
          | (exfalso; omega)
          | skip
        all_goals
          try have d1 : decide ((I : Int) < (m : Int)) = true := by simp; omega
          try have d1 : decide ((I : Int) < (m : Int)) = false := by simp; omega
          try have d2 : decide ((m : Int) < (e : Int)) = true := by simp; omega
          try have d2 : decide ((m : Int) < (e : Int)) = false := by simp; omega
          try have d3 : decide ((a : Int) < (I : Int)) = true := by simp; omega
          try have d3 : decide ((a : Int) < (I : Int)) = false := by simp; omega
          try have d4 : decide ((I : Int) < (mid : Int)) = true := by simp; omega
          try have d4 : decide ((I : Int) < (mid : Int)) = false := by simp; omega
          try have d5 : decide ((mid : Int) < (e : Int)) = true := by simp; omega
          try have d5 : decide ((mid : Int) < (e : Int)) = false := by simp; omega
          try have d6 : decide ((e : Int) < (b : Int)) = true := by simp; omega
          try have d6 : decide ((e : Int) < (b : Int)) = false := by simp; omega
          try have H1 := Lib.hid (HT.out.n0 (by omega) _ hW2.out hG.out)
          clear e0 hqI
          go_wp2_with (first
            | (go_at_call 88; refine (HT.out.k0 (by omega) (by omega) _ hW2.out hG.out).mono ?_; rintro e w1 ⟨rfl, hs1⟩; have H1 := Lib.hid hs1; clear hs1)
            | (go_at_call 87; (with_reducible refine (HT.out.k1 (by omega) (by omega) _ H1.out).mono ?_); rintro e w2 ⟨rfl, hs2⟩; have H2 := Lib.hid hs2; clear hs2)
            | (go_at_call 87; (with_reducible refine (HT.out.k2 (by omega) (by omega) _ (by first | exact H2.out | exact HT.out.n1 (by omega) _ H1.out)).mono ?_); rintro e w3 ⟨rfl, hs3⟩; have H3 := Lib.hid hs3; clear hs3))
          go_returns
          exact ⟨rfl, HT.out.fin _ (by first | exact H3.out | exact HT.out.n2 (by omega) _ H2.out | exact HT.out.n2 (by omega) _ (HT.out.n1 (by omega) _ H1.out))⟩
  · rw [if_neg (by omega)] at hlo hhi
    have hgt : decide (mid < m) = false := by simp; omega
    have Hr : Hid (∀ c, lo ≤ c → c < hi → a ≤ c ∧ c < m ∧ m ≤ pp - c ∧ pp - c < b) := Lib.hid (by intro c h1 h2; omega)
    have hlom : lo ≤ hi := by omega
    have halo : a ≤ lo := by omega
    have hhim : hi ≤ m := by omega
    have hhimid : hi ≤ mid := by omega
    have hq1 : Hid (∀ s, lo ≤ s → mid + m ≤ s + b) := Lib.hid (fun s h => by omega)
    have hq2 : Hid (∀ s, a < s → mid + m < s + b → lo + 1 ≤ s) := Lib.hid (fun s h h' => by omega)
    have hq3 : Hid (∀ s, s < m → s < mid → s < hi) := Lib.hid (fun s h h' => by omega)
    have Hlo := Lib.hid hlo
    have Hhi := Lib.hid hhi
    clear hmid hnn hpp hlo hhi
    go_enter Try.func87, Try.ntmps87
    go_wp2
    go_loopw [20, 21] (fun i j wr => ∃ I J : Nat, i = .int .i64 I ∧ j = .int .i64 J ∧ lo ≤ I ∧ I ≤ J ∧ J ≤ hi ∧ Hid (Cut2 L pp lo hi I J) ∧ Hid (SortW wr B g n cap gb gs L) ∧ Hid (w.grownBy wr (some g))) (fun i j _ => (intOf j).toNat - (intOf i).toNat)
    case atStart => exact ⟨lo, hi, by congr 1; have := Hlo.out; omega, by congr 1; have := Hhi.out; omega, by omega, by omega, by omega, Lib.hid ⟨fun c _ _ => by omega, fun c _ _ => by omega⟩, Hrow, Lib.hid gb_row⟩
    case round =>
      obtain ⟨I, J, rfl, rfl, hI, hIJ, hJ, hC, hW, hG⟩ := hrel
      by_cases hlt : I < J
      · obtain ⟨h, hh⟩ : ∃ h : Nat, h = (I + J) / 2 := ⟨_, rfl⟩
        have hh1 : ((I : Int) + (J : Int)) / 2 = (h : Int) := by omega
        have hh2 : I ≤ h := by omega
        have hh3 : h < J := by omega
        have hhn : h < n := by omega
        have hrh := Hr.out h (by omega) (by omega)
        obtain ⟨q, hq⟩ : ∃ q, q = pp - h := ⟨_, rfl⟩
        have hq0 : (pp : Int) - (h : Int) = (q : Int) := by omega
        have hqn : q < n := by omega
        obtain ⟨x, hx⟩ := hl0.out h (by omega)
        obtain ⟨y, hy⟩ := hl0.out q (by omega)
        have hy' := hy
        rw [hq] at hy'
        have hln := hW.out.len
        obtain ⟨x0, x1, x2, x3, x4⟩ := Row.cellAt hW.out.row hln hx
        obtain ⟨y0, y1, y2, y3, y4⟩ := Row.cellAt hW.out.row hln hy
        have hcm := Lib.hid fun W h => order_any y x gb gs W h
        have Hx2 := Lib.hid hx
        have Hy2 := Lib.hid hy'
        obtain ⟨z, hz⟩ : ∃ z, cmpC y x = z := ⟨_, rfl⟩
        rw [hz] at hcm
        have Hz := Lib.hid hz
        have hgl : g < wr.heap.size := World.block_lt_of_cell? _ _ x0
        clear hz hx hln hh hy hy' hq hrh
        by_cases hneg : z < 0
        · have hneg1 : decide (z < 0) = true := by simpa using hneg
          go_wp2
          refine wp_region_below (by kernel_rfl) (by kernel_rfl) (fun hkept => ?_)
          obtain ⟨r0, rf0⟩ := hkept (g) (by go_size); clear hkept
          repeat (any_goals (first | go_big_quiet_step (first | (go_at_call 78; exact Calls.regrown_of (hcm.out _ (hW.out.ord.below (below_regrown _ _ _))))) | quiet_step (first | (go_at_call 78; exact Calls.regrown_of (hcm.out _ (hW.out.ord.below (below_regrown _ _ _))))) | (refine wpQuiet_step (fun K hK => ?_); go_simp; split <;> (refine hK _ ?_; clear hK K))))
          all_goals (refine wpQuiet_nil ?_; intro w5 hb; obtain ⟨hB, hS, hk⟩ := after (B := wr.heap.size) (w := wr) (by go_grown) (by go_size) hb; obtain ⟨c0, f0, z0⟩ := hk (g) (by go_size); clear hk hb r0 rf0)
          go_wp2
          exact ⟨⟨I, h, rfl, rfl, by omega, by omega, by omega, Lib.hid (hC.out.down hT.out Hr.out (by omega) (by omega) Hx2.out Hy2.out (by rw [Hz.out]; omega)), Lib.hid (hW.out.below hB), Lib.hid (gb_below hG.out hB)⟩, by simp [intOf]; omega⟩
        · have hneg1 : decide (z < 0) = false := by simpa using hneg
          go_wp2
          refine wp_region_below (by kernel_rfl) (by kernel_rfl) (fun hkept => ?_)
          obtain ⟨r0, rf0⟩ := hkept (g) (by go_size); clear hkept
          repeat (any_goals (first | go_big_quiet_step (first | (go_at_call 78; exact Calls.regrown_of (hcm.out _ (hW.out.ord.below (below_regrown _ _ _))))) | quiet_step (first | (go_at_call 78; exact Calls.regrown_of (hcm.out _ (hW.out.ord.below (below_regrown _ _ _))))) | (refine wpQuiet_step (fun K hK => ?_); go_simp; split <;> (refine hK _ ?_; clear hK K))))
          all_goals (refine wpQuiet_nil ?_; intro w5 hb; obtain ⟨hB, hS, hk⟩ := after (B := wr.heap.size) (w := wr) (by go_grown) (by go_size) hb; obtain ⟨c0, f0, z0⟩ := hk (g) (by go_size); clear hk hb r0 rf0)
          go_wp2
          exact ⟨⟨h + 1, J, by go_num, rfl, by omega, by omega, hJ, Lib.hid (hC.out.up hT.out Hr.out (by omega) hl0.out (by omega) Hx2.out Hy2.out (by unfold leC; rw [Hz.out]; omega) (by omega)), Lib.hid (hW.out.below hB), Lib.hid (gb_below hG.out hB)⟩, by simp [intOf]; omega⟩
      · obtain rfl : I = J := by omega
        clear hlt hIJ
        obtain ⟨e, he⟩ : ∃ e, e = nn - I := ⟨_, rfl⟩
        have hnI : I ≤ nn := by have := Hnn.out; omega
        have he1 : (nn : Int) - (I : Int) = (e : Int) := by omega
        have c := hC.out
        rw [HL.out, show pp = mid + m - 1 by have := Hnn.out; have := Hpp.out; omega] at c
        obtain ⟨X1, X2, Y1, Y2, hP⟩ := sym_parts Ha.out Hm.out Hb.out Hx.out Hy.out Hmid.out (by omega) (by omega) (by omega) (by omega) (by omega) (hq1.out I hI) (hq2.out I) (hq3.out I) c
        have e0 : e + I = mid + m := by have := Hnn.out; omega
        obtain ⟨S1, S2, S3, hTl⟩ := sym_tail (w := w) hP Ha.out Hm.out Hb.out (by omega) (by omega) (by omega) (hq1.out I hI) e0 (by omega) (by omega) h1 h2 hle (by rw [← HL.out]; exact Hrow.out.len) IH.out
        have HT := Lib.hid hTl
        have hW2 : Hid (SortW wr B g n cap gb gs (pre ++ X ++ Y ++ suf)) := Lib.hid (hW.out.of HL.out)
        have hqI := hq1.out I hI
        have hen : e ≤ b := by omega
        have E0 := Lib.hid e0
        clear c hP hTl he
        have cA : (I < m ∧ m < e) ∨ ¬ (I < m) ∨ (I < m ∧ ¬ (m < e)) := by omega
        have cB : (a < I ∧ I < mid) ∨ ¬ (a < I) ∨ (a < I ∧ ¬ (I < mid)) := by omega
        have cC : (mid < e ∧ e < b) ∨ ¬ (mid < e) ∨ (mid < e ∧ ¬ (e < b)) := by omega
        rcases cA with ⟨a1, a2⟩ | a1 | ⟨a1, a2⟩ <;> rcases cB with ⟨b1, b2⟩ | b1 | ⟨b1, b2⟩ <;> rcases cC with ⟨c1, c2⟩ | c1 | ⟨c1, c2⟩
        all_goals first
          | (exfalso; omega)
          | skip
        all_goals
          try have d1 : decide ((I : Int) < (m : Int)) = true := by simp; omega
          try have d1 : decide ((I : Int) < (m : Int)) = false := by simp; omega
          try have d2 : decide ((m : Int) < (e : Int)) = true := by simp; omega
          try have d2 : decide ((m : Int) < (e : Int)) = false := by simp; omega
          try have d3 : decide ((a : Int) < (I : Int)) = true := by simp; omega
          try have d3 : decide ((a : Int) < (I : Int)) = false := by simp; omega
          try have d4 : decide ((I : Int) < (mid : Int)) = true := by simp; omega
          try have d4 : decide ((I : Int) < (mid : Int)) = false := by simp; omega
          try have d5 : decide ((mid : Int) < (e : Int)) = true := by simp; omega
          try have d5 : decide ((mid : Int) < (e : Int)) = false := by simp; omega
          try have d6 : decide ((e : Int) < (b : Int)) = true := by simp; omega
          try have d6 : decide ((e : Int) < (b : Int)) = false := by simp; omega
          try have H1 := Lib.hid (HT.out.n0 (by omega) _ hW2.out hG.out)
          clear e0 hqI
          go_wp2_with (first
            | (go_at_call 88; refine (HT.out.k0 (by omega) (by omega) _ hW2.out hG.out).mono ?_; rintro e w1 ⟨rfl, hs1⟩; have H1 := Lib.hid hs1; clear hs1)
            | (go_at_call 87; (with_reducible refine (HT.out.k1 (by omega) (by omega) _ H1.out).mono ?_); rintro e w2 ⟨rfl, hs2⟩; have H2 := Lib.hid hs2; clear hs2)
            | (go_at_call 87; (with_reducible refine (HT.out.k2 (by omega) (by omega) _ (by first | exact H2.out | exact HT.out.n1 (by omega) _ H1.out)).mono ?_); rintro e w3 ⟨rfl, hs3⟩; have H3 := Lib.hid hs3; clear hs3))
          go_returns
          exact ⟨rfl, HT.out.fin _ (by first | exact H3.out | exact HT.out.n2 (by omega) _ H2.out | exact HT.out.n2 (by omega) _ (HT.out.n1 (by omega) _ H1.out))⟩

theorem symmerge_any (g cap n gb gs B : Nat) (h1 : gb ≠ g) (h2 : gs ≠ g) (hle : n ≤ 1000000) : ∀ d, SymAt g cap n gb gs B d := by
  intro d
  induction d with
  | zero => intro pre X Y suf a m b w hd _ _ _ _ _; omega
  | succ d ih =>
    intro pre X Y suf a m b w hd ha hm hb ham hmb hx hy hrow
    by_cases hx1 : X.length = 1
    · obtain ⟨x, rfl⟩ := List.length_eq_one_iff.1 hx1
      exact symmerge_left pre x Y suf g cap n a m b gb gs B w ha (by simpa using hm) hb hy hrow h1 h2 hle
    · by_cases hy1 : Y.length = 1
      · obtain ⟨y, rfl⟩ := List.length_eq_one_iff.1 hy1
        exact symmerge_right pre X y suf g cap n a m b gb gs B w ha hm (by simpa using hb) hx1 hx hrow h1 h2 hle
      · refine symmerge_main pre X Y suf g cap n a m b gb gs B w ha hm hb (by omega) (by omega) hx hy hrow h1 h2 hle ?_
        intro pre X Y suf a' m' b' w hd' 
        exact ih pre X Y suf a' m' b' w (by omega)

end Go.Proofs.Ytihglmicgccgiaa
