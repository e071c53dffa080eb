/-
  The walk of seal.Sum, seal.laid and seal.Frame.
-/
import Derived.Test.YtihglmicgccgiaaSealT
import Derived.Test.YtihglmicgccgiaaBlkW
import Derived.Test.YtihglmicgccgiaaPartsB
namespace Go.Proofs.Ytihglmicgccgiaa
open Go.RowKit Go.Sort

/-- the table in memory -/
def Tab (V : World) (p : Nat) : Prop := p < V.heap.size ∧ ∀ j, j < 256 → V.cell? ⟨p, j, none⟩ = some (.int .u32 (tabV j))
theorem Tab.below {V V' : World} {p : Nat} (h : Tab V p) (hb : Below V.heap.size V V') : Tab V' p := ⟨by have := hb.size; have := h.1; omega, fun j hj => (hb.cell (p := ⟨p, j, none⟩) h.1).trans (h.2 j hj)⟩
theorem TabI.tab {w V : World} {p : Nat} (h : TabI w p 256 V) : Tab V p := ⟨by
  obtain ⟨c, h1, _⟩ := h.c
  exact (Array.getElem?_eq_some_iff.1 h1).1, fun _ hj => h.cell hj⟩
def idxS (x : Int) (b : UInt8) : Int := bits .xor .u8 (x % 256) b.toNat
def stepS (x : Int) (b : UInt8) : Int := bits .xor .u32 (x / 256) (tabV (idxS x b).toNat)
def foldS (x : Int) (l : List UInt8) : Int := l.foldl stepS x
def sumS (l : List UInt8) : Int := bits .xor .u32 IntKind.u32.max (foldS 4294967295 l)
theorem idxS_in (x : Int) (b : UInt8) : 0 ≤ idxS x b ∧ idxS x b < 256 := ⟨bits_lo_u8 _ _ _, by have := bits_hi_u8 .xor (x % 256) b.toNat; unfold idxS; omega⟩
theorem stepS_in (x : Int) (b : UInt8) : 0 ≤ stepS x b ∧ stepS x b ≤ 4294967295 := ⟨bits_lo_u32 _ _ _, bits_hi_u32 _ _ _⟩
theorem foldS_in : ∀ (l : List UInt8) {x : Int}, 0 ≤ x ∧ x ≤ 4294967295 → 0 ≤ foldS x l ∧ foldS x l ≤ 4294967295
  | [], _, h => h
  | b :: l, x, _ => foldS_in l (stepS_in x b)
theorem sumS_in (l : List UInt8) : 0 ≤ sumS l ∧ sumS l ≤ 4294967295 := ⟨bits_lo_u32 _ _ _, bits_hi_u32 _ _ _⟩
theorem foldS_snoc (x : Int) (l : List UInt8) (b : UInt8) : foldS x (l ++ [b]) = stepS (foldS x l) b := by simp [foldS]
theorem foldS_append (x : Int) (l m : List UInt8) : foldS x (l ++ m) = foldS (foldS x l) m := by simp [foldS]

set_option maxRecDepth 100000 in
set_option maxHeartbeats 2000000 in
theorem sum_any (g : Nat) (a b : ByteArray) (w : World) (hg : g < w.heap.size) (ha : w.cell? ⟨g, 0, none⟩ = some (.string a)) (hb : w.cell? ⟨g, 1, none⟩ = some (.string b)) (hla : a.size ≤ maxLen) (hlb : b.size ≤ maxLen) :
    Calls Try.prog 65 #[.slice (some ⟨g, 0, none⟩) 2 2] w fun e w' => e = .returned (.int .u32 (sumS (a.toList ++ b.toList))) ∧ Below w.heap.size w w' := by
  unfold maxLen at hla hlb
  obtain ⟨R, hR⟩ : ∃ R, R = sumS (a.toList ++ b.toList) := ⟨_, rfl⟩
  rw [← hR]
  obtain ⟨S, hS⟩ : ∃ S : Nat → ByteArray, S = fun k => if k = 0 then a else b := ⟨_, rfl⟩
  obtain ⟨F, hF⟩ : ∃ F : Nat → Int, F = fun k => if k = 0 then 4294967295 else if k = 1 then foldS 4294967295 a.toList else foldS (foldS 4294967295 a.toList) b.toList := ⟨_, rfl⟩
  have HS : Hid (∀ k, k < 2 → (S k).size ≤ 9223372036854775807 ∧ (∀ V, Below w.heap.size w V → V.cell? ⟨g, k, none⟩ = some (.string (S k))) ∧ F (k + 1) = foldS (F k) (S k).toList) := Lib.hid fun k hk => by
    have e1 : S 0 = a := by rw [hS]; rfl
    have e2 : S 1 = b := by rw [hS]; rfl
    rcases k with _ | _ | k
    · exact ⟨by rw [e1]; exact hla, fun V hV => by rw [e1]; exact (hV.cell (p := ⟨g, 0, none⟩) hg).trans ha, by rw [hF, e1]; rfl⟩
    · exact ⟨by rw [e2]; exact hlb, fun V hV => by rw [e2]; exact (hV.cell (p := ⟨g, 1, none⟩) hg).trans hb, by rw [hF, e2]; rfl⟩
    · omega
  have HF : Hid (F 0 = 4294967295 ∧ ∀ k, 0 ≤ F k ∧ F k ≤ 4294967295) := Lib.hid ⟨by rw [hF]; rfl, fun k => by
    rw [hF]
    simp only
    split
    · omega
    · split
      · exact foldS_in _ (by omega)
      · exact foldS_in _ (foldS_in _ (by omega))⟩
  have HR : Hid (R = bits .xor .u32 IntKind.u32.max (F 2)) := Lib.hid (by rw [hR, sumS, foldS_append, hF]; rfl)
  clear hR hS hF ha hb hla hlb
  go_enter Try.func65, Try.ntmps65
  go_wp2_with (go_at_call 81; refine (table_any w).mono ?_; rintro e w1 ⟨p, rfl, hT, hp⟩)
  have HT := Lib.hid hT.tab
  have HB := Lib.hid hT.bel
  clear hT
  go_wp2
  go_loopw [4, 11] (fun x i V => ∃ k : Nat, k ≤ 2 ∧ i = .int .i64 k ∧ x = .int .u32 (F k) ∧ Hid (Tab V p ∧ Below w.heap.size w V)) (fun _ i _ => 2 - (intOf i).toNat)
  case atStart => exact ⟨0, by omega, rfl, by rw [HF.out.1], Lib.hid ⟨HT.out, HB.out⟩⟩
  case round =>
    obtain ⟨k, hk, rfl, rfl, hV⟩ := hrel
    by_cases hlt : k < 2
    · obtain ⟨s1, s2, s3⟩ := HS.out k hlt
      obtain ⟨s, hs⟩ : ∃ s, s = S k := ⟨_, rfl⟩
      obtain ⟨x, hx⟩ : ∃ x, x = F k := ⟨_, rfl⟩
      have hx2 := HF.out.2 k
      have hcell := s2 wr hV.out.2
      have H3 := Lib.hid s3
      rw [← hs] at s1 hcell
      rw [← hs, ← hx] at H3
      rw [← hx] at hx2 ⊢
      have Hx2 := Lib.hid hx2
      clear s2 s3 hs hx hx2
      obtain ⟨W1, rfl⟩ : ∃ W : World, W = wr := ⟨_, rfl⟩
      go_wp2
      go_loopw [4, 17] (fun y i V => ∃ (r : Nat), r ≤ s.size ∧ i = .int .i64 r ∧ y = .int .u32 (foldS x (s.toList.take r)) ∧ Hid (Tab V p ∧ Below w.heap.size w V)) (fun _ i _ => s.size - (intOf i).toNat)
      case atStart => exact ⟨0, by omega, rfl, rfl, hV⟩
      case round =>
        obtain ⟨r, hr, rfl, rfl, hV2⟩ := hrel
        obtain ⟨y, hy⟩ : ∃ y, y = foldS x (s.toList.take r) := ⟨_, rfl⟩
        have hy2 := foldS_in (s.toList.take r) Hx2.out
        rw [← hy] at hy2 ⊢
        by_cases hr2 : r < s.size
        · have i1 := fun W => idx_at s r hr2 .i64 r rfl W
          have hn : stepS y s[r] = foldS x (s.toList.take (r + 1)) := by rw [List.take_add_one, byte_at hr2, hy]; exact (foldS_snoc _ _ _).symm
          obtain ⟨c, hc⟩ : ∃ c, c = s[r] := ⟨_, rfl⟩
          rw [← hc] at hn i1
          have HN := Lib.hid hn
          clear hc hy hn
          have j1 := (idxS_in y c)
          obtain ⟨n, hnn⟩ : ∃ n : Nat, idxS y c = n := ⟨(idxS y c).toNat, by omega⟩
          have hn256 : n < 256 := by omega
          have hpz := hV2.out.1.1
          have hcl := hV2.out.1.2 n hn256
          have hst : stepS y c = bits .xor .u32 (y / 256) (tabV n) := by unfold stepS; rw [hnn]; rfl
          have Hst := Lib.hid hst
          clear hst
          unfold idxS at hnn
          go_wp2_with fail
          refine wp_region_below (by kernel_rfl) (by kernel_rfl) (fun hkept => ?_)
          obtain ⟨r0, rf0⟩ := hkept (p) (by go_size); clear hkept
          repeat (any_goals (first | go_big_quiet_step (fail) | quiet_step (fail) | (refine wpQuiet_step (fun K hK => ?_); go_simp; split <;> (refine hK _ ?_; clear hK K))))
          all_goals (refine wpQuiet_nil ?_; intro V hb; obtain ⟨hB, hS, hk⟩ := after (B := wr.heap.size) (w := wr) (by go_grown) (by go_size) hb; obtain ⟨c0, f0, z0⟩ := hk (p) (by go_size); clear hk hb r0 rf0)
          go_wp2
          exact ⟨⟨r + 1, by omega, by go_num, by rw [← HN.out, Hst.out], Lib.hid ⟨hV2.out.1.below hB, hV2.out.2.trans (hB.mono hV2.out.2.size)⟩⟩, by simp [intOf]; omega⟩
        · obtain rfl : r = s.size := by omega
          have he : y = F (k + 1) := by rw [H3.out, hy, List.take_of_length_le (by rw [size_list]; exact Nat.le_refl _)]
          go_wp2
          exact ⟨⟨k + 1, by omega, by go_num, by rw [he], hV2⟩, by simp [intOf]; omega⟩
    · obtain rfl : k = 2 := by omega
      go_wp2
      go_ret
      exact ⟨by rw [HR.out]; rfl, hV.out.2⟩
end Go.Proofs.Ytihglmicgccgiaa

/-
  The walk of seal.laid and seal.Frame.
-/
namespace Go.Proofs.Ytihglmicgccgiaa
open Go.RowKit Go.Sort

theorem conv_four (c0 c1 c2 c3 : Int) (h0 : 0 ≤ c0 ∧ c0 < 256) (h1 : 0 ≤ c1 ∧ c1 < 256) (h2 : 0 ≤ c2 ∧ c2 < 256) (h3 : 0 ≤ c3 ∧ c3 < 256) (w : World) :
    (convert 33 9 (.slice (some ⟨w.heap.size, 0, none⟩) 4 4)).run Try.prog (w.alloc (.cells #[.int .u8 c0, .int .u8 c1, .int .u8 c2, .int .u8 c3] 5)) = .ok (.string (ofL [UInt8.ofNat c0.toNat, UInt8.ofNat c1.toNat, UInt8.ofNat c2.toNat, UInt8.ofNat c3.toNat])) (w.alloc (.cells #[.int .u8 c0, .int .u8 c1, .int .u8 c2, .int .u8 c3] 5)) := by
  refine run_convert_bytes_back _ _ _ 5 ⟨w.heap.size, 0, none⟩ 4 [UInt8.ofNat c0.toNat, UInt8.ofNat c1.toNat, UInt8.ofNat c2.toNat, UInt8.ofNat c3.toNat] Try.underlying33 Try.underlying5 Try.underlying9 fun j hj => ?_
  have e0 := bval_of c0 h0.1 h0.2
  have e1 := bval_of c1 h1.1 h1.2
  have e2 := bval_of c2 h2.1 h2.2
  have e3 := bval_of c3 h3.1 h3.2
  unfold bval at e0 e1 e2 e3
  match j, hj with
  | 0, _ => go_simp; omega
  | 1, _ => rw [Addr.add_lit]; go_simp; omega
  | 2, _ => rw [Addr.add_lit]; go_simp; omega
  | 3, _ => rw [Addr.add_lit]; go_simp; omega
  | j + 4, hj => have : j + 4 < 4 := hj; omega
/-- a number in four bytes, the highest first -/
def laidL (n : Nat) : List UInt8 := [UInt8.ofNat (n / 16777216), UInt8.ofNat (n / 65536), UInt8.ofNat (n / 256), UInt8.ofNat n]
/-- a sum's four bytes, the lowest first -/
def sumL (s : Int) : List UInt8 := [UInt8.ofNat s.toNat, UInt8.ofNat (s.toNat / 256), UInt8.ofNat (s.toNat / 65536), UInt8.ofNat (s.toNat / 16777216)]
/-- a body's frame -/
def frameB (l : List UInt8) : List UInt8 := laidL l.length ++ sumL (sumS (laidL l.length ++ l)) ++ l
def frameR (l : List UInt8) : List UInt8 × Int := if 1048576 < l.length then ([], 3) else (frameB l, 0)

theorem u8_nat (m : Nat) : UInt8.ofNat (m % 256) = UInt8.ofNat m := UInt8.toNat_inj.1 (by simp)
theorem laid_conv (n : Nat) (hn : n < 4294967296) (w : World) : ∃ o : ByteArray, Hid (o = ofL (laidL n)) ∧
    (convert 33 9 (.slice (some ⟨w.heap.size, 0, none⟩) 4 4)).run Try.prog (w.alloc (.cells #[.int .u8 ((n : Int) / 16777216), .int .u8 ((n : Int) / 65536 % 256), .int .u8 ((n : Int) / 256 % 256), .int .u8 ((n : Int) % 256)] 5))
      = .ok (.string o) (w.alloc (.cells #[.int .u8 ((n : Int) / 16777216), .int .u8 ((n : Int) / 65536 % 256), .int .u8 ((n : Int) / 256 % 256), .int .u8 ((n : Int) % 256)] 5)) := by
  refine ⟨_, Lib.hid ?_, conv_four _ _ _ _ (by omega) (by omega) (by omega) (by omega) w⟩
  have e0 : ((n : Int) / 16777216).toNat = n / 16777216 := by omega
  have e1 : ((n : Int) / 65536 % 256).toNat = n / 65536 % 256 := by omega
  have e2 : ((n : Int) / 256 % 256).toNat = n / 256 % 256 := by omega
  have e3 : ((n : Int) % 256).toNat = n % 256 := by omega
  rw [e0, e1, e2, e3, laidL, u8_nat, u8_nat, u8_nat]
theorem sum_conv (s : Int) (hs : 0 ≤ s ∧ s ≤ 4294967295) (w : World) : ∃ o : ByteArray, Hid (o = ofL (sumL s)) ∧
    (convert 33 9 (.slice (some ⟨w.heap.size, 0, none⟩) 4 4)).run Try.prog (w.alloc (.cells #[.int .u8 (s % 256), .int .u8 (s / 256 % 256), .int .u8 (s / 65536 % 256), .int .u8 (s / 16777216)] 5))
      = .ok (.string o) (w.alloc (.cells #[.int .u8 (s % 256), .int .u8 (s / 256 % 256), .int .u8 (s / 65536 % 256), .int .u8 (s / 16777216)] 5)) := by
  refine ⟨_, Lib.hid ?_, conv_four _ _ _ _ (by omega) (by omega) (by omega) (by omega) w⟩
  have e0 : (s / 16777216).toNat = s.toNat / 16777216 := by omega
  have e1 : (s / 65536 % 256).toNat = s.toNat / 65536 % 256 := by omega
  have e2 : (s / 256 % 256).toNat = s.toNat / 256 % 256 := by omega
  have e3 : (s % 256).toNat = s.toNat % 256 := by omega
  rw [e0, e1, e2, e3, sumL, u8_nat, u8_nat, u8_nat]

set_option maxRecDepth 100000 in
set_option maxHeartbeats 2000000 in
theorem laid_any (n : Nat) (w : World) (hn : n < 4294967296) :
    Calls Try.prog 64 #[.int .i64 n] w fun e w' => e = .returned (.string (ofL (laidL n))) ∧ Below w.heap.size w w' := by
  obtain ⟨o, ho, hc⟩ := laid_conv n hn w
  go_enter Try.func64, Try.ntmps64
  go_wp2
  go_ret
  exact ⟨by rw [ho.out]; rfl, by go_grown⟩

set_option maxRecDepth 100000 in
set_option maxHeartbeats 2000000 in
theorem frame_any (s : ByteArray) (w : World) (hs : s.size ≤ maxLen) :
    Calls Try.prog 42 #[.string s] w fun e w' => e = .returned (.tuple #[.string (ofL (frameR s.toList).1), .int .i64 (frameR s.toList).2]) ∧ Below w.heap.size w w' := by
  unfold maxLen at hs
  obtain ⟨R1, hR1⟩ : ∃ R, R = ofL (frameR s.toList).1 := ⟨_, rfl⟩
  obtain ⟨R2, hR2⟩ : ∃ R, R = (frameR s.toList).2 := ⟨_, rfl⟩
  rw [← hR1, ← hR2]
  by_cases h : 1048576 < s.size
  · have h1 : R1 = ⟨#[]⟩ ∧ R2 = 3 := by rw [hR1, hR2, frameR, if_pos (by rw [size_list]; exact h)]; exact ⟨rfl, rfl⟩
    have H1 := Lib.hid h1
    clear hR1 hR2 h1
    go_enter Try.func42, Try.ntmps42
    go_wp2
    go_returns
    exact ⟨by rw [H1.out.1, H1.out.2]; rfl, by go_grown⟩
  · have h1 : R1 = ofL (frameB s.toList) ∧ R2 = 0 := by rw [hR1, hR2, frameR, if_neg (by rw [size_list]; exact h)]; exact ⟨rfl, rfl⟩
    have H1 := Lib.hid h1
    clear hR1 hR2 h1
    obtain ⟨hd, hhd⟩ : ∃ hd : ByteArray, hd = ofL (laidL s.size) := ⟨_, rfl⟩
    have hdz : hd.size = 4 := by rw [hhd, ofL_size]; rfl
    have hla := laid_any s.size
    rw [← hhd] at hla
    have Hla := Lib.hid hla
    have Hhd := Lib.hid hhd
    clear hla hhd
    have hv := sumS_in (hd.toList ++ s.toList)
    obtain ⟨v, hve⟩ : ∃ v, v = sumS (hd.toList ++ s.toList) := ⟨_, rfl⟩
    have Hs : Hid (∀ (W : World) (g : Nat), g < W.heap.size → W.cell? ⟨g, 0, none⟩ = some (.string hd) → W.cell? ⟨g, 1, none⟩ = some (.string s) → Calls Try.prog 65 #[.slice (some ⟨g, 0, none⟩) 2 2] W fun e w' => e = .returned (.int .u32 v) ∧ Below W.heap.size W w') := Lib.hid fun W g h1 h2 h3 => by
      rw [hve]
      exact sum_any g hd s W h1 h2 h3 (by unfold maxLen; omega) (by unfold maxLen; omega)
    rw [← hve] at hv
    have Hve := Lib.hid hve
    clear hve
    obtain ⟨o, ho, hc⟩ : ∃ o : ByteArray, Hid (o = ofL (sumL v)) ∧ ∀ W : World, (convert 33 9 (.slice (some ⟨W.heap.size, 0, none⟩) 4 4)).run Try.prog (W.alloc (.cells #[.int .u8 (v % 256), .int .u8 (v / 256 % 256), .int .u8 (v / 65536 % 256), .int .u8 (v / 16777216)] 5))
      = .ok (.string o) (W.alloc (.cells #[.int .u8 (v % 256), .int .u8 (v / 256 % 256), .int .u8 (v / 65536 % 256), .int .u8 (v / 16777216)] 5)) := by
      refine ⟨ofL (sumL v), Lib.hid rfl, fun W => ?_⟩
      obtain ⟨o, ho, hc⟩ := sum_conv v hv W
      rw [hc, ho.out]
    have hoz : o.size = 4 := by rw [ho.out, ofL_size]; rfl
    have HF : Hid (R1 = hd ++ o ++ s) := Lib.hid (by
      have e1 : hd.toList = laidL s.toList.length := by rw [Hhd.out, ofL_toList, size_list]
      have e2 : o.toList = sumL v := by rw [ho.out, ofL_toList]
      rw [H1.out.1, append_ofL, append_ofL, ofL_toList, e2, e1, frameB, Hve.out, e1])
    go_enter Try.func42, Try.ntmps42
    go_wp2_with (go_at_call 64; refine (Hla.out w (by omega)).mono ?_; rintro e w1 ⟨rfl, hb⟩; have Hb := Lib.hid hb; clear hb)
    have hb1 := Hb.out.size
    have HW : Hid (Below w.heap.size w (w1.alloc (.cells #[.string hd, .string s] 9))) := Lib.hid (Hb.out.alloc hb1 _)
    have Hc := Lib.hid (Hs.out (w1.alloc (.cells #[.string hd, .string s] 9)) w1.heap.size (by rw [World.size_alloc]; omega) (by go_simp) (by go_simp))
    refine (Hc.out).mono ?_
    rintro e w2 ⟨rfl, hb2⟩
    have HW2 := Lib.hid (HW.out.trans (hb2.mono HW.out.size))
    clear hb2
    go_wp2
    go_returns
    exact ⟨by rw [H1.out.2, HF.out]; rfl, HW2.out.alloc HW2.out.size _⟩
end Go.Proofs.Ytihglmicgccgiaa

/-
  The walk of seal.Open.
-/
namespace Go.Proofs.Ytihglmicgccgiaa
open Go.RowKit Go.Sort

theorem or_hi (kd : IntKind) (B k c q X Y : Nat) (hk : B ≤ kd.bits) (hw : ∀ n : Int, 0 ≤ n → n < 2 ^ B → kd.wrap n = n) (hc : c = 2 ^ k) (hX : X = c * q) (hY : Y < c) (hXB : X < 2 ^ B) (hYB : Y < 2 ^ B) : bits .or kd (X : Int) (Y : Int) = ((X + Y : Nat) : Int) ∧ bits .or kd (Y : Int) (X : Int) = ((X + Y : Nat) : Int) := by
  subst hc hX
  have := Nat.two_pow_add_eq_or_of_lt hY q
  exact ⟨by rw [(bits_nat kd B hk hw _ Y hXB hYB).2, this], by rw [(bits_nat kd B hk hw Y _ hYB hXB).2, this, Nat.or_comm]⟩
theorem wrap_i63 (n : Int) (h0 : 0 ≤ n) (h1 : n < 2 ^ 63) : IntKind.i64.wrap n = n := by rw [IntKind.wrap_i64]; omega
theorem wrap_u32' (n : Int) (h0 : 0 ≤ n) (h1 : n < 2 ^ 32) : IntKind.u32.wrap n = n := by rw [IntKind.wrap_u32]; omega
theorem or4 (a0 a1 a2 a3 : Nat) (b0 : a0 < 256) (b1 : a1 < 256) (b2 : a2 < 256) (b3 : a3 < 256) :
    bits .or .i64 (bits .or .i64 (bits .or .i64 ((a0 : Int) * 16777216) ((a1 : Int) * 65536)) ((a2 : Int) * 256)) (a3 : Int) = ((a0 * 16777216 + a1 * 65536 + a2 * 256 + a3 : Nat) : Int) := by
  rw [show (a0 : Int) * 16777216 = ((a0 * 16777216 : Nat) : Int) by omega, show (a1 : Int) * 65536 = ((a1 * 65536 : Nat) : Int) by omega, show (a2 : Int) * 256 = ((a2 * 256 : Nat) : Int) by omega,
    (or_hi .i64 63 24 16777216 a0 (a0 * 16777216) (a1 * 65536) (by decide) wrap_i63 rfl (by omega) (by omega) (by omega) (by omega)).1,
    (or_hi .i64 63 16 65536 (a0 * 256 + a1) (a0 * 16777216 + a1 * 65536) (a2 * 256) (by decide) wrap_i63 rfl (by omega) (by omega) (by omega) (by omega)).1,
    (or_hi .i64 63 8 256 (a0 * 65536 + a1 * 256 + a2) (a0 * 16777216 + a1 * 65536 + a2 * 256) a3 (by decide) wrap_i63 rfl (by omega) (by omega) (by omega) (by omega)).1]
theorem or4u (a0 a1 a2 a3 : Nat) (b0 : a0 < 256) (b1 : a1 < 256) (b2 : a2 < 256) (b3 : a3 < 256) :
    bits .or .u32 (bits .or .u32 (bits .or .u32 (a0 : Int) ((a1 : Int) * 256)) ((a2 : Int) * 65536)) ((a3 : Int) * 16777216) = ((a0 + a1 * 256 + a2 * 65536 + a3 * 16777216 : Nat) : Int) := by
  rw [show (a3 : Int) * 16777216 = ((a3 * 16777216 : Nat) : Int) by omega, show (a2 : Int) * 65536 = ((a2 * 65536 : Nat) : Int) by omega, show (a1 : Int) * 256 = ((a1 * 256 : Nat) : Int) by omega,
    (or_hi .u32 32 8 256 a1 (a1 * 256) a0 (by decide) wrap_u32' rfl (by omega) (by omega) (by omega) (by omega)).2,
    (or_hi .u32 32 16 65536 a2 (a2 * 65536) (a1 * 256 + a0) (by decide) wrap_u32' rfl (by omega) (by omega) (by omega) (by omega)).2,
    (or_hi .u32 32 24 16777216 a3 (a3 * 16777216) (a2 * 65536 + (a1 * 256 + a0)) (by decide) wrap_u32' rfl (by omega) (by omega) (by omega) (by omega)).2]
  congr 1
  omega
theorem extract_le (s : ByteArray) (a b : Nat) : (s.extract a b).size ≤ s.size := by rw [ByteArray.size_extract]; omega
/-- the number in the first four bytes -/
def numF (l : List UInt8) : Nat := (l[0]?.getD 0).toNat * 16777216 + (l[1]?.getD 0).toNat * 65536 + (l[2]?.getD 0).toNat * 256 + (l[3]?.getD 0).toNat
/-- the number in the next four, the lowest first -/
def numG (l : List UInt8) : Nat := (l[4]?.getD 0).toNat + (l[5]?.getD 0).toNat * 256 + (l[6]?.getD 0).toNat * 65536 + (l[7]?.getD 0).toNat * 16777216
def openF (l : List UInt8) : Option (List UInt8) :=
  if l.length < 8 then none else if 1048576 < numF l ∨ l.length < 8 + numF l then none else if sumS (l.take 4 ++ (l.drop 8).take (numF l)) = numG l then some ((l.drop 8).take (numF l)) else none
set_option maxRecDepth 100000 in
set_option maxHeartbeats 4000000 in
theorem open_short (s : ByteArray) (w : World) (h1 : s.size < 8) :
    Calls Try.prog 50 #[.string s] w fun e w' => e = .returned (.tuple #[.string ⟨#[]⟩, .int .i64 0, .int .i64 4]) ∧ Below w.heap.size w w' := by
  go_enter Try.func50, Try.ntmps50
  go_wp2
  go_returns
  exact ⟨rfl, by go_grown⟩
set_option maxRecDepth 100000 in
set_option maxHeartbeats 4000000 in
theorem open_long (s : ByteArray) (a0 a1 a2 a3 : UInt8) (n : Nat) (w : World) (h1 : ¬ s.size < 8) (h2 : s.size ≤ maxLen) (hn : n = a0.toNat * 16777216 + a1.toNat * 65536 + a2.toNat * 256 + a3.toNat) (h3 : 1048576 < n ∨ s.size < 8 + n)
    (i0 : ∀ W, (Instr.index 9 (.string s) (.int .i64 0)).run Try.prog W = .ok (.int .u8 a0.toNat) W) (i1 : ∀ W, (Instr.index 9 (.string s) (.int .i64 1)).run Try.prog W = .ok (.int .u8 a1.toNat) W)
    (i2 : ∀ W, (Instr.index 9 (.string s) (.int .i64 2)).run Try.prog W = .ok (.int .u8 a2.toNat) W) (i3 : ∀ W, (Instr.index 9 (.string s) (.int .i64 3)).run Try.prog W = .ok (.int .u8 a3.toNat) W) :
    Calls Try.prog 50 #[.string s] w fun e w' => e = .returned (.tuple #[.string ⟨#[]⟩, .int .i64 0, .int .i64 4]) ∧ Below w.heap.size w w' := by
  unfold maxLen at h2
  have b0 := a0.toNat_lt
  have b1 := a1.toNat_lt
  have b2 := a2.toNat_lt
  have b3 := a3.toNat_lt
  have hor := or4 a0.toNat a1.toNat a2.toNat a3.toNat b0 b1 b2 b3
  rw [← hn] at hor
  have hnb : n < 4294967296 := by omega
  clear hn
  go_enter Try.func50, Try.ntmps50
  go_wp2_with fail
  refine wp_region_below (by kernel_rfl) (by kernel_rfl) (fun hkept => ?_)
  clear hkept
  repeat (any_goals (first | go_big_quiet_step (fail) | quiet_step (fail) | (refine wpQuiet_step (fun K hK => ?_); go_simp; split <;> (refine hK _ ?_; clear hK K))))
  all_goals (refine wpQuiet_nil ?_; intro w1 hb; obtain ⟨hB, hS, hk⟩ := after (B := w.heap.size) (w := w) (by go_grown) (by go_size) hb; clear hk hb)
  rcases h3 with h3 | h3
  · go_wp2
    go_returns
    exact ⟨rfl, hB⟩
  · have h3i : (s.size : Int) - 8 < n := by omega
    by_cases h4 : 1048576 < n
    · go_wp2
      go_returns
      exact ⟨rfl, hB⟩
    · go_wp2
      go_returns
      exact ⟨rfl, hB⟩
set_option maxRecDepth 100000 in
set_option maxHeartbeats 4000000 in
theorem open_read (s : ByteArray) (a0 a1 a2 a3 a4 a5 a6 a7 : UInt8) (n m : Nat) (w : World) (h1 : ¬ s.size < 8) (h2 : s.size ≤ maxLen) (hn : n = a0.toNat * 16777216 + a1.toNat * 65536 + a2.toNat * 256 + a3.toNat) (hm : m = a4.toNat + a5.toNat * 256 + a6.toNat * 65536 + a7.toNat * 16777216)
    (h3 : ¬ 1048576 < n) (h4 : ¬ s.size < 8 + n)
    (i0 : ∀ W, (Instr.index 9 (.string s) (.int .i64 0)).run Try.prog W = .ok (.int .u8 a0.toNat) W) (i1 : ∀ W, (Instr.index 9 (.string s) (.int .i64 1)).run Try.prog W = .ok (.int .u8 a1.toNat) W)
    (i2 : ∀ W, (Instr.index 9 (.string s) (.int .i64 2)).run Try.prog W = .ok (.int .u8 a2.toNat) W) (i3 : ∀ W, (Instr.index 9 (.string s) (.int .i64 3)).run Try.prog W = .ok (.int .u8 a3.toNat) W)
    (i4 : ∀ W, (Instr.index 9 (.string s) (.int .i64 4)).run Try.prog W = .ok (.int .u8 a4.toNat) W) (i5 : ∀ W, (Instr.index 9 (.string s) (.int .i64 5)).run Try.prog W = .ok (.int .u8 a5.toNat) W)
    (i6 : ∀ W, (Instr.index 9 (.string s) (.int .i64 6)).run Try.prog W = .ok (.int .u8 a6.toNat) W) (i7 : ∀ W, (Instr.index 9 (.string s) (.int .i64 7)).run Try.prog W = .ok (.int .u8 a7.toNat) W) :
    Calls Try.prog 50 #[.string s] w fun e w' => e = .returned (if sumS ((s.extract 0 4).toList ++ (s.extract 8 (8 + n)).toList) = m then .tuple #[.string (s.extract 8 (8 + n)), .int .i64 (8 + n), .int .i64 0] else .tuple #[.string ⟨#[]⟩, .int .i64 0, .int .i64 4]) ∧ Below w.heap.size w w' := by
  have b0 := a0.toNat_lt
  have b1 := a1.toNat_lt
  have b2 := a2.toNat_lt
  have b3 := a3.toNat_lt
  have b4 := a4.toNat_lt
  have b5 := a5.toNat_lt
  have b6 := a6.toNat_lt
  have b7 := a7.toNat_lt
  have hor := or4 a0.toNat a1.toNat a2.toNat a3.toNat b0 b1 b2 b3
  rw [← hn] at hor
  have hou := or4u a4.toNat a5.toNat a6.toNat a7.toNat b4 b5 b6 b7
  rw [← hm] at hou
  have Hor := Lib.hid hor
  have Hou := Lib.hid hou
  clear hn hm hor hou
  obtain ⟨E, hE⟩ : ∃ E, E = (if sumS ((s.extract 0 4).toList ++ (s.extract 8 (8 + n)).toList) = m then Value.tuple #[.string (s.extract 8 (8 + n)), .int .i64 (8 + n), .int .i64 0] else .tuple #[.string ⟨#[]⟩, .int .i64 0, .int .i64 4]) := ⟨_, rfl⟩
  rw [← hE]
  have he1 := extract_le s 0 4
  have he2 := extract_le s 8 (8 + n)
  have Hsum := Lib.hid fun (W : World) (g : Nat) (q1 : g < W.heap.size) (q2 : W.cell? ⟨g, 0, none⟩ = some (.string (s.extract 0 4))) (q3 : W.cell? ⟨g, 1, none⟩ = some (.string (s.extract 8 (8 + n)))) => sum_any g (s.extract 0 4) (s.extract 8 (8 + n)) W q1 q2 q3 (Nat.le_trans he1 h2) (Nat.le_trans he2 h2)
  clear he1 he2
  obtain ⟨v, hv⟩ : ∃ v, v = sumS ((s.extract 0 4).toList ++ (s.extract 8 (8 + n)).toList) := ⟨_, rfl⟩
  rw [← hv] at hE Hsum
  clear hv
  unfold maxLen at h2
  have h3i : ¬ (1048576 : Int) < n := by omega
  have h4i : ¬ (s.size : Int) - 8 < n := by omega
  have HE := Lib.hid hE
  clear hE
  go_enter Try.func50, Try.ntmps50
  go_wp2_with fail
  have hor := Hor.out
  refine wp_region_below (by kernel_rfl) (by kernel_rfl) (fun hkept => ?_)
  clear hkept
  repeat (any_goals (first | go_big_quiet_step (fail) | quiet_step (fail) | (refine wpQuiet_step (fun K hK => ?_); go_simp; split <;> (refine hK _ ?_; clear hK K))))
  all_goals (refine wpQuiet_nil ?_; intro w1 hb; obtain ⟨hB, hS, hk⟩ := after (B := w.heap.size) (w := w) (by go_grown) (by go_size) hb; clear hk hb)
  clear hor
  go_wp2_with fail
  have hou := Hou.out
  refine wp_region_below (by kernel_rfl) (by kernel_rfl) (fun hkept => ?_)
  clear hkept
  repeat (any_goals (first | go_big_quiet_step (fail) | quiet_step (fail) | (refine wpQuiet_step (fun K hK => ?_); go_simp; split <;> (refine hK _ ?_; clear hK K))))
  all_goals (refine wpQuiet_nil ?_; intro w2 hb; obtain ⟨hB, hS, hk⟩ := after (B := w.heap.size) (w := w) (by go_grown) (by go_size) hb; clear hk hb)
  clear hou
  go_wp2_with fail
  have hz1 := hB.size
  have HW : Hid (Below w.heap.size w (w2.alloc (.cells #[.string (s.extract 0 4), .string (s.extract 8 (8 + n))] 9))) := Lib.hid (hB.alloc hz1 _)
  refine (Hsum.out (w2.alloc (.cells #[.string (s.extract 0 4), .string (s.extract 8 (8 + n))] 9)) w2.heap.size (by rw [World.size_alloc]; omega) (by go_simp) (by go_simp)).mono ?_
  rintro e w3 ⟨rfl, hb3⟩
  have HW3 := Lib.hid (HW.out.trans (hb3.mono HW.out.size))
  clear hb3
  by_cases hvm : v = (m : Int)
  · have hE1 := HE.out
    rw [if_pos hvm] at hE1
    have HE1 := Lib.hid hE1
    clear hE1 HE
    go_wp2
    go_returns
    exact ⟨by rw [HE1.out]; rfl, HW3.out⟩
  · have hE1 := HE.out
    rw [if_neg hvm] at hE1
    have HE1 := Lib.hid hE1
    clear hE1 HE
    go_wp2
    go_returns
    exact ⟨by rw [HE1.out]; rfl, HW3.out⟩
theorem open_bytes (s : ByteArray) (h1 : ¬ s.size < 8) : ∃ (a : Fin 8 → UInt8), (∀ (k : Fin 8) W, (Instr.index 9 (.string s) (.int .i64 (k.val : Int))).run Try.prog W = .ok (.int .u8 (a k).toNat) W) ∧
    numF s.toList = (a 0).toNat * 16777216 + (a 1).toNat * 65536 + (a 2).toNat * 256 + (a 3).toNat ∧ numG s.toList = (a 4).toNat + (a 5).toNat * 256 + (a 6).toNat * 65536 + (a 7).toNat * 16777216 := by
  refine ⟨fun k => s[k.val]'(by omega), fun k W => idx_at s k.val (by omega) .i64 _ rfl W, ?_, ?_⟩
  · unfold numF
    rw [byte_getD (show 0 < s.size by omega), byte_getD (show 1 < s.size by omega), byte_getD (show 2 < s.size by omega), byte_getD (show 3 < s.size by omega)]
    rfl
  · unfold numG
    rw [byte_getD (show 4 < s.size by omega), byte_getD (show 5 < s.size by omega), byte_getD (show 6 < s.size by omega), byte_getD (show 7 < s.size by omega)]
    rfl
/-- what Open answers -/
def openV (l : List UInt8) : Value := match openF l with
  | some b => .tuple #[.string (ofL b), .int .i64 (8 + b.length), .int .i64 0]
  | none => .tuple #[.string ⟨#[]⟩, .int .i64 0, .int .i64 4]
/-- seal.Open -/
theorem open_any (s : ByteArray) (w : World) (hs : s.size ≤ maxLen) : Calls Try.prog 50 #[.string s] w fun e w' => e = .returned (openV s.toList) ∧ Below w.heap.size w w' := by
  have hsl : s.toList.length = s.size := size_list s
  by_cases h1 : s.size < 8
  · have e : openV s.toList = .tuple #[.string ⟨#[]⟩, .int .i64 0, .int .i64 4] := by unfold openV openF; rw [if_pos (by omega)]
    rw [e]
    exact open_short s w h1
  · obtain ⟨a, ha, hF, hG⟩ := open_bytes s h1
    by_cases h3 : 1048576 < numF s.toList ∨ s.size < 8 + numF s.toList
    · have e : openV s.toList = .tuple #[.string ⟨#[]⟩, .int .i64 0, .int .i64 4] := by unfold openV openF; rw [if_neg (by omega), if_pos (by omega)]
      rw [e]
      exact open_long s (a 0) (a 1) (a 2) (a 3) _ w h1 hs hF h3 (ha 0) (ha 1) (ha 2) (ha 3)
    · have hr := open_read s (a 0) (a 1) (a 2) (a 3) (a 4) (a 5) (a 6) (a 7) _ _ w h1 hs hF hG (by omega) (by omega) (ha 0) (ha 1) (ha 2) (ha 3) (ha 4) (ha 5) (ha 6) (ha 7)
      have e1 : (s.extract 0 4).toList = s.toList.take 4 := by rw [toList_extract]; rfl
      have e2 : (s.extract 8 (8 + numF s.toList)).toList = (s.toList.drop 8).take (numF s.toList) := by rw [toList_extract, List.drop_take, Nat.add_sub_cancel_left]
      have e3 : s.extract 8 (8 + numF s.toList) = ofL ((s.toList.drop 8).take (numF s.toList)) := by rw [← e2, ofL_self]
      clear ha hF hG
      refine hr.mono ?_
      rintro e w' ⟨rfl, hb⟩
      refine ⟨congrArg Ending.returned ?_, hb⟩
      clear hr hb
      unfold openV openF
      rw [e1, e2, e3]
      clear e1 e2 e3
      obtain ⟨n, hn⟩ : ∃ n, n = numF s.toList := ⟨_, rfl⟩
      obtain ⟨m, hm⟩ : ∃ m, m = numG s.toList := ⟨_, rfl⟩
      rw [← hn, ← hm]
      rw [← hn] at h3
      clear hn hm
      rw [if_neg (show ¬ s.toList.length < 8 by omega), if_neg (show ¬ (1048576 < n ∨ s.toList.length < 8 + n) by omega)]
      have hl : ((s.toList.drop 8).take n).length = n := by rw [List.length_take, List.length_drop]; omega
      by_cases h4 : sumS (s.toList.take 4 ++ (s.toList.drop 8).take n) = m
      · rw [if_pos h4, if_pos h4]
        simp only
        rw [hl]
      · rw [if_neg h4, if_neg h4]
theorem numF_laid {n : Nat} (h : n < 4294967296) (r : List UInt8) : numF (laidL n ++ r) = n := by
  simp only [numF, laidL, List.cons_append, List.nil_append, List.getElem?_cons_zero, List.getElem?_cons_succ, Option.getD_some, UInt8.toNat_ofNat']
  omega
theorem numG_sum {s : Int} (h : 0 ≤ s ∧ s ≤ 4294967295) (n : Nat) (r : List UInt8) : (numG (laidL n ++ sumL s ++ r) : Int) = s := by
  simp only [numG, laidL, sumL, List.cons_append, List.nil_append, List.getElem?_cons_zero, List.getElem?_cons_succ, Option.getD_some, UInt8.toNat_ofNat']
  omega
theorem frameB_len (b : List UInt8) : (frameB b).length = 8 + b.length := by simp [frameB, laidL, sumL]; omega
/-- a frame is opened again, whatever stands behind it -/
theorem openF_frame {b : List UInt8} (h : b.length ≤ 1048576) (r : List UInt8) : openF (frameB b ++ r) = some b := by
  have h1 : numF (frameB b ++ r) = b.length := by rw [frameB, List.append_assoc, List.append_assoc]; exact numF_laid (by omega) _
  have h2 : (numG (frameB b ++ r) : Int) = sumS (laidL b.length ++ b) := by
    rw [frameB, List.append_assoc]
    exact numG_sum (sumS_in _) _ _
  have h3 : (frameB b ++ r).length = 8 + b.length + r.length := by rw [List.length_append, frameB_len]
  have h4 : (frameB b ++ r).take 4 = laidL b.length := by simp [frameB, laidL]
  have h5 : (frameB b ++ r).drop 8 = b ++ r := by simp [frameB, laidL, sumL]
  unfold openF
  rw [if_neg (by omega), if_neg (by omega), h1, h4, h5, List.take_left, if_pos h2.symm]
theorem u8_eq {a : UInt8} {n : Nat} (h : n % 256 = a.toNat) : UInt8.ofNat n = a := UInt8.toNat_inj.1 (by rw [UInt8.toNat_ofNat']; exact h)
theorem list8 {l : List UInt8} (h : ¬ l.length < 8) : ∃ a0 a1 a2 a3 a4 a5 a6 a7 t, l = a0 :: a1 :: a2 :: a3 :: a4 :: a5 :: a6 :: a7 :: t := by
  match l, h with
  | a0 :: a1 :: a2 :: a3 :: a4 :: a5 :: a6 :: a7 :: t, _ => exact ⟨_, _, _, _, _, _, _, _, _, rfl⟩
  | [], h => simp at h
  | [_], h => simp at h
  | [_, _], h => simp at h
  | [_, _, _], h => simp at h
  | [_, _, _, _], h => simp at h
  | [_, _, _, _, _], h => simp at h
  | [_, _, _, _, _, _], h => simp at h
  | [_, _, _, _, _, _, _], h => simp at h
theorem laid_of {n x0 x1 x2 x3 : Nat} {a0 a1 a2 a3 : UInt8} (e0 : x0 = a0.toNat) (e1 : x1 = a1.toNat) (e2 : x2 = a2.toNat) (e3 : x3 = a3.toNat) (hn : n = x0 * 16777216 + x1 * 65536 + x2 * 256 + x3) : laidL n = [a0, a1, a2, a3] := by
  have b0 := a0.toNat_lt
  have b1 := a1.toNat_lt
  have b2 := a2.toNat_lt
  have b3 := a3.toNat_lt
  unfold laidL
  rw [u8_eq (show n / 16777216 % 256 = a0.toNat by omega), u8_eq (show n / 65536 % 256 = a1.toNat by omega), u8_eq (show n / 256 % 256 = a2.toNat by omega), u8_eq (show n % 256 = a3.toNat by omega)]
theorem sum_of {m x4 x5 x6 x7 : Nat} {a4 a5 a6 a7 : UInt8} (e4 : x4 = a4.toNat) (e5 : x5 = a5.toNat) (e6 : x6 = a6.toNat) (e7 : x7 = a7.toNat) (hm : m = x4 + x5 * 256 + x6 * 65536 + x7 * 16777216) : sumL (m : Int) = [a4, a5, a6, a7] := by
  have b4 := a4.toNat_lt
  have b5 := a5.toNat_lt
  have b6 := a6.toNat_lt
  have b7 := a7.toNat_lt
  unfold sumL
  rw [Int.toNat_natCast, u8_eq (show m % 256 = a4.toNat by omega), u8_eq (show m / 256 % 256 = a5.toNat by omega), u8_eq (show m / 65536 % 256 = a6.toNat by omega), u8_eq (show m / 16777216 % 256 = a7.toNat by omega)]
/-- bytes that begin with a frame -/
theorem openF_inv {l b : List UInt8} (h : openF l = some b) : b.length ≤ 1048576 ∧ l = frameB b ++ l.drop (8 + b.length) := by
  unfold openF at h
  obtain ⟨n, hn⟩ : ∃ n, n = numF l := ⟨_, rfl⟩
  obtain ⟨m, hm⟩ : ∃ m, m = numG l := ⟨_, rfl⟩
  rw [← hn, ← hm] at h
  by_cases h1 : l.length < 8
  · rw [if_pos h1] at h; cases h
  · rw [if_neg h1] at h
    by_cases h2 : 1048576 < n ∨ l.length < 8 + n
    · rw [if_pos h2] at h; cases h
    · rw [if_neg h2] at h
      by_cases h3 : sumS (l.take 4 ++ (l.drop 8).take n) = m
      · rw [if_pos h3] at h
        have hl : ((l.drop 8).take n).length = n := by rw [List.length_take, List.length_drop]; omega
        have hb : (l.drop 8).take n = b := by injection h
        rw [hb] at hl h3
        refine ⟨by omega, ?_⟩
        obtain ⟨a0, a1, a2, a3, a4, a5, a6, a7, t, e⟩ := list8 h1
        unfold numF at hn
        unfold numG at hm
        have hla : laidL n = [a0, a1, a2, a3] := laid_of (by rw [e]; rfl) (by rw [e]; rfl) (by rw [e]; rfl) (by rw [e]; rfl) hn
        have hsu : sumL (m : Int) = [a4, a5, a6, a7] := sum_of (by rw [e]; rfl) (by rw [e]; rfl) (by rw [e]; rfl) (by rw [e]; rfl) hm
        have e4 : l.take 4 = laidL n := by rw [hla, e]; rfl
        have e8 : l.drop 8 = t := by rw [e]; rfl
        rw [e4] at h3
        rw [frameB, hl, h3, hla, hsu, ← List.drop_drop, e8]
        rw [e8] at hb
        rw [e, ← hb]
        simp only [List.cons_append, List.nil_append, List.take_append_drop]
      · rw [if_neg h3] at h; cases h
end Go.Proofs.Ytihglmicgccgiaa
