/-
  The walk of the document's answer for Encode (acreageref04).
-/
import Derived.Test.YtjalccnkfpjchaaEncW
import Derived.Test.YtjalccnkfpjchaaRefPutW
namespace Go.Proofs.Ytjalccnkfpjchaa
open Go.RowKit

/-- The bytes of one cell: what the calls tell, the strings named. -/
structure RLaid (c : CellA) (o1 o2 o3 o5 : ByteArray) : Prop where
  k1 : ∀ W, Calls Try.prog 70 #[.string ⟨#[]⟩, .string c.row] W fun e w' => e = .returned (.string o1) ∧ Below W.heap.size W w'
  k2 : ∀ W, Calls Try.prog 70 #[.string ⟨#[]⟩, .string c.col] W fun e w' => e = .returned (.string o2) ∧ Below W.heap.size W w'
  k3 : ∀ W, Calls Try.prog 69 #[.string ⟨#[]⟩, .int .u64 c.ver] W fun e w' => e = .returned (.string o3) ∧ Below W.heap.size W w'
  k5 : ∀ W, Calls Try.prog 70 #[.string ⟨#[]⟩, .string c.val] W fun e w' => e = .returned (.string o5) ∧ Below W.heap.size W w'
  val : o1.toList ++ o2.toList ++ o3.toList ++ [if c.gone then 1 else 0] ++ o5.toList = encC c
  sz : o1.size ≤ 100000 ∧ o2.size ≤ 100000 ∧ o3.size ≤ 100000 ∧ o5.size ≤ 100000
theorem rlaid (c : CellA) (h : cellL c = true) : ∃ o1 o2 o3 o5, RLaid c o1 o2 o3 o5 := by
  obtain ⟨h1, h2, h3, h4, h5⟩ := cellL_sizes h
  have hu : U64 c.ver := ⟨by omega, by omega⟩
  have hn := numW_len c.ver hu
  have n1 := numL_ten (v := c.row.size) (by omega)
  have n2 := numL_ten (v := c.col.size) (by omega)
  have n3 := numL_ten (v := c.val.size) (by omega)
  have z0 : (⟨#[]⟩ : ByteArray).size = 0 := rfl
  refine ⟨_, _, _, _, fun W => refputtext_any ⟨#[]⟩ c.row W (by omega) (by omega), fun W => refputtext_any ⟨#[]⟩ c.col W (by omega) (by omega), fun W => refputnumber_any ⟨#[]⟩ c.ver W (by omega) hu, fun W => refputtext_any ⟨#[]⟩ c.val W (by omega) (by omega), ?_, ?_⟩
  · simp only [ofL_toList, encC, txtL, size_list]
    simp [Lib.toList_data]
  · simp only [ofL_size, txtL, List.length_append, size_list]
    omega

structure REncRel (w : World) (n : Nat) (cs : List CellA) (k : Nat) (v : Value) (wr : World) : Prop where
  row : Row wr w.heap.size 5 1 v (encP n cs k).length ((encP n cs k).map bval)
  bel : Below w.heap.size w wr

set_option maxRecDepth 100000 in
set_option maxHeartbeats 4000000 in
theorem rbytes_any (ao : Option Addr) (n cap : Nat) (cs : List CellA) (w : World) (h : Cells w ao n cap cs) (hb : cs.any badC = false) (hsz : (encL cs).length ≤ 100000000) :
    Calls Try.prog 39 #[.slice ao n cap] w fun e w' => e = .returned (.string (ofL (encL cs))) ∧ Below w.heap.size w w' := by
  obtain ⟨i0, hi, hz0, hz1, hz2⟩ := info_parts Try.info_u8
  have Hi := Lib.hid hi
  have hl := h.len
  have hc1 := Arr.fits h
  have hc2 := Arr.max h
  unfold maxLen at hc2
  have hu : U64 (n : Int) := ⟨by omega, by omega⟩
  have hpn := Lib.hid fun W => refputnumber_any ⟨#[]⟩ n W (by decide) hu
  obtain ⟨s0, hs0⟩ : ∃ s, s = ofL ((⟨#[]⟩ : ByteArray).toList ++ numW (n : Int)) := ⟨_, rfl⟩
  rw [← hs0] at hpn
  have Hs0 : Hid (s0.toList = numL n) := Lib.hid (by rw [hs0, ofL_toList]; simp [Lib.toList_data, numW])
  have hs0z : s0.size ≤ 10 := by rw [← size_list, Hs0.out]; exact numL_ten hu.lt
  have Hl := Lib.hid hl
  have H := Lib.hid h
  have Hb := Lib.hid hb
  have Hsz := Lib.hid fun k => Nat.le_trans (encP_len hl k) hsz
  obtain ⟨R, hR⟩ : ∃ R, R = ofL (encL cs) := ⟨_, rfl⟩
  rw [← hR]
  have HR := Lib.hid hR
  clear h hl hb hi hu hs0 hsz hR
  go_enter Try.func39, Try.ntmps39
  go_wp2_with (first | (go_at_call 69; refine (hpn.out _).mono ?_; rintro e w2 ⟨rfl, hb⟩; obtain ⟨hB, hS, hk⟩ := after (B := w.heap.size) (w := w) (by go_grown) (by go_size) hb; clear hb; clear hk) | (at_builtin; refine wpList_append_str w2 rfl _ _ 44 9 rfl w.heap.size 5 i0 Try.underlying44 Try.underlying9 Hi.out hz0 hz1 hz2 (.slice none 0 0) [] rfl (Row.nil _ _ _ _) s0 rfl (by simp; omega) hS ?_; intro v1 w3 hrow hbel; rw [List.nil_append, Hs0.out] at hrow; have Hrow := Lib.hid hrow; have Hbel := Lib.hid (hB.trans hbel); clear hrow hbel))
  go_loopw [3, 4] (fun v i wr => ∃ k : Nat, k ≤ n ∧ i = .int .i64 k ∧ Hid (REncRel w n cs k v wr)) (fun _ i _ => n - (intOf i).toNat)
  case atStart =>
    exact ⟨0, by omega, rfl, Lib.hid ⟨by rw [encP_zero]; exact Hrow.out, Hbel.out⟩⟩
  case round =>
    obtain ⟨k, hk, rfl, hE⟩ := hrel
    have hB0 := hE.out.bel
    have hzr := hB0.size
    by_cases hlt : k < n
    · obtain ⟨x, hx⟩ : ∃ x, cs[k]? = some x := ⟨_, List.getElem?_eq_getElem (by rw [Hl.out]; omega)⟩
      obtain ⟨b, off, rfl, hb, ⟨x0, x1, x2, x3, x4⟩⟩ := Cells.at_ H.out hx
      obtain ⟨k0, k0f⟩ := keep_below hB0 b hb
      obtain ⟨o1, o2, o3, o5, hK⟩ := rlaid x (some_any Hb.out (List.mem_of_getElem? hx))
      have HN : Hid (encP n cs k ++ o1.toList ++ o2.toList ++ o3.toList ++ [if x.gone then 1 else 0] ++ o5.toList = encP n cs (k + 1)) := Lib.hid (by
        rw [encP_succ hx, ← hK.val]; simp only [List.append_assoc])
      have hp := Hsz.out k
      obtain ⟨z1, z2, z3, z5⟩ := hK.sz
      have hR0 := hE.out.row
      obtain ⟨p0, hp0⟩ : ∃ p0, p0 = encP n cs k := ⟨_, rfl⟩
      rw [← hp0] at HN hp hR0
      have HR0 := Lib.hid hR0
      have HK := Lib.hid hK
      clear hK hR0 hE hp0 hx
      obtain ⟨xr, xc, xv, xg, xl⟩ := x
      simp only at x0 x1 x2 x3 x4 HN
      cases xg
      · simp only [Bool.false_eq_true, if_false, if_true] at HN
        go_wp2_with (first
          | (go_at_call 70; with_reducible refine (HK.out.k1 _).mono ?_; rintro e w1 ⟨rfl, hb⟩; obtain ⟨hB, hS, hk⟩ := after (B := w.heap.size) (w := w) (by go_grown) (by go_size) hb; have Hw1 := Lib.hid hb; clear hb; obtain ⟨c0, f0, z0⟩ := hk (b) (by go_size); clear hk)
          | (at_builtin; refine wpList_append_str w1 rfl _ _ 44 9 rfl w.heap.size 5 i0 Try.underlying44 Try.underlying9 Hi.out hz0 hz1 hz2 u3 (p0) rfl (HR0.out.below Hw1.out) o1 rfl (by (try simp only [List.length_append, List.length_singleton, size_list]); omega) hS ?_; intro v1 w2 hrow hbel; obtain ⟨r1, rf1⟩ := keep_below hbel b hb; have hBw2 := hB.trans hbel; have hSw2 := hBw2.size; have HR1 := Lib.hid hrow; clear hrow hbel)
          | (go_at_call 70; with_reducible refine (HK.out.k2 _).mono ?_; rintro e w3 ⟨rfl, hb⟩; obtain ⟨hB, hS, hk⟩ := after (B := w.heap.size) (w := w) (by go_grown) (by go_size) hb; have Hw3 := Lib.hid hb; clear hb; obtain ⟨c0, f0, z0⟩ := hk (b) (by go_size); clear hk)
          | (at_builtin; refine wpList_append_str w3 rfl _ _ 44 9 rfl w.heap.size 5 i0 Try.underlying44 Try.underlying9 Hi.out hz0 hz1 hz2 v1 (p0 ++ o1.toList) rfl (HR1.out.below Hw3.out) o2 rfl (by (try simp only [List.length_append, List.length_singleton, size_list]); omega) hS ?_; intro v2 w4 hrow hbel; obtain ⟨r1, rf1⟩ := keep_below hbel b hb; have hBw4 := hB.trans hbel; have hSw4 := hBw4.size; have HR2 := Lib.hid hrow; clear hrow hbel)
          | (go_at_call 69; with_reducible refine (HK.out.k3 _).mono ?_; rintro e w5 ⟨rfl, hb⟩; obtain ⟨hB, hS, hk⟩ := after (B := w.heap.size) (w := w) (by go_grown) (by go_size) hb; have Hw5 := Lib.hid hb; clear hb; obtain ⟨c0, f0, z0⟩ := hk (b) (by go_size); clear hk)
          | (at_builtin; refine wpList_append_str w5 rfl _ _ 44 9 rfl w.heap.size 5 i0 Try.underlying44 Try.underlying9 Hi.out hz0 hz1 hz2 v2 (p0 ++ o1.toList ++ o2.toList) rfl (HR2.out.below Hw5.out) o3 rfl (by (try simp only [List.length_append, List.length_singleton, size_list]); omega) hS ?_; intro v3 w6 hrow hbel; obtain ⟨r1, rf1⟩ := keep_below hbel b hb; have hBw6 := hB.trans hbel; have hSw6 := hBw6.size; have HR3 := Lib.hid hrow; clear hrow hbel)
          | (at_builtin; refine wpList_append_byte w6 rfl _ _ 44 rfl w.heap.size 5 _ i0 Try.underlying44 Hi.out hz0 hz1 hz2 v3 (p0 ++ o1.toList ++ o2.toList ++ o3.toList) rfl HR3.out 0 (by omega) (by omega) rfl (by (try simp only [List.length_append, List.length_singleton, size_list]); omega) hSw6 ?_; intro v4 w7 hrow hbel hgrow; obtain ⟨r1, rf1⟩ := keep_below hbel b hb; have hBw7 := hBw6.trans hbel; have hSw7 := hBw7.size; have HR4 := Lib.hid hrow; clear hrow hbel hgrow)
          | (go_at_call 70; with_reducible refine (HK.out.k5 _).mono ?_; rintro e w8 ⟨rfl, hb⟩; obtain ⟨hB, hS, hk⟩ := after (B := w.heap.size) (w := w) (by go_grown) (by go_size) hb; have Hw8 := Lib.hid hb; clear hb; obtain ⟨c0, f0, z0⟩ := hk (b) (by go_size); clear hk)
          | (at_builtin; refine wpList_append_str w8 rfl _ _ 44 9 rfl w.heap.size 5 i0 Try.underlying44 Try.underlying9 Hi.out hz0 hz1 hz2 v4 (p0 ++ o1.toList ++ o2.toList ++ o3.toList ++ [UInt8.ofNat (0 : Int).toNat]) rfl (HR4.out.below Hw8.out) o5 rfl (by (try simp only [List.length_append, List.length_singleton, size_list]); omega) hS ?_; intro v5 w9 hrow hbel; obtain ⟨r1, rf1⟩ := keep_below hbel b hb; have hBw9 := hB.trans hbel; have hSw9 := hBw9.size; have HR5 := Lib.hid hrow; clear hrow hbel))
        exact ⟨⟨k + 1, by omega, by go_num, Lib.hid ⟨by rw [← HN.out]; exact HR5.out, hBw9⟩⟩, by simp [intOf]; omega⟩
      · simp only [Bool.false_eq_true, if_false, if_true] at HN
        go_wp2_with (first
          | (go_at_call 70; with_reducible refine (HK.out.k1 _).mono ?_; rintro e w1 ⟨rfl, hb⟩; obtain ⟨hB, hS, hk⟩ := after (B := w.heap.size) (w := w) (by go_grown) (by go_size) hb; have Hw1 := Lib.hid hb; clear hb; obtain ⟨c0, f0, z0⟩ := hk (b) (by go_size); clear hk)
          | (at_builtin; refine wpList_append_str w1 rfl _ _ 44 9 rfl w.heap.size 5 i0 Try.underlying44 Try.underlying9 Hi.out hz0 hz1 hz2 u3 (p0) rfl (HR0.out.below Hw1.out) o1 rfl (by (try simp only [List.length_append, List.length_singleton, size_list]); omega) hS ?_; intro v1 w2 hrow hbel; obtain ⟨r1, rf1⟩ := keep_below hbel b hb; have hBw2 := hB.trans hbel; have hSw2 := hBw2.size; have HR1 := Lib.hid hrow; clear hrow hbel)
          | (go_at_call 70; with_reducible refine (HK.out.k2 _).mono ?_; rintro e w3 ⟨rfl, hb⟩; obtain ⟨hB, hS, hk⟩ := after (B := w.heap.size) (w := w) (by go_grown) (by go_size) hb; have Hw3 := Lib.hid hb; clear hb; obtain ⟨c0, f0, z0⟩ := hk (b) (by go_size); clear hk)
          | (at_builtin; refine wpList_append_str w3 rfl _ _ 44 9 rfl w.heap.size 5 i0 Try.underlying44 Try.underlying9 Hi.out hz0 hz1 hz2 v1 (p0 ++ o1.toList) rfl (HR1.out.below Hw3.out) o2 rfl (by (try simp only [List.length_append, List.length_singleton, size_list]); omega) hS ?_; intro v2 w4 hrow hbel; obtain ⟨r1, rf1⟩ := keep_below hbel b hb; have hBw4 := hB.trans hbel; have hSw4 := hBw4.size; have HR2 := Lib.hid hrow; clear hrow hbel)
          | (go_at_call 69; with_reducible refine (HK.out.k3 _).mono ?_; rintro e w5 ⟨rfl, hb⟩; obtain ⟨hB, hS, hk⟩ := after (B := w.heap.size) (w := w) (by go_grown) (by go_size) hb; have Hw5 := Lib.hid hb; clear hb; obtain ⟨c0, f0, z0⟩ := hk (b) (by go_size); clear hk)
          | (at_builtin; refine wpList_append_str w5 rfl _ _ 44 9 rfl w.heap.size 5 i0 Try.underlying44 Try.underlying9 Hi.out hz0 hz1 hz2 v2 (p0 ++ o1.toList ++ o2.toList) rfl (HR2.out.below Hw5.out) o3 rfl (by (try simp only [List.length_append, List.length_singleton, size_list]); omega) hS ?_; intro v3 w6 hrow hbel; obtain ⟨r1, rf1⟩ := keep_below hbel b hb; have hBw6 := hB.trans hbel; have hSw6 := hBw6.size; have HR3 := Lib.hid hrow; clear hrow hbel)
          | (at_builtin; refine wpList_append_byte w6 rfl _ _ 44 rfl w.heap.size 5 _ i0 Try.underlying44 Hi.out hz0 hz1 hz2 v3 (p0 ++ o1.toList ++ o2.toList ++ o3.toList) rfl HR3.out 1 (by omega) (by omega) rfl (by (try simp only [List.length_append, List.length_singleton, size_list]); omega) hSw6 ?_; intro v4 w7 hrow hbel hgrow; obtain ⟨r1, rf1⟩ := keep_below hbel b hb; have hBw7 := hBw6.trans hbel; have hSw7 := hBw7.size; have HR4 := Lib.hid hrow; clear hrow hbel hgrow)
          | (go_at_call 70; with_reducible refine (HK.out.k5 _).mono ?_; rintro e w8 ⟨rfl, hb⟩; obtain ⟨hB, hS, hk⟩ := after (B := w.heap.size) (w := w) (by go_grown) (by go_size) hb; have Hw8 := Lib.hid hb; clear hb; obtain ⟨c0, f0, z0⟩ := hk (b) (by go_size); clear hk)
          | (at_builtin; refine wpList_append_str w8 rfl _ _ 44 9 rfl w.heap.size 5 i0 Try.underlying44 Try.underlying9 Hi.out hz0 hz1 hz2 v4 (p0 ++ o1.toList ++ o2.toList ++ o3.toList ++ [UInt8.ofNat (1 : Int).toNat]) rfl (HR4.out.below Hw8.out) o5 rfl (by (try simp only [List.length_append, List.length_singleton, size_list]); omega) hS ?_; intro v5 w9 hrow hbel; obtain ⟨r1, rf1⟩ := keep_below hbel b hb; have hBw9 := hB.trans hbel; have hSw9 := hBw9.size; have HR5 := Lib.hid hrow; clear hrow hbel))
        exact ⟨⟨k + 1, by omega, by go_num, Lib.hid ⟨by rw [← HN.out]; exact HR5.out, hBw9⟩⟩, by simp [intOf]; omega⟩
    · obtain rfl : k = n := by omega
      have hr0 := hE.out.row
      rw [encP_all Hl.out] at hr0
      have hcb := convert_back (P := Try.prog) wr 44 9 5 w.heap.size u3 _ Try.underlying44 Try.underlying5 Try.underlying9 hr0
      clear hr0
      go_wp2
      go_ret
      exact ⟨by rw [HR.out]; rfl, hB0⟩

end Go.Proofs.Ytjalccnkfpjchaa
