/-
  The walk of the document's Encode (acreageref04), and of Own.
-/
import Derived.Test.YtjalccnkfpjchaaREncW
namespace Go.Proofs.Ytjalccnkfpjchaa
open Go.RowKit

def sumC (c : CellA) : Nat := c.row.size + c.col.size + c.val.size + 5
def sumL (cs : List CellA) : Nat := (cs.map sumC).sum
theorem sumL_succ {k : Nat} {cs : List CellA} {x : CellA} (h : cs[k]? = some x) : sumL (cs.take (k + 1)) = sumL (cs.take k) + sumC x := by
  simp [sumL, List.take_add_one, h]
theorem encC_len {c : CellA} (h : cellL c = true) : sumC c ≤ (encC c).length ∧ (encC c).length ≤ sumC c + 50 := by
  obtain ⟨h1, h2, h3, h4, h5⟩ := cellL_sizes h
  have hn := numW_len c.ver ⟨by omega, by omega⟩
  have hp : 1 ≤ (numW c.ver).length := numL_pos _
  have n1 := numL_ten (v := c.row.size) (by omega)
  have n2 := numL_ten (v := c.col.size) (by omega)
  have n3 := numL_ten (v := c.val.size) (by omega)
  have p1 := numL_pos c.row.size
  have p2 := numL_pos c.col.size
  have p3 := numL_pos c.val.size
  simp only [encC, sumC, List.length_append, List.length_singleton, size_list]
  omega
theorem flat_len : ∀ {cs : List CellA}, cs.any badC = false → sumL cs ≤ (cs.flatMap encC).length ∧ (cs.flatMap encC).length ≤ sumL cs + 50 * cs.length ∧ 5 * cs.length ≤ sumL cs
  | [], _ => by simp [sumL]
  | c :: cs, h => by
    rw [List.any_cons, Bool.or_eq_false_iff] at h
    have h1 := encC_len (c := c) (by simpa [badC] using h.1)
    have h2 := flat_len h.2
    have h5 : 5 ≤ sumC c := by unfold sumC; omega
    simp only [sumL, List.map_cons, List.sum_cons, List.flatMap_cons, List.length_append, List.length_cons] at h2 ⊢
    omega
theorem sum_le {cs : List CellA} (h : cs.any badC = false) (k : Nat) : sumL (cs.take k) ≤ (encL cs).length := by
  have h1 := (flat_len (cs := cs) h).1
  have h2 : sumL cs = sumL (cs.take k) + sumL (cs.drop k) := by
    rw [sumL, sumL, sumL, ← List.sum_append, ← List.map_append, List.take_append_drop]
  rw [encL, List.length_append]
  omega
theorem sum_fits {cs : List CellA} (h : cs.any badC = false) (hs : sumL cs ≤ 1048576) : (encL cs).length ≤ 100000000 := by
  have h1 := flat_len (cs := cs) h
  have h2 := numL_ten (v := cs.length) (by omega)
  rw [encL, List.length_append]
  omega

theorem rcell_ok (c : CellA) (w : World) (h : c.Ok) (hv : badC c = false) :
    Calls Try.prog 38 #[c.v] w fun e w' => e = .returned (.int .i64 0) ∧ Below w.heap.size w w' := by
  have := rcell_any c w h
  rw [show cellL c = true by simpa [badC] using hv] at this
  exact this
theorem rcell_bad (c : CellA) (w : World) (h : c.Ok) (hv : badC c = true) :
    Calls Try.prog 38 #[c.v] w fun e w' => e = .returned (.int .i64 2) ∧ Below w.heap.size w w' := by
  have := rcell_any c w h
  rw [show cellL c = false by simpa [badC] using hv] at this
  exact this

set_option maxRecDepth 100000 in
set_option maxHeartbeats 4000000 in
theorem rencode_any (ao : Option Addr) (n cap : Nat) (cs : List CellA) (w : World) (h : Cells w ao n cap cs) (hok : ∀ c ∈ cs, c.Ok) :
    Calls Try.prog 15 #[.slice ao n cap] w fun e w' => e = .returned (.tuple (if cs.any badC then #[.string ⟨#[]⟩, .int .i64 2] else if 1048576 < (encL cs).length then #[.string ⟨#[]⟩, .int .i64 3] else #[.string (ofL (encL cs)), .int .i64 0])) ∧ Below w.heap.size w w' := by
  have hl := h.len
  have hc1 := Arr.fits h
  have hc2 := Arr.max h
  unfold maxLen at hc2
  have Hl := Lib.hid hl
  have H := Lib.hid h
  have Hok := Lib.hid hok
  obtain ⟨R, hR⟩ : ∃ R, R = (if cs.any badC then #[.string ⟨#[]⟩, .int .i64 2] else if 1048576 < (encL cs).length then #[Value.string ⟨#[]⟩, .int .i64 3] else #[.string (ofL (encL cs)), .int .i64 0]) := ⟨_, rfl⟩
  rw [← hR]
  have HR := Lib.hid hR
  clear h hl hok hR
  go_enter Try.func15, Try.ntmps15
  go_wp2
  go_loopw [5] (fun i wr => ∃ k : Nat, k ≤ n ∧ i = .int .i64 k ∧ Hid ((cs.take k).any badC = false) ∧ Below w.heap.size w wr) (fun i _ => n - (intOf i).toNat)
  case atStart => exact ⟨0, by omega, rfl, Lib.hid rfl, Below.refl _ _⟩
  case round =>
    obtain ⟨k, hk, rfl, hE, hB0⟩ := hrel
    by_cases hlt : k < n
    · obtain ⟨x, hx⟩ : ∃ x, cs[k]? = some x := ⟨_, List.getElem?_eq_getElem (by rw [Hl.out]; omega)⟩
      obtain ⟨b, off, rfl, hb, ⟨x0, x1, x2, x3, x4⟩⟩ := Cells.at_ H.out hx
      obtain ⟨k0, k0f⟩ := keep_below hB0 b hb
      have hzr := hB0.size
      have Hx := Lib.hid hx
      have hxo := Hok.out x (List.mem_of_getElem? hx)
      clear hx
      cases hv : badC x
      · have hcl := Lib.hid fun W => rcell_ok x W hxo hv
        have hnx : Hid ((cs.take (k + 1)).any badC = false) := Lib.hid (by rw [List.take_add_one, Hx.out, List.any_append, hE.out]; simp [hv])
        clear hv hxo
        go_wp2_with (first | (go_at_call 38; refine (hcl.out _).mono ?_; rintro e w1 ⟨rfl, hb⟩; obtain ⟨hB, hS, hk⟩ := after (B := w.heap.size) (w := w) (by go_grown) (by go_size) hb; clear hb; obtain ⟨c0, f0, z0⟩ := hk (b) (by go_size); clear hk))
        exact ⟨⟨k + 1, by omega, by go_num, hnx, hB⟩, by simp [intOf]; omega⟩
      · have hcl := Lib.hid fun W => rcell_bad x W hxo hv
        have hany : cs.any badC = true := List.any_eq_true.2 ⟨x, List.mem_of_getElem? Hx.out, hv⟩
        have Hv := Lib.hid (HR.out.trans (if_pos hany))
        clear hv hxo hany
        go_wp2_with (first | (go_at_call 38; refine (hcl.out _).mono ?_; rintro e w1 ⟨rfl, hb⟩; obtain ⟨hB, hS, hk⟩ := after (B := w.heap.size) (w := w) (by go_grown) (by go_size) hb; clear hb; obtain ⟨c0, f0, z0⟩ := hk (b) (by go_size); clear hk))
        go_returns
        exact ⟨by rw [Hv.out]; rfl, hB⟩
    · have hany : cs.any badC = false := by
        have h := hE.out
        rwa [List.take_of_length_le (by rw [Hl.out]; omega)] at h
      have Hany := Lib.hid hany
      have HR1 := Lib.hid (HR.out.trans (if_neg (by rw [hany]; decide)))
      clear hany hE
      have hz0 := hB0.size
      obtain ⟨wo, rfl⟩ : ∃ x, x = wr := ⟨_, rfl⟩
      go_wp2
      go_loopw [4, 6] (fun s i wr => ∃ k : Nat, k ≤ n ∧ i = .int .i64 k ∧ s = .int .i64 (sumL (cs.take k)) ∧ sumL (cs.take k) ≤ 1048576 ∧ Below w.heap.size w wr) (fun _ i _ => n - (intOf i).toNat)
      case atStart => exact ⟨0, by omega, rfl, rfl, by simp [sumL], hB0⟩
      case round =>
        obtain ⟨k, hk, rfl, rfl, hsm, hB1⟩ := hrel
        by_cases hlt : k < n
        · obtain ⟨x, hx⟩ : ∃ x, cs[k]? = some x := ⟨_, List.getElem?_eq_getElem (by rw [Hl.out]; omega)⟩
          obtain ⟨b, off, rfl, hb, ⟨x0, x1, x2, x3, x4⟩⟩ := Cells.at_ H.out hx
          obtain ⟨k0, k0f⟩ := keep_below hB1 b hb
          have hzr := hB1.size
          obtain ⟨z1, z2, z3, z4, z5⟩ := cellL_sizes (some_any Hany.out (List.mem_of_getElem? hx))
          have hsu := Lib.hid (sumL_succ hx)
          have hsle := Lib.hid (sum_le Hany.out (k + 1))
          obtain ⟨S, hS0⟩ : ∃ S, S = sumL (cs.take k) := ⟨_, rfl⟩
          rw [← hS0] at hsm hsu ⊢
          unfold sumC at hsu
          clear hx hS0
          obtain ⟨T, hT, hTi⟩ : ∃ T : Nat, T = S + x.row.size + x.col.size + x.val.size + 5 ∧ (T : Int) = (S : Int) + x.row.size + x.col.size + x.val.size + 5 := ⟨_, rfl, by omega⟩
          have hsu : Hid (sumL (cs.take (k + 1)) = T) := Lib.hid (by rw [hsu.out, hT]; omega)
          have HTi := Lib.hid hTi
          have hTm : T ≤ 2000000 := by omega
          clear hT hTi
          by_cases hbig : 1048576 < T
          · have hlong : 1048576 < (encL cs).length := Nat.lt_of_lt_of_le (by rw [hsu.out]; omega) hsle.out
            have Hv := Lib.hid (HR1.out.trans (if_pos hlong))
            clear hlong
            go_wp2
            refine wp_region_below (by kernel_rfl) (by kernel_rfl) (fun hkept => ?_)
            obtain ⟨r0, rf0⟩ := hkept (b) (by go_size); clear hkept
            repeat (any_goals (first | go_big_quiet_step (fail) | quiet_step (fail) | (refine wpQuiet_step (fun K hK => ?_); go_simp; split <;> (refine hK _ ?_; clear hK K))))
            all_goals (refine wpQuiet_nil ?_; intro w5 hb; obtain ⟨hB, hS, hk⟩ := after (B := w.heap.size) (w := w) (by go_grown) (by go_size) hb; obtain ⟨c0, f0, z0⟩ := hk (b) (by go_size); clear hk hb r0 rf0)
            rw [← HTi.out]
            clear z1 z2 z3 z4 z5 HTi
            go_wp2
            go_returns
            exact ⟨by rw [Hv.out]; rfl, hB⟩
          · go_wp2
            refine wp_region_below (by kernel_rfl) (by kernel_rfl) (fun hkept => ?_)
            obtain ⟨r0, rf0⟩ := hkept (b) (by go_size); clear hkept
            repeat (any_goals (first | go_big_quiet_step (fail) | quiet_step (fail) | (refine wpQuiet_step (fun K hK => ?_); go_simp; split <;> (refine hK _ ?_; clear hK K))))
            all_goals (refine wpQuiet_nil ?_; intro w5 hb; obtain ⟨hB, hS, hk⟩ := after (B := w.heap.size) (w := w) (by go_grown) (by go_size) hb; obtain ⟨c0, f0, z0⟩ := hk (b) (by go_size); clear hk hb r0 rf0)
            rw [← HTi.out]
            clear z1 z2 z3 z4 z5 HTi
            go_wp2
            refine ⟨⟨k + 1, by omega, by go_num, ?_, by rw [hsu.out]; omega, hB⟩, by simp [intOf]; omega⟩
            rw [hsu.out]
        · have hzr := hB1.size
          have hall : sumL cs ≤ 1048576 := by rwa [List.take_of_length_le (by rw [Hl.out]; omega)] at hsm
          have hft := sum_fits Hany.out hall
          have K := Lib.hid fun W hb => rbytes_any ao n cap cs W (Arr.below H.out hb) Hany.out hft
          obtain ⟨s1, hs1⟩ : ∃ s, s = ofL (encL cs) := ⟨_, rfl⟩
          have hs1z : s1.size = (encL cs).length := by rw [hs1, ofL_size]
          rw [← hs1] at K HR1
          rw [← hs1z] at hft HR1
          clear hs1 hall hs1z
          by_cases hbig : 1048576 < s1.size
          · have Hv := Lib.hid (HR1.out.trans (if_pos hbig))
            go_wp2_with (first | (go_at_call 39; refine (K.out _ hB1).mono ?_; rintro e w1 ⟨rfl, hb⟩; obtain ⟨hB, hS, hk⟩ := after (B := w.heap.size) (w := w) (by go_grown) (by go_size) hb; clear hb; clear hk))
            go_returns
            exact ⟨by rw [Hv.out]; rfl, hB⟩
          · have Hv := Lib.hid (HR1.out.trans (if_neg hbig))
            go_wp2_with (first | (go_at_call 39; refine (K.out _ hB1).mono ?_; rintro e w1 ⟨rfl, hb⟩; obtain ⟨hB, hS, hk⟩ := after (B := w.heap.size) (w := w) (by go_grown) (by go_size) hb; clear hb; clear hk))
            go_returns
            exact ⟨by rw [Hv.out]; rfl, hB⟩

def encV (cs : List CellA) : ByteArray × Int := if cs.any badC then (⟨#[]⟩, 2) else if 1048576 < (encL cs).length then (⟨#[]⟩, 3) else (ofL (encL cs), 0)
theorem encode_v (ao : Option Addr) (n cap : Nat) (cs : List CellA) (w : World) (h : Cells w ao n cap cs) (hok : ∀ c ∈ cs, c.Ok) :
    Calls Try.prog 14 #[.slice ao n cap] w fun e w' => e = .returned (.tuple #[.string (encV cs).1, .int .i64 (encV cs).2]) ∧ Below w.heap.size w w' := by
  unfold encV
  cases hb : cs.any badC
  · have := encode_good ao n cap cs w h hok hb
    by_cases hl : 1048576 < (encL cs).length
    · simpa [hl] using this
    · simpa [hl] using this
  · simpa using encode_bad ao n cap cs w h hok hb
theorem rencode_v (ao : Option Addr) (n cap : Nat) (cs : List CellA) (w : World) (h : Cells w ao n cap cs) (hok : ∀ c ∈ cs, c.Ok) :
    Calls Try.prog 15 #[.slice ao n cap] w fun e w' => e = .returned (.tuple #[.string (encV cs).1, .int .i64 (encV cs).2]) ∧ Below w.heap.size w w' := by
  have := rencode_any ao n cap cs w h hok
  unfold encV
  cases hb : cs.any badC
  · by_cases hl : 1048576 < (encL cs).length
    · simpa [hl, hb] using this
    · simpa [hl, hb] using this
  · simpa [hb] using this

end Go.Proofs.Ytjalccnkfpjchaa
