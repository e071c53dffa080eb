/-
  Places: the walks of meta.Encode and the document's Encode.
-/
import Derived.Test.YtelangbockagnaaMetaCW
namespace Go.Proofs.Ytelangbockagnaa
open Go.RowKit

def nodesB (l : List Int) : List UInt8 := l.flatMap numW
def encM (c : LocA) : List UInt8 := numW c.gr ++ (numL c.lo.size ++ c.lo.toList) ++ (numL c.hi.size ++ c.hi.toList) ++ numW c.ep ++ numL c.nd.length ++ nodesB c.nd

theorem mputnumber (s : ByteArray) (v : Int) (w : World) (hb : s.size ≤ 1000000) (hu : U64 v) :
    Calls Try.prog 14 #[.string s, .int .u64 v] w fun e w' => e = .returned (.string (ofL (s.toList ++ numW v))) ∧ Below w.heap.size w w' := putnumber_of s v w (by omega) hu
theorem mputtext (s t : ByteArray) (w : World) (hb : s.size ≤ 1000000) (ht : t.size ≤ 1000000) :
    Calls Try.prog 15 #[.string s, .string t] w fun e w' => e = .returned (.string (ofL (s.toList ++ (numL t.size ++ t.toList)))) ∧ Below w.heap.size w w' := by
  have h := puttext_any s t w (by omega) (by omega)
  rw [append_ofL, ofL_toList, List.append_assoc] at h
  exact h
theorem rmputtext (s t : ByteArray) (w : World) (hb : s.size ≤ 1000000) (ht : t.size ≤ 1000000) :
    Calls Try.prog 18 #[.string s, .string t] w fun e w' => e = .returned (.string (ofL (s.toList ++ (numL t.size ++ t.toList)))) ∧ Below w.heap.size w w' := by
  have h := refputtext_any s t w (by omega) (by omega)
  rw [txtL, size_list] at h
  exact h
theorem rmputnumber (s : ByteArray) (v : Int) (w : World) (hb : s.size ≤ 1000000) (hu : U64 v) :
    Calls Try.prog 17 #[.string s, .int .u64 v] w fun e w' => e = .returned (.string (ofL (s.toList ++ numW v))) ∧ Below w.heap.size w w' := refputnumber_any s v w (by omega) hu

theorem rises_node : ∀ (l : List Int) (p : Option Int), risesF p l = true → ∀ x ∈ l, 0 ≤ x ∧ x < 5
  | [], _, _, x, h => by cases h
  | y :: r, p, h, x, hx => by
    simp only [risesF, Bool.and_eq_true, nodeB, decide_eq_true_eq] at h
    rcases List.mem_cons.1 hx with rfl | hx
    · exact h.1.1
    · exact rises_node r _ h.2 x hx
theorem rises_len : ∀ (l : List Int) (y : Int), risesF (some y) l = true → (l.length : Int) + y ≤ 4 ∨ l = []
  | [], _, _ => .inr rfl
  | x :: r, y, h => by
    simp only [risesF, Bool.and_eq_true, nodeB, riseB, decide_eq_true_eq] at h
    left
    rcases rises_len r x h.2 with k | k
    · rw [List.length_cons]; omega
    · subst k; simp; omega
theorem members_len {l : List Int} (h : membersL l = true) : l.length ≤ 5 := by
  unfold membersL at h
  cases l with
  | nil => simp
  | cons x r =>
    simp only [risesF, Bool.and_eq_true, nodeB, decide_eq_true_eq] at h
    rcases rises_len r x h.1.2 with k | k
    · rw [List.length_cons]; omega
    · subst k; simp
structure GoodM (c : LocA) : Prop where
  g0 : 0 ≤ c.gr
  g1 : c.gr < 12
  lo : c.lo.size ≤ 24
  hi : c.hi.size ≤ 24
  ep : c.ep ≤ 1099511627776
  nd : ∀ x ∈ c.nd, 0 ≤ x ∧ x < 5
  len : c.nd.length ≤ 5
theorem goodM {c : LocA} (h : okL c = true) : GoodM c := by
  simp only [okL, Bool.and_eq_true, decide_eq_true_eq, mayL, size_list] at h
  obtain ⟨⟨⟨⟨h1, h2⟩, h3⟩, h4⟩, h5⟩ := h
  refine ⟨h1, h2, by omega, by omega, h4, fun x hx => ?_, members_len h5⟩
  simp only [membersL, Bool.and_eq_true] at h5
  exact rises_node _ _ h5.1 x hx

/-- after k nodes -/
theorem nodesB_succ {l : List Int} {k : Nat} {x : Int} (h : l[k]? = some x) : nodesB (l.take (k + 1)) = nodesB (l.take k) ++ numW x := by
  simp [nodesB, List.take_add_one, h]
theorem nodesB_len {l : List Int} (h : ∀ x ∈ l, 0 ≤ x ∧ x < 5) : (nodesB l).length = l.length := by
  induction l with
  | nil => rfl
  | cons x r ih =>
    have hx := h x (by simp)
    have h2 := ih (fun y hy => h y (by simp [hy]))
    have : (numW x).length = 1 := by
      obtain ⟨v, rfl⟩ := Int.eq_ofNat_of_zero_le hx.1
      rw [numW, Int.toNat_natCast, numL_small (by omega)]; rfl
    unfold nodesB at *
    rw [List.flatMap_cons, List.length_append, h2, this, List.length_cons]; omega

set_option maxRecDepth 100000 in
set_option maxHeartbeats 4000000 in
theorem mencode_bad (c : LocA) (ao : Option Addr) (n cap : Nat) (w : World) (hc : c.Ok) (h : Ints w ao n cap c.nd) (hb : okL c = false) :
    Calls Try.prog 5 #[c.v ao n cap] w fun e w' => e = .returned (.tuple #[.string ⟨#[]⟩, .int .i64 2]) ∧ Below w.heap.size w w' := by
  have K1 := Lib.hid fun W hb => metacheck_any c ao n cap W hc (Ints.below h hb)
  rw [hb] at K1
  simp only [errM, Bool.false_eq_true, if_false] at K1
  obtain ⟨gr, lo, hi, ep, nd⟩ := c
  simp only [LocA.v] at K1 ⊢
  clear hb h hc
  go_enter Try.func5, Try.ntmps5
  go_wp2_with (first | (go_at_call 7; refine (K1.out _ (by go_grown)).mono ?_; rintro e w1 ⟨rfl, hb⟩; obtain ⟨hB, hS, hk⟩ := after (B := w.heap.size) (w := w) (by go_grown) (by go_size) hb; clear hb; obtain ⟨c0, f0, z0⟩ := hk (w.heap.size) (by go_size); clear hk))
  go_returns
  exact ⟨rfl, hB⟩
set_option maxRecDepth 100000 in
set_option maxHeartbeats 4000000 in
theorem rmencode_bad (c : LocA) (ao : Option Addr) (n cap : Nat) (w : World) (hc : c.Ok) (h : Ints w ao n cap c.nd) (hb : okL c = false) :
    Calls Try.prog 6 #[c.v ao n cap] w fun e w' => e = .returned (.tuple #[.string ⟨#[]⟩, .int .i64 2]) ∧ Below w.heap.size w w' := by
  have K1 := Lib.hid fun W hb => rmetamay_any c ao n cap W hc (Ints.below h hb)
  rw [hb] at K1
  obtain ⟨gr, lo, hi, ep, nd⟩ := c
  simp only [LocA.v] at K1 ⊢
  clear hb h hc
  go_enter Try.func6, Try.ntmps6
  go_wp2_with (first | (go_at_call 16; refine (K1.out _ (by go_grown)).mono ?_; rintro e w1 ⟨rfl, hb⟩; obtain ⟨hB, hS, hk⟩ := after (B := w.heap.size) (w := w) (by go_grown) (by go_size) hb; clear hb; obtain ⟨c0, f0, z0⟩ := hk (w.heap.size) (by go_size); clear hk))
  go_returns
  exact ⟨rfl, hB⟩

theorem idx_two0 (a b : ByteArray) (w : World) : (Instr.index 37 (.agg #[.string a, .string b]) (.int .i64 0)).run Try.prog w = .ok (.string a) w := by
  simp [Instr.index, go_sem]
theorem idx_two1 (a b : ByteArray) (w : World) : (Instr.index 37 (.agg #[.string a, .string b]) (.int .i64 1)).run Try.prog w = .ok (.string b) w := by
  simp [Instr.index, go_sem]
set_option maxRecDepth 100000 in
set_option maxHeartbeats 4000000 in
theorem mencode_good (c : LocA) (ao : Option Addr) (n cap : Nat) (w : World) (hc : c.Ok) (h : Ints w ao n cap c.nd) (hg : okL c = true) :
    Calls Try.prog 5 #[c.v ao n cap] w fun e w' => e = .returned (.tuple #[.string (ofL (encM c)), .int .i64 0]) ∧ Below w.heap.size w w' := by
  have K1 := Lib.hid fun W hb => metacheck_any c ao n cap W hc (Ints.below h hb)
  rw [hg] at K1
  simp only [errM, if_true] at K1
  obtain ⟨g0, g1, g2, g3, g4, g5, g6⟩ := goodM hg
  have Hl := Lib.hid h.len
  have hnl : n ≤ 5 := by rw [← h.len]; exact g6
  have H := Lib.hid h
  have G5 := Lib.hid g5
  have he0 := hc.e0
  obtain ⟨R, hR⟩ : ∃ R, R = ofL (encM c) := ⟨_, rfl⟩
  rw [← hR]
  obtain ⟨gr, lo, hi, ep, nd⟩ := c
  simp only [LocA.v] at K1 ⊢
  simp only at g0 g1 g2 g3 g4 he0
  obtain ⟨s1, hs1⟩ : ∃ s, s = ofL (numW gr) := ⟨_, rfl⟩
  obtain ⟨s2, hs2⟩ : ∃ s, s = ofL (s1.toList ++ (numL lo.size ++ lo.toList)) := ⟨_, rfl⟩
  obtain ⟨s3, hs3⟩ : ∃ s, s = ofL (s2.toList ++ (numL hi.size ++ hi.toList)) := ⟨_, rfl⟩
  obtain ⟨s4, hs4⟩ : ∃ s, s = ofL (s3.toList ++ numW ep) := ⟨_, rfl⟩
  obtain ⟨s5, hs5⟩ : ∃ s, s = ofL (s4.toList ++ numW (n : Int)) := ⟨_, rfl⟩
  have ug : U64 gr := ⟨g0, by omega⟩
  have ue : U64 ep := ⟨he0, by omega⟩
  have un : U64 (n : Int) := ⟨by omega, by omega⟩
  have z1 : s1.size ≤ 10 := by rw [hs1, ofL_size]; exact numW_len _ ug
  have z2 : s2.size ≤ 50 := by have := numL_ten (v := lo.size) (by omega); rw [hs2, ofL_size]; simp only [List.length_append, size_list]; omega
  have z3 : s3.size ≤ 90 := by have := numL_ten (v := hi.size) (by omega); rw [hs3, ofL_size]; simp only [List.length_append, size_list]; omega
  have z4 : s4.size ≤ 100 := by have := numW_len _ ue; rw [hs4, ofL_size]; simp only [List.length_append, size_list]; omega
  have z5 : s5.size ≤ 110 := by have := numW_len _ un; rw [hs5, ofL_size]; simp only [List.length_append, size_list]; omega
  have P1 : Hid (∀ W, Calls Try.prog 14 #[.string ⟨#[]⟩, .int .u64 gr] W fun e w' => e = .returned (.string s1) ∧ Below W.heap.size W w') := Lib.hid fun W => by
    have := mputnumber ⟨#[]⟩ gr W (by decide) ug
    rw [show (⟨#[]⟩ : ByteArray).toList = [] by simp [Lib.toList_data], List.nil_append, ← hs1] at this
    exact this
  have P2 : Hid (∀ W, Calls Try.prog 15 #[.string s1, .string lo] W fun e w' => e = .returned (.string s2) ∧ Below W.heap.size W w') := Lib.hid fun W => by rw [hs2]; exact mputtext s1 lo W (by omega) (by omega)
  have P3 : Hid (∀ W, Calls Try.prog 15 #[.string s2, .string hi] W fun e w' => e = .returned (.string s3) ∧ Below W.heap.size W w') := Lib.hid fun W => by rw [hs3]; exact mputtext s2 hi W (by omega) (by omega)
  have P4 : Hid (∀ W, Calls Try.prog 14 #[.string s3, .int .u64 ep] W fun e w' => e = .returned (.string s4) ∧ Below W.heap.size W w') := Lib.hid fun W => by rw [hs4]; exact mputnumber s3 ep W (by omega) ue
  have P5 : Hid (∀ W, Calls Try.prog 14 #[.string s4, .int .u64 (n : Int)] W fun e w' => e = .returned (.string s5) ∧ Below W.heap.size W w') := Lib.hid fun W => by rw [hs5]; exact mputnumber s4 n W (by omega) un
  have HR : Hid (R = ofL (s5.toList ++ nodesB nd)) := Lib.hid (by
    rw [hR, encM, hs5, hs4, hs3, hs2, hs1]
    simp only [ofL_toList, List.append_assoc]
    have : numW (n : Int) = numL nd.length := by rw [show nd.length = n from h.len]; rfl
    rw [this])
  have hx0 := idx_two0 lo hi
  have hx1 := idx_two1 lo hi
  clear h hc hg hR hs1 hs2 hs3 hs4 hs5 ug ue un z1 z2 z3 z4 g5
  go_enter Try.func5, Try.ntmps5
  go_wp2_with (first
    | (go_at_call 7; refine (K1.out _ (by go_grown)).mono ?_; rintro e w1 ⟨rfl, hb⟩; obtain ⟨hB, hS, hk⟩ := after (B := w.heap.size) (w := w) (by go_grown) (by go_size) hb; clear hb; obtain ⟨c0, f0, z0⟩ := hk (w.heap.size) (by go_size); clear hk)
    | (go_at_call 14; with_reducible refine (P1.out _).mono ?_; rintro e w2 ⟨rfl, hb⟩; obtain ⟨hB, hS, hk⟩ := after (B := w.heap.size) (w := w) (by go_grown) (by go_size) hb; clear hb; obtain ⟨c0, f0, z0⟩ := hk (w.heap.size) (by go_size); clear hk))
  refine wp_loop_rounds 3 ?_
  rw [rounds_succ]
  go_wp2_with (first | (go_at_call 15; with_reducible refine (P2.out _).mono ?_; rintro e w3 ⟨rfl, hb⟩; obtain ⟨hB, hS, hk⟩ := after (B := w.heap.size) (w := w) (by go_grown) (by go_size) hb; clear hb; obtain ⟨c0, f0, z0⟩ := hk (w.heap.size) (by go_size); clear hk))
  rw [rounds_succ]
  go_wp2_with (first | (go_at_call 15; with_reducible refine (P3.out _).mono ?_; rintro e w4 ⟨rfl, hb⟩; obtain ⟨hB, hS, hk⟩ := after (B := w.heap.size) (w := w) (by go_grown) (by go_size) hb; clear hb; obtain ⟨c0, f0, z0⟩ := hk (w.heap.size) (by go_size); clear hk))
  rw [rounds_succ]
  go_wp2
  refine wp_region_below (by kernel_rfl) (by kernel_rfl) (fun hkept => ?_)
  obtain ⟨r0, rf0⟩ := hkept (w.heap.size) (by go_size); clear hkept
  repeat (any_goals (first | go_big_quiet_step (first | (go_at_call 14; with_reducible exact Calls.regrown_of (P5.out _)) | (go_at_call 14; with_reducible exact Calls.regrown_of (P4.out _))) | quiet_step (first | (go_at_call 14; with_reducible exact Calls.regrown_of (P5.out _)) | (go_at_call 14; with_reducible exact Calls.regrown_of (P4.out _))) | (refine wpQuiet_step (fun K hK => ?_); go_simp; split <;> (refine hK _ ?_; clear hK K))))
  all_goals (refine wpQuiet_nil ?_; intro w6 hb; obtain ⟨hB, hS, hk⟩ := after (B := w.heap.size) (w := w) (by go_grown) (by go_size) hb; obtain ⟨c0, f0, z0⟩ := hk (w.heap.size) (by go_size); clear hk hb r0 rf0)
  go_wp2
  go_loopw [5, 45] (fun s i wr => ∃ (k : Nat) (b : ByteArray), k ≤ n ∧ i = .int .i64 k ∧ s = .string b ∧ Hid (b.toList = s5.toList ++ nodesB (nd.take k)) ∧ Below w6.heap.size w6 wr) (fun _ i _ => n - (intOf i).toNat)
  case atStart => exact ⟨0, s5, by omega, rfl, rfl, Lib.hid (by simp [nodesB]), Below.refl _ _⟩
  case round =>
    obtain ⟨k, b, hk, rfl, rfl, hQs, hB0⟩ := hrel
    have hzr := hB0.size
    by_cases hlt : k < n
    · obtain ⟨x, hx⟩ : ∃ x, nd[k]? = some x := ⟨_, List.getElem?_eq_getElem (by rw [Hl.out]; omega)⟩
      have hx5 := G5.out x (List.mem_of_getElem? hx)
      obtain ⟨b2, off, e0, hb2, x0⟩ := (H.out.below hB).at_ hx
      subst e0
      have hk0 : (∀ o, wr.cell? ⟨b2, o, none⟩ = w6.cell? ⟨b2, o, none⟩) := fun o => hB0.cell (p := ⟨b2, o, none⟩) hb2
      have hbz : b.size ≤ 200 := by
        have h1 := congrArg List.length hQs.out
        have h2 := nodesB_len (l := nd.take k) (fun y hy => G5.out y (List.mem_of_mem_take hy))
        rw [List.length_append, h2, List.length_take, size_list, size_list] at h1
        omega
      have ux : U64 x := ⟨hx5.1, by omega⟩
      have hnx := Lib.hid (nodesB_succ hx)
      obtain ⟨b', hb'⟩ : ∃ s, s = ofL (b.toList ++ numW x) := ⟨_, rfl⟩
      have P6 : Hid (∀ W, Calls Try.prog 14 #[.string b, .int .u64 x] W fun e w' => e = .returned (.string b') ∧ Below W.heap.size W w') := Lib.hid fun W => by rw [hb']; exact mputnumber b x W (by omega) ux
      have hS2 : Hid (b'.toList = s5.toList ++ nodesB (nd.take (k + 1))) := Lib.hid (by rw [hb', ofL_toList, hQs.out, hnx.out, List.append_assoc])
      obtain ⟨hx50, hx51⟩ := hx5
      clear hx hb' ux
      go_wp2_with (go_at_call 14; refine (P6.out _).mono ?_; rintro e w8 ⟨rfl, hb⟩; have HB8 := Lib.hid (hB0.trans (hb.mono hzr)); clear hb)
      exact ⟨⟨k + 1, b', by omega, by go_num, rfl, hS2, HB8.out⟩, by simp [intOf]; omega⟩
    · obtain rfl : k = n := by omega
      have hfin : Hid (R = b) := Lib.hid (by
        rw [HR.out]
        refine toList_inj.1 ?_
        rw [ofL_toList, hQs.out, List.take_of_length_le (by rw [Hl.out]; exact Nat.le_refl _)])
      go_wp2
      go_returns
      exact ⟨by rw [hfin.out]; rfl, hB.trans (hB0.mono hS)⟩
set_option maxRecDepth 100000 in
set_option maxHeartbeats 4000000 in
theorem rmencode_good (c : LocA) (ao : Option Addr) (n cap : Nat) (w : World) (hc : c.Ok) (h : Ints w ao n cap c.nd) (hg : okL c = true) :
    Calls Try.prog 6 #[c.v ao n cap] w fun e w' => e = .returned (.tuple #[.string (ofL (encM c)), .int .i64 0]) ∧ Below w.heap.size w w' := by
  have K1 := Lib.hid fun W hb => rmetamay_any c ao n cap W hc (Ints.below h hb)
  rw [hg] at K1
  obtain ⟨g0, g1, g2, g3, g4, g5, g6⟩ := goodM hg
  have Hl := Lib.hid h.len
  have hnl : n ≤ 5 := by rw [← h.len]; exact g6
  have H := Lib.hid h
  have G5 := Lib.hid g5
  have he0 := hc.e0
  obtain ⟨R, hR⟩ : ∃ R, R = ofL (encM c) := ⟨_, rfl⟩
  rw [← hR]
  obtain ⟨gr, lo, hi, ep, nd⟩ := c
  simp only [LocA.v] at K1 ⊢
  simp only at g0 g1 g2 g3 g4 he0
  obtain ⟨s1, hs1⟩ : ∃ s, s = ofL (numW gr) := ⟨_, rfl⟩
  obtain ⟨s2, hs2⟩ : ∃ s, s = ofL (s1.toList ++ (numL lo.size ++ lo.toList)) := ⟨_, rfl⟩
  obtain ⟨s3, hs3⟩ : ∃ s, s = ofL (s2.toList ++ (numL hi.size ++ hi.toList)) := ⟨_, rfl⟩
  obtain ⟨s4, hs4⟩ : ∃ s, s = ofL (s3.toList ++ numW ep) := ⟨_, rfl⟩
  obtain ⟨s5, hs5⟩ : ∃ s, s = ofL (s4.toList ++ numW (n : Int)) := ⟨_, rfl⟩
  have ug : U64 gr := ⟨g0, by omega⟩
  have ue : U64 ep := ⟨he0, by omega⟩
  have un : U64 (n : Int) := ⟨by omega, by omega⟩
  have z1 : s1.size ≤ 10 := by rw [hs1, ofL_size]; exact numW_len _ ug
  have z2 : s2.size ≤ 50 := by have := numL_ten (v := lo.size) (by omega); rw [hs2, ofL_size]; simp only [List.length_append, size_list]; omega
  have z3 : s3.size ≤ 90 := by have := numL_ten (v := hi.size) (by omega); rw [hs3, ofL_size]; simp only [List.length_append, size_list]; omega
  have z4 : s4.size ≤ 100 := by have := numW_len _ ue; rw [hs4, ofL_size]; simp only [List.length_append, size_list]; omega
  have z5 : s5.size ≤ 110 := by have := numW_len _ un; rw [hs5, ofL_size]; simp only [List.length_append, size_list]; omega
  have P1 : Hid (∀ W, Calls Try.prog 17 #[.string ⟨#[]⟩, .int .u64 gr] W fun e w' => e = .returned (.string s1) ∧ Below W.heap.size W w') := Lib.hid fun W => by
    have := rmputnumber ⟨#[]⟩ gr W (by decide) ug
    rw [show (⟨#[]⟩ : ByteArray).toList = [] by simp [Lib.toList_data], List.nil_append, ← hs1] at this
    exact this
  have P2 : Hid (∀ W, Calls Try.prog 18 #[.string s1, .string lo] W fun e w' => e = .returned (.string s2) ∧ Below W.heap.size W w') := Lib.hid fun W => by rw [hs2]; exact rmputtext s1 lo W (by omega) (by omega)
  have P3 : Hid (∀ W, Calls Try.prog 18 #[.string s2, .string hi] W fun e w' => e = .returned (.string s3) ∧ Below W.heap.size W w') := Lib.hid fun W => by rw [hs3]; exact rmputtext s2 hi W (by omega) (by omega)
  have P4 : Hid (∀ W, Calls Try.prog 17 #[.string s3, .int .u64 ep] W fun e w' => e = .returned (.string s4) ∧ Below W.heap.size W w') := Lib.hid fun W => by rw [hs4]; exact rmputnumber s3 ep W (by omega) ue
  have P5 : Hid (∀ W, Calls Try.prog 17 #[.string s4, .int .u64 (n : Int)] W fun e w' => e = .returned (.string s5) ∧ Below W.heap.size W w') := Lib.hid fun W => by rw [hs5]; exact rmputnumber s4 n W (by omega) un
  have HR : Hid (R = ofL (s5.toList ++ nodesB nd)) := Lib.hid (by
    rw [hR, encM, hs5, hs4, hs3, hs2, hs1]
    simp only [ofL_toList, List.append_assoc]
    have : numW (n : Int) = numL nd.length := by rw [show nd.length = n from h.len]; rfl
    rw [this])
  clear h hc hg hR hs1 hs2 hs3 hs4 hs5 ug ue un z1 z2 z3 z4 g5
  go_enter Try.func6, Try.ntmps6
  go_wp2_with (first
    | (go_at_call 16; refine (K1.out _ (by go_grown)).mono ?_; rintro e w1 ⟨rfl, hb⟩; obtain ⟨hB, hS, hk⟩ := after (B := w.heap.size) (w := w) (by go_grown) (by go_size) hb; clear hb; obtain ⟨c0, f0, z0⟩ := hk (w.heap.size) (by go_size); clear hk)
    | (go_at_call 17; with_reducible refine (P1.out _).mono ?_; rintro e w2 ⟨rfl, hb⟩; obtain ⟨hB, hS, hk⟩ := after (B := w.heap.size) (w := w) (by go_grown) (by go_size) hb; clear hb; obtain ⟨c0, f0, z0⟩ := hk (w.heap.size) (by go_size); clear hk))
  refine wp_region_below (by kernel_rfl) (by kernel_rfl) (fun hkept => ?_)
  obtain ⟨r0, rf0⟩ := hkept (w.heap.size) (by go_size); clear hkept
  repeat (any_goals (first | go_big_quiet_step (first | (go_at_call 18; with_reducible exact Calls.regrown_of (P3.out _)) | (go_at_call 18; with_reducible exact Calls.regrown_of (P2.out _))) | quiet_step (first | (go_at_call 18; with_reducible exact Calls.regrown_of (P3.out _)) | (go_at_call 18; with_reducible exact Calls.regrown_of (P2.out _))) | (refine wpQuiet_step (fun K hK => ?_); go_simp; split <;> (refine hK _ ?_; clear hK K))))
  all_goals (refine wpQuiet_nil ?_; intro w4 hb; obtain ⟨hB, hS, hk⟩ := after (B := w.heap.size) (w := w) (by go_grown) (by go_size) hb; obtain ⟨c0, f0, z0⟩ := hk (w.heap.size) (by go_size); clear hk hb r0 rf0)
  go_wp2
  refine wp_region_below (by kernel_rfl) (by kernel_rfl) (fun hkept => ?_)
  obtain ⟨r0, rf0⟩ := hkept (w.heap.size) (by go_size); clear hkept
  repeat (any_goals (first | go_big_quiet_step (first | (go_at_call 17; with_reducible exact Calls.regrown_of (P5.out _)) | (go_at_call 17; with_reducible exact Calls.regrown_of (P4.out _))) | quiet_step (first | (go_at_call 17; with_reducible exact Calls.regrown_of (P5.out _)) | (go_at_call 17; with_reducible exact Calls.regrown_of (P4.out _))) | (refine wpQuiet_step (fun K hK => ?_); go_simp; split <;> (refine hK _ ?_; clear hK K))))
  all_goals (refine wpQuiet_nil ?_; intro w6 hb; obtain ⟨hB, hS, hk⟩ := after (B := w.heap.size) (w := w) (by go_grown) (by go_size) hb; obtain ⟨c0, f0, z0⟩ := hk (w.heap.size) (by go_size); clear hk hb r0 rf0)
  go_wp2
  go_loopw [4, 5] (fun s i wr => ∃ (k : Nat) (b : ByteArray), k ≤ n ∧ i = .int .i64 k ∧ s = .string b ∧ Hid (b.toList = s5.toList ++ nodesB (nd.take k)) ∧ Below w6.heap.size w6 wr ∧ w.heap.size < wr.heap.size ∧ wr.cell? ⟨w.heap.size, 4, none⟩ = some (.slice ao n cap)) (fun _ i _ => n - (intOf i).toNat)
  case atStart => exact ⟨0, s5, by omega, rfl, rfl, Lib.hid (by simp [nodesB]), Below.refl _ _, by go_size, by go_simp⟩
  case round =>
    obtain ⟨k, b, hk, rfl, rfl, hQs, hB0, hzl, p4⟩ := hrel
    have hzr := hB0.size
    by_cases hlt : k < n
    · obtain ⟨x, hx⟩ : ∃ x, nd[k]? = some x := ⟨_, List.getElem?_eq_getElem (by rw [Hl.out]; omega)⟩
      have hx5 := G5.out x (List.mem_of_getElem? hx)
      obtain ⟨b2, off, e0, hb2, x0⟩ := (H.out.below hB).at_ hx
      cases e0
      have hk0 : (∀ o, wr.cell? ⟨b2, o, none⟩ = w6.cell? ⟨b2, o, none⟩) := fun o => hB0.cell (p := ⟨b2, o, none⟩) hb2
      have hbz : b.size ≤ 200 := by
        have h1 := congrArg List.length hQs.out
        have h2 := nodesB_len (l := nd.take k) (fun y hy => G5.out y (List.mem_of_mem_take hy))
        rw [List.length_append, h2, List.length_take, size_list, size_list] at h1
        omega
      have ux : U64 x := ⟨hx5.1, by omega⟩
      have hnx := Lib.hid (nodesB_succ hx)
      obtain ⟨b', hb'⟩ : ∃ s, s = ofL (b.toList ++ numW x) := ⟨_, rfl⟩
      have P6 : Hid (∀ W, Calls Try.prog 17 #[.string b, .int .u64 x] W fun e w' => e = .returned (.string b') ∧ Below W.heap.size W w') := Lib.hid fun W => by rw [hb']; exact rmputnumber b x W (by omega) ux
      have hS2 : Hid (b'.toList = s5.toList ++ nodesB (nd.take (k + 1))) := Lib.hid (by rw [hb', ofL_toList, hQs.out, hnx.out, List.append_assoc])
      obtain ⟨hx50, hx51⟩ := hx5
      clear hx hb' ux
      go_wp2_with (go_at_call 17; refine (P6.out _).mono ?_; rintro e w8 ⟨rfl, hb⟩; have HB8 := Lib.hid (hB0.trans (hb.mono hzr)); have p48 := (hb.cell (p := ⟨w.heap.size, 4, none⟩) hzl).trans p4; have hz8 := hb.size; clear hb)
      exact ⟨⟨k + 1, b', by omega, by go_num, rfl, hS2, HB8.out, by omega, p48⟩, by simp [intOf]; omega⟩
    · obtain rfl : k = n := by omega
      have hfin : Hid (R = b) := Lib.hid (by
        rw [HR.out]
        refine toList_inj.1 ?_
        rw [ofL_toList, hQs.out, List.take_of_length_le (by rw [Hl.out]; exact Nat.le_refl _)])
      go_wp2
      go_returns
      exact ⟨by rw [hfin.out]; rfl, hB.trans (hB0.mono hS)⟩
end Go.Proofs.Ytelangbockagnaa
