/-
  The walk of acreagelaw32.AuditOrder.
-/
import Derived.Test.YteibnignjghedaaAudL1
import Derived.Test.YteibnignjghedaaAudOP
namespace Go.Proofs.Yteibnignjghedaa
open Go.RowKit Go.Sort

theorem rotN_len (l : List SeenA) (f : Nat) {k : Nat} (hk : k ≤ l.length) : (rotN l f k).length = k := by
  rcases Nat.eq_zero_or_pos l.length with h | h
  · have : k = 0 := by omega
    subst this; rfl
  · have hr : f % l.length < l.length := Nat.mod_lt _ h
    rw [rotN_eq l f k hk, List.length_take, List.length_append, List.length_drop, List.length_take]
    omega
theorem rotN_succ {l : List SeenA} {f k : Nat} {s : SeenA} (h : l[(k + f) % l.length]? = some s) : rotN l f (k + 1) = rotN l f k ++ [s] := by rw [rotN, h]
theorem turn_get {l : List SeenA} {back : Bool} {r : Nat} (hr : r < l.length) : (turnL l back)[r]? = l[if back then l.length - 1 - r else r]? := by
  cases back
  · rfl
  · simp only [turnL, if_true]
    rw [List.getElem?_reverse hr]
set_option maxRecDepth 100000 in
set_option maxHeartbeats 4000000 in
theorem auditorder_any (ao : Option Addr) (n cap F : Nat) (back : Bool) (l : List SeenA) (w : World) (h : Seens w ao n cap l) (hok : ∀ s ∈ l, s.Ok) (hwt : ∀ s ∈ l, s.bn * 8 ≤ 140737488355328 ∧ s.en * 264 ≤ 140737488355328 ∧ ∀ e ∈ s.es, e.mn * 8 ≤ 140737488355328) (hF : F ≤ 255) :
    Calls Try.prog 5 #[.slice ao n cap, .int .u8 (F : Int), .bool back] w fun e w' => e = .returned (.bool true) ∧ Below w.heap.size w w' := by
  obtain ⟨m, hm⟩ : ∃ m : Nat, min (n : Int) 10 = m := ⟨min n 10, by omega⟩
  have hm12 : m ≤ 10 := by omega
  have hmn : m ≤ n := by omega
  have hcap := Arr.fits h.arr
  have hmax := Arr.max h.arr
  unfold maxLen at hmax
  have hT := h.take hmn
  have hok2 : ∀ s ∈ l.take m, s.Ok := fun s hs => hok s (List.mem_of_mem_take hs)
  have hwt2 : ∀ s ∈ l.take m, s.bn * 8 ≤ 140737488355328 ∧ ∀ e ∈ s.es, e.mn * 8 ≤ 140737488355328 := fun s hs => ⟨(hwt s (List.mem_of_mem_take hs)).1, (hwt s (List.mem_of_mem_take hs)).2.2⟩
  generalize l.take m = q at *
  have HT := Lib.hid hT
  have Hq := Lib.hid hT.len
  obtain ⟨o, ho⟩ : ∃ o, o = rotN (turnL q back) F q.length := ⟨_, rfl⟩
  have hperm : List.Perm q o := by
    have h1 := (turn_perm q back).trans (rot_perm (turnL q back) F)
    rw [turn_len] at h1
    rw [ho]; exact h1
  have hiff : (checkL q).length = 0 ↔ (checkL o).length = 0 := by
    rw [List.length_eq_zero_iff, List.length_eq_zero_iff, ho]
    exact order_check q F back
  obtain ⟨L1, hL1⟩ : ∃ L, L = (checkL q).length := ⟨_, rfl⟩
  obtain ⟨L2, hL2⟩ : ∃ L, L = (checkL o).length := ⟨_, rfl⟩
  rw [← hL1, ← hL2] at hiff
  have KC1 : Hid (∀ V, Below w.heap.size w V → Calls Try.prog 9 #[.slice ao m cap] V fun e w' => ∃ a c, e = .returned (.slice a L1 c) ∧ Below V.heap.size V w') := Lib.hid (fun V hV => by
    refine (acheck_any ao m cap q V (hT.below hV) hok2 hwt2 (by omega)).mono ?_
    rintro e w' ⟨v, rfl, hr, hb⟩
    rw [← hL1] at hr
    obtain ⟨a, c, rfl⟩ := row_slice hr
    exact ⟨a, c, rfl, hb⟩)
  have KC2 : Hid (∀ V (ra : Option Addr) (rc : Nat), Seens V ra m rc o → Calls Try.prog 9 #[.slice ra m rc] V fun e w' => ∃ a c, e = .returned (.slice a L2 c) ∧ Below V.heap.size V w') := Lib.hid (fun V ra rc hS => by
    refine (acheck_any ra m rc o V hS (fun s hs => hok2 s (hperm.mem_iff.2 hs)) (fun s hs => hwt2 s (hperm.mem_iff.2 hs)) (by omega)).mono ?_
    rintro e w' ⟨v, rfl, hr, hb⟩
    rw [← hL2] at hr
    obtain ⟨a, c, rfl⟩ := row_slice hr
    exact ⟨a, c, rfl, hb⟩)
  have Hperm := Lib.hid hperm
  have Ho := Lib.hid ho
  have Hiff := Lib.hid hiff
  obtain ⟨i0, hi, iz0, iz1, iz2⟩ := info_parts Try.info_seen
  have Hi := Lib.hid hi
  clear h hok hwt hT hok2 hwt2 ho hperm hiff hL1 hL2 hi
  go_enter Try.func5, Try.ntmps5
  go_wp2_with (go_at_call 12; refine (works_any w).mono ?_; rintro e w1 ⟨rfl, hb1⟩; have Hb1 := Lib.hid hb1; clear hb1)
  go_loopw [7, 8] (fun v i V => ∃ (k : Nat) (ra : Option Addr) (rc : Nat), k ≤ m ∧ i = .int .i64 k ∧ v = .slice ra k rc ∧ Hid (Row V w.heap.size 49 19 (.slice ra k rc) k ((rotN (turnL q back) F k).map SeenA.l).flatten) ∧ Hid (Below w.heap.size w V)) (fun _ i _ => m - (intOf i).toNat)
  case atStart => exact ⟨0, none, 0, by omega, rfl, rfl, Lib.hid (Row.nil _ _ _ _), Hb1⟩
  case round =>
    obtain ⟨k, ra, rc, hk, rfl, rfl, hR, hB⟩ := hrel
    by_cases hlt : k < m
    · obtain ⟨r, hr⟩ : ∃ r, r = (k + F) % m := ⟨_, rfl⟩
      have hrm : r < m := by rw [hr]; exact Nat.mod_lt _ (by omega)
      obtain ⟨x, hx⟩ : ∃ x, x = if back then m - 1 - r else r := ⟨_, rfl⟩
      have hxm : x < m := by rw [hx]; split <;> omega
      obtain ⟨s, hs⟩ : ∃ s, q[x]? = some s := ⟨_, List.getElem?_eq_getElem (by rw [Hq.out]; exact hxm)⟩
      have Hrot : Hid (rotN (turnL q back) F (k + 1) = rotN (turnL q back) F k ++ [s]) := Lib.hid (by
        refine rotN_succ ?_
        rw [turn_len, Hq.out, ← hr, turn_get (by rw [Hq.out]; exact hrm), Hq.out, ← hx]
        exact hs)
      obtain ⟨b, off, e0, hbl, xx⟩ := (HT.out.below hB.out).at_ hs
      have HLs := Lib.hid xx.load
      have Hr := Lib.hid hr
      have Hx := Lib.hid hx
      have hzw := hB.out.size
      have hm0 : 0 < m := by omega
      cases e0
      clear xx hs hr hx
      go_upto_region 8 with fail
      go_cut [9] (fun c wx => c = .int .i64 (r : Int) ∧ wr = wx)
      case first =>
        have hmz : ((m : Int) == 0) = false := by rw [beq_eq_false_iff_ne]; omega
        go_wp2_with fail
        go_meet
        refine ⟨?_, rfl⟩
        rw [Hr.out]
        first
          | rfl
          | (congr 1; push_cast; rfl)
          | (congr 1; rw [Int.natCast_emod, Int.natCast_add])
      case rest =>
        obtain ⟨rfl, rfl⟩ := hcut
        go_upto_if 30 with fail
        go_cut [9] (fun c wx => c = .int .i64 (x : Int) ∧ wr = wx)
        case first =>
          cases back
          · have hxr : x = r := by rw [Hx.out]; rfl
            subst hxr
            go_wp2_with fail
            go_meet
            exact ⟨rfl, rfl⟩
          · have hxr : (x : Int) = (m : Int) - 1 - (r : Int) := by have := Hx.out; simp only [if_true] at this; omega
            have Hxr := Lib.hid hxr
            clear hxr
            go_wp2_with fail
            go_meet
            exact ⟨by rw [Hxr.out], rfl⟩
        case rest =>
          obtain ⟨rfl, rfl⟩ := hcut
          go_wp2_with (first
            | (refine wpList_loadK rfl (by rfl) rfl (by exact HLs.out) ?_; simp only [Act.put, List.setIfInBounds_toArray, List.set_cons_succ, List.set_cons_zero])
            | (refine wpList_build1 (by rfl) 22 49 _ rfl s.l rfl 19 i0 _ Try.underlying22 Hi.out iz0 iz1 (by decide) (by decide) rfl ?_; simp only [Act.put, List.setIfInBounds_toArray, List.set_cons_succ, List.set_cons_zero])
            | (at_builtin; refine wpList_append_at _ rfl _ _ 22 rfl w.heap.size 49 i0 _ 19 224 Try.underlying22 Hi.out iz0 iz1 iz2 rfl (by decide) (.slice ra k rc) _ _ rfl (Row.alloc hR.out _) rfl (seens_one wr _ s _ rfl) (by omega) (by unfold maxLen; omega) (by rw [World.size_alloc]; omega) ?_; intro v9 w9 hr9 hg9 ho9; obtain ⟨a9, k9, rfl⟩ := row_slice hr9; have HR9 := Lib.hid hr9; have HB9 := Lib.hid ((hB.out.alloc hzw _).grown hg9 (by rw [World.size_alloc]; omega) (fun q hq => (Row.lt hR.out q hq).1)); clear hr9 hg9 ho9))
          exact ⟨⟨k + 1, a9, k9, by omega, by go_num, rfl, Lib.hid (by rw [Hrot.out, List.map_append, List.flatten_append]; exact HR9.out), HB9⟩, by simp [intOf]; omega⟩
    · obtain rfl : k = m := by omega
      have hrl : rotN (turnL q back) F k = o := by rw [Ho.out, Hq.out]
      have hS : Seens wr ra k rc o := ⟨by
        have := hR.out
        rw [hrl] at this
        exact row_arr (by decide) (by rw [List.length_map, ← Hperm.out.length_eq, Hq.out]) this (seen_elems o), fun s hs => (HT.out.ins s (Hperm.out.mem_iff.2 hs)).below hB.out⟩
      have HS := Lib.hid hS
      clear hrl hS
      by_cases h0 : L1 = 0
      · have h2 : L2 = 0 := Hiff.out.1 h0
        subst h0 h2
        go_wp2_with (first
          | ((go_at_call 9; with_reducible refine (KC1.out wr hB.out).mono ?_); rintro e w2 ⟨a2, c2, rfl, hb2⟩; have HS2 := Lib.hid (HS.out.below hb2); have Hb2 := Lib.hid (hB.out.trans (hb2.mono hB.out.size)); clear hb2)
          | ((go_at_call 9; with_reducible refine (KC2.out w2 ra rc HS2.out).mono ?_); rintro e w3 ⟨a3, c3, rfl, hb3⟩; have Hb3 := Lib.hid (Hb2.out.trans (hb3.mono Hb2.out.size)); clear hb3))
        go_returns
        exact ⟨rfl, Hb3.out⟩
      · have h2 : ¬ L2 = 0 := fun e => h0 (Hiff.out.2 e)
        have t1 : ((L1 : Int) == 0) = false := by rw [beq_eq_false_iff_ne]; omega
        have t2 : ((L2 : Int) == 0) = false := by rw [beq_eq_false_iff_ne]; omega
        have t3 : decide (L1 = 0) = false := by simpa using h0
        have t4 : decide (L2 = 0) = false := by simpa using h2
        clear h0 h2
        go_wp2_with (first
          | ((go_at_call 9; with_reducible refine (KC1.out wr hB.out).mono ?_); rintro e w2 ⟨a2, c2, rfl, hb2⟩; have HS2 := Lib.hid (HS.out.below hb2); have Hb2 := Lib.hid (hB.out.trans (hb2.mono hB.out.size)); clear hb2)
          | ((go_at_call 9; with_reducible refine (KC2.out w2 ra rc HS2.out).mono ?_); rintro e w3 ⟨a3, c3, rfl, hb3⟩; have Hb3 := Lib.hid (Hb2.out.trans (hb3.mono Hb2.out.size)); clear hb3))
        go_returns
        exact ⟨rfl, Hb3.out⟩
end Go.Proofs.Yteibnignjghedaa
