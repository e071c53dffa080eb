/-
  The walk of acreagelaw32.AuditChecks.
-/
import Derived.Test.YteibnignjghedaaAudWO
import Derived.Test.YteibnignjghedaaAudRC
namespace Go.Proofs.Yteibnignjghedaa
open Go.RowKit Go.Sort

theorem Seens.take {w : World} {ao : Option Addr} {n cap : Nat} {l : List SeenA} (h : Seens w ao n cap l) {m : Nat} (hm : m ≤ n) : Seens w ao m cap (l.take m) :=
  ⟨by rw [List.map_take]; exact h.arr.take hm, fun s hs => h.ins s (List.mem_of_mem_take hs)⟩
set_option maxRecDepth 100000 in
set_option maxHeartbeats 2000000 in
theorem auditchecks_any (ao : Option Addr) (n cap : Nat) (l : List SeenA) (w : World) (h : Seens w ao n cap l) (hok : ∀ s ∈ l, s.Ok) (hwt : ∀ s ∈ l, s.bn * 8 ≤ 140737488355328 ∧ s.en * 264 ≤ 140737488355328 ∧ ∀ e ∈ s.es, e.mn * 8 ≤ 140737488355328) :
    Calls Try.prog 3 #[.slice ao n cap] w fun e w' => e = .returned (.bool true) ∧ Below w.heap.size w w' := by
  obtain ⟨m, hm⟩ : ∃ m : Nat, min (n : Int) 12 = m := ⟨min n 12, by omega⟩
  have hm12 : m ≤ 12 := by omega
  have hmn : m ≤ n := by omega
  have hcap := Arr.fits h.arr
  have hmax := Arr.max h.arr
  unfold maxLen at hmax
  have hT := h.take hmn
  have hok2 : ∀ s ∈ l.take m, s.Ok := fun s hs => hok s (List.mem_of_mem_take hs)
  have hwt2 : ∀ s ∈ l.take m, s.bn * 8 ≤ 140737488355328 ∧ s.en * 264 ≤ 140737488355328 ∧ ∀ e ∈ s.es, e.mn * 8 ≤ 140737488355328 := fun s hs => hwt s (List.mem_of_mem_take hs)
  generalize l.take m = q at *
  obtain ⟨F, hF⟩ : ∃ F, F = checkL q := ⟨_, rfl⟩
  have HT := Lib.hid hT
  have KO := Lib.hid (own_any ao m cap q w hT hm12 hwt2)
  have KC : Hid (∀ (ra : Option Addr) (rc : Nat) (l' : List SeenA) (V : World), Seens V ra m rc l' → l'.map SeenA.norm = q.map SeenA.norm → Calls Try.prog 9 #[.slice ra m rc] V fun e w' => ∃ a c, e = .returned (.slice a F.length c) ∧ FaultsA w' a F.length c F ∧ Below V.heap.size V w') := Lib.hid (fun ra rc l' V h1 h2 => by
    refine (acheck_any ra m rc l' V h1 (fun s hs => by obtain ⟨s0, h3, h4⟩ := norm_mem h2 hs; exact norm_ok h4 (hok2 s0 h3)) (fun s hs => by obtain ⟨s0, h3, h4⟩ := norm_mem h2 hs; exact norm_wt h4 ⟨(hwt2 s0 h3).1, (hwt2 s0 h3).2.2⟩) hm12).mono ?_
    rintro e w' ⟨v, rfl, hr, hb⟩
    rw [check_same h2, ← hF] at hr
    obtain ⟨a, c, rfl⟩ := row_slice hr
    exact ⟨a, c, rfl, row_arr (by decide) (by rw [List.length_map]) hr (fault_elems F), hb⟩)
  have KR : Hid (∀ V, Below w.heap.size w V → Calls Try.prog 11 #[.slice ao m cap] V fun e w' => ∃ a c, e = .returned (.slice a F.length c) ∧ FaultsA w' a F.length c F ∧ Below V.heap.size V w') := Lib.hid (fun V hV => by
    refine (racheck_any ao m cap q V (hT.below hV) hok2 (fun s hs => ⟨(hwt2 s hs).1, (hwt2 s hs).2.2⟩) hm12).mono ?_
    rintro e w' ⟨v, rfl, hr, hb⟩
    rw [← hF] at hr
    obtain ⟨a, c, rfl⟩ := row_slice hr
    exact ⟨a, c, rfl, row_arr (by decide) (by rw [List.length_map]) hr (fault_elems F), hb⟩)
  have KS : Hid (∀ a c a2 c2 (V : World), FaultsA V a F.length c F → FaultsA V a2 F.length c2 F → Calls Try.prog 8 #[.slice a F.length c, .slice a2 F.length c2] V fun e w' => e = .returned (.bool true) ∧ Below V.heap.size V w') := Lib.hid (fun a c a2 c2 V h1 h2 => by
    refine (faultsame_any a a2 F.length c F.length c2 F F V h1 h2).mono ?_
    rintro e w' ⟨rfl, hb⟩
    exact ⟨by rw [decide_eq_true rfl], hb⟩)
  obtain ⟨L, hL⟩ : ∃ L, L = F.length := ⟨_, rfl⟩
  rw [← hL] at KC KR KS
  clear h hok hwt hT hok2 hwt2 hF hL
  go_enter Try.func3, Try.ntmps3
  go_wp2_with (first
    | (go_at_call 10; refine KO.out.mono ?_; rintro e w1 ⟨ra, rc, l', rfl, hS1, hN1, hb1⟩; have HS1 := Lib.hid hS1; have HN1 := Lib.hid hN1; have Hb1 := Lib.hid hb1; clear hS1 hN1 hb1)
    | (go_at_call 9; refine (KC.out ra rc l' w1 HS1.out HN1.out).mono ?_; rintro e w2 ⟨a2, c2, rfl, hA2, hb2⟩; have HA2 := Lib.hid hA2; have Hb2 := Lib.hid (Hb1.out.trans (hb2.mono Hb1.out.size)); clear hA2 hb2)
    | (go_at_call 11; refine (KR.out w2 Hb2.out).mono ?_; rintro e w3 ⟨a3, c3, rfl, hA3, hb3⟩; have HA3 := Lib.hid hA3; have HA23 := Lib.hid (Arr.below HA2.out hb3); have Hb3 := Lib.hid (Hb2.out.trans (hb3.mono Hb2.out.size)); clear hA3 hb3)
    | (go_at_call 8; refine (KS.out a2 c2 a3 c3 w3 HA23.out HA3.out).mono ?_; rintro e w4 ⟨rfl, hb4⟩; have Hb4 := Lib.hid (Hb3.out.trans (hb4.mono Hb3.out.size)); clear hb4)
    | (go_at_call 12; refine (works_any w4).mono ?_; rintro e w5 ⟨rfl, hb5⟩; have Hb5 := Lib.hid (Hb4.out.trans (hb5.mono Hb4.out.size)); clear hb5))
  go_returns
  exact ⟨rfl, Hb5.out⟩
end Go.Proofs.Yteibnignjghedaa
