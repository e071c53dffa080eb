/-
  Skip lists: the walk of ahead.
-/
import Derived.Test.YtlnfdejflpgleaaSkipHeap
import Derived.Deep.DeepCutAuto
namespace Go.Proofs.Ytlnfdejflpgleaa
open Go.RowKit

/-- before, while it is asked -/
def Asks (bf : FuncId) (caps : Array Value) (pr : CellA → Bool) (ns : List Nd) (w : World) : Prop :=
  ∀ n ∈ ns, ∀ W, Below w.heap.size w W → Calls Try.prog bf (#[.agg #[.string n.c.row, .string n.c.col, .int .u64 n.c.ver, .bool n.c.gone, .string n.c.val]] ++ caps) W fun e w' => e = .returned (.bool (pr n.c)) ∧ Below W.heap.size W w'

set_option maxRecDepth 100000 in
set_option maxHeartbeats 4000000 in
theorem ahead_any (bf : FuncId) (caps : Array Value) (hfn : Fun bf) (pr : CellA → Bool) (lb : Nat) (hd : Nd) (ns : List Nd) (k : Nat) (w : World) (hS : SkipAt w lb hd ns) (hk0 : 0 < k) (hk : k ≤ ns.length + 1)
    (h1 : ∀ (i : Nat) n, 1 ≤ i → i < k → (hd :: ns)[i]? = some n → pr n.c = true) (h2 : ∀ (i : Nat) n, k ≤ i → (hd :: ns)[i]? = some n → pr n.c = false) (hA : Asks bf caps pr ns w) :
    Calls Try.prog 30 #[.pointer (some ⟨lb, 0, none⟩), .func (.func bf) #[] caps] w fun e w' => ∃ f : Nat → Nat, (∀ L, L < 12 → LastAtL (hd :: ns) k L (f L)) ∧ e = .returned (atV (hd :: ns) f) ∧ Below w.heap.size w w' := by
  have HS := Lib.hid hS
  have HA := Lib.hid hA
  have H1 := Lib.hid h1
  have H2 := Lib.hid h2
  have Hfn := Lib.hid hfn
  have hlb := hS.inb lb (.inl rfl)
  have l0 := hS.l0
  obtain ⟨full, hfull⟩ : ∃ l, l = hd :: ns := ⟨_, rfl⟩
  have Hfull := Lib.hid hfull
  have hne := Lib.hid hS.ne
  have hhd := Lib.hid hS.hh
  have hkl : k ≤ full.length := by rw [hfull]; simpa using hk
  have ht := Lib.hid hS.tow
  rw [← hfull] at H1 H2 hne ht ⊢
  have h0 : full[0]? = some hd := by rw [hfull]; rfl
  have H0 := Lib.hid h0
  clear hS hA h1 h2 hfn hfull h0
  go_enter Try.func30, Try.ntmps30
  go_wp2
  go_loopw [6, 7] (fun x lv wr => ∃ (m i : Nat) (v : Int) (f : Nat → Nat) (q : Nd), m ≤ 12 ∧ lv = .int .i64 v ∧ Hid (v + 1 = m) ∧ Hid (full[i]? = some q) ∧ x = .pointer (some ⟨q.b, 0, none⟩) ∧ i < k ∧ m ≤ q.h ∧ Hid (AhW full k w wr m f)) (fun _ lv _ => (intOf lv + 1).toNat)
  case atStart =>
    refine ⟨12, 0, 11, fun _ => 0, hd, by omega, rfl, Lib.hid rfl, H0, rfl, hk0, by rw [hhd.out]; exact Nat.le_refl _, Lib.hid ⟨by go_grown, by simp, fun L hL => ?_, fun L hL => ?_, fun o => by go_simp, fun o => by go_simp, fun L h1 h2 => by omega⟩⟩
    all_goals (obtain rfl | rfl | rfl | rfl | rfl | rfl | rfl | rfl | rfl | rfl | rfl | rfl : L = 0 ∨ L = 1 ∨ L = 2 ∨ L = 3 ∨ L = 4 ∨ L = 5 ∨ L = 6 ∨ L = 7 ∨ L = 8 ∨ L = 9 ∨ L = 10 ∨ L = 11 := (by omega)) <;> (first | (go_simp; done) | (simp; done) | skip)
  case round =>
    obtain ⟨m, i, v, f, q, hm, rfl, hv, hq, rfl, hik, hmq, hAh⟩ := hrel
    by_cases h : 0 ≤ v
    · obtain ⟨L, rfl⟩ := Int.eq_ofNat_of_zero_le h
      obtain rfl : m = L + 1 := by have := hv.out; omega
      have hL12 : L < 12 := by omega
      obtain ⟨wo, rfl⟩ : ∃ wo : World, wo = wr := ⟨_, rfl⟩
      go_wp2
      go_loopw [6] (fun x wr => ∃ (i : Nat) (q : Nd), Hid (full[i]? = some q) ∧ x = .pointer (some ⟨q.b, 0, none⟩) ∧ i < k ∧ L < q.h ∧ Hid (AhW full k w wr (L + 1) f)) (fun x _ => k - idxV full x)
      case atStart => exact ⟨i, q, hq, rfl, hik, hmq, hAh⟩
      case round =>
        clear hq hik hmq hAh
        obtain ⟨i2, q2, hq2, rfl, hik2, hL2, hA2⟩ := hrel
        have hN := ht.out i2 q2 hq2.out
        have hql := hN.lt
        have hbw := hA2.out.bel
        have hzz := hbw.size
        have hct : wr.cell? ⟨q2.b, 6 + L, none⟩ = some (ptrN (nxt L (full.drop (i2 + 1)))) := by
          have := hN.t L hL12
          rw [towN, if_pos hL2] at this
          exact (hbw.cell (p := ⟨_, _, none⟩) hql).trans this
        clear hN
        have hz2 := hA2.out.lt
        have HBw := Lib.hid hbw
        clear hbw
        cases hn : nxt L (full.drop (i2 + 1)) with
        | none =>
          have hlow := Lib.hid (nxt_none hn)
          rw [hn] at hct
          simp only [ptrN, adrN] at hct
          clear hn
          have hoc := hA2.out.out L hL12
          rw [if_neg (by omega)] at hoc
          have hof := hA2.out.fo L
          go_wp2
          have hLa : LastAtL full k L i2 := ⟨hik2, fun n hn => by rw [hq2.out] at hn; cases hn; exact hL2, fun j n h1 h2 hn => hlow.out n (List.mem_iff_getElem?.2 ⟨j - (i2 + 1), by rw [List.getElem?_drop, show i2 + 1 + (j - (i2 + 1)) = j by omega]; exact hn⟩)⟩
          exact ⟨⟨L, i2, L - 1, _, q2, by omega, rfl, Lib.hid (by omega), hq2, rfl, hik2, by omega, Lib.hid (hA2.out.put hL12 hq2.out hLa)⟩, by simp [intOf]⟩
        | some mm =>
          obtain ⟨j, hj, hLm, hlow⟩ := nxt_at hn
          rw [hn] at hct
          simp only [ptrN, adrN] at hct
          clear hn
          have Hlow := Lib.hid hlow
          clear hlow
          rw [List.getElem?_drop] at hj
          obtain ⟨p, hp⟩ : ∃ p, p = i2 + 1 + j := ⟨_, rfl⟩
          rw [← hp] at hj
          have hip : i2 < p := by omega
          have HM := ht.out p mm hj
          have hml := HM.lt
          obtain ⟨d0, d1, d2, d3, d4⟩ := HM.cell
          have e0 := (HBw.out.cell (p := ⟨_, _, none⟩) hml).trans d0
          have e1 := (HBw.out.cell (p := ⟨_, _, none⟩) hml).trans d1
          have e2 := (HBw.out.cell (p := ⟨_, _, none⟩) hml).trans d2
          have e3 := (HBw.out.cell (p := ⟨_, _, none⟩) hml).trans d3
          have e4 := (HBw.out.cell (p := ⟨_, _, none⟩) hml).trans d4
          simp only [Nat.zero_add] at e0 e1 e2 e3 e4
          have hmem : mm ∈ ns := by
            have : (hd :: ns)[p]? = some mm := by rw [← Hfull.out]; exact hj
            cases p with
            | zero => omega
            | succ p => exact List.mem_of_getElem? (by simpa using this)
          have KA := HA.out mm hmem
          have Hj := Lib.hid hj
          have Hp := Lib.hid hp
          clear HM d0 d1 d2 d3 d4 hmem hj hp
          by_cases hpk : p < k
          · have hpr := H1.out p mm (by omega) hpk Hj.out
            rw [hpr] at KA
            have KA := Lib.hid KA
            clear hpr
            have hqw : q2.b < wr.heap.size := by omega
            go_wp2_with (refine upon_test Hfn.out ?_; refine (KA.out _ HBw.out).mono ?_; rintro e w1 ⟨rfl, hb⟩; refine ⟨_, rfl, ?_⟩; have hc1 := (hb.cell (p := ⟨q2.b, 6 + L, none⟩) hqw).trans hct; have HA3 := Lib.hid (hA2.out.below hb); clear hb)
            exact ⟨⟨p, mm, Hj, rfl, hpk, hLm, HA3⟩, by rw [idxV_at hne.out Hj.out, idxV_at hne.out hq2.out]; omega⟩
          · have hpr := H2.out p mm (by omega) Hj.out
            rw [hpr] at KA
            have KA := Lib.hid KA
            clear hpr
            have hqw : q2.b < wr.heap.size := by omega
            go_wp2_with (refine upon_test Hfn.out ?_; refine (KA.out _ HBw.out).mono ?_; rintro e w1 ⟨rfl, hb⟩; refine ⟨_, rfl, ?_⟩; have HA3 := Lib.hid (hA2.out.below hb); have hoc := HA3.out.out L hL12; rw [if_neg (by omega)] at hoc; have hof := HA3.out.fo L; clear hb)
            have hLa : LastAtL full k L i2 := ⟨hik2, fun n hn => by rw [hq2.out] at hn; cases hn; exact hL2, fun j' n h1 h2 hn => Hlow.out (j' - (i2 + 1)) n (by have := Hp.out; omega) (by rw [List.getElem?_drop, show i2 + 1 + (j' - (i2 + 1)) = j' by omega]; exact hn)⟩
            exact ⟨⟨L, i2, L - 1, _, q2, by omega, rfl, Lib.hid (by omega), hq2, rfl, hik2, by omega, Lib.hid (HA3.out.put hL12 hq2.out hLa)⟩, by simp [intOf]⟩
    · have hm0 : m = 0 := by have := hv.out; omega
      subst hm0
      have hv1 : v = -1 := by have := hv.out; omega
      subst hv1
      have hO := hAh.out.out
      have hR := hAh.out.res
      have r0 := hR 0 (by decide)
      have o0 := hO 0 (by decide)
      have r1 := hR 1 (by decide)
      have o1 := hO 1 (by decide)
      have r2 := hR 2 (by decide)
      have o2 := hO 2 (by decide)
      have r3 := hR 3 (by decide)
      have o3 := hO 3 (by decide)
      have r4 := hR 4 (by decide)
      have o4 := hO 4 (by decide)
      have r5 := hR 5 (by decide)
      have o5 := hO 5 (by decide)
      have r6 := hR 6 (by decide)
      have o6 := hO 6 (by decide)
      have r7 := hR 7 (by decide)
      have o7 := hO 7 (by decide)
      have r8 := hR 8 (by decide)
      have o8 := hO 8 (by decide)
      have r9 := hR 9 (by decide)
      have o9 := hO 9 (by decide)
      have r10 := hR 10 (by decide)
      have o10 := hO 10 (by decide)
      have r11 := hR 11 (by decide)
      have o11 := hO 11 (by decide)
      simp only [Nat.zero_le, if_true] at o0 o1 o2 o3 o4 o5 o6 o7 o8 o9 o10 o11
      have hfr := hAh.out.fr
      have hlt := hAh.out.lt
      clear hO hR
      go_wp2
      refine bodyPost_ret (v := atV full f) (by simp [results, Try.results30, go_sem, atV, *]) rfl ⟨f, fun L hL => hAh.out.last L (Nat.zero_le _) hL, rfl, ?_⟩
      have hB := hAh.out.bel
      exact (((((((((((hB.setCell (Nat.le_refl _) _).setCell (Nat.le_refl _) _).setCell (Nat.le_refl _) _).setCell (Nat.le_refl _) _).setCell (Nat.le_refl _) _).setCell (Nat.le_refl _) _).setCell (Nat.le_refl _) _).setCell (Nat.le_refl _) _).setCell (Nat.le_refl _) _).setCell (Nat.le_refl _) _).setCell (Nat.le_refl _) _).setCell (Nat.le_refl _) _
end Go.Proofs.Ytlnfdejflpgleaa
