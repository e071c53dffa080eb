/-
  acreageref08.Counts; Heights over a plain list.
-/
import Derived.Test.YtlnfdejflpgleaaRGet8W
import Derived.Test.YtlnfdejflpgleaaSL
namespace Go.Proofs.Ytlnfdejflpgleaa
open Go.RowKit

/-- how many are above a height -/
def cntL (hs : List Nat) (L : Nat) : Nat := (hs.filter fun h => decide (L < h)).length
theorem cntL_succ {hs : List Nat} {k h : Nat} (hk : hs[k]? = some h) (L : Nat) : cntL (hs.take (k + 1)) L = cntL (hs.take k) L + if L < h then 1 else 0 := by
  unfold cntL
  rw [List.take_add_one, hk, List.filter_append, List.length_append]
  congr 1
  by_cases e : L < h <;> simp [e]
theorem cntL_le (hs : List Nat) (L : Nat) : cntL hs L ≤ hs.length := List.length_filter_le _ _
theorem heights_sl (lb : Nat) (l : List CH) (F : Nat → Prop) (w : World) (hS : SL lb l F w) (hn : l.length < 1000000) :
    Calls Try.prog 20 #[.pointer (some ⟨lb, 0, none⟩)] w fun e w' => e = .returned (.slice (some ⟨w.heap.size, 0, none⟩) 12 12) ∧ Twelve w' w.heap.size (fun L => cntL (l.map Prod.snd) L) ∧ Below w.heap.size w w' := by
  obtain ⟨hd, ns, q1, rfl, rfl⟩ := hS.ex
  have e : (fun L => (cntL ((ns.map Nd.v).map Prod.snd) L : Int)) = fun L => (cntH ns L : Int) := by
    funext L
    unfold cntL cntH
    rw [List.map_map]
    have : ∀ ns : List Nd, ((ns.map (Prod.snd ∘ Nd.v)).filter fun h => decide (L < h)).length = (ns.filter fun n => decide (L < n.h)).length := by
      intro ns
      induction ns with
      | nil => rfl
      | cons n r ih =>
        rw [List.map_cons, List.filter_cons, List.filter_cons]
        show (if decide (L < n.h) = true then _ else _ : List Nat).length = _
        by_cases h : L < n.h
        · simp [h, ih]
        · simp [h, ih]
    rw [this]
  rw [e]
  exact heights_any lb hd ns w q1 (by rwa [List.length_map] at hn)
set_option maxRecDepth 100000 in
set_option maxHeartbeats 4000000 in
theorem rcounts8_any (l : List CH) (v : Value) (w : World) (hm : LM w v l) (hh : ∀ p ∈ l, p.2 ≤ 12) (hn : l.length < 1000000) :
    Calls Try.prog 21 #[v] w fun e w' => ∃ g, e = .returned (.slice (some ⟨g, 0, none⟩) 12 12) ∧ w.heap.size ≤ g ∧ Twelve w' g (fun L => cntL (l.map Prod.snd) L) ∧ Below w.heap.size w w' := by
  obtain ⟨P, hP⟩ : ∃ P : Ending → World → Prop, P = fun e w' => ∃ g, e = .returned (.slice (some ⟨g, 0, none⟩) 12 12) ∧ w.heap.size ≤ g ∧ Twelve w' g (fun L => cntL (l.map Prod.snd) L) ∧ Below w.heap.size w w' := ⟨_, rfl⟩
  rw [← hP]
  have HP := Lib.hid hP
  clear hP
  obtain ⟨ao, cap, ao2, cap2, rfl, _, hI⟩ := hm.ex
  obtain ⟨n, hn'⟩ : ∃ n, n = l.length := ⟨_, rfl⟩
  have Hn := Lib.hid hn'
  rw [← hn'] at hI hn ⊢
  obtain ⟨hs, hhs⟩ : ∃ hs, hs = l.map Prod.snd := ⟨_, rfl⟩
  have hle : ∀ h ∈ hs, h ≤ 12 := fun h hx => by
    rw [hhs] at hx
    obtain ⟨p, hp, rfl⟩ := List.mem_map.1 hx
    exact hh p hp
  rw [← hhs] at hI HP
  have HI := Lib.hid hI
  have hnf := Arr.fits hI
  have hnm := Arr.max hI
  have hsl := hI.len
  have Hsl := Lib.hid hsl
  have Hle := Lib.hid hle
  unfold maxLen at hnm
  clear hm hI hn' hh hhs hle hsl Hn
  obtain ⟨i, hi, hz0, hz1, hz2⟩ := info_parts Try.info_int
  obtain ⟨w0, hw0⟩ : ∃ W : World, W = w.alloc (.cells #[.slice ao n cap, .slice ao2 n cap2] 41) := ⟨_, rfl⟩
  obtain ⟨w1, hmk, hO, hg⟩ := run_makeSlice_full (P := Try.prog) w0 w0.heap.size 39 3 i _ 1 (by kernel_rfl) hi hz0 hz1 .i64 .i64 12 (by omega) (by rw [hz2]; omega) (by unfold maxLen; omega) (Nat.le_refl _)
  have hT := Lib.hid (twelve_made hO)
  have hb0 : Below w.heap.size w w0 := by rw [hw0]; go_grown
  have hb1 : Below w0.heap.size w0 w1 := (Below.refl _ _).grown hg (Nat.le_refl _) (fun k e => by cases e)
  have hmk : (Instr.makeSlice 39 (.int .i64 12) (.int .i64 12)).run Try.prog w0 = .ok (.slice (some ⟨w0.heap.size, 0, none⟩) 12 12) w1 := hmk
  obtain ⟨r, hr⟩ : ∃ r, r = w.heap.size := ⟨_, rfl⟩
  have r0 : w0.cell? ⟨r, 1, none⟩ = some (.slice ao2 n cap2) := by rw [hw0, hr]; go_simp
  have lr : r < w0.heap.size := by rw [hw0, hr]; go_size
  have r1 := (hb1.cell (p := ⟨r, 1, none⟩) lr).trans r0
  have lr1 : r < w1.heap.size := Nat.lt_of_lt_of_le lr hb1.size
  have HB1 := Lib.hid (hb0.trans (hb1.mono hb0.size))
  have Hr := Lib.hid hr
  obtain ⟨g, hgg⟩ : ∃ g, g = w0.heap.size := ⟨_, rfl⟩
  have hgw : w.heap.size ≤ g := by rw [hgg]; exact hb0.size
  have hrg : r < g := by rw [hgg]; exact lr
  rw [← hgg] at hmk hT
  rw [hw0] at hmk
  clear hi hO hg hb1 r0 lr hgg hb0 hw0
  have hrn : ¬ r = g := by omega
  have hrn2 : ¬ g = r := by omega
  go_enter Try.func21, Try.ntmps21
  go_wp2_with fail
  rw [← hr]
  clear hr
  go_loopw [4] (fun i wr => ∃ k : Nat, k ≤ n ∧ i = .int .i64 k ∧ Hid (∃ f : Nat → Int, Twelve wr g f ∧ ∀ L, L < 12 → f L = cntL (hs.take k) L) ∧ Hid (Below w.heap.size w wr) ∧ Hid (wr.cell? ⟨r, 1, none⟩ = some (.slice ao2 n cap2) ∧ r < wr.heap.size)) (fun i _ => n - (intOf i).toNat)
  case atStart => exact ⟨0, by omega, rfl, Lib.hid ⟨_, hT.out, fun L _ => by simp [cntL]⟩, HB1, Lib.hid ⟨r1, lr1⟩⟩
  case round =>
    clear hT HB1 r1 lr1 hmk
    obtain ⟨k, hk, rfl, hF, hD, hR⟩ := hrel
    obtain ⟨q1, ql⟩ := hR.out
    by_cases hlt : k < n
    · obtain ⟨h, hx⟩ : ∃ h, hs[k]? = some h := ⟨_, List.getElem?_eq_getElem (by rw [Hsl.out]; omega)⟩
      have h12 := Hle.out h (List.mem_of_getElem? hx)
      have Hx := Lib.hid hx
      obtain ⟨g2, off2, rfl, hg2, uw⟩ := Ints.at_ HI.out hx
      have u0 := (hD.out.cell (p := ⟨g2, _, none⟩) hg2).trans uw
      clear hx
      go_wp2_with fail
      go_loopw [5] (fun i wr => ∃ j : Nat, j ≤ h ∧ i = .int .i64 j ∧ Hid (∃ f : Nat → Int, Twelve wr g f ∧ ∀ L, L < 12 → f L = cntL (hs.take k) L + if L < j then 1 else 0) ∧ Hid (Below w.heap.size w wr) ∧ Hid (wr.cell? ⟨r, 1, none⟩ = some (.slice (some ⟨g2, off2, none⟩) n cap2) ∧ r < wr.heap.size)) (fun i _ => h - (intOf i).toNat)
      case atStart =>
        refine ⟨0, by omega, rfl, Lib.hid ?_, hD, Lib.hid ⟨q1, ql⟩⟩
        obtain ⟨f, h1, h2⟩ := hF.out
        exact ⟨f, h1, fun L hL => by rw [h2 L hL]; simp⟩
      case round =>
        clear hF hD hR q1 ql u0
        obtain ⟨j, hj, rfl, hF, hD, hR⟩ := hrel
        obtain ⟨q1, ql⟩ := hR.out
        have u0 := (hD.out.cell (p := ⟨g2, _, none⟩) hg2).trans uw
        by_cases hjl : j < h
        · obtain ⟨f, h1, h2⟩ := hF.out
          have hjm : j < 12 := by omega
          have y0 := h1.c j hjm
          have y1 := h1.fr j
          obtain ⟨fj, hfj⟩ : ∃ x, x = f j := ⟨_, rfl⟩
          rw [← hfj] at y0
          have hfb : 0 ≤ fj ∧ fj ≤ 1000000 := by
            have h3 := h2 j hjm
            have h4 := cntL_le (hs.take k) j
            rw [if_neg (by omega)] at h3
            rw [List.length_take] at h4
            omega
          have hgl := h1.lt
          have HF2 : Hid (∃ f : Nat → Int, Twelve (wr.setCell ⟨g, j, none⟩ (.int .i64 (fj + 1))) g f ∧ ∀ L, L < 12 → f L = cntL (hs.take k) L + if L < j + 1 then 1 else 0) := Lib.hid ⟨_, h1.put hjm (fj + 1), fun L hL => by
            by_cases e : L = j
            · subst e
              rw [if_pos rfl, if_pos (by omega), hfj, h2 L hL, if_neg (by omega)]; omega
            · rw [if_neg e, h2 L hL]
              by_cases e2 : L < j
              · rw [if_pos e2, if_pos (by omega)]
              · rw [if_neg e2, if_neg (by omega)]⟩
          have HD2 : Hid (Below w.heap.size w (wr.setCell ⟨g, j, none⟩ (.int .i64 (fj + 1)))) := Lib.hid (hD.out.setCell (by exact hgw) _)
          have HR2 : Hid ((wr.setCell ⟨g, j, none⟩ (.int .i64 (fj + 1))).cell? ⟨r, 1, none⟩ = some (.slice (some ⟨g2, off2, none⟩) n cap2) ∧ r < (wr.setCell ⟨g, j, none⟩ (.int .i64 (fj + 1))).heap.size) := Lib.hid ⟨by go_simp, by rw [World.size_setCell]; exact ql⟩
          clear h1 h2 hF hfj hD hR
          go_wp2_with fail
          exact ⟨⟨j + 1, by omega, by go_num, HF2, HD2, HR2⟩, by simp [intOf]; omega⟩
        · obtain rfl : j = h := by omega
          have HF2 : Hid (∃ f : Nat → Int, Twelve wr g f ∧ ∀ L, L < 12 → f L = cntL (hs.take (k + 1)) L) := by
            obtain ⟨f, h1, h2⟩ := hF.out
            exact Lib.hid ⟨f, h1, fun L hL => by rw [h2 L hL, cntL_succ Hx.out]; split <;> simp⟩
          clear hF
          go_wp2_with fail
          exact ⟨⟨k + 1, by omega, by go_num, HF2, hD, Lib.hid ⟨q1, ql⟩⟩, by simp [intOf]; omega⟩
    · obtain rfl : k = n := by omega
      obtain ⟨f, h1, h2⟩ := hF.out
      have H1 := Lib.hid h1
      have H2 := Lib.hid h2
      clear h1 h2 hF
      go_wp2_with fail
      rw [HP.out]
      refine ⟨g, rfl, hgw, ⟨H1.out.lt, fun L hL => ?_, H1.out.fr⟩, hD.out⟩
      rw [H1.out.c L hL, H2.out L hL, List.take_of_length_le (by rw [Hsl.out]; exact Nat.le_refl _)]
end Go.Proofs.Ytlnfdejflpgleaa
