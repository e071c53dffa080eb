/-
  A list's row, of which is counted how often it was asked: the walks of acreagelaw12.counted, counted$1.
-/
import Derived.Test.YtehbikofoidjhaaLzDW
import Derived.Test.YtehbikofoidjhaaLits
namespace Go.Proofs.Ytehbikofoidjhaa.Lz
open Go.RowKit

/-- how often a row of L cells was asked that has this left -/
def cntL (L : Nat) : Option (List CellA) → Int
  | none => (L : Int) + 1
  | some l => (L : Int) - (l.length : Int)
structure CntSt (ib nb sb b L : Nat) (o : Option (List CellA)) (F : Nat → Prop) (w : World) : Prop where
  ni : w.cell? ⟨nb, 0, none⟩ = some (.pointer (some ⟨ib, 0, none⟩))
  ns : w.cell? ⟨sb, 0, none⟩ = some (.func (.func 41) #[] #[.pointer (some ⟨b, 0, none⟩)])
  cnt : w.cell? ⟨ib, 0, none⟩ = some (.int .i64 (cntL L o))
  len : ∀ l, o = some l → l.length ≤ L
  fro : w.frozen? ⟨ib, 0, none⟩ = false
  st : ∀ l, o = some l → ∃ Fs, OfSt b l Fs w ∧ ∀ k, Fs k → F k ∧ k ≠ ib ∧ k ≠ nb ∧ k ≠ sb
  fi : F ib
  fn : F nb
  fs : F sb
  ne1 : ib ≠ nb
  ne2 : ib ≠ sb
  inb : ∀ k, F k → k < w.heap.size
theorem CntSt.keep {ib nb sb b L : Nat} {o : Option (List CellA)} {F : Nat → Prop} {w w' : World} (h : CntSt ib nb sb b L o F w) (hs : w.heap.size ≤ w'.heap.size) (hb : ∀ k, F k → w'.heap[k]? = w.heap[k]?) : CntSt ib nb sb b L o F w' :=
  ⟨(World.cell?_of_block (a := ⟨nb, 0, none⟩) (hb _ h.fn)).trans h.ni, (World.cell?_of_block (a := ⟨sb, 0, none⟩) (hb _ h.fs)).trans h.ns, (World.cell?_of_block (a := ⟨ib, 0, none⟩) (hb _ h.fi)).trans h.cnt, h.len, (World.frozen?_of_block (a := ⟨ib, 0, none⟩) (hb _ h.fi)).trans h.fro,
    fun l hl => by obtain ⟨Fs, h1, h2⟩ := h.st l hl; exact ⟨Fs, h1.keep hs (fun k hk => hb k (h2 k hk).1), h2⟩, h.fi, h.fn, h.fs, h.ne1, h.ne2, fun k hk => Nat.lt_of_lt_of_le (h.inb k hk) hs⟩
/-- behind a call -/
theorem CntSt.next {ib nb sb b L : Nat} {cs : List CellA} {F Fs F2 : Nat → Prop} {w W2 w3 w4 : World} (h : CntSt ib nb sb b L (some cs) F w) (hsz : w.heap.size ≤ W2.heap.size) (hFs : ∀ k, Fs k → F k ∧ k ≠ ib ∧ k ≠ nb ∧ k ≠ sb)
    (hk2 : ∀ k, F k → k ≠ ib → W2.heap[k]? = w.heap[k]?) (hc2 : W2.cell? ⟨ib, 0, none⟩ = some (.int .i64 ((L : Int) - (cs.length : Int) + 1))) (hf2 : W2.frozen? ⟨ib, 0, none⟩ = false)
    (hS3 : OfSt b cs.tail F2 w3) (hF2 : ∀ k, F2 k → Fs k ∨ W2.heap.size ≤ k) (hK3 : Kept Fs W2 w3) (hsz4 : w3.heap.size ≤ w4.heap.size) (hk4 : ∀ k, k < w3.heap.size → (k < w.heap.size ∨ F2 k) → w4.heap[k]? = w3.heap[k]?) :
    CntSt ib nb sb b L (restO cs) (fun k => F k ∨ (w.heap.size ≤ k ∧ k < w4.heap.size)) w4 := by
  have hl := h.inb
  have h3 := hK3.size
  have k4 : ∀ k, F k → ¬ Fs k → w4.heap[k]? = W2.heap[k]? := fun k hk hn => by
    have := hl k hk
    rw [hk4 k (by omega) (.inl this)]
    exact hK3.block k (by omega) hn
  have ni : ¬ Fs ib := fun hf => (hFs _ hf).2.1 rfl
  have nn : ¬ Fs nb := fun hf => (hFs _ hf).2.2.1 rfl
  have ns : ¬ Fs sb := fun hf => (hFs _ hf).2.2.2 rfl
  refine ⟨?_, ?_, ?_, ?_, ?_, ?_, .inl h.fi, .inl h.fn, .inl h.fs, h.ne1, h.ne2, ?_⟩
  · exact (World.cell?_of_block (a := ⟨nb, 0, none⟩) ((k4 _ h.fn nn).trans (hk2 _ h.fn h.ne1.symm))).trans h.ni
  · exact (World.cell?_of_block (a := ⟨sb, 0, none⟩) ((k4 _ h.fs ns).trans (hk2 _ h.fs h.ne2.symm))).trans h.ns
  · rw [World.cell?_of_block (a := ⟨ib, 0, none⟩) (k4 _ h.fi ni), hc2]
    cases cs with
    | nil => simp [restO, cntL]
    | cons c r => simp only [restO, cntL, List.length_cons]; congr 2; push_cast; omega
  · intro l hl2
    cases cs with
    | nil => cases hl2
    | cons c r =>
      cases hl2
      have := h.len _ rfl
      rw [List.length_cons] at this; omega
  · rw [World.frozen?_of_block (a := ⟨ib, 0, none⟩) (k4 _ h.fi ni)]; exact hf2
  · intro l hl2
    cases cs with
    | nil => cases hl2
    | cons c r =>
      cases hl2
      have hin := hS3.inb
      refine ⟨F2, hS3.keep hsz4 (fun k hk => hk4 k (hin k hk) (.inr hk)), fun k hk => ?_⟩
      have h5 := hin k hk
      have e1 := hl _ h.fi
      have e2 := hl _ h.fn
      have e3 := hl _ h.fs
      rcases hF2 k hk with h6 | h6
      · exact ⟨.inl (hFs k h6).1, (hFs k h6).2⟩
      · exact ⟨.inr ⟨by omega, by omega⟩, by omega, by omega, by omega⟩
  · intro k hk
    rcases hk with hk | hk
    · have := hl k hk; omega
    · exact hk.2

set_option maxRecDepth 100000 in
set_option maxHeartbeats 2000000 in
theorem counted1_any (ib nb sb b L : Nat) (cs : List CellA) (F : Nat → Prop) (w : World) (h : CntSt ib nb sb b L (some cs) F w) (hL : L ≤ 1000000) :
    Calls Try.prog 50 #[.pointer (some ⟨nb, 0, none⟩), .pointer (some ⟨sb, 0, none⟩)] w fun e w' => e = .returned (headV cs) ∧ ∃ F', CntSt ib nb sb b L (restO cs) F' w' ∧ (∀ k, F' k → F k ∨ w.heap.size ≤ k) ∧ Kept F w w' := by
  have H := Lib.hid h
  obtain ⟨Fs, hO, hFs⟩ := h.st cs rfl
  have HO := Lib.hid hO
  have HFs := Lib.hid hFs
  have n0 := h.ni
  have s0 := h.ns
  have c0 := h.cnt
  have f0 := h.fro
  have hil := h.inb _ h.fi
  have hnl := h.inb _ h.fn
  have hsl := h.inb _ h.fs
  have hne1 : ¬ ib = nb := h.ne1
  have hne2 : ¬ ib = sb := h.ne2
  have hlen := h.len cs rfl
  simp only [cntL] at c0
  clear h hO hFs
  go_enter Try.func50, Try.ntmps50
  go_upto_region 1 with fail
  obtain ⟨W, hW⟩ : ∃ W : World, W = w.alloc (.cells #[.string ⟨#[]⟩, .string ⟨#[]⟩, .int .u64 0, .bool false, .string ⟨#[]⟩] 37) := ⟨_, rfl⟩
  have hBW : Below w.heap.size w W := by rw [hW]; exact (Below.refl _ _).alloc (Nat.le_refl _) _
  have hzW : W.heap.size = w.heap.size + 1 := by rw [hW, World.size_alloc]
  have r0 : W.cell? ⟨w.heap.size, 0, none⟩ = some (.string ⟨#[]⟩) := by rw [hW]; simp [World.cell?_alloc_new]
  have r1 : W.cell? ⟨w.heap.size, 1, none⟩ = some (.string ⟨#[]⟩) := by rw [hW]; simp [World.cell?_alloc_new]
  have r2 : W.cell? ⟨w.heap.size, 2, none⟩ = some (.int .u64 0) := by rw [hW]; simp [World.cell?_alloc_new]
  have r3 : W.cell? ⟨w.heap.size, 3, none⟩ = some (.bool false) := by rw [hW]; simp [World.cell?_alloc_new]
  have r4 : W.cell? ⟨w.heap.size, 4, none⟩ = some (.string ⟨#[]⟩) := by rw [hW]; simp [World.cell?_alloc_new]
  have rf : ∀ o, W.frozen? ⟨w.heap.size, o, none⟩ = false := fun o => by rw [hW]; unfold World.frozen?; rw [heap_alloc_new]; rfl
  have xn := (hBW.cell (p := ⟨nb, 0, none⟩) hnl).trans n0
  have xs := (hBW.cell (p := ⟨sb, 0, none⟩) hsl).trans s0
  have xi := (hBW.cell (p := ⟨ib, 0, none⟩) hil).trans c0
  have xf := (hBW.frozen (p := ⟨ib, 0, none⟩) hil).trans f0
  have hil1 : ib < W.heap.size := by omega
  have hnl1 : nb < W.heap.size := by omega
  have hsl1 : sb < W.heap.size := by omega
  have hrl1 : w.heap.size < W.heap.size := by omega
  rw [← hW]
  have HBW := Lib.hid hBW
  have HzW := Lib.hid hzW
  clear hW n0 s0 c0 f0 hBW hzW
  refine wp_region_below_tail 6 (by kernel_rfl) (by kernel_rfl) (fun hkept => ?_)
  obtain ⟨r0, rf0⟩ := hkept (nb) (by go_size); obtain ⟨r1, rf1⟩ := hkept (ib) (by go_size); obtain ⟨r2, rf2⟩ := hkept (sb) (by go_size); obtain ⟨r3, rf3⟩ := hkept (w.heap.size) (by go_size); clear hkept
  simp only [List.take_succ_cons, List.take_zero, List.drop_succ_cons, List.drop_zero]
  repeat (any_goals (first | go_big_quiet_step (fail) | quiet_step (fail) | (refine wpQuiet_step (fun K hK => ?_); go_simp; split <;> (refine hK _ ?_; clear hK K))))
  all_goals (refine wpQuiet_nil ?_; intro w1 hb; obtain ⟨hB, hS, hk⟩ := after (B := W.heap.size) (w := W) (by go_grown) (by go_size) hb; obtain ⟨c0, f0, z0⟩ := hk (nb) (by go_size); obtain ⟨c1, f1, z1⟩ := hk (ib) (by go_size); obtain ⟨c2, f2, z2⟩ := hk (sb) (by go_size); obtain ⟨c3, f3, z3⟩ := hk (w.heap.size) (by go_size); clear hk hb r0 rf0 r1 rf1 r2 rf2 r3 rf3)
  go_wp2_with fail
  refine NoPanic.normal ?_
  obtain ⟨W2, hW2⟩ : ∃ V : World, V = w1.setCell ⟨ib, 0, none⟩ (.int .i64 ((L : Int) - (cs.length : Int) + 1)) := ⟨_, rfl⟩
  have hzw1 := hB.size
  have hz2 : W2.heap.size = w1.heap.size := by rw [hW2, World.size_setCell]
  have hk2 : ∀ k, F k → k ≠ ib → W2.heap[k]? = w.heap[k]? := fun k hk hne => by
    have := H.out.inb k hk
    rw [hW2, Below.heap_setCell _ _ _ _ hne, hB.block k (by omega), HBW.out.block k this]
  have hc2 : W2.cell? ⟨ib, 0, none⟩ = some (.int .i64 ((L : Int) - (cs.length : Int) + 1)) := by rw [hW2]; exact World.cell?_setCell_same _ _ _ ((c1 0).trans xi)
  have hf2 : W2.frozen? ⟨ib, 0, none⟩ = false := by rw [hW2, World.frozen?_setCell]; exact (f1 0).trans xf
  have xs2 : W2.cell? ⟨sb, 0, none⟩ = some (.func (.func 41) #[] #[.pointer (some ⟨b, 0, none⟩)]) := by
    rw [hW2, World.cell?_setCell_other _ _ _ _ (fun e => hne2 (by cases e; rfl)), c2 0]; exact xs
  have hrne : ∀ o, W2.cell? ⟨w.heap.size, o, none⟩ = W.cell? ⟨w.heap.size, o, none⟩ := fun o => by
    rw [hW2, World.cell?_setCell_other _ _ _ _ (fun e => by have := congrArg Addr.block e; simp only at this; omega)]; exact c3 o
  have y0 := (hrne 0).trans r0
  have y1 := (hrne 1).trans r1
  have y2 := (hrne 2).trans r2
  have y3 := (hrne 3).trans r3
  have y4 := (hrne 4).trans r4
  have yf : ∀ o, W2.frozen? ⟨w.heap.size, o, none⟩ = false := fun o => by rw [hW2, World.frozen?_setCell, f3 o]; exact rf o
  have hO2 : OfSt b cs Fs W2 := HO.out.keep (by omega) (fun k hk => hk2 k (HFs.out k hk).1 (HFs.out k hk).2.1)
  have HrFs : Hid (¬ Fs w.heap.size) := Lib.hid fun hf => by have := H.out.inb _ (HFs.out _ hf).1; omega
  have KO0 := of1_any b cs Fs W2 hO2
  have hKa : Kept F w W2 := by
    rw [hW2]
    exact ((Kept.of_below HBW.out).trans (F' := fun _ => False) (Kept.of_below hB) (fun _ h => h.elim)).setCell (p := ⟨ib, 0, none⟩) (.inl H.out.fi) _
  have HKa := Lib.hid hKa
  have Hk2 := Lib.hid hk2
  have Hc2 := Lib.hid hc2
  have Hf2 := Lib.hid hf2
  have Hfn := Lib.hid (of_row b).fn
  have hrW2 : w.heap.size < W2.heap.size := by omega
  have hzz : w.heap.size ≤ W2.heap.size := by omega
  rw [← hW2]
  clear hW2 hk2 hc2 hf2 hO2 hKa hrne c0 f0 z0 c1 f1 z1 c2 f2 z2 c3 f3 z3 hB hS xn xs xi xf r0 r1 r2 r3 r4 rf hzw1
  cases cs with
  | nil =>
    simp only [headV, List.tail_nil] at KO0
    have KO := Lib.hid KO0
    clear KO0
    go_wp2_with (refine wpList_call_row rfl _ rfl (by rfl) Hfn.out ?_; refine KO.out.mono ?_; rintro e w3 ⟨rfl, F2, hS3, hF2, hK3⟩; refine ⟨_, rfl, ?_⟩; have HS3 := Lib.hid hS3; have HF2 := Lib.hid hF2; have HK3 := Lib.hid hK3; have hz3 := hK3.size; have hbr := hK3.block w.heap.size (by omega) HrFs.out; have q0 := fun o => World.cell?_of_block (a := ⟨w.heap.size, o, none⟩) hbr; have qf := fun o => World.frozen?_of_block (a := ⟨w.heap.size, o, none⟩) hbr; have hr3 : w.heap.size < w3.heap.size := (by omega); clear hS3 hF2 hK3 hbr)
    have hne4 : ∀ k, k < w3.heap.size → (k < w.heap.size ∨ F2 k) → k ≠ w.heap.size := fun k _ hk => by
      rcases hk with hk | hk
      · omega
      · rcases HF2.out k hk with h5 | h5
        · exact fun e => HrFs.out (e ▸ h5)
        · omega
    have hN := CntSt.next (w4 := putC w3 w.heap.size ⟨⟨#[]⟩, ⟨#[]⟩, 0, false, ⟨#[]⟩⟩) H.out (by omega) HFs.out Hk2.out Hc2.out Hf2.out HS3.out HF2.out HK3.out (by rw [putC_size]; exact Nat.le_refl _) (fun k h1 h2 => putC_heap _ _ _ _ (hne4 k h1 h2))
    have hK4 : Kept F w (putC w3 w.heap.size ⟨⟨#[]⟩, ⟨#[]⟩, 0, false, ⟨#[]⟩⟩) := (HKa.out.trans HK3.out (fun i hi => .inl (HFs.out i hi).1)).putC (.inr (Nat.le_refl _)) _
    have HN := Lib.hid hN
    have HK4 := Lib.hid hK4
    clear hN hK4 hne4
    refine bodyPost_ret (v := headV []) (by simp [results, Try.results50, go_sem, headV, *]) rfl ⟨rfl, _, HN.out, fun k hk => ?_, HK4.out⟩
    exact hk.imp id (fun h => h.1)
  | cons c r =>
    simp only [headV, List.tail_cons] at KO0
    have KO := Lib.hid KO0
    clear KO0
    go_wp2_with (refine wpList_call_row rfl _ rfl (by rfl) Hfn.out ?_; refine KO.out.mono ?_; rintro e w3 ⟨rfl, F2, hS3, hF2, hK3⟩; refine ⟨_, rfl, ?_⟩; have HS3 := Lib.hid hS3; have HF2 := Lib.hid hF2; have HK3 := Lib.hid hK3; have hz3 := hK3.size; have hbr := hK3.block w.heap.size (by omega) HrFs.out; have q0 := fun o => World.cell?_of_block (a := ⟨w.heap.size, o, none⟩) hbr; have qf := fun o => World.frozen?_of_block (a := ⟨w.heap.size, o, none⟩) hbr; have hr3 : w.heap.size < w3.heap.size := (by omega); clear hS3 hF2 hK3 hbr)
    have hne4 : ∀ k, k < w3.heap.size → (k < w.heap.size ∨ F2 k) → k ≠ w.heap.size := fun k _ hk => by
      rcases hk with hk | hk
      · omega
      · rcases HF2.out k hk with h5 | h5
        · exact fun e => HrFs.out (e ▸ h5)
        · omega
    have hN := CntSt.next (w4 := putC w3 w.heap.size c) H.out (by omega) HFs.out Hk2.out Hc2.out Hf2.out HS3.out HF2.out HK3.out (by rw [putC_size]; exact Nat.le_refl _) (fun k h1 h2 => putC_heap _ _ _ _ (hne4 k h1 h2))
    have hK4 : Kept F w (putC w3 w.heap.size c) := (HKa.out.trans HK3.out (fun i hi => .inl (HFs.out i hi).1)).putC (.inr (Nat.le_refl _)) _
    have HN := Lib.hid hN
    have HK4 := Lib.hid hK4
    clear hN hK4 hne4
    refine bodyPost_ret (v := headV (c :: r)) (by simp [results, Try.results50, go_sem, headV, *]) rfl ⟨rfl, _, HN.out, fun k hk => ?_, HK4.out⟩
    exact hk.imp id (fun h => h.1)

theorem counted_row (ib nb sb b L : Nat) (hL : L ≤ 1000000) : RowE 50 #[.pointer (some ⟨nb, 0, none⟩), .pointer (some ⟨sb, 0, none⟩)] (CntSt ib nb sb b L) :=
  ⟨⟨_, _, Try.func50, by kernel_rfl, rfl⟩, fun h hs hb => h.keep hs hb, fun h => h.inb, fun {cs F w} h => counted1_any ib nb sb b L cs F w h hL⟩
end Go.Proofs.Ytehbikofoidjhaa.Lz
