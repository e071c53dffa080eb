/-
  Two machines of a group: the walks of audit.machines, acreageref25.Same.
-/
import Derived.Test.YteibnignjghedaaAudN
namespace Go.Proofs.Yteibnignjghedaa
open Go.RowKit Go.Sort

noncomputable def bossS (a b : SeenA) : Bool := decide (a.next = b.next) && sameP a.procs b.procs && sameLs a.locs b.locs
def tabS (a b : SeenA) : Bool := decide (a.lo = b.lo) && decide (a.hi = b.hi) && decide (a.ep = b.ep) && decide (a.fr = b.fr)
noncomputable def machL (a b : SeenA) : Bool := !decide (a.app = 0) && decide (a.app = b.app) && !(if a.group = 0 then bossS a b else tabS a b)
def bossV (s : SeenA) : Value := .agg #[.slice s.la s.ln s.lc, .slice s.pa s.pn s.pc, .int .i64 s.next]

set_option maxRecDepth 100000 in
set_option maxHeartbeats 4000000 in
theorem machines_any (a b : SeenA) (w : World) (ha : a.In w) (hb : b.In w) :
    Calls Try.prog 22 #[a.v, b.v] w fun e w' => e = .returned (.bool (machL a b)) ∧ Below w.heap.size w w' := by
  obtain ⟨R, hR⟩ : ∃ R, R = machL a b := ⟨_, rfl⟩
  rw [← hR]
  have HR : Hid (R = (!decide (a.app = 0) && decide (a.app = b.app) && !(if a.group = 0 then bossS a b else tabS a b))) := Lib.hid hR
  have Ha := Lib.hid ha
  have Hb := Lib.hid hb
  simp only [SeenA.v]
  clear hR ha hb
  go_enter Try.func22, Try.ntmps22
  go_upto_region 1 with fail
  obtain ⟨W, hW⟩ : ∃ W : World, W = (w.alloc (.cells a.l.toArray 49)).alloc (.cells b.l.toArray 49) := ⟨_, rfl⟩
  have hbW : Below w.heap.size w W := by rw [hW]; exact ((Below.refl _ _).alloc (Nat.le_refl _) _).alloc (by simp) _
  have hA0 : SeenAt W w.heap.size 0 a := by
    rw [hW]
    exact (SeenAt.new w a _).below ((Below.refl _ _).alloc (Nat.le_refl _) _)
  have hB0 : SeenAt W (w.heap.size + 1) 0 b := by
    rw [hW]
    have := SeenAt.new (w.alloc (.cells a.l.toArray 49)) b 49
    rw [World.size_alloc] at this
    exact this
  obtain ⟨q, hq⟩ : ∃ q, q = w.heap.size + 1 := ⟨_, rfl⟩
  rw [← hW, ← hq]
  rw [← hq] at hB0
  have x1 := hA0.at_ 1 _ rfl
  have x11 := hA0.at_ 11 _ rfl
  have x12 := hA0.at_ 12 _ rfl
  have x13 := hA0.at_ 13 _ rfl
  have x14 := hA0.at_ 14 _ rfl
  have x15 := hA0.at_ 15 _ rfl
  have x16 := hA0.at_ 16 _ rfl
  have x17 := hA0.at_ 17 _ rfl
  have x18 := hA0.at_ 18 _ rfl
  have y11 := hB0.at_ 11 _ rfl
  have y12 := hB0.at_ 12 _ rfl
  have y13 := hB0.at_ 13 _ rfl
  have y14 := hB0.at_ 14 _ rfl
  have y15 := hB0.at_ 15 _ rfl
  have y16 := hB0.at_ 16 _ rfl
  have y17 := hB0.at_ 17 _ rfl
  have y18 := hB0.at_ 18 _ rfl
  simp only [Nat.zero_add] at x1 x11 x12 x13 x14 x15 x16 x17 x18 y11 y12 y13 y14 y15 y16 y17 y18
  have hl1 := hA0.lt
  have hl2 := hB0.lt
  have KP := Lib.hid fun (V : World) (hV : Below W.heap.size W V) => eqprocs_any a.pa b.pa a.pn a.pc b.pn b.pc a.procs b.procs V ((Ha.out.procs.below hbW).below hV) ((Hb.out.procs.below hbW).below hV)
  have KL := Lib.hid fun (V : World) (hV : Below W.heap.size W V) => eqlocs_any a.la b.la a.ln a.lc b.ln b.lc a.locs b.locs V ((Ha.out.locs.below hbW).below hV) ((Hb.out.locs.below hbW).below hV)
  clear hW hA0 hB0 hq
  by_cases h0 : a.app = 0
  · have t0 : (a.app == 0) = true := by simpa using h0
    have hRf : Hid (R = false) := Lib.hid (by rw [HR.out]; simp [h0])
    clear h0 HR
    go_wp2_with fail
    go_returns
    exact ⟨by rw [hRf.out]; rfl, hbW⟩
  have t0 : (a.app == 0) = false := by simpa using h0
  by_cases h1 : a.app = b.app
  case neg =>
    have t1 : (a.app != b.app) = true := by simpa using h1
    have hRf : Hid (R = false) := Lib.hid (by rw [HR.out]; simp [h1])
    clear h0 h1 HR
    go_wp2_with fail
    go_returns
    exact ⟨by rw [hRf.out]; rfl, hbW⟩
  have t1 : (a.app != b.app) = false := by simpa using h1
  have HR1 : Hid (R = !(if a.group = 0 then bossS a b else tabS a b)) := Lib.hid (by rw [HR.out]; simp [← h1, h0])
  clear h0 h1 HR
  by_cases h2 : a.group = 0
  case neg =>
    have t2 : (a.group != 0) = true := by simpa using h2
    have HR2 : Hid (R = !tabS a b) := Lib.hid (by rw [HR1.out, if_neg h2])
    clear h2 HR1
    by_cases e1 : a.lo = b.lo
    case neg =>
      have hRf : Hid (R = true) := Lib.hid (by rw [HR2.out]; simp [tabS, e1])
      obtain ⟨t3, t4⟩ := str_ne e1
      go_wp2_with fail
      go_returns
      exact ⟨by rw [hRf.out]; rfl, hbW⟩
    by_cases e2 : a.hi = b.hi
    case neg =>
      have hRf : Hid (R = true) := Lib.hid (by rw [HR2.out]; simp [tabS, e2])
      obtain ⟨t3, t4⟩ := str_ne e2
      go_wp2_with fail
      go_returns
      exact ⟨by rw [hRf.out]; rfl, hbW⟩
    have HR3 : Hid (R = !(decide (a.ep = b.ep) && decide (a.fr = b.fr))) := Lib.hid (by rw [HR2.out]; simp [tabS, e1, e2])
    rw [← e1] at y12
    rw [← e2] at y13
    clear e1 e2 HR2
    by_cases e3 : a.ep = b.ep
    case neg =>
      have hRf : Hid (R = true) := Lib.hid (by rw [HR3.out]; simp [e3])
      have t3 : (a.ep == b.ep) = false := by simpa using e3
      go_wp2_with fail
      go_returns
      exact ⟨by rw [hRf.out]; rfl, hbW⟩
    have HR4 : Hid (R = !(decide (a.fr = b.fr))) := Lib.hid (by rw [HR3.out]; simp [e3])
    rw [← e3] at y14
    clear e3 HR3
    obtain ⟨f1, hf1⟩ : ∃ f, f = a.fr := ⟨_, rfl⟩
    obtain ⟨f2, hf2⟩ : ∃ f, f = b.fr := ⟨_, rfl⟩
    rw [← hf1] at x15 HR4
    rw [← hf2] at y15 HR4
    clear hf1 hf2
    cases f1 <;> cases f2
    all_goals
      go_wp2_with fail
      go_returns
      exact ⟨by rw [HR4.out]; rfl, hbW⟩
  have t2 : (a.group != 0) = false := by simpa using h2
  obtain ⟨P, hP⟩ : ∃ P, P = sameP a.procs b.procs := ⟨_, rfl⟩
  obtain ⟨L, hL⟩ : ∃ L, L = sameLs a.locs b.locs := ⟨_, rfl⟩
  have HR2 : Hid (R = !(decide (a.next = b.next) && P && L)) := Lib.hid (by rw [HR1.out, if_pos h2, bossS, hP, hL])
  rw [← hP] at KP
  rw [← hL] at KL
  clear h2 HR1 hP hL
  by_cases e1 : a.next = b.next
  case neg =>
    have hRf : Hid (R = true) := Lib.hid (by rw [HR2.out]; simp [e1])
    have t3 : (a.next != b.next) = true := by simpa using e1
    clear e1
    go_wp2_with fail
    go_returns
    exact ⟨by rw [hRf.out]; rfl, hbW⟩
  have t3 : (a.next != b.next) = false := by simpa using e1
  have HR3 : Hid (R = !(P && L)) := Lib.hid (by rw [HR2.out]; simp [e1])
  clear e1 HR2
  cases P
  · go_wp2_with (go_at_call 42; refine (KP.out _ (by go_grown)).mono ?_; rintro e w5 ⟨rfl, hb5⟩; have HB5 := Lib.hid hb5; clear hb5)
    go_returns
    exact ⟨by rw [HR3.out]; rfl, hbW.trans (HB5.out.mono hbW.size)⟩
  · go_wp2_with (first
      | (go_at_call 42; refine (KP.out _ (by go_grown)).mono ?_; rintro e w5 ⟨rfl, hb5⟩; have x16 := (hb5.cell (p := ⟨w.heap.size, 16, none⟩) hl1).trans x16; have y16 := (hb5.cell (p := ⟨q, 16, none⟩) hl2).trans y16; have HB5 := Lib.hid hb5; have hz5 := hb5.size; clear hb5)
      | (go_at_call 43; refine (KL.out _ HB5.out).mono ?_; rintro e w6 ⟨rfl, hb6⟩; have HB6 := Lib.hid hb6; clear hb6))
    all_goals
      go_returns
      exact ⟨by rw [HR3.out]; first | rfl | (cases L <;> rfl), hbW.trans ((HB5.out.trans (HB6.out.mono HB5.out.size)).mono hbW.size)⟩
end Go.Proofs.Yteibnignjghedaa

/-
  Two bosses: the walk of acreageref25.Same.
-/
namespace Go.Proofs.Yteibnignjghedaa
open Go.RowKit Go.Sort

def LocAt (w : World) (b o : Nat) (s : LocI) : Prop := w.rangeAt b o s.l
section
variable {w w' : World} {b o : Nat} {s : LocI}
theorem LocAt.lt (h : LocAt w b o s) : b < w.heap.size := World.block_lt_of_cell? _ _ (h 0 _ rfl)
theorem LocAt.same (h : LocAt w b o s) (hs : w'.heap[b]? = w.heap[b]?) : LocAt w' b o s := fun j v hv => (World.cell?_of_block (a := ⟨b, o + j, none⟩) hs).trans (h j v hv)
theorem LocAt.below (h : LocAt w b o s) (hb : Below w.heap.size w w') : LocAt w' b o s := h.same (hb.block b h.lt)
theorem LocAt.load (h : LocAt w b o s) : (Instr.loadAt 37 (.pointer (some ⟨b, o, none⟩))).run Try.prog w = .ok (.agg s.l.toArray) w :=
  run_loadAt_mid w b o 37 s.l _ h Try.underlying37 rfl (by kernel_rfl)
theorem LocAt.regrown (h : LocAt w b o s) (d : Nat) (os : Array Obj) : (Instr.loadAt 37 (.pointer (some ⟨b, o, none⟩))).run Try.prog (grow (redrawn w d) os) = .ok (.agg s.l.toArray) (grow (redrawn w d) os) := (h.below (below_regrown w d os)).load
theorem locs_at {ao : Option Addr} {n cap : Nat} {ps : List LocI} (h : LocsI w ao n cap ps) {i : Nat} {p : LocI} (hp : ps[i]? = some p) : ∃ b off, ao = some ⟨b, off, none⟩ ∧ b < w.heap.size ∧ LocAt w b (off + i * 5) p := by
  obtain ⟨b, off, e1, hb, hc⟩ := Arr.at_ h.arr (i := i) (e := p.l) (by rw [List.getElem?_map, hp]; rfl)
  exact ⟨b, off, e1, hb, fun j v hv => hc j v hv⟩
end

set_option maxRecDepth 100000 in
set_option maxHeartbeats 8000000 in
theorem rboss_any (a b : SeenA) (w : World) (ha : a.In w) (hb : b.In w) :
    Calls Try.prog 53 #[bossV a, bossV b] w fun e w' => e = .returned (.bool (bossS a b)) ∧ Below w.heap.size w w' := by
  obtain ⟨R, hR⟩ : ∃ R, R = bossS a b := ⟨_, rfl⟩
  rw [← hR]
  have HR : Hid (R = (decide (a.next = b.next) && sameP a.procs b.procs && sameLs a.locs b.locs)) := Lib.hid hR
  have HL := Lib.hid ha.locs
  have HL2 := Lib.hid hb.locs
  have HP := Lib.hid ha.procs
  have HP2 := Lib.hid hb.procs
  have hc1 := Arr.fits ha.locs.arr
  have hc2 := Arr.max ha.locs.arr
  have hc3 := Arr.fits hb.locs.arr
  have hc5 := Arr.fits ha.procs
  have hc6 := Arr.max ha.procs
  have hc7 := Arr.fits hb.procs
  unfold maxLen at hc2 hc6
  have N1 := Lib.hid (locs_len ha.locs)
  have N2 := Lib.hid (locs_len hb.locs)
  have M1 := Lib.hid (procs_len ha.procs)
  have M2 := Lib.hid (procs_len hb.procs)
  simp only [bossV]
  clear hR ha hb
  go_enter Try.func53, Try.ntmps53
  by_cases e1 : a.next = b.next
  case neg =>
    have hRf : Hid (R = false) := Lib.hid (by rw [HR.out]; simp [e1])
    have t3 : (a.next != b.next) = true := by simpa using e1
    clear e1
    go_wp2_with fail
    go_returns
    exact ⟨by rw [hRf.out]; rfl, by go_grown⟩
  by_cases e2 : a.ln = b.ln
  case neg =>
    have hRf : Hid (R = false) := Lib.hid (by
      have : sameLs a.locs b.locs = false := by
        rw [sameLs, decide_eq_false_iff_not]
        intro e
        have h1 := congrArg List.length e
        rw [List.length_map, List.length_map, N1.out, N2.out] at h1
        exact e2 h1
      rw [HR.out, this, Bool.and_false])
    have t3 : (a.next != b.next) = false := by simpa using e1
    have t4 : ((a.ln : Int) != (b.ln : Int)) = true := by rw [bne_iff_ne]; omega
    clear e1
    go_wp2_with fail
    go_returns
    exact ⟨by rw [hRf.out]; rfl, by go_grown⟩
  by_cases e3 : a.pn = b.pn
  case neg =>
    have hRf : Hid (R = false) := Lib.hid (by
      have : sameP a.procs b.procs = false := by
        rw [sameP, decide_eq_false_iff_not]
        intro e
        have h1 := congrArg List.length e
        rw [M1.out, M2.out] at h1
        exact e3 h1
      rw [HR.out, this, Bool.and_false, Bool.false_and])
    have t3 : (a.next != b.next) = false := by simpa using e1
    have t4 : ((a.ln : Int) != (b.ln : Int)) = false := by simp; omega
    have t5 : ((a.pn : Int) != (b.pn : Int)) = true := by rw [bne_iff_ne]; omega
    clear e1
    go_wp2_with fail
    go_returns
    exact ⟨by rw [hRf.out]; rfl, by go_grown⟩
  have HR1 : Hid (R = (sameP a.procs b.procs && sameLs a.locs b.locs)) := Lib.hid (by rw [HR.out]; simp [e1])
  have t3 : (a.next != b.next) = false := by simpa using e1
  have t4 : ((a.ln : Int) != (b.ln : Int)) = false := by simp; omega
  have t5 : ((a.pn : Int) != (b.pn : Int)) = false := by simp; omega
  have E2 := Lib.hid e2
  have E3 := Lib.hid e3
  clear e1 e2 e3 HR
  go_upto_region 3 with fail
  obtain ⟨W, hW⟩ : ∃ W : World, W = (w.alloc (.cells #[.slice a.la a.ln a.lc, .slice a.pa a.pn a.pc, .int .i64 a.next] 47)).alloc (.cells #[.slice b.la b.ln b.lc, .slice b.pa b.pn b.pc, .int .i64 b.next] 47) := ⟨_, rfl⟩
  have hbW : Below w.heap.size w W := by rw [hW]; exact ((Below.refl _ _).alloc (Nat.le_refl _) _).alloc (by simp) _
  have x0 : W.cell? ⟨w.heap.size, 0, none⟩ = some (.slice a.la a.ln a.lc) := by rw [hW]; go_simp
  have x1 : W.cell? ⟨w.heap.size, 1, none⟩ = some (.slice a.pa a.pn a.pc) := by rw [hW]; go_simp
  have y0 : W.cell? ⟨w.heap.size + 1, 0, none⟩ = some (.slice b.la b.ln b.lc) := by rw [hW]; go_simp
  have y1 : W.cell? ⟨w.heap.size + 1, 1, none⟩ = some (.slice b.pa b.pn b.pc) := by rw [hW]; go_simp
  have hzW : W.heap.size = w.heap.size + 2 := by rw [hW]; simp
  obtain ⟨q, hq⟩ : ∃ q, q = w.heap.size + 1 := ⟨_, rfl⟩
  rw [← hW, ← hq]
  rw [← hq] at y0 y1
  have hl1 : w.heap.size < W.heap.size := by omega
  have hl2 : q < W.heap.size := by omega
  have X0 := Lib.hid x0
  have X1 := Lib.hid x1
  have Y0 := Lib.hid y0
  have Y1 := Lib.hid y1
  clear hW hq hzW x0 x1 y0 y1
  go_wp2
  go_loopw [5] (fun i wr => ∃ k : Nat, k ≤ a.ln ∧ i = .int .i64 k ∧ Hid ((a.locs.map LocI.says).take k = (b.locs.map LocI.says).take k) ∧ Below W.heap.size W wr) (fun i _ => a.ln - (intOf i).toNat)
  case atStart => exact ⟨0, by omega, rfl, Lib.hid rfl, Below.refl _ _⟩
  case round =>
    obtain ⟨k, hk, rfl, hT, hB0⟩ := hrel
    have hzr := hB0.size
    have hbr : Below w.heap.size w wr := hbW.trans (hB0.mono hbW.size)
    have x0 := (hB0.cell (p := ⟨w.heap.size, _, none⟩) hl1).trans X0.out
    have y0 := (hB0.cell (p := ⟨q, _, none⟩) hl2).trans Y0.out
    by_cases hlt : k < a.ln
    · obtain ⟨x, hx⟩ : ∃ x, a.locs[k]? = some x := ⟨_, List.getElem?_eq_getElem (by rw [N1.out]; omega)⟩
      obtain ⟨y, hy⟩ : ∃ y, b.locs[k]? = some y := ⟨_, List.getElem?_eq_getElem (by rw [N2.out]; have := E2.out; omega)⟩
      obtain ⟨g, off, e0, hgb, xx⟩ := locs_at (HL.out.below hbr) hx
      obtain ⟨g2, off2, e2, hgb2, yy⟩ := locs_at (HL2.out.below hbr) hy
      have hxs : (a.locs.map LocI.says)[k]? = some x.says := by rw [List.getElem?_map, hx]; rfl
      have hys : (b.locs.map LocI.says)[k]? = some y.says := by rw [List.getElem?_map, hy]; rfl
      have Hx := Lib.hid hxs
      have Hy := Lib.hid hys
      have HLx := Lib.hid xx.regrown
      have HLy := Lib.hid yy.regrown
      have KL0 := fun (d : Nat) (os : Array Obj) => rlsame_any x y (grow (redrawn wr d) os) (((HL.out.below hbr).nd x (List.mem_of_getElem? hx)).below (below_regrown wr d os)) (((HL2.out.below hbr).nd y (List.mem_of_getElem? hy)).below (below_regrown wr d os))
      rw [sameLc_says] at KL0
      obtain ⟨N, hN⟩ : ∃ N, N = decide (x.says = y.says) := ⟨_, rfl⟩
      rw [← hN] at KL0
      simp only [LocI.v] at KL0
      have KL := Lib.hid KL0
      have HN := Lib.hid hN
      rw [e0] at x0
      rw [e2] at y0
      have hk2 : k < b.ln := by have := E2.out; omega
      have hwr : w.heap.size < wr.heap.size := by omega
      have hqr : q < wr.heap.size := by omega
      clear hx hy xx yy hxs hys KL0 hN e0 e2
      go_wp2
      refine wp_region_below (by kernel_rfl) (by kernel_rfl) (fun hkept => ?_)
      obtain ⟨r0, rf0⟩ := hkept (w.heap.size) (by go_size); obtain ⟨r1, rf1⟩ := hkept (q) (by go_size); obtain ⟨r2, rf2⟩ := hkept (g) (by go_size); obtain ⟨r3, rf3⟩ := hkept (g2) (by go_size); clear hkept
      repeat (any_goals (first | go_big_quiet_skip | (refine wpQuiet_loadR (HLx.out) rfl rfl (by rfl) ?_; simp only [Act.put, List.setIfInBounds_toArray, List.set_cons_succ, List.set_cons_zero]) | (refine wpQuiet_loadR (HLy.out) rfl rfl (by rfl) ?_; simp only [Act.put, List.setIfInBounds_toArray, List.set_cons_succ, List.set_cons_zero]) | go_big_quiet_step (first | (go_at_call 68; exact Calls.regrown_of (KL.out _ _))) | quiet_step (first | (go_at_call 68; exact Calls.regrown_of (KL.out _ _))) | (refine wpQuiet_step (fun K hK => ?_); go_simp; split <;> (refine hK _ ?_; clear hK K))))
      all_goals (refine wpQuiet_nil ?_; intro w5 hb; obtain ⟨hB, hS, hk⟩ := after (B := wr.heap.size) (w := wr) (by go_grown) (by go_size) hb; obtain ⟨c0, f0, z0⟩ := hk (w.heap.size) (by go_size); obtain ⟨c1, f1, z1⟩ := hk (q) (by go_size); obtain ⟨c2, f2, z2⟩ := hk (g) (by go_size); obtain ⟨c3, f3, z3⟩ := hk (g2) (by go_size); clear hk hb r0 rf0 r1 rf1 r2 rf2 r3 rf3)
      cases N
      · have hRf : Hid (R = false) := Lib.hid (by
          have : sameLs a.locs b.locs = false := by
            rw [sameLs, decide_eq_false_iff_not]
            intro e
            have h9 := Hx.out
            rw [e, Hy.out] at h9
            have hxy := HN.out
            rw [eq_comm, decide_eq_false_iff_not] at hxy
            exact hxy (Option.some.inj h9).symm
          rw [HR1.out, this, Bool.and_false])
        simp only [Bool.not_false]
        go_wp2
        go_returns
        exact ⟨by rw [hRf.out]; rfl, hbr.trans (hB.mono hbr.size)⟩
      · have hT2 : Hid ((a.locs.map LocI.says).take (k + 1) = (b.locs.map LocI.says).take (k + 1)) := Lib.hid (by
          have hxy := HN.out
          rw [eq_comm, decide_eq_true_eq] at hxy
          rw [List.take_add_one, List.take_add_one, hT.out, Hx.out, Hy.out, hxy])
        simp only [Bool.not_true]
        go_wp2
        exact ⟨⟨k + 1, by omega, by go_num, hT2, hB0.trans (hB.mono hzr)⟩, by simp [intOf]; omega⟩
    · obtain rfl : k = a.ln := by omega
      have HR2 : Hid (R = sameP a.procs b.procs) := Lib.hid (by
        have := hT.out
        rw [List.take_of_length_le (by rw [List.length_map, N1.out]; exact Nat.le_refl _), List.take_of_length_le (by rw [List.length_map, N2.out, E2.out]; exact Nat.le_refl _)] at this
        rw [HR1.out, sameLs, this]; simp)
      obtain ⟨V, hV⟩ : ∃ V, V = wr := ⟨_, rfl⟩
      subst hV
      have hl1v : w.heap.size < V.heap.size := by omega
      have hl2v : q < V.heap.size := by omega
      have x1 := (hB0.cell (p := ⟨w.heap.size, _, none⟩) hl1).trans X1.out
      have y1 := (hB0.cell (p := ⟨q, _, none⟩) hl2).trans Y1.out
      have X1 := Lib.hid x1
      have Y1 := Lib.hid y1
      have Hbr := Lib.hid hbr
      have hzV := hbr.size
      clear x1 y1 hbr hB0
      go_wp2
      go_loopw [6] (fun i wr => ∃ k : Nat, k ≤ a.pn ∧ i = .int .i64 k ∧ Hid (a.procs.take k = b.procs.take k) ∧ Below V.heap.size V wr) (fun i _ => a.pn - (intOf i).toNat)
      case atStart => exact ⟨0, by omega, rfl, Lib.hid rfl, Below.refl _ _⟩
      case round =>
        obtain ⟨k, hk, rfl, hT, hB0⟩ := hrel
        have hzr := hB0.size
        have hbr : Below w.heap.size w wr := Hbr.out.trans (hB0.mono Hbr.out.size)
        have x1 := (hB0.cell (p := ⟨w.heap.size, _, none⟩) hl1v).trans X1.out
        have y1 := (hB0.cell (p := ⟨q, _, none⟩) hl2v).trans Y1.out
        by_cases hlt : k < a.pn
        · obtain ⟨x, hx⟩ : ∃ x, a.procs[k]? = some x := ⟨_, List.getElem?_eq_getElem (by rw [M1.out]; omega)⟩
          obtain ⟨y, hy⟩ : ∃ y, b.procs[k]? = some y := ⟨_, List.getElem?_eq_getElem (by rw [M2.out]; have := E3.out; omega)⟩
          obtain ⟨g, off, e0, hgb, xx⟩ := procs_at (HP.out.below hbr) hx
          obtain ⟨g2, off2, e2, hgb2, yy⟩ := procs_at (HP2.out.below hbr) hy
          have Hx := Lib.hid hx
          have Hy := Lib.hid hy
          have HLx := Lib.hid xx.regrown
          have HLy := Lib.hid yy.regrown
          obtain ⟨N, hN⟩ : ∃ N : Bool, N = (open Classical in !decide (x = y)) := ⟨_, rfl⟩
          have KC := fun W => proc_ne x y W
          rw [← hN] at KC
          have HN := Lib.hid hN
          simp only [ProcA.v] at KC
          rw [e0] at x1
          rw [e2] at y1
          have hk2 : k < b.pn := by have := E3.out; omega
          have hwr : w.heap.size < wr.heap.size := by omega
          have hqr : q < wr.heap.size := by omega
          clear hx hy xx yy hN e0 e2
          go_wp2
          refine wp_region_below (by kernel_rfl) (by kernel_rfl) (fun hkept => ?_)
          obtain ⟨r0, rf0⟩ := hkept (w.heap.size) (by go_size); obtain ⟨r1, rf1⟩ := hkept (q) (by go_size); obtain ⟨r2, rf2⟩ := hkept (g) (by go_size); obtain ⟨r3, rf3⟩ := hkept (g2) (by go_size); clear hkept
          repeat (any_goals (first | go_big_quiet_skip | (refine wpQuiet_loadR (HLx.out) rfl rfl (by rfl) ?_; simp only [Act.put, List.setIfInBounds_toArray, List.set_cons_succ, List.set_cons_zero]) | (refine wpQuiet_loadR (HLy.out) rfl rfl (by rfl) ?_; simp only [Act.put, List.setIfInBounds_toArray, List.set_cons_succ, List.set_cons_zero]) | go_big_quiet_step (fail) | quiet_step (fail) | (refine wpQuiet_step (fun K hK => ?_); go_simp; split <;> (refine hK _ ?_; clear hK K))))
          all_goals (refine wpQuiet_nil ?_; intro w5 hb; obtain ⟨hB, hS, hk⟩ := after (B := wr.heap.size) (w := wr) (by go_grown) (by go_size) hb; obtain ⟨c0, f0, z0⟩ := hk (w.heap.size) (by go_size); obtain ⟨c1, f1, z1⟩ := hk (q) (by go_size); obtain ⟨c2, f2, z2⟩ := hk (g) (by go_size); obtain ⟨c3, f3, z3⟩ := hk (g2) (by go_size); clear hk hb r0 rf0 r1 rf1 r2 rf2 r3 rf3)
          cases N
          · have hxy : x = y := by have := HN.out; simpa using this
            have hT2 : Hid (a.procs.take (k + 1) = b.procs.take (k + 1)) := Lib.hid (by rw [List.take_add_one, List.take_add_one, hT.out, Hx.out, Hy.out, hxy])
            go_wp2
            exact ⟨⟨k + 1, by omega, by go_num, hT2, hB0.trans (hB.mono hzr)⟩, by simp [intOf]; omega⟩
          · have hRf : Hid (R = false) := Lib.hid (by
              rw [HR2.out, sameP, decide_eq_false_iff_not]
              intro e
              have := Hx.out
              rw [e, Hy.out] at this
              have hxy := HN.out
              simp at hxy
              exact hxy (Option.some.inj this).symm)
            go_wp2
            go_returns
            exact ⟨by rw [hRf.out]; rfl, hbr.trans (hB.mono hbr.size)⟩
        · obtain rfl : k = a.pn := by omega
          have hRt : Hid (R = true) := Lib.hid (by
            have := hT.out
            rw [List.take_of_length_le (by rw [M1.out]; exact Nat.le_refl _), List.take_of_length_le (by rw [M2.out, E3.out]; exact Nat.le_refl _)] at this
            rw [HR2.out, sameP, this]; simp)
          go_wp2
          go_returns
          exact ⟨by rw [hRt.out]; rfl, hbr⟩
end Go.Proofs.Yteibnignjghedaa
