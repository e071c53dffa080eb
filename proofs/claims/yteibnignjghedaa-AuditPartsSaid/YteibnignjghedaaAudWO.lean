/-
  The chapter's first rows: the walks of acreagelaw32.one, fault, works.
-/
import Derived.Test.YteibnignjghedaaAudWP
import Derived.Test.YteibnignjghedaaAudCW
import Derived.Test.YteibnignjghedaaAudSM
namespace Go.Proofs.Yteibnignjghedaa
open Go.RowKit Go.Sort

theorem oneS_ok (k : Int) (g : Nat) : (oneS k g).Ok := ⟨Nat.zero_le _, Nat.zero_le _, (show (0 : Int) ≤ 1 by decide), (show (1 : Int) ≤ 18446744073709551615 by decide), (show (0 : Int) ≤ 1 by decide), (show (1 : Int) ≤ 18446744073709551615 by decide), (show (0 : Int) ≤ 2 by decide), (show (2 : Int) ≤ 18446744073709551615 by decide), (show (0 : Int) ≤ 2 by decide), fun e he => by
  rw [show (oneS k g).es = [oneE] from rfl, List.mem_singleton] at he
  subst he
  exact ⟨by decide, by decide, by decide, by decide⟩⟩
theorem oneS_wt (k : Int) (g : Nat) : (oneS k g).bn * 8 ≤ 140737488355328 ∧ ∀ e ∈ (oneS k g).es, e.mn * 8 ≤ 140737488355328 := ⟨by show 3 * 8 ≤ _; omega, fun e he => by
  rw [show (oneS k g).es = [oneE] from rfl, List.mem_singleton] at he
  subst he
  show 0 * 8 ≤ _
  omega⟩
/-- cells lie in a block -/
theorem ints3_new (w : World) (T : TypeId) (b : Nat) (hb : b = w.heap.size) : Ints (w.alloc (.cells #[.int .i64 0, .int .i64 1, .int .i64 2] T)) (some ⟨b, 0, none⟩) 3 3 [0, 1, 2] := by
  subst hb
  refine ⟨intE_elems _, rfl, Nat.le_refl _, by unfold maxLen; omega, fun _ => ⟨w.heap.size, 0, rfl, by rw [World.size_alloc]; omega, fun i e he j u hu => ?_⟩⟩
  match i, he with
  | 0, he => cases he; match j, hu with
    | 0, hu => cases hu; rw [World.cell?_alloc_new]; rfl
  | 1, he => cases he; match j, hu with
    | 0, hu => cases hu; rw [World.cell?_alloc_new]; rfl
  | 2, he => cases he; match j, hu with
    | 0, hu => cases hu; rw [World.cell?_alloc_new]; rfl

theorem SeenAt.loadVar {w : World} {b o : Nat} {s : SeenA} (h : SeenAt w b o s) : (loadVar 49 ⟨b, o, none⟩).run Try.prog w = .ok (.agg s.l.toArray) w :=
  run_loadVar_mid w b o 49 s.l _ h Try.underlying49 rfl (by kernel_rfl)
theorem Arr.sameBlk {w w' : World} {size n c b off : Nat} {es : List (List Value)} (h : Arr w size (some ⟨b, off, none⟩) n c es) (hk : w'.heap[b]? = w.heap[b]?) : Arr w' size (some ⟨b, off, none⟩) n c es :=
  ⟨h.elems, h.len, h.fits, h.max, fun h0 => by
    obtain ⟨b', off', e, hl, hc⟩ := h.lies h0
    cases e
    have h1 : w'.heap[b]? = some w.heap[b] := hk.trans (Array.getElem?_eq_getElem hl)
    exact ⟨b, off, rfl, (Array.getElem?_eq_some_iff.1 h1).1, fun i e he j u hu => (World.cell?_of_block (a := ⟨b, _, none⟩) hk).trans (hc i e he j u hu)⟩⟩
theorem there_of {w : World} {b : Nat} {c : Array Value} {T : TypeId} (h : w.heap[b]? = some (.cells c T)) : w.there b 0 c.size := fun j hj => by
  constructor
  · rw [cell_of_row w b (0 + j) c T (0, 0) h]
    simp [hj]
  · simp [World.frozen?, h]
set_option maxRecDepth 100000 in
set_option maxHeartbeats 2000000 in
theorem one_any (k : Int) (w : World) : Calls Try.prog 16 #[.int .i64 k] w fun e w' => ∃ g, e = .returned (oneS k g).v ∧ (oneS k g).In w' ∧ Below w.heap.size w w' := by
  go_enter Try.func16, Try.ntmps16
  go_upto_region 1 with fail
  obtain ⟨zs, hzs⟩ : ∃ zs : Array Value, zs = #[.int .i64 0, .int .i64 0, .bool false, .bool false, .int .u64 0, .int .i64 0, .int .u64 0, .int .u64 0, .slice none 0 0, .slice none 0 0, .int .u64 0, .int .u64 0, .string ⟨#[]⟩, .string ⟨#[]⟩, .int .u64 0, .bool false, .slice none 0 0, .slice none 0 0, .int .i64 0] := ⟨_, rfl⟩
  rw [← hzs]
  have hzn : zs.size = 19 := by rw [hzs]; rfl
  obtain ⟨W, hW⟩ : ∃ W : World, W = w.alloc (.cells zs 49) := ⟨_, rfl⟩
  rw [← hW]
  obtain ⟨p, hp⟩ : ∃ p, p = w.heap.size := ⟨_, rfl⟩
  rw [← hp]
  have hWp : W.heap[p]? = some (.cells zs 49) := by rw [hW, hp]; exact heap_alloc_new _ _
  have hWz : W.heap.size = p + 1 := by rw [hW, hp]; simp
  have HT : Hid (∀ o1 o2 : Obj, ((W.alloc o1).alloc o2).there p 0 19) := Lib.hid (fun o1 o2 => by
    have h1 : ((W.alloc o1).alloc o2).heap[p]? = some (.cells zs 49) := by
      have hb : Below W.heap.size W ((W.alloc o1).alloc o2) := ((Below.refl _ _).alloc (Nat.le_refl _) _).alloc (by simp) _
      exact (hb.block p (by omega)).trans hWp
    rw [← hzn]
    exact there_of h1)
  have HWz := Lib.hid hWz
  have HbW := Lib.hid (show Below w.heap.size w W from by rw [hW]; exact (Below.refl _ _).alloc (Nat.le_refl _) _)
  have Hp := Lib.hid hp
  clear hzs hW hp hWp hzn hWz
  go_wp2_with (first | (with_reducible refine bodyPost_ret (v := .agg (oneS k W.heap.size).l.toArray) ?hr ?hd ?hR) | (refine wpList_store_mid rfl _ _ _ rfl p 0 (oneS k W.heap.size).l.toArray rfl rfl (HT.out _ _) (by kernel_rfl) (SeenA.all _) ?_; simp only [Act.put, List.setIfInBounds_toArray, List.set_cons_succ, List.set_cons_zero]))
  case hd => rfl
  all_goals
    have hth : ((W.alloc (.cells #[.int .i64 0, .int .i64 1, .int .i64 2] 3)).alloc (.cells oneE.l.toArray 60)).there p 0 19 := HT.out _ _
    have hE : SeenAt (((W.alloc (.cells #[.int .i64 0, .int .i64 1, .int .i64 2] 3)).alloc (.cells oneE.l.toArray 60)).setCells p 0 (oneS k W.heap.size).l) p 0 (oneS k W.heap.size) := World.rangeAt_setCells_same _ _ _ _ hth
  case hr =>
    rw [results_cell rfl]
    have hld := SeenAt.loadVar hE
    change ((asAddr (.pointer (some ⟨p, 0, none⟩))).run Try.prog (((W.alloc (.cells #[.int .i64 0, .int .i64 1, .int .i64 2] 3)).alloc (.cells oneE.l.toArray 60)).setCells p 0 (oneS k W.heap.size).l)).andThen _ = _
    simp [asAddr, Result.andThen, hld]
    rfl
  case hR =>
    have hp := Hp.out
    have hz := HWz.out
    refine ⟨W.heap.size, rfl, ⟨?_, ⟨?_, ?_⟩, ⟨Arr.nil _ _, fun c hc => by cases hc⟩, Arr.nil _ _⟩, ?_⟩
    · refine Arr.sameBlk (Ints.below (ints3_new W 3 W.heap.size rfl) ((Below.refl _ _).alloc (Nat.le_refl _) (.cells oneE.l.toArray 60))) (heap_setCells (by omega) _ _ _)
    · refine Arr.sameBlk (ents_one (W.alloc (.cells #[.int .i64 0, .int .i64 1, .int .i64 2] 3)) 60 oneE (W.heap.size + 1) (by rw [World.size_alloc])) (heap_setCells (by omega) _ _ _)
    · intro e he
      rw [show (oneS k W.heap.size).es = [oneE] from rfl, List.mem_singleton] at he
      subst he
      exact Arr.nil _ _
    · exact Below.setCells (by omega) _ _ ((HbW.out.alloc HbW.out.size _).alloc (by rw [World.size_alloc]; have := HbW.out.size; omega) _)

theorem seens_two (w : World) (T : TypeId) (a b : SeenA) (g : Nat) (hg : g = w.heap.size) (ha : a.In w) (hb : b.In w) : Seens (w.alloc (.cells (a.l ++ b.l).toArray T)) (some ⟨g, 0, none⟩) 2 2 [a, b] := by
  subst hg
  have hw : Below w.heap.size w (w.alloc (.cells (a.l ++ b.l).toArray T)) := (Below.refl _ _).alloc (Nat.le_refl _) _
  refine ⟨⟨seen_elems _, rfl, Nat.le_refl _, by unfold maxLen; omega, fun _ => ⟨w.heap.size, 0, rfl, by rw [World.size_alloc]; omega, fun i e he j u hu => ?_⟩⟩, fun s hs => ?_⟩
  · rw [World.cell?_alloc_new]
    match i, he with
    | 0, he =>
      cases he
      have hj : j < a.l.length := (List.getElem?_eq_some_iff.1 hu).1
      simp only [Nat.zero_mul, Nat.zero_add, List.getElem?_toArray]
      rw [List.getElem?_append_left hj]
      exact hu
    | 1, he =>
      cases he
      simp only [Nat.one_mul, Nat.zero_add, List.getElem?_toArray]
      rw [List.getElem?_append_right (by show 19 ≤ 19 + j; omega), show 19 + j - a.l.length = j from by show 19 + j - 19 = j; omega]
      exact hu
  · simp only [List.mem_cons, List.not_mem_nil, or_false] at hs
    rcases hs with rfl | rfl
    · exact ha.below hw
    · exact hb.below hw
theorem seens_1 (w : World) (T : TypeId) (a : SeenA) (g : Nat) (hg : g = w.heap.size) (ha : a.In w) : Seens (w.alloc (.cells a.l.toArray T)) (some ⟨g, 0, none⟩) 1 1 [a] :=
  ⟨seens_one w T a g hg.symm, fun s hs => by rw [List.mem_singleton.1 hs]; exact ha.below ((Below.refl _ _).alloc (Nat.le_refl _) _)⟩

set_option maxRecDepth 100000 in
set_option maxHeartbeats 4000000 in
theorem fault_any (a b : SeenA) (f1 f2 : Int) (w : World) (ha : a.In w) (hb : b.In w) (hoa : a.Ok) (hob : b.Ok) (hwa : a.bn * 8 ≤ 140737488355328 ∧ ∀ e ∈ a.es, e.mn * 8 ≤ 140737488355328) (hwb : b.bn * 8 ≤ 140737488355328 ∧ ∀ e ∈ b.es, e.mn * 8 ≤ 140737488355328) :
    Calls Try.prog 17 #[a.v, b.v, .agg #[.int .i64 f1, .int .i64 f2]] w fun e w' => e = .returned (.bool (decide (checkL [a, b] = [(f1, f2)]))) ∧ Below w.heap.size w w' := by
  obtain ⟨R, hR⟩ : ∃ R, R = decide (checkL [a, b] = [(f1, f2)]) := ⟨_, rfl⟩
  rw [← hR]
  obtain ⟨i0, hi, iz0, iz1, iz2⟩ := info_parts Try.info_seen
  have Hi := Lib.hid hi
  have Hok : Hid (∀ s ∈ [a, b], s.Ok) := Lib.hid (fun s hs => by simp only [List.mem_cons, List.not_mem_nil, or_false] at hs; rcases hs with rfl | rfl <;> assumption)
  have Hwt : Hid (∀ s ∈ [a, b], s.bn * 8 ≤ 140737488355328 ∧ ∀ e ∈ s.es, e.mn * 8 ≤ 140737488355328) := Lib.hid (fun s hs => by simp only [List.mem_cons, List.not_mem_nil, or_false] at hs; rcases hs with rfl | rfl <;> assumption)
  have Ha := Lib.hid ha
  have Hb := Lib.hid hb
  obtain ⟨L, hL⟩ : ∃ L, L = checkL [a, b] := ⟨_, rfl⟩
  have HL := Lib.hid hL
  rw [← hL] at hR
  have HR := Lib.hid hR
  simp only [SeenA.v]
  clear hR hL ha hb hoa hob hwa hwb hi
  go_enter Try.func17, Try.ntmps17
  go_upto_region 1 with fail
  obtain ⟨W, hW⟩ : ∃ W : World, W = ((w.alloc (.cells a.l.toArray 49)).alloc (.cells b.l.toArray 49)).alloc (.cells #[.int .i64 f1, .int .i64 f2] 65) := ⟨_, rfl⟩
  have hbW : Below w.heap.size w W := by rw [hW]; exact (((Below.refl _ _).alloc (Nat.le_refl _) _).alloc (by simp) _).alloc (by simp; omega) _
  have hA0 : SeenAt W w.heap.size 0 a := by
    rw [hW]
    exact ((SeenAt.new w a _).below ((Below.refl _ _).alloc (Nat.le_refl _) _)).below ((Below.refl _ _).alloc (Nat.le_refl _) _)
  have hB0 : SeenAt W (w.heap.size + 1) 0 b := by
    rw [hW]
    have := SeenAt.new (w.alloc (.cells a.l.toArray 49)) b 49
    rw [World.size_alloc] at this
    exact this.below ((Below.refl _ _).alloc (Nat.le_refl _) _)
  have c0 : W.cell? ⟨w.heap.size + 2, 0, none⟩ = some (.int .i64 f1) := by rw [hW]; go_simp
  have c1 : W.cell? ⟨w.heap.size + 2, 1, none⟩ = some (.int .i64 f2) := by rw [hW]; go_simp
  have hzW : W.heap.size = w.heap.size + 3 := by rw [hW]; simp
  obtain ⟨q, hq⟩ : ∃ q, q = w.heap.size + 1 := ⟨_, rfl⟩
  obtain ⟨r, hr⟩ : ∃ r, r = w.heap.size + 2 := ⟨_, rfl⟩
  have e2 : w.heap.size + 1 + 1 = w.heap.size + 2 := by omega
  (try simp only [e2])
  rw [← hW, ← hq, ← hr]
  rw [← hq] at hB0
  rw [← hr] at c0 c1
  have LA := Lib.hid hA0.load
  have LB := Lib.hid hB0.load
  have HbW := Lib.hid hbW
  have C0 := Lib.hid c0
  have C1 := Lib.hid c1
  have hrW : r < W.heap.size := by omega
  clear hW hA0 hB0 hq hr hbW c0 c1 e2 hzW
  have KC : Hid (Calls Try.prog 9 #[.slice (some ⟨W.heap.size, 0, none⟩) 2 2] (W.alloc (.cells (a.l ++ b.l).toArray 49)) fun e w' => ∃ v, e = .returned v ∧ Row w' (W.alloc (.cells (a.l ++ b.l).toArray 49)).heap.size 65 2 v (checkL [a, b]).length ((checkL [a, b]).map faultE).flatten ∧ Below (W.alloc (.cells (a.l ++ b.l).toArray 49)).heap.size (W.alloc (.cells (a.l ++ b.l).toArray 49)) w') :=
    Lib.hid (acheck_any _ 2 2 [a, b] _ (seens_two W _ a b _ rfl (Ha.out.below HbW.out) (Hb.out.below HbW.out)) Hok.out Hwt.out (by omega))
  go_upto_region 2 with (first | (refine wpList_loadK rfl (by rfl) rfl (by first | exact LA.out | exact LB.out) ?_; simp only [Act.put, List.setIfInBounds_toArray, List.set_cons_succ, List.set_cons_zero]) | (refine wpList_build2 (by rfl) 22 49 _ _ rfl a.l b.l rfl rfl 19 i0 _ Try.underlying22 Hi.out iz0 iz1 (by decide) (by decide) rfl rfl ?_; simp only [Act.put, List.setIfInBounds_toArray, List.set_cons_succ, List.set_cons_zero]) | (go_at_call 9; refine KC.out.mono ?_; rintro e w5 ⟨v5, rfl, hr5, hb5⟩; obtain ⟨a5, k5, rfl⟩ := row_slice hr5; have HR5 := Lib.hid hr5; have Hb5 := Lib.hid (Below.trans ((Below.refl W.heap.size W).alloc (Nat.le_refl _) _) (hb5.mono (by rw [World.size_alloc]; omega))); clear hr5 hb5))
  have h5 := HR5.out
  rw [← HL.out] at h5 ⊢
  have H5 := Lib.hid h5
  have c0 := (Hb5.out.cell (p := ⟨r, 0, none⟩) hrW).trans C0.out
  have c1 := (Hb5.out.cell (p := ⟨r, 1, none⟩) hrW).trans C1.out
  have hrl : r < w5.heap.size := Nat.lt_of_lt_of_le hrW Hb5.out.size
  have HB := Lib.hid (HbW.out.trans (Hb5.out.mono HbW.out.size))
  clear h5 HR5 KC LA LB C0 C1
  match L with
  | [] =>
    have hRf : Hid (R = false) := Lib.hid (by rw [HR.out]; rfl)
    simp only [List.length_nil]
    refine wp_region_below (by kernel_rfl) (by kernel_rfl) (fun hkept => ?_)
    obtain ⟨r0, rf0⟩ := hkept (r) (by go_size); clear hkept
    repeat (any_goals (first | go_big_quiet_step (fail) | quiet_step (fail) | (refine wpQuiet_step (fun K hK => ?_); go_simp; split <;> (refine hK _ ?_; clear hK K))))
    all_goals (refine wpQuiet_nil ?_; intro w6 hb; obtain ⟨hB, hS, hk⟩ := after (B := w5.heap.size) (w := w5) (by go_grown) (by go_size) hb; obtain ⟨c0, f0, z0⟩ := hk (r) (by go_size); clear hk hb r0 rf0)
    have HB6 := Lib.hid hB
    clear hB
    go_wp2_with fail
    go_returns
    exact ⟨by rw [hRf.out]; rfl, HB.out.trans (HB6.out.mono HB.out.size)⟩
  | [x] =>
    obtain ⟨x1, x2⟩ := x
    obtain ⟨g, off, e5, hg5, yy⟩ := Arr.at_ (row_arr (by decide) rfl H5.out (fault_elems _)) (i := 0) (e := faultE (x1, x2)) rfl
    cases e5
    have y0 : w5.cell? ⟨g, off, none⟩ = some (.int .i64 x1) := by have := yy 0 _ rfl; simpa using this
    have y1 : w5.cell? ⟨g, off + 1, none⟩ = some (.int .i64 x2) := by have := yy 1 _ rfl; simpa using this
    have hRx : Hid (R = (decide (x1 = f1) && decide (x2 = f2))) := Lib.hid (by rw [HR.out, Bool.eq_iff_iff]; simp)
    clear yy
    simp only [List.length_cons, List.length_nil]
    by_cases h1 : x1 = f1
    · subst h1
      by_cases h2 : x2 = f2
      · subst h2
        have hRf : Hid (R = true) := Lib.hid (by rw [hRx.out]; simp)
        refine wp_region_below (by kernel_rfl) (by kernel_rfl) (fun hkept => ?_)
        obtain ⟨r0, rf0⟩ := hkept (r) (by go_size); obtain ⟨r1, rf1⟩ := hkept (g) (by go_size); clear hkept
        repeat (any_goals (first | go_big_quiet_step (fail) | quiet_step (fail) | (refine wpQuiet_step (fun K hK => ?_); go_simp; split <;> (refine hK _ ?_; clear hK K))))
        all_goals (refine wpQuiet_nil ?_; intro w6 hb; obtain ⟨hB, hS, hk⟩ := after (B := w5.heap.size) (w := w5) (by go_grown) (by go_size) hb; obtain ⟨c0, f0, z0⟩ := hk (r) (by go_size); obtain ⟨c1, f1, z1⟩ := hk (g) (by go_size); clear hk hb r0 rf0 r1 rf1)
        have HB6 := Lib.hid hB
        clear hB
        go_wp2_with fail
        go_returns
        exact ⟨by rw [hRf.out]; rfl, HB.out.trans (HB6.out.mono HB.out.size)⟩
      · have t2 : (x2 == f2) = false := by simpa using h2
        have hRf : Hid (R = false) := Lib.hid (by rw [hRx.out]; simp [h2])
        refine wp_region_below (by kernel_rfl) (by kernel_rfl) (fun hkept => ?_)
        obtain ⟨r0, rf0⟩ := hkept (r) (by go_size); obtain ⟨r1, rf1⟩ := hkept (g) (by go_size); clear hkept
        repeat (any_goals (first | go_big_quiet_step (fail) | quiet_step (fail) | (refine wpQuiet_step (fun K hK => ?_); go_simp; split <;> (refine hK _ ?_; clear hK K))))
        all_goals (refine wpQuiet_nil ?_; intro w6 hb; obtain ⟨hB, hS, hk⟩ := after (B := w5.heap.size) (w := w5) (by go_grown) (by go_size) hb; obtain ⟨c0, f0, z0⟩ := hk (r) (by go_size); obtain ⟨c1, f1, z1⟩ := hk (g) (by go_size); clear hk hb r0 rf0 r1 rf1)
        have HB6 := Lib.hid hB
        clear hB
        go_wp2_with fail
        go_returns
        exact ⟨by rw [hRf.out]; rfl, HB.out.trans (HB6.out.mono HB.out.size)⟩
    · have t2 : (x1 == f1) = false := by simpa using h1
      have hRf : Hid (R = false) := Lib.hid (by rw [hRx.out]; simp [h1])
      refine wp_region_below (by kernel_rfl) (by kernel_rfl) (fun hkept => ?_)
      obtain ⟨r0, rf0⟩ := hkept (r) (by go_size); obtain ⟨r1, rf1⟩ := hkept (g) (by go_size); clear hkept
      repeat (any_goals (first | go_big_quiet_step (fail) | quiet_step (fail) | (refine wpQuiet_step (fun K hK => ?_); go_simp; split <;> (refine hK _ ?_; clear hK K))))
      all_goals (refine wpQuiet_nil ?_; intro w6 hb; obtain ⟨hB, hS, hk⟩ := after (B := w5.heap.size) (w := w5) (by go_grown) (by go_size) hb; obtain ⟨c0, f0, z0⟩ := hk (r) (by go_size); obtain ⟨c1, f1, z1⟩ := hk (g) (by go_size); clear hk hb r0 rf0 r1 rf1)
      have HB6 := Lib.hid hB
      clear hB
      go_wp2_with fail
      go_returns
      exact ⟨by rw [hRf.out]; rfl, HB.out.trans (HB6.out.mono HB.out.size)⟩
  | x :: y :: z =>
    have hRf : Hid (R = false) := Lib.hid (by rw [HR.out]; simp)
    obtain ⟨m, hm⟩ : ∃ m, m = (x :: y :: z).length := ⟨_, rfl⟩
    have hm2 : 2 ≤ m := by rw [hm]; simp
    have t1 : ((m : Int) == 1) = false := by rw [beq_eq_false_iff_ne]; omega
    have t2 : decide (m = 1) = false := by simp; omega
    rw [← hm]
    clear hm
    refine wp_region_below (by kernel_rfl) (by kernel_rfl) (fun hkept => ?_)
    obtain ⟨r0, rf0⟩ := hkept (r) (by go_size); clear hkept
    repeat (any_goals (first | go_big_quiet_step (fail) | quiet_step (fail) | (refine wpQuiet_step (fun K hK => ?_); go_simp; split <;> (refine hK _ ?_; clear hK K))))
    all_goals (refine wpQuiet_nil ?_; intro w6 hb; obtain ⟨hB, hS, hk⟩ := after (B := w5.heap.size) (w := w5) (by go_grown) (by go_size) hb; obtain ⟨c0, f0, z0⟩ := hk (r) (by go_size); clear hk hb r0 rf0)
    have HB6 := Lib.hid hB
    clear hB
    go_wp2_with fail
    go_returns
    exact ⟨by rw [hRf.out]; rfl, HB.out.trans (HB6.out.mono HB.out.size)⟩
end Go.Proofs.Yteibnignjghedaa

/-
  The chapter's first rows hold: the walk of acreagelaw32.works.
-/
namespace Go.Proofs.Yteibnignjghedaa
open Go.RowKit Go.Sort

def seenZ : Array Value := #[.int .i64 0, .int .i64 0, .bool false, .bool false, .int .u64 0, .int .i64 0, .int .u64 0, .int .u64 0, .slice none 0 0, .slice none 0 0, .int .u64 0, .int .u64 0, .string ⟨#[]⟩, .string ⟨#[]⟩, .int .u64 0, .bool false, .slice none 0 0, .slice none 0 0, .int .i64 0]
theorem frozen_setCells {b : Nat} (a : Addr) : ∀ (vs : List Value) (o : Nat) (V : World), (V.setCells b o vs).frozen? a = V.frozen? a
  | [], _, _ => rfl
  | v :: r, o, V => (frozen_setCells a r (o + 1) _).trans (World.frozen?_setCell _ _ _ _)
theorem cell_setCells {b k : Nat} (hk : k ≠ b) (o' : Nat) (vs : List Value) (o : Nat) (V : World) : (V.setCells b o vs).cell? ⟨k, o', none⟩ = V.cell? ⟨k, o', none⟩ := World.cell?_of_block (a := ⟨k, o', none⟩) (heap_setCells hk vs o V)
theorem there_set {V : World} {b k n : Nat} {vs : List Value} {o : Nat} (hk : k ≠ b) (h : V.there k 0 n) : (V.setCells b o vs).there k 0 n := fun j hj => by
  rw [cell_setCells hk, frozen_setCells]
  exact h j hj
theorem two_there (w : World) (T : TypeId) : ((w.alloc (.cells seenZ T)).alloc (.cells seenZ T)).there w.heap.size 0 19 ∧ ((w.alloc (.cells seenZ T)).alloc (.cells seenZ T)).there (w.heap.size + 1) 0 19 := by
  constructor
  · have h1 : ((w.alloc (.cells seenZ T)).alloc (.cells seenZ T)).heap[w.heap.size]? = some (.cells seenZ T) := (((Below.refl _ _).alloc (Nat.le_refl (w.alloc (.cells seenZ T)).heap.size) _).block w.heap.size (by rw [World.size_alloc]; omega)).trans (heap_alloc_new w _)
    exact there_of h1
  · have h1 := heap_alloc_new (w.alloc (.cells seenZ T)) (.cells seenZ T)
    rw [World.size_alloc] at h1
    exact there_of h1
theorem says_one {cs : List LocI} (h : cs.map LocI.says = [oneT]) : ∃ na nn nc, cs = [⟨3, ⟨#[]⟩, ⟨#[]⟩, 1, na, nn, nc, [0, 1, 2]⟩] := by
  match cs, h with
  | [⟨gr, lo, hi, ep, na, nn, nc, nd⟩], h =>
    simp only [List.map_cons, List.map_nil, LocI.says, oneT, List.cons.injEq, Prod.mk.injEq, and_true] at h
    obtain ⟨rfl, rfl, rfl, rfl, rfl⟩ := h
    exact ⟨na, nn, nc, rfl⟩

set_option maxRecDepth 100000 in
set_option maxHeartbeats 2000000 in
theorem works_any (w : World) : Calls Try.prog 12 #[] w fun e w' => e = .returned (.bool true) ∧ Below w.heap.size w w' := by
  obtain ⟨i0, hi, iz0, iz1, iz2⟩ := info_parts Try.info_seen
  have Hi := Lib.hid hi
  have K0 := Lib.hid (fun V => one_any 0 V)
  have K1 := Lib.hid (fun V => one_any 1 V)
  clear hi
  go_enter Try.func12, Try.ntmps12
  go_upto_region 2 with (first
    | ((go_at_call 16; with_reducible refine (K0.out _).mono ?_); rintro e w1 ⟨g1, rfl, hI1, hb1⟩; obtain ⟨A, hA⟩ : ∃ A, A = oneS 0 g1 := ⟨_, rfl⟩; rw [← hA] at hI1 ⊢; have HA := Lib.hid hA; clear hA; have HI1 := Lib.hid hI1; have Hb1 := Lib.hid hb1; clear hI1 hb1; simp only [SeenA.v])
    | ((go_at_call 16; with_reducible refine (K1.out _).mono ?_); rintro e w2 ⟨g2, rfl, hI2, hb2⟩; obtain ⟨B, hB⟩ : ∃ B, B = oneS 1 g2 := ⟨_, rfl⟩; rw [← hB] at hI2 ⊢; have HB := Lib.hid hB; clear hB; have HI2 := Lib.hid hI2; have Hb2 := Lib.hid hb2; have HT1 := Lib.hid (two_there w2 49).1; have HT2 := Lib.hid (there_set (b := w2.heap.size) (vs := A.l) (o := 0) (by omega) (two_there w2 49).2); clear hI2 hb2; simp only [SeenA.v])
    | (refine wpList_store_mid rfl _ _ _ rfl w2.heap.size 0 A.l.toArray rfl rfl ?ht1 (by kernel_rfl) (SeenA.all _) ?_; (case ht1 => exact HT1.out); simp only [Act.put, List.setIfInBounds_toArray, List.set_cons_succ, List.set_cons_zero])
    | (refine wpList_store_mid rfl _ _ _ rfl (w2.heap.size + 1) 0 B.l.toArray rfl rfl ?ht2 (by kernel_rfl) (SeenA.all _) ?_; (case ht2 => exact HT2.out); simp only [Act.put, List.setIfInBounds_toArray, List.set_cons_succ, List.set_cons_zero]))
  obtain ⟨W, hW⟩ : ∃ W : World, W = ((((w2.alloc (.cells seenZ 49)).alloc (.cells seenZ 49)).setCells w2.heap.size 0 A.l).setCells (w2.heap.size + 1) 0 B.l) := ⟨_, rfl⟩
  obtain ⟨p, hp⟩ : ∃ p, p = w2.heap.size := ⟨_, rfl⟩
  obtain ⟨q, hq⟩ : ∃ q, q = w2.heap.size + 1 := ⟨_, rfl⟩
  have hWz : W.heap.size = w2.heap.size + 2 := by rw [hW, size_setCells, size_setCells, World.size_alloc, World.size_alloc]
  have hA0 : SeenAt W w2.heap.size 0 A := by
    have h1 : SeenAt (((w2.alloc (.cells seenZ 49)).alloc (.cells seenZ 49)).setCells w2.heap.size 0 A.l) w2.heap.size 0 A := World.rangeAt_setCells_same _ _ _ _ HT1.out
    rw [hW]
    exact h1.same (heap_setCells (by omega) _ _ _)
  have hB0 : SeenAt W (w2.heap.size + 1) 0 B := by
    rw [hW]
    exact World.rangeAt_setCells_same _ _ _ _ HT2.out
  have fA : W.frozen? ⟨w2.heap.size, 3, none⟩ = false := by
    rw [hW, frozen_setCells, frozen_setCells]
    exact (HT1.out 3 (by omega)).2
  have fB : W.frozen? ⟨w2.heap.size + 1, 3, none⟩ = false := by
    rw [hW, frozen_setCells, frozen_setCells]
    have h2 := (HT2.out 3 (by omega)).2
    rw [frozen_setCells] at h2
    exact h2
  have hbW2 : Below w2.heap.size w2 W := by
    rw [hW]
    exact Below.setCells (by omega) _ _ (Below.setCells (Nat.le_refl _) _ _ (((Below.refl _ _).alloc (Nat.le_refl _) _).alloc (by rw [World.size_alloc]; omega) _))
  have hz21 := Hb2.out.size
  have hz10 := Hb1.out.size
  have hbW : Below w.heap.size w W := Hb1.out.trans ((Hb2.out.trans (hbW2.mono hz21)).mono hz10)
  have hIA : A.In W := (HI1.out.below Hb2.out).below hbW2
  have hIB : B.In W := HI2.out.below hbW2
  unfold seenZ at hW
  rw [← hW, ← hq, ← hp]
  rw [← hp] at hA0 fA
  rw [← hq] at hB0 fB
  have hpW : p < W.heap.size := by omega
  have hqW : q < W.heap.size := by omega
  have hpq : p ≠ q := by omega
  have HA0 := Lib.hid hA0
  have HB0 := Lib.hid hB0
  have HIA := Lib.hid hIA
  have HIB := Lib.hid hIB
  have HbW := Lib.hid hbW
  have FA := Lib.hid fA
  have FB := Lib.hid fB
  have HLA : Hid (∀ V, Below W.heap.size W V → (Instr.loadAt 49 (.pointer (some ⟨p, 0, none⟩))).run Try.prog V = .ok (.agg A.l.toArray) V) := Lib.hid (fun V hV => (HA0.out.below hV).load)
  have HLB : Hid (∀ V, Below W.heap.size W V → (Instr.loadAt 49 (.pointer (some ⟨q, 0, none⟩))).run Try.prog V = .ok (.agg B.l.toArray) V) := Lib.hid (fun V hV => (HB0.out.below hV).load)
  have hokA : A.Ok := by rw [HA.out]; exact oneS_ok 0 g1
  have hokB : B.Ok := by rw [HB.out]; exact oneS_ok 1 g2
  have hwA : A.bn * 8 ≤ 140737488355328 ∧ ∀ e ∈ A.es, e.mn * 8 ≤ 140737488355328 := by rw [HA.out]; exact oneS_wt 0 g1
  have hwB : B.bn * 8 ≤ 140737488355328 ∧ ∀ e ∈ B.es, e.mn * 8 ≤ 140737488355328 := by rw [HB.out]; exact oneS_wt 1 g2
  have Hok : Hid (∀ s ∈ [A, B], s.Ok) := Lib.hid (fun s hs => by simp only [List.mem_cons, List.not_mem_nil, or_false] at hs; rcases hs with rfl | rfl <;> assumption)
  have Hwt : Hid (∀ s ∈ [A, B], s.bn * 8 ≤ 140737488355328 ∧ ∀ e ∈ s.es, e.mn * 8 ≤ 140737488355328) := Lib.hid (fun s hs => by simp only [List.mem_cons, List.not_mem_nil, or_false] at hs; rcases hs with rfl | rfl <;> assumption)
  have KCn : Hid (∀ V, Calls Try.prog 9 #[.slice none 0 0] V fun e w' => ∃ a c, e = .returned (.slice a 0 c) ∧ Below V.heap.size V w') := Lib.hid (fun V => by
    refine (acheck_any none 0 0 [] V ⟨Arr.nil _ _, fun s h => by cases h⟩ (fun s h => by cases h) (fun s h => by cases h) (by omega)).mono ?_
    rintro e w' ⟨v, rfl, hr, hb⟩
    rw [check_nil] at hr
    obtain ⟨a, c, rfl⟩ := row_slice hr
    exact ⟨a, c, rfl, hb⟩)
  have KC1 : Hid (∀ V, Below W.heap.size W V → Calls Try.prog 9 #[.slice (some ⟨V.heap.size, 0, none⟩) 1 1] (V.alloc (.cells A.l.toArray 49)) fun e w' => ∃ a c, e = .returned (.slice a 0 c) ∧ Below V.heap.size V w') := Lib.hid (fun V hV => by
    refine (acheck_any _ 1 1 [A] _ (seens_1 V 49 A V.heap.size rfl (HIA.out.below hV)) (fun s hs => by rw [List.mem_singleton.1 hs]; exact hokA) (fun s hs => by rw [List.mem_singleton.1 hs]; exact hwA) (by omega)).mono ?_
    rintro e w' ⟨v, rfl, hr, hb⟩
    rw [HA.out, check_one] at hr
    obtain ⟨a, c, rfl⟩ := row_slice hr
    exact ⟨a, c, rfl, Below.trans ((Below.refl V.heap.size V).alloc (Nat.le_refl _) _) (hb.mono (by rw [World.size_alloc]; omega))⟩)
  have KC2 : Hid (∀ V, Below W.heap.size W V → Calls Try.prog 9 #[.slice (some ⟨V.heap.size, 0, none⟩) 2 2] (V.alloc (.cells (A.l ++ B.l).toArray 49)) fun e w' => ∃ a c, e = .returned (.slice a 0 c) ∧ Below V.heap.size V w') := Lib.hid (fun V hV => by
    refine (acheck_any _ 2 2 [A, B] _ (seens_two V 49 A B V.heap.size rfl (HIA.out.below hV) (HIB.out.below hV)) Hok.out Hwt.out (by omega)).mono ?_
    rintro e w' ⟨v, rfl, hr, hb⟩
    rw [HA.out, HB.out, check_two] at hr
    obtain ⟨a, c, rfl⟩ := row_slice hr
    exact ⟨a, c, rfl, Below.trans ((Below.refl V.heap.size V).alloc (Nat.le_refl _) _) (hb.mono (by rw [World.size_alloc]; omega))⟩)
  have KT : Hid (∀ V, Below W.heap.size W V → Calls Try.prog 13 #[.slice (some ⟨V.heap.size, 0, none⟩) 2 2] (V.alloc (.cells (A.l ++ B.l).toArray 49)) fun e w' => ∃ g tc na nc, e = .returned (.slice (some ⟨g, 0, none⟩) 1 tc) ∧ V.heap.size ≤ g ∧ g < w'.heap.size ∧ w'.cell? ⟨g, 0, none⟩ = some (.int .i64 3) ∧ w'.cell? ⟨g, 3, none⟩ = some (.int .u64 1) ∧ w'.cell? ⟨g, 4, none⟩ = some (.slice na 3 nc) ∧ Below V.heap.size V w') := Lib.hid (fun V hV => by
    refine (tablets_any _ 2 2 [A, B] _ (seens_two V 49 A B V.heap.size rfl (HIA.out.below hV) (HIB.out.below hV)) Hwt.out).mono ?_
    rintro e w' ⟨v, cs, rfl, hr, hN, hS, hb⟩
    rw [tabs_c, HA.out, HB.out, tabs_one2] at hS
    obtain ⟨na, nn, nc, rfl⟩ := says_one hS
    have hn3 : nn = 3 := by
      have := (hN _ (List.mem_singleton.2 rfl)).1
      simpa [intE] using this.symm
    subst hn3
    rcases hr.form with ⟨_, h0⟩ | ⟨g, c, rfl, hg, hgl, _, _⟩
    · cases h0
    refine ⟨g, c, na, nc, rfl, ?_, hgl, ?_, ?_, ?_, Below.trans ((Below.refl V.heap.size V).alloc (Nat.le_refl _) _) (hb.mono (by rw [World.size_alloc]; omega))⟩
    · rw [World.size_alloc] at hg; omega
    · exact Row.cell hr 0 (show 0 < 5 by decide)
    · exact Row.cell hr 3 (show 3 < 5 by decide)
    · exact Row.cell hr 4 (show 4 < 5 by decide))
  have KF : Hid (∀ V, (leadA A).In V → (leadA B).In V → Calls Try.prog 17 #[.agg (leadA A).l.toArray, .agg (leadA B).l.toArray, .agg #[.int .i64 11, .int .i64 1]] V fun e w' => e = .returned (.bool true) ∧ Below V.heap.size V w') := Lib.hid (fun V h1 h2 => by
    refine (fault_any (leadA A) (leadA B) 11 1 V h1 h2 ⟨hokA.lo, hokA.hi, hokA.i0, hokA.i1, hokA.t0, hokA.t1, hokA.c0, hokA.c1, hokA.a0, hokA.es⟩ ⟨hokB.lo, hokB.hi, hokB.i0, hokB.i1, hokB.t0, hokB.t1, hokB.c0, hokB.c1, hokB.a0, hokB.es⟩ hwA hwB).mono ?_
    rintro e w' ⟨rfl, hb⟩
    rw [HA.out, HB.out, check_lead]
    exact ⟨rfl, hb⟩)
  have HIA2 := Lib.hid (HI1.out.below Hb2.out)
  have HbW2 := Lib.hid hbW2
  have hpw : w2.heap.size ≤ p := by omega
  have hqw : w2.heap.size ≤ q := by omega
  have hzz : w.heap.size ≤ w2.heap.size := by omega
  clear hW hp hq hWz hA0 hB0 fA fB hbW2 hbW hIA hIB hokA hokB hwA hwB hz21 hz10 HT1 HT2
  go_upto_region 4 with (first
    | ((go_at_call 9; with_reducible refine (KCn.out _).mono ?_); rintro e w5 ⟨a5, k5, rfl, hb5⟩; have Hb5 := Lib.hid hb5; clear hb5)
    | ((go_at_call 9; with_reducible refine (KC1.out _ Hb5.out).mono ?_); rintro e w6 ⟨a6, k6, rfl, hb6⟩; have Hb6 := Lib.hid (Hb5.out.trans (hb6.mono Hb5.out.size)); clear hb6)
    | ((go_at_call 9; with_reducible refine (KC2.out _ Hb6.out).mono ?_); rintro e w7 ⟨a7, k7, rfl, hb7⟩; have Hb7 := Lib.hid (Hb6.out.trans (hb7.mono Hb6.out.size)); clear hb7)
    | (refine wpList_loadK rfl (by rfl) rfl (by first | exact HLA.out _ Hb5.out | exact HLA.out _ Hb6.out | exact HLB.out _ Hb6.out) ?_; simp only [Act.put, List.setIfInBounds_toArray, List.set_cons_succ, List.set_cons_zero])
    | (refine wpList_build1 (by rfl) 22 49 _ rfl A.l rfl 19 i0 _ Try.underlying22 Hi.out iz0 iz1 (by decide) (by decide) rfl ?_; simp only [Act.put, List.setIfInBounds_toArray, List.set_cons_succ, List.set_cons_zero])
    | (refine wpList_build2 (by rfl) 22 49 _ _ rfl A.l B.l rfl rfl 19 i0 _ Try.underlying22 Hi.out iz0 iz1 (by decide) (by decide) rfl rfl ?_; simp only [Act.put, List.setIfInBounds_toArray, List.set_cons_succ, List.set_cons_zero]))
  go_upto_region 5 with (first
    | ((go_at_call 13; with_reducible refine (KT.out _ Hb7.out).mono ?_); rintro e w8 ⟨g, tc, na, nc, rfl, hg1, hg2, c0, c3, c4, hb8⟩; have Hb8 := Lib.hid (Hb7.out.trans (hb8.mono Hb7.out.size)); have hz7 := Hb7.out.size; have C0 := Lib.hid c0; have C3 := Lib.hid c3; have C4 := Lib.hid c4; clear hb8 c0 c3 c4)
    | (refine wpList_loadK rfl (by rfl) rfl (by first | exact HLA.out _ Hb7.out | exact HLB.out _ Hb7.out) ?_; simp only [Act.put, List.setIfInBounds_toArray, List.set_cons_succ, List.set_cons_zero])
    | (refine wpList_build2 (by rfl) 22 49 _ _ rfl A.l B.l rfl rfl 19 i0 _ Try.underlying22 Hi.out iz0 iz1 (by decide) (by decide) rfl rfl ?_; simp only [Act.put, List.setIfInBounds_toArray, List.set_cons_succ, List.set_cons_zero]))
  have hA8 : SeenAt w8 p 0 A := HA0.out.below Hb8.out
  have hB8 : SeenAt w8 q 0 B := HB0.out.below Hb8.out
  have xA := hA8.at_ 3 _ rfl
  have fA8 := (Hb8.out.frozen (p := ⟨p, 3, none⟩) hpW).trans FA.out
  have fB8 := (Hb8.out.frozen (p := ⟨q, 3, none⟩) hqW).trans FB.out
  simp only [Nat.zero_add] at xA
  have HA8 := Lib.hid hA8
  have HB8 := Lib.hid hB8
  have hgp : g ≠ p := by omega
  have hgq : g ≠ q := by omega
  clear hA8 hB8 KT KC1 KC2 KCn HLA HLB HA0 HB0
  go_upto_region 6 with fail
  obtain ⟨W6, hW6⟩ : ∃ V, V = w8.setCell ⟨p, 3, none⟩ (.bool true) := ⟨_, rfl⟩
  have hA6 : SeenAt W6 p 0 (leadA A) := by rw [hW6]; exact SeenAt.set1 HA8.out 3 (show 3 < 19 by decide) _
  have hB6 : SeenAt W6 q 0 B := HB8.out.same (by rw [hW6]; exact Below.heap_setCell _ _ _ _ (by simp only; omega))
  have fB6 : W6.frozen? ⟨q, 3, none⟩ = false := by rw [hW6, World.frozen?_setCell]; exact fB8
  have hb6 : Below w2.heap.size w2 W6 := by rw [hW6]; exact (HbW2.out.trans (Hb8.out.mono HbW2.out.size)).setCell hpw _
  have hk6 : ∀ o, W6.cell? ⟨g, o, none⟩ = w8.cell? ⟨g, o, none⟩ := fun o => by rw [hW6]; exact World.cell?_of_block (a := ⟨g, o, none⟩) (Below.heap_setCell _ _ _ _ (by simp only; omega))
  have hz6 : W6.heap.size = w8.heap.size := by rw [hW6, World.size_setCell]
  have xB := hB6.at_ 3 _ rfl
  simp only [Nat.zero_add] at xB
  rw [← hW6]
  have HA6 := Lib.hid hA6
  have HB6 := Lib.hid hB6
  have Hb6' := Lib.hid hb6
  have Hk6 := Lib.hid hk6
  have Hz6 := Lib.hid hz6
  clear hW6 hA6 hB6 hb6 hk6 hz6 xA fA8 fB8
  go_upto_region 7 with fail
  obtain ⟨W7, hW7⟩ : ∃ V, V = W6.setCell ⟨q, 3, none⟩ (.bool true) := ⟨_, rfl⟩
  have hA7 : SeenAt W7 p 0 (leadA A) := HA6.out.same (by rw [hW7]; exact Below.heap_setCell _ _ _ _ (by simp only; omega))
  have hB7 : SeenAt W7 q 0 (leadA B) := by rw [hW7]; exact SeenAt.set1 HB6.out 3 (show 3 < 19 by decide) _
  have hb7 : Below w2.heap.size w2 W7 := by rw [hW7]; exact Hb6'.out.setCell hqw _
  have hk7 : ∀ o, W7.cell? ⟨g, o, none⟩ = w8.cell? ⟨g, o, none⟩ := fun o => by
    rw [← Hk6.out o, hW7]
    exact World.cell?_of_block (a := ⟨g, o, none⟩) (Below.heap_setCell _ _ _ _ (by simp only; omega))
  have hg7 : g < W7.heap.size := by rw [hW7, World.size_setCell, Hz6.out]; exact hg2
  have LA := Lib.hid hA7.load
  have LB := Lib.hid hB7.load
  have IA : (leadA A).In W7 := by
    have := HIA2.out.below hb7
    exact ⟨this.bm, this.es, this.locs, this.procs⟩
  have IB : (leadA B).In W7 := by
    have := HI2.out.below hb7
    exact ⟨this.bm, this.es, this.locs, this.procs⟩
  have KF7 := Lib.hid (KF.out W7 IA IB)
  have D0 := Lib.hid ((hk7 0).trans C0.out)
  have D3 := Lib.hid ((hk7 3).trans C3.out)
  have D4 := Lib.hid ((hk7 4).trans C4.out)
  have Hb7w := Lib.hid (show Below w.heap.size w W7 from (Hb1.out.trans (Hb2.out.mono Hb1.out.size)).trans (hb7.mono hzz))
  rw [← hW7]
  clear hW7 hA7 hB7 hb7 hk7 IA IB KF xB fB6
  go_wp2_with (first
    | (refine wpList_loadK rfl (by rfl) rfl (by first | exact LA.out | exact LB.out) ?_; simp only [Act.put, List.setIfInBounds_toArray, List.set_cons_succ, List.set_cons_zero])
    | (go_at_call 17; refine KF7.out.mono ?_; rintro e w9 ⟨rfl, hb9⟩; have d0 := (hb9.cell (p := ⟨g, 0, none⟩) hg7).trans D0.out; have d3 := (hb9.cell (p := ⟨g, 3, none⟩) hg7).trans D3.out; have d4 := (hb9.cell (p := ⟨g, 4, none⟩) hg7).trans D4.out; have Hb9 := Lib.hid (Hb7w.out.trans (hb9.mono Hb7w.out.size)); clear hb9))
  go_returns
  exact ⟨rfl, Hb9.out⟩
end Go.Proofs.Yteibnignjghedaa
