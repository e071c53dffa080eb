/-
  Variables that hold a replica: what is kept of them.
-/
import Derived.Test.YteibnignjghedaaAudKP
namespace Go.Proofs.Yteibnignjghedaa
open Go.RowKit Go.Sort

set_option maxRecDepth 100000 in
set_option maxHeartbeats 2000000 in
theorem one_g (k : Int) (w : World) : Calls Try.prog 16 #[.int .i64 k] w fun e w' => ∃ g, e = .returned (oneS k g).v ∧ (oneS k g).In w' ∧ w.heap.size ≤ g ∧ g + 1 < w'.heap.size ∧ Below w.heap.size w w' := by
  go_enter Try.func16, Try.ntmps16
  go_upto_region 1 with fail
  obtain ⟨zs, hzs⟩ : ∃ zs : Array Value, zs = #[.int .i64 0, .int .i64 0, .bool false, .bool false, .int .u64 0, .int .i64 0, .int .u64 0, .int .u64 0, .slice none 0 0, .slice none 0 0, .int .u64 0, .int .u64 0, .string ⟨#[]⟩, .string ⟨#[]⟩, .int .u64 0, .bool false, .slice none 0 0, .slice none 0 0, .int .i64 0] := ⟨_, rfl⟩
  rw [← hzs]
  have hzn : zs.size = 19 := by rw [hzs]; rfl
  obtain ⟨W, hW⟩ : ∃ W : World, W = w.alloc (.cells zs 49) := ⟨_, rfl⟩
  rw [← hW]
  obtain ⟨p, hp⟩ : ∃ p, p = w.heap.size := ⟨_, rfl⟩
  rw [← hp]
  have hWp : W.heap[p]? = some (.cells zs 49) := by rw [hW, hp]; exact heap_alloc_new _ _
  have hWz : W.heap.size = p + 1 := by rw [hW, hp]; simp
  have HT : Hid (∀ o1 o2 : Obj, ((W.alloc o1).alloc o2).there p 0 19) := Lib.hid (fun o1 o2 => by
    have h1 : ((W.alloc o1).alloc o2).heap[p]? = some (.cells zs 49) := by
      have hb : Below W.heap.size W ((W.alloc o1).alloc o2) := ((Below.refl _ _).alloc (Nat.le_refl _) _).alloc (by simp) _
      exact (hb.block p (by omega)).trans hWp
    rw [← hzn]
    exact there_of h1)
  have HWz := Lib.hid hWz
  have HbW := Lib.hid (show Below w.heap.size w W from by rw [hW]; exact (Below.refl _ _).alloc (Nat.le_refl _) _)
  have Hp := Lib.hid hp
  clear hzs hW hp hWp hzn hWz
  go_wp2_with (first | (with_reducible refine bodyPost_ret (v := .agg (oneS k W.heap.size).l.toArray) ?hr ?hd ?hR) | (refine wpList_store_mid rfl _ _ _ rfl p 0 (oneS k W.heap.size).l.toArray rfl rfl (HT.out _ _) (by kernel_rfl) (SeenA.all _) ?_; simp only [Act.put, List.setIfInBounds_toArray, List.set_cons_succ, List.set_cons_zero]))
  case hd => rfl
  all_goals
    have hth : ((W.alloc (.cells #[.int .i64 0, .int .i64 1, .int .i64 2] 3)).alloc (.cells oneE.l.toArray 60)).there p 0 19 := HT.out _ _
    have hE : SeenAt (((W.alloc (.cells #[.int .i64 0, .int .i64 1, .int .i64 2] 3)).alloc (.cells oneE.l.toArray 60)).setCells p 0 (oneS k W.heap.size).l) p 0 (oneS k W.heap.size) := World.rangeAt_setCells_same _ _ _ _ hth
  case hr =>
    rw [results_cell rfl]
    have hld := SeenAt.loadVar hE
    change ((asAddr (.pointer (some ⟨p, 0, none⟩))).run Try.prog (((W.alloc (.cells #[.int .i64 0, .int .i64 1, .int .i64 2] 3)).alloc (.cells oneE.l.toArray 60)).setCells p 0 (oneS k W.heap.size).l)).andThen _ = _
    simp [asAddr, Result.andThen, hld]
    rfl
  case hR =>
    have hp := Hp.out
    have hz := HWz.out
    refine ⟨W.heap.size, rfl, ⟨?_, ⟨?_, ?_⟩, ⟨Arr.nil _ _, fun c hc => by cases hc⟩, Arr.nil _ _⟩, by omega, by rw [size_setCells, World.size_alloc, World.size_alloc]; omega, ?_⟩
    · refine Arr.sameBlk (Ints.below (ints3_new W 3 W.heap.size rfl) ((Below.refl _ _).alloc (Nat.le_refl _) (.cells oneE.l.toArray 60))) (heap_setCells (by omega) _ _ _)
    · refine Arr.sameBlk (ents_one (W.alloc (.cells #[.int .i64 0, .int .i64 1, .int .i64 2] 3)) 60 oneE (W.heap.size + 1) (by rw [World.size_alloc])) (heap_setCells (by omega) _ _ _)
    · intro e he
      rw [show (oneS k W.heap.size).es = [oneE] from rfl, List.mem_singleton] at he
      subst he
      exact Arr.nil _ _
    · exact Below.setCells (by omega) _ _ ((HbW.out.alloc HbW.out.size _).alloc (by rw [World.size_alloc]; have := HbW.out.size; omega) _)


/-- all blocks but the variables' are as they were -/
structure KeptV (P : Nat → Prop) (V V' : World) : Prop where
  size : V.heap.size ≤ V'.heap.size
  blk : ∀ k, k < V.heap.size → ¬ P k → V'.heap[k]? = V.heap[k]?
section
variable {P Q : Nat → Prop} {V V' U : World} {p q : Nat} {s s' : SeenA}
theorem KeptV.refl (P : Nat → Prop) (V : World) : KeptV P V V := ⟨Nat.le_refl _, fun _ _ _ => rfl⟩
theorem KeptV.trans (h : KeptV P U V) (k : KeptV P V V') : KeptV P U V' := ⟨Nat.le_trans h.size k.size, fun j hj hp => (k.blk j (Nat.lt_of_lt_of_le hj h.size) hp).trans (h.blk j hj hp)⟩
theorem KeptV.below (hb : Below V.heap.size V V') : KeptV P V V' := ⟨hb.size, fun k hk _ => hb.block k hk⟩
theorem KeptV.set (hp : P p) (j : Nat) (u : Value) : KeptV P V (V.setCell ⟨p, j, none⟩ u) := ⟨by rw [World.size_setCell]; exact Nat.le_refl _, fun k _ hk => Below.heap_setCell _ _ _ _ (by rintro rfl; exact hk hp)⟩
theorem KeptV.sets (hp : P p) (o : Nat) (vs : List Value) : KeptV P V (V.setCells p o vs) := ⟨by rw [size_setCells]; exact Nat.le_refl _, fun k _ hk => heap_setCells (by rintro rfl; exact hk hp) vs o V⟩
theorem KeptV.mono (hPQ : ∀ k, k < V.heap.size → P k → Q k) (h : KeptV P V V') : KeptV Q V V' := ⟨h.size, fun k hk hq => h.blk k hk (fun hp => hq (hPQ k hk hp))⟩
/-- whatever is done to the variables, it lies where it lies -/
def SafeV (P : Nat → Prop) (V : World) (s : SeenA) : Prop := ∀ V', KeptV P V V' → s.In V'
theorem SafeV.in_ (h : SafeV P V s) : s.In V := h V (KeptV.refl P V)
theorem SafeV.kept (h : SafeV P V s) (k : KeptV P V V') : SafeV P V' s := fun W hW => h W (k.trans hW)
theorem SafeV.scal (h : SafeV P V s) (hs : ∀ W, s.In W → s'.In W) : SafeV P V s' := fun W hW => hs W (h W hW)
/-- more variables, laid behind -/
theorem SafeV.more (h : SafeV P V s) (hq : ∀ k, k < V.heap.size → Q k → P k) : SafeV Q V s := fun W hW => h W (hW.mono hq)
theorem ints_kept {g n c : Nat} {l : List Int} (h : Ints V (some ⟨g, 0, none⟩) n c l) (hg : g < V.heap.size) (hp : ¬ P g) (k : KeptV P V V') : Ints V' (some ⟨g, 0, none⟩) n c l := Arr.sameBlk h (k.blk g hg hp)
theorem ents_kept {g n c : Nat} {l : List EntA} (h : Ents V (some ⟨g, 0, none⟩) n c l) (hg : g < V.heap.size) (hp : ¬ P g) (hm : ∀ e ∈ l, e.ma = none ∧ e.mn = 0 ∧ e.mc = 0 ∧ e.mem = []) (k : KeptV P V V') : Ents V' (some ⟨g, 0, none⟩) n c l :=
  ⟨Arr.sameBlk h.arr (k.blk g hg hp), fun e he => by
    obtain ⟨h1, h2, h3, h4⟩ := hm e he
    rw [EntA.In, h1, h2, h3, h4]
    exact Arr.nil _ _⟩
theorem one_safe {k : Int} {g : Nat} (h : (oneS k g).In V) (hg : g + 1 < V.heap.size) (h0 : ¬ P g) (h1 : ¬ P (g + 1)) : SafeV P V (oneS k g) := fun W hW =>
  ⟨ints_kept h.bm (by omega) h0 hW, ents_kept h.es hg h1 (fun e he => by
    rw [show (oneS k g).es = [oneE] from rfl, List.mem_singleton] at he
    subst he
    exact ⟨rfl, rfl, rfl, rfl⟩) hW, ⟨Arr.nil _ _, fun c hc => by cases hc⟩, Arr.nil _ _⟩
theorem SafeV.ents (h : SafeV P V s) {g : Nat} {e : EntA} (hE : Ents V (some ⟨g, 0, none⟩) 1 1 [e]) (hg : g < V.heap.size) (hp : ¬ P g) (hm : e.ma = none ∧ e.mn = 0 ∧ e.mc = 0 ∧ e.mem = []) : SafeV P V { s with ea := some ⟨g, 0, none⟩, en := 1, ec := 1, es := [e] } := fun W hW =>
  ⟨(h W hW).bm, ents_kept hE hg hp (fun x hx => by rw [List.mem_singleton.1 hx]; exact hm) hW, (h W hW).locs, (h W hW).procs⟩
theorem SafeV.ents0 (h : SafeV P V s) : SafeV P V { s with ea := none, en := 0, ec := 0, es := [] } := fun W hW =>
  ⟨(h W hW).bm, ⟨Arr.nil _ _, fun e he => by cases he⟩, (h W hW).locs, (h W hW).procs⟩
theorem SafeV.ints (h : SafeV P V s) {g n c : Nat} {l : List Int} (hI : Ints V (some ⟨g, 0, none⟩) n c l) (hg : g < V.heap.size) (hp : ¬ P g) : SafeV P V { s with ba := some ⟨g, 0, none⟩, bn := n, bc := c, bm := l } := fun W hW =>
  ⟨ints_kept hI hg hp hW, (h W hW).es, (h W hW).locs, (h W hW).procs⟩
/-- a variable holds a replica -/
structure VarS (P : Nat → Prop) (V : World) (p : Nat) (s : SeenA) : Prop where
  at_ : SeenAt V p 0 s
  th : V.there p 0 19
  var : P p
  safe : SafeV P V s
theorem VarS.lt (h : VarS P V p s) : p < V.heap.size := h.at_.lt
theorem VarS.below (h : VarS P V p s) (hb : Below V.heap.size V V') : VarS P V' p s :=
  ⟨h.at_.below hb, fun j hj => by
    have := h.th j hj
    rw [hb.cell (p := ⟨p, 0 + j, none⟩) h.lt, hb.frozen (p := ⟨p, 0 + j, none⟩) h.lt]
    exact this, h.var, h.safe.kept (KeptV.below hb)⟩
theorem VarS.other (h : VarS P V p s) (hq : P q) (hpq : p ≠ q) (j : Nat) (u : Value) : VarS P (V.setCell ⟨q, j, none⟩ u) p s :=
  ⟨h.at_.same (Below.heap_setCell _ _ _ _ (by simpa using hpq)), fun i hi => by
    have := h.th i hi
    rw [World.frozen?_setCell, World.cell?_of_block (a := ⟨p, 0 + i, none⟩) (Below.heap_setCell _ _ _ _ (by simpa using hpq))]
    exact this, h.var, h.safe.kept (KeptV.set hq j u)⟩
theorem VarS.others (h : VarS P V p s) (hq : P q) (hpq : p ≠ q) (o : Nat) (vs : List Value) : VarS P (V.setCells q o vs) p s :=
  ⟨h.at_.same (heap_setCells hpq vs o V), there_set hpq h.th, h.var, h.safe.kept (KeptV.sets hq o vs)⟩
theorem there_setCell {k j : Nat} {u : Value} {n : Nat} (h : V.there k 0 n) : (V.setCell ⟨k, j, none⟩ u).there k 0 n := fun i hi => by
  have h1 := h i hi
  refine ⟨?_, by rw [World.frozen?_setCell]; exact h1.2⟩
  by_cases e : 0 + i = j
  · subst e
    obtain ⟨x, hx⟩ := Option.isSome_iff_exists.1 h1.1
    rw [World.cell?_setCell_same _ _ _ hx]
    rfl
  · rw [World.cell?_setCell_other _ _ _ _ (fun e2 => e (congrArg Addr.off e2).symm)]
    exact h1.1
theorem VarS.put (h : VarS P V p s) (k : Nat) (hk : k < 19) (u : Value) (hl : s'.l = s.l.set k u) (hs : SafeV P V s') : VarS P (V.setCell ⟨p, k, none⟩ u) p s' :=
  ⟨by rw [SeenAt, hl]; exact SeenAt.set1 h.at_ k hk u, there_setCell h.th, h.var, hs.kept (KeptV.set h.var k u)⟩
theorem VarS.whole (h : VarS P V p s) (hs : SafeV P V s') : VarS P (V.setCells p 0 s'.l) p s' := by
  have h1 : SeenAt (V.setCells p 0 s'.l) p 0 s' := World.rangeAt_setCells_same _ _ _ _ h.th
  refine ⟨h1, fun j hj => ?_, h.var, hs.kept (KeptV.sets h.var 0 _)⟩
  rw [frozen_setCells]
  refine ⟨?_, (h.th j hj).2⟩
  have := h1 j _ (List.getElem?_eq_getElem (show j < s'.l.length from hj))
  rw [this]
  rfl
theorem VarS.cell (h : VarS P V p s) (k : Nat) (u : Value) (hu : s.l[k]? = some u) : V.cell? ⟨p, k, none⟩ = some u := by
  have := h.at_ k u hu
  rwa [Nat.zero_add] at this
theorem VarS.free (h : VarS P V p s) (k : Nat) (hk : k < 19) : V.frozen? ⟨p, k, none⟩ = false := by
  have := (h.th k hk).2
  rwa [Nat.zero_add] at this
theorem VarS.more (h : VarS P V p s) (hq : ∀ k, k < V.heap.size → Q k → P k) (hp : Q p) : VarS Q V p s := ⟨h.at_, h.th, hp, h.safe.more hq⟩
end
end Go.Proofs.Yteibnignjghedaa
