/-
  Skip lists: what Put's loop keeps; what it leaves.
-/
import Derived.Test.YtlnfdejflpgleaaFirstW
namespace Go.Proofs.Ytlnfdejflpgleaa
open Go.RowKit

/-- while Put links: A the nodes ahead (the head first), B those behind, f the fresh one, p: how many of B go; the levels below lv are done -/
structure PutW (A B : List Nd) (f : Nd) (p : Nat) (fl : Nat → Nat) (lb ab : Nat) (cnt : Int) (F : Nat → Prop) (w wr : World) (lv : Nat) : Prop where
  a : ∀ (i : Nat) n, A[i]? = some n → NodeAt wr n (fun L => if L < lv then towN n L ((A ++ f :: B.drop p).drop (i + 1)) else towN n L ((A ++ B).drop (i + 1)))
  b : ∀ (i : Nat) n, B[i]? = some n → NodeAt wr n (fun L => towN n L (B.drop (i + 1)))
  f : ∃ g : Nat → Option Nd, (∀ L, L < lv → g L = nxt L (B.drop p)) ∧ (∀ L, f.h ≤ L → g L = none) ∧ NodeAt wr f g
  at_ : ∀ L, L < 12 → wr.cell? ⟨ab, L, none⟩ = some (ptrN A[fl L]?)
  l0 : ∃ hd, A[0]? = some hd ∧ wr.cell? ⟨lb, 0, none⟩ = some (.pointer (some ⟨hd.b, 0, none⟩))
  l1 : wr.cell? ⟨lb, 1, none⟩ = some (.int .i64 cnt)
  lf : ∀ o, wr.frozen? ⟨lb, o, none⟩ = false
  kept : Kept F w wr
/-- what is fixed meanwhile -/
structure PutX (A B : List Nd) (f : Nd) (p : Nat) (fl : Nat → Nat) (lb ab : Nat) (F : Nat → Prop) (w : World) : Prop where
  last : ∀ L, L < 12 → LastAtL A A.length L (fl L)
  fa : ∀ n ∈ A ++ B, F n.b ∧ n.b < w.heap.size
  fl_ : F lb ∧ lb < w.heap.size
  fresh : w.heap.size ≤ f.b
  abn : w.heap.size ≤ ab ∧ ab ≠ f.b
  ne : (A ++ B).Pairwise fun a b => a.b ≠ b.b
  nl : ∀ n ∈ A ++ B, n.b ≠ lb
  high : ∀ n ∈ A ++ B, 1 ≤ n.h ∧ n.h ≤ 12
  fh : 1 ≤ f.h ∧ f.h ≤ 12
  drop : p = 0 ∨ (p = 1 ∧ ∃ o, B[0]? = some o ∧ o.h = f.h)

theorem NodeAt.store {w : World} {n : Nd} {nx : Nat → Option Nd} (h : NodeAt w n nx) {L : Nat} (hL : L < 12) (o : Option Nd) : NodeAt (w.setCell ⟨n.b, 6 + L, none⟩ (ptrN o)) n (fun M => if M = L then o else nx M) := by
  have k : ∀ j, j ≠ 6 + L → (w.setCell ⟨n.b, 6 + L, none⟩ (ptrN o)).cell? ⟨n.b, j, none⟩ = w.cell? ⟨n.b, j, none⟩ := fun j hj => World.cell?_setCell_other _ _ _ _ (fun e => hj (by have := congrArg Addr.off e; simpa using this.symm))
  refine ⟨⟨(k _ (by omega)).trans h.cell.c0, (k _ (by omega)).trans h.cell.c1, (k _ (by omega)).trans h.cell.c2, (k _ (by omega)).trans h.cell.c3, (k _ (by omega)).trans h.cell.c4⟩, (k _ (by omega)).trans h.h, fun M hM => ?_, fun j => by rw [World.frozen?_setCell]; exact h.f j, ty_setCell h.ty _ _⟩
  by_cases e : M = L
  · subst e
    rw [if_pos rfl]
    exact World.cell?_setCell_same _ _ _ (h.t M hM)
  · rw [if_neg e, k _ (by omega)]
    exact h.t M hM
theorem NodeAt.other {w : World} {n : Nd} {nx : Nat → Option Nd} (h : NodeAt w n nx) {b o : Nat} (hb : n.b ≠ b) (v : Value) : NodeAt (w.setCell ⟨b, o, none⟩ v) n nx := h.same (Below.heap_setCell _ _ _ _ hb)
theorem NodeAt.congr {w : World} {n : Nd} {nx ny : Nat → Option Nd} (h : NodeAt w n nx) (e : ∀ L, L < 12 → nx L = ny L) : NodeAt w n ny := ⟨h.cell, h.h, fun L hL => by rw [← e L hL]; exact h.t L hL, h.f, h.ty⟩

section
variable {A B : List Nd} {f : Nd} {p : Nat} {fl : Nat → Nat} {lb ab : Nat} {cnt : Int} {F : Nat → Prop} {w wr w1 : World} {lv : Nat}
theorem PutW.below (h : PutW A B f p fl lb ab cnt F w wr lv) (hb : Below wr.heap.size wr w1) : PutW A B f p fl lb ab cnt F w w1 lv := by
  obtain ⟨g, g1, g2, g3⟩ := h.f
  obtain ⟨hd, d1, d2⟩ := h.l0
  have hl := World.block_lt_of_cell? _ _ h.l1
  exact ⟨fun i n hn => (h.a i n hn).same (hb.block _ (h.a i n hn).lt), fun i n hn => (h.b i n hn).same (hb.block _ (h.b i n hn).lt), ⟨g, g1, g2, g3.same (hb.block _ g3.lt)⟩, fun L hL => (hb.cell (p := ⟨_, _, none⟩) (World.block_lt_of_cell? _ _ (h.at_ L hL))).trans (h.at_ L hL),
    ⟨hd, d1, (hb.cell (p := ⟨lb, 0, none⟩) hl).trans d2⟩, (hb.cell (p := ⟨lb, 1, none⟩) hl).trans h.l1, fun o => (hb.frozen (p := ⟨lb, o, none⟩) hl).trans (h.lf o), h.kept.trans (F' := fun _ => False) (Kept.of_below hb) (fun _ h => h.elim)⟩
/-- the fresh node's shortcut at this level is written -/
theorem PutW.putF (X : PutX A B f p fl lb ab F w) (h : PutW A B f p fl lb ab cnt F w wr lv) (hl : lv < f.h) (o : Option Nd) :
    PutW A B f p fl lb ab cnt F w (wr.setCell ⟨f.b, 6 + lv, none⟩ (ptrN o)) lv ∧ (wr.setCell ⟨f.b, 6 + lv, none⟩ (ptrN o)).cell? ⟨f.b, 6 + lv, none⟩ = some (ptrN o) := by
  obtain ⟨g, g1, g2, g3⟩ := h.f
  obtain ⟨hd, d1, d2⟩ := h.l0
  have h12 := X.fh.2
  have hf := X.fresh
  have na : ∀ n ∈ A ++ B, n.b ≠ f.b := fun n hn e => by have := (X.fa n hn).2; omega
  have hlb := X.fl_.2
  have hab := X.abn.2
  have ko : ∀ b j, b ≠ f.b → (wr.setCell ⟨f.b, 6 + lv, none⟩ (ptrN o)).cell? ⟨b, j, none⟩ = wr.cell? ⟨b, j, none⟩ := fun b j hb => World.cell?_setCell_other _ _ _ _ (fun e => hb (by have := congrArg Addr.block e; simpa using this.symm))
  refine ⟨⟨fun i n hn => (h.a i n hn).other (na n (List.mem_append_left _ (List.mem_of_getElem? hn))) _, fun i n hn => (h.b i n hn).other (na n (List.mem_append_right _ (List.mem_of_getElem? hn))) _, ⟨_, fun L hL => ?_, fun L hL => ?_, g3.store (by omega) o⟩, fun L hL => (ko _ _ hab).trans (h.at_ L hL),
    ⟨hd, d1, (ko _ _ (by omega)).trans d2⟩, (ko _ _ (by omega)).trans h.l1, fun j => by rw [World.frozen?_setCell]; exact h.lf j, h.kept.setCell (.inr hf) _⟩, World.cell?_setCell_same _ _ _ (g3.t lv (by omega))⟩
  · rw [if_neg (by omega)]; exact g1 L hL
  · rw [if_neg (by omega)]; exact g2 L hL
/-- the node ahead is linked at the fresh one -/
theorem PutW.putA (X : PutX A B f p fl lb ab F w) (h : PutW A B f p fl lb ab cnt F w wr lv) (hl : lv < f.h) (hc : wr.cell? ⟨f.b, 6 + lv, none⟩ = some (ptrN (nxt lv (B.drop p)))) {q : Nd} (hq : A[fl lv]? = some q) :
    PutW A B f p fl lb ab cnt F w (wr.setCell ⟨q.b, 6 + lv, none⟩ (.pointer (some ⟨f.b, 0, none⟩))) (lv + 1) := by
  obtain ⟨g, g1, g2, g3⟩ := h.f
  obtain ⟨hd, d1, d2⟩ := h.l0
  have h12 := X.fh.2
  have hf := X.fresh
  have hqm : q ∈ A ++ B := List.mem_append_left _ (List.mem_of_getElem? hq)
  obtain ⟨hqF, hql⟩ := X.fa q hqm
  have hlb := X.fl_.2
  have hab := X.abn
  have hql' := X.nl q hqm
  have hLa := X.last lv (by omega)
  have ko : ∀ b j, b ≠ q.b → (wr.setCell ⟨q.b, 6 + lv, none⟩ (.pointer (some ⟨f.b, 0, none⟩))).cell? ⟨b, j, none⟩ = wr.cell? ⟨b, j, none⟩ := fun b j hb => World.cell?_setCell_other _ _ _ _ (fun e => hb (by have := congrArg Addr.block e; simpa using this.symm))
  have hgl : adrN (g lv) = adrN (nxt lv (B.drop p)) := by
    have := (g3.t lv (by omega)).symm.trans hc
    simpa using this
  refine ⟨fun i n hn => ?_, fun i n hn => (h.b i n hn).other (fun e => ?_) _, ⟨fun L => if L = lv then nxt lv (B.drop p) else g L, fun L hL => ?_, fun L hL => ?_, ?_⟩, fun L hL => (ko _ _ (by omega)).trans (h.at_ L hL),
    ⟨hd, d1, (ko _ _ (Ne.symm hql')).trans d2⟩, (ko _ _ (Ne.symm hql')).trans h.l1, fun j => by rw [World.frozen?_setCell]; exact h.lf j, h.kept.setCell (.inl hqF) _⟩
  · by_cases e : i = fl lv
    · subst e
      rw [hq] at hn
      cases hn
      refine ((h.a _ q hq).store (L := lv) (by omega) (some f)).congr fun L hL => ?_
      by_cases e : L = lv
      · subst e
        rw [if_pos rfl, if_pos (by omega), tow_fresh rfl hLa hl hq]
      · rw [if_neg e]
        by_cases h1 : L < lv
        · rw [if_pos h1, if_pos (by omega)]
        · rw [if_neg h1, if_neg (by omega)]
    · have hnb : n.b ≠ q.b := fun e2 => e (blk_inj (List.pairwise_append.1 X.ne).1 hn hq e2)
      refine ((h.a i n hn).other hnb _).congr fun L hL => ?_
      by_cases e3 : L = lv
      · subst e3
        rw [if_neg (by omega), if_pos (by omega)]
        exact (tow_other rfl hLa (List.getElem?_eq_some_iff.1 hn).1 e hn).symm
      · by_cases h1 : L < lv
        · rw [if_pos h1, if_pos (by omega)]
        · rw [if_neg h1, if_neg (by omega)]
  · exact (List.pairwise_append.1 X.ne).2.2 q (List.mem_of_getElem? hq) n (List.mem_of_getElem? hn) e.symm
  · show (if L = lv then nxt lv (B.drop p) else g L) = _
    by_cases e : L = lv
    · subst e; rw [if_pos rfl]
    · rw [if_neg e]; exact g1 L (by omega)
  · show (if L = lv then nxt lv (B.drop p) else g L) = _
    rw [if_neg (by omega)]; exact g2 L hL
  · have g4 : NodeAt (wr.setCell ⟨q.b, 6 + lv, none⟩ (.pointer (some ⟨f.b, 0, none⟩))) f g := g3.other (by omega) _
    refine ⟨g4.cell, g4.h, fun L hL => ?_, g4.f, g4.ty⟩
    by_cases e : L = lv
    · subst e
      rw [if_pos rfl, g4.t L hL]
      show some (Value.pointer (adrN (g L))) = some (Value.pointer _)
      rw [hgl]
    · rw [if_neg e]; exact g4.t L hL
/-- all levels are done: the list has the fresh node -/
theorem PutW.done (X : PutX A B f p fl lb ab F w) {hd : Nd} {ns : List Nd} (h : PutW A B f p fl lb ab cnt F w wr f.h) (hA : A[0]? = some hd) (hh : hd.h = 12) (hns : A ++ f :: B.drop p = hd :: ns) (hc : cnt = ns.length) : SkipAt wr lb hd ns := by
  obtain ⟨g, g1, g2, g3⟩ := h.f
  obtain ⟨hd', d1, d2⟩ := h.l0
  rw [hA] at d1
  cases d1
  have hf := X.fresh
  have hB : ∀ L, f.h ≤ L → nxt L B = nxt L (B.drop p) := fun L hL => by
    rcases X.drop with rfl | ⟨rfl, o, ho, hoh⟩
    · rfl
    · cases B with
      | nil => simp at ho
      | cons x r =>
        simp at ho
        subst ho
        rw [nxt_cons, if_neg (by omega)]
        rfl
  have mem : ∀ n ∈ hd :: ns, n = f ∨ n ∈ A ++ B := fun n hn => by
    rw [← hns, List.mem_append, List.mem_cons] at hn
    rcases hn with h1 | h1 | h1
    · exact .inr (List.mem_append_left _ h1)
    · exact .inl h1
    · exact .inr (List.mem_append_right _ (List.mem_of_mem_drop h1))
  refine ⟨d2, by rw [← hc]; exact h.l1, h.lf, fun i n hn => ?_, fun n hn => ?_, hh, ?_, fun n hn => ?_⟩
  · rw [← hns] at hn ⊢
    rcases Nat.lt_or_ge i A.length with hi | hi
    · rw [List.getElem?_append_left hi] at hn
      refine (h.a i n hn).congr fun L hL => ?_
      by_cases h1 : L < f.h
      · rw [if_pos h1]
      · rw [if_neg h1]
        exact (tow_high (by omega) (hB L (by omega)) hn).symm
    · rw [List.getElem?_append_right hi] at hn
      obtain ⟨j, hj⟩ : ∃ j, j = i - A.length := ⟨_, rfl⟩
      rw [← hj] at hn
      have hdr : (A ++ f :: B.drop p).drop (i + 1) = (B.drop p).drop j := by
        rw [List.drop_append, List.drop_eq_nil_of_le (by omega), List.nil_append, show i + 1 - A.length = j + 1 by omega]
        rfl
      rw [hdr]
      cases j with
      | zero =>
        simp at hn
        subst hn
        refine g3.congr fun L hL => ?_
        unfold towN
        by_cases h1 : L < f.h
        · rw [if_pos h1, g1 L h1]; rfl
        · rw [if_neg h1, g2 L (by omega)]
      | succ j =>
        rw [List.getElem?_cons_succ, List.getElem?_drop] at hn
        refine (h.b (p + j) n hn).congr fun L hL => ?_
        rw [List.drop_drop, show p + (j + 1) = p + j + 1 by omega]
  · rcases mem n hn with rfl | h1
    · exact X.fh
    · exact X.high n h1
  · rw [← hns]
    have hne := X.ne
    have nf : ∀ n ∈ A ++ B, n.b ≠ f.b := fun n hn e => by have := (X.fa n hn).2; omega
    rw [List.pairwise_append] at hne ⊢
    refine ⟨hne.1, List.pairwise_cons.2 ⟨fun n hn => (nf n (List.mem_append_right _ (List.mem_of_mem_drop hn))).symm, hne.2.1.sublist (List.drop_sublist _ _)⟩, fun a ha b hb => ?_⟩
    rcases List.mem_cons.1 hb with rfl | hb
    · exact nf a (List.mem_append_left _ ha)
    · exact hne.2.2 a ha b (List.mem_of_mem_drop hb)
  · rcases mem n hn with rfl | h1
    · have := X.fl_.2; omega
    · exact X.nl n h1
end
theorem NodeAt.height {w : World} {n : Nd} {nx : Nat → Option Nd} (h : NodeAt w n nx) (h' : Nat) : NodeAt (w.setCell ⟨n.b, 5, none⟩ (.int .i64 h')) ⟨n.b, n.c, h'⟩ nx := by
  have k : ∀ j, j ≠ 5 → (w.setCell ⟨n.b, 5, none⟩ (.int .i64 h')).cell? ⟨n.b, j, none⟩ = w.cell? ⟨n.b, j, none⟩ := fun j hj => World.cell?_setCell_other _ _ _ _ (fun e => hj (by have := congrArg Addr.off e; simpa using this.symm))
  exact ⟨⟨(k _ (by omega)).trans h.cell.c0, (k _ (by omega)).trans h.cell.c1, (k _ (by omega)).trans h.cell.c2, (k _ (by omega)).trans h.cell.c3, (k _ (by omega)).trans h.cell.c4⟩, World.cell?_setCell_same _ _ _ h.h, fun L hL => (k _ (by omega)).trans (h.t L hL), fun o => by rw [World.frozen?_setCell]; exact h.f o, ty_setCell h.ty _ _⟩
theorem alloc_last (w : World) (o : Obj) : (w.alloc o).heap[w.heap.size]? = some o := by
  show (w.heap.push o)[w.heap.size]? = some o
  simp
theorem node_new (w : World) (c : CellA) (h : Nat) (g : Nat) (hg : g = w.heap.size) : NodeAt (w.alloc (.cells #[.string c.row, .string c.col, .int .u64 c.ver, .bool c.gone, .string c.val, .int .i64 h, .pointer none, .pointer none, .pointer none, .pointer none, .pointer none, .pointer none, .pointer none, .pointer none, .pointer none, .pointer none, .pointer none, .pointer none] 72)) ⟨g, c, h⟩ (fun _ => none) := by
  subst hg
  refine ⟨⟨by go_simp, by go_simp, by go_simp, by go_simp, by go_simp⟩, by go_simp, fun L hL => ?_, fun o => by go_simp, ⟨_, _, alloc_last _ _⟩⟩
  obtain rfl | rfl | rfl | rfl | rfl | rfl | rfl | rfl | rfl | rfl | rfl | rfl : L = 0 ∨ L = 1 ∨ L = 2 ∨ L = 3 ∨ L = 4 ∨ L = 5 ∨ L = 6 ∨ L = 7 ∨ L = 8 ∨ L = 9 ∨ L = 10 ∨ L = 11 := (by omega)
  all_goals (go_simp; rfl)
theorem at_new (w : World) (T : TypeId) (l : List Nd) (fl : Nat → Nat) : ∀ L, L < 12 → (w.alloc (.cells #[ptrN l[fl 0]?, ptrN l[fl 1]?, ptrN l[fl 2]?, ptrN l[fl 3]?, ptrN l[fl 4]?, ptrN l[fl 5]?, ptrN l[fl 6]?, ptrN l[fl 7]?, ptrN l[fl 8]?, ptrN l[fl 9]?, ptrN l[fl 10]?, ptrN l[fl 11]?] T)).cell? ⟨w.heap.size, L, none⟩ = some (ptrN l[fl L]?) := by
  intro L hL
  obtain rfl | rfl | rfl | rfl | rfl | rfl | rfl | rfl | rfl | rfl | rfl | rfl : L = 0 ∨ L = 1 ∨ L = 2 ∨ L = 3 ∨ L = 4 ∨ L = 5 ∨ L = 6 ∨ L = 7 ∨ L = 8 ∨ L = 9 ∨ L = 10 ∨ L = 11 := (by omega)
  all_goals (go_simp; done)
theorem putW_start {w W : World} {lb ab k p : Nat} {hd f : Nd} {ns : List Nd} {fl : Nat → Nat} (hS : SkipAt w lb hd ns) (hk0 : 0 < k) (hk : k ≤ ns.length + 1) (hf : ∀ L, L < 12 → LastAtL (hd :: ns) k L (fl L)) (hb : Below w.heap.size w W)
    (hfb : w.heap.size ≤ f.b) (hab : w.heap.size ≤ ab) (hne : ab ≠ f.b) (hfh : 1 ≤ f.h ∧ f.h ≤ 12) (hdrop : p = 0 ∨ (p = 1 ∧ ∃ o, (hd :: ns)[k]? = some o ∧ o.h = f.h)) (hN : NodeAt W f (fun _ => none)) (hat : ∀ L, L < 12 → W.cell? ⟨ab, L, none⟩ = some (ptrN (hd :: ns)[fl L]?)) :
    PutX ((hd :: ns).take k) ((hd :: ns).drop k) f p fl lb ab (SkipF lb hd ns) w ∧ PutW ((hd :: ns).take k) ((hd :: ns).drop k) f p fl lb ab ns.length (SkipF lb hd ns) w W 0 := by
  have hSW := hS.below hb
  have hkl : ((hd :: ns).take k).length = k := by rw [List.length_take]; simp; omega
  have htd : (hd :: ns).take k ++ (hd :: ns).drop k = hd :: ns := List.take_append_drop _ _
  have hget : ∀ i, i < k → ((hd :: ns).take k)[i]? = (hd :: ns)[i]? := fun i hi => by rw [List.getElem?_take, if_pos hi]
  refine ⟨⟨fun L hL => ?_, fun n hn => ?_, ⟨.inl rfl, hS.inb _ (.inl rfl)⟩, hfb, ⟨hab, hne⟩, by rw [htd]; exact hS.ne, fun n hn => hS.nl n (by rwa [htd] at hn), fun n hn => hS.high n (by rwa [htd] at hn), hfh, ?_⟩,
    ⟨fun i n hn => ?_, fun i n hn => ?_, ⟨_, fun L hL => by omega, fun L hL => rfl, hN⟩, fun L hL => ?_, ⟨hd, ?_, hSW.l0⟩, hSW.l1, hSW.lf, Kept.of_below hb⟩⟩
  · have h := hf L hL
    rw [hkl]
    exact ⟨h.lt, fun n hn => h.high n (by rwa [hget _ h.lt] at hn), fun j n h1 h2 hn => h.low j n h1 h2 (by rwa [hget _ h2] at hn)⟩
  · rw [htd] at hn
    exact ⟨.inr ⟨n, hn, rfl⟩, hS.inb _ (.inr ⟨n, hn, rfl⟩)⟩
  · rcases hdrop with h | ⟨h, o, ho, hoh⟩
    · exact .inl h
    · exact .inr ⟨h, o, by rw [List.getElem?_drop]; exact ho, hoh⟩
  · have hi := (List.getElem?_eq_some_iff.1 hn).1
    rw [hkl] at hi
    rw [hget i hi] at hn
    refine (hSW.tow i n hn).congr fun L hL => ?_
    rw [if_neg (by omega), htd]
  · rw [List.getElem?_drop] at hn
    refine (hSW.tow (k + i) n hn).congr fun L hL => ?_
    rw [List.drop_drop, show k + (i + 1) = k + i + 1 by omega]
  · rw [hget _ (hf L hL).lt]
    exact hat L hL
  · rw [hget 0 hk0]; rfl
theorem PutW.count {A B : List Nd} {f : Nd} {p : Nat} {fl : Nat → Nat} {lb ab : Nat} {cnt : Int} {F : Nat → Prop} {w wr : World} {lv : Nat} (X : PutX A B f p fl lb ab F w) (h : PutW A B f p fl lb ab cnt F w wr lv) (cnt' : Int) :
    PutW A B f p fl lb ab cnt' F w (wr.setCell ⟨lb, 1, none⟩ (.int .i64 cnt')) lv := by
  obtain ⟨g, g1, g2, g3⟩ := h.f
  obtain ⟨hd, d1, d2⟩ := h.l0
  have hlb := X.fl_.2
  have hf := X.fresh
  have hab := X.abn.1
  refine ⟨fun i n hn => (h.a i n hn).other (X.nl n (List.mem_append_left _ (List.mem_of_getElem? hn))) _, fun i n hn => (h.b i n hn).other (X.nl n (List.mem_append_right _ (List.mem_of_getElem? hn))) _, ⟨g, g1, g2, g3.other (by omega) _⟩,
    fun L hL => (World.cell?_setCell_other _ _ _ _ (fun e => by have := congrArg Addr.block e; simp only at this; omega)).trans (h.at_ L hL), ⟨hd, d1, (World.cell?_setCell_other _ _ _ _ (fun e => by have := congrArg Addr.off e; simp at this)).trans d2⟩, World.cell?_setCell_same _ _ _ h.l1, fun o => by rw [World.frozen?_setCell]; exact h.lf o, h.kept.setCell (.inl X.fl_.1) _⟩
theorem take_drop_cons {hd f : Nd} {ns : List Nd} {k p : Nat} (hk : 0 < k) : (hd :: ns).take k ++ f :: ((hd :: ns).drop k).drop p = hd :: (ns.take (k - 1) ++ f :: ns.drop (k - 1 + p)) := by
  obtain ⟨j, rfl⟩ : ∃ j, k = j + 1 := ⟨k - 1, by omega⟩
  simp [List.drop_drop]
end Go.Proofs.Ytlnfdejflpgleaa
