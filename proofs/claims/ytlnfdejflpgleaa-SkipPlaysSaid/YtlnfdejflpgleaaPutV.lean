/-
  Skip lists: what Put does, on plain lists; New; the whole contract of Put on cells that may be.
-/
import Derived.Test.YtlnfdejflpgleaaPutNW
import Derived.Test.YtlnfdejflpgleaaPutOW
namespace Go.Proofs.Ytlnfdejflpgleaa
open Go.RowKit

abbrev CH := CellA × Nat
def putV (c : CellA) (h : Nat) : List CH → List CH
  | [] => [(c, h)]
  | (x, hx) :: r => if cmpC x c < 0 then (x, hx) :: putV c h r else if cmpC x c = 0 then (c, hx) :: r else (c, h) :: (x, hx) :: r
def Nd.v (n : Nd) : CH := (n.c, n.h)
def Up (l : List CellA) : Prop := l.Pairwise fun a b => cmpC a b < 0
theorem putV_none {c : CellA} {h : Nat} : ∀ {l : List CH} {m : Nat}, (∀ x ∈ l.take m, cmpC x.1 c < 0) → l[m]? = none → putV c h l = l.take m ++ (c, h) :: l.drop m
  | [], m, _, _ => by simp [putV]
  | (x, hx) :: r, 0, _, h2 => by simp at h2
  | (x, hx) :: r, m + 1, h1, h2 => by
    rw [putV, if_pos (h1 (x, hx) (by simp)), putV_none (m := m) (fun y hy => h1 y (by simp [hy])) (by simpa using h2)]
    rfl
theorem putV_new {c : CellA} {h : Nat} : ∀ {l : List CH} {m : Nat} {y : CH}, (∀ x ∈ l.take m, cmpC x.1 c < 0) → l[m]? = some y → ¬ cmpC y.1 c < 0 → cmpC y.1 c ≠ 0 → putV c h l = l.take m ++ (c, h) :: l.drop m
  | [], m, y, _, h2, _, _ => by simp at h2
  | (x, hx) :: r, 0, y, _, h2, h3, h4 => by
    simp at h2
    subst h2
    rw [putV, if_neg h3, if_neg h4]
    rfl
  | (x, hx) :: r, m + 1, y, h1, h2, h3, h4 => by
    rw [putV, if_pos (h1 (x, hx) (by simp)), putV_new (m := m) (fun y hy => h1 y (by simp [hy])) (by simpa using h2) h3 h4]
    rfl
theorem putV_old {c : CellA} {h : Nat} : ∀ {l : List CH} {m : Nat} {y : CH}, (∀ x ∈ l.take m, cmpC x.1 c < 0) → l[m]? = some y → cmpC y.1 c = 0 → putV c h l = l.take m ++ (c, y.2) :: l.drop (m + 1)
  | [], m, y, _, h2, _ => by simp at h2
  | (x, hx) :: r, 0, y, _, h2, h3 => by
    simp at h2
    subst h2
    simp only at h3
    rw [putV, if_neg (by omega), if_pos h3]
    rfl
  | (x, hx) :: r, m + 1, y, h1, h2, h3 => by
    rw [putV, if_pos (h1 (x, hx) (by simp)), putV_old (m := m) (fun y hy => h1 y (by simp [hy])) (by simpa using h2) h3]
    rfl
theorem putV_mem {c : CellA} {h : Nat} : ∀ {l : List CH} {x : CH}, x ∈ putV c h l → x.1 = c ∨ x ∈ l
  | [], x, hx => by simp [putV] at hx; rw [hx]; exact .inl rfl
  | (y, hy) :: r, x, hx => by
    rw [putV] at hx
    split at hx
    · rcases List.mem_cons.1 hx with h1 | h1
      · exact .inr (by rw [h1]; simp)
      · rcases putV_mem h1 with h2 | h2
        · exact .inl h2
        · exact .inr (List.mem_cons_of_mem _ h2)
    · split at hx
      · rcases List.mem_cons.1 hx with h1 | h1
        · exact .inl (by rw [h1])
        · exact .inr (List.mem_cons_of_mem _ h1)
      · rcases List.mem_cons.1 hx with h1 | h1
        · exact .inl (by rw [h1])
        · exact .inr h1
theorem putV_len {c : CellA} {h : Nat} : ∀ {l : List CH}, (putV c h l).length ≤ l.length + 1
  | [] => by simp [putV]
  | (y, hy) :: r => by
    have := putV_len (c := c) (h := h) (l := r)
    rw [putV]
    split
    · simp; omega
    · split <;> simp
theorem putV_up {c : CellA} {h : Nat} : ∀ {l : List CH}, Up (l.map Prod.fst) → Up ((putV c h l).map Prod.fst)
  | [], _ => by simp [putV, Up]
  | (y, hy) :: r, hu => by
    have h1 := List.pairwise_cons.1 (show (y :: r.map Prod.fst).Pairwise _ from hu)
    rw [putV]
    split
    · rename_i hlt
      refine List.pairwise_cons.2 ⟨fun z hz => ?_, putV_up h1.2⟩
      obtain ⟨q, hq, rfl⟩ := List.mem_map.1 hz
      rcases putV_mem hq with h2 | h2
      · rw [h2]; exact hlt
      · exact h1.1 _ (List.mem_map_of_mem h2)
    · rename_i hn
      split
      · rename_i h0
        exact List.pairwise_cons.2 ⟨fun z hz => cmp_eq_lt (cmp_zero_flip.1 h0) (h1.1 z hz), h1.2⟩
      · rename_i h0
        have hcy : cmpC c y < 0 := by have := cmpC_neg y c; omega
        refine List.pairwise_cons.2 ⟨fun z hz => ?_, hu⟩
        rcases List.mem_cons.1 hz with h2 | h2
        · rw [h2]; exact hcy
        · exact cmp_lt_trans hcy (h1.1 z h2)
/-- the place at which a falling test turns -/
theorem cut_of {pr : CellA → Bool} (hd : Nd) : ∀ (ns : List Nd), (∀ (i j : Nat) a b, i < j → ns[i]? = some a → ns[j]? = some b → pr b.c = true → pr a.c = true) → ∃ k, CutAt pr (hd :: ns) k
  | [], _ => ⟨1, by decide, by simp, fun i n h1 h2 _ => by omega, fun i n h1 hn => by
    have := (List.getElem?_eq_some_iff.1 hn).1
    simp at this; omega⟩
  | x :: r, h => by
    cases hx : pr x.c with
    | false =>
      refine ⟨1, by decide, by simp, fun i n h1 h2 _ => by omega, fun i n h1 hn => ?_⟩
      obtain ⟨j, rfl⟩ : ∃ j, i = j + 1 := ⟨i - 1, by omega⟩
      rw [List.getElem?_cons_succ] at hn
      cases hp : pr n.c with
      | false => rfl
      | true =>
        cases j with
        | zero => simp at hn; rw [← hn, hx] at hp; cases hp
        | succ j => rw [h 0 (j + 1) x n (by omega) rfl hn hp] at hx; exact hx
    | true =>
      obtain ⟨k, hk⟩ := cut_of hd r (fun i j a b hij ha hb => h (i + 1) (j + 1) a b (by omega) (by simpa using ha) (by simpa using hb))
      have hp := hk.pos
      have hle := hk.le
      rw [List.length_cons] at hle
      refine ⟨k + 1, by omega, by simp; omega, fun i n h1 h2 hn => ?_, fun i n h1 hn => ?_⟩
      · obtain ⟨j, rfl⟩ : ∃ j, i = j + 1 := ⟨i - 1, by omega⟩
        rw [List.getElem?_cons_succ] at hn
        cases j with
        | zero => simp at hn; rw [← hn]; exact hx
        | succ j => exact hk.yes (j + 1) n (by omega) (by omega) (by simpa using hn)
      · obtain ⟨j, rfl⟩ : ∃ j, i = j + 2 := ⟨i - 2, by omega⟩
        exact hk.no (j + 1) n (by omega) (by simpa using hn)

theorem put_any (c : CellA) (hok : c.Ok) (hcl : cellL c = true) (h : Nat) (h1 : 1 ≤ h) (h12 : h ≤ 12) (lb : Nat) (hd : Nd) (ns : List Nd) (w : World) (hS : SkipAt w lb hd ns) (hu : Up (ns.map Nd.c)) (hn : ns.length < 1000000) :
    Calls Try.prog 12 #[.pointer (some ⟨lb, 0, none⟩), .agg #[.string c.row, .string c.col, .int .u64 c.ver, .bool c.gone, .string c.val], .int .i64 h] w fun e w' => e = .returned (.int .i64 0) ∧ ∃ ns', SkipAt w' lb hd ns' ∧ ns'.map Nd.v = putV c h (ns.map Nd.v) ∧ Kept (SkipF lb hd ns) w w' ∧ ∀ k, SkipF lb hd ns' k → SkipF lb hd ns k ∨ w.heap.size ≤ k := by
  obtain ⟨k, hC⟩ := cut_of (pr := fun x => decide (cmpC x c < 0)) hd ns (fun i j a b hij ha hb hp => by
    simp only [decide_eq_true_eq] at hp ⊢
    have := List.pairwise_iff_getElem.1 hu i j (by rw [List.length_map]; exact (List.getElem?_eq_some_iff.1 ha).1) (by rw [List.length_map]; exact (List.getElem?_eq_some_iff.1 hb).1) hij
    simp only [List.getElem_map] at this
    rw [(List.getElem?_eq_some_iff.1 ha).2, (List.getElem?_eq_some_iff.1 hb).2] at this
    exact cmp_lt_trans this hp)
  obtain ⟨m, rfl⟩ : ∃ m, k = m + 1 := ⟨k - 1, by have := hC.pos; omega⟩
  have hyes : ∀ x ∈ (ns.map Nd.v).take m, cmpC x.1 c < 0 := fun x hx => by
    rw [← List.map_take] at hx
    obtain ⟨n, hn, rfl⟩ := List.mem_map.1 hx
    obtain ⟨i, hi⟩ := List.mem_iff_getElem?.1 hn
    have hil := (List.getElem?_eq_some_iff.1 hi).1
    rw [List.length_take] at hil
    have := hC.yes (i + 1) n (by omega) (by omega) (by rw [List.getElem?_cons_succ]; rw [List.getElem?_take, if_pos (by omega)] at hi; exact hi)
    show cmpC n.c c < 0
    simpa using this
  have foot : ∀ (f : Nd) (p k : Nat), w.heap.size ≤ f.b → SkipF lb hd (ns.take m ++ f :: ns.drop p) k → SkipF lb hd ns k ∨ w.heap.size ≤ k := fun f p k hf hk => by
    rcases hk with h1 | ⟨n, h1, rfl⟩
    · exact .inl (.inl h1)
    · rw [List.mem_cons, List.mem_append, List.mem_cons] at h1
      rcases h1 with h1 | h1 | h1 | h1
      · exact .inl (.inr ⟨n, by rw [h1]; simp, rfl⟩)
      · exact .inl (.inr ⟨n, List.mem_cons_of_mem _ (List.mem_of_mem_take h1), rfl⟩)
      · rw [h1]; exact .inr hf
      · exact .inl (.inr ⟨n, List.mem_cons_of_mem _ (List.mem_of_mem_drop h1), rfl⟩)
  cases hx : (hd :: ns)[m + 1]? with
  | none =>
    refine (put_none c hok hcl h h1 h12 lb hd ns (m + 1) w hS hC hn hx).mono ?_
    rintro e w' ⟨he, b, hb, hS', hK⟩
    rw [Nat.add_sub_cancel] at hS'
    refine ⟨he, _, hS', ?_, hK, fun k hk => foot _ _ _ (by exact hb) hk⟩
    rw [putV_none hyes (by rw [List.getElem?_map]; rw [List.getElem?_cons_succ] at hx; rw [hx]; rfl), ← List.map_take, ← List.map_drop]
    simp [Nd.v]
  | some nx =>
    have hno := hC.no (m + 1) nx (Nat.le_refl _) hx
    simp only [decide_eq_false_iff_not] at hno
    have hxm : (ns.map Nd.v)[m]? = some nx.v := by rw [List.getElem?_map]; rw [List.getElem?_cons_succ] at hx; rw [hx]; rfl
    by_cases hz : cmpC nx.c c = 0
    · refine (put_old c hok hcl h h1 h12 lb hd ns (m + 1) w hS hC hn nx hx hz).mono ?_
      rintro e w' ⟨he, b, hb, hS', hK⟩
      rw [Nat.add_sub_cancel] at hS'
      refine ⟨he, _, hS', ?_, hK, fun k hk => foot _ _ _ (by exact hb) hk⟩
      rw [putV_old hyes hxm hz, ← List.map_take, ← List.map_drop]
      simp [Nd.v]
    · refine (put_new c hok hcl h h1 h12 lb hd ns (m + 1) w hS hC hn nx hx hz).mono ?_
      rintro e w' ⟨he, b, hb, hS', hK⟩
      rw [Nat.add_sub_cancel] at hS'
      refine ⟨he, _, hS', ?_, hK, fun k hk => foot _ _ _ (by exact hb) hk⟩
      rw [putV_new hyes hxm hno hz, ← List.map_take, ← List.map_drop]
      simp [Nd.v]

/-- New -/
def zeroA : CellA := ⟨⟨#[]⟩, ⟨#[]⟩, 0, false, ⟨#[]⟩⟩
set_option maxRecDepth 100000 in
theorem new_any (w : World) : Calls Try.prog 13 #[] w fun e w' => e = .returned (.pointer (some ⟨w.heap.size + 1, 0, none⟩)) ∧ SkipAt w' (w.heap.size + 1) ⟨w.heap.size, zeroA, 12⟩ [] ∧ Below w.heap.size w w' := by
  go_enter Try.func13, Try.ntmps13
  go_wp2
  go_ret
  refine ⟨rfl, ⟨by go_simp, by go_simp, fun o => by go_simp, fun i n hn => ?_, fun n hn => ?_, rfl, by simp, fun n hn => ?_⟩, by go_grown⟩
  · have hi : i = 0 := by have := (List.getElem?_eq_some_iff.1 hn).1; simp at this; omega
    subst hi
    simp at hn
    subst hn
    refine (NodeAt.congr (nx := fun _ => none) ?_ (fun L hL => by simp [towN, nxt])).same (Below.heap_alloc _ _ _ (by simp))
    exact node_new w zeroA 12 _ rfl
  · simp at hn; subst hn; exact ⟨Nat.le_of_ble_eq_true rfl, Nat.le_refl _⟩
  · simp at hn; subst hn; simp only; omega
end Go.Proofs.Ytlnfdejflpgleaa
