/-
  Rows as one (package merge): heads together; the loop that goes on with those that were told.
-/
import Derived.Test.YtehbikofoidjhaaHeadsW
namespace Go.Proofs.Ytehbikofoidjhaa
open Go.RowKit

/-- the loops of a function's code, in the text's order -/
def loopsOf : Code → List Code
  | .loop c => [c]
  | .seq a b => loopsOf a ++ loopsOf b
  | .block _ c => loopsOf c
  | .scope c => loopsOf c
  | .cond _ a b => loopsOf a ++ loopsOf b
  | _ => []

/-- a head, its row, what is left of it, its own blocks -/
structure HI where
  f : FuncId
  caps : Array Value
  St : List CellA → (Nat → Prop) → World → Prop
  ok : RowOf f caps St
  b : Nat
  x : CellA
  rest : List CellA
  F : Nat → Prop
  d : Bool
def HI.foot (h : HI) (k : Nat) : Prop := k = h.b ∨ h.F k
def HI.ptr (h : HI) : List Value := [.pointer (some ⟨h.b, 0, none⟩)]
structure HI.At (h : HI) (w : World) : Prop where
  head : HeadAt w h.b h.x h.f h.caps h.d
  st : h.St h.rest h.F w
  out : ¬ h.F h.b
theorem HI.At.lt {h : HI} {w : World} (a : h.At w) : ∀ k, h.foot k → k < w.heap.size := fun k hk => by
  rcases hk with rfl | hk
  · exact a.head.lt
  · exact h.ok.inb a.st k hk
theorem HI.At.keep {h : HI} {w w' : World} (a : h.At w) (hs : w.heap.size ≤ w'.heap.size) (hb : ∀ k, h.foot k → w'.heap[k]? = w.heap[k]?) : h.At w' :=
  ⟨a.head.same (hb _ (.inl rfl)), h.ok.keep a.st hs (fun k hk => hb k (.inr hk)), a.out⟩

/-- heads, apart from one another -/
structure Heads (hs : List HI) (w : World) : Prop where
  at_ : ∀ (i : Nat) (h : HI), hs[i]? = some h → h.At w
  apart : ∀ (i j : Nat) (a b : HI), i ≠ j → hs[i]? = some a → hs[j]? = some b → ∀ k, a.foot k → ¬ b.foot k
theorem Heads.keep {hs : List HI} {w w' : World} (h : Heads hs w) (hsz : w.heap.size ≤ w'.heap.size) (hb : ∀ (i : Nat) (a : HI), hs[i]? = some a → ∀ k, a.foot k → w'.heap[k]? = w.heap[k]?) : Heads hs w' :=
  ⟨fun i a ha => (h.at_ i a ha).keep hsz (hb i a ha), h.apart⟩
theorem Heads.below {hs : List HI} {w w' : World} (h : Heads hs w) (hb : Below w.heap.size w w') : Heads hs w' :=
  h.keep hb.size (fun i a ha k hk => hb.block k ((h.at_ i a ha).lt k hk))

/-- where a head stands behind a call that told c -/
def HI.adv (h : HI) (c : CellA) (F' : Nat → Prop) : HI :=
  if cmpC h.x c = 0 then (match dropUp h.x h.rest with
    | [] => { h with rest := [], F := F', d := true }
    | y :: r => { h with x := y, rest := r, F := F' }) else h
theorem HI.adv_b (h : HI) (c : CellA) (F' : Nat → Prop) : (h.adv c F').b = h.b := by
  unfold HI.adv
  split
  · split <;> rfl
  · rfl
/-- one head is advanced, the others stand -/
theorem Heads.advance {hs : List HI} {w w' : World} (h : Heads hs w) {i : Nat} {a : HI} (ha : hs[i]? = some a) (hd : a.d = false) {c : CellA} (hc : cmpC a.x c = 0) (hp : AdvPost a.f a.caps a.St a.b a.x a.rest a.F w w') :
    ∃ F', Heads (hs.set i (a.adv c F')) w' ∧ (∀ k, (a.adv c F').foot k → a.foot k ∨ w.heap.size ≤ k) ∧ Kept a.foot w w' := by
  obtain ⟨⟨F', hS, hF⟩, hK, hnone, hsome⟩ := hp
  have hA := h.at_ i a ha
  have hlt := hA.lt
  have hi := (List.getElem?_eq_some_iff.1 ha).1
  have hfoot : ∀ k, (a.adv c F').foot k → a.foot k ∨ w.heap.size ≤ k := by
    intro k hk
    rcases hk with hk | hk
    · rw [HI.adv_b] at hk; exact .inl (.inl hk)
    · have : F' k := by
        unfold HI.adv at hk
        rw [if_pos hc] at hk
        split at hk <;> exact hk
      rcases hF k this with h1 | h1
      · exact .inl (.inr h1)
      · exact .inr h1
  refine ⟨F', ⟨fun j b hb => ?_, fun j l b e hjl hb he k hk => ?_⟩, hfoot, hK⟩
  · rw [List.getElem?_set] at hb
    split at hb
    · rename_i hij
      subst hij
      cases hb
      unfold HI.adv
      rw [if_pos hc]
      have hout : ¬ F' a.b := fun hf => by
        rcases hF _ hf with h1 | h1
        · exact hA.out h1
        · have := hlt a.b (.inl rfl); omega
      cases hdu : dropUp a.x a.rest with
      | nil => rw [hdu] at hS; exact ⟨hnone hdu, hS, hout⟩
      | cons y r => rw [hdu] at hS; simp only; exact ⟨by rw [hd]; exact hsome y r hdu, hS, hout⟩
    · rename_i hij
      exact (h.at_ j b hb).keep hK.size (fun k hk => hK.block k ((h.at_ j b hb).lt k hk) (fun hf => h.apart i j a b hij ha hb k hf hk))
  · rw [List.getElem?_set] at hb he
    split at hb
    · rename_i hij
      subst hij
      cases hb
      rw [if_neg hjl] at he
      intro hk2
      rcases hfoot k hk with h1 | h1
      · exact h.apart i l a e hjl ha he k h1 hk2
      · have := (h.at_ l e he).lt k hk2; omega
    · rename_i hij
      split at he
      · rename_i hil
        subst hil
        cases he
        intro hk2
        rcases hfoot k hk2 with h1 | h1
        · exact h.apart i j a b hij ha hb k h1 hk
        · have := (h.at_ j b hb).lt k hk; omega
      · exact h.apart j l b e hjl hb he k hk

/-- the first k heads were gone on with -/
structure Gone (c : CellA) (hs hs' : List HI) (k : Nat) (w wr : World) : Prop where
  len : hs'.length = hs.length
  fst : ∀ (i : Nat) (a : HI), i < k → hs[i]? = some a → ∃ F', hs'[i]? = some (a.adv c F')
  snd : ∀ i : Nat, k ≤ i → hs'[i]? = hs[i]?
  heads : Heads hs' wr
  foot : ∀ (i : Nat) (a : HI), hs'[i]? = some a → ∀ j, a.foot j → (∃ b : HI, hs[i]? = some b ∧ b.foot j) ∨ w.heap.size ≤ j
  kept : Kept (fun j => ∃ (i : Nat) (a : HI), hs[i]? = some a ∧ a.foot j) w wr
theorem Gone.zero {c : CellA} {hs : List HI} {w : World} (h : Heads hs w) : Gone c hs hs 0 w w :=
  ⟨rfl, fun i a hi => by omega, fun i _ => rfl, h, fun i a ha j hj => .inl ⟨a, ha, hj⟩, Kept.refl _ _⟩
theorem Gone.below {c : CellA} {hs hs' : List HI} {k : Nat} {w wr w' : World} (h : Gone c hs hs' k w wr) (hb : Below wr.heap.size wr w') : Gone c hs hs' k w w' :=
  ⟨h.len, h.fst, h.snd, h.heads.below hb, h.foot, h.kept.trans (F' := fun _ => False) (Kept.of_below hb) (fun _ h => h.elim)⟩
theorem Gone.skip {c : CellA} {hs hs' : List HI} {k : Nat} {w wr : World} (h : Gone c hs hs' k w wr) {a : HI} (ha : hs[k]? = some a) (hc : cmpC a.x c ≠ 0) : Gone c hs hs' (k + 1) w wr := by
  refine ⟨h.len, fun i b hi hb => ?_, fun i hi => h.snd i (by omega), h.heads, h.foot, h.kept⟩
  by_cases hik : i = k
  · subst hik
    rw [ha] at hb; cases hb
    refine ⟨a.F, ?_⟩
    rw [h.snd i (Nat.le_refl _), ha]
    unfold HI.adv
    rw [if_neg hc]
  · exact h.fst i b (by omega) hb
theorem Gone.step {c : CellA} {hs hs' : List HI} {k : Nat} {w wr w' : World} (h : Gone c hs hs' k w wr) {a : HI} (ha : hs[k]? = some a) (hd : a.d = false) (hc : cmpC a.x c = 0) (hp : AdvPost a.f a.caps a.St a.b a.x a.rest a.F wr w') :
    ∃ hs2, Gone c hs hs2 (k + 1) w w' := by
  have ha' : hs'[k]? = some a := by rw [h.snd k (Nat.le_refl _)]; exact ha
  have hk := (List.getElem?_eq_some_iff.1 ha').1
  obtain ⟨F', h1, h2, h3⟩ := h.heads.advance ha' hd hc hp
  have hs := h.kept.size
  refine ⟨hs'.set k (a.adv c F'), by rw [List.length_set]; exact h.len, fun i b hi hb => ?_, fun i hi => ?_, h1, fun i b hb j hj => ?_, ?_⟩
  · rw [List.getElem?_set]
    split
    · rename_i hik
      subst hik
      rw [ha] at hb; cases hb
      exact ⟨F', rfl⟩
    · exact h.fst i b (by omega) hb
  · rw [List.getElem?_set, if_neg (by omega)]
    exact h.snd i (by omega)
  · rw [List.getElem?_set] at hb
    split at hb
    · rename_i hik
      subst hik
      cases hb
      rcases h2 j hj with h4 | h4
      · exact .inl ⟨a, ha, h4⟩
      · exact .inr (by omega)
    · exact h.foot i b hb j hj
  · exact h.kept.trans h3 (fun j hj => .inl ⟨k, a, ha, hj⟩)

noncomputable def allLoop2 : Code := (((Try.f31.body.map loopsOf).getD [])[1]?).getD .skip
theorem hptr_elems (hs : List HI) : Elems 1 (hs.map HI.ptr) := fun e he => by
  obtain ⟨r, _, rfl⟩ := List.mem_map.1 he
  exact ⟨rfl, fun u hu => by simp only [HI.ptr, List.mem_cons, List.not_mem_nil, or_false] at hu; subst hu; rfl⟩
theorem arr_hptr {w : World} {ao : Option Addr} {n cap : Nat} {hs : List HI} (h : Arr w 1 ao n cap (hs.map HI.ptr)) {i : Nat} {p : HI} (hp : hs[i]? = some p) :
    ∃ b off, ao = some ⟨b, off, none⟩ ∧ b < w.heap.size ∧ w.cell? ⟨b, off + i, none⟩ = some (.pointer (some ⟨p.b, 0, none⟩)) := by
  obtain ⟨b, off, e, hb, hj⟩ := Arr.at_ h (i := i) (e := HI.ptr p) (by simp [hp])
  exact ⟨b, off, e, hb, by have := hj 0 _ rfl; simpa using this⟩

set_option maxRecDepth 1000000 in
set_option maxHeartbeats 8000000 in
theorem all_loop2 {Q0 : Exit → Act → World → Prop} {W : World} {b4 n cap : Nat} {ao : Option Addr} {hs : List HI} {c : CellA}
    {u0 u1 u2 u3 u5 u6 u7 u8 u9 u10 u11 u12 u13 u14 u15 u16 u17 u18 u19 u20 u21 u22 u23 u24 u25 u26 u27 u28 u29 u30 u31 u32 u33 u34 u35 u36 u37 u38 u39 u40 u44 u45 u46 u47 u48 u49 u50 u51 u52 u53 u54 u55 u56 u57 u58 u59 u60 u61 u62 u63 u64 u65 u66 u67 u68 u69 u70 u71 u72 u73 u74 u75 u76 u77 u78 u79 u80 u81 u82 u83 u84 u85 u86 u87 u88 u89 u90 u91 : Value}
    (hA : Arr W 1 ao n cap (hs.map HI.ptr)) (hH : Heads hs W) (hd : ∀ (i : Nat) (h : HI), hs[i]? = some h → h.d = false) (hL : CellAt W b4 0 c)
    (ho4 : ∀ (i : Nat) (h : HI), hs[i]? = some h → ¬ h.foot b4) (hog : ∀ a, ao = some a → ∀ (i : Nat) (h : HI), hs[i]? = some h → ¬ h.foot a.block)
    (hexit : ∀ (v12 v44 v45 v46 v47 v48 v49 v50 v51 v52 v53 v54 v55 v56 : Value) (hs' : List HI) (wr : World), Gone c hs hs' n W wr → Q0 (.exit 2) ⟨(u0 :: u1 :: u2 :: u3 :: (.pointer (some ⟨b4, 0, none⟩)) :: u5 :: u6 :: u7 :: u8 :: u9 :: u10 :: u11 :: v12 :: u13 :: u14 :: u15 :: u16 :: u17 :: u18 :: u19 :: u20 :: u21 :: u22 :: u23 :: u24 :: u25 :: u26 :: u27 :: u28 :: u29 :: u30 :: u31 :: u32 :: u33 :: u34 :: u35 :: u36 :: u37 :: u38 :: u39 :: u40 :: (.slice ao n cap) :: (.int .i64 (n : Int)) :: (.int .i64 (n : Int)) :: v44 :: v45 :: v46 :: v47 :: v48 :: v49 :: v50 :: v51 :: v52 :: v53 :: v54 :: v55 :: v56 :: u57 :: u58 :: u59 :: u60 :: u61 :: u62 :: u63 :: u64 :: u65 :: u66 :: u67 :: u68 :: u69 :: u70 :: u71 :: u72 :: u73 :: u74 :: u75 :: u76 :: u77 :: u78 :: u79 :: u80 :: u81 :: u82 :: u83 :: u84 :: u85 :: u86 :: u87 :: u88 :: u89 :: u90 :: u91 :: []).toArray, []⟩ wr) :
    Code.wp Try.prog (Code.loop allLoop2) Q0 ⟨(u0 :: u1 :: u2 :: u3 :: (.pointer (some ⟨b4, 0, none⟩)) :: u5 :: u6 :: u7 :: u8 :: u9 :: u10 :: u11 :: u12 :: u13 :: u14 :: u15 :: u16 :: u17 :: u18 :: u19 :: u20 :: u21 :: u22 :: u23 :: u24 :: u25 :: u26 :: u27 :: u28 :: u29 :: u30 :: u31 :: u32 :: u33 :: u34 :: u35 :: u36 :: u37 :: u38 :: u39 :: u40 :: (.slice ao n cap) :: (.int .i64 (n : Int)) :: (.int .i64 0) :: u44 :: u45 :: u46 :: u47 :: u48 :: u49 :: u50 :: u51 :: u52 :: u53 :: u54 :: u55 :: u56 :: u57 :: u58 :: u59 :: u60 :: u61 :: u62 :: u63 :: u64 :: u65 :: u66 :: u67 :: u68 :: u69 :: u70 :: u71 :: u72 :: u73 :: u74 :: u75 :: u76 :: u77 :: u78 :: u79 :: u80 :: u81 :: u82 :: u83 :: u84 :: u85 :: u86 :: u87 :: u88 :: u89 :: u90 :: u91 :: []).toArray, []⟩ W := by
  have hl : hs.length = n := by have := hA.len; rwa [List.length_map] at this
  have hn1 := Arr.fits hA
  have hn2 := Arr.max hA
  unfold maxLen at hn2
  have HA := Lib.hid hA
  have HH := Lib.hid hH
  have Hd := Lib.hid hd
  have Ho4 := Lib.hid ho4
  have Hog := Lib.hid hog
  have Hl := Lib.hid hl
  obtain ⟨l0, l1, l2, l3, l4⟩ := hL
  have hl4 : b4 < W.heap.size := World.block_lt_of_cell? _ _ l0
  clear hA hH hd ho4 hog hl
  conv => arg 2; arg 1; whnf
  go_loopw [43] (fun i wr => ∃ (k : Nat) (hs' : List HI), k ≤ n ∧ i = .int .i64 k ∧ Hid (Gone c hs hs' k W wr)) (fun i _ => n - (intOf i).toNat)
  case atStart => exact ⟨0, hs, by omega, rfl, Lib.hid (Gone.zero HH.out)⟩
  case round =>
    obtain ⟨k, hs', hk, rfl, hG⟩ := hrel
    have hzr := hG.out.kept.size
    by_cases hlt : k < n
    · obtain ⟨h, hh⟩ : ∃ h, hs[k]? = some h := ⟨_, List.getElem?_eq_getElem (by rw [Hl.out]; omega)⟩
      have hh' : hs'[k]? = some h := by rw [hG.out.snd k (Nat.le_refl _)]; exact hh
      obtain ⟨g, off, rfl, hgl, x0⟩ := arr_hptr HA.out hh
      have hAt := hG.out.heads.at_ k h hh'
      have hd0 := Hd.out k h hh
      obtain ⟨h0, h1, h2, h3, h4, h5, h6, hf⟩ := hAt.head
      have hbl := hAt.head.lt
      have kg := hG.out.kept.block g hgl (fun ⟨i, a, ha, hf⟩ => Hog.out _ rfl i a ha hf)
      have kg0 := fun o => World.cell?_of_block (a := ⟨g, o, none⟩) kg
      have k4 := hG.out.kept.block b4 hl4 (fun ⟨i, a, ha, hf⟩ => Ho4.out i a ha hf)
      have k40 := fun o => World.cell?_of_block (a := ⟨b4, o, none⟩) k4
      have hgr : g < wr.heap.size := by omega
      have h4r : b4 < wr.heap.size := by omega
      have hcm := Lib.hid fun Z => cmp_any h.x c Z
      simp only [CellA.v] at hcm
      obtain ⟨k0, hk0⟩ : ∃ z, z = cmpC h.x c := ⟨_, rfl⟩
      rw [← hk0] at hcm
      have HK0 := Lib.hid hk0
      have HAt := Lib.hid hAt
      have Hh := Lib.hid hh
      have Hd0 := Lib.hid hd0
      clear hh hh' hAt kg k4 hk0 hd0 hexit
      by_cases hz : k0 = 0
      · subst hz
        go_wp2
        refine wp_region_below (by kernel_rfl) (by kernel_rfl) (fun hkept => ?_)
        obtain ⟨r0, rf0⟩ := hkept (h.b) (by go_size); obtain ⟨r1, rf1⟩ := hkept (b4) (by go_size); obtain ⟨r2, rf2⟩ := hkept (g) (by go_size); clear hkept
        repeat (any_goals (first | go_big_quiet_step (first | (go_at_call 32; exact Calls.regrown_of (hcm.out _))) | quiet_step (first | (go_at_call 32; exact Calls.regrown_of (hcm.out _))) | (refine wpQuiet_step (fun K hK => ?_); go_simp; split <;> (refine hK _ ?_; clear hK K))))
        all_goals (refine wpQuiet_nil ?_; intro w5 hb; obtain ⟨hB, hS, hk⟩ := after (B := wr.heap.size) (w := wr) (by go_grown) (by go_size) hb; obtain ⟨c0, f0, z0⟩ := hk (h.b) (by go_size); obtain ⟨c1, f1, z1⟩ := hk (b4) (by go_size); obtain ⟨c2, f2, z2⟩ := hk (g) (by go_size); clear hk hb r0 rf0 r1 rf1 r2 rf2)
        have hG5 := Lib.hid (hG.out.below hB)
        have hK := Lib.hid (advance_any h.f h.caps h.St h.ok h.b h.x h.rest h.F w5 (by have := HAt.out.head.same (hB.block _ hbl); rwa [Hd0.out] at this) (h.ok.keep HAt.out.st hB.size (fun b hb2 => hB.block b (h.ok.inb HAt.out.st b hb2))) HAt.out.out)
        go_wp2_with (go_at_call 33; refine hK.out.mono ?_; rintro e w6 ⟨rfl, hP⟩; obtain ⟨hs2, hG6⟩ := hG5.out.step Hh.out Hd0.out HK0.out.symm hP; have HG6 := Lib.hid hG6; clear hP hG6)
        exact ⟨⟨k + 1, hs2, by omega, by go_num, HG6⟩, by simp [intOf]; omega⟩
      · have hne : (k0 == 0) = false := by simpa using hz
        have hne2 : decide (k0 = 0) = false := by simpa using hz
        go_wp2
        refine wp_region_below (by kernel_rfl) (by kernel_rfl) (fun hkept => ?_)
        obtain ⟨r0, rf0⟩ := hkept (h.b) (by go_size); obtain ⟨r1, rf1⟩ := hkept (b4) (by go_size); obtain ⟨r2, rf2⟩ := hkept (g) (by go_size); clear hkept
        repeat (any_goals (first | go_big_quiet_step (first | (go_at_call 32; exact Calls.regrown_of (hcm.out _))) | quiet_step (first | (go_at_call 32; exact Calls.regrown_of (hcm.out _))) | (refine wpQuiet_step (fun K hK => ?_); go_simp; split <;> (refine hK _ ?_; clear hK K))))
        all_goals (refine wpQuiet_nil ?_; intro w5 hb; obtain ⟨hB, hS, hk⟩ := after (B := wr.heap.size) (w := wr) (by go_grown) (by go_size) hb; obtain ⟨c0, f0, z0⟩ := hk (h.b) (by go_size); obtain ⟨c1, f1, z1⟩ := hk (b4) (by go_size); obtain ⟨c2, f2, z2⟩ := hk (g) (by go_size); clear hk hb r0 rf0 r1 rf1 r2 rf2)
        have hG5 := Lib.hid ((hG.out.below hB).skip Hh.out (by rw [← HK0.out]; exact hz))
        go_wp2
        exact ⟨⟨k + 1, hs', by omega, by go_num, hG5⟩, by simp [intOf]; omega⟩
    · obtain rfl : k = n := by omega
      go_wp2
      exact hexit _ _ _ _ _ _ _ _ _ _ _ _ _ _ hs' wr hG.out

/-- the least head, the first of those that are alike -/
def leastH (h0 : HI) (tl : List HI) : HI := tl.foldl (fun b h => if cmpC h.x b.x < 0 then h else b) h0
theorem leastH_succ {h0 : HI} {tl : List HI} {k : Nat} {h : HI} (hh : tl[k]? = some h) : leastH h0 (tl.take (k + 1)) = if cmpC h.x (leastH h0 (tl.take k)).x < 0 then h else leastH h0 (tl.take k) := by
  unfold leastH
  rw [List.take_add_one, hh, List.foldl_append]
  rfl
theorem leastH_mem (h0 : HI) : ∀ tl, leastH h0 tl = h0 ∨ leastH h0 tl ∈ tl := by
  intro tl
  unfold leastH
  induction tl generalizing h0 with
  | nil => exact .inl rfl
  | cons h r ih =>
    rw [List.foldl_cons]
    by_cases hc : cmpC h.x h0.x < 0
    · rw [if_pos hc]
      rcases ih h with e | e
      · exact .inr (by rw [e]; simp)
      · exact .inr (List.mem_cons_of_mem _ e)
    · rw [if_neg hc]
      rcases ih h0 with e | e
      · exact .inl e
      · exact .inr (List.mem_cons_of_mem _ e)
noncomputable def allLoop3 : Code := (((Try.f31.body.map loopsOf).getD [])[2]?).getD .skip

set_option maxRecDepth 1000000 in
set_option maxHeartbeats 8000000 in
theorem all_loop3 {Q0 : Exit → Act → World → Prop} {W : World} {n cap : Nat} {ao : Option Addr} {h0 : HI} {tl : List HI}
    {u0 u1 u2 u3 u4 u5 u6 u7 u8 u9 u10 u11 u12 u14 u15 u16 u17 u18 u19 u20 u21 u22 u23 u24 u25 u26 u27 u28 u29 u30 u31 u32 u33 u34 u35 u36 u37 u38 u39 u40 u41 u42 u43 u44 u45 u46 u47 u48 u49 u50 u51 u52 u53 u54 u55 u56 u57 u58 u59 u60 u61 u62 u63 u64 u65 u66 u67 u68 u72 u73 u74 u75 u76 u77 u78 u79 u80 u81 u82 u83 u84 u85 u86 u87 u88 u89 u90 u91 : Value}
    (hA : Arr W 1 ao n cap (tl.map HI.ptr)) (hH : Heads (h0 :: tl) W)
    (hexit : ∀ (v15 v72 v73 v74 v75 v76 v77 v78 v79 v80 v81 v82 v83 v84 v85 v86 : Value) (wr : World), Below W.heap.size W wr → Q0 (.exit 4) ⟨(u0 :: u1 :: u2 :: u3 :: u4 :: u5 :: u6 :: u7 :: u8 :: u9 :: u10 :: u11 :: u12 :: (.pointer (some ⟨(leastH h0 tl).b, 0, none⟩)) :: u14 :: v15 :: u16 :: u17 :: u18 :: u19 :: u20 :: u21 :: u22 :: u23 :: u24 :: u25 :: u26 :: u27 :: u28 :: u29 :: u30 :: u31 :: u32 :: u33 :: u34 :: u35 :: u36 :: u37 :: u38 :: u39 :: u40 :: u41 :: u42 :: u43 :: u44 :: u45 :: u46 :: u47 :: u48 :: u49 :: u50 :: u51 :: u52 :: u53 :: u54 :: u55 :: u56 :: u57 :: u58 :: u59 :: u60 :: u61 :: u62 :: u63 :: u64 :: u65 :: u66 :: u67 :: u68 :: (.slice ao n cap) :: (.int .i64 (n : Int)) :: (.int .i64 (n : Int)) :: v72 :: v73 :: v74 :: v75 :: v76 :: v77 :: v78 :: v79 :: v80 :: v81 :: v82 :: v83 :: v84 :: v85 :: v86 :: u87 :: u88 :: u89 :: u90 :: u91 :: []).toArray, []⟩ wr) :
    Code.wp Try.prog (Code.loop allLoop3) Q0 ⟨(u0 :: u1 :: u2 :: u3 :: u4 :: u5 :: u6 :: u7 :: u8 :: u9 :: u10 :: u11 :: u12 :: (.pointer (some ⟨h0.b, 0, none⟩)) :: u14 :: u15 :: u16 :: u17 :: u18 :: u19 :: u20 :: u21 :: u22 :: u23 :: u24 :: u25 :: u26 :: u27 :: u28 :: u29 :: u30 :: u31 :: u32 :: u33 :: u34 :: u35 :: u36 :: u37 :: u38 :: u39 :: u40 :: u41 :: u42 :: u43 :: u44 :: u45 :: u46 :: u47 :: u48 :: u49 :: u50 :: u51 :: u52 :: u53 :: u54 :: u55 :: u56 :: u57 :: u58 :: u59 :: u60 :: u61 :: u62 :: u63 :: u64 :: u65 :: u66 :: u67 :: u68 :: (.slice ao n cap) :: (.int .i64 (n : Int)) :: (.int .i64 0) :: u72 :: u73 :: u74 :: u75 :: u76 :: u77 :: u78 :: u79 :: u80 :: u81 :: u82 :: u83 :: u84 :: u85 :: u86 :: u87 :: u88 :: u89 :: u90 :: u91 :: []).toArray, []⟩ W := by
  have hl : tl.length = n := by have := hA.len; rwa [List.length_map] at this
  have hn1 := Arr.fits hA
  have hn2 := Arr.max hA
  unfold maxLen at hn2
  have HA := Lib.hid hA
  have HH := Lib.hid hH
  have Hl := Lib.hid hl
  clear hA hH hl
  have Hat : Hid (∀ k, (leastH h0 (tl.take k)).At W) := Lib.hid fun k => by
    rcases leastH_mem h0 (tl.take k) with e | e
    · rw [e]; exact HH.out.at_ 0 h0 rfl
    · obtain ⟨i, hi⟩ := List.mem_iff_getElem?.1 (List.mem_of_mem_take e)
      exact HH.out.at_ (i + 1) _ (by simpa using hi)
  conv => arg 2; arg 1; whnf
  go_loopw [13, 71] (fun p i wr => ∃ k : Nat, k ≤ n ∧ i = .int .i64 k ∧ p = .pointer (some ⟨(leastH h0 (tl.take k)).b, 0, none⟩) ∧ Below W.heap.size W wr) (fun _ i _ => n - (intOf i).toNat)
  case atStart => exact ⟨0, by omega, rfl, rfl, Below.refl _ _⟩
  case round =>
    obtain ⟨k, hk, rfl, rfl, hB0⟩ := hrel
    have hzr := hB0.size
    by_cases hlt : k < n
    · obtain ⟨h, hh⟩ : ∃ h, tl[k]? = some h := ⟨_, List.getElem?_eq_getElem (by rw [Hl.out]; omega)⟩
      obtain ⟨g, off, rfl, hgl, x0⟩ := arr_hptr HA.out hh
      have hAt := HH.out.at_ (k + 1) h (by simpa using hh)
      have hAm := Hat.out k
      have hst := leastH_succ (h0 := h0) hh
      obtain ⟨m, hm⟩ : ∃ m, m = leastH h0 (tl.take k) := ⟨_, rfl⟩
      rw [← hm] at hAm hst ⊢
      obtain ⟨h0', h1, h2, h3, h4, h5, h6, hf⟩ := hAt.head.same (hB0.block _ hAt.head.lt)
      obtain ⟨m0, m1, m2, m3, m4, m5, m6, mf⟩ := hAm.head.same (hB0.block _ hAm.head.lt)
      have hbl := hAt.head.lt
      have mbl := hAm.head.lt
      have hbr : h.b < wr.heap.size := by omega
      have mbr : m.b < wr.heap.size := by omega
      have kg0 := fun o => hB0.cell (p := ⟨g, o, none⟩) hgl
      have hgr : g < wr.heap.size := by omega
      have hcm := Lib.hid fun Z => cmp_any h.x m.x Z
      simp only [CellA.v] at hcm
      obtain ⟨k0, hk0⟩ : ∃ z, z = cmpC h.x m.x := ⟨_, rfl⟩
      rw [← hk0] at hcm hst
      have Hst := Lib.hid hst
      clear hh hAt hAm hm hst hk0 hexit h5 h6 hf m5 m6 mf
      by_cases hz : k0 < 0
      · have hd1 : decide (k0 < 0) = true := by simpa using hz
        go_wp2
        refine wp_region_below (by kernel_rfl) (by kernel_rfl) (fun hkept => ?_)
        obtain ⟨r0, rf0⟩ := hkept (h.b) (by go_size); obtain ⟨r1, rf1⟩ := hkept (m.b) (by go_size); obtain ⟨r2, rf2⟩ := hkept (g) (by go_size); clear hkept
        repeat (any_goals (first | go_big_quiet_step (first | (go_at_call 32; exact Calls.regrown_of (hcm.out _))) | quiet_step (first | (go_at_call 32; exact Calls.regrown_of (hcm.out _))) | (refine wpQuiet_step (fun K hK => ?_); go_simp; split <;> (refine hK _ ?_; clear hK K))))
        all_goals (refine wpQuiet_nil ?_; intro w5 hb; obtain ⟨hB, hS, hk⟩ := after (B := wr.heap.size) (w := wr) (by go_grown) (by go_size) hb; obtain ⟨c0, f0, z0⟩ := hk (h.b) (by go_size); obtain ⟨c1, f1, z1⟩ := hk (m.b) (by go_size); obtain ⟨c2, f2, z2⟩ := hk (g) (by go_size); clear hk hb r0 rf0 r1 rf1 r2 rf2)
        go_wp2
        exact ⟨⟨k + 1, by omega, by go_num, by rw [Hst.out, if_pos hz], hB0.trans (hB.mono hzr)⟩, by simp [intOf]; omega⟩
      · have hd1 : decide (k0 < 0) = false := by simpa using hz
        go_wp2
        refine wp_region_below (by kernel_rfl) (by kernel_rfl) (fun hkept => ?_)
        obtain ⟨r0, rf0⟩ := hkept (h.b) (by go_size); obtain ⟨r1, rf1⟩ := hkept (m.b) (by go_size); obtain ⟨r2, rf2⟩ := hkept (g) (by go_size); clear hkept
        repeat (any_goals (first | go_big_quiet_step (first | (go_at_call 32; exact Calls.regrown_of (hcm.out _))) | quiet_step (first | (go_at_call 32; exact Calls.regrown_of (hcm.out _))) | (refine wpQuiet_step (fun K hK => ?_); go_simp; split <;> (refine hK _ ?_; clear hK K))))
        all_goals (refine wpQuiet_nil ?_; intro w5 hb; obtain ⟨hB, hS, hk⟩ := after (B := wr.heap.size) (w := wr) (by go_grown) (by go_size) hb; obtain ⟨c0, f0, z0⟩ := hk (h.b) (by go_size); obtain ⟨c1, f1, z1⟩ := hk (m.b) (by go_size); obtain ⟨c2, f2, z2⟩ := hk (g) (by go_size); clear hk hb r0 rf0 r1 rf1 r2 rf2)
        go_wp2
        exact ⟨⟨k + 1, by omega, by go_num, by rw [Hst.out, if_neg (by omega)], hB0.trans (hB.mono hzr)⟩, by simp [intOf]; omega⟩
    · obtain rfl : k = n := by omega
      have hall : tl.take k = tl := List.take_of_length_le (by rw [Hl.out]; exact Nat.le_refl _)
      rw [hall]
      go_wp2
      exact hB0
end Go.Proofs.Ytehbikofoidjhaa
