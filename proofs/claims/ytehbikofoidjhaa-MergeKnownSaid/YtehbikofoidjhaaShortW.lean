/-
  Lists of lists of cells; the walk of acreagelaw12.short.
-/
import Derived.Test.YtehbikofoidjhaaWorks12W
import Derived.Test.YtehbikofoidjhaaRise12W
namespace Go.Proofs.Ytehbikofoidjhaa
open Go.RowKit

/-- a list as it lies in a list of lists -/
structure LI where
  ao : Option Addr
  n : Nat
  cap : Nat
  cs : List CellA
def LI.v (s : LI) : Value := .slice s.ao s.n s.cap
def LI.e (s : LI) : List Value := [s.v]
def LI.Ok (w : World) (s : LI) : Prop := Cells w s.ao s.n s.cap s.cs
theorem liE_elems (es : List LI) : Elems 1 (es.map LI.e) := fun e he => by
  obtain ⟨r, _, rfl⟩ := List.mem_map.1 he
  refine ⟨rfl, fun u hu => ?_⟩
  simp only [LI.e, List.mem_cons, List.not_mem_nil, or_false] at hu
  subst hu
  rfl
/-- a list of lists -/
structure LLs (w : World) (ao : Option Addr) (n cap : Nat) (es : List LI) : Prop where
  arr : Arr w 1 ao n cap (es.map LI.e)
  ok : ∀ s ∈ es, s.Ok w
theorem LLs.below {w w' : World} {ao : Option Addr} {n cap : Nat} {es : List LI} (h : LLs w ao n cap es) (hb : Below w.heap.size w w') : LLs w' ao n cap es := ⟨Arr.below h.arr hb, fun s hs => Arr.below (h.ok s hs) hb⟩
theorem LLs.len {w : World} {ao : Option Addr} {n cap : Nat} {es : List LI} (h : LLs w ao n cap es) : es.length = n := by have := Arr.len h.arr; rwa [List.length_map] at this
theorem LLs.at_ {w : World} {ao : Option Addr} {n cap : Nat} {es : List LI} (h : LLs w ao n cap es) {i : Nat} {s : LI} (hs : es[i]? = some s) :
    ∃ b off, ao = some ⟨b, off, none⟩ ∧ b < w.heap.size ∧ w.cell? ⟨b, off + i, none⟩ = some (.slice s.ao s.n s.cap) := by
  obtain ⟨b, off, e, hb, hj⟩ := Arr.at_ h.arr (i := i) (e := s.e) (by simp [hs])
  exact ⟨b, off, e, hb, by have := hj 0 s.v rfl; simpa [LI.v] using this⟩
theorem Try.info_list : (Try.prog.info? 29).map (fun i => (i.zero, i.size, i.bytes)) = some (some (.slice none 0 0), 1, 24) := by kernel_rfl
/-- one element as a new slice -/
theorem arr_v1 (w : World) (T : TypeId) (u : Value) (hu : u.oneCell' = true) (g : Nat) (hg : w.heap.size = g) : Arr (w.alloc (.cells #[u] T)) 1 (some ⟨g, 0, none⟩) 1 1 [[u]] := by
  subst hg
  refine ⟨fun e he => ?_, rfl, Nat.le_refl _, by unfold maxLen; omega, fun _ => ⟨w.heap.size, 0, rfl, by rw [World.size_alloc]; omega, fun i e he j v hv => ?_⟩⟩
  · simp only [List.mem_cons, List.not_mem_nil, or_false] at he
    subst he
    exact ⟨rfl, fun v hv => by simp only [List.mem_cons, List.not_mem_nil, or_false] at hv; subst hv; exact hu⟩
  · have hi : i = 0 := by
      have := (List.getElem?_eq_some_iff.1 he).1
      simp at this; exact this
    subst hi
    simp only [List.getElem?_cons_zero, Option.some.injEq] at he
    subst he
    have hj : j = 0 := by
      have := (List.getElem?_eq_some_iff.1 hv).1
      simp at this; exact this
    subst hj
    simp only [List.getElem?_cons_zero, Option.some.injEq] at hv
    subst hv
    simp [World.cell?_alloc_new]
/-- a list cut to a hundred cells -/
def LI.cut (s : LI) : LI := ⟨s.ao, min s.n 100, s.cap, s.cs.take 100⟩
theorem LI.cut_ok {w : World} {s : LI} (h : s.Ok w) : s.cut.Ok w := by
  have hl := Cells.len h
  have := Cells.short h (Nat.min_le_left s.n 100)
  unfold LI.Ok LI.cut
  simp only
  rcases Nat.le_total s.n 100 with h1 | h1
  · rw [Nat.min_eq_left h1] at this ⊢
    rw [List.take_of_length_le (by omega)] at this
    rw [List.take_of_length_le (by omega)]
    exact this
  · rw [Nat.min_eq_right h1] at this ⊢
    exact this
/-- lists that a function has gathered -/
def OwnL (w : World) (B : Nat) (v : Value) (es : List LI) : Prop := Row w B 29 1 v es.length (es.map LI.e).flatten
theorem ownL_push {w : World} {B : Nat} {v : Value} {l l' : List LI} {x : LI} {fs : List (List Value)} (e : l' = l ++ [x]) (hf : fs = [[x.v]]) (h : Row w B 29 1 v (l.length + 1) ((l.map LI.e).flatten ++ fs.flatten)) : OwnL w B v l' := by
  subst e hf
  unfold OwnL
  rw [List.length_append, List.map_append, List.flatten_append]
  exact h

set_option maxRecDepth 100000 in
set_option maxHeartbeats 4000000 in
theorem short_any (ao : Option Addr) (n cap : Nat) (es : List LI) (w : World) (h : LLs w ao n cap es) :
    Calls Try.prog 9 #[.slice ao n cap] w fun e w' => ∃ v, e = .returned v ∧ OwnL w' w.heap.size v ((es.take 8).map LI.cut) ∧ Below w.heap.size w w' := by
  obtain ⟨i0, hi, hz0, hz1, hz2⟩ := info_parts Try.info_list
  have Hi := Lib.hid hi
  have hf2 := Arr.fits h.arr
  have hm2 := Arr.max h.arr
  unfold maxLen at hm2
  have Hm := Lib.hid h.len
  have H := Lib.hid h
  clear h hi
  go_enter Try.func9, Try.ntmps9
  go_wp2
  go_loopw [3, 4] (fun v i wr => ∃ k : Nat, k ≤ n ∧ k ≤ 8 ∧ i = .int .i64 k ∧ Hid (OwnL wr w.heap.size v ((es.take k).map LI.cut)) ∧ Below w.heap.size w wr) (fun _ i _ => n - (intOf i).toNat)
  case atStart => exact ⟨0, by omega, by omega, rfl, Lib.hid (Row.nil _ _ _ _), Below.refl _ _⟩
  case round =>
    obtain ⟨k, hk, hk8, rfl, hO, hB0⟩ := hrel
    have hzr := hB0.size
    by_cases hlt : k < n
    · by_cases hlt8 : k < 8
      · obtain ⟨s, hs⟩ : ∃ s, es[k]? = some s := ⟨_, List.getElem?_eq_getElem (by rw [Hm.out]; omega)⟩
        obtain ⟨b, off, rfl, hb, x0⟩ := LLs.at_ H.out hs
        obtain ⟨k0, k0f⟩ := keep_below hB0 b hb
        have hsn := Arr.fits (H.out.ok s (List.mem_of_getElem? hs))
        have hsm := Arr.max (H.out.ok s (List.mem_of_getElem? hs))
        unfold maxLen at hsm
        have Hst : Hid ((es.take (k + 1)).map LI.cut = (es.take k).map LI.cut ++ [s.cut]) := Lib.hid (by rw [List.take_add_one, hs, List.map_append]; rfl)
        have Hln : Hid (((es.take k).map LI.cut).length ≤ 8) := Lib.hid (by rw [List.length_map, List.length_take]; omega)
        clear hs
        obtain ⟨M, hM⟩ : ∃ M : Nat, M = min s.n 100 := ⟨_, rfl⟩
        have hmin : (if (100 : Int) < (s.n : Int) then (100 : Int) else (s.n : Int)) = (M : Int) := by split <;> omega
        have hMn : M ≤ s.n := by omega
        have Hcut : Hid (s.cut = ⟨s.ao, M, s.cap, s.cs.take 100⟩) := Lib.hid (by rw [hM]; rfl)
        obtain ⟨sao, sn, scap, scs⟩ := s
        simp only at x0 hsn hsm hmin hMn Hcut
        clear hM
        go_wp2
        refine wp_region_below_mix 1 12 (by kernel_rfl) (by kernel_rfl) (fun hkept => ?_)
        obtain ⟨r0, rf0⟩ := hkept (b) (by go_size); clear hkept
        simp only [List.take_succ_cons, List.take_zero, List.drop_succ_cons, List.drop_zero]
        refine wpPure_move _ rfl rfl (fun K' hK' => ?_); go_simp; refine hK' _ ?_; clear hK' K'
        refine wpPure_nil ?_
        repeat (any_goals (first | go_big_quiet_step (fail) | quiet_step (fail) | (refine wpQuiet_step (fun K hK => ?_); go_simp; split <;> (refine hK _ ?_; clear hK K))))
        all_goals (refine wpQuiet_nil ?_; intro w5 hb; obtain ⟨hB, hS, hk⟩ := after (B := wr.heap.size) (w := wr) (by go_grown) (by go_size) hb; obtain ⟨c0, f0, z0⟩ := hk (b) (by go_size); clear hk hb r0 rf0)
        have hO5 := Lib.hid (Row.below hO.out hB)
        have hB5 := hB0.trans (hB.mono hzr)
        go_wp2_with (at_builtin; refine wpList_append_arr _ rfl _ _ 22 rfl w.heap.size 29 i0 _ 1 24 Try.underlying22 Hi.out hz0 hz1 hz2 rfl (by decide) u3 _ _ rfl (Row.alloc hO5.out _) rfl (arr_v1 w5 _ (.slice sao M scap) rfl _ rfl) (by have := Hln.out; omega) (by have := Hln.out; unfold maxLen; omega) (by rw [World.size_alloc]; omega) ?_; intro v1 w6 hr6 hb6 hg6; have HR6 := Lib.hid hr6; have hB6 := hB5.trans (((Below.refl _ _).alloc hB5.size _).trans hb6); clear hr6 hb6 hg6)
        refine NoPanic.normal ?_
        go_wp2
        exact ⟨⟨k + 1, by omega, by omega, by go_num, Lib.hid (ownL_push Hst.out (by rw [Hcut.out]; rfl) HR6.out), hB6⟩, by simp [intOf]; omega⟩
      · obtain rfl : k = 8 := by omega
        go_wp2
        go_returns
        exact ⟨_, rfl, hO.out, hB0⟩
    · obtain rfl : k = n := by omega
      have hall : es.take k = es.take 8 := by
        rw [List.take_of_length_le (by rw [Hm.out]; omega), List.take_of_length_le (by rw [Hm.out]; omega)]
      rw [hall] at hO
      clear hall
      go_wp2
      go_returns
      exact ⟨_, rfl, hO.out, hB0⟩
end Go.Proofs.Ytehbikofoidjhaa
