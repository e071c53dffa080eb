/-
  Places: the walks of ops.Members, meta.Check and the document's answers.
-/
import Derived.Test.YteibnignjghedaaKeysGapW
import Derived.Test.YteibnignjghedaaPlain
import Derived.Test.YteibnignjghedaaQuiet
import Derived.Test.YteibnignjghedaaSlice
namespace Go.Proofs.Yteibnignjghedaa
open Go.RowKit

/-! ### plain -/
def intE (i : Int) : List Value := [.int .i64 i]
theorem intE_elems (l : List Int) : Elems 1 (l.map intE) := fun e he => by
  obtain ⟨r, _, rfl⟩ := List.mem_map.1 he
  exact ⟨rfl, fun u hu => by simp only [intE, List.mem_singleton] at hu; rw [hu]; rfl⟩
def Ints (w : World) (ao : Option Addr) (n cap : Nat) (l : List Int) : Prop := Arr w 1 ao n cap (l.map intE)
theorem Ints.len {w : World} {ao : Option Addr} {n cap : Nat} {l : List Int} (h : Ints w ao n cap l) : l.length = n := by have := Arr.len h; rwa [List.length_map] at this
theorem Ints.below {w w' : World} {ao : Option Addr} {n cap : Nat} {l : List Int} (h : Ints w ao n cap l) (hb : Below w.heap.size w w') : Ints w' ao n cap l := Arr.below h hb
theorem Ints.at_ {w : World} {ao : Option Addr} {n cap : Nat} {l : List Int} (h : Ints w ao n cap l) {i : Nat} {x : Int} (hx : l[i]? = some x) : ∃ b off, ao = some ⟨b, off, none⟩ ∧ b < w.heap.size ∧ w.cell? ⟨b, off + i, none⟩ = some (.int .i64 x) := by
  obtain ⟨b, off, e, hb, hj⟩ := Arr.at_ h (i := i) (e := intE x) (by simp [hx])
  exact ⟨b, off, e, hb, by have := hj 0 _ rfl; simpa using this⟩

def nodeB (n : Int) : Bool := decide (0 ≤ n) && decide (n < 5)
def riseB (p : Option Int) (x : Int) : Bool := match p with | none => true | some y => decide (y < x)
def risesF : Option Int → List Int → Bool
  | _, [] => true
  | p, x :: r => nodeB x && riseB p x && risesF (some x) r
def membersL (l : List Int) : Bool := risesF none l && !l.isEmpty
def lastI (l : List Int) (k : Nat) : Option Int := if k = 0 then none else l[k - 1]?
def errM (b : Bool) : Int := if b then 0 else 2
theorem lastI_succ {l : List Int} {k : Nat} {x : Int} (h : l[k]? = some x) : lastI l (k + 1) = some x := by simp [lastI, h]
theorem rises_step {l : List Int} {k : Nat} {x : Int} (h : l[k]? = some x) : risesF (lastI l k) (l.drop k) = (nodeB x && riseB (lastI l k) x && risesF (lastI l (k + 1)) (l.drop (k + 1))) := by
  obtain ⟨hk, rfl⟩ := List.getElem?_eq_some_iff.1 h
  rw [List.drop_eq_getElem_cons hk, risesF, lastI_succ h]

/-! ### walks -/
theorem below_any (n m : Int) (w : World) : Calls Try.prog 59 #[.int .i64 n, .int .i64 m] w fun e w' => e = .returned (.bool (decide (0 ≤ n) && decide (n < m))) ∧ w = w' := by
  go_enter Try.func59, Try.ntmps59
  go_wp2
  all_goals (go_ret; exact ⟨ret_bool (by simp_all <;> omega), rfl⟩)
theorem okM_any (b : Bool) (w : World) : Calls Try.prog 60 #[.bool b] w fun e w' => e = .returned (.int .i64 (errM b)) ∧ w = w' := by
  cases b
  all_goals
    go_enter Try.func60, Try.ntmps60
    go_wp2
    go_ret
    exact ⟨rfl, rfl⟩
theorem rnode_any (n : Int) (w : World) : Calls Try.prog 64 #[.int .i64 n] w fun e w' => e = .returned (.bool (nodeB n)) ∧ w = w' := by
  go_enter Try.func64, Try.ntmps64
  go_wp2
  all_goals (go_ret; exact ⟨ret_bool (by simp_all [nodeB] <;> omega), rfl⟩)

set_option maxRecDepth 100000 in
set_option maxHeartbeats 4000000 in
theorem members_any (ao : Option Addr) (n cap : Nat) (l : List Int) (w : World) (h : Ints w ao n cap l) :
    Calls Try.prog 37 #[.slice ao n cap] w fun e w' => e = .returned (.int .i64 (errM (membersL l))) ∧ w = w' := by
  have hc1 := Arr.fits h
  have hc2 := Arr.max h
  unfold maxLen at hc2
  have Hl := Lib.hid h.len
  have H := Lib.hid h
  clear h
  obtain ⟨R, hR⟩ : ∃ R, R = membersL l := ⟨_, rfl⟩
  rw [← hR]
  have HR := Lib.hid hR
  clear hR
  go_enter Try.func37, Try.ntmps37
  go_wp2
  go_loopw [3, 8] (fun t i wr => ∃ (k : Nat) (q : Bool), k ≤ n ∧ i = .int .i64 k ∧ t = .bool q ∧ Hid ((q && risesF (lastI l k) (l.drop k)) = risesF none l) ∧ wr = w) (fun _ i _ => n - (intOf i).toNat)
  case atStart => exact ⟨0, true, by omega, rfl, rfl, Lib.hid (by simp [lastI]), rfl⟩
  case round =>
    obtain ⟨k, q, hk, rfl, rfl, hQ, rfl⟩ := hrel
    by_cases hlt : k < n
    · obtain ⟨x, hx⟩ : ∃ x, l[k]? = some x := ⟨_, List.getElem?_eq_getElem (by rw [Hl.out]; omega)⟩
      obtain ⟨b, off, rfl, hb, x0⟩ := H.out.at_ hx
      have hst := Lib.hid (rises_step hx)
      cases q
      · have hnx : Hid ((false && risesF (lastI l (k + 1)) (l.drop (k + 1))) = risesF none l) := Lib.hid (by have := hQ.out; simpa using this)
        clear hx
        go_wp2
        exact ⟨⟨k + 1, false, by omega, by go_num, rfl, hnx, trivial⟩, by simp [intOf]; omega⟩
      · have hbl := Lib.hid fun W => below_any x 5 W
        cases k with
        | zero =>
          have hnx : Hid (((decide (0 ≤ x) && decide (x < 5)) && risesF (lastI l (0 + 1)) (l.drop (0 + 1))) = risesF none l) := Lib.hid (by
            rw [← hQ.out, hst.out]; simp [riseB, lastI, nodeB])
          obtain ⟨nb, hnb⟩ : ∃ b, b = (decide (0 ≤ x) && decide (x < 5)) := ⟨_, rfl⟩
          rw [← hnb] at hnx hbl
          clear hx hnb
          simp only [Nat.add_zero] at x0
          cases nb
          all_goals
            go_wp2_with (go_at_call 59; refine (hbl.out _).mono ?_; rintro e w' ⟨rfl, rfl⟩)
            exact ⟨⟨1, _, by omega, by go_num, rfl, hnx, trivial⟩, by simp [intOf]; omega⟩
        | succ j =>
          obtain ⟨y, hy⟩ : ∃ y, l[j]? = some y := ⟨_, List.getElem?_eq_getElem (by rw [Hl.out]; omega)⟩
          obtain ⟨b', off', e', hb', y0⟩ := H.out.at_ hy
          cases e'
          have hnx : Hid (((decide (0 ≤ x) && decide (x < 5)) && decide (y < x) && risesF (lastI l (j + 1 + 1)) (l.drop (j + 1 + 1))) = risesF none l) := Lib.hid (by
            rw [← hQ.out, hst.out, lastI_succ hy]; simp [riseB, nodeB])
          obtain ⟨nb, hnb⟩ : ∃ b, b = (decide (0 ≤ x) && decide (x < 5)) := ⟨_, rfl⟩
          rw [← hnb] at hnx hbl
          have hj0 : ((j : Int) + 1 == 0) = false := by rw [beq_eq_false_iff_ne]; omega
          clear hx hnb hy hb'
          cases nb
          · go_wp2_with (go_at_call 59; refine (hbl.out _).mono ?_; rintro e w' ⟨rfl, rfl⟩)
            exact ⟨⟨j + 1 + 1, false, by omega, by go_num, rfl, Lib.hid (by have := hnx.out; simpa using this), trivial⟩, by simp [intOf]; omega⟩
          · by_cases hyx : y < x
            · have hd : decide (y < x) = true := by simpa using hyx
              rw [hd] at hnx
              go_wp2_with (go_at_call 59; refine (hbl.out _).mono ?_; rintro e w' ⟨rfl, rfl⟩)
              exact ⟨⟨j + 1 + 1, true, by omega, by go_num, rfl, Lib.hid (by have := hnx.out; simpa using this), trivial⟩, by simp [intOf]; omega⟩
            · have hd : decide (y < x) = false := by simpa using hyx
              rw [hd] at hnx
              go_wp2_with (go_at_call 59; refine (hbl.out _).mono ?_; rintro e w' ⟨rfl, rfl⟩)
              exact ⟨⟨j + 1 + 1, false, by omega, by go_num, rfl, Lib.hid (by have := hnx.out; simpa using this), trivial⟩, by simp [intOf]; omega⟩
    · obtain rfl : k = n := by omega
      have hfin : Hid (R = (q && decide (0 < k))) := Lib.hid (by
        have hq := hQ.out
        rw [List.drop_eq_nil_of_le (by rw [Hl.out]; exact Nat.le_refl _), risesF, Bool.and_true] at hq
        rw [HR.out, membersL, ← hq]
        congr 1
        cases l with
        | nil => have := Hl.out; simp at this; subst this; rfl
        | cons a r => have := Hl.out; simp at this; subst this; simp)
      have Hok := Lib.hid fun b W => okM_any b W
      rcases Nat.eq_zero_or_pos k with h0 | h0
      · subst h0
        cases q
        all_goals
          go_wp2_with (go_at_call 60; refine (Hok.out _ _).mono ?_; rintro e w' ⟨rfl, rfl⟩)
          go_returns
          exact ⟨by rw [hfin.out]; rfl, rfl⟩
      · have hd : decide (0 < k) = true := by simpa using h0
        rw [hd, Bool.and_true] at hfin
        cases q
        all_goals
          go_wp2_with (go_at_call 60; refine (Hok.out _ _).mono ?_; rintro e w' ⟨rfl, rfl⟩)
          go_returns
          exact ⟨by rw [hfin.out]; rfl, rfl⟩
end Go.Proofs.Yteibnignjghedaa
