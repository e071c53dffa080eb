/-
  Skip lists: Put refuses cells that may not be, and heights that are none.
-/
import Derived.Test.YtlnfdejflpgleaaSL
namespace Go.Proofs.Ytlnfdejflpgleaa
open Go.RowKit

set_option maxRecDepth 100000 in
set_option maxHeartbeats 2000000 in
theorem put_bad (c : CellA) (hok : c.Ok) (h : Int) (hb : cellL c = false ∨ h < 1 ∨ 12 < h) (lb : Nat) (l : List CH) (F : Nat → Prop) (w : World) (hS : SL lb l F w) :
    Calls Try.prog 12 #[.pointer (some ⟨lb, 0, none⟩), .agg #[.string c.row, .string c.col, .int .u64 c.ver, .bool c.gone, .string c.val], .int .i64 h] w fun e w' => e = .returned (.int .i64 2) ∧ Below w.heap.size w w' := by
  obtain ⟨hd, ns, q1, _, _⟩ := hS.ex
  have KN := Lib.hid fun (W : World) (h : Below w.heap.size w W) => snone_any lb hd ns W (q1.below h)
  have KC := Lib.hid fun (W : World) => cell_any c W hok
  simp only [CellA.v] at KC
  clear q1 hS
  cases hcl : cellL c with
  | false =>
    have he : errB (cellL c) = 2 := by rw [hcl]; rfl
    rw [hcl] at he
    rw [hcl, he] at KC
    clear hb he hcl
    go_enter Try.func12, Try.ntmps12
    go_wp2_with fail
    refine (KN.out _ (by go_grown)).mono ?_
    rintro e w' ⟨rfl, rfl⟩
    go_wp2_with fail
    refine (KC.out _).mono ?_
    rintro e w1 ⟨rfl, hb⟩
    obtain ⟨hB, hSz, hk⟩ := after (B := w.heap.size) (w := w) (by go_grown) (by go_size) hb
    clear hk hb
    go_wp2
    go_ret
    exact ⟨rfl, hB⟩
  | true =>
    have he : errB (cellL c) = 0 := by rw [hcl]; rfl
    rw [hcl] at he
    rw [hcl, he] at KC
    have hb2 : h < 1 ∨ (¬ h < 1 ∧ 12 < h) := by rw [hcl] at hb; rcases hb with h1 | h1; cases h1; omega
    clear hb he hcl
    rcases hb2 with h1 | ⟨h1, h2⟩
    · have t1 : decide (h < 1) = true := by simpa using h1
      go_enter Try.func12, Try.ntmps12
      go_wp2_with fail
      refine (KN.out _ (by go_grown)).mono ?_
      rintro e w' ⟨rfl, rfl⟩
      go_wp2_with fail
      refine (KC.out _).mono ?_
      rintro e w1 ⟨rfl, hb⟩
      obtain ⟨hB, hSz, hk⟩ := after (B := w.heap.size) (w := w) (by go_grown) (by go_size) hb
      clear hk hb
      go_wp2
      go_ret
      exact ⟨rfl, hB⟩
    · have t1 : decide (h < 1) = false := by simpa using h1
      have t2 : decide (12 < h) = true := by simpa using h2
      go_enter Try.func12, Try.ntmps12
      go_wp2_with fail
      refine (KN.out _ (by go_grown)).mono ?_
      rintro e w' ⟨rfl, rfl⟩
      go_wp2_with fail
      refine (KC.out _).mono ?_
      rintro e w1 ⟨rfl, hb⟩
      obtain ⟨hB, hSz, hk⟩ := after (B := w.heap.size) (w := w) (by go_grown) (by go_size) hb
      clear hk hb
      go_wp2
      go_ret
      exact ⟨rfl, hB⟩

/-- Put, whatever comes -/
def putX (c : CellA) (h : Int) (l : List CH) : List CH := if cellL c = true ∧ 1 ≤ h ∧ h ≤ 12 then putV c h.toNat l else l
def putE (c : CellA) (h : Int) : Int := if cellL c = true ∧ 1 ≤ h ∧ h ≤ 12 then 0 else 2
theorem putX_ok {c : CellA} {h : Int} {l : List CH} (hc : c.Ok) (hl : ∀ p ∈ l, p.1.Ok) : ∀ p ∈ putX c h l, p.1.Ok := by
  intro p hp
  unfold putX at hp
  split at hp
  · rcases putV_mem hp with e | e
    · rw [e]; exact hc
    · exact hl p e
  · exact hl p hp
theorem put_slx (c : CellA) (hok : c.Ok) (h : Int) (lb : Nat) (l : List CH) (F : Nat → Prop) (w : World) (hS : SL lb l F w) (hn : l.length < 1000000) :
    Calls Try.prog 12 #[.pointer (some ⟨lb, 0, none⟩), .agg #[.string c.row, .string c.col, .int .u64 c.ver, .bool c.gone, .string c.val], .int .i64 h] w fun e w' => e = .returned (.int .i64 (putE c h)) ∧ ∃ F', SL lb (putX c h l) F' w' ∧ Kept F w w' ∧ ∀ k, F' k → F k ∨ w.heap.size ≤ k := by
  by_cases hg : cellL c = true ∧ 1 ≤ h ∧ h ≤ 12
  · have h2 := put_sl c hok hg.1 h.toNat (by omega) (by omega) lb l F w hS hn
    rw [show ((h.toNat : Nat) : Int) = h by omega] at h2
    rw [putE, if_pos hg, putX, if_pos hg]
    exact h2
  · rw [putE, if_neg hg, putX, if_neg hg]
    refine (put_bad c hok h ?_ lb l F w hS).mono ?_
    · cases hcl : cellL c with
      | false => exact .inl rfl
      | true => right; have h3 : ¬ (1 ≤ h ∧ h ≤ 12) := fun h4 => hg ⟨hcl, h4⟩; omega
    · rintro e w' ⟨he, hb⟩
      exact ⟨he, F, hS.below hb, Kept.of_below hb, fun k hk => .inl hk⟩
theorem putX_len (c : CellA) (h : Int) (l : List CH) : (putX c h l).length ≤ l.length + 1 := by
  unfold putX
  split
  · exact putV_len
  · omega
end Go.Proofs.Ytlnfdejflpgleaa
