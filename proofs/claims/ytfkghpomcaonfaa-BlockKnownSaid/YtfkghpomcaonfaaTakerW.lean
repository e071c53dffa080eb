/-
  block.taker, and what it gives. Printed by mktaker.py.
-/
import Derived.Test.YtfkghpomcaonfaaPartsB
import Derived.Test.YtfkghpomcaonfaaReadW
namespace Go.Proofs.Ytfkghpomcaonfaa
open Go.RowKit

theorem numR_rest (l : List UInt8) : (numR l).2.2.length ≤ l.length := by
  unfold numR; cases takeL l <;> simp
theorem textR_rest (m : Int) (l : List UInt8) : (textR m l).2.2.length ≤ l.length := by
  unfold textR; cases textL l m <;> simp
theorem byteR_rest (l : List UInt8) : (byteR l).2.2.length ≤ l.length := by
  unfold byteR; cases l <;> simp
/-- a taker's own blocks: b the reader, b + 1 where it lies, b + 2 the row ahead, b + 3 how many were taken -/
structure TK (b k : Nat) (a : ByteArray) (l : List UInt8) (w : World) : Prop where
  left : Left w b l
  r : w.cell? ⟨b + 1, 0, none⟩ = some (.pointer (some ⟨b, 0, none⟩))
  a : w.cell? ⟨b + 2, 0, none⟩ = some (.string a)
  af : w.frozen? ⟨b + 2, 0, none⟩ = false
  k : w.cell? ⟨b + 3, 0, none⟩ = some (.int .i64 k)
  kf : w.frozen? ⟨b + 3, 0, none⟩ = false
def tkF (b : Nat) : Nat → Prop := fun x => b ≤ x ∧ x ≤ b + 3
theorem Left.lt {w : World} {b : Nat} {l : List UInt8} (h : Left w b l) : b < w.heap.size := World.block_lt_of_cell? _ _ h.cell
theorem TK.lt {b k : Nat} {a : ByteArray} {l : List UInt8} {w : World} (h : TK b k a l w) : b + 3 < w.heap.size := World.block_lt_of_cell? _ _ h.k
theorem Left.same {w w' : World} {b : Nat} {l : List UInt8} (h : Left w b l) (hs : w'.heap[b]? = w.heap[b]?) : Left w' b l :=
  ⟨(World.cell?_of_block (a := ⟨b, 0, none⟩) hs).trans h.cell, (World.frozen?_of_block (a := ⟨b, 0, none⟩) hs).trans h.fro⟩
theorem TK.keep {b k : Nat} {a : ByteArray} {l : List UInt8} {w w' : World} (h : TK b k a l w) (hb : ∀ x, tkF b x → w'.heap[x]? = w.heap[x]?) : TK b k a l w' :=
  ⟨h.left.same (hb b ⟨by omega, by omega⟩), (World.cell?_of_block (a := ⟨b + 1, 0, none⟩) (hb _ ⟨by show b ≤ b + 1; omega, by show b + 1 ≤ b + 3; omega⟩)).trans h.r,
    (World.cell?_of_block (a := ⟨b + 2, 0, none⟩) (hb _ ⟨by show b ≤ b + 2; omega, by show b + 2 ≤ b + 3; omega⟩)).trans h.a, (World.frozen?_of_block (a := ⟨b + 2, 0, none⟩) (hb _ ⟨by show b ≤ b + 2; omega, by show b + 2 ≤ b + 3; omega⟩)).trans h.af,
    (World.cell?_of_block (a := ⟨b + 3, 0, none⟩) (hb _ ⟨by show b ≤ b + 3; omega, by show b + 3 ≤ b + 3; omega⟩)).trans h.k, (World.frozen?_of_block (a := ⟨b + 3, 0, none⟩) (hb _ ⟨by show b ≤ b + 3; omega, by show b + 3 ≤ b + 3; omega⟩)).trans h.kf⟩
theorem TK.below {b k : Nat} {a : ByteArray} {l : List UInt8} {w w' : World} (h : TK b k a l w) (hb : Below w.heap.size w w') : TK b k a l w' :=
  h.keep fun x hx => hb.block x (by have := h.lt; have := hx.2; omega)
theorem Kept.grown {F : Nat → Prop} {a w w' : World} {b : Nat} (h : Kept F a w) (g : w.grownBy w' (some b)) (hb : F b) : Kept F a w' :=
  h.trans (F' := fun k => k = b) ⟨g.os, g.tape, g.output, g.size, fun k hk hn => g.block k hk (by simpa using fun e => hn (by rw [e]))⟩ (fun i hi => by subst hi; exact .inl hb)
theorem gb_cells {w w' : World} {b x : Nat} (g : w.grownBy w' (some b)) (hx : x < w.heap.size) (hn : x ≠ b) : (∀ o, w'.cell? ⟨x, o, none⟩ = w.cell? ⟨x, o, none⟩) ∧ (∀ o, w'.frozen? ⟨x, o, none⟩ = w.frozen? ⟨x, o, none⟩) ∧ x < w'.heap.size := by
  have h := g.block x hx (by simpa using fun e => hn (by rw [e]))
  exact ⟨fun o => World.cell?_of_block (a := ⟨x, o, none⟩) h, fun o => World.frozen?_of_block (a := ⟨x, o, none⟩) h, Nat.lt_of_lt_of_le hx g.size⟩

set_option maxRecDepth 100000 in
set_option maxHeartbeats 2000000 in
theorem taker_any (s : ByteArray) (w : World) :
    Calls Try.prog 35 #[.string s] w fun e w' => e = .returned (.func (.func 65) #[] #[.pointer (some ⟨w.heap.size + 3, 0, none⟩), .pointer (some ⟨w.heap.size + 2, 0, none⟩), .pointer (some ⟨w.heap.size + 1, 0, none⟩)]) ∧ TK w.heap.size 0 ⟨#[]⟩ s.toList w' ∧ Below w.heap.size w w' := by
  have Hnew := Lib.hid (new_any s w)
  go_enter Try.func35, Try.ntmps35
  go_wp2_with (first | (go_at_call 64; refine Hnew.out.mono ?_; rintro e w' ⟨rfl, rfl⟩))
  go_ret
  refine ⟨rfl, ⟨⟨?_, ?_⟩, ?_, ?_, ?_, ?_, ?_⟩, by go_grown⟩
  all_goals first | (rw [ofL_self]; go_simp) | go_simp

end Go.Proofs.Ytfkghpomcaonfaa
