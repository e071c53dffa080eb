/-
  What block.Find asks: where a whole cell lies, whether a cell is ahead of the place.
-/
import Derived.Test.YtfkghpomcaonfaaFindP
import Derived.Test.YtfkghpomcaonfaaReadBW
namespace Go.Proofs.Ytfkghpomcaonfaa
open Go.RowKit

theorem ret_boolB {a b : Bool} (h : a = b) : Ending.returned (.bool a) = Ending.returned (.bool b) := by rw [h]
set_option maxHeartbeats 1000000 in
theorem find2_any (c : CellA) (row col : ByteArray) (r q : Nat) (w : World) (hr : w.cell? ⟨r, 0, none⟩ = some (.string row)) (hq : w.cell? ⟨q, 0, none⟩ = some (.string col)) (hrl : r < w.heap.size) (hql : q < w.heap.size) :
    Calls Try.prog 42 #[.agg #[.string c.row, .string c.col, .int .u64 c.ver, .bool c.gone, .string c.val], .pointer (some ⟨r, 0, none⟩), .pointer (some ⟨q, 0, none⟩)] w fun e w' => e = .returned (.bool (aheadC row.toList col.toList c)) ∧ Below w.heap.size w w' := by
  have hrn : ¬ r = w.heap.size := by omega
  have hqn : ¬ q = w.heap.size := by omega
  go_enter Try.func42, Try.ntmps42
  go_wp2
  all_goals (go_ret; refine ⟨ret_boolB ?_, by go_grown⟩)
  all_goals (simp only [less_eq, aheadC] at * <;> grind)
set_option maxRecDepth 100000 in
set_option maxHeartbeats 2000000 in
theorem find1_any (bd pl : ByteArray) (k m p q : Nat) (x y : UInt8) (w : World) (hp : w.cell? ⟨p, 0, none⟩ = some (.string bd)) (hq : w.cell? ⟨q, 0, none⟩ = some (.string pl)) (hpl : p < w.heap.size) (hql : q < w.heap.size)
    (hk : k ≤ 100000) (hm : m = x.toNat * 256 + y.toNat) (hb : m ≤ bd.size) (hbs : bd.size ≤ 1000000)
    (i1 : ∀ W, (Instr.index 9 (.string pl) (.int .i64 (2 * (k : Int)))).run Try.prog W = .ok (.int .u8 x.toNat) W)
    (i2 : ∀ W, (Instr.index 9 (.string pl) (.int .i64 (2 * (k : Int) + 1))).run Try.prog W = .ok (.int .u8 y.toNat) W) :
    Calls Try.prog 41 #[.int .i64 k, .pointer (some ⟨p, 0, none⟩), .pointer (some ⟨q, 0, none⟩)] w fun e w' => e = .returned (.string (bd.extract m bd.size)) ∧ Below w.heap.size w w' := by
  have hx := x.toNat_lt
  have hy := y.toNat_lt
  have hor := or_two x.toNat y.toNat hx hy
  rw [← hm] at hor
  have hmi : (m : Int) ≤ (bd.size : Int) := by omega
  have hki : 2 * (k : Int) < 2 ^ 63 := by omega
  clear hm
  go_enter Try.func41, Try.ntmps41
  go_wp2_with fail
  refine wp_region_below (by kernel_rfl) (by kernel_rfl) (fun hkept => ?_)
  obtain ⟨r0, rf0⟩ := hkept (p) (by go_size); obtain ⟨r1, rf1⟩ := hkept (q) (by go_size); clear hkept
  repeat (any_goals (first | go_big_quiet_step (fail) | quiet_step (fail) | (refine wpQuiet_step (fun K hK => ?_); go_simp; split <;> (refine hK _ ?_; clear hK K))))
  all_goals (refine wpQuiet_nil ?_; intro w1 hb; obtain ⟨hB, hS, hk⟩ := after (B := w.heap.size) (w := w) (by go_grown) (by go_size) hb; obtain ⟨c0, f0, z0⟩ := hk (p) (by go_size); obtain ⟨c1, f1, z1⟩ := hk (q) (by go_size); clear hk hb r0 rf0 r1 rf1)
  go_wp2
  go_ret
  exact ⟨rfl, hB⟩
theorem readb_yes (s : ByteArray) (cs : List CellA) (h : BlockOf s.toList cs) (w : World) : Calls Try.prog 15 #[.string s] w fun e w' => ∃ ao cap, e = .returned (.tuple #[.slice ao cs.length cap, .int .i64 0]) ∧ Own w' w.heap.size (.slice ao cs.length cap) cs ∧ Below w.heap.size w w' :=
  (readb_any s w).mono fun e w' hh => by
    obtain ⟨⟨ds, v, h1, rfl, ho⟩ | ⟨h1, _⟩, hb⟩ := hh
    · obtain rfl := block_inj h h1
      obtain ⟨ao, cap, rfl, _⟩ := ho.cells
      exact ⟨ao, cap, rfl, ho, hb⟩
    · exact absurd h (h1 cs)
theorem readb_no (s : ByteArray) (h : ∀ cs, ¬ BlockOf s.toList cs) (w : World) : Calls Try.prog 15 #[.string s] w fun e w' => e = .returned (.tuple #[.slice none 0 0, .int .i64 4]) ∧ Below w.heap.size w w' :=
  (readb_any s w).mono fun e w' hh => by
    obtain ⟨⟨ds, v, h1, rfl, ho⟩ | ⟨h1, rfl⟩, hb⟩ := hh
    · exact absurd h1 (h ds)
    · exact ⟨rfl, hb⟩
/-- the row ahead that a taker keeps -/
def rowB (cs : List CellA) (i j : Nat) : ByteArray := if j = 0 then ⟨#[]⟩ else prevB cs i
theorem rowB_ahead {cs : List CellA} {i j : Nat} (h : i % 8 = j) : aheadB cs i = if j % 8 = 0 then ⟨#[]⟩ else rowB cs i j := by
  rw [aheadB_if]
  have : j % 8 = j := by omega
  rw [this, h]
  split
  · rfl
  · rename_i h0; rw [rowB, if_neg h0]
theorem bodyFrom_le {s : List UInt8} {cs : List CellA} (h : BlockOf s cs) (i : Nat) : (bodyFrom cs i).length ≤ 32768 := by
  have := h.body
  rw [bodyFrom, List.length_drop]; omega
theorem rowB_le {s : List UInt8} {cs : List CellA} (h : BlockOf s cs) (i j : Nat) : (rowB cs i j).size ≤ 1000000 := by
  unfold rowB
  split
  · exact Nat.zero_le _
  · unfold prevB
    split
    · exact Nat.zero_le _
    · cases hc : cs[i - 1]? with
      | none => exact Nat.zero_le _
      | some c => have := (cellL_sizesB (wrongB_false h.good _ c hc).1).1; simp only; omega
theorem take_in {s : List UInt8} {cs : List CellA} (h : BlockOf s cs) (b i j : Nat) (hj : i % 8 = j) {c : CellA} (hc : cs[i]? = some c) (w : World) (hT : TK b j (rowB cs i j) (bodyFrom cs i) w) :
    Calls Try.prog 65 #[.pointer (some ⟨b + 3, 0, none⟩), .pointer (some ⟨b + 2, 0, none⟩), .pointer (some ⟨b + 1, 0, none⟩)] w fun e w' => e = .returned (.tuple #[.agg #[.string c.row, .string c.col, .int .u64 c.ver, .bool c.gone, .string c.val], .bool true]) ∧ TK b (j + 1) (rowB cs (i + 1) (j + 1)) (bodyFrom cs (i + 1)) w' ∧ Kept (tkF b) w w' :=
  (take_any b j (rowB cs i j) (bodyFrom cs i) w hT (by omega) (Nat.le_trans (bodyFrom_le h i) (by decide)) (rowB_le h i j) (aheadB cs i) (rowB_ahead hj)).mono fun e w' hh => by
    have e1 : rowB cs (i + 1) (j + 1) = c.row := by rw [rowB, if_neg (Nat.succ_ne_zero j)]; exact prevB_succ hc
    rw [read_step h hc] at hh
    rw [e1]
    exact hh.1.elim (fun g => ⟨g.2.1, g.2.2, hh.2⟩) (fun g => by cases g.1)
theorem take_out {s : List UInt8} {cs : List CellA} (h : BlockOf s cs) (b i j : Nat) (hj : i % 8 = j) (hi : i = cs.length) (w : World) (hT : TK b j (rowB cs i j) (bodyFrom cs i) w) :
    Calls Try.prog 65 #[.pointer (some ⟨b + 3, 0, none⟩), .pointer (some ⟨b + 2, 0, none⟩), .pointer (some ⟨b + 1, 0, none⟩)] w fun e w' => e = .returned (.tuple #[.agg #[.string ⟨#[]⟩, .string ⟨#[]⟩, .int .u64 0, .bool false, .string ⟨#[]⟩], .bool false]) ∧ Kept (tkF b) w w' :=
  (take_any b j (rowB cs i j) (bodyFrom cs i) w hT (by omega) (Nat.le_trans (bodyFrom_le h i) (by decide)) (rowB_le h i j) (aheadB cs i) (rowB_ahead hj)).mono fun e w' hh => by
    have e1 : bodyFrom cs i = [] := by rw [hi, bodyFrom_end]
    rw [e1, cellB_nil] at hh
    exact ⟨hh.1.elim (fun g => by cases g.1) (fun g => g.2), hh.2⟩
theorem from_in {s : List UInt8} {cs : List CellA} (h : BlockOf s cs) (k p q : Nat) (hk : 8 * k < cs.length) (w : World) (hp : w.cell? ⟨p, 0, none⟩ = some (.string (ofL (bodyTo cs cs.length)))) (hq : w.cell? ⟨q, 0, none⟩ = some (.string (ofL (placesTo cs cs.length)))) (hpl : p < w.heap.size) (hql : q < w.heap.size) :
    Calls Try.prog 41 #[.int .i64 k, .pointer (some ⟨p, 0, none⟩), .pointer (some ⟨q, 0, none⟩)] w fun e w' => e = .returned (.string (ofL (bodyFrom cs (8 * k)))) ∧ Below w.heap.size w w' := by
  obtain ⟨e1, e2, h3⟩ := place_at cs hk h.body
  have hl := placesTo_len cs cs.length
  have h1 := (List.getElem?_eq_some_iff.1 e1).1
  have h2 := (List.getElem?_eq_some_iff.1 e2).1
  have hn := bodyTo_long cs cs.length (Nat.le_refl _)
  have hb := h.body
  have hsz : (ofL (placesTo cs cs.length)).size = (placesTo cs cs.length).length := ofL_size _
  have b1 := byte_at (a := ofL (placesTo cs cs.length)) (k := 2 * k) (by rw [hsz]; exact h1)
  have b2 := byte_at (a := ofL (placesTo cs cs.length)) (k := 2 * k + 1) (by rw [hsz]; exact h2)
  rw [ofL_toList, e1] at b1
  rw [ofL_toList, e2] at b2
  have hle := bodyTo_le cs (show 8 * k ≤ cs.length by omega)
  have K := find1_any (ofL (bodyTo cs cs.length)) (ofL (placesTo cs cs.length)) k (bodyTo cs (8 * k)).length p q (UInt8.ofNat ((bodyTo cs (8 * k)).length / 256)) (UInt8.ofNat (bodyTo cs (8 * k)).length) w hp hq hpl hql (by omega) (by simp; omega) (by rw [ofL_size]; exact hle) (by rw [ofL_size]; omega)
    (fun W => by rw [Option.some.inj b1]; exact idx_at (ofL (placesTo cs cs.length)) (2 * k) (by rw [hsz]; exact h1) .i64 _ (by omega) W)
    (fun W => by rw [Option.some.inj b2]; exact idx_at (ofL (placesTo cs cs.length)) (2 * k + 1) (by rw [hsz]; exact h2) .i64 _ (by omega) W)
  rw [ofL_drop] at K
  exact K
end Go.Proofs.Ytfkghpomcaonfaa
