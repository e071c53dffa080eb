/-
  acreageref10.Find.
-/
import Derived.Test.YtfkghpomcaonfaaFindP
import Derived.Test.YtfkghpomcaonfaaRReadBW
namespace Go.Proofs.Ytfkghpomcaonfaa
open Go.RowKit

theorem rreadb_yes (s : ByteArray) (cs : List CellA) (h : BlockOf s.toList cs) (w : World) : Calls Try.prog 16 #[.string s] w fun e w' => ∃ ao cap, e = .returned (.tuple #[.slice ao cs.length cap, .int .i64 0]) ∧ Own w' w.heap.size (.slice ao cs.length cap) cs ∧ Below w.heap.size w w' :=
  (rreadb_any s w).mono fun e w' hh => by
    obtain ⟨⟨ds, v, h1, rfl, ho⟩ | ⟨h1, _⟩, hb⟩ := hh
    · obtain rfl := block_inj h h1
      obtain ⟨ao, cap, rfl, _⟩ := ho.cells
      exact ⟨ao, cap, rfl, ho, hb⟩
    · exact absurd h (h1 cs)
theorem rreadb_no (s : ByteArray) (h : ∀ cs, ¬ BlockOf s.toList cs) (w : World) : Calls Try.prog 16 #[.string s] w fun e w' => e = .returned (.tuple #[.slice none 0 0, .int .i64 4]) ∧ Below w.heap.size w w' :=
  (rreadb_any s w).mono fun e w' hh => by
    obtain ⟨⟨ds, v, h1, rfl, ho⟩ | ⟨h1, rfl⟩, hb⟩ := hh
    · exact absurd h1 (h ds)
    · exact ⟨rfl, hb⟩
/-- none of the first k cells is the place's -/
def Missed (row col : List UInt8) (cs : List CellA) (k : Nat) : Prop := ∀ j x, j < k → cs[j]? = some x → isC row col x = false
theorem missed_end {row col : List UInt8} {cs : List CellA} {k : Nat} (h : Missed row col cs k) (hk : cs.length ≤ k) : findL row col cs = none := by
  unfold findL
  rw [List.find?_eq_none]
  intro x hx
  obtain ⟨j, hj⟩ := List.getElem?_of_mem hx
  rw [h j x (by have := (List.getElem?_eq_some_iff.1 hj).1; omega) hj]
  exact Bool.false_ne_true
theorem missed_step {row col : List UInt8} {cs : List CellA} {k : Nat} (h : Missed row col cs k) {c : CellA} (hc : cs[k]? = some c) (ha : isC row col c = false) : Missed row col cs (k + 1) := fun j x hj hx => by
  rcases Nat.eq_or_lt_of_le (Nat.lt_succ_iff.1 hj) with rfl | hj
  · rw [hc] at hx; cases hx; exact ha
  · exact h j x hj hx
theorem missed_find {row col : List UInt8} {cs : List CellA} {k : Nat} (h : Missed row col cs k) {c : CellA} (hc : cs[k]? = some c) (ha : isC row col c = true) : findL row col cs = some c := by
  have hi := (List.getElem?_eq_some_iff.1 hc).1
  have e : cs = cs.take k ++ (c :: cs.drop (k + 1)) := by
    rw [← (List.getElem?_eq_some_iff.1 hc).2, ← List.drop_eq_getElem_cons hi, List.take_append_drop]
  have h1 : (cs.take k).find? (isC row col) = none := by
    rw [List.find?_eq_none]
    intro x hx
    obtain ⟨j, hj⟩ := List.getElem?_of_mem hx
    have hj' := (List.getElem?_eq_some_iff.1 hj).1
    rw [List.length_take] at hj'
    rw [List.getElem?_take_of_lt (by omega)] at hj
    rw [h j x (by omega) hj]
    exact Bool.false_ne_true
  unfold findL
  rw [e, List.find?_append, h1, List.find?_cons_of_pos (by rw [ha])]
  rfl
set_option maxRecDepth 100000 in
set_option maxHeartbeats 4000000 in
theorem rfind_no (s row col : ByteArray) (h : ∀ cs, ¬ BlockOf s.toList cs) (w : World) :
    Calls Try.prog 18 #[.string s, .string row, .string col] w fun e w' => e = .returned (.tuple #[.agg #[.string ⟨#[]⟩, .string ⟨#[]⟩, .int .u64 0, .bool false, .string ⟨#[]⟩], .bool false, .int .i64 4]) ∧ Below w.heap.size w w' := by
  have K := Lib.hid (rreadb_no s h)
  clear h
  obtain ⟨P, hP⟩ : ∃ P : Ending → World → Prop, P = fun e w' => e = .returned (.tuple #[.agg #[.string ⟨#[]⟩, .string ⟨#[]⟩, .int .u64 0, .bool false, .string ⟨#[]⟩], .bool false, .int .i64 4]) ∧ Below w.heap.size w w' := ⟨_, rfl⟩
  rw [← hP]
  have HP := Lib.hid hP
  clear hP
  go_enter Try.func18, Try.ntmps18
  go_wp2_with (first | (go_at_call 16; refine (K.out _).mono ?_; rintro e w1 ⟨rfl, hb⟩; obtain ⟨hB, hS, hk⟩ := after (B := w.heap.size) (w := w) (by go_grown) (by go_size) hb; clear hb; obtain ⟨c0, f0, z0⟩ := hk (w.heap.size) (by go_size); clear hk) | (with_reducible refine bodyPost_ret (v := .tuple #[.agg #[.string ⟨#[]⟩, .string ⟨#[]⟩, .int .u64 0, .bool false, .string ⟨#[]⟩], .bool false, .int .i64 4]) ?hr ?hd ?hR))
  case hd => rfl
  case hR => rw [HP.out]; exact ⟨rfl, by go_grown⟩
  case hr => simp [results, Try.results18, go_sem, *]
set_option maxRecDepth 100000 in
set_option maxHeartbeats 4000000 in
theorem rfind_yes (s row col : ByteArray) (cs : List CellA) (h : BlockOf s.toList cs) (w : World) (P : Ending → World → Prop)
    (h1 : ∀ c w', findL row.toList col.toList cs = some c → Below w.heap.size w w' → P (.returned (.tuple #[.agg #[.string c.row, .string c.col, .int .u64 c.ver, .bool c.gone, .string c.val], .bool true, .int .i64 0])) w')
    (h2 : ∀ w', findL row.toList col.toList cs = none → Below w.heap.size w w' → P (.returned (.tuple #[.agg #[.string ⟨#[]⟩, .string ⟨#[]⟩, .int .u64 0, .bool false, .string ⟨#[]⟩], .bool false, .int .i64 0])) w') :
    Calls Try.prog 18 #[.string s, .string row, .string col] w P := by
  have K := Lib.hid (rreadb_yes s cs h)
  have H1 := Lib.hid h1
  have H2 := Lib.hid h2
  obtain ⟨n, hn⟩ : ∃ n, n = cs.length := ⟨_, rfl⟩
  have Hn := Lib.hid hn
  rw [← hn] at K
  clear h h1 h2 hn
  go_enter Try.func18, Try.ntmps18
  go_wp2_with (first
    | (go_at_call 16; refine (K.out _).mono ?_; rintro e w1 ⟨ao, cap, rfl, hO, hb⟩; obtain ⟨hB, hS, hk⟩ := after (B := w.heap.size) (w := w) (by go_grown) (by go_size) hb; obtain ⟨c0, f0, z0⟩ := hk w.heap.size (by go_size); clear hk; have HO := Lib.hid hO; clear hO))
  obtain ⟨z, hz⟩ : ∃ z, z = w.heap.size := ⟨_, rfl⟩
  have x0 : w1.cell? ⟨z, 0, none⟩ = some (.string ⟨#[]⟩) := by rw [hz]; go_simp
  have x1 : w1.cell? ⟨z, 1, none⟩ = some (.string ⟨#[]⟩) := by rw [hz]; go_simp
  have x2 : w1.cell? ⟨z, 2, none⟩ = some (.int .u64 0) := by rw [hz]; go_simp
  have x3 : w1.cell? ⟨z, 3, none⟩ = some (.bool false) := by rw [hz]; go_simp
  have x4 : w1.cell? ⟨z, 4, none⟩ = some (.string ⟨#[]⟩) := by rw [hz]; go_simp
  have y0 : w1.frozen? ⟨z, 0, none⟩ = false := by rw [hz]; go_simp
  have y1 : w1.frozen? ⟨z, 1, none⟩ = false := by rw [hz]; go_simp
  have y2 : w1.frozen? ⟨z, 2, none⟩ = false := by rw [hz]; go_simp
  have y3 : w1.frozen? ⟨z, 3, none⟩ = false := by rw [hz]; go_simp
  have y4 : w1.frozen? ⟨z, 4, none⟩ = false := by rw [hz]; go_simp
  obtain ⟨ao', cap', e', hC⟩ := HO.out.cells
  rw [← Hn.out] at e' hC
  cases e'
  have hnf := Arr.fits hC
  have hnm := Arr.max hC
  unfold maxLen at hnm
  have HC := Lib.hid hC
  have hzw : w.heap.size ≤ z := by omega
  have hzl : z < w1.heap.size := by rw [hz]; exact z0
  rw [← hz]
  have hB' : Below w.heap.size w w1 := hB
  have HB1 := Lib.hid hB'
  clear hz c0 f0 z0 hB hB' HO hC K
  go_loopw [11] (fun i wr => ∃ k : Nat, k ≤ n ∧ i = .int .i64 k ∧ Hid (Missed row.toList col.toList cs k) ∧ w1 = wr) (fun i _ => n - (intOf i).toNat)
  case atStart => exact ⟨0, by omega, rfl, Lib.hid (fun j x h => by omega), rfl⟩
  case round =>
    obtain ⟨k, hk, rfl, hM, rfl⟩ := hrel
    by_cases hlt : k < n
    · obtain ⟨x, hx⟩ : ∃ x, cs[k]? = some x := ⟨_, List.getElem?_eq_getElem (by rw [← Hn.out]; omega)⟩
      obtain ⟨g, off, rfl, hg, ⟨v0, v1, v2, v3, v4⟩⟩ := Cells.at_ HC.out hx
      have HX1 := Lib.hid fun h => missed_find hM.out hx h
      have HX2 := Lib.hid fun h => missed_step hM.out hx h
      have Hout := Lib.hid (H1.out x)
      have Hisc : Hid (isC row.toList col.toList x = (decide (x.row.toList = row.toList) && decide (x.col.toList = col.toList))) := Lib.hid rfl
      obtain ⟨xr, xc, xv, xg, xl⟩ := x
      simp only at v0 v1 v2 v3 v4 Hisc Hout
      clear hx hM
      by_cases hrr : xr = row
      · subst hrr
        by_cases hcc : xc = col
        · subst hcc
          have HN := Lib.hid (HX1.out (by rw [Hisc.out]; simp))
          clear HX1 HX2 Hisc
          go_wp2_with (first | (with_reducible refine bodyPost_ret (v := .tuple #[.agg #[.string xr, .string xc, .int .u64 xv, .bool xg, .string xl], .bool true, .int .i64 0]) ?hr ?hd ?hR))
          case hd => rfl
          case hR => exact Hout.out _ HN.out (by have hbb := HB1.out; go_grown)
          case hr => simp [results, Try.results18, go_sem, *]
        · have hcc1 := ne_of hcc
          have HN := Lib.hid (HX2.out (by rw [Hisc.out]; simp [hcc1.2]))
          clear HX1 HX2 Hisc
          go_wp2_with fail
          exact ⟨⟨k + 1, by omega, by go_num, HN, trivial⟩, by simp [intOf]; omega⟩
      · have hrr1 := ne_of hrr
        have HN := Lib.hid (HX2.out (by rw [Hisc.out]; simp [hrr1.2]))
        clear HX1 HX2 Hisc
        go_wp2_with fail
        exact ⟨⟨k + 1, by omega, by go_num, HN, trivial⟩, by simp [intOf]; omega⟩
    · have Hse : Hid (findL row.toList col.toList cs = none) := Lib.hid (missed_end hM.out (by rw [← Hn.out]; omega))
      clear hM
      go_wp2_with (first | (with_reducible refine bodyPost_ret (v := .tuple #[.agg #[.string ⟨#[]⟩, .string ⟨#[]⟩, .int .u64 0, .bool false, .string ⟨#[]⟩], .bool false, .int .i64 0]) ?hr ?hd ?hR))
      case hd => rfl
      case hR => exact H2.out _ Hse.out (by have hbb := HB1.out; go_grown)
      case hr => simp [results, Try.results18, go_sem, *]
end Go.Proofs.Ytfkghpomcaonfaa
