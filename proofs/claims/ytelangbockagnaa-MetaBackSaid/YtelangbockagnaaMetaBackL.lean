/-
  Places: the last loop of the law MetaBack, a declaration of its own (the frame's slots are letters).
-/
import Derived.Test.YtelangbockagnaaMetaLaysW
namespace Go.Proofs.Ytelangbockagnaa
open Go.RowKit

/-- the loops of a function's code, in the text's order -/
def loopsOf : Code → List Code
  | .loop c => [c]
  | .seq a b => loopsOf a ++ loopsOf b
  | .block _ c => loopsOf c
  | .scope c => loopsOf c
  | .cond _ a b => loopsOf a ++ loopsOf b
  | _ => []
noncomputable def mbBody : Code := (((Try.f4.body.map loopsOf).getD [])[1]?).getD .skip

/-- the numbers below k whose bits stand in m -/
def bitB (m k : Nat) : Bool := decide (m / 2 ^ k % 2 = 1)
def upL (m : Nat) : Nat → List Int
  | 0 => []
  | k + 1 => if bitB m k = true then upL m k ++ [(k : Int)] else upL m k
theorem upL_len (m : Nat) : ∀ k, (upL m k).length ≤ k
  | 0 => by simp [upL]
  | k + 1 => by
    have := upL_len m k
    rw [upL]
    split
    · simp; omega
    · omega
theorem upL_ok : ∀ m, m < 32 → 0 < m → membersL (upL m 5) = true := by decide
theorem bit_test (q k : Nat) (hk : k < 5) : (bits BinOp.and IntKind.u8 ((1 + (q : Int) % 31) / 2 ^ k) 1 == 1) = bitB (1 + q % 31) k := by
  have e1 : (1 + (q : Int) % 31) / 2 ^ k = (((1 + q % 31) / 2 ^ k : Nat) : Int) := by simp
  have hlt : (1 + q % 31) / 2 ^ k < 2 ^ 8 := by
    have := Nat.div_le_self (1 + q % 31) (2 ^ k)
    omega
  have h := (bits_nat .u8 8 (by decide) wraps_u8 ((1 + q % 31) / 2 ^ k) 1 hlt (by decide)).1
  rw [e1]
  have h1 : ((1 : Nat) : Int) = 1 := rfl
  rw [h1] at h
  rw [h, Nat.and_one_is_mod]
  unfold bitB
  have h2 := Nat.mod_two_eq_zero_or_one ((1 + q % 31) / 2 ^ k)
  rcases h2 with h2 | h2 <;> rw [h2] <;> rfl

structure BRel (w W0 : World) (bl : Nat) (acc : List Int) (v : Value) (wr : World) : Prop where
  row : Row wr (bl + 1) 3 1 v acc.length (acc.map intE).flatten
  nodes : wr.cell? ⟨bl, 4, none⟩ = some v
  lo : ∀ o, o < 4 → wr.cell? ⟨bl, o, none⟩ = W0.cell? ⟨bl, o, none⟩
  fro : ∀ o, wr.frozen? ⟨bl, o, none⟩ = W0.frozen? ⟨bl, o, none⟩
  size : W0.heap.size ≤ wr.heap.size
  bel : Below w.heap.size w wr
theorem brel_next {w W0 : World} {bl : Nat} {acc : List Int} {v v7 u : Value} {wr w7 : World} {o : Obj} {x : Int} (h : BRel w W0 bl acc v wr) (hbl : w.heap.size < bl) (hlt : bl < wr.heap.size)
    (hb7 : Below (bl + 1) (wr.alloc o) w7) (hr7 : Row w7 (bl + 1) 3 1 v7 (acc.length + 1) ((acc.map intE).flatten ++ ([x].map intE).flatten)) (hu : w7.cell? ⟨bl, 4, none⟩ = some u) :
    BRel w W0 bl (acc ++ [x]) v7 (w7.setCell ⟨bl, 4, none⟩ v7) := by
  have hs7 := hb7.size
  rw [World.size_alloc] at hs7
  have key : ∀ b, b < bl + 1 → w7.heap[b]? = wr.heap[b]? := fun b hb => by
    rw [hb7.block b hb]
    exact ((Below.refl wr.heap.size wr).alloc (Nat.le_refl _) o).block b (by omega)
  refine ⟨?_, ?_, fun j hj => ?_, fun j => ?_, ?_, ?_⟩
  · have : ((acc ++ [x]).map intE).flatten = (acc.map intE).flatten ++ ([x].map intE).flatten := by simp
    rw [this, List.length_append]
    exact row_set hr7 (by simp only; omega) _
  · exact World.cell?_setCell_same _ _ _ hu
  · rw [World.cell?_setCell_other _ _ _ _ (fun e => by cases e; omega), World.cell?_of_block (a := ⟨bl, j, none⟩) (key bl (by omega))]
    exact h.lo j hj
  · rw [World.frozen?_setCell, World.frozen?_of_block (a := ⟨bl, j, none⟩) (key bl (by omega))]
    exact h.fro j
  · have := h.size
    simp only [World.size_setCell]; omega
  · have h2 : Below w.heap.size w w7 := (h.bel.alloc h.bel.size o).trans (hb7.mono (by omega))
    exact h2.setCell (by simp only; omega) _

noncomputable def mbBits : Code := (((Try.f4.body.map loopsOf).getD [])[0]?).getD .skip

set_option maxRecDepth 1000000 in
set_option maxHeartbeats 8000000 in
theorem mb_bits {Q0 : Exit → Act → World → Prop} {w W0 : World} {q mm : Nat} {gr ep : Int} {lo hi : ByteArray}
    {u0 u2 u3 u4 u5 u6 u9 u10 u11 u12 u13 u14 u15 u16 u17 u18 u19 u20 u21 u22 u23 u24 u25 u26 u27 u28 u29 u30 u31 u32 u33 u34 u35 u36 u37 u38 u39 u40 u41 u42 u43 u44 u45 u46 u47 u48 u49 u50 u51 u52 u53 u54 u55 u56 u57 u58 u59 u60 u61 u62 u63 u64 u65 u66 u67 u68 u69 u70 u71 u72 u73 u74 u75 u76 u77 u78 u79 u80 u81 u82 u83 u84 u85 u86 u87 u88 u89 u90 u91 u92 u93 u94 u95 u96 u97 u98 u99 u100 u101 u102 u103 u104 u105 u106 u107 u108 u109 u110 u111 u112 u113 u114 u115 u116 u117 u118 u119 u120 u121 u122 u123 u124 u125 u126 u127 u128 u129 u130 u131 u132 u133 u134 u135 u136 u137 u138 u139 u140 u141 u142 u143 u144 u145 u146 u147 u148 u149 u150 u151 u152 u153 u154 u155 u156 u157 u158 u159 u160 u161 u162 u163 u164 : Value}
    (hbit : ∀ k, k < 5 → (bits BinOp.and IntKind.u8 ((1 + (q : Int) % 31) / 2 ^ k) 1 == 1) = bitB mm k) (L0 : LocIn W0 (w.heap.size + 1) gr lo hi ep (.slice none 0 0)) (hs0 : w.heap.size + 1 < W0.heap.size) (hb0 : Below w.heap.size w W0)
    (hexit : ∀ (v36 v37 v38 v39 v40 v41 v42 v43 v44 v45 v46 v47 v48 v49 v50 v51 v52 : Value) (acc : List Int) (v : Value) (wr : World), acc = upL mm 5 → BRel w W0 (w.heap.size + 1) acc v wr → Q0 (.exit 0) ⟨(u0 :: (.int .u8 (q : Int)) :: u2 :: u3 :: u4 :: u5 :: u6 :: (.pointer (some ⟨w.heap.size + 1, 0, none⟩)) :: (.int .i64 5) :: u9 :: u10 :: u11 :: u12 :: u13 :: u14 :: u15 :: u16 :: u17 :: u18 :: u19 :: u20 :: u21 :: u22 :: u23 :: u24 :: u25 :: u26 :: u27 :: u28 :: u29 :: u30 :: u31 :: u32 :: u33 :: u34 :: u35 :: v36 :: v37 :: v38 :: v39 :: v40 :: v41 :: v42 :: v43 :: v44 :: v45 :: v46 :: v47 :: v48 :: v49 :: v50 :: v51 :: v52 :: u53 :: u54 :: u55 :: u56 :: u57 :: u58 :: u59 :: u60 :: u61 :: u62 :: u63 :: u64 :: u65 :: u66 :: u67 :: u68 :: u69 :: u70 :: u71 :: u72 :: u73 :: u74 :: u75 :: u76 :: u77 :: u78 :: u79 :: u80 :: u81 :: u82 :: u83 :: u84 :: u85 :: u86 :: u87 :: u88 :: u89 :: u90 :: u91 :: u92 :: u93 :: u94 :: u95 :: u96 :: u97 :: u98 :: u99 :: u100 :: u101 :: u102 :: u103 :: u104 :: u105 :: u106 :: u107 :: u108 :: u109 :: u110 :: u111 :: u112 :: u113 :: u114 :: u115 :: u116 :: u117 :: u118 :: u119 :: u120 :: u121 :: u122 :: u123 :: u124 :: u125 :: u126 :: u127 :: u128 :: u129 :: u130 :: u131 :: u132 :: u133 :: u134 :: u135 :: u136 :: u137 :: u138 :: u139 :: u140 :: u141 :: u142 :: u143 :: u144 :: u145 :: u146 :: u147 :: u148 :: u149 :: u150 :: u151 :: u152 :: u153 :: u154 :: u155 :: u156 :: u157 :: u158 :: u159 :: u160 :: u161 :: u162 :: u163 :: u164 :: []).toArray, []⟩ wr) :
    Code.wp Try.prog (Code.loop mbBits) Q0 ⟨(u0 :: (.int .u8 (q : Int)) :: u2 :: u3 :: u4 :: u5 :: u6 :: (.pointer (some ⟨w.heap.size + 1, 0, none⟩)) :: (.int .i64 0) :: u9 :: u10 :: u11 :: u12 :: u13 :: u14 :: u15 :: u16 :: u17 :: u18 :: u19 :: u20 :: u21 :: u22 :: u23 :: u24 :: u25 :: u26 :: u27 :: u28 :: u29 :: u30 :: u31 :: u32 :: u33 :: u34 :: u35 :: u36 :: u37 :: u38 :: u39 :: u40 :: u41 :: u42 :: u43 :: u44 :: u45 :: u46 :: u47 :: u48 :: u49 :: u50 :: u51 :: u52 :: u53 :: u54 :: u55 :: u56 :: u57 :: u58 :: u59 :: u60 :: u61 :: u62 :: u63 :: u64 :: u65 :: u66 :: u67 :: u68 :: u69 :: u70 :: u71 :: u72 :: u73 :: u74 :: u75 :: u76 :: u77 :: u78 :: u79 :: u80 :: u81 :: u82 :: u83 :: u84 :: u85 :: u86 :: u87 :: u88 :: u89 :: u90 :: u91 :: u92 :: u93 :: u94 :: u95 :: u96 :: u97 :: u98 :: u99 :: u100 :: u101 :: u102 :: u103 :: u104 :: u105 :: u106 :: u107 :: u108 :: u109 :: u110 :: u111 :: u112 :: u113 :: u114 :: u115 :: u116 :: u117 :: u118 :: u119 :: u120 :: u121 :: u122 :: u123 :: u124 :: u125 :: u126 :: u127 :: u128 :: u129 :: u130 :: u131 :: u132 :: u133 :: u134 :: u135 :: u136 :: u137 :: u138 :: u139 :: u140 :: u141 :: u142 :: u143 :: u144 :: u145 :: u146 :: u147 :: u148 :: u149 :: u150 :: u151 :: u152 :: u153 :: u154 :: u155 :: u156 :: u157 :: u158 :: u159 :: u160 :: u161 :: u162 :: u163 :: u164 :: []).toArray, []⟩ W0 := by
  obtain ⟨i0, hi', hz0, hz1x, hz2x⟩ := info_parts Try.info_int
  have Hi := Lib.hid hi'
  have hbit := Lib.hid hbit
  clear hi'
  obtain ⟨x0, x1, x2, x3, x4, xf⟩ := L0
  conv => arg 2; arg 1; whnf
  go_loopw [8] (fun i wr => ∃ (k : Nat) (acc : List Int) (v : Value), k ≤ 5 ∧ i = .int .i64 k ∧ Hid (acc = upL mm k) ∧ Hid (BRel w W0 (w.heap.size + 1) acc v wr)) (fun i _ => 5 - (intOf i).toNat)
  case atStart => exact ⟨0, [], .slice none 0 0, by omega, rfl, Lib.hid rfl, Lib.hid ⟨Row.nil _ _ _ _, x4, fun _ _ => rfl, fun _ => rfl, Nat.le_refl _, hb0⟩⟩
  case round =>
    obtain ⟨k, acc, v, hk, rfl, hA, hD⟩ := hrel
    have hzw := hD.out.size
    have kl0 := (hD.out.lo 0 (by decide)).trans x0
    have kl1 := (hD.out.lo 1 (by decide)).trans x1
    have kl2 := (hD.out.lo 2 (by decide)).trans x2
    have kl3 := (hD.out.lo 3 (by decide)).trans x3
    have kl4 := hD.out.nodes
    have klf := fun o => (hD.out.fro o).trans (xf o)
    have hbr := hD.out.bel
    have zrd : w.heap.size + 1 < wr.heap.size := by omega
    by_cases hlt : k < 5
    · have hal := upL_len mm k
      rw [← hA.out] at hal
      have hbk := hbit.out k hlt
      cases hbb : bitB mm k
      · rw [hbb] at hbk
        have hA2 : Hid (acc = upL mm (k + 1)) := Lib.hid (by rw [upL, hbb, if_neg (by decide)]; exact hA.out)
        go_wp2
        exact ⟨⟨k + 1, acc, v, by omega, by go_num, hA2, hD⟩, by simp [intOf]; omega⟩
      · rw [hbb] at hbk
        have hA2 : Hid (acc ++ [(k : Int)] = upL mm (k + 1)) := Lib.hid (by rw [upL, hbb, if_pos rfl, hA.out])
        go_wp2_with (at_builtin; refine wpList_append_arr _ rfl _ _ 25 rfl (w.heap.size + 1 + 1) 3 i0 _ 1 8 Try.underlying25 Hi.out hz0 hz1x hz2x rfl (by decide) v _ _ rfl (Row.alloc hD.out.row _) rfl (ints_new wr _ (k : Int)) (by omega) (by unfold maxLen; omega) (by rw [World.size_alloc]; omega) ?_; intro v7 w7 hr7 hb7 hg7; obtain ⟨g7, c7, rfl⟩ := row_pos hr7 (Nat.succ_pos _); have HR7 := Lib.hid hr7; have HB7 := Lib.hid hb7; have hk7 := fun o => hb7.cell (p := ⟨w.heap.size + 1, o, none⟩) (Nat.lt_succ_self _); have hkf7 := fun o => hb7.frozen (p := ⟨w.heap.size + 1, o, none⟩) (Nat.lt_succ_self _); have hz7 := hb7.size; rw [World.size_alloc] at hz7; clear hr7 hb7 hg7)
        have hcell4 : w7.cell? ⟨w.heap.size + 1, 4, none⟩ = some v := by rw [hk7]; go_simp
        exact ⟨⟨k + 1, acc ++ [(k : Int)], _, by omega, by go_num, hA2, Lib.hid (brel_next hD.out (by omega) zrd HB7.out HR7.out hcell4)⟩, by simp [intOf]; omega⟩
    · obtain rfl : k = 5 := by omega
      go_wp2
      exact hexit _ _ _ _ _ _ _ _ _ _ _ _ _ _ _ _ _ acc v wr hA.out hD.out

set_option maxRecDepth 1000000 in
set_option maxHeartbeats 8000000 in
theorem mb_loop {Q0 : Exit → Act → World → Prop} {W1 : World} {b1 y n cap cap7 : Nat} {ao ao7 : Option Addr} {acc : List Int}
    {u0 u1 u2 u3 u4 u5 u6 u8 u9 u10 u12 u14 u15 u16 u17 u18 u19 u20 u21 u22 u23 u24 u25 u26 u27 u28 u29 u30 u31 u32 u33 u34 u35 u36 u37 u38 u39 u40 u41 u42 u43 u44 u45 u46 u47 u48 u49 u50 u51 u52 u53 u54 u55 u56 u57 u58 u59 u60 u61 u62 u63 u64 u65 u66 u67 u68 u69 u70 u71 u72 u73 u74 u75 u76 u77 u78 u79 u80 u81 u82 u83 u84 u85 u86 u87 u88 u89 u90 u91 u92 u93 u94 u95 u96 u97 u98 u99 u100 u101 u102 u103 u104 u105 u106 u107 u108 u109 u110 u111 u112 u113 u114 u115 u116 u117 u118 u119 u120 u121 u122 u123 u124 u125 u126 u127 u128 u129 u130 u131 u132 u133 u134 u135 u136 u137 u138 u139 u140 u141 u142 u143 u144 u145 u146 u147 u148 u149 u150 u151 u152 u153 u154 u155 u156 u157 u158 u159 u160 u161 u162 u163 u164 : Value}
    (hI1 : Ints W1 ao7 n cap7 acc) (hI2 : Ints W1 ao n cap acc) (p4 : W1.cell? ⟨b1, 4, none⟩ = some (.slice ao n cap)) (q4 : W1.cell? ⟨y, 4, none⟩ = some (.slice ao7 n cap7)) (z1 : b1 < W1.heap.size) (z2 : y < W1.heap.size)
    (hexit : ∀ (v6 v123 v124 v125 v126 v127 v128 v129 v130 v131 v132 v133 v134 v135 v136 v137 v138 v139 v140 : Value) (wr : World), Below W1.heap.size W1 wr → Q0 (.exit 2) ⟨(u0 :: u1 :: u2 :: u3 :: u4 :: u5 :: v6 :: (.pointer (some ⟨b1, 0, none⟩)) :: u8 :: u9 :: u10 :: (.pointer (some ⟨y, 0, none⟩)) :: u12 :: (.int .i64 (n : Int)) :: u14 :: u15 :: u16 :: u17 :: u18 :: u19 :: u20 :: u21 :: u22 :: u23 :: u24 :: u25 :: u26 :: u27 :: u28 :: u29 :: u30 :: u31 :: u32 :: u33 :: u34 :: u35 :: u36 :: u37 :: u38 :: u39 :: u40 :: u41 :: u42 :: u43 :: u44 :: u45 :: u46 :: u47 :: u48 :: u49 :: u50 :: u51 :: u52 :: u53 :: u54 :: u55 :: u56 :: u57 :: u58 :: u59 :: u60 :: u61 :: u62 :: u63 :: u64 :: u65 :: u66 :: u67 :: u68 :: u69 :: u70 :: u71 :: u72 :: u73 :: u74 :: u75 :: u76 :: u77 :: u78 :: u79 :: u80 :: u81 :: u82 :: u83 :: u84 :: u85 :: u86 :: u87 :: u88 :: u89 :: u90 :: u91 :: u92 :: u93 :: u94 :: u95 :: u96 :: u97 :: u98 :: u99 :: u100 :: u101 :: u102 :: u103 :: u104 :: u105 :: u106 :: u107 :: u108 :: u109 :: u110 :: u111 :: u112 :: u113 :: u114 :: u115 :: u116 :: u117 :: u118 :: u119 :: u120 :: u121 :: u122 :: v123 :: v124 :: v125 :: v126 :: v127 :: v128 :: v129 :: v130 :: v131 :: v132 :: v133 :: v134 :: v135 :: v136 :: v137 :: v138 :: v139 :: v140 :: u141 :: u142 :: u143 :: u144 :: u145 :: u146 :: u147 :: u148 :: u149 :: u150 :: u151 :: u152 :: u153 :: u154 :: u155 :: u156 :: u157 :: u158 :: u159 :: u160 :: u161 :: u162 :: u163 :: u164 :: []).toArray, []⟩ wr) :
    Code.wp Try.prog (Code.loop mbBody) Q0 ⟨(u0 :: u1 :: u2 :: u3 :: u4 :: u5 :: u6 :: (.pointer (some ⟨b1, 0, none⟩)) :: u8 :: u9 :: u10 :: (.pointer (some ⟨y, 0, none⟩)) :: u12 :: (.int .i64 0) :: u14 :: u15 :: u16 :: u17 :: u18 :: u19 :: u20 :: u21 :: u22 :: u23 :: u24 :: u25 :: u26 :: u27 :: u28 :: u29 :: u30 :: u31 :: u32 :: u33 :: u34 :: u35 :: u36 :: u37 :: u38 :: u39 :: u40 :: u41 :: u42 :: u43 :: u44 :: u45 :: u46 :: u47 :: u48 :: u49 :: u50 :: u51 :: u52 :: u53 :: u54 :: u55 :: u56 :: u57 :: u58 :: u59 :: u60 :: u61 :: u62 :: u63 :: u64 :: u65 :: u66 :: u67 :: u68 :: u69 :: u70 :: u71 :: u72 :: u73 :: u74 :: u75 :: u76 :: u77 :: u78 :: u79 :: u80 :: u81 :: u82 :: u83 :: u84 :: u85 :: u86 :: u87 :: u88 :: u89 :: u90 :: u91 :: u92 :: u93 :: u94 :: u95 :: u96 :: u97 :: u98 :: u99 :: u100 :: u101 :: u102 :: u103 :: u104 :: u105 :: u106 :: u107 :: u108 :: u109 :: u110 :: u111 :: u112 :: u113 :: u114 :: u115 :: u116 :: u117 :: u118 :: u119 :: u120 :: u121 :: u122 :: u123 :: u124 :: u125 :: u126 :: u127 :: u128 :: u129 :: u130 :: u131 :: u132 :: u133 :: u134 :: u135 :: u136 :: u137 :: u138 :: u139 :: u140 :: u141 :: u142 :: u143 :: u144 :: u145 :: u146 :: u147 :: u148 :: u149 :: u150 :: u151 :: u152 :: u153 :: u154 :: u155 :: u156 :: u157 :: u158 :: u159 :: u160 :: u161 :: u162 :: u163 :: u164 :: []).toArray, []⟩ W1 := by
  have HI1 := Lib.hid hI1
  have HI2 := Lib.hid hI2
  have Hlen := Lib.hid hI1.len
  have hn1 := Arr.fits hI1
  have hn2 := Arr.max hI1
  have hn3 := Arr.fits hI2
  have hn4 := Arr.max hI2
  unfold maxLen at hn2 hn4
  clear hI1 hI2
  conv => arg 2; arg 1; whnf
  go_loopw [13] (fun i wr => ∃ j : Nat, j ≤ n ∧ i = .int .i64 j ∧ Below W1.heap.size W1 wr) (fun i _ => n - (intOf i).toNat)
  case atStart => exact ⟨0, by omega, rfl, Below.refl _ _⟩
  case round =>
    obtain ⟨j, hj, rfl, hB2⟩ := hrel
    have hz2 := hB2.size
    have e4 := (hB2.cell (p := ⟨b1, 4, none⟩) z1).trans p4
    have g4 := (hB2.cell (p := ⟨y, 4, none⟩) z2).trans q4
    have z3 : b1 < wr.heap.size := by omega
    have z4 : y < wr.heap.size := by omega
    by_cases hlt : j < n
    · obtain ⟨x, hx⟩ : ∃ x, acc[j]? = some x := ⟨_, List.getElem?_eq_getElem (by rw [Hlen.out]; omega)⟩
      obtain ⟨b3, off3, e0, hb3, u0'⟩ := (Ints.below HI1.out hB2).at_ hx
      cases e0
      obtain ⟨b4, off4, e0, hb4, v0'⟩ := (Ints.below HI2.out hB2).at_ hx
      cases e0
      clear hx hexit
      go_wp2
      refine wp_region_below (by kernel_rfl) (by kernel_rfl) (fun hkept => ?_)
      obtain ⟨r0, rf0⟩ := hkept (b1) (by go_size); obtain ⟨r1, rf1⟩ := hkept (y) (by go_size); obtain ⟨r2, rf2⟩ := hkept (b3) (by go_size); obtain ⟨r3, rf3⟩ := hkept (b4) (by go_size); clear hkept
      repeat (any_goals (first | go_big_quiet_step (fail) | quiet_step (fail) | (refine wpQuiet_step (fun K hK => ?_); go_simp; split <;> (refine hK _ ?_; clear hK K))))
      all_goals (refine wpQuiet_nil ?_; intro w9 hb; obtain ⟨hB, hS, hk⟩ := after (B := wr.heap.size) (w := wr) (by go_grown) (by go_size) hb; obtain ⟨c0, f0, z0⟩ := hk (b1) (by go_size); obtain ⟨c1, f1, z1⟩ := hk (y) (by go_size); obtain ⟨c2, f2, z2⟩ := hk (b3) (by go_size); obtain ⟨c3, f3, z3⟩ := hk (b4) (by go_size); clear hk hb r0 rf0 r1 rf1 r2 rf2 r3 rf3)
      go_wp2
      exact ⟨⟨j + 1, by omega, by go_num, hB2.trans (hB.mono hz2)⟩, by simp [intOf]; omega⟩
    · obtain rfl : j = n := by omega
      go_wp2
      exact hB2
end Go.Proofs.Ytelangbockagnaa
