/-
  The first loop of acreagelaw08.SkipPlays, a declaration of its own (the frame's slots are letters; printed by mkplay.py).
-/
import Derived.Test.YtlnfdejflpgleaaPlayP
import Derived.Test.YtlnfdejflpgleaaRPut8G
import Derived.Test.YtlnfdejflpgleaaTells8W
import Derived.Deep.RegionHeld3
import Derived.Deep.DeepCutAuto
namespace Go.Proofs.Ytlnfdejflpgleaa
open Go.RowKit

/-- the loops of a function's code, in the text's order -/
def loopsOf : Code → List Code
  | .loop c => [c]
  | .seq a b => loopsOf a ++ loopsOf b
  | .block _ c => loopsOf c
  | .scope c => loopsOf c
  | .cond _ a b => loopsOf a ++ loopsOf b
  | _ => []
noncomputable def spBody : Code := (((Try.f4.body.map loopsOf).getD [])[0]?).getD .skip
theorem bcell8 {w w' : World} (h : Below w.heap.size w w') : (∀ b o, b < w.heap.size → w'.cell? ⟨b, o, none⟩ = w.cell? ⟨b, o, none⟩) ∧ (∀ b o, b < w.heap.size → w'.frozen? ⟨b, o, none⟩ = w.frozen? ⟨b, o, none⟩) :=
  ⟨fun b o hb => h.cell (p := ⟨b, o, none⟩) hb, fun b o hb => h.frozen (p := ⟨b, o, none⟩) hb⟩

set_option maxRecDepth 1000000 in
set_option maxHeartbeats 16000000 in
theorem sp_loop {Q0 : Exit → Act → World → Prop} {w W1 : World} {rb mb lb n cap : Nat} {ao : Option Addr} {ds : List DoA}
    {u1 u6 u7 u8 u9 u10 u11 u12 u13 u14 u15 u16 u17 u18 u19 u20 u21 u22 u23 u24 u25 u26 u27 u28 u29 u30 u31 u32 u33 u34 u35 u36 u37 u38 u39 u40 u41 u42 u43 u44 u45 u46 u47 u48 u49 u50 u51 u52 u53 u54 u55 u56 u57 u58 u59 u60 u61 u62 u63 u64 u65 u66 u67 u68 u69 u70 u71 u72 u73 u74 u75 u76 u77 u78 u79 u80 u81 u82 u83 u84 u85 u86 u87 u88 u89 u90 u91 u92 u93 u94 u95 u96 u97 u98 u99 u100 u101 u102 u103 u104 u105 u106 u107 u108 u109 u110 u111 u112 u113 u114 u115 u116 u117 u118 u119 u120 u121 u122 u123 u124 u125 u126 u127 u128 u129 u130 u131 u132 u133 u134 u135 u136 u137 u138 u139 u140 u141 u142 u143 u144 u145 u146 u147 u148 u149 u150 u151 u152 u153 u154 u155 u156 u157 u158 u159 u160 u161 u162 u163 u164 u165 u166 u167 u168 u169 u170 u171 u172 u173 u174 u175 u176 u177 u178 u179 u180 u181 : Value}
    (hD : Dos w ao n cap ds) (hok : ∀ d ∈ ds, d.c.Ok) (F0 : Nat → Prop) (h0 : PlK w rb mb lb 0 [] F0 (.agg #[.slice none 0 0, .slice none 0 0]) W1)
    (hexit : ∀ (k : Nat) (l : List CH) (F : Nat → Prop) (v : Value) (v6 v7 v8 v9 v10 v11 v12 v13 v23 v24 v25 v26 v27 v28 v29 v30 v31 v32 v33 v34 v35 v36 v37 v38 v39 v40 v41 v42 v43 v44 v45 v46 v47 v48 v49 v50 v51 v52 v53 v54 v55 v56 v57 v58 v59 v60 v61 v62 v63 v64 v65 v66 v67 v68 v69 v70 v71 v72 v73 v74 v75 v76 v77 v78 v79 v80 v81 v82 v83 v84 v85 v86 v87 v88 v89 v90 v91 v92 v93 v94 v95 v96 v97 v98 v99 v100 v101 v102 v103 v104 v105 v106 v107 v108 v109 v110 v111 v112 v113 v114 v115 v116 v117 v118 v119 v120 : Value) (wr : World), k ≤ 200 → PlK w rb mb lb k l F v wr → Q0 (.exit 0) ⟨((.slice ao n cap) :: u1 :: (.pointer (some ⟨rb, 0, none⟩)) :: (.pointer (some ⟨lb, 0, none⟩)) :: (.pointer (some ⟨mb, 0, none⟩)) :: (.int .i64 (k : Int)) :: v6 :: v7 :: v8 :: v9 :: v10 :: v11 :: v12 :: v13 :: u14 :: u15 :: u16 :: u17 :: u18 :: u19 :: u20 :: u21 :: u22 :: v23 :: v24 :: v25 :: v26 :: v27 :: v28 :: v29 :: v30 :: v31 :: v32 :: v33 :: v34 :: v35 :: v36 :: v37 :: v38 :: v39 :: v40 :: v41 :: v42 :: v43 :: v44 :: v45 :: v46 :: v47 :: v48 :: v49 :: v50 :: v51 :: v52 :: v53 :: v54 :: v55 :: v56 :: v57 :: v58 :: v59 :: v60 :: v61 :: v62 :: v63 :: v64 :: v65 :: v66 :: v67 :: v68 :: v69 :: v70 :: v71 :: v72 :: v73 :: v74 :: v75 :: v76 :: v77 :: v78 :: v79 :: v80 :: v81 :: v82 :: v83 :: v84 :: v85 :: v86 :: v87 :: v88 :: v89 :: v90 :: v91 :: v92 :: v93 :: v94 :: v95 :: v96 :: v97 :: v98 :: v99 :: v100 :: v101 :: v102 :: v103 :: v104 :: v105 :: v106 :: v107 :: v108 :: v109 :: v110 :: v111 :: v112 :: v113 :: v114 :: v115 :: v116 :: v117 :: v118 :: v119 :: v120 :: u121 :: u122 :: u123 :: u124 :: u125 :: u126 :: u127 :: u128 :: u129 :: u130 :: u131 :: u132 :: u133 :: u134 :: u135 :: u136 :: u137 :: u138 :: u139 :: u140 :: u141 :: u142 :: u143 :: u144 :: u145 :: u146 :: u147 :: u148 :: u149 :: u150 :: u151 :: u152 :: u153 :: u154 :: u155 :: u156 :: u157 :: u158 :: u159 :: u160 :: u161 :: u162 :: u163 :: u164 :: u165 :: u166 :: u167 :: u168 :: u169 :: u170 :: u171 :: u172 :: u173 :: u174 :: u175 :: u176 :: u177 :: u178 :: u179 :: u180 :: u181 :: []).toArray, []⟩ wr) :
    Code.wp Try.prog (Code.loop spBody) Q0 ⟨((.slice ao n cap) :: u1 :: (.pointer (some ⟨rb, 0, none⟩)) :: (.pointer (some ⟨lb, 0, none⟩)) :: (.pointer (some ⟨mb, 0, none⟩)) :: (.int .i64 0) :: u6 :: u7 :: u8 :: u9 :: u10 :: u11 :: u12 :: u13 :: u14 :: u15 :: u16 :: u17 :: u18 :: u19 :: u20 :: u21 :: u22 :: u23 :: u24 :: u25 :: u26 :: u27 :: u28 :: u29 :: u30 :: u31 :: u32 :: u33 :: u34 :: u35 :: u36 :: u37 :: u38 :: u39 :: u40 :: u41 :: u42 :: u43 :: u44 :: u45 :: u46 :: u47 :: u48 :: u49 :: u50 :: u51 :: u52 :: u53 :: u54 :: u55 :: u56 :: u57 :: u58 :: u59 :: u60 :: u61 :: u62 :: u63 :: u64 :: u65 :: u66 :: u67 :: u68 :: u69 :: u70 :: u71 :: u72 :: u73 :: u74 :: u75 :: u76 :: u77 :: u78 :: u79 :: u80 :: u81 :: u82 :: u83 :: u84 :: u85 :: u86 :: u87 :: u88 :: u89 :: u90 :: u91 :: u92 :: u93 :: u94 :: u95 :: u96 :: u97 :: u98 :: u99 :: u100 :: u101 :: u102 :: u103 :: u104 :: u105 :: u106 :: u107 :: u108 :: u109 :: u110 :: u111 :: u112 :: u113 :: u114 :: u115 :: u116 :: u117 :: u118 :: u119 :: u120 :: u121 :: u122 :: u123 :: u124 :: u125 :: u126 :: u127 :: u128 :: u129 :: u130 :: u131 :: u132 :: u133 :: u134 :: u135 :: u136 :: u137 :: u138 :: u139 :: u140 :: u141 :: u142 :: u143 :: u144 :: u145 :: u146 :: u147 :: u148 :: u149 :: u150 :: u151 :: u152 :: u153 :: u154 :: u155 :: u156 :: u157 :: u158 :: u159 :: u160 :: u161 :: u162 :: u163 :: u164 :: u165 :: u166 :: u167 :: u168 :: u169 :: u170 :: u171 :: u172 :: u173 :: u174 :: u175 :: u176 :: u177 :: u178 :: u179 :: u180 :: u181 :: []).toArray, []⟩ W1 := by
  have H := Lib.hid hD
  have Hok := Lib.hid hok
  have Hl := Lib.hid hD.len
  have hc1 := Arr.fits hD
  have hc2 := Arr.max hD
  unfold maxLen at hc2
  clear hD hok
  conv => arg 2; arg 1; whnf
  go_loopw [5] (fun i wr => ∃ (k : Nat) (l : List CH) (F : Nat → Prop) (v : Value), k ≤ n ∧ k ≤ 200 ∧ i = .int .i64 k ∧ Hid (PlK w rb mb lb k l F v wr)) (fun i _ => 200 - (intOf i).toNat)
  case atStart => exact ⟨0, [], F0, _, by omega, by omega, rfl, Lib.hid h0⟩
  case round =>
    clear h0
    obtain ⟨k, l, F, v, hk, hk2, rfl, hP⟩ := hrel
    have hz := hP.out.bel.size
    by_cases hlt : k < n ∧ k < 200
    · obtain ⟨hlt, hlt2⟩ := hlt
      obtain ⟨d, hd⟩ : ∃ d, ds[k]? = some d := ⟨_, List.getElem?_eq_getElem (by rw [Hl.out]; omega)⟩
      obtain ⟨b, off, rfl, hbl, hDd⟩ := Dos.at_ H.out hd
      have hdok := Hok.out d (List.mem_of_getElem? hd)
      have hlen := hP.out.len
      obtain ⟨t1, t2, rfl, m0, m1⟩ := hP.out.m
      obtain ⟨hrl, hml⟩ := hP.out.lt
      have HX := Lib.hid fun (W : World) (hW : Below w.heap.size w W) => hDd.below hbl hW
      have hbr : b < wr.heap.size := by omega
      have HXr := Lib.hid fun (W : World) (hW : Below wr.heap.size wr W) => HX.out W (hP.out.bel.trans (hW.mono hz))
      have HM := Lib.hid fun (W : World) (hW : Below wr.heap.size wr W) => And.intro ((hW.cell (p := ⟨mb, 0, none⟩) hml).trans m0) ((hW.cell (p := ⟨mb, 1, none⟩) hml).trans m1)
      have KP := Lib.hid fun (W : World) (hW : Below wr.heap.size wr W) => rput_any d.c hdok d.h l _ W (hP.out.lm.below hW) (by omega)
      have KQ := Lib.hid fun (W : World) (hW : Below wr.heap.size wr W) => put_slx d.c hdok d.h lb l F W (hP.out.sl.below hW) (by omega)
      have Hon := Lib.hid hP.out.lm.on
      obtain ⟨⟨cr, cc, cv, cg, cl⟩, dh, dl⟩ := d
      simp only at KP KQ
      obtain ⟨l', hl'⟩ : ∃ l', l' = putX ⟨cr, cc, cv, cg, cl⟩ dh l := ⟨_, rfl⟩
      obtain ⟨E, hE⟩ : ∃ E, E = putE ⟨cr, cc, cv, cg, cl⟩ dh := ⟨_, rfl⟩
      have Hll : Hid (l'.length ≤ l.length + 1) := Lib.hid (by rw [hl']; exact putX_len _ _ _)
      have Hhh : Hid (∀ p ∈ l', p.2 ≤ 12) := Lib.hid (by rw [hl']; exact putX_h hP.out.hts)
      rw [← hl', ← hE] at KP KQ
      obtain ⟨q, hq⟩ : ∃ q, q = l'.length := ⟨_, rfl⟩
      have hq2 : q ≤ 201 := by have := Hll.out; omega
      have Hq := Lib.hid hq
      clear hq
      obtain ⟨x0, x1, x2, x3, x4, x5, x6⟩ := HX.out _ hP.out.bel
      simp only at x0 x1 x2 x3 x4 x5 x6
      clear hd hDd hdok hl' hE
      go_wp2_with fail
      go_cut [6, 7] from 23 to 120 (fun a e wx => ∃ (x' : Nat) (a1 : Option Addr) (c1 : Nat) (a2 : Option Addr) (c2 : Nat), a = .pointer (some ⟨x', 0, none⟩) ∧ e = .int .i64 E ∧ wr.heap.size ≤ x' ∧ x' < (wx : World).heap.size ∧ Below wr.heap.size wr wx ∧ wx.cell? ⟨x', 0, none⟩ = some (.slice a1 q c1) ∧ wx.cell? ⟨x', 1, none⟩ = some (.slice a2 q c2) ∧
        LM wx (Value.agg #[.slice a1 q c1, .slice a2 q c2]) l' ∧ (NewS wr.heap.size (Value.agg #[.slice a1 q c1, .slice a2 q c2]) ∨ Value.agg #[.slice a1 q c1, .slice a2 q c2] = Value.agg #[t1, t2]))
      case first =>
        have HS : Hid (∀ W, Below wr.heap.size wr W → W.cell? ⟨mb, 0, none⟩ = some t1 ∧ W.cell? ⟨mb, 1, none⟩ = some t2 ∧ W.cell? ⟨b, off + k * 7, none⟩ = some (.string cr) ∧ W.cell? ⟨b, off + k * 7 + 1, none⟩ = some (.string cc) ∧ W.cell? ⟨b, off + k * 7 + 2, none⟩ = some (.int .u64 cv) ∧ W.cell? ⟨b, off + k * 7 + 3, none⟩ = some (.bool cg) ∧ W.cell? ⟨b, off + k * 7 + 4, none⟩ = some (.string cl) ∧ W.cell? ⟨b, off + k * 7 + 5, none⟩ = some (.int .i64 dh)) := Lib.hid fun W h => ⟨(HM.out W h).1, (HM.out W h).2, (HXr.out W h).c0, (HXr.out W h).c1, (HXr.out W h).c2, (HXr.out W h).c3, (HXr.out W h).c4, (HXr.out W h).c5⟩
        go_region_held3 (fun W => W.cell? ⟨mb, 0, none⟩ = some t1 ∧ W.cell? ⟨mb, 1, none⟩ = some t2 ∧ W.cell? ⟨b, off + k * 7, none⟩ = some (.string cr) ∧ W.cell? ⟨b, off + k * 7 + 1, none⟩ = some (.string cc) ∧ W.cell? ⟨b, off + k * 7 + 2, none⟩ = some (.int .u64 cv) ∧ W.cell? ⟨b, off + k * 7 + 3, none⟩ = some (.bool cg) ∧ W.cell? ⟨b, off + k * 7 + 4, none⟩ = some (.string cl) ∧ W.cell? ⟨b, off + k * 7 + 5, none⟩ = some (.int .i64 dh)) (exact HS.out _ (by go_grown)) (first | (go_at_call 14; refine (KP.out _ (by go_grown)).mono ?_; rintro e w5 ⟨v5, rfl, hM5, hN5, hb⟩; obtain ⟨a1, c1, a2, c2, rfl, _, _⟩ := hM5.ex; rw [← Hq.out] at hM5 hN5 ⊢; obtain ⟨hc5, hf5⟩ := bcell8 hb; have hz5 := hb.size; have hB5 : Below wr.heap.size wr w5 := Below.trans (by go_grown) (hb.mono (by go_size)); simp only [World.size_alloc, World.size_drew] at hz5 hc5 hf5; have hz4 : wr.heap.size ≤ w5.heap.size := (by omega); (try have hz6 : wr.heap.size < w5.heap.size := (by omega)); have HM5 := Lib.hid hM5; have HN5 := Lib.hid hN5; clear hb hM5 hN5))
        all_goals (go_wp2_with fail; go_meet; refine ⟨_, a1, c1, a2, c2, rfl, rfl, by omega, by go_size, by go_grown, ?_, ?_, ?_, ?_⟩)
        all_goals first
          | (go_simp; done)
          | (go_simp; exact World.cell?_setCell_same _ _ _ (by go_simp : _ = some (Value.slice none 0 0)))
          | exact HN5.out.imp (fun h => h.mono (by simp only [World.size_alloc, World.size_drew]; omega)) id
          | exact lm_after (z := w5.heap.size) HM5.out HN5.out Hon.out (by omega) (by omega) (by go_size) (fun g hg hne => Below.heap_alloc _ _ _ hg)
          | exact lm_after (z := wr.heap.size) HM5.out HN5.out Hon.out (by omega) (by simp only [World.size_alloc, World.size_drew]; omega) (by go_size) (fun g hg hne => (Below.heap_setCell _ _ _ _ hne).trans (Below.heap_setCell _ _ _ _ hne))
      case rest =>
        obtain ⟨x', a1, c1, a2, c2, rfl, rfl, hx0, hxl, hbx, e0, e1, hM5, hN5⟩ := hcut
        have hz5 := hbx.size
        have HB5 := Lib.hid hbx
        have HM5 := Lib.hid hM5
        have HN5 := Lib.hid hN5
        have hbw : Below w.heap.size w wc := hP.out.bel.trans (hbx.mono hz)
        have HX6 : Hid (∀ W, Below w.heap.size w W → W.cell? ⟨b, off + k * 7, none⟩ = some (.string cr) ∧ W.cell? ⟨b, off + k * 7 + 1, none⟩ = some (.string cc) ∧ W.cell? ⟨b, off + k * 7 + 2, none⟩ = some (.int .u64 cv) ∧ W.cell? ⟨b, off + k * 7 + 3, none⟩ = some (.bool cg) ∧ W.cell? ⟨b, off + k * 7 + 4, none⟩ = some (.string cl) ∧ W.cell? ⟨b, off + k * 7 + 5, none⟩ = some (.int .i64 dh)) := Lib.hid fun W h => ⟨(HX.out W h).c0, (HX.out W h).c1, (HX.out W h).c2, (HX.out W h).c3, (HX.out W h).c4, (HX.out W h).c5⟩
        clear hbx hM5 hN5
        go_wp2_with fail
        go_region_held3 (fun W => W.cell? ⟨b, off + k * 7, none⟩ = some (.string cr) ∧ W.cell? ⟨b, off + k * 7 + 1, none⟩ = some (.string cc) ∧ W.cell? ⟨b, off + k * 7 + 2, none⟩ = some (.int .u64 cv) ∧ W.cell? ⟨b, off + k * 7 + 3, none⟩ = some (.bool cg) ∧ W.cell? ⟨b, off + k * 7 + 4, none⟩ = some (.string cl) ∧ W.cell? ⟨b, off + k * 7 + 5, none⟩ = some (.int .i64 dh)) (first | exact HX6.out _ (by assumption) | exact HX6.out _ (by go_grown)) (first | (go_at_call 12; refine (KQ.out _ (HB5.out.trans (Below.mono (by go_grown : Below wc.heap.size wc _) hz5))).mono ?_; rintro e w6 ⟨rfl, F6, hS6, hK6, hF6⟩; have HPN := Lib.hid (hP.out.puts (HB5.out.trans (Below.mono (by go_grown : Below wc.heap.size wc _) hz5)) (HM5.out.below (by go_grown)) HN5.out hS6 hK6 hF6); have HPT := Lib.hid (hP.out.next (HB5.out.trans (Below.mono (by go_grown : Below wc.heap.size wc _) hz5)) (HM5.out.below (by go_grown)) HN5.out hS6 hK6 hF6 Hll.out Hhh.out); have hbw6 := HPN.out.1; have hk6x := hK6.block x' (by go_size) (fun hf => by have := hP.out.sl.inb _ hf; omega); have hz6 := hK6.size; simp only [World.size_drew] at hz6; have g0 := (World.cell?_of_block (a := ⟨x', 0, none⟩) hk6x).trans (by go_simp : _ = some (Value.slice a1 q c1)); have g1 := (World.cell?_of_block (a := ⟨x', 1, none⟩) hk6x).trans (by go_simp : _ = some (Value.slice a2 q c2)); have v0 := (World.cell?_of_block (a := ⟨mb, 0, none⟩) HPN.out.2.2.2.2.1).trans m0; have v1 := (World.cell?_of_block (a := ⟨mb, 1, none⟩) HPN.out.2.2.2.2.1).trans m1; have v2 := (World.frozen?_of_block (a := ⟨mb, 0, none⟩) HPN.out.2.2.2.2.1).trans hP.out.mf0; have v3 := (World.frozen?_of_block (a := ⟨mb, 1, none⟩) HPN.out.2.2.2.2.1).trans hP.out.mf1; clear hS6 hK6 hF6 hk6x))
        go_wp2_with fail
        obtain ⟨W7, hW7⟩ : ∃ W : World, W = (w6.setCell ⟨mb, 0, none⟩ (.slice a1 q c1)).setCell ⟨mb, 1, none⟩ (.slice a2 q c2) := ⟨_, rfl⟩
        rw [← hW7]
        rw [← hW7] at HPT
        have hbw7 := HPT.out.bel
        obtain ⟨y0, y1, _, _, _, _, y6⟩ := HX.out _ hbw7
        simp only at y0 y1 y6
        have hz7 := hbw7.size
        have hb7 : b < W7.heap.size := by omega
        clear hW7 g0 g1 v0 v1 v2 v3 e0 e1 HPN HB5 HM5 HN5 hx0 hxl hz5 hz6 hbw hbw6 KQ KP HXr HM Hon
        refine wp_region_below (by kernel_rfl) (by kernel_rfl) (fun hkept => ?_)
        obtain ⟨r0, rf0⟩ := hkept (b) (by go_size); clear hkept
        repeat (any_goals (first | go_big_quiet_step (fail) | quiet_step (fail) | (refine wpQuiet_step (fun K hK => ?_); go_simp; split <;> (refine hK _ ?_; clear hK K))))
        all_goals (refine wpQuiet_nil ?_; intro w8 hb; obtain ⟨hB, hS, hk⟩ := after (B := W7.heap.size) (w := W7) (by go_grown) (by go_size) hb; obtain ⟨c0, f0, z0⟩ := hk (b) (by go_size); clear hk hb r0 rf0)
        have HP8 := Lib.hid (HPT.out.below hB)
        have e7 := get_same cr cc HP8.out.sl.up
        have KG := Lib.hid fun (W : World) (hs : SL lb l' F6 W) => get_sl cr cc lb l' F6 W hs
        have KR := Lib.hid fun (W : World) (hs : LM W (.agg #[.slice a1 q c1, .slice a2 q c2]) l') => rget8_any cr cc l' _ W hs
        rw [e7] at KG
        have y6 := (c0 _).trans y6
        have hb8 : b < w8.heap.size := by omega
        clear e7 c0 f0 z0 hB y0 y1 HPT hz7 hb7 hbw7
        cases hg : getD8 cr cc l' with
        | none =>
          rw [hg] at KG KR
          simp only [getV8] at KG KR
          clear hg
          go_wp2_with fail
          refine (KG.out _ HP8.out.sl).mono ?_
          rintro e w9 ⟨rfl, hb⟩
          have HP9 := Lib.hid (HP8.out.below hb)
          obtain ⟨s1, s2, e3, n0, n1⟩ := HP9.out.m
          cases e3
          have y6 := (hb.cell (p := ⟨b, _, none⟩) hb8).trans y6
          have hml9 := HP9.out.lt.2
          have hz9 := hb.size
          have hb9 : b < w9.heap.size := by omega
          clear hb HP8 hb8
          go_wp2_with fail
          refine (KR.out _ (HP9.out.lm.below (by go_grown))).mono ?_
          rintro e w10 ⟨rfl, hb⟩
          obtain ⟨hB, hS, hk⟩ := after (B := w9.heap.size) (w := w9) (by go_grown) (by go_size) hb
          obtain ⟨p, hp⟩ : ∃ p, p = w9.heap.size := ⟨_, rfl⟩
          obtain ⟨r, hr⟩ : ∃ r, r = w10.heap.size := ⟨_, rfl⟩
          obtain ⟨cp, fp, zp⟩ := hk w9.heap.size (by go_size)
          obtain ⟨p0, p1, p2, p3, p4⟩ : w10.cell? ⟨p, 0, none⟩ = some (.string ⟨#[]⟩) ∧ w10.cell? ⟨p, 1, none⟩ = some (.string ⟨#[]⟩) ∧ w10.cell? ⟨p, 2, none⟩ = some (.int .u64 0) ∧ w10.cell? ⟨p, 3, none⟩ = some (.bool false) ∧ w10.cell? ⟨p, 4, none⟩ = some (.string ⟨#[]⟩) := by rw [hp]; exact ⟨(cp 0).trans (by go_simp), (cp 1).trans (by go_simp), (cp 2).trans (by go_simp), (cp 3).trans (by go_simp), (cp 4).trans (by go_simp)⟩
          have HPX := Lib.hid (HP9.out.below hB)
          obtain ⟨s1, s2, e3, n0, n1⟩ := HPX.out.m
          cases e3
          have y6 := (hB.cell (p := ⟨b, _, none⟩) hb9).trans y6
          have hmlx := HPX.out.lt.2
          have hbx : b < w10.heap.size := by omega
          have hpx : p < w10.heap.size := by omega
          rw [← hp]
          have Hr := Lib.hid hr
          have hp9 : p ≤ w10.heap.size - 1 := by omega
          clear hb hk cp fp hp hr HP9 hml9 hb9 KG KR hS
          go_wp2_with fail
          obtain ⟨WA, hWA⟩ : ∃ W : World, W = w10.alloc (.cells #[.string ⟨#[]⟩, .string ⟨#[]⟩, .int .u64 0, .bool false, .string ⟨#[]⟩] 26) := ⟨_, rfl⟩
          rw [← hWA, ← Hr.out]
          have hBA : Below w10.heap.size w10 WA := by rw [hWA]; exact (Below.refl _ _).alloc (Nat.le_refl _) _
          have HPA := Lib.hid (HPX.out.below hBA)
          have hpn : ¬ p = w10.heap.size := by omega
          have hbn : ¬ b = w10.heap.size := by omega
          have hmn : ¬ mb = w10.heap.size := by omega
          have hq0 : WA.cell? ⟨p, 0, none⟩ = some (.string ⟨#[]⟩) ∧ WA.cell? ⟨p, 1, none⟩ = some (.string ⟨#[]⟩) ∧ WA.cell? ⟨p, 2, none⟩ = some (.int .u64 0) ∧ WA.cell? ⟨p, 3, none⟩ = some (.bool false) ∧ WA.cell? ⟨p, 4, none⟩ = some (.string ⟨#[]⟩) ∧ WA.cell? ⟨r, 0, none⟩ = some (.string ⟨#[]⟩) ∧ WA.cell? ⟨r, 1, none⟩ = some (.string ⟨#[]⟩) ∧ WA.cell? ⟨r, 2, none⟩ = some (.int .u64 0) ∧ WA.cell? ⟨r, 3, none⟩ = some (.bool false) ∧ WA.cell? ⟨r, 4, none⟩ = some (.string ⟨#[]⟩) ∧ WA.cell? ⟨mb, 0, none⟩ = some (.slice a1 q c1) ∧ WA.cell? ⟨mb, 1, none⟩ = some (.slice a2 q c2) ∧ WA.cell? ⟨b, off + k * 7 + 6, none⟩ = some (.int .i64 dl) := by
            rw [hWA, Hr.out]
            refine ⟨?_, ?_, ?_, ?_, ?_, ?_, ?_, ?_, ?_, ?_, ?_, ?_, ?_⟩ <;> go_simp
          have hzA := hBA.size
          have hpA : p < WA.heap.size := by omega
          have hrA : r < WA.heap.size := by rw [hWA, Hr.out, World.size_alloc]; omega
          have hmA : mb < WA.heap.size := by omega
          have hbA : b < WA.heap.size := by omega
          have HS : Hid (∀ W, Below WA.heap.size WA W → W.cell? ⟨p, 0, none⟩ = some (.string ⟨#[]⟩) ∧ W.cell? ⟨p, 1, none⟩ = some (.string ⟨#[]⟩) ∧ W.cell? ⟨p, 2, none⟩ = some (.int .u64 0) ∧ W.cell? ⟨p, 3, none⟩ = some (.bool false) ∧ W.cell? ⟨p, 4, none⟩ = some (.string ⟨#[]⟩) ∧ W.cell? ⟨r, 0, none⟩ = some (.string ⟨#[]⟩) ∧ W.cell? ⟨r, 1, none⟩ = some (.string ⟨#[]⟩) ∧ W.cell? ⟨r, 2, none⟩ = some (.int .u64 0) ∧ W.cell? ⟨r, 3, none⟩ = some (.bool false) ∧ W.cell? ⟨r, 4, none⟩ = some (.string ⟨#[]⟩) ∧ W.cell? ⟨mb, 0, none⟩ = some (.slice a1 q c1) ∧ W.cell? ⟨mb, 1, none⟩ = some (.slice a2 q c2) ∧ W.cell? ⟨b, off + k * 7 + 6, none⟩ = some (.int .i64 dl)) := Lib.hid fun W h => ⟨(h.cell (p := ⟨p, _, none⟩) hpA).trans hq0.1, (h.cell (p := ⟨p, _, none⟩) hpA).trans hq0.2.1, (h.cell (p := ⟨p, _, none⟩) hpA).trans hq0.2.2.1, (h.cell (p := ⟨p, _, none⟩) hpA).trans hq0.2.2.2.1, (h.cell (p := ⟨p, _, none⟩) hpA).trans hq0.2.2.2.2.1, (h.cell (p := ⟨r, _, none⟩) hrA).trans hq0.2.2.2.2.2.1, (h.cell (p := ⟨r, _, none⟩) hrA).trans hq0.2.2.2.2.2.2.1, (h.cell (p := ⟨r, _, none⟩) hrA).trans hq0.2.2.2.2.2.2.2.1, (h.cell (p := ⟨r, _, none⟩) hrA).trans hq0.2.2.2.2.2.2.2.2.1, (h.cell (p := ⟨r, _, none⟩) hrA).trans hq0.2.2.2.2.2.2.2.2.2.1, (h.cell (p := ⟨mb, _, none⟩) hmA).trans hq0.2.2.2.2.2.2.2.2.2.2.1, (h.cell (p := ⟨mb, _, none⟩) hmA).trans hq0.2.2.2.2.2.2.2.2.2.2.2.1, (h.cell (p := ⟨b, _, none⟩) hbA).trans hq0.2.2.2.2.2.2.2.2.2.2.2.2⟩
          clear hq0 hWA hpn hbn hmn p0 p1 p2 p3 p4 n0 n1 y6 HPX hBA hB zp
          have hrfA := Below.refl WA.heap.size WA
          go_region_held3 (fun W => W.cell? ⟨p, 0, none⟩ = some (.string ⟨#[]⟩) ∧ W.cell? ⟨p, 1, none⟩ = some (.string ⟨#[]⟩) ∧ W.cell? ⟨p, 2, none⟩ = some (.int .u64 0) ∧ W.cell? ⟨p, 3, none⟩ = some (.bool false) ∧ W.cell? ⟨p, 4, none⟩ = some (.string ⟨#[]⟩) ∧ W.cell? ⟨r, 0, none⟩ = some (.string ⟨#[]⟩) ∧ W.cell? ⟨r, 1, none⟩ = some (.string ⟨#[]⟩) ∧ W.cell? ⟨r, 2, none⟩ = some (.int .u64 0) ∧ W.cell? ⟨r, 3, none⟩ = some (.bool false) ∧ W.cell? ⟨r, 4, none⟩ = some (.string ⟨#[]⟩) ∧ W.cell? ⟨mb, 0, none⟩ = some (.slice a1 q c1) ∧ W.cell? ⟨mb, 1, none⟩ = some (.slice a2 q c2) ∧ W.cell? ⟨b, off + k * 7 + 6, none⟩ = some (.int .i64 dl)) (first | exact HS.out _ (by assumption) | exact HS.out _ (by go_grown)) (first
            | (go_at_call 17; refine (len_sl lb l' F6 _ (HPA.out.sl.below (by go_grown))).mono ?_; rintro e w11 ⟨rfl, rfl⟩; rw [← Hq.out])
            | (go_at_call 19; refine (rfrom8_any cr cc l' _ _ (HPA.out.lm.below (by go_grown))).mono ?_; rintro e w12 ⟨ao9, m9, cap9, rfl, hCf, hb⟩; have hbA2 : Below WA.heap.size WA w12 := Below.trans (by go_grown) (hb.mono (by go_size)); have hzA2 := hbA2.size; have HCf := Lib.hid hCf; have hrf12 := Below.refl w12.heap.size w12; clear hb hCf)
            | (go_at_call 18; refine (tells_any lb l' F6 cr cc ao9 m9 cap9 dl _ (HPA.out.sl.below (by go_grown)) (by rw [← Hq.out]; omega) (Arr.below HCf.out (by go_grown))).mono ?_; rintro e w13 ⟨rfl, hb⟩; have hbA3 : Below WA.heap.size WA w13 := Below.trans (by go_grown) (hb.mono (by go_size)); have hzA3 := hbA3.size; clear hb))
          all_goals
            go_wp2_with fail
            exact ⟨⟨k + 1, l', F6, _, by omega, by omega, by go_num, Lib.hid (HPA.out.below (by go_grown))⟩, by simp [intOf]; omega⟩
        | some yy =>
          obtain ⟨yr, yc, yv, yg, yl⟩ := yy
          rw [hg] at KG KR
          simp only [getV8] at KG KR
          clear hg
          go_wp2_with fail
          refine (KG.out _ HP8.out.sl).mono ?_
          rintro e w9 ⟨rfl, hb⟩
          have HP9 := Lib.hid (HP8.out.below hb)
          obtain ⟨s1, s2, e3, n0, n1⟩ := HP9.out.m
          cases e3
          have y6 := (hb.cell (p := ⟨b, _, none⟩) hb8).trans y6
          have hml9 := HP9.out.lt.2
          have hz9 := hb.size
          have hb9 : b < w9.heap.size := by omega
          clear hb HP8 hb8
          go_wp2_with fail
          refine (KR.out _ (HP9.out.lm.below (by go_grown))).mono ?_
          rintro e w10 ⟨rfl, hb⟩
          obtain ⟨hB, hS, hk⟩ := after (B := w9.heap.size) (w := w9) (by go_grown) (by go_size) hb
          obtain ⟨p, hp⟩ : ∃ p, p = w9.heap.size := ⟨_, rfl⟩
          obtain ⟨r, hr⟩ : ∃ r, r = w10.heap.size := ⟨_, rfl⟩
          obtain ⟨cp, fp, zp⟩ := hk w9.heap.size (by go_size)
          obtain ⟨p0, p1, p2, p3, p4⟩ : w10.cell? ⟨p, 0, none⟩ = some (.string yr) ∧ w10.cell? ⟨p, 1, none⟩ = some (.string yc) ∧ w10.cell? ⟨p, 2, none⟩ = some (.int .u64 yv) ∧ w10.cell? ⟨p, 3, none⟩ = some (.bool yg) ∧ w10.cell? ⟨p, 4, none⟩ = some (.string yl) := by rw [hp]; exact ⟨(cp 0).trans (by go_simp), (cp 1).trans (by go_simp), (cp 2).trans (by go_simp), (cp 3).trans (by go_simp), (cp 4).trans (by go_simp)⟩
          have HPX := Lib.hid (HP9.out.below hB)
          obtain ⟨s1, s2, e3, n0, n1⟩ := HPX.out.m
          cases e3
          have y6 := (hB.cell (p := ⟨b, _, none⟩) hb9).trans y6
          have hmlx := HPX.out.lt.2
          have hbx : b < w10.heap.size := by omega
          have hpx : p < w10.heap.size := by omega
          rw [← hp]
          have Hr := Lib.hid hr
          have hp9 : p ≤ w10.heap.size - 1 := by omega
          clear hb hk cp fp hp hr HP9 hml9 hb9 KG KR hS
          go_wp2_with fail
          obtain ⟨WA, hWA⟩ : ∃ W : World, W = w10.alloc (.cells #[.string yr, .string yc, .int .u64 yv, .bool yg, .string yl] 26) := ⟨_, rfl⟩
          rw [← hWA, ← Hr.out]
          have hBA : Below w10.heap.size w10 WA := by rw [hWA]; exact (Below.refl _ _).alloc (Nat.le_refl _) _
          have HPA := Lib.hid (HPX.out.below hBA)
          have hpn : ¬ p = w10.heap.size := by omega
          have hbn : ¬ b = w10.heap.size := by omega
          have hmn : ¬ mb = w10.heap.size := by omega
          have hq0 : WA.cell? ⟨p, 0, none⟩ = some (.string yr) ∧ WA.cell? ⟨p, 1, none⟩ = some (.string yc) ∧ WA.cell? ⟨p, 2, none⟩ = some (.int .u64 yv) ∧ WA.cell? ⟨p, 3, none⟩ = some (.bool yg) ∧ WA.cell? ⟨p, 4, none⟩ = some (.string yl) ∧ WA.cell? ⟨r, 0, none⟩ = some (.string yr) ∧ WA.cell? ⟨r, 1, none⟩ = some (.string yc) ∧ WA.cell? ⟨r, 2, none⟩ = some (.int .u64 yv) ∧ WA.cell? ⟨r, 3, none⟩ = some (.bool yg) ∧ WA.cell? ⟨r, 4, none⟩ = some (.string yl) ∧ WA.cell? ⟨mb, 0, none⟩ = some (.slice a1 q c1) ∧ WA.cell? ⟨mb, 1, none⟩ = some (.slice a2 q c2) ∧ WA.cell? ⟨b, off + k * 7 + 6, none⟩ = some (.int .i64 dl) := by
            rw [hWA, Hr.out]
            refine ⟨?_, ?_, ?_, ?_, ?_, ?_, ?_, ?_, ?_, ?_, ?_, ?_, ?_⟩ <;> go_simp
          have hzA := hBA.size
          have hpA : p < WA.heap.size := by omega
          have hrA : r < WA.heap.size := by rw [hWA, Hr.out, World.size_alloc]; omega
          have hmA : mb < WA.heap.size := by omega
          have hbA : b < WA.heap.size := by omega
          have HS : Hid (∀ W, Below WA.heap.size WA W → W.cell? ⟨p, 0, none⟩ = some (.string yr) ∧ W.cell? ⟨p, 1, none⟩ = some (.string yc) ∧ W.cell? ⟨p, 2, none⟩ = some (.int .u64 yv) ∧ W.cell? ⟨p, 3, none⟩ = some (.bool yg) ∧ W.cell? ⟨p, 4, none⟩ = some (.string yl) ∧ W.cell? ⟨r, 0, none⟩ = some (.string yr) ∧ W.cell? ⟨r, 1, none⟩ = some (.string yc) ∧ W.cell? ⟨r, 2, none⟩ = some (.int .u64 yv) ∧ W.cell? ⟨r, 3, none⟩ = some (.bool yg) ∧ W.cell? ⟨r, 4, none⟩ = some (.string yl) ∧ W.cell? ⟨mb, 0, none⟩ = some (.slice a1 q c1) ∧ W.cell? ⟨mb, 1, none⟩ = some (.slice a2 q c2) ∧ W.cell? ⟨b, off + k * 7 + 6, none⟩ = some (.int .i64 dl)) := Lib.hid fun W h => ⟨(h.cell (p := ⟨p, _, none⟩) hpA).trans hq0.1, (h.cell (p := ⟨p, _, none⟩) hpA).trans hq0.2.1, (h.cell (p := ⟨p, _, none⟩) hpA).trans hq0.2.2.1, (h.cell (p := ⟨p, _, none⟩) hpA).trans hq0.2.2.2.1, (h.cell (p := ⟨p, _, none⟩) hpA).trans hq0.2.2.2.2.1, (h.cell (p := ⟨r, _, none⟩) hrA).trans hq0.2.2.2.2.2.1, (h.cell (p := ⟨r, _, none⟩) hrA).trans hq0.2.2.2.2.2.2.1, (h.cell (p := ⟨r, _, none⟩) hrA).trans hq0.2.2.2.2.2.2.2.1, (h.cell (p := ⟨r, _, none⟩) hrA).trans hq0.2.2.2.2.2.2.2.2.1, (h.cell (p := ⟨r, _, none⟩) hrA).trans hq0.2.2.2.2.2.2.2.2.2.1, (h.cell (p := ⟨mb, _, none⟩) hmA).trans hq0.2.2.2.2.2.2.2.2.2.2.1, (h.cell (p := ⟨mb, _, none⟩) hmA).trans hq0.2.2.2.2.2.2.2.2.2.2.2.1, (h.cell (p := ⟨b, _, none⟩) hbA).trans hq0.2.2.2.2.2.2.2.2.2.2.2.2⟩
          clear hq0 hWA hpn hbn hmn p0 p1 p2 p3 p4 n0 n1 y6 HPX hBA hB zp
          have hrfA := Below.refl WA.heap.size WA
          go_region_held3 (fun W => W.cell? ⟨p, 0, none⟩ = some (.string yr) ∧ W.cell? ⟨p, 1, none⟩ = some (.string yc) ∧ W.cell? ⟨p, 2, none⟩ = some (.int .u64 yv) ∧ W.cell? ⟨p, 3, none⟩ = some (.bool yg) ∧ W.cell? ⟨p, 4, none⟩ = some (.string yl) ∧ W.cell? ⟨r, 0, none⟩ = some (.string yr) ∧ W.cell? ⟨r, 1, none⟩ = some (.string yc) ∧ W.cell? ⟨r, 2, none⟩ = some (.int .u64 yv) ∧ W.cell? ⟨r, 3, none⟩ = some (.bool yg) ∧ W.cell? ⟨r, 4, none⟩ = some (.string yl) ∧ W.cell? ⟨mb, 0, none⟩ = some (.slice a1 q c1) ∧ W.cell? ⟨mb, 1, none⟩ = some (.slice a2 q c2) ∧ W.cell? ⟨b, off + k * 7 + 6, none⟩ = some (.int .i64 dl)) (first | exact HS.out _ (by assumption) | exact HS.out _ (by go_grown)) (first
            | (go_at_call 17; refine (len_sl lb l' F6 _ (HPA.out.sl.below (by go_grown))).mono ?_; rintro e w11 ⟨rfl, rfl⟩; rw [← Hq.out])
            | (go_at_call 19; refine (rfrom8_any cr cc l' _ _ (HPA.out.lm.below (by go_grown))).mono ?_; rintro e w12 ⟨ao9, m9, cap9, rfl, hCf, hb⟩; have hbA2 : Below WA.heap.size WA w12 := Below.trans (by go_grown) (hb.mono (by go_size)); have hzA2 := hbA2.size; have HCf := Lib.hid hCf; have hrf12 := Below.refl w12.heap.size w12; clear hb hCf)
            | (go_at_call 18; refine (tells_any lb l' F6 cr cc ao9 m9 cap9 dl _ (HPA.out.sl.below (by go_grown)) (by rw [← Hq.out]; omega) (Arr.below HCf.out (by go_grown))).mono ?_; rintro e w13 ⟨rfl, hb⟩; have hbA3 : Below WA.heap.size WA w13 := Below.trans (by go_grown) (hb.mono (by go_size)); have hzA3 := hbA3.size; clear hb))
          all_goals
            go_wp2_with fail
            exact ⟨⟨k + 1, l', F6, _, by omega, by omega, by go_num, Lib.hid (HPA.out.below (by go_grown))⟩, by simp [intOf]; omega⟩
    · have hno : (decide (k < n) = false) ∨ (decide (k < n) = true ∧ decide ((k : Int) < 200) = false) := by
        by_cases h1 : k < n
        · exact .inr ⟨by simpa using h1, by simp; omega⟩
        · exact .inl (by simpa using h1)
      clear hlt
      rcases hno with hno | ⟨hno1, hno2⟩
      all_goals
        go_wp2_with fail
        exact hexit k l F v _ _ _ _ _ _ _ _ _ _ _ _ _ _ _ _ _ _ _ _ _ _ _ _ _ _ _ _ _ _ _ _ _ _ _ _ _ _ _ _ _ _ _ _ _ _ _ _ _ _ _ _ _ _ _ _ _ _ _ _ _ _ _ _ _ _ _ _ _ _ _ _ _ _ _ _ _ _ _ _ _ _ _ _ _ _ _ _ _ _ _ _ _ _ _ _ _ _ _ _ _ _ _ _ _ _ wr hk2 hP.out

noncomputable def spBody2 : Code := (((Try.f4.body.map loopsOf).getD [])[1]?).getD .skip
set_option maxRecDepth 1000000 in
set_option maxHeartbeats 16000000 in
theorem sp_loop2 {Q0 : Exit → Act → World → Prop} {W1 : World} {g gw : Nat} {ds : List Deferred} {f : Nat → Int}
    {u0 u1 u2 u3 u4 u5 u6 u7 u8 u9 u10 u11 u12 u13 u14 u15 u19 u20 u21 u22 u23 u24 u25 u26 u27 u28 u29 u30 u31 u32 u33 u34 u35 u36 u37 u38 u39 u40 u41 u42 u43 u44 u45 u46 u47 u48 u49 u50 u51 u52 u53 u54 u55 u56 u57 u58 u59 u60 u61 u62 u63 u64 u65 u66 u67 u68 u69 u70 u71 u72 u73 u74 u75 u76 u77 u78 u79 u80 u81 u82 u83 u84 u85 u86 u87 u88 u89 u90 u91 u92 u93 u94 u95 u96 u97 u98 u99 u100 u101 u102 u103 u104 u105 u106 u107 u108 u109 u110 u111 u112 u113 u114 u115 u116 u117 u118 u119 u120 u121 u122 u123 u124 u125 u126 u127 u128 u129 u130 u131 u132 u133 u134 u135 u136 u137 u138 u139 u140 u141 u142 u143 u144 u145 u146 u147 u148 u149 u150 u151 u152 u153 u154 u155 u156 u157 u158 u159 u160 u161 u162 u163 u164 u165 u166 u167 u168 u169 u170 u171 u172 u173 u174 u175 u176 u177 u178 u179 u180 u181 : Value}
    (hg : Twelve W1 g f) (hw : Twelve W1 gw f) (hne : g ≠ gw)
    (hexit : ∀ (v154 v155 v156 v157 v158 v159 v160 v161 v162 v163 v164 v165 v166 v167 v168 v169 : Value) (wr : World), Kept (fun q => q = g) W1 wr → Q0 (.exit 4) ⟨(u0 :: u1 :: u2 :: u3 :: u4 :: u5 :: u6 :: u7 :: u8 :: u9 :: u10 :: u11 :: u12 :: u13 :: u14 :: u15 :: (.slice (some ⟨g, 0, none⟩) 12 12) :: (.slice (some ⟨gw, 0, none⟩) 12 12) :: (.int .i64 ((12 : Nat) : Int)) :: u19 :: u20 :: u21 :: u22 :: u23 :: u24 :: u25 :: u26 :: u27 :: u28 :: u29 :: u30 :: u31 :: u32 :: u33 :: u34 :: u35 :: u36 :: u37 :: u38 :: u39 :: u40 :: u41 :: u42 :: u43 :: u44 :: u45 :: u46 :: u47 :: u48 :: u49 :: u50 :: u51 :: u52 :: u53 :: u54 :: u55 :: u56 :: u57 :: u58 :: u59 :: u60 :: u61 :: u62 :: u63 :: u64 :: u65 :: u66 :: u67 :: u68 :: u69 :: u70 :: u71 :: u72 :: u73 :: u74 :: u75 :: u76 :: u77 :: u78 :: u79 :: u80 :: u81 :: u82 :: u83 :: u84 :: u85 :: u86 :: u87 :: u88 :: u89 :: u90 :: u91 :: u92 :: u93 :: u94 :: u95 :: u96 :: u97 :: u98 :: u99 :: u100 :: u101 :: u102 :: u103 :: u104 :: u105 :: u106 :: u107 :: u108 :: u109 :: u110 :: u111 :: u112 :: u113 :: u114 :: u115 :: u116 :: u117 :: u118 :: u119 :: u120 :: u121 :: u122 :: u123 :: u124 :: u125 :: u126 :: u127 :: u128 :: u129 :: u130 :: u131 :: u132 :: u133 :: u134 :: u135 :: u136 :: u137 :: u138 :: u139 :: u140 :: u141 :: u142 :: u143 :: u144 :: u145 :: u146 :: u147 :: u148 :: u149 :: u150 :: u151 :: u152 :: u153 :: v154 :: v155 :: v156 :: v157 :: v158 :: v159 :: v160 :: v161 :: v162 :: v163 :: v164 :: v165 :: v166 :: v167 :: v168 :: v169 :: u170 :: u171 :: u172 :: u173 :: u174 :: u175 :: u176 :: u177 :: u178 :: u179 :: u180 :: u181 :: []).toArray, ds⟩ wr) :
    Code.wp Try.prog (Code.loop spBody2) Q0 ⟨(u0 :: u1 :: u2 :: u3 :: u4 :: u5 :: u6 :: u7 :: u8 :: u9 :: u10 :: u11 :: u12 :: u13 :: u14 :: u15 :: (.slice (some ⟨g, 0, none⟩) 12 12) :: (.slice (some ⟨gw, 0, none⟩) 12 12) :: (.int .i64 0) :: u19 :: u20 :: u21 :: u22 :: u23 :: u24 :: u25 :: u26 :: u27 :: u28 :: u29 :: u30 :: u31 :: u32 :: u33 :: u34 :: u35 :: u36 :: u37 :: u38 :: u39 :: u40 :: u41 :: u42 :: u43 :: u44 :: u45 :: u46 :: u47 :: u48 :: u49 :: u50 :: u51 :: u52 :: u53 :: u54 :: u55 :: u56 :: u57 :: u58 :: u59 :: u60 :: u61 :: u62 :: u63 :: u64 :: u65 :: u66 :: u67 :: u68 :: u69 :: u70 :: u71 :: u72 :: u73 :: u74 :: u75 :: u76 :: u77 :: u78 :: u79 :: u80 :: u81 :: u82 :: u83 :: u84 :: u85 :: u86 :: u87 :: u88 :: u89 :: u90 :: u91 :: u92 :: u93 :: u94 :: u95 :: u96 :: u97 :: u98 :: u99 :: u100 :: u101 :: u102 :: u103 :: u104 :: u105 :: u106 :: u107 :: u108 :: u109 :: u110 :: u111 :: u112 :: u113 :: u114 :: u115 :: u116 :: u117 :: u118 :: u119 :: u120 :: u121 :: u122 :: u123 :: u124 :: u125 :: u126 :: u127 :: u128 :: u129 :: u130 :: u131 :: u132 :: u133 :: u134 :: u135 :: u136 :: u137 :: u138 :: u139 :: u140 :: u141 :: u142 :: u143 :: u144 :: u145 :: u146 :: u147 :: u148 :: u149 :: u150 :: u151 :: u152 :: u153 :: u154 :: u155 :: u156 :: u157 :: u158 :: u159 :: u160 :: u161 :: u162 :: u163 :: u164 :: u165 :: u166 :: u167 :: u168 :: u169 :: u170 :: u171 :: u172 :: u173 :: u174 :: u175 :: u176 :: u177 :: u178 :: u179 :: u180 :: u181 :: []).toArray, ds⟩ W1 := by
  have Hw := Lib.hid hw
  conv => arg 2; arg 1; whnf
  go_loopw [18] (fun i wr => ∃ k : Nat, k ≤ 12 ∧ i = .int .i64 k ∧ Hid (Kept (fun q => q = g) W1 wr) ∧ Hid (∃ f', Twelve wr g f' ∧ ∀ L, k ≤ L → f' L = f L)) (fun i _ => 12 - (intOf i).toNat)
  case atStart => exact ⟨0, by omega, rfl, Lib.hid (Kept.refl _ _), Lib.hid ⟨f, hg, fun _ _ => rfl⟩⟩
  case round =>
    clear hg hw
    obtain ⟨k, hk, rfl, hK, hT⟩ := hrel
    have hz := hK.out.size
    by_cases hlt : k < 12
    · obtain ⟨f', hT', hf⟩ := hT.out
      have y0 := hT'.c k hlt
      rw [hf k (Nat.le_refl _)] at y0
      have hwl := Hw.out.lt
      have hgl := hT'.lt
      have hgwl : gw < wr.heap.size := by omega
      have y1 := (World.cell?_of_block (a := ⟨gw, k, none⟩) (hK.out.block gw hwl (fun e => hne e.symm))).trans (Hw.out.c k hlt)
      have y2 := hT'.fr k
      obtain ⟨z, hz1⟩ : ∃ z, z = f k := ⟨_, rfl⟩
      rw [← hz1] at y0 y1
      have HT := Lib.hid hT'
      have Hf := Lib.hid hf
      clear hz1 hT' hf hT
      go_wp2
      refine wp_region_below (by kernel_rfl) (by kernel_rfl) (fun hkept => ?_)
      obtain ⟨r0, rf0⟩ := hkept (g) (by go_size); obtain ⟨r1, rf1⟩ := hkept (gw) (by go_size); clear hkept
      repeat (any_goals (first | go_big_quiet_step (fail) | quiet_step (fail) | (refine wpQuiet_step (fun K hK => ?_); go_simp; split <;> (refine hK _ ?_; clear hK K))))
      all_goals (refine wpQuiet_nil ?_; intro w9 hb; obtain ⟨hB, hS, hk⟩ := after (B := wr.heap.size) (w := wr) (by go_grown) (by go_size) hb; obtain ⟨c0, f0, z0⟩ := hk (g) (by go_size); obtain ⟨c1, f1, z1⟩ := hk (gw) (by go_size); clear hk hb r0 rf0 r1 rf1)
      have f9 := (f0 k).trans y2
      have c9 := (c0 k).trans y0
      have HK9 := Lib.hid (hK.out.trans (Kept.of_below (F := fun _ => False) hB) (fun _ h => h.elim))
      have HT9 := Lib.hid (HT.out.below hB)
      clear c0 f0 z0 c1 f1 z1 hB y0 y1 y2
      go_wp2
      exact ⟨⟨k + 1, by omega, by go_num, Lib.hid (HK9.out.setCell (.inl rfl) _), Lib.hid ⟨_, HT9.out.put hlt 77, fun L hL => by rw [if_neg (by omega)]; exact Hf.out L (by omega)⟩⟩, by simp [intOf]; omega⟩
    · obtain rfl : k = 12 := by omega
      go_wp2
      exact hK.out
end Go.Proofs.Ytlnfdejflpgleaa
