/-
  The chapter's examples, plainly: what a check finds in each; variables that hold a replica.
-/
import Derived.Test.YteibnignjghedaaAudWO
namespace Go.Proofs.Yteibnignjghedaa
open Go.RowKit Go.Sort

/-! ### the replicas -/
def ent3 : EntA := { oneE with term := 3 }
def entSeq : EntA := { oneE with cmd := { oneC with seq := 1 } }
def bEnt (g e : Nat) : SeenA := { oneS 1 g with ea := some ⟨e, 0, none⟩, es := [ent3] }
def bEp (g : Nat) : SeenA := { oneS 1 g with ep := 2 }
def bGr (g : Nat) : SeenA := { oneS 1 g with group := 4 }
def bSeq (g e : Nat) : SeenA := { oneS 1 g with ea := some ⟨e, 0, none⟩, es := [entSeq], com := 1 }
def bBase (m : Nat) : SeenA := { oneS 1 m with bidx := 2, bterm := 1, ba := some ⟨m, 0, none⟩, bn := 1, bc := 1, bm := [0], ea := none, en := 0, ec := 0, es := [] }
def bFr (g : Nat) : SeenA := { oneS 1 g with fr := true }
def aLead (g : Nat) : SeenA := leadA (oneS 0 g)
def bLead (g m : Nat) : SeenA := { oneS 1 g with leads := true, ht := 3, ba := some ⟨m, 0, none⟩, bn := 2, bc := 2, bm := [0, 1] }
def falls (g : Nat) : SeenA := { oneS 0 g with bterm := 3 }
def gapA (g : Nat) : SeenA := { oneS 0 g with lo := ⟨#[98]⟩ }
def bossA (k : Int) (nx : Int) (g : Nat) : SeenA := { oneS k g with group := 0, next := nx }
def x0 (g : Nat) : SeenA := { oneS 0 g with group := 12 }
def x1 (g : Nat) : SeenA := { oneS 0 g with bterm := 0 }
def x2 (g m : Nat) : SeenA := { oneS 0 g with ba := some ⟨m, 0, none⟩, bn := 2, bc := 2, bm := [1, 0] }
def x3 (g : Nat) : SeenA := { oneS 0 g with es := [{ oneE with idx := 3 }] }
def x4 (g : Nat) : SeenA := { oneS 0 g with com := 3 }
def x5 (g : Nat) : SeenA := { oneS 0 g with lo := ⟨#[98]⟩, hi := ⟨#[97]⟩ }
def x6 (g : Nat) : SeenA := { oneS 0 g with es := [{ oneE with kind := 2 }] }
def oneT4 : Says := (4, ⟨#[]⟩, ⟨#[]⟩, 1, [0, 1, 2])
def oneTb : Says := (3, ⟨#[98]⟩, ⟨#[]⟩, 1, [0, 1, 2])
def twoT : Says := (3, ⟨#[]⟩, ⟨#[]⟩, 1, [0, 1])
def oneT2 : Says := (3, ⟨#[]⟩, ⟨#[]⟩, 2, [0, 1, 2])
theorem gap_of_first {t : List Says} {x : Says} (hx : x ∈ t) (h1 : x.2.1 = ⟨#[]⟩) (h2 : x.2.2.1 = ⟨#[]⟩) : gapS t = false := by
  rw [gapS]
  have hm : (([] : List UInt8), ([] : List UInt8)) ∈ rgL (t.map rgS) := by
    rw [rgL, List.map_map]
    refine List.mem_map.2 ⟨x, hx, ?_⟩
    simp only [Function.comp, rgS, h1, h2, nilB]
  have : gapL (rgL (t.map rgS)) = none := by
    refine gap_none fun u => ⟨([], []), hm, ?_⟩
    simp [hasL, mayL]
  rw [this]; rfl
theorem gap_b : gapS [oneTb] = true := by
  rw [gapS]
  have h : rgL (List.map rgS [oneTb]) = [([98], [])] := by
    simp only [List.map_cons, List.map_nil, rgL, rgS, oneTb, nilB, Lib.toList_data]
  have : gapL (rgL (List.map rgS [oneTb])) = some ([], [98]) := by
    rw [h]
    exact GapOk.eq (x := some ([], [98])) ⟨fun t ht => absurd ht (not_lt_nil t), (fun hc => by have := covB_iff.2 hc; revert this; decide +kernel), .inr ⟨⟨([98], []), by simp, by decide +kernel, rfl⟩, by decide +kernel, by decide +kernel⟩⟩
  rw [this]; rfl
theorem g1 : gapS [oneT] = false := gap_one
theorem g2 : gapS [oneT2] = false := gap_of_first (x := oneT2) (by simp) rfl rfl
theorem g4 : gapS [oneT, oneT4] = false := gap_of_first (x := oneT) (by simp) rfl rfl
theorem k_ent (g g2 e : Nat) : checkL [oneS 0 g, bEnt g2 e] = [(6, 1)] := (check_c (t := [oneT]) (by kernel_rfl) g1).trans (by kernel_rfl)
theorem k_ep (g g2 : Nat) : checkL [oneS 0 g, bEp g2] = [(9, 1)] := (check_c (t := [oneT]) (by kernel_rfl) g1).trans (by kernel_rfl)
theorem k_gr (g g2 : Nat) : checkL [oneS 0 g, bGr g2] = [(8, 1)] := (check_c (t := [oneT, oneT4]) (by kernel_rfl) g4).trans (by kernel_rfl)
theorem k_seq (g g2 e : Nat) : checkL [oneS 0 g, bSeq g2 e] = [(4, 1)] := (check_c (t := [oneT]) (by kernel_rfl) g1).trans (by kernel_rfl)
theorem k_base (g m : Nat) : checkL [oneS 0 g, bBase m] = [(6, 1)] := (check_c (t := [oneT]) (by kernel_rfl) g1).trans (by kernel_rfl)
theorem k_fr (g g2 : Nat) : checkL [oneS 0 g, bFr g2] = [(9, 1)] := (check_c (t := [oneT]) (by kernel_rfl) g1).trans (by kernel_rfl)
theorem k_lead (g g2 m : Nat) : checkL [aLead g, bLead g2 m] = [] := (check_c (t := [oneT]) (by kernel_rfl) g1).trans (by kernel_rfl)
theorem t_lead (g g2 m : Nat) : tabsL [aLead g, bLead g2 m] = [oneT] := (tabs_c _).trans (by kernel_rfl)
theorem t_lead2 (g g2 m : Nat) : tabsL [bLead g2 m, aLead g] = [twoT] := (tabs_c _).trans (by kernel_rfl)
theorem k_falls (g : Nat) : checkL [falls g] = [(2, 0)] := (check_c (t := [oneT]) (by kernel_rfl) g1).trans (by kernel_rfl)
theorem k_gap (g : Nat) : checkL [gapA g] = [(5, 0)] := (check_c (t := [oneTb]) (by kernel_rfl) gap_b).trans (by kernel_rfl)
theorem k_bad (g : Nat) : checkL [oneS 5 g] = [(2, 0)] := (check_c (t := [oneT]) (by kernel_rfl) g1).trans (by kernel_rfl)
theorem k_boss (g g2 : Nat) : checkL [bossA 0 4 g, bossA 1 5 g2] = [(9, 1)] := (check_c (t := []) (by kernel_rfl) gap_no).trans (by kernel_rfl)
theorem k_x0 (g : Nat) : checkL [x0 g] = [(2, 0)] := (check_c (t := []) (by kernel_rfl) gap_no).trans (by kernel_rfl)
theorem k_x1 (g : Nat) : checkL [x1 g] = [(2, 0)] := (check_c (t := [oneT]) (by kernel_rfl) g1).trans (by kernel_rfl)
theorem k_x2 (g m : Nat) : ∃ t, tabsC [x2 g m] = [t] ∧ gapS [t] = false := ⟨(3, ⟨#[]⟩, ⟨#[]⟩, 1, [1, 0]), by kernel_rfl, gap_of_first List.mem_cons_self rfl rfl⟩
theorem k_x2c (g m : Nat) : checkL [x2 g m] = [(2, 0)] := (check_c (t := [(3, ⟨#[]⟩, ⟨#[]⟩, 1, [1, 0])]) (by kernel_rfl) (gap_of_first List.mem_cons_self rfl rfl)).trans (by kernel_rfl)
theorem k_x3 (g : Nat) : checkL [x3 g] = [(2, 0)] := (check_c (t := [oneT]) (by kernel_rfl) g1).trans (by kernel_rfl)
theorem k_x4 (g : Nat) : checkL [x4 g] = [(2, 0)] := (check_c (t := [oneT]) (by kernel_rfl) g1).trans (by kernel_rfl)
/-- of one that may not be nothing else is told -/
theorem check_bad {s : SeenA} (h : mayS s = false) : checkL [s] = [(2, 0)] := by
  have : argsN [s] 1 = [(2, 0)] := by
    rw [argsN]
    simp only [List.getElem?_cons_zero, h]
    rfl
  rw [checkL, List.length_singleton, this]
  simp
theorem k_x5 (g : Nat) : checkL [x5 g] = [(2, 0)] := check_bad ((may_c _).trans (by kernel_rfl))
theorem k_x6 (g : Nat) : checkL [x6 g] = [(2, 0)] := check_bad ((may_c _).trans (by kernel_rfl))
end Go.Proofs.Yteibnignjghedaa
