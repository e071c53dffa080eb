/-
  SkipKnown: what its closed lists are.
-/
import Derived.Test.YtlnfdejflpgleaaHeightsW
import Derived.Test.YtlnfdejflpgleaaNone8W
import Derived.Test.YtlnfdejflpgleaaMarksN
import Derived.Test.YtlnfdejflpgleaaWorks8W
import Derived.Test.YtlnfdejflpgleaaPutBad
import Derived.Test.YtlnfdejflpgleaaFree
namespace Go.Proofs.Ytlnfdejflpgleaa
open Go.RowKit Go.Sort

def gone2 : CellA := ⟨⟨#[97]⟩, ⟨#[120]⟩, 2, true, ⟨#[]⟩⟩
def wl4 : List CH := [(gone2, 12), (at8 97 1, 1), (at8 98 1, 3)]
theorem gone2_ok : gone2.Ok ∧ cellL gone2 = true := by
  obtain ⟨h, _⟩ := at8_ok 97 2 (by decide) (by decide)
  exact ⟨⟨h.row, h.col, h.val, by decide, by decide⟩, by decide +kernel⟩
theorem wl4_put : putV gone2 1 wl3 = wl4 := by
  have e : cmpC (at8 97 2) gone2 = 0 := by decide +kernel
  simp [wl3, wl4, putV, e]
theorem wl3_get2 : getW ⟨#[97]⟩ ⟨#[121]⟩ wl3 = .tuple #[.agg #[.string ⟨#[]⟩, .string ⟨#[]⟩, .int .u64 0, .bool false, .string ⟨#[]⟩], .bool false] := by
  have e1 : aheadP ⟨#[97]⟩ ⟨#[121]⟩ (at8 97 2) = true := by decide +kernel
  have e2 : aheadP ⟨#[97]⟩ ⟨#[121]⟩ (at8 97 1) = true := by decide +kernel
  have e3 : aheadP ⟨#[97]⟩ ⟨#[121]⟩ (at8 98 1) = false := by decide +kernel
  have e4 : ¬ ((at8 98 1).row.toList = (⟨#[97]⟩ : ByteArray).toList ∧ (at8 98 1).col.toList = (⟨#[121]⟩ : ByteArray).toList) := by decide +kernel
  simp only [getW, wl3, List.find?, e1, e2, e3, Bool.not_true, Bool.not_false]
  rw [if_neg e4]
theorem wl4_get : getW ⟨#[97]⟩ ⟨#[120]⟩ wl4 = .tuple #[.agg #[.string ⟨#[97]⟩, .string ⟨#[120]⟩, .int .u64 2, .bool true, .string ⟨#[]⟩], .bool true] := by
  have e1 : aheadP ⟨#[97]⟩ ⟨#[120]⟩ gone2 = false := by decide +kernel
  have e4 : gone2.row.toList = (⟨#[97]⟩ : ByteArray).toList ∧ gone2.col.toList = (⟨#[120]⟩ : ByteArray).toList := by decide +kernel
  simp only [getW, wl4, List.find?, e1, Bool.not_false]
  rw [if_pos e4]
  rfl
def htF (L : Nat) : Int := if L = 0 then 3 else if L ≤ 2 then 2 else 1
theorem cntH_v (ns : List Nd) (L : Nat) : cntH ns L = ((ns.map Nd.v).filter fun x => decide (L < x.2)).length := by
  unfold cntH
  rw [List.filter_map, List.length_map]
  rfl
theorem wl3_heights : ∀ L, L < 12 → ((wl3.filter fun x => decide (L < x.2)).length : Int) = htF L := by decide +kernel
theorem heights_wl3 (lb : Nat) (F : Nat → Prop) (w : World) (hS : SL lb wl3 F w) :
    Calls Try.prog 20 #[.pointer (some ⟨lb, 0, none⟩)] w fun e w' => e = .returned (.slice (some ⟨w.heap.size, 0, none⟩) 12 12) ∧ Twelve w' w.heap.size htF ∧ Below w.heap.size w w' := by
  obtain ⟨hd, ns, q1, q2, _⟩ := hS.ex
  refine (heights_any lb hd ns w q1 (by have := congrArg List.length q2; rw [List.length_map] at this; rw [this]; decide)).mono ?_
  rintro e w' ⟨rfl, hT, hb⟩
  refine ⟨rfl, ⟨hT.lt, fun L hL => ?_, hT.fr⟩, hb⟩
  rw [hT.c L hL, cntH_v, q2, wl3_heights L hL]
theorem twelve_lit (w : World) (T : TypeId) (f : Nat → Int) (arr : Array Value) (h : arr = ((List.range 12).map fun L => Value.int .i64 (f L)).toArray) : Twelve (w.alloc (.cells arr T)) w.heap.size f := by
  subst h
  refine ⟨by rw [World.size_alloc]; omega, fun L hL => ?_, fun o => by simp [World.frozen?_alloc_new]⟩
  rw [World.cell?_alloc_new]
  simp [hL]
theorem list3 {α : Type} : ∀ {l : List α}, l.length = 3 → ∃ a b c, l = [a, b, c]
  | [a, b, c], _ => ⟨a, b, c, rfl⟩
theorem cut_wl3 {hd : Nd} {ns : List Nd} (h : ns.map Nd.v = wl3) : CutAt (aheadP ⟨#[97]⟩ ⟨#[121]⟩) (hd :: ns) 3 ∧ cellsFrom (hd :: ns) 3 = [at8 98 1] := by
  have e1 : aheadP ⟨#[97]⟩ ⟨#[121]⟩ (at8 97 2) = true := by decide +kernel
  have e2 : aheadP ⟨#[97]⟩ ⟨#[121]⟩ (at8 97 1) = true := by decide +kernel
  have e3 : aheadP ⟨#[97]⟩ ⟨#[121]⟩ (at8 98 1) = false := by decide +kernel
  have hl3 : ns.length = 3 := by have := congrArg List.length h; rw [List.length_map] at this; exact this
  obtain ⟨a, b, c, rfl⟩ := list3 hl3
  simp only [wl3, List.map_cons, List.map_nil, List.cons.injEq, and_true, Nd.v, Prod.mk.injEq] at h
  obtain ⟨⟨h1, _⟩, ⟨h2, _⟩, ⟨h3, _⟩⟩ := h
  refine ⟨⟨by decide, by simp, fun i n hi hi2 hn => ?_, fun i n hi hn => ?_⟩, by simp [cellsFrom, h3]⟩
  · match i, hi, hi2 with
    | 1, _, _ => simp at hn; subst hn; rw [h1]; exact e1
    | 2, _, _ => simp at hn; subst hn; rw [h2]; exact e2
  · have hl := (List.getElem?_eq_some_iff.1 hn).1
    simp only [List.length_cons, List.length_nil] at hl
    obtain rfl : i = 3 := by omega
    simp at hn; subst hn; rw [h3]; exact e3
end Go.Proofs.Ytlnfdejflpgleaa
