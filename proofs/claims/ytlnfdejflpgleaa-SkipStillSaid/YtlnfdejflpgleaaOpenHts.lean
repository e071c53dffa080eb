/-
  Opening a law's argument that is a slice of small numbers (heights).
-/
import Derived.Test.YtlnfdejflpgleaaPut8W
import Derived.Test.YtlnfdejflpgleaaOpenCells
namespace Go.Proofs.Ytlnfdejflpgleaa
open Go.ChangeShapes Go.WideShapes Go.ChangeAt Go.RowKit Go.Joins Go.Deep

theorem cells_u8 : Try.prog.cellsOf 5 = 1 := by kernel_rfl
theorem open_hts {H : Type} {enc : TypeId × Value → H} {W : World} {base b0 : Nat} {sp : Nat → Bool} {held : Bool} {v : Value} {d : DataW H} {p : List MemPlace}
    (hv : Value.okWide Try.prog W .any base 23 v) (h : DataW.Trod enc Try.prog W b0 sp held 23 v d p) : ∃ ao m cap, v = .slice ao m cap ∧ Hts W ao m cap := by
  obtain ⟨a1, len, cap, rfl⟩ := okWide_slice Try.underlying23 hv
  obtain ⟨fuel, hf⟩ := h
  rcases open_ints Try.underlying23 Try.underlying5 cells_u8 hf with ⟨hcs, _⟩ | ⟨a, len', cap', zs, hcs, _, hl, hm, hz, _, hcell, hwz⟩
  · simp [Value.cells] at hcs
    obtain ⟨rfl, rfl, rfl⟩ := hcs
    exact ⟨none, 0, 0, rfl, Nat.le_refl _, by unfold maxLen; omega, fun h => by omega⟩
  · simp [Value.cells] at hcs
    obtain ⟨rfl, rfl, rfl⟩ := hcs
    refine ⟨some a, len, cap, rfl, hl, hm, fun h0 => ?_⟩
    have hzl : len ≤ zs.length := by rw [hz]; split <;> omega
    obtain ⟨b, off, rfl⟩ : ∃ b off, a = ⟨b, off, none⟩ := by
      have h1 := hcell 0 (by omega)
      have e0 : a.add 0 = a := by simp [Addr.add]
      rw [e0] at h1
      exact addr_of_cell h1
    have hc : ∀ j, j < len → W.cell? ⟨b, off + j, none⟩ = some (.int .u8 (zs.getD j 0)) := fun j hj => by
      have h1 := hcell j (by omega)
      by_cases h0 : j = 0
      · subst h0; simpa [Addr.add] using h1
      · simpa [Addr.add, h0] using h1
    refine ⟨b, off, rfl, World.block_lt_of_cell? _ _ (hc 0 h0), fun j hj => ⟨_, ?_, ?_, hc j hj⟩⟩
    all_goals
      have hm : zs.getD j 0 ∈ zs := by
        rw [List.getD_eq_getElem?_getD, List.getElem?_eq_getElem (by omega)]
        exact List.getElem_mem _
      have hw : 0 ≤ zs.getD j 0 ∧ zs.getD j 0 ≤ 255 := by
        have := hwz _ hm
        simpa [Lit.wf, IntKind.min, IntKind.max, IntKind.signed, IntKind.bits] using this
      omega
end Go.Proofs.Ytlnfdejflpgleaa
