/-
  The walk of acreagelaw03.KeysGap.
-/
import Derived.Test.YteibnignjghedaaGapW
import Derived.Test.YteibnignjghedaaSlice
namespace Go.Proofs.Yteibnignjghedaa
open Go.RowKit

def rgE (r : ByteArray × ByteArray) : List Value := [.string r.1, .string r.2]
theorem rgE_elems (rs : List (ByteArray × ByteArray)) : Elems 2 (rs.map rgE) := fun e he => by
  obtain ⟨r, _, rfl⟩ := List.mem_map.1 he
  exact ⟨rfl, fun u hu => by simp only [rgE, List.mem_cons, List.not_mem_nil, or_false] at hu; rcases hu with rfl | rfl <;> rfl⟩
theorem Rgs.of_arr {w : World} {ao : Option Addr} {n cap : Nat} {rs : List (ByteArray × ByteArray)} (h : Arr w 2 ao n cap (rs.map rgE)) (hok : ∀ r ∈ rs, r.1.size ≤ maxLen ∧ r.2.size ≤ maxLen) : Rgs w ao cap rs := by
  have hl := h.len
  rw [List.length_map] at hl
  subst hl
  refine ⟨h.fits, h.max, fun h0 => ?_, hok⟩
  obtain ⟨b, off, e, hb, hc⟩ := h.lies h0
  exact ⟨b, off, e, hb, fun i r hr => hc i (rgE r) (by simp [hr]) 0 _ rfl, fun i r hr => hc i (rgE r) (by simp [hr]) 1 _ rfl⟩
theorem Try.info_rg : (Try.prog.info? 33).map (fun i => (i.zero, i.size, i.bytes)) = some (some (.agg #[.string ⟨#[]⟩, .string ⟨#[]⟩]), 2, 32) := by kernel_rfl

theorem gap_of (ao : Option Addr) (n cap : Nat) (rs : List (ByteArray × ByteArray)) (w : World) (hl : rs.length = n) (h : Rgs w ao cap rs) :
    Calls Try.prog 24 #[.slice ao n cap] w fun e w' => e = .returned (gapV (gapL (rgL rs))) ∧ Below w.heap.size w w' := by
  subst hl; exact gap_any ao cap rs w h
theorem rgap_of (ao : Option Addr) (n cap : Nat) (rs : List (ByteArray × ByteArray)) (w : World) (hl : rs.length = n) (hle : n ≤ 1000000) (h : Rgs w ao cap rs) :
    Calls Try.prog 30 #[.slice ao n cap] w fun e w' => e = .returned (gapV (gapL (rgL rs))) ∧ Below w.heap.size w w' := by
  subst hl; exact rgap_any ao cap rs w h hle

end Go.Proofs.Yteibnignjghedaa
