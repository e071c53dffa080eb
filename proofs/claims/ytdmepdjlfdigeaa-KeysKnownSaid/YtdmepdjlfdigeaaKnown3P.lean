/-
  KeysKnown: the plain part: the gaps of closed lists; what closed ranges and cells are.
-/
import Derived.Test.YtdmepdjlfdigeaaKeysOpenW
import Derived.Test.YtdmepdjlfdigeaaCellsLawW
import Derived.Test.YtdmepdjlfdigeaaZeros
namespace Go.Proofs.Ytdmepdjlfdigeaa
open Go.RowKit

theorem not_cov {l : List (List UInt8 × List UInt8)} {a : List UInt8} (h : covB l a = false) : ¬ Cov l a := fun hc => by rw [covB_iff.2 hc] at h; cases h
theorem cov_below_nil (l : List (List UInt8 × List UInt8)) : ∀ t, t < [] → Cov l t := fun t h => absurd h (not_lt_nil t)
theorem gap1 : GapOk [([], List.replicate 25 0), (List.replicate 25 0, []), ([98], [97])] (some ([], [])) :=
  ⟨cov_below_nil _, not_cov (by decide +kernel), .inl ⟨rfl, by decide +kernel⟩⟩
theorem gap2 : GapOk [] (some ([], [])) := ⟨cov_below_nil _, not_cov (by decide +kernel), .inl ⟨rfl, by decide +kernel⟩⟩
theorem gap3 : GapOk [([], [98]), ([100], [])] (some ([98], [100])) :=
  ⟨cov_step (cov_below_nil _) (r := ([], [98])) (by simp) (by decide +kernel) (by decide +kernel), not_cov (by decide +kernel), .inr ⟨⟨([100], []), by simp, by decide +kernel, rfl⟩, by decide +kernel, by decide +kernel⟩⟩
theorem gap4 : GapOk [([98], []), ([], [97])] (some ([97], [98])) :=
  ⟨cov_step (cov_below_nil _) (r := ([], [97])) (by simp) (by decide +kernel) (by decide +kernel), not_cov (by decide +kernel), .inr ⟨⟨([98], []), by simp, by decide +kernel, rfl⟩, by decide +kernel, by decide +kernel⟩⟩
theorem gap5 : GapOk [([99], [100]), ([], [98]), ([97], [99])] (some ([100], [])) :=
  ⟨cov_step (cov_step (cov_step (cov_below_nil _) (r := ([], [98])) (by simp) (by decide +kernel) (by decide +kernel)) (r := ([97], [99])) (by simp) (by decide +kernel) (by decide +kernel)) (r := ([99], [100])) (by simp) (by decide +kernel) (by decide +kernel),
    not_cov (by decide +kernel), .inl ⟨rfl, by decide +kernel⟩⟩
theorem gap_lit (ao : Option Addr) (n cap : Nat) (rs : List (ByteArray × ByteArray)) (a h : ByteArray) (w : World) (hl : rs.length = n) (hr : Rgs w ao cap rs) (hg : GapOk (rgL rs) (some (a.toList, h.toList))) :
    Calls Try.prog 23 #[.slice ao n cap] w fun e w' => e = .returned (.tuple #[.agg #[.string a, .string h], .bool true]) ∧ Below w.heap.size w w' := by
  have := gap_of ao n cap rs w hl hr
  rwa [gapV_some hg] at this
/-- a literal list of ranges -/
theorem rgs_new (w : World) (T : TypeId) (rs : List (ByteArray × ByteArray)) (arr : Array Value) (n b : Nat) (h : arr = (rs.map rgE).flatten.toArray) (hn : rs.length = n) (hm : n ≤ maxLen) (hb : b = w.heap.size) (hok : ∀ r ∈ rs, r.1.size ≤ maxLen ∧ r.2.size ≤ maxLen) : Rgs (w.alloc (.cells arr T)) (some ⟨b, 0, none⟩) n rs := by
  subst hn
  subst h
  subst hb
  refine Rgs.of_arr (n := rs.length) ⟨rgE_elems rs, by simp, Nat.le_refl _, hm, fun _ => ⟨w.heap.size, 0, rfl, by rw [World.size_alloc]; omega, ?_⟩⟩ hok
  intro i e he j u hu
  have h1 := flatten_get (Elems.len (rgE_elems rs)) i e he j u hu
  simp only [Nat.zero_add, World.cell?_alloc_new]
  simpa using h1
theorem small_lit (l : List UInt8) (h : l.length ≤ 1000) : (⟨l.toArray⟩ : ByteArray).size ≤ maxLen := sizes_small l h

theorem cell_long {c : CellA} (h : 65536 < c.val.toList.length) : cellL c = false := by
  have : decide (c.val.toList.length ≤ 65536) = false := by rw [decide_eq_false_iff_not]; omega
  unfold cellL
  rw [this]
  simp
/-- the cells that may not be -/
def bad7 : List CellA := [⟨⟨#[114]⟩, ⟨#[]⟩, 0, false, ⟨#[]⟩⟩, ⟨⟨#[]⟩, ⟨#[]⟩, 1, false, ⟨#[]⟩⟩, ⟨zs 33, ⟨#[]⟩, 1, false, ⟨#[]⟩⟩, ⟨⟨#[114]⟩, zs 17, 1, false, ⟨#[]⟩⟩, ⟨⟨#[114]⟩, ⟨#[]⟩, 1099511627777, false, ⟨#[]⟩⟩, ⟨⟨#[114]⟩, ⟨#[]⟩, 1, true, ⟨#[118]⟩⟩, ⟨⟨#[114]⟩, ⟨#[]⟩, 1, false, zs 65537⟩]
theorem bad7_bad : ∀ c ∈ bad7, cellL c = false ∧ c.Ok := by
  intro c hc
  simp only [bad7, List.mem_cons, List.not_mem_nil, or_false] at hc
  rcases hc with rfl | rfl | rfl | rfl | rfl | rfl | rfl
  · exact ⟨by decide +kernel, ⟨small_lit [_] (by simp), small_lit [] (by simp), small_lit [] (by simp), by decide, by decide⟩⟩
  · exact ⟨by decide +kernel, ⟨small_lit [] (by simp), small_lit [] (by simp), small_lit [] (by simp), by decide, by decide⟩⟩
  · exact ⟨by simp [cellL, storedL, zs_toList], ⟨by rw [zs_size]; decide, small_lit [] (by simp), small_lit [] (by simp), by decide, by decide⟩⟩
  · exact ⟨by simp [cellL, storedL, zs_toList], ⟨small_lit [_] (by simp), by rw [zs_size]; decide, small_lit [] (by simp), by decide, by decide⟩⟩
  · exact ⟨by decide +kernel, ⟨small_lit [_] (by simp), small_lit [] (by simp), small_lit [] (by simp), by decide, by decide⟩⟩
  · exact ⟨by decide +kernel, ⟨small_lit [_] (by simp), small_lit [] (by simp), small_lit [_] (by simp), by decide, by decide⟩⟩
  · exact ⟨cell_long (by show 65536 < (zs 65537).toList.length; rw [zs_toList, List.length_replicate]; decide), ⟨small_lit [_] (by simp), small_lit [] (by simp), by show (zs 65537).size ≤ maxLen; rw [zs_size]; decide, by decide, by decide⟩⟩
theorem split_no (lo hi key : ByteArray) (w : World) (hl : lo.size ≤ maxLen) (hh : hi.size ≤ maxLen) (hk : key.size ≤ maxLen) (h : splitL lo.toList hi.toList key.toList = false) :
    Calls Try.prog 10 #[.agg #[.string lo, .string hi], .string key] w fun e w' => e = .returned (.tuple #[.agg #[.string ⟨#[]⟩, .string ⟨#[]⟩], .agg #[.string ⟨#[]⟩, .string ⟨#[]⟩], .int .i64 2]) ∧ Below w.heap.size w w' := split_bad lo hi key w hl hh hk h
theorem split_k1 (w : World) : Calls Try.prog 10 #[.agg #[.string ⟨#[97]⟩, .string ⟨#[99]⟩], .string ⟨#[97]⟩] w fun e w' => e = .returned (.tuple #[.agg #[.string ⟨#[]⟩, .string ⟨#[]⟩], .agg #[.string ⟨#[]⟩, .string ⟨#[]⟩], .int .i64 2]) ∧ Below w.heap.size w w' :=
  split_bad _ _ _ w (small_lit [_] (by simp)) (small_lit [_] (by simp)) (small_lit [_] (by simp)) (by decide +kernel)
theorem split_k2 (w : World) : Calls Try.prog 10 #[.agg #[.string ⟨#[97]⟩, .string ⟨#[99]⟩], .string ⟨#[99]⟩] w fun e w' => e = .returned (.tuple #[.agg #[.string ⟨#[]⟩, .string ⟨#[]⟩], .agg #[.string ⟨#[]⟩, .string ⟨#[]⟩], .int .i64 2]) ∧ Below w.heap.size w w' :=
  split_bad _ _ _ w (small_lit [_] (by simp)) (small_lit [_] (by simp)) (small_lit [_] (by simp)) (by decide +kernel)
theorem split_k3 (w : World) : Calls Try.prog 10 #[.agg #[.string ⟨#[97]⟩, .string ⟨#[]⟩], .string ⟨#[]⟩] w fun e w' => e = .returned (.tuple #[.agg #[.string ⟨#[]⟩, .string ⟨#[]⟩], .agg #[.string ⟨#[]⟩, .string ⟨#[]⟩], .int .i64 2]) ∧ Below w.heap.size w w' :=
  split_bad _ _ _ w (small_lit [_] (by simp)) (small_lit [] (by simp)) (small_lit [] (by simp)) (by decide +kernel)
theorem split_k4 (w : World) : Calls Try.prog 10 #[.agg #[.string ⟨#[97]⟩, .string ⟨#[99]⟩], .string ⟨#[100]⟩] w fun e w' => e = .returned (.tuple #[.agg #[.string ⟨#[]⟩, .string ⟨#[]⟩], .agg #[.string ⟨#[]⟩, .string ⟨#[]⟩], .int .i64 2]) ∧ Below w.heap.size w w' :=
  split_bad _ _ _ w (small_lit [_] (by simp)) (small_lit [_] (by simp)) (small_lit [_] (by simp)) (by decide +kernel)
theorem gapc1 (L : ByteArray) (hL : L = zs 25) (w : World) (b : Nat) (hb : b = w.heap.size) : Calls Try.prog 23 #[.slice (some ⟨b, 0, none⟩) 3 3] (w.alloc (.cells #[.string ⟨#[]⟩, .string L, .string L, .string ⟨#[]⟩, .string ⟨#[98]⟩, .string ⟨#[97]⟩] 23)) fun e w' => e = .returned (.tuple #[.agg #[.string ⟨#[]⟩, .string ⟨#[]⟩], .bool true]) ∧ Below (w.alloc (.cells #[.string ⟨#[]⟩, .string L, .string L, .string ⟨#[]⟩, .string ⟨#[98]⟩, .string ⟨#[97]⟩] 23)).heap.size (w.alloc (.cells #[.string ⟨#[]⟩, .string L, .string L, .string ⟨#[]⟩, .string ⟨#[98]⟩, .string ⟨#[97]⟩] 23)) w' := by
  subst hL
  refine gap_lit _ 3 3 [(⟨#[]⟩, (zs 25)), ((zs 25), ⟨#[]⟩), (⟨#[98]⟩, ⟨#[97]⟩)] ⟨#[]⟩ ⟨#[]⟩ _ rfl (rgs_new w 23 _ _ 3 _ (by rfl) rfl (by decide) hb ?_) ?_
  · intro r hr
    simp only [List.mem_cons, List.not_mem_nil, or_false] at hr
    rcases hr with rfl | rfl | rfl
    all_goals exact ⟨by first | exact small_lit [] (by simp) | exact small_lit [_] (by simp) | (rw [zs_size]; decide), by first | exact small_lit [] (by simp) | exact small_lit [_] (by simp) | (rw [zs_size]; decide)⟩
  · have := gap1
    simp only [rgL, List.map_cons, List.map_nil, zs_toList]
    simpa [Lib.toList_data] using this
theorem gapc2 (w : World) : Calls Try.prog 23 #[.slice none 0 0] w fun e w' => e = .returned (.tuple #[.agg #[.string ⟨#[]⟩, .string ⟨#[]⟩], .bool true]) ∧ Below w.heap.size w w' := by
  refine gap_lit none 0 0 [] ⟨#[]⟩ ⟨#[]⟩ w rfl ⟨Nat.zero_le _, by unfold maxLen; omega, fun h => absurd h (by simp), fun r hr => by cases hr⟩ ?_
  have := gap2
  simpa [rgL, zs_toList, Lib.toList_data] using this
theorem gapc3 (w : World) (b : Nat) (hb : b = w.heap.size) : Calls Try.prog 23 #[.slice (some ⟨b, 0, none⟩) 2 2] (w.alloc (.cells #[.string ⟨#[]⟩, .string ⟨#[98]⟩, .string ⟨#[100]⟩, .string ⟨#[]⟩] 23)) fun e w' => e = .returned (.tuple #[.agg #[.string ⟨#[98]⟩, .string ⟨#[100]⟩], .bool true]) ∧ Below (w.alloc (.cells #[.string ⟨#[]⟩, .string ⟨#[98]⟩, .string ⟨#[100]⟩, .string ⟨#[]⟩] 23)).heap.size (w.alloc (.cells #[.string ⟨#[]⟩, .string ⟨#[98]⟩, .string ⟨#[100]⟩, .string ⟨#[]⟩] 23)) w' := by
  refine gap_lit _ 2 2 [(⟨#[]⟩, ⟨#[98]⟩), (⟨#[100]⟩, ⟨#[]⟩)] ⟨#[98]⟩ ⟨#[100]⟩ _ rfl (rgs_new w 23 _ _ 2 _ (by rfl) rfl (by decide) hb ?_) ?_
  · intro r hr
    simp only [List.mem_cons, List.not_mem_nil, or_false] at hr
    rcases hr with rfl | rfl
    all_goals exact ⟨by first | exact small_lit [] (by simp) | exact small_lit [_] (by simp) | (rw [zs_size]; decide), by first | exact small_lit [] (by simp) | exact small_lit [_] (by simp) | (rw [zs_size]; decide)⟩
  · have := gap3
    simpa [rgL, zs_toList, Lib.toList_data] using this
theorem gapc4 (w : World) (b : Nat) (hb : b = w.heap.size) : Calls Try.prog 23 #[.slice (some ⟨b, 0, none⟩) 2 2] (w.alloc (.cells #[.string ⟨#[98]⟩, .string ⟨#[]⟩, .string ⟨#[]⟩, .string ⟨#[97]⟩] 23)) fun e w' => e = .returned (.tuple #[.agg #[.string ⟨#[97]⟩, .string ⟨#[98]⟩], .bool true]) ∧ Below (w.alloc (.cells #[.string ⟨#[98]⟩, .string ⟨#[]⟩, .string ⟨#[]⟩, .string ⟨#[97]⟩] 23)).heap.size (w.alloc (.cells #[.string ⟨#[98]⟩, .string ⟨#[]⟩, .string ⟨#[]⟩, .string ⟨#[97]⟩] 23)) w' := by
  refine gap_lit _ 2 2 [(⟨#[98]⟩, ⟨#[]⟩), (⟨#[]⟩, ⟨#[97]⟩)] ⟨#[97]⟩ ⟨#[98]⟩ _ rfl (rgs_new w 23 _ _ 2 _ (by rfl) rfl (by decide) hb ?_) ?_
  · intro r hr
    simp only [List.mem_cons, List.not_mem_nil, or_false] at hr
    rcases hr with rfl | rfl
    all_goals exact ⟨by first | exact small_lit [] (by simp) | exact small_lit [_] (by simp) | (rw [zs_size]; decide), by first | exact small_lit [] (by simp) | exact small_lit [_] (by simp) | (rw [zs_size]; decide)⟩
  · have := gap4
    simpa [rgL, zs_toList, Lib.toList_data] using this
theorem gapc5 (w : World) (b : Nat) (hb : b = w.heap.size) : Calls Try.prog 23 #[.slice (some ⟨b, 0, none⟩) 3 3] (w.alloc (.cells #[.string ⟨#[99]⟩, .string ⟨#[100]⟩, .string ⟨#[]⟩, .string ⟨#[98]⟩, .string ⟨#[97]⟩, .string ⟨#[99]⟩] 23)) fun e w' => e = .returned (.tuple #[.agg #[.string ⟨#[100]⟩, .string ⟨#[]⟩], .bool true]) ∧ Below (w.alloc (.cells #[.string ⟨#[99]⟩, .string ⟨#[100]⟩, .string ⟨#[]⟩, .string ⟨#[98]⟩, .string ⟨#[97]⟩, .string ⟨#[99]⟩] 23)).heap.size (w.alloc (.cells #[.string ⟨#[99]⟩, .string ⟨#[100]⟩, .string ⟨#[]⟩, .string ⟨#[98]⟩, .string ⟨#[97]⟩, .string ⟨#[99]⟩] 23)) w' := by
  refine gap_lit _ 3 3 [(⟨#[99]⟩, ⟨#[100]⟩), (⟨#[]⟩, ⟨#[98]⟩), (⟨#[97]⟩, ⟨#[99]⟩)] ⟨#[100]⟩ ⟨#[]⟩ _ rfl (rgs_new w 23 _ _ 3 _ (by rfl) rfl (by decide) hb ?_) ?_
  · intro r hr
    simp only [List.mem_cons, List.not_mem_nil, or_false] at hr
    rcases hr with rfl | rfl | rfl
    all_goals exact ⟨by first | exact small_lit [] (by simp) | exact small_lit [_] (by simp) | (rw [zs_size]; decide), by first | exact small_lit [] (by simp) | exact small_lit [_] (by simp) | (rw [zs_size]; decide)⟩
  · have := gap5
    simpa [rgL, zs_toList, Lib.toList_data] using this
/-- a list of cells as the region lays it -/
def cellV (c : CellA) : List Value := [.string c.row, .string c.col, .int .u64 c.ver, .bool c.gone, .string c.val]
theorem cellV_len (cs : List CellA) : ∀ e ∈ cs.map cellV, e.length = 5 := fun e he => by obtain ⟨c, _, rfl⟩ := List.mem_map.1 he; rfl
structure LaidCs (cs : List CellA) (n b : Nat) (w : World) : Prop where
  len : cs.length = n
  lt : b < w.heap.size
  cell : ∀ (i : Nat) (c : CellA), cs[i]? = some c → ∀ (j : Nat) (u : Value), (cellV c)[j]? = some u → w.cell? ⟨b, i * 5 + j, none⟩ = some u
def CsAt (cs : List CellA) (n : Nat) (v : Value) (w : World) : Prop := ∃ b, v = .slice (some ⟨b, 0, none⟩) n n ∧ LaidCs cs n b w
theorem LaidCs.below {cs : List CellA} {n b : Nat} {w w' : World} (h : LaidCs cs n b w) (hb : Below w.heap.size w w') : LaidCs cs n b w' :=
  ⟨h.len, Nat.lt_of_lt_of_le h.lt hb.size, fun i c hc j u hu => (hb.cell (p := ⟨b, i * 5 + j, none⟩) h.lt).trans (h.cell i c hc j u hu)⟩
theorem CsAt.keeps {cs : List CellA} {n : Nat} {v : Value} {w w' : World} (h : CsAt cs n v w) (hg : Grown w w') : CsAt cs n v w' := let ⟨b, e, h⟩ := h; ⟨b, e, h.below hg.below⟩
theorem cs_new (w : World) (T : TypeId) (cs : List CellA) (arr : Array Value) (n : Nat) (h : arr = (cs.map cellV).flatten.toArray) (hn : cs.length = n) : CsAt cs n (.slice (some ⟨w.heap.size, 0, none⟩) n n) (w.alloc (.cells arr T)) := by
  refine ⟨_, rfl, hn, by rw [World.size_alloc]; omega, fun i c hc j u hu => ?_⟩
  subst h
  have h1 := flatten_get (cellV_len cs) i (cellV c) (by simp [hc]) j u hu
  simp only [World.cell?_alloc_new]
  simpa using h1
theorem LaidCs.at5 {cs : List CellA} {n b : Nat} {w : World} (h : LaidCs cs n b w) {i : Nat} {c : CellA} (hc : cs[i]? = some c) :
    w.cell? ⟨b, i * 5, none⟩ = some (.string c.row) ∧ w.cell? ⟨b, i * 5 + 1, none⟩ = some (.string c.col) ∧ w.cell? ⟨b, i * 5 + 2, none⟩ = some (.int .u64 c.ver) ∧ w.cell? ⟨b, i * 5 + 3, none⟩ = some (.bool c.gone) ∧ w.cell? ⟨b, i * 5 + 4, none⟩ = some (.string c.val) :=
  ⟨h.cell i c hc 0 _ rfl, h.cell i c hc 1 _ rfl, h.cell i c hc 2 _ rfl, h.cell i c hc 3 _ rfl, h.cell i c hc 4 _ rfl⟩
def bads (x y z : ByteArray) : List CellA := [⟨⟨#[114]⟩, ⟨#[]⟩, 0, false, ⟨#[]⟩⟩, ⟨⟨#[]⟩, ⟨#[]⟩, 1, false, ⟨#[]⟩⟩, ⟨x, ⟨#[]⟩, 1, false, ⟨#[]⟩⟩, ⟨⟨#[114]⟩, y, 1, false, ⟨#[]⟩⟩, ⟨⟨#[114]⟩, ⟨#[]⟩, 1099511627777, false, ⟨#[]⟩⟩, ⟨⟨#[114]⟩, ⟨#[]⟩, 1, true, ⟨#[118]⟩⟩, ⟨⟨#[114]⟩, ⟨#[]⟩, 1, false, z⟩]
theorem bads_bad : ∀ c ∈ bads (zs 33) (zs 17) (zs 65537), cellL c = false ∧ c.Ok := bad7_bad
theorem goodc (w : World) : Calls Try.prog 27 #[.agg #[.string ⟨#[114]⟩, .string ⟨#[]⟩, .int .u64 1, .bool false, .string ⟨#[118]⟩]] w fun e w' => e = .returned (.int .i64 0) ∧ Below w.heap.size w w' := by
  have := cell_any ⟨⟨#[114]⟩, ⟨#[]⟩, 1, false, ⟨#[118]⟩⟩ w ⟨small_lit [_] (by simp), small_lit [] (by simp), small_lit [_] (by simp), by decide, by decide⟩
  rw [show cellL ⟨⟨#[114]⟩, ⟨#[]⟩, 1, false, ⟨#[118]⟩⟩ = true by decide +kernel] at this
  exact this
theorem colc (w : World) : Calls Try.prog 27 #[.agg #[.string ⟨#[]⟩, .string ⟨#[120]⟩, .int .u64 1099511627776, .bool true, .string ⟨#[]⟩]] w fun e w' => e = .returned (.int .i64 0) ∧ Below w.heap.size w w' := by
  have := cell_any ⟨⟨#[]⟩, ⟨#[120]⟩, 1099511627776, true, ⟨#[]⟩⟩ w ⟨small_lit [] (by simp), small_lit [_] (by simp), small_lit [] (by simp), by decide, by decide⟩
  rw [show cellL ⟨⟨#[]⟩, ⟨#[120]⟩, 1099511627776, true, ⟨#[]⟩⟩ = true by decide +kernel] at this
  exact this
theorem cmpc1 (w : World) : Calls Try.prog 25 #[.agg #[.string ⟨#[97]⟩, .string ⟨#[120]⟩, .int .u64 2, .bool false, .string ⟨#[]⟩], .agg #[.string ⟨#[97]⟩, .string ⟨#[120]⟩, .int .u64 1, .bool false, .string ⟨#[]⟩]] w fun e w' => e = .returned (.int .i64 (-1)) ∧ Below w.heap.size w w' := by
  have := cmp_any ⟨⟨#[97]⟩, ⟨#[120]⟩, 2, false, ⟨#[]⟩⟩ ⟨⟨#[97]⟩, ⟨#[120]⟩, 1, false, ⟨#[]⟩⟩ w
  rw [show cmpC ⟨⟨#[97]⟩, ⟨#[120]⟩, 2, false, ⟨#[]⟩⟩ ⟨⟨#[97]⟩, ⟨#[120]⟩, 1, false, ⟨#[]⟩⟩ = -1 by decide +kernel] at this
  exact this
theorem cmpc2 (w : World) : Calls Try.prog 25 #[.agg #[.string ⟨#[98]⟩, .string ⟨#[]⟩, .int .u64 0, .bool false, .string ⟨#[]⟩], .agg #[.string ⟨#[97]⟩, .string ⟨#[122]⟩, .int .u64 0, .bool false, .string ⟨#[]⟩]] w fun e w' => e = .returned (.int .i64 1) ∧ Below w.heap.size w w' := by
  have := cmp_any ⟨⟨#[98]⟩, ⟨#[]⟩, 0, false, ⟨#[]⟩⟩ ⟨⟨#[97]⟩, ⟨#[122]⟩, 0, false, ⟨#[]⟩⟩ w
  rw [show cmpC ⟨⟨#[98]⟩, ⟨#[]⟩, 0, false, ⟨#[]⟩⟩ ⟨⟨#[97]⟩, ⟨#[122]⟩, 0, false, ⟨#[]⟩⟩ = 1 by decide +kernel] at this
  exact this
theorem userc1 (L : ByteArray) (hL : L = zs 25) (w : World) : Calls Try.prog 16 #[.string (L.extract 0 24)] w fun e w' => e = .returned (.bool true) ∧ Below w.heap.size w w' := by
  subst hL
  have := user_any ((zs 25).extract 0 24) w (by decide +kernel)
  rw [show userL ((zs 25).extract 0 24).toList = true by decide +kernel] at this
  exact this
theorem userc2 (w : World) : Calls Try.prog 16 #[.string ⟨#[]⟩] w fun e w' => e = .returned (.bool false) ∧ Below w.heap.size w w' := by
  have := user_any ⟨#[]⟩ w (small_lit [] (by simp))
  rw [show userL (⟨#[]⟩ : ByteArray).toList = false by decide +kernel] at this
  exact this
theorem userc3 (L : ByteArray) (hL : L = zs 25) (w : World) : Calls Try.prog 16 #[.string L] w fun e w' => e = .returned (.bool false) ∧ Below w.heap.size w w' := by
  subst hL
  have := user_any (zs 25) w (by decide +kernel)
  rw [show userL (zs 25).toList = false by decide +kernel] at this
  exact this
theorem storedc (w : World) : Calls Try.prog 18 #[.string ⟨#[]⟩] w fun e w' => e = .returned (.bool true) ∧ Below w.heap.size w w' := by
  have := stored_any ⟨#[]⟩ w (small_lit [] (by simp))
  rw [show storedL (⟨#[]⟩ : ByteArray).toList = true by decide +kernel] at this
  exact this
theorem badc (c : CellA) (h : cellL c = false ∧ c.Ok) (w : World) : Calls Try.prog 27 #[.agg #[.string c.row, .string c.col, .int .u64 c.ver, .bool c.gone, .string c.val]] w fun e w' => e = .returned (.int .i64 2) ∧ Below w.heap.size w w' := by
  have := cell_any c w h.2
  rw [h.1] at this
  exact this
end Go.Proofs.Ytdmepdjlfdigeaa
