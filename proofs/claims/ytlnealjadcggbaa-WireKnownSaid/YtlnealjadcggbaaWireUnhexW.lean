/-
  The walk of wire.Unhex.
-/
import Derived.Test.YtlnealjadcggbaaWireHexW
namespace Go.Proofs.Ytlnealjadcggbaa
open Go.RowKit

def halfN (c : UInt8) : Nat := if 48 ≤ c.toNat ∧ c.toNat ≤ 57 then c.toNat - 48 else if 97 ≤ c.toNat ∧ c.toNat ≤ 102 then c.toNat - 87 else 16
theorem halfN_le (c : UInt8) : halfN c ≤ 16 := by
  have := c.toNat_lt
  unfold halfN; split
  · omega
  · split <;> omega

def unhexL : List UInt8 → Option (List UInt8)
  | [] => some []
  | [_] => none
  | a :: b :: l => if halfN a ≤ 15 ∧ halfN b ≤ 15 then (unhexL l).map (UInt8.ofNat (halfN a * 16 + halfN b) :: ·) else none

theorem unhexL_app : ∀ (p l q : List UInt8), unhexL p = some l → unhexL (p ++ q) = (unhexL q).map (l ++ ·)
  | [], l, q, h => by simp only [unhexL, Option.some.injEq] at h; subst h; simp
  | [_], l, q, h => by simp [unhexL] at h
  | a :: b :: p, l, q, h => by
    rw [unhexL] at h
    split at h
    · rename_i hg
      cases hp : unhexL p with
      | none => rw [hp] at h; simp at h
      | some m =>
        rw [hp] at h
        simp only [Option.map_some, Option.some.injEq] at h
        subst h
        simp only [List.cons_append]
        rw [unhexL, if_pos hg, unhexL_app p m q hp, Option.map_map]
        rfl
    · simp at h

theorem unhexL_odd : ∀ (p : List UInt8), p.length % 2 = 1 → unhexL p = none
  | [], h => by simp at h
  | [_], h => by simp [unhexL]
  | a :: b :: p, h => by
    rw [unhexL, unhexL_odd p (by simp only [List.length_cons] at h; omega)]
    simp

/-- Unhex's two results. -/
def unhexB (s : ByteArray) : ByteArray := match unhexL s.toList with | some l => ofL l | none => ⟨#[]⟩
def unhexIs (s : ByteArray) : Bool := (unhexL s.toList).isSome
theorem unhex_none {s : ByteArray} (h : unhexL s.toList = none) : unhexB s = ⟨#[]⟩ ∧ unhexIs s = false := by simp [unhexB, unhexIs, h]
theorem unhex_some {s : ByteArray} {l : List UInt8} (h : unhexL s.toList = some l) : unhexB s = ofL l ∧ unhexIs s = true := by simp [unhexB, unhexIs, h]

def digitI (c : UInt8) : Int := if halfN c ≤ 15 then halfN c else -1
theorem digit_find (c : UInt8) : Lib.indexByte [48, 49, 50, 51, 52, 53, 54, 55, 56, 57, 97, 98, 99, 100, 101, 102] c = digitI c := by
  have : ∀ x : Fin 256, Lib.indexByte [48, 49, 50, 51, 52, 53, 54, 55, 56, 57, 97, 98, 99, 100, 101, 102] (UInt8.ofNat x.val) = digitI (UInt8.ofNat x.val) := by decide +kernel
  have h := this ⟨c.toNat, c.toNat_lt⟩
  simpa using h

set_option maxHeartbeats 400000 in
theorem index_any (s : ByteArray) (c : Int) (w : World) :
    Calls Try.prog 25 #[.string s, .int .u8 c] w fun e w' => e = .returned (.int .i64 (Lib.indexByte s.data.toList c.toNat.toUInt8)) ∧ w = w' := by
  go_enter Try.func25, Try.ntmps25
  go_wp2
  rw [run_callFunc_extern Try.func28 (by kernel_rfl) (by kernel_rfl) (by kernel_rfl) (e := Extern.BytealgIndexByte.indexByte) (by kernel_rfl), Lib.run_indexByteString]
  simp only [Result.andThen]
  rw [Oper.upon_value]
  go_wp2
  go_ret
  exact ⟨rfl, rfl⟩

theorem digit_any (c : UInt8) (w : World) :
    Calls Try.prog 25 #[.string ⟨#[48, 49, 50, 51, 52, 53, 54, 55, 56, 57, 97, 98, 99, 100, 101, 102]⟩, .int .u8 (c.toNat : Int)] w fun e w' => e = .returned (.int .i64 (digitI c)) ∧ w = w' :=
  (index_any _ _ w).mono (by
    rintro e w' ⟨rfl, rfl⟩
    refine ⟨?_, rfl⟩
    have : ((c.toNat : Int).toNat.toUInt8) = c := by simp
    rw [this, ← digit_find])

theorem idx_str (s : ByteArray) (n : Nat) (h : n < s.size) (k : IntKind) (i : Int) (hi : i = n) (w : World) :
    (Instr.index 9 (.string s) (.int k i)).run Try.prog w = .ok (.int .u8 (s[n]).toNat) w := by
  subst hi
  rw [run_index_string (w := w) (P := Try.prog) (h := Try.underlying9)]
  rw [dif_pos ⟨by omega, by omega⟩]
  simp only [Int.toNat_natCast]

theorem wraps_i64_63 (n : Int) (h₀ : 0 ≤ n) (h₁ : n < 2 ^ 63) : IntKind.i64.wrap n = n := by rw [IntKind.wrap_i64]; omega
theorem or_16 (x y : Nat) (hx : x ≤ 15) (hy : y ≤ 15) : bits .or .i64 ((x : Int) * 16) (y : Int) % 256 = (x : Int) * 16 + y := by
  have h : ∀ a b : Fin 16, (a.val * 16 ||| b.val : Nat) = a.val * 16 + b.val := by decide +kernel
  have h1 := h ⟨x, by omega⟩ ⟨y, by omega⟩
  have h2 := (bits_nat .i64 63 (by decide) wraps_i64_63 (x * 16) y (by omega) (by omega)).2
  rw [show ((x : Int) * 16) = ((x * 16 : Nat) : Int) by omega, h2, h1]
  simp only
  omega

/-- Unhex after i bytes. -/
structure UnhexRel (s : ByteArray) (w : World) (i : Nat) (v : Value) (l : List UInt8) (wr : World) : Prop where
  row : Row wr w.heap.size 5 1 v l.length (l.map bval)
  all : unhexL (s.toList.take i) = some l
  len : 2 * l.length = i
  bel : Below w.heap.size w wr

theorem list_two {s : ByteArray} {i : Nat} (h : i + 1 < s.size) : s.toList = s.toList.take i ++ (s[i] :: s[i + 1] :: s.toList.drop (i + 2)) := by
  have h1 : i < s.toList.length := by rw [size_list]; omega
  have h2 : i + 1 < s.toList.length := by rw [size_list]; omega
  have e : s.toList.drop i = s.toList[i] :: s.toList[i + 1] :: s.toList.drop (i + 2) := by
    rw [List.drop_eq_getElem_cons h1, List.drop_eq_getElem_cons h2]
  rw [toList_get, toList_get] at e
  rw [← e, List.take_append_drop]
theorem take_two {s : ByteArray} {i : Nat} (h : i + 1 < s.size) : s.toList.take (i + 2) = s.toList.take i ++ [s[i], s[i + 1]] := by
  have h1 : i < s.toList.length := by rw [size_list]; omega
  have h2 : i + 1 < s.toList.length := by rw [size_list]; omega
  rw [List.take_succ_eq_append_getElem h2, List.take_succ_eq_append_getElem h1, toList_get, toList_get]
  simp

theorem UnhexRel.bad {s : ByteArray} {w wr : World} {i : Nat} {v : Value} {l : List UInt8} (h : UnhexRel s w i v l wr) (hk : i + 1 < s.size) (hb : ¬ (halfN s[i] ≤ 15 ∧ halfN s[i + 1] ≤ 15)) : unhexL s.toList = none := by
  rw [list_two hk, unhexL_app _ _ _ h.all, unhexL, if_neg hb]; rfl
theorem UnhexRel.good {s : ByteArray} {w wr : World} {i : Nat} {v : Value} {l : List UInt8} (h : UnhexRel s w i v l wr) (hk : i + 1 < s.size) (hb : halfN s[i] ≤ 15 ∧ halfN s[i + 1] ≤ 15) : unhexL (s.toList.take (i + 2)) = some (l ++ [UInt8.ofNat (halfN s[i] * 16 + halfN s[i + 1])]) := by
  rw [take_two hk, unhexL_app _ _ _ h.all, unhexL, if_pos hb]; rfl

set_option maxRecDepth 100000 in
set_option maxHeartbeats 2000000 in
theorem unhex_any (s : ByteArray) (w : World) (hs : s.size ≤ 1099511627776) :
    Calls Try.prog 15 #[.string s] w fun e w' => e = .returned (.tuple #[.string (unhexB s), .bool (unhexIs s)]) ∧ Below w.heap.size w w' := by
  obtain ⟨i0, hi, hz0, hz1, hz2⟩ := info_parts Try.info_u8
  have Hi := Lib.hid hi
  have Hs := Lib.hid hs
  clear hi
  by_cases hodd : s.size % 2 = 1
  · obtain ⟨hb, hi⟩ := unhex_none (unhexL_odd s.toList (by rw [size_list]; exact hodd))
    rw [hb, hi]
    have hq : ((s.size : Int) % 2 != 0) = true := by simp; omega
    go_enter Try.func15, Try.ntmps15
    go_wp2
    go_ret2
    exact ⟨rfl, Below.refl _ _⟩
  · have hev : s.size % 2 = 0 := by omega
    go_enter Try.func15, Try.ntmps15
    go_wp2_with (at_make; refine wpList_make_own w rfl _ _ 41 rfl w.heap.size 5 i0 (.int .u8 0) 1 Try.underlying41 Hi.out hz0 hz1 _ _ _ (s.size / 2) rfl rfl (by have := Hs.out; omega) (by rw [hz2]; have := Hs.out; omega) (by unfold maxLen; have := Hs.out; omega) (Nat.le_refl _) ?_; intro w1 hown hgrow; have Hr := Lib.hid (Row.of_own hown); have Hg := Lib.hid ((Below.refl w.heap.size w).grown hgrow (Nat.le_refl _) (fun k hk => by cases hk)); clear hown hgrow)
    go_loopw [4, 5] (fun v i wr => ∃ (k : Nat) (l : List UInt8), k ≤ s.size ∧ i = .int .i64 k ∧ Hid (UnhexRel s w k v l wr)) (fun _ i _ => s.size - (intOf i).toNat)
    case atStart => exact ⟨0, [], Nat.zero_le _, rfl, ⟨Hr.out, rfl, rfl, Hg.out⟩⟩
    case round =>
      obtain ⟨k, l, hk, rfl, hr⟩ := hrel
      have hkl := hr.out.len
      by_cases hlt : k < s.size
      · have hlt1 : k + 1 < s.size := by omega
        have hb0 := hr.out.bel.size
        have hs1 := idx_str s (k + 1) hlt1 .i64 ((k : Int) + 1) (by omega)
        go_wp2
        refine wp_region_below (by kernel_rfl) (by kernel_rfl) (fun hkept => ?_)
        clear hkept
        repeat (any_goals (first | go_big_quiet_step (first | (go_at_call 25; exact Calls.regrown_of ((same_below (digit_any _ _))))) | quiet_step (first | (go_at_call 25; exact Calls.regrown_of ((same_below (digit_any _ _))))) | (refine wpQuiet_step (fun K hK => ?_); go_simp; split <;> (refine hK _ ?_; clear hK K))))
        all_goals (refine wpQuiet_nil ?_; intro w5 hb; obtain ⟨hB, hS, hk⟩ := after (B := wr.heap.size) (w := wr) (by go_grown) (by go_size) hb; clear hk hb)
        by_cases hbad : halfN s[k] ≤ 15 ∧ halfN s[k + 1] ≤ 15
        · have hg := Lib.hid (hr.out.good hlt1 hbad)
          have e1 : digitI s[k] = (halfN s[k] : Int) := by rw [digitI, if_pos hbad.1]
          have e2 : digitI s[k + 1] = (halfN s[k + 1] : Int) := by rw [digitI, if_pos hbad.2]
          rw [e1, e2]
          obtain ⟨x, hx⟩ : ∃ x, x = halfN s[k] := ⟨_, rfl⟩
          obtain ⟨y, hy⟩ : ∃ y, y = halfN s[k + 1] := ⟨_, rfl⟩
          rw [← hx, ← hy] at hg hbad ⊢
          obtain ⟨hx1, hy1⟩ := hbad
          clear e1 e2 hx hy hs1
          have hor := or_16 x y hx1 hy1
          have hnat : ((x : Int) * 16 + y).toNat = x * 16 + y := by omega
          go_wp2_with (at_builtin; refine wpList_append_byte w5 rfl _ _ 41 rfl w.heap.size 5 _ i0 Try.underlying41 Hi.out hz0 hz1 hz2 u4 l rfl (hr.out.row.below hB) ((x : Int) * 16 + y) (by omega) (by omega) rfl (by have := Hs.out; omega) (Nat.le_trans hb0 hS) ?_; intro v1 w6 hrow1 hbel1 hgrow1; rw [hnat] at hrow1; have Hrow := Lib.hid hrow1; have Hbel := Lib.hid (hr.out.bel.trans ((hB.mono hb0).trans hbel1)); clear hrow1 hbel1 hgrow1)
          go_roundw
          case rel => exact ⟨k + 2, _, by omega, by go_num, Lib.hid ⟨Hrow.out, hg.out, by rw [List.length_append, List.length_singleton]; omega, Hbel.out⟩⟩
          case measure => simp [intOf]; omega
        · obtain ⟨eb, ei⟩ := unhex_none (hr.out.bad hlt1 hbad)
          by_cases hx1 : halfN s[k] ≤ 15
          · have e1 : digitI s[k] = (halfN s[k] : Int) := by rw [digitI, if_pos hx1]
            have e2 : digitI s[k + 1] = -1 := by rw [digitI, if_neg (fun h => hbad ⟨hx1, h⟩)]
            rw [e1, e2]
            go_wp2
            go_ret2
            exact ⟨ret_val (by rw [eb, ei]; rfl), hr.out.bel.trans (hB.mono hb0)⟩
          · have e1 : digitI s[k] = -1 := by rw [digitI, if_neg hx1]
            rw [e1]
            go_wp2
            go_ret2
            exact ⟨ret_val (by rw [eb, ei]; rfl), hr.out.bel.trans (hB.mono hb0)⟩
      · have hkk : k = s.size := by omega
        subst hkk
        have hall : s.toList.take s.size = s.toList := List.take_of_length_le (by rw [size_list]; omega)
        have hu := hr.out.all
        rw [hall] at hu
        obtain ⟨eb, ei⟩ := unhex_some hu
        have hr0 := hr.out.row
        have hcb := convert_back (P := Try.prog) wr 41 9 5 w.heap.size u4 _ Try.underlying41 Try.underlying5 Try.underlying9 hr0
        have hub := Lib.hid hr.out.bel
        clear hu hall hr0
        go_wp2
        go_ret2
        exact ⟨ret_val (by rw [eb, ei]; rfl), hub.out⟩

end Go.Proofs.Ytlnealjadcggbaa
