/-
  The walk of seal.Scan.
-/
import Derived.Test.YtihglmicgccgiaaSealO
import Derived.WalkMore
import Derived.ScopeJumps
namespace Go.Proofs.Ytihglmicgccgiaa
open Go.RowKit Go.Sort

/-- the frames with which bytes begin, and what is left -/
structure Frames (l : List UInt8) (bs : List (List UInt8)) (rest : List UInt8) : Prop where
  eq : l = (bs.map frameB).flatten ++ rest
  small : ∀ b ∈ bs, b.length ≤ 1048576
  stop : openF rest = none
theorem frames_cons {l b : List UInt8} (h : openF l = some b) : l = frameB b ++ l.drop (8 + b.length) ∧ (l.drop (8 + b.length)).length + 8 ≤ l.length := by
  have h1 := (openF_inv h).2
  refine ⟨h1, ?_⟩
  have h2 := congrArg List.length h1
  rw [List.length_append, frameB_len] at h2
  omega
theorem Frames.uniq : ∀ {bs cs : List (List UInt8)} {l r q : List UInt8}, Frames l bs r → Frames l cs q → bs = cs ∧ r = q
  | [], [], l, r, q, h, k => ⟨rfl, by have := h.eq; have := k.eq; simp_all⟩
  | [], c :: cs, l, r, q, h, k => by
    have h1 : l = r := h.eq
    have h2 := h.stop
    rw [← h1, k.eq, List.map_cons, List.flatten_cons, List.append_assoc, openF_frame (k.small c (by simp))] at h2
    cases h2
  | b :: bs, [], l, r, q, h, k => by
    have h1 : l = q := k.eq
    have h2 := k.stop
    rw [← h1, h.eq, List.map_cons, List.flatten_cons, List.append_assoc, openF_frame (h.small b (by simp))] at h2
    cases h2
  | b :: bs, c :: cs, l, r, q, h, k => by
    have h1 := h.eq
    rw [List.map_cons, List.flatten_cons, List.append_assoc] at h1
    have k1 := k.eq
    rw [List.map_cons, List.flatten_cons, List.append_assoc] at k1
    have h2 : openF l = some b := by rw [h1]; exact openF_frame (h.small b (by simp)) _
    have k2 : openF l = some c := by rw [k1]; exact openF_frame (k.small c (by simp)) _
    have e : b = c := by rw [h2] at k2; injection k2
    subst e
    have e2 : (bs.map frameB).flatten ++ r = (cs.map frameB).flatten ++ q := List.append_cancel_left (h1.symm.trans k1)
    have := Frames.uniq (l := (bs.map frameB).flatten ++ r) ⟨rfl, fun x hx => h.small x (by simp [hx]), h.stop⟩ (cs := cs) (q := q) ⟨e2, fun x hx => k.small x (by simp [hx]), k.stop⟩
    exact ⟨by rw [this.1], this.2⟩
def lenFr (bs : List (List UInt8)) : Nat := ((bs.map frameB).flatten).length
theorem lenFr_snoc (bs : List (List UInt8)) (b : List UInt8) : lenFr (bs ++ [b]) = lenFr bs + (8 + b.length) := by simp [lenFr, frameB_len]
theorem lenFr_ge : ∀ bs : List (List UInt8), 8 * bs.length ≤ lenFr bs
  | [] => by simp [lenFr]
  | b :: bs => by
    have := lenFr_ge bs
    unfold lenFr at this ⊢
    rw [List.map_cons, List.flatten_cons, List.length_append, frameB_len, List.length_cons]
    omega
def sval (b : List UInt8) : Value := .string (ofL b)
/-- a row of the call's own of strings -/
def OwnS (w : World) (B : Nat) (v : Value) (l : List (List UInt8)) : Prop := Row w B 9 1 v l.length (l.map sval)
theorem OwnS.below {w w' : World} {B : Nat} {v : Value} {l : List (List UInt8)} (h : OwnS w B v l) (hb : Below w.heap.size w w') : OwnS w' B v l := Row.below h hb
theorem Try.info_str : (Try.prog.info? 9).map (fun i => (i.zero, i.size, i.bytes)) = some (some (.string ⟨#[]⟩), 1, 16) := by kernel_rfl
theorem wpList_append_s {P : Program} (wr : World) {ops : Array Oper} {rest : List Oper} {o : Oper} {a : Act} {Q : Exit → Act → World → Prop} (hgd : o.guard = none) (s x : Operand) (t : TypeId)
    (ho : o.op = .call { callee := .builtin .append, args := #[s, x], argTypes := #[t, t] })
    (B : Nat) (e' : TypeId) (i : TypeInfo) (ht : P.underlying t = some (.slice 9)) (hi : P.info? 9 = some i) (hz : i.zero = some (.string ⟨#[]⟩)) (hsize : i.size = 1) (hby : i.bytes = 16)
    (v : Value) (l : List (List UInt8)) (hs : a.eval s = v) (hown : OwnS wr B v l)
    (c : List UInt8) (d : ByteArray) (hd : d = ofL c) (hx : a.eval x = .slice (some ⟨wr.heap.size, 0, none⟩) 1 1)
    (hlen : l.length ≤ 1099511627776) (hB : B ≤ wr.heap.size)
    (h : ∀ v' w', OwnS w' B v' (l ++ [c]) → Below B wr w' → wr.grownBy w' v.ownBlock → wpList P ops Q rest (a.put o.dst v') w') :
    wpList P ops Q (o :: rest) a (wr.alloc (.cells #[.string d] e')) := by
  subst hd
  refine wpList_append_fresh wr hgd s x t ho B 9 e' i (.string ⟨#[]⟩) 1 16 ht hi hz hsize hby rfl (by decide) v l.length (l.map sval) hs hown 1 1 [sval c] hx rfl (by intro u hu; simp at hu; subst hu; rfl) (by unfold maxLen; omega) (by omega) hB ?_
  intro v' w' r b g
  exact h v' w' (by unfold OwnS; rw [List.length_append, List.map_append]; exact r) b g

set_option maxRecDepth 100000 in
set_option maxHeartbeats 4000000 in
theorem scan_any (s : ByteArray) (w : World) (hs : s.size ≤ 1099511627776) :
    Calls Try.prog 20 #[.string s] w fun e w' => ∃ v bs rest, Frames s.toList bs rest ∧ e = .returned (.tuple #[v, .int .i64 (lenFr bs)]) ∧ OwnS w' w.heap.size v bs ∧ Below w.heap.size w w' := by
  obtain ⟨i0, hi, iz0, iz1, iz2⟩ := info_parts Try.info_str
  have Hi := Lib.hid hi
  clear hi
  go_enter Try.func20, Try.ntmps20
  go_wp2
  refine wp_scope_jumps 0 (fun a' V => ∃ (ao : Option Addr) (cap : Nat) (bs : List (List UInt8)) (rest : List UInt8) (u4 u5 u6 u7 u8 u9 u10 u11 u12 u13 u14 u15 u16 u17 u18 u19 u20 u21 u22 u23 u24 u25 : Value), a' = { tmps := #[.string s, undef, .slice ao bs.length cap, .int .i64 (lenFr bs), u4, u5, u6, u7, u8, u9, u10, u11, u12, u13, u14, u15, u16, u17, u18, u19, u20, u21, u22, u23, u24, u25], defers := [] } ∧ Hid (s.toList = (bs.map frameB).flatten ++ rest) ∧ Hid (∀ b ∈ bs, b.length ≤ 1048576) ∧ Hid (OwnS V w.heap.size (.slice ao bs.length cap) bs) ∧ Hid (Below w.heap.size w V)) (fun a' _ => s.size - (intOf (a'.tmps.getD 3 undef)).toNat) rfl ?_ ?_
  · go_wp2
    go_step3
    obtain ⟨ao, cap, bs, rest, hv, hm0, he, hsm, ho, hD⟩ : ∃ (ao : Option Addr) (cap : Nat) (bs : List (List UInt8)) (rest : List UInt8), Value.slice none 0 0 = .slice ao bs.length cap ∧ (0 : Int) = lenFr bs ∧ Hid (s.toList = (bs.map frameB).flatten ++ rest) ∧ Hid (∀ b ∈ bs, b.length ≤ 1048576) ∧ Hid (OwnS w w.heap.size (.slice ao bs.length cap) bs) ∧ Hid (Below w.heap.size w w) :=
      ⟨none, 0, [], s.toList, rfl, rfl, Lib.hid rfl, Lib.hid (fun b hb => by simp at hb), Lib.hid (Row.nil _ _ _ _), Lib.hid (Below.refl _ _)⟩
    rw [hv, show Value.int .i64 0 = Value.int .i64 (lenFr bs) from by rw [← hm0]]
    clear hv hm0
    obtain ⟨m, hm⟩ : ∃ m, m = lenFr bs := ⟨_, rfl⟩
    have hz := hD.out.size
    have hlen : s.size = lenFr bs + rest.length := by
      have := congrArg List.length he.out
      rw [List.length_append, size_list] at this
      exact this
    have hge := lenFr_ge bs
    have hext : s.extract m s.size = ofL rest := toList_inj.1 (by
      rw [toList_extract, ofL_toList, List.take_of_length_le (by rw [size_list]; exact Nat.le_refl _), he.out, hm]
      exact List.drop_left)
    rw [← hm] at hlen hge
    rw [← hm]
    have Hm := Lib.hid hm
    have hle1 : m ≤ s.size := by omega
    have hle2 : rest.length ≤ s.size - m := by omega
    have Hlen := Lib.hid hlen
    clear hm hlen
    have Ho := Lib.hid (fun W => open_any (ofL rest) W (by rw [ofL_size]; unfold maxLen; omega))
    rw [ofL_toList] at Ho
    cases hop : openF rest with
    | none =>
      have HV : Hid (openV rest = .tuple #[.string ⟨#[]⟩, .int .i64 0, .int .i64 4]) := Lib.hid (by rw [openV, hop])
      have HF := Lib.hid (Frames.mk he.out hsm.out hop)
      clear hop
      go_wp2_with (go_at_call 50; refine (Ho.out _).mono ?_; rintro e w2 ⟨rfl, hb⟩; have Hb := Lib.hid hb; clear hb; rw [HV.out])
      simp only [Exit.jump]
      go_returns
      exact ⟨_, bs, rest, HF.out, by rw [← Hm.out]; rfl, ho.out.below (Hb.out), hD.out.trans (Hb.out.mono hz)⟩
    | some b =>
      have hfc := frames_cons hop
      have HV : Hid (openV rest = .tuple #[.string (ofL b), .int .i64 (8 + b.length), .int .i64 0]) := Lib.hid (by rw [openV, hop])
      have HE : Hid (s.toList = ((bs ++ [b]).map frameB).flatten ++ rest.drop (8 + b.length)) := Lib.hid (by rw [List.map_append, List.flatten_append, List.map_singleton, List.flatten_singleton, List.append_assoc, ← hfc.1]; exact he.out)
      have HS : Hid (∀ x ∈ bs ++ [b], x.length ≤ 1048576) := Lib.hid (fun x hx => (List.mem_append.1 hx).elim (hsm.out x) (fun h => by rw [List.mem_singleton.1 h]; exact (openF_inv hop).1))
      have hbl := (openF_inv hop).1
      have HN : Hid (lenFr (bs ++ [b]) = m + (8 + b.length)) := Lib.hid (by rw [lenFr_snoc, ← Hm.out])
      have hfl : rest.length ≥ 8 + b.length := by
        have := congrArg List.length hfc.1
        rw [List.length_append, frameB_len] at this
        omega
      clear hop hfc
      obtain ⟨ub, hub⟩ : ∃ ub : ByteArray, ub = ofL b := ⟨_, rfl⟩
      rw [← hub] at HV
      have Hub := Lib.hid hub
      clear hub
      go_wp2_with (first
        | (go_at_call 50; refine (Ho.out _).mono ?_; rintro e w2 ⟨rfl, hb⟩; have Hb := Lib.hid hb; have hz2 := hb.size; clear hb; rw [HV.out])
        | (at_builtin; refine wpList_append_s w2 rfl _ _ 34 rfl w.heap.size 9 i0 Try.underlying34 Hi.out iz0 iz1 iz2 (.slice ao bs.length cap) bs rfl (ho.out.below Hb.out) b ub Hub.out rfl (by omega) (by omega) ?_; intro v3 w3 ho3 hb3 hg3; have HO3 := Lib.hid ho3; have HB3 := Lib.hid hb3; clear ho3 hb3 hg3))
      go_step3
      obtain ⟨ao3, cap3, e3⟩ := row_slice HO3.out
      subst e3
      have e4 : (m : Int) + (8 + (b.length : Int)) = (lenFr (bs ++ [b]) : Int) := by rw [HN.out]; omega
      rw [e4]
      exact ⟨rfl, ao3, cap3, bs ++ [b], _, _, _, _, _, _, _, _, _, _, _, _, _, _, _, _, _, _, _, _, _, _, _, rfl, Lib.hid HE.out, Lib.hid HS.out, HO3, Lib.hid (hD.out.trans ((Hb.out.mono hz).trans HB3.out))⟩
  · rintro a' V ⟨ao, cap, bs, rest, u4, u5, u6, u7, u8, u9, u10, u11, u12, u13, u14, u15, u16, u17, u18, u19, u20, u21, u22, u23, u24, u25, rfl, he, hsm, ho, hD⟩
    obtain ⟨m, hm⟩ : ∃ m, m = lenFr bs := ⟨_, rfl⟩
    have hz := hD.out.size
    have hlen : s.size = lenFr bs + rest.length := by
      have := congrArg List.length he.out
      rw [List.length_append, size_list] at this
      exact this
    have hge := lenFr_ge bs
    have hext : s.extract m s.size = ofL rest := toList_inj.1 (by
      rw [toList_extract, ofL_toList, List.take_of_length_le (by rw [size_list]; exact Nat.le_refl _), he.out, hm]
      exact List.drop_left)
    rw [← hm] at hlen hge
    rw [← hm]
    have Hm := Lib.hid hm
    have hle1 : m ≤ s.size := by omega
    have hle2 : rest.length ≤ s.size - m := by omega
    have Hlen := Lib.hid hlen
    clear hm hlen
    have Ho := Lib.hid (fun W => open_any (ofL rest) W (by rw [ofL_size]; unfold maxLen; omega))
    rw [ofL_toList] at Ho
    cases hop : openF rest with
    | none =>
      have HV : Hid (openV rest = .tuple #[.string ⟨#[]⟩, .int .i64 0, .int .i64 4]) := Lib.hid (by rw [openV, hop])
      have HF := Lib.hid (Frames.mk he.out hsm.out hop)
      clear hop
      go_wp2_with (go_at_call 50; refine (Ho.out _).mono ?_; rintro e w2 ⟨rfl, hb⟩; have Hb := Lib.hid hb; clear hb; rw [HV.out])
      simp only [Exit.jump]
      go_returns
      exact ⟨_, bs, rest, HF.out, by rw [← Hm.out]; rfl, ho.out.below (Hb.out), hD.out.trans (Hb.out.mono hz)⟩
    | some b =>
      have hfc := frames_cons hop
      have HV : Hid (openV rest = .tuple #[.string (ofL b), .int .i64 (8 + b.length), .int .i64 0]) := Lib.hid (by rw [openV, hop])
      have HE : Hid (s.toList = ((bs ++ [b]).map frameB).flatten ++ rest.drop (8 + b.length)) := Lib.hid (by rw [List.map_append, List.flatten_append, List.map_singleton, List.flatten_singleton, List.append_assoc, ← hfc.1]; exact he.out)
      have HS : Hid (∀ x ∈ bs ++ [b], x.length ≤ 1048576) := Lib.hid (fun x hx => (List.mem_append.1 hx).elim (hsm.out x) (fun h => by rw [List.mem_singleton.1 h]; exact (openF_inv hop).1))
      have hbl := (openF_inv hop).1
      have HN : Hid (lenFr (bs ++ [b]) = m + (8 + b.length)) := Lib.hid (by rw [lenFr_snoc, ← Hm.out])
      have hfl : rest.length ≥ 8 + b.length := by
        have := congrArg List.length hfc.1
        rw [List.length_append, frameB_len] at this
        omega
      clear hop hfc
      obtain ⟨ub, hub⟩ : ∃ ub : ByteArray, ub = ofL b := ⟨_, rfl⟩
      rw [← hub] at HV
      have Hub := Lib.hid hub
      clear hub
      go_wp2_with (first
        | (go_at_call 50; refine (Ho.out _).mono ?_; rintro e w2 ⟨rfl, hb⟩; have Hb := Lib.hid hb; have hz2 := hb.size; clear hb; rw [HV.out])
        | (at_builtin; refine wpList_append_s w2 rfl _ _ 34 rfl w.heap.size 9 i0 Try.underlying34 Hi.out iz0 iz1 iz2 (.slice ao bs.length cap) bs rfl (ho.out.below Hb.out) b ub Hub.out rfl (by omega) (by omega) ?_; intro v3 w3 ho3 hb3 hg3; have HO3 := Lib.hid ho3; have HB3 := Lib.hid hb3; clear ho3 hb3 hg3))
      go_step3
      obtain ⟨ao3, cap3, e3⟩ := row_slice HO3.out
      subst e3
      have e4 : (m : Int) + (8 + (b.length : Int)) = (lenFr (bs ++ [b]) : Int) := by rw [HN.out]; omega
      rw [e4]
      refine ⟨rfl, ⟨ao3, cap3, bs ++ [b], _, _, _, _, _, _, _, _, _, _, _, _, _, _, _, _, _, _, _, _, _, _, _, rfl, Lib.hid HE.out, Lib.hid HS.out, HO3, Lib.hid (hD.out.trans ((Hb.out.mono hz).trans HB3.out))⟩, ?_⟩
      have hN := HN.out
      simp only [intOf, Array.getD_eq_getD_getElem?, List.getElem?_toArray, List.getElem?_cons_succ, List.getElem?_cons_zero, Option.getD_some]
      omega
end Go.Proofs.Ytihglmicgccgiaa

/-
  The walk of bloom.hashes, at two numbers.
-/
namespace Go.Proofs.Ytihglmicgccgiaa
open Go.RowKit Go.Sort

theorem Try.info_u64 : (Try.prog.info? 29).map (fun i => (i.zero, i.size, i.bytes)) = some (some (.int .u64 0), 1, 8) := by kernel_rfl
def stepH (x : Int) (b : UInt8) : Int := IntKind.u64.wrap (bits .xor .u64 x (IntKind.u64.wrap b.toNat) * 1099511628211)
def hashH (x : Int) (l : List UInt8) : Int := l.foldl stepH x
theorem stepH_in (x : Int) (b : UInt8) : 0 ≤ stepH x b ∧ stepH x b ≤ 18446744073709551615 := by unfold stepH; rw [IntKind.wrap_u64]; omega
theorem hashH_in : ∀ (l : List UInt8) {x : Int}, 0 ≤ x ∧ x ≤ 18446744073709551615 → 0 ≤ hashH x l ∧ hashH x l ≤ 18446744073709551615
  | [], _, h => h
  | b :: l, x, _ => hashH_in l (stepH_in x b)
theorem hashH_snoc (x : Int) (l : List UInt8) (b : UInt8) : hashH x (l ++ [b]) = stepH (hashH x l) b := by simp [hashH]
/-- two numbers in a row of the call's own -/
def Two (w : World) (B g cap : Nat) (x y : Int) : Prop := Row w B 29 1 (.slice (some ⟨g, 0, none⟩) 2 cap) 2 [.int .u64 x, .int .u64 y]
theorem Two.c0 {w : World} {B g cap : Nat} {x y : Int} (h : Two w B g cap x y) : w.cell? ⟨g, 0, none⟩ = some (.int .u64 x) := Row.cell h 0 (by decide)
theorem Two.c1 {w : World} {B g cap : Nat} {x y : Int} (h : Two w B g cap x y) : w.cell? ⟨g, 1, none⟩ = some (.int .u64 y) := Row.cell h 1 (by decide)
theorem Two.set0 {w : World} {B g cap : Nat} {x y : Int} (h : Two w B g cap x y) (z : Int) : Two (w.setCell ⟨g, 0, none⟩ (.int .u64 z)) B g cap z y := Row.store (k := 0) h (by decide) _
theorem Two.set1 {w : World} {B g cap : Nat} {x y : Int} (h : Two w B g cap x y) (z : Int) : Two (w.setCell ⟨g, 1, none⟩ (.int .u64 z)) B g cap x z := Row.store (k := 0) h (by decide) _
theorem Two.free {w : World} {B g cap : Nat} {x y : Int} (h : Two w B g cap x y) {j : Nat} (hj : j < 2) : w.frozen? ⟨g, j, none⟩ = false := Row.free h (by omega)
theorem Two.lt {w : World} {B g cap : Nat} {x y : Int} (h : Two w B g cap x y) : B ≤ g ∧ g < w.heap.size := Row.lt h g rfl
theorem Two.below {w w' : World} {B g cap : Nat} {x y : Int} (h : Two w B g cap x y) (hb : Below w.heap.size w w') : Two w' B g cap x y := Row.below h hb
theorem arr_two (w : World) (g : Nat) (a b : Int) (hg : g < w.heap.size) (h0 : w.cell? ⟨g, 0, none⟩ = some (.int .u64 a)) (h1 : w.cell? ⟨g, 1, none⟩ = some (.int .u64 b)) : Arr w 1 (some ⟨g, 0, none⟩) 2 2 [[.int .u64 a], [.int .u64 b]] := by
  refine ⟨?_, rfl, Nat.le_refl _, by unfold maxLen; omega, fun _ => ⟨g, 0, rfl, hg, fun i x hx j u hu => ?_⟩⟩
  · intro e he
    simp only [List.mem_cons, List.not_mem_nil, or_false] at he
    rcases he with rfl | rfl
    · exact ⟨rfl, fun u hu => by rw [List.mem_singleton.1 hu]; rfl⟩
    · exact ⟨rfl, fun u hu => by rw [List.mem_singleton.1 hu]; rfl⟩
  · match i, hx with
    | 0, hx =>
      cases hx
      match j, hu with
      | 0, hu => cases hu; exact h0
      | j + 1, hu => simp at hu
    | 1, hx =>
      cases hx
      match j, hu with
      | 0, hu => cases hu; exact h1
      | j + 1, hu => simp at hu
    | i + 2, hx => simp at hx

set_option maxRecDepth 100000 in
set_option maxHeartbeats 2000000 in
theorem hashes_any (g : Nat) (s : ByteArray) (a b : Int) (w : World) (ha : 0 ≤ a ∧ a ≤ 18446744073709551615) (hb : 0 ≤ b ∧ b ≤ 18446744073709551615) (hg : g < w.heap.size) (h0 : w.cell? ⟨g, 0, none⟩ = some (.int .u64 a)) (h1 : w.cell? ⟨g, 1, none⟩ = some (.int .u64 b)) (hs : s.size ≤ maxLen) :
    Calls Try.prog 77 #[.string s, .slice (some ⟨g, 0, none⟩) 2 2] w fun e w' => ∃ p cap, e = .returned (.slice (some ⟨p, 0, none⟩) 2 cap) ∧ Two w' w.heap.size p cap (hashH a s.toList) (hashH b s.toList) ∧ Below w.heap.size w w' := by
  unfold maxLen at hs
  obtain ⟨i0, hi, iz0, iz1, iz2⟩ := info_parts Try.info_u64
  have Hi := Lib.hid hi
  have HA := Lib.hid (arr_two w g a b hg h0 h1)
  have Ha := Lib.hid ha
  have Hb := Lib.hid hb
  clear hi h0 h1 ha hb
  go_enter Try.func77, Try.ntmps77
  go_wp2_with (at_builtin; refine wpList_append_arr _ rfl _ _ 128 rfl w.heap.size 29 i0 _ 1 8 Try.underlying128 Hi.out iz0 iz1 iz2 rfl (by decide) _ 0 [] rfl (Row.nil _ _ _ _) rfl HA.out (by decide) (by decide) (by go_size) ?_; intro v1 w1 hr1 hb1 hg1)
  obtain ⟨p, cap, rfl, HT⟩ : ∃ p cap, v1 = .slice (some ⟨p, 0, none⟩) 2 cap ∧ Hid (Two w1 w.heap.size p cap a b) := by
    rcases hr1.form with ⟨rfl, h⟩ | ⟨p, cap, rfl, _⟩
    · cases h
    · exact ⟨p, cap, rfl, Lib.hid hr1⟩
  have HB1 := Lib.hid hb1
  clear hr1 hb1 hg1
  go_wp2
  go_loopw [12] (fun i V => ∃ r : Nat, r ≤ s.size ∧ i = .int .i64 r ∧ Hid (Two V w.heap.size p cap (hashH a (s.toList.take r)) (hashH b (s.toList.take r))) ∧ Hid (Below w.heap.size w V)) (fun i _ => s.size - (intOf i).toNat)
  case atStart => exact ⟨0, by omega, rfl, HT, HB1⟩
  case round =>
    obtain ⟨r, hr, rfl, hT, hV⟩ := hrel
    clear HT HB1
    by_cases hlt : r < s.size
    · have i1 := fun W => idx_at s r hlt .i64 r rfl W
      have ha1 := hashH_snoc a (s.toList.take r) s[r]
      have hb1 := hashH_snoc b (s.toList.take r) s[r]
      have e1 : s.toList.take (r + 1) = s.toList.take r ++ [s[r]] := by rw [List.take_add_one, byte_at hlt]; rfl
      rw [← e1] at ha1 hb1
      obtain ⟨c, hc⟩ : ∃ c, c = s[r] := ⟨_, rfl⟩
      obtain ⟨x, hx⟩ : ∃ x, x = hashH a (s.toList.take r) := ⟨_, rfl⟩
      obtain ⟨y, hy⟩ : ∃ y, y = hashH b (s.toList.take r) := ⟨_, rfl⟩
      have hxi := hashH_in (s.toList.take r) Ha.out
      have hyi := hashH_in (s.toList.take r) Hb.out
      rw [← hc] at i1 ha1 hb1
      rw [← hx] at ha1 hT hxi
      rw [← hy] at hb1 hT hyi
      have HA1 := Lib.hid ha1
      have HB1 := Lib.hid hb1
      clear hc hx hy ha1 hb1 e1
      obtain ⟨W1, rfl⟩ : ∃ W : World, W = wr := ⟨_, rfl⟩
      go_wp2
      go_loopw [17] (fun i V => ∃ k : Nat, k ≤ 2 ∧ i = .int .i64 k ∧ Hid (Two V w.heap.size p cap (if 0 < k then stepH x c else x) (if 1 < k then stepH y c else y)) ∧ Hid (Below w.heap.size w V)) (fun i _ => 2 - (intOf i).toNat)
      case atStart => exact ⟨0, by omega, rfl, hT, hV⟩
      case round =>
        obtain ⟨k, hk, rfl, hT2, hV2⟩ := hrel
        clear hT hV
        have hz2 := hV2.out.size
        obtain ⟨hp1, hp2⟩ := hT2.out.lt
        match k, hk with
        | 0, _ =>
          have c0 := hT2.out.c0
          have f0 := hT2.out.free (j := 0) (by decide)
          rw [if_neg (by decide)] at c0
          go_wp2_with fail
          refine wp_region_below_tail 13 (by kernel_rfl) (by kernel_rfl) (fun hkept => ?_)
          obtain ⟨r0, rf0⟩ := hkept (p) (by go_size); clear hkept
          simp only [List.take_succ_cons, List.take_zero, List.drop_succ_cons, List.drop_zero]
          repeat (any_goals (first | go_big_quiet_step (fail) | quiet_step (fail) | (refine wpQuiet_step (fun K hK => ?_); go_simp; split <;> (refine hK _ ?_; clear hK K))))
          all_goals (refine wpQuiet_nil ?_; intro V hb; obtain ⟨hB, hS, hk⟩ := after (B := wr.heap.size) (w := wr) (by go_grown) (by go_size) hb; obtain ⟨c0, f0, z0⟩ := hk (p) (by go_size); clear hk hb r0 rf0)
          have HN : Hid (Two (V.setCell ⟨p, 0, none⟩ (.int .u64 (IntKind.u64.wrap (bits .xor .u64 x (IntKind.u64.wrap c.toNat) * 1099511628211)))) w.heap.size p cap (if 0 < 1 then stepH x c else x) (if 1 < 1 then stepH y c else y)) := Lib.hid (by
            have h := (hT2.out.below hB).set0 (stepH x c)
            rw [if_neg (by decide)] at h
            rw [if_pos (by decide), if_neg (by decide)]
            exact h)
          have HVN := Lib.hid ((hV2.out.trans (hB.mono hz2)).setCell (p := ⟨p, 0, none⟩) hp1 (.int .u64 (IntKind.u64.wrap (bits .xor .u64 x (IntKind.u64.wrap c.toNat) * 1099511628211))))
          clear hT2 hV2
          go_wp2_with fail
          refine NoPanic.normal ?_
          go_wp2_with fail
          exact ⟨⟨1, by omega, by go_num, HN, HVN⟩, by simp [intOf]⟩
        | 1, _ =>
          have c0 := hT2.out.c1
          have f0 := hT2.out.free (j := 1) (by decide)
          rw [if_neg (by decide)] at c0
          go_wp2_with fail
          refine wp_region_below_tail 13 (by kernel_rfl) (by kernel_rfl) (fun hkept => ?_)
          obtain ⟨r0, rf0⟩ := hkept (p) (by go_size); clear hkept
          simp only [List.take_succ_cons, List.take_zero, List.drop_succ_cons, List.drop_zero]
          repeat (any_goals (first | go_big_quiet_step (fail) | quiet_step (fail) | (refine wpQuiet_step (fun K hK => ?_); go_simp; split <;> (refine hK _ ?_; clear hK K))))
          all_goals (refine wpQuiet_nil ?_; intro V hb; obtain ⟨hB, hS, hk⟩ := after (B := wr.heap.size) (w := wr) (by go_grown) (by go_size) hb; obtain ⟨c0, f0, z0⟩ := hk (p) (by go_size); clear hk hb r0 rf0)
          have HN : Hid (Two (V.setCell ⟨p, 1, none⟩ (.int .u64 (IntKind.u64.wrap (bits .xor .u64 y (IntKind.u64.wrap c.toNat) * 1099511628211)))) w.heap.size p cap (if 0 < 2 then stepH x c else x) (if 1 < 2 then stepH y c else y)) := Lib.hid (by
            have h := (hT2.out.below hB).set1 (stepH y c)
            rw [if_pos (by decide)] at h
            rw [if_pos (by decide), if_pos (by decide)]
            exact h)
          have HVN := Lib.hid ((hV2.out.trans (hB.mono hz2)).setCell (p := ⟨p, 1, none⟩) hp1 (.int .u64 (IntKind.u64.wrap (bits .xor .u64 y (IntKind.u64.wrap c.toNat) * 1099511628211))))
          clear hT2 hV2
          go_wp2_with fail
          refine NoPanic.normal ?_
          go_wp2_with fail
          exact ⟨⟨2, by omega, by go_num, HN, HVN⟩, by simp [intOf]⟩
        | 2, _ =>
          have HN := hT2.out
          rw [if_pos (by decide), if_pos (by decide), ← HA1.out, ← HB1.out] at HN
          have HN2 := Lib.hid HN
          clear HN
          go_wp2_with fail
          exact ⟨⟨r + 1, by omega, by go_num, HN2, hV2⟩, by simp [intOf]; omega⟩
    · obtain rfl : r = s.size := by omega
      have hT' := hT.out
      rw [List.take_of_length_le (by rw [size_list]; exact Nat.le_refl _)] at hT'
      have HT' := Lib.hid hT'
      clear hT hT'
      go_wp2
      go_ret
      exact ⟨p, cap, rfl, HT'.out, hV.out⟩
end Go.Proofs.Ytihglmicgccgiaa
