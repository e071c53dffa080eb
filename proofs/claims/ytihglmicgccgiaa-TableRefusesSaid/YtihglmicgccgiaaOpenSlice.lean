/-
  From a walk to a row: a law that returns true, at every reading of its arguments, leaving old memory alone, meets the given row's demand.
-/
import Derived.Test.YtihglmicgccgiaaRows
import Derived.ProofKit
import Derived.SizedLaws
import Derived.Deep.Slices
import Derived.Lib.SmallJoins
namespace Go.Proofs.Ytihglmicgccgiaa
open Go.ChangeShapes Go.WideShapes Go.ChangeAt Go.RowKit

theorem Try.own : ownKnob Try.prog.godebug = none := by kernel_rfl
theorem Try.laidOut : laidOutB Try.prog = true := by kernel_rfl

def rowedAll (P : Program) (ts : List TypeId) : Bool := ts.all fun t => P.readableRec t && decide (t < P.types.size)

theorem trodAll_below {H : Type} {enc : TypeId × Value → H} {P : Program} (hl : laidOutB P = true) {W W' : World} (hb : Below W.heap.size W W') :
    ∀ {ts : List TypeId} {vs : List Value} {ds : List (DataW H)} {ps : List MemPlace}, rowedAll P ts = true → (∀ x ∈ ps, x.block < W.heap.size) →
      DataW.TrodAll enc P W 0 (fun _ => true) true ts vs ds ps → DataW.TrodAll enc P W' 0 (fun b => decide (b < W.heap.size)) true ts vs ds ps
  | [], [], [], _, _, _, h => h
  | t :: ts, v :: vs, d :: ds, ps, hr, hlt, h => by
    obtain ⟨p, q, h1, h2, e⟩ := h
    subst e
    simp only [rowedAll, List.all_cons, Bool.and_eq_true, decide_eq_true_eq] at hr
    refine ⟨p, q, Below.trod hl hr.1.1 hr.1.2 h1 hb (fun x hx => hlt x (by simp [hx])), trodAll_below hl hb (by simpa [rowedAll] using hr.2) (fun x hx => hlt x (by simp [hx])) h2, rfl⟩
  | [], _ :: _, _, _, _, _, h => by cases h
  | [], [], _ :: _, _, _, _, h => by cases h
  | _ :: _, [], _, _, _, _, h => by cases h
  | _ :: _, _ :: _, [], _, _, _, h => by cases h

/-- What a law's walk has to show: at every reading of its arguments. -/
def LawWalk (H : Type) (enc : TypeId × Value → H) (F : FuncId) (ts : List TypeId) : Prop :=
  ∀ (W : World) (base : Nat) (args : Array Value) (ds : List (DataW H)) (p : List MemPlace),
    (∀ (j : Nat) t v, ts[j]? = some t → args[j]? = some v → Value.okWide Try.prog W .any base t v) →
    DataW.TrodAll enc Try.prog W 0 (fun _ => true) true ts args.toList ds p →
    (DataW.weightsEach Try.prog ts ds).all (· ≤ reachBytes) = true →
    W.noneFrozen p →
    Calls Try.prog F args W fun e w' => e = .returned (.bool true) ∧ Below W.heap.size W w'

set_option maxRecDepth 100000 in
theorem lift_law {os : Os} (started : os.Started) {H : Type} {enc : TypeId × Value → H} {F : FuncId} {fn : Func} {s : ChangeSpec} {tb : TypeId} (ts : List TypeId)
    (hfn : Try.prog.funcs[F]? = some fn) (noInit : Try.prog.inits.idxOf? F = none) (hts : fn.params.toList = ts) (hrt : fn.resultTypes = #[tb]) (hbool : Try.prog.underlying tb = some .bool) (hvars : s.vars = [])
    (hs : ∀ (ds : List (DataW H)), ds.length = ts.length → (s.fn H (ds ++ [])).results = [.lit (.bool true)] ∧ (s.fn H (ds ++ [])).args = ds ∧ (s.fn H (ds ++ [])).vars = [])
    (hrow : rowedAll Try.prog ts = true)
    (witness : ∃ (w : World) (tape : Tape) (i : Input), w.os = os ∧ (w.forCall tape i).Shaped Try.prog ∧ i.vars = [] ∧ Input.okWide Try.prog (w.forCall tape i) .any w.heap.size F i ∧
      s.pre6 enc Try.prog fn [] false (w.forCall tape i).memory i.args ∧ ({} : Assume).holds Try.prog (lone (Frame.enter Try.prog F i.args .normal) [] (w.forCall tape i)))
    (walk : LawWalk H enc F ts) :
    ReturnsInHanded {} Try.checked os F .any (s.pre6 enc Try.prog fn [] false) (s.post enc Try.prog fn false true false false) := by
  refine returnsInHanded_of_change_sized (C := Try.checked) Try.own started noInit hfn witness ?_
  intro W base args ds gs before hval0 hW hcnd hsz hhold
  have hval1 : ∀ (j : Nat) t v, fn.params[j]? = some t → args[j]? = some v → Value.okWide Try.prog W .any base t v := hval0
  have hval : ∀ (j : Nat) t v, ts[j]? = some t → args[j]? = some v → Value.okWide Try.prog W .any base t v := by
    intro j t v hj hv
    exact hval1 j t v (by rw [← Array.getElem?_toList, hts]; exact hj) hv
  have hlt := hW.lt
  have hW' := hW
  obtain ⟨p, q, hA0, hV, rfl, hfz, hnd⟩ := hW
  rw [hvars] at hV
  obtain ⟨rfl, rfl⟩ := trodVars_none hV
  rw [hts] at hA0
  have hsz1 : (DataW.weightsEach Try.prog (fn.params.toList ++ s.plain.varTypes Try.prog) (ds ++ [])).all (· ≤ reachBytes) = true := hsz
  have hvt : s.plain.varTypes Try.prog = [] := by
    show (s.plain.vars).filterMap _ = []
    have : s.plain.vars = s.vars := rfl
    rw [this, hvars]; rfl
  rw [hvt, hts, List.append_nil, List.append_nil] at hsz1
  simp only [List.append_nil] at hlt hfz hW'
  have hlen : ds.length = ts.length := by
    clear hsz1 hsz hval hval1 hval0 hcnd hhold hW' hlt hfz hnd hs walk witness hrow hts
    generalize args.toList = vs at hA0
    induction ts generalizing vs ds p with
    | nil => cases vs <;> cases ds <;> simp_all [DataW.TrodAll]
    | cons t ts ih =>
      cases vs <;> cases ds <;> simp [DataW.TrodAll] at hA0 ⊢
      obtain ⟨p1, _, q1, h2, _⟩ := hA0
      exact ih _ _ _ h2
  refine (walk W base args ds p hval hA0 hsz1 hfz).mono fun e W' ⟨he, hb⟩ => ?_
  subst he
  refine ⟨_, rfl, ds, [], p, [], p, [], hW', ?_, ?_, ?_, hb.frame _, fun h => by cases h⟩
  · rw [hrt, (hs ds hlen).1]
    exact trodAll_mk1 (shut_bool hbool true)
  · rw [hts, (hs ds hlen).2.1]
    exact trodAll_below Try.laidOut hb hrow hlt hA0
  · rw [hvars, (hs ds hlen).2.2]
    exact rfl

end Go.Proofs.Ytihglmicgccgiaa

/-
  Opening a law's argument that is a text, a slice of structs (each field of one cell), a slice of plain elements.
-/
namespace Go.Proofs.Ytihglmicgccgiaa
open Go.ChangeShapes Go.WideShapes Go.ChangeAt Go.RowKit Go.Joins Go.Deep

/-- For each number below n something: then a list of such things. -/
theorem list_of {α : Type} (P : Nat → α → Prop) : ∀ n, (∀ i, i < n → ∃ x, P i x) → ∃ l : List α, l.length = n ∧ ∀ i x, l[i]? = some x → P i x
  | 0, _ => ⟨[], rfl, fun i x h => by simp at h⟩
  | n + 1, h => by
    obtain ⟨l, hl, hp⟩ := list_of P n (fun i hi => h i (by omega))
    obtain ⟨x, hx⟩ := h n (by omega)
    refine ⟨l ++ [x], by simp [hl], fun i y hy => ?_⟩
    rw [List.getElem?_append] at hy
    split at hy
    · exact hp i y hy
    · rename_i hi
      have : i = n := by
        have := (List.getElem?_eq_some_iff.1 hy).1
        simp at this; omega
      subst this
      simp [hl] at hy
      exact hy ▸ hx

theorem addr_of_cell {w : World} {a : Addr} {v : Value} (h : w.cell? a = some v) : ∃ b off, a = ⟨b, off, none⟩ := by
  obtain ⟨b, off, sp⟩ := a
  have : sp = none := by simpa using World.cell?_spot h
  exact ⟨b, off, by rw [this]⟩

section
variable {H : Type} {enc : TypeId × Value → H} {P : Program} {w : World} {base : Nat} {sp : Nat → Bool} {held : Bool} {r : Reach} {b0 : Nat} {t e : TypeId} {v : Value} {d : DataW H} {p : List MemPlace}

/-- A slice: of no element; or its elements' cells, each element's reading. -/
theorem open_slice_any (ht : P.underlying t = some (.slice e)) (hv : Value.okWide P w r b0 t v) (h : DataW.Trod enc P w base sp held t v d p) (hC : 0 < P.cellsOf e) :
    (∃ ao cap, v = .slice ao 0 cap ∧ cap ≤ maxLen) ∨
    ∃ b off len cap, v = .slice (some ⟨b, off, none⟩) len cap ∧ 0 < len ∧ len ≤ cap ∧ cap ≤ maxLen ∧
      ∀ i, i < len → ∃ (cs : List Value) (n : Nat) (y : DataW H × List MemPlace), cs.length = P.cellsOf e ∧ (∀ j, j < P.cellsOf e → w.cell? ⟨b, off + i * P.cellsOf e + j, none⟩ = cs[j]?) ∧ DataW.trod enc P w base sp held n e cs = some y := by
  obtain ⟨a0, len0, cap0, rfl⟩ := okWide_slice ht hv
  obtain ⟨fuel, hf⟩ := h
  rcases open_slice ht hf with ⟨hcs, _⟩ | ⟨a, len, cap, m, n, D, Pl, hcs, _, hl, hm, hmm, _, hi⟩
  · simp [Value.cells] at hcs
    obtain ⟨rfl, rfl, rfl⟩ := hcs
    exact .inl ⟨_, 0, rfl, by unfold maxLen; omega⟩
  · simp [Value.cells] at hcs
    obtain ⟨rfl, rfl, rfl⟩ := hcs
    rcases Nat.eq_zero_or_pos len0 with rfl | hp
    · exact .inl ⟨_, _, rfl, hm⟩
    · right
      have hlm : len0 ≤ m := by rw [hmm]; split <;> omega
      obtain ⟨cs0, hc0, _⟩ := hi 0 (by omega)
      obtain ⟨_, hcl, hg0⟩ := World.cells?_some hc0
      obtain ⟨b, off, rfl⟩ : ∃ b off, a = ⟨b, off, none⟩ := by
        have h1 := hg0 0 hC
        rw [List.getElem?_eq_getElem (by omega), Nat.zero_mul] at h1
        have e0 : (a.add 0).add 0 = a := by simp [Addr.add]
        rw [e0] at h1
        exact addr_of_cell h1
      refine ⟨b, off, len0, cap0, rfl, hp, hl, hm, fun i hil => ?_⟩
      obtain ⟨cs, hc, htr⟩ := hi i (by omega)
      obtain ⟨_, hl1, hg⟩ := World.cells?_some hc
      refine ⟨cs, n, _, hl1, fun j hj => ?_, htr⟩
      have := hg j hj
      rw [Go.Deep.add_add, Addr.add_lit, ← Nat.add_assoc] at this
      exact this

/-- .. of structs whose fields have one cell each. -/
theorem open_slice_structs {fs : Array Field} (ht : P.underlying t = some (.slice e)) (he : P.underlying e = some (.struct fs)) (hone : oneCellFields P fs = true) (hC : P.cellsOf e = fs.size) (h0 : 0 < fs.size)
    (hv : Value.okWide P w r b0 t v) (h : DataW.Trod enc P w base sp held t v d p) :
    (∃ ao cap, v = .slice ao 0 cap ∧ cap ≤ maxLen) ∨
    ∃ b off len cap, v = .slice (some ⟨b, off, none⟩) len cap ∧ 0 < len ∧ len ≤ cap ∧ cap ≤ maxLen ∧
      ∀ i, i < len → ∀ (j : Nat) (f : Field), fs[j]? = some f → ∃ n y u, w.cell? ⟨b, off + i * fs.size + j, none⟩ = some u ∧ DataW.trod enc P w base sp held n f.type [u] = some y := by
  rcases open_slice_any ht hv h (by omega) with h1 | ⟨b, off, len, cap, rfl, h1, h2, h3, h4⟩
  · exact .inl h1
  · refine .inr ⟨b, off, len, cap, rfl, h1, h2, h3, fun i hi j f hj => ?_⟩
    obtain ⟨cs, n, y, hl, hc, htr⟩ := h4 i hi
    rw [hC] at hl hc
    obtain ⟨ys, n', _, _, hlen, hyl, hf⟩ := DataW.trod_struct he htr
    have hjl : j < fs.size := (Array.getElem?_eq_some_iff.1 hj).1
    obtain ⟨ho, hk⟩ := hone_of hone j f hj
    have h5 := hf j f hj
    have hys : ys[j]? = some (ys[j]'(by omega)) := List.getElem?_eq_getElem (by omega)
    have e1 : (cs.drop j).take 1 = [cs[j]'(by omega)] := by
      rw [List.drop_eq_getElem_cons (by omega)]; rfl
    rw [ho, hk, hys, e1] at h5
    exact ⟨n', _, cs[j]'(by omega), by rw [hc j hjl]; exact List.getElem?_eq_getElem (by omega), h5⟩

/-- .. of elements of one cell. -/
theorem open_slice_plain (ht : P.underlying t = some (.slice e)) (hC : P.cellsOf e = 1) (hv : Value.okWide P w r b0 t v) (h : DataW.Trod enc P w base sp held t v d p) :
    (∃ ao cap, v = .slice ao 0 cap ∧ cap ≤ maxLen) ∨
    ∃ b off len cap, v = .slice (some ⟨b, off, none⟩) len cap ∧ 0 < len ∧ len ≤ cap ∧ cap ≤ maxLen ∧
      ∀ i, i < len → ∃ n y u, w.cell? ⟨b, off + i, none⟩ = some u ∧ DataW.trod enc P w base sp held n e [u] = some y := by
  rcases open_slice_any ht hv h (by omega) with h1 | ⟨b, off, len, cap, rfl, h1, h2, h3, h4⟩
  · exact .inl h1
  · refine .inr ⟨b, off, len, cap, rfl, h1, h2, h3, fun i hi => ?_⟩
    obtain ⟨cs, n, y, hl, hc, htr⟩ := h4 i hi
    rw [hC] at hl hc
    match cs, hl with
    | [u], _ =>
      have := hc 0 (by omega)
      simp at this
      exact ⟨n, y, u, this, htr⟩
end

end Go.Proofs.Ytihglmicgccgiaa
