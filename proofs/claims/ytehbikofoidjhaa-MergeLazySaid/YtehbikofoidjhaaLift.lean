/-
  From a walk to a row: a law that returns true, at every reading of its arguments, leaving old memory alone, meets the given row's demand.
-/
import Derived.Test.YtehbikofoidjhaaRows
import Derived.ProofKit
import Derived.SizedLaws
namespace Go.Proofs.Ytehbikofoidjhaa
open Go.ChangeShapes Go.WideShapes Go.ChangeAt Go.RowKit

theorem Try.own : ownKnob Try.prog.godebug = none := by kernel_rfl
theorem Try.laidOut : laidOutB Try.prog = true := by kernel_rfl

def rowedAll (P : Program) (ts : List TypeId) : Bool := ts.all fun t => P.readableRec t && decide (t < P.types.size)

theorem trodAll_below {H : Type} {enc : TypeId × Value → H} {P : Program} (hl : laidOutB P = true) {W W' : World} (hb : Below W.heap.size W W') :
    ∀ {ts : List TypeId} {vs : List Value} {ds : List (DataW H)} {ps : List MemPlace}, rowedAll P ts = true → (∀ x ∈ ps, x.block < W.heap.size) →
      DataW.TrodAll enc P W 0 (fun _ => true) true ts vs ds ps → DataW.TrodAll enc P W' 0 (fun b => decide (b < W.heap.size)) true ts vs ds ps
  | [], [], [], _, _, _, h => h
  | t :: ts, v :: vs, d :: ds, ps, hr, hlt, h => by
    obtain ⟨p, q, h1, h2, e⟩ := h
    subst e
    simp only [rowedAll, List.all_cons, Bool.and_eq_true, decide_eq_true_eq] at hr
    refine ⟨p, q, Below.trod hl hr.1.1 hr.1.2 h1 hb (fun x hx => hlt x (by simp [hx])), trodAll_below hl hb (by simpa [rowedAll] using hr.2) (fun x hx => hlt x (by simp [hx])) h2, rfl⟩
  | [], _ :: _, _, _, _, _, h => by cases h
  | [], [], _ :: _, _, _, _, h => by cases h
  | _ :: _, [], _, _, _, _, h => by cases h
  | _ :: _, _ :: _, [], _, _, _, h => by cases h

/-- What a law's walk has to show: at every reading of its arguments. -/
def LawWalk (H : Type) (enc : TypeId × Value → H) (F : FuncId) (ts : List TypeId) : Prop :=
  ∀ (W : World) (base : Nat) (args : Array Value) (ds : List (DataW H)) (p : List MemPlace),
    (∀ (j : Nat) t v, ts[j]? = some t → args[j]? = some v → Value.okWide Try.prog W .any base t v) →
    DataW.TrodAll enc Try.prog W 0 (fun _ => true) true ts args.toList ds p →
    (DataW.weightsEach Try.prog ts ds).all (· ≤ reachBytes) = true →
    W.noneFrozen p →
    Calls Try.prog F args W fun e w' => e = .returned (.bool true) ∧ Below W.heap.size W w'

set_option maxRecDepth 100000 in
theorem lift_law {os : Os} (started : os.Started) {H : Type} {enc : TypeId × Value → H} {F : FuncId} {fn : Func} {s : ChangeSpec} {tb : TypeId} (ts : List TypeId)
    (hfn : Try.prog.funcs[F]? = some fn) (noInit : Try.prog.inits.idxOf? F = none) (hts : fn.params.toList = ts) (hrt : fn.resultTypes = #[tb]) (hbool : Try.prog.underlying tb = some .bool) (hvars : s.vars = [])
    (hs : ∀ (ds : List (DataW H)), ds.length = ts.length → (s.fn H (ds ++ [])).results = [.lit (.bool true)] ∧ (s.fn H (ds ++ [])).args = ds ∧ (s.fn H (ds ++ [])).vars = [])
    (hrow : rowedAll Try.prog ts = true)
    (witness : ∃ (w : World) (tape : Tape) (i : Input), w.os = os ∧ (w.forCall tape i).Shaped Try.prog ∧ i.vars = [] ∧ Input.okWide Try.prog (w.forCall tape i) .any w.heap.size F i ∧
      s.pre6 enc Try.prog fn [] false (w.forCall tape i).memory i.args ∧ ({} : Assume).holds Try.prog (lone (Frame.enter Try.prog F i.args .normal) [] (w.forCall tape i)))
    (walk : LawWalk H enc F ts) :
    ReturnsInHanded {} Try.checked os F .any (s.pre6 enc Try.prog fn [] false) (s.post enc Try.prog fn false true false false) := by
  refine returnsInHanded_of_change_sized (C := Try.checked) Try.own started noInit hfn witness ?_
  intro W base args ds gs before hval0 hW hcnd hsz hhold
  have hval1 : ∀ (j : Nat) t v, fn.params[j]? = some t → args[j]? = some v → Value.okWide Try.prog W .any base t v := hval0
  have hval : ∀ (j : Nat) t v, ts[j]? = some t → args[j]? = some v → Value.okWide Try.prog W .any base t v := by
    intro j t v hj hv
    exact hval1 j t v (by rw [← Array.getElem?_toList, hts]; exact hj) hv
  have hlt := hW.lt
  have hW' := hW
  obtain ⟨p, q, hA0, hV, rfl, hfz, hnd⟩ := hW
  rw [hvars] at hV
  obtain ⟨rfl, rfl⟩ := trodVars_none hV
  rw [hts] at hA0
  have hsz1 : (DataW.weightsEach Try.prog (fn.params.toList ++ s.plain.varTypes Try.prog) (ds ++ [])).all (· ≤ reachBytes) = true := hsz
  have hvt : s.plain.varTypes Try.prog = [] := by
    show (s.plain.vars).filterMap _ = []
    have : s.plain.vars = s.vars := rfl
    rw [this, hvars]; rfl
  rw [hvt, hts, List.append_nil, List.append_nil] at hsz1
  simp only [List.append_nil] at hlt hfz hW'
  have hlen : ds.length = ts.length := by
    clear hsz1 hsz hval hval1 hval0 hcnd hhold hW' hlt hfz hnd hs walk witness hrow hts
    generalize args.toList = vs at hA0
    induction ts generalizing vs ds p with
    | nil => cases vs <;> cases ds <;> simp_all [DataW.TrodAll]
    | cons t ts ih =>
      cases vs <;> cases ds <;> simp [DataW.TrodAll] at hA0 ⊢
      obtain ⟨p1, _, q1, h2, _⟩ := hA0
      exact ih _ _ _ h2
  refine (walk W base args ds p hval hA0 hsz1 hfz).mono fun e W' ⟨he, hb⟩ => ?_
  subst he
  refine ⟨_, rfl, ds, [], p, [], p, [], hW', ?_, ?_, ?_, hb.frame _, fun h => by cases h⟩
  · rw [hrt, (hs ds hlen).1]
    exact trodAll_mk1 (shut_bool hbool true)
  · rw [hts, (hs ds hlen).2.1]
    exact trodAll_below Try.laidOut hb hrow hlt hA0
  · rw [hvars, (hs ds hlen).2.2]
    exact rfl

end Go.Proofs.Ytehbikofoidjhaa
