/-
  As Lift, for a statement of the second form (what it reads is of a bulk that is bounded).
-/
import Derived.Test.YtfkghpomcaonfaaLift
import Derived.Deep.CondSized
namespace Go.Proofs.Ytfkghpomcaonfaa
open Go.ChangeShapes Go.WideShapes Go.ChangeAt Go.RowKit

set_option maxRecDepth 100000 in
theorem lift_lawU {os : Os} (started : os.Started) {H : Type} {enc : TypeId × Value → H} {F : FuncId} {Fi : Stop.Interp} {fn : Func} {s : ChangeSpec} {tb : TypeId} (ts : List TypeId)
    (hfn : Try.prog.funcs[F]? = some fn) (noInit : Try.prog.inits.idxOf? F = none) (hts : fn.params.toList = ts) (hrt : fn.resultTypes = #[tb]) (hbool : Try.prog.underlying tb = some .bool) (hvars : s.vars = [])
    (hs : ∀ (ds : List (DataW H)), ds.length = ts.length → (s.fn H (ds ++ [])).results = [.lit (.bool true)] ∧ (s.fn H (ds ++ [])).args = ds ∧ (s.fn H (ds ++ [])).vars = [])
    (hrow : rowedAll Try.prog ts = true)
    (witness : ∃ (w : World) (tape : Tape) (i : Input), w.os = os ∧ (w.forCall tape i).Shaped Try.prog ∧ i.vars = [] ∧ Input.okWide Try.prog (w.forCall tape i) .any w.heap.size F i ∧
      (Rows.OpenSpec.upto s).pre6 enc Try.prog fn [] false (w.forCall tape i).memory i.args ∧ ({} : Assume).holds Try.prog (lone (Frame.enter Try.prog F i.args .normal) [] (w.forCall tape i)))
    (walk : LawWalk H enc F ts) :
    ReturnsInHanded {} Try.checked os F .any ((Rows.OpenSpec.upto s).pre6 enc Try.prog fn [] false) (((Rows.OpenSpec.upto s).at Fi).post enc Try.prog fn false true false false) := by
  refine returnsInHanded_of_cond_sized (C := Try.checked) (s := Rows.OpenSpec.upto s) (k := Rows.uptoSmall) rfl Try.own started noInit hfn witness ?_
  intro W base args ds gs before hval0 hW1 hcnd hk hsz hhold
  have hW : DataW.Whole enc Try.prog fn.params.toList s.vars false W args.toList ds gs before := hW1
  show Calls Try.prog F args W fun e W' => ∃ v, e = .returned v ∧ s.post enc Try.prog fn false true false false W args v W'
  have hval1 : ∀ (j : Nat) t v, fn.params[j]? = some t → args[j]? = some v → Value.okWide Try.prog W .any base t v := hval0
  have hval : ∀ (j : Nat) t v, ts[j]? = some t → args[j]? = some v → Value.okWide Try.prog W .any base t v := by
    intro j t v hj hv
    exact hval1 j t v (by rw [← Array.getElem?_toList, hts]; exact hj) hv
  have hlt := hW.lt
  have hW' := hW
  obtain ⟨p, q, hA0, hV, rfl, hfz, hnd⟩ := hW
  rw [hvars] at hV
  obtain ⟨rfl, rfl⟩ := trodVars_none hV
  rw [hts] at hA0
  have hsz1 : (DataW.weightsEach Try.prog (fn.params.toList ++ s.plain.varTypes Try.prog) (ds ++ [])).all (· ≤ reachBytes) = true := hsz
  have hvt : s.plain.varTypes Try.prog = [] := by
    show (s.plain.vars).filterMap _ = []
    have : s.plain.vars = s.vars := rfl
    rw [this, hvars]; rfl
  rw [hvt, hts, List.append_nil, List.append_nil] at hsz1
  simp only [List.append_nil] at hlt hfz hW'
  have hlen : ds.length = ts.length := by
    clear hsz1 hsz hval hval1 hval0 hcnd hhold hk hW1 hW' hlt hfz hnd hs walk witness hrow hts
    generalize args.toList = vs at hA0
    induction ts generalizing vs ds p with
    | nil => cases vs <;> cases ds <;> simp_all [DataW.TrodAll]
    | cons t ts ih =>
      cases vs <;> cases ds <;> simp [DataW.TrodAll] at hA0 ⊢
      obtain ⟨p1, _, q1, h2, _⟩ := hA0
      exact ih _ _ _ h2
  refine (walk W base args ds p hval hA0 hsz1 hfz).mono fun e W' ⟨he, hb⟩ => ?_
  subst he
  refine ⟨_, rfl, ds, [], p, [], p, [], hW', ?_, ?_, ?_, hb.frame _, fun h => by cases h⟩
  · rw [hrt, (hs ds hlen).1]
    exact trodAll_mk1 (shut_bool hbool true)
  · rw [hts, (hs ds hlen).2.1]
    exact trodAll_below Try.laidOut hb hrow hlt hA0
  · rw [hvars, (hs ds hlen).2.2]
    exact rfl

end Go.Proofs.Ytfkghpomcaonfaa
