/-
  Where a replica's parts lie makes no difference to what a check finds. Plain.
-/
import Derived.Test.YteibnignjghedaaAudOS
namespace Go.Proofs.Yteibnignjghedaa
open Go.RowKit Go.Sort

def ppN (p : EntA × EntA) : EntA × EntA := (p.1.norm, p.2.norm)
theorem same_norm (a b : EntA) : sameE a.norm b.norm = sameE a b := rfl
theorem chain_norm : ∀ (es : List EntA) (i t : Int), chainL i t (es.map EntA.norm) = chainL i t es
  | [], _, _ => rfl
  | e :: r, i, t => by
    rw [List.map_cons, chainL, chainL, chain_norm r]
    rfl
theorem lastX_norm (i : Int) (es : List EntA) : lastX i (es.map EntA.norm) = lastX i es := by
  unfold lastX
  rw [List.getLast?_map]
  cases es.getLast? <;> rfl
theorem may_norm (s : SeenA) : mayS s.norm = mayS s := by
  have h1 : chainL s.norm.bidx s.norm.bterm s.norm.es = chainL s.bidx s.bterm s.es := chain_norm _ _ _
  have h2 : tailS s.norm = tailS s := by
    have h3 : lastX s.norm.bidx s.norm.es = lastX s.bidx s.es := lastX_norm _ _
    rw [tailS, tailS, h3]; rfl
  rw [mayS, mayS, h1, h2]
  rfl
theorem pair_norm (b : SeenA) (x : EntA) : pairL b.norm x.norm = (pairL b x).map ppN := by
  have hl : b.norm.es.length = b.es.length := by show (b.es.map EntA.norm).length = _; rw [List.length_map]
  have hi : x.norm.idx = x.idx := rfl
  have hb : b.norm.bidx = b.bidx := rfl
  have hg : ∀ k : Nat, b.norm.es[k]? = (b.es[k]?).map EntA.norm := fun k => by show (b.es.map EntA.norm)[k]? = _; rw [List.getElem?_map]
  rw [pairL, pairL, hl, hi, hb]
  split
  · rfl
  · rw [hg]
    cases b.es[(x.idx - b.bidx - 1).toNat]? <;> rfl
theorem common_norm (a b : SeenA) : commonL a.norm b.norm = (commonL a b).map ppN := by
  have ha : a.norm.es = a.es.map EntA.norm := rfl
  rw [commonL, commonL, ha, List.filterMap_map, List.map_filterMap]
  congr 1
  funext x
  exact pair_norm b x
theorem formsF_norm : ∀ (l : List (EntA × EntA)) (u : Bool), formsF u (l.map ppN) = formsF u l
  | [], _ => rfl
  | p :: r, u => by
    rw [List.map_cons, formsF, formsF, formsF_norm r]
    rfl
theorem forms_norm (a b : SeenA) : formsL a.norm b.norm = formsL a b := by rw [formsL, formsL, common_norm, formsF_norm]
theorem busyF_norm (most : Int) (l : List (EntA × EntA)) : busyF most (l.map ppN) = busyF most l := by
  rw [busyF, busyF, List.any_map]
  rfl
theorem at_norm (b : SeenA) (n : Int) : atX b.norm n = (atX b n).map EntA.norm := by
  have hl : b.norm.es.length = b.es.length := by show (b.es.map EntA.norm).length = _; rw [List.length_map]
  have hb : b.norm.bidx = b.bidx := rfl
  have hg : ∀ k : Nat, b.norm.es[k]? = (b.es[k]?).map EntA.norm := fun k => by show (b.es.map EntA.norm)[k]? = _; rw [List.getElem?_map]
  rw [atX, atX, hl, hb]
  split
  · rfl
  · rw [hg]
theorem based_norm (a b : SeenA) (most : Int) : basedL a.norm b.norm most = basedL a b most := by
  have h1 : a.norm.bidx = a.bidx := rfl
  have h2 : b.norm.bidx = b.bidx := rfl
  have h3 : a.norm.bterm = a.bterm := rfl
  have h4 : b.norm.bterm = b.bterm := rfl
  rw [basedL, basedL, at_norm, h1, h2, h3, h4]
  cases atX b a.bidx <;> rfl
theorem busy_norm (a b : SeenA) : busyL a.norm b.norm = busyL a b := by
  have h1 : a.norm.com = a.com := rfl
  have h2 : b.norm.com = b.com := rfl
  rw [busyL, busyL, common_norm, busyF_norm, based_norm, based_norm, h1, h2]
theorem pairF_norm (a b : SeenA) (k : Int) (fs : List (Int × Int)) : pairF a.norm b.norm k fs = pairF a b k fs := by
  rw [pairF, pairF, forms_norm, busy_norm]
  rfl
theorem argsN_norm (l : List SeenA) : ∀ k, argsN (l.map SeenA.norm) k = argsN l k
  | 0 => rfl
  | k + 1 => by
    rw [argsN, argsN, List.getElem?_map, argsN_norm l k]
    cases l[k]? with
    | none => rfl
    | some s => simp only [Option.map_some, may_norm]
theorem rowN_norm (l : List SeenA) (b : SeenA) (k : Int) (fs : List (Int × Int)) : ∀ i, rowN (l.map SeenA.norm) b.norm k fs i = rowN l b k fs i
  | 0 => rfl
  | i + 1 => by
    rw [rowN, rowN, List.getElem?_map, rowN_norm l b k fs i]
    cases l[i]? with
    | none => rfl
    | some s => simp only [Option.map_some, pairF_norm]
theorem pairsN_norm (l : List SeenA) : ∀ k, pairsN (l.map SeenA.norm) k = pairsN l k
  | 0 => rfl
  | k + 1 => by
    rw [pairsN, pairsN, List.getElem?_map, pairsN_norm l k]
    cases l[k]? with
    | none => rfl
    | some s => simp only [Option.map_some, rowN_norm]
def bestN (q : Nat × SeenA) : Nat × SeenA := (q.1, q.2.norm)
theorem stepB_norm (g : Int) (acc : Option (Nat × SeenA)) (i : Nat) (s : SeenA) : stepB g (acc.map bestN) i s.norm = (stepB g acc i s).map bestN := by
  have hn : newer (acc.map bestN) s.norm = newer acc s := by cases acc <;> rfl
  rw [stepB, stepB, hn]
  have h1 : s.norm.group = s.group := rfl
  have h2 : s.norm.app = s.app := rfl
  rw [h1, h2]
  split <;> rfl
theorem bestF_norm (g : Int) : ∀ (l : List SeenA) (acc : Option (Nat × SeenA)) (i : Nat), bestF g (acc.map bestN) i (l.map SeenA.norm) = (bestF g acc i l).map bestN
  | [], _, _ => rfl
  | s :: r, acc, i => by rw [List.map_cons, bestF, bestF, stepB_norm, bestF_norm g r]
theorem bestL_norm (g : Int) (l : List SeenA) : bestL g (l.map SeenA.norm) = (bestL g l).map bestN := bestF_norm g l none 0
theorem nodesF_norm (s : SeenA) : ∀ (es : List EntA) (m : List Int), nodesF s.norm m (es.map EntA.norm) = nodesF s m es
  | [], _ => rfl
  | e :: r, m => by
    rw [List.map_cons, nodesF, nodesF, nodesF_norm s r]
    rfl
theorem place_norm (g : Int) (s : SeenA) : placeL g s.norm = placeL g s := by
  have : nodesL s.norm = nodesL s := nodesF_norm s s.es s.bm
  rw [placeL, placeL, this]
  rfl
theorem places_norm (l : List SeenA) : ∀ m, placesL (l.map SeenA.norm) m = placesL l m
  | 0 => rfl
  | m + 1 => by
    rw [placesL, placesL, places_norm l m, bestL_norm]
    cases bestL (3 + m) l with
    | none => rfl
    | some q => simp only [Option.map_some, bestN, place_norm]
theorem tabs_norm (l : List SeenA) : tabsL (l.map SeenA.norm) = tabsL l := by rw [tabsL, tabsL, places_norm]
theorem check_norm (l : List SeenA) : checkL (l.map SeenA.norm) = checkL l := by
  rw [checkL, checkL, List.length_map, argsN_norm, pairsN_norm, tabs_norm]
theorem check_same {l l' : List SeenA} (h : l'.map SeenA.norm = l.map SeenA.norm) : checkL l' = checkL l := by rw [← check_norm l', h, check_norm]
theorem tabs_same {l l' : List SeenA} (h : l'.map SeenA.norm = l.map SeenA.norm) : tabsL l' = tabsL l := by rw [← tabs_norm l', h, tabs_norm]
theorem norm_mem {l l' : List SeenA} (h : l'.map SeenA.norm = l.map SeenA.norm) {s' : SeenA} (hs : s' ∈ l') : ∃ s ∈ l, s.norm = s'.norm := by
  have : s'.norm ∈ l.map SeenA.norm := by rw [← h]; exact List.mem_map_of_mem hs
  exact List.mem_map.1 this
theorem norm_ents {s s' : SeenA} (h : s.norm = s'.norm) : s.es.map EntA.norm = s'.es.map EntA.norm := by
  have := congrArg SeenA.es h
  exact this
theorem ents_mem {l l' : List EntA} (h : l.map EntA.norm = l'.map EntA.norm) {e' : EntA} (he : e' ∈ l') : ∃ e ∈ l, e.norm = e'.norm := by
  have : e'.norm ∈ l.map EntA.norm := by rw [h]; exact List.mem_map_of_mem he
  exact List.mem_map.1 this
theorem norm_ok {s s' : SeenA} (h : s.norm = s'.norm) (hok : s.Ok) : s'.Ok := by
  have f : ∀ {α : Type} (g : SeenA → α), g s.norm = g s'.norm := fun g => congrArg g h
  have h1 : s.lo = s'.lo := f SeenA.lo
  have h2 : s.hi = s'.hi := f SeenA.hi
  have h3 : s.bidx = s'.bidx := f SeenA.bidx
  have h4 : s.bterm = s'.bterm := f SeenA.bterm
  have h5 : s.com = s'.com := f SeenA.com
  have h6 : s.app = s'.app := f SeenA.app
  refine ⟨h1 ▸ hok.lo, h2 ▸ hok.hi, h3 ▸ hok.i0, h3 ▸ hok.i1, h4 ▸ hok.t0, h4 ▸ hok.t1, h5 ▸ hok.c0, h5 ▸ hok.c1, h6 ▸ hok.a0, fun e' he' => ?_⟩
  obtain ⟨e, he, h7⟩ := ents_mem (norm_ents h) he'
  have h8' := congrArg EntA.idx h7
  have h8 : e.idx = e'.idx := h8'
  have h9' := congrArg EntA.term h7
  have h9 : e.term = e'.term := h9'
  have := hok.es e he
  exact ⟨h8 ▸ this.i0, h8 ▸ this.i1, h9 ▸ this.t0, h9 ▸ this.t1⟩
theorem norm_wt {s s' : SeenA} (h : s.norm = s'.norm) (hw : s.bn * 8 ≤ 140737488355328 ∧ ∀ e ∈ s.es, e.mn * 8 ≤ 140737488355328) : s'.bn * 8 ≤ 140737488355328 ∧ ∀ e ∈ s'.es, e.mn * 8 ≤ 140737488355328 := by
  have h1' := congrArg SeenA.bn h
  have h1 : s.bn = s'.bn := h1'
  refine ⟨h1 ▸ hw.1, fun e' he' => ?_⟩
  obtain ⟨e, he, h7⟩ := ents_mem (norm_ents h) he'
  have h8' := congrArg EntA.mn h7
  have h8 : e.mn = e'.mn := h8'
  exact h8 ▸ hw.2 e he
end Go.Proofs.Yteibnignjghedaa

/-
  What a check finds, reckoned: the same functions over tests that can be decided; the chapter's replica.
-/
namespace Go.Proofs.Yteibnignjghedaa
open Go.RowKit Go.Sort

def CmdA.eqB (a b : CmdA) : Bool := decide (a.kind = b.kind) && decide (a.client = b.client) && decide (a.seq = b.seq) && decide (a.epoch = b.epoch) && decide (a.ok = b.ok) && decide (a.orow = b.orow) && decide (a.ocol = b.ocol) && decide (a.oval = b.oval) && decide (a.ohas = b.ohas) && decide (a.oexp = b.oexp) && decide (a.proc = b.proc) && decide (a.step = b.step) && decide (a.key = b.key) && decide (a.val = b.val) && decide (a.group = b.group) && decide (a.wmove = b.wmove) && decide (a.wgroup = b.wgroup) && decide (a.wkey = b.wkey) && decide (a.win = b.win) && decide (a.wout = b.wout)
theorem CmdA.eqB_iff {a b : CmdA} : CmdA.eqB a b = true ↔ a = b := by
  constructor
  · intro h
    obtain ⟨a0, a1, a2, a3, a4, a5, a6, a7, a8, a9, a10, a11, a12, a13, a14, a15, a16, a17, a18, a19⟩ := a
    obtain ⟨b0, b1, b2, b3, b4, b5, b6, b7, b8, b9, b10, b11, b12, b13, b14, b15, b16, b17, b18, b19⟩ := b
    simp only [CmdA.eqB, Bool.and_eq_true, decide_eq_true_eq, and_assoc] at h
    obtain ⟨h0, h1, h2, h3, h4, h5, h6, h7, h8, h9, h10, h11, h12, h13, h14, h15, h16, h17, h18, h19⟩ := h
    subst h0 h1 h2 h3 h4 h5 h6 h7 h8 h9 h10 h11 h12 h13 h14 h15 h16 h17 h18 h19
    rfl
  · rintro rfl
    simp [CmdA.eqB]
def ProcA.eqB (a b : ProcA) : Bool := decide (a.id = b.id) && decide (a.wmove = b.wmove) && decide (a.wgroup = b.wgroup) && decide (a.wkey = b.wkey) && decide (a.win = b.win) && decide (a.wout = b.wout) && decide (a.new = b.new) && decide (a.ep = b.ep) && decide (a.step = b.step)
theorem ProcA.eqB_iff {a b : ProcA} : ProcA.eqB a b = true ↔ a = b := by
  constructor
  · intro h
    obtain ⟨a0, a1, a2, a3, a4, a5, a6, a7, a8⟩ := a
    obtain ⟨b0, b1, b2, b3, b4, b5, b6, b7, b8⟩ := b
    simp only [ProcA.eqB, Bool.and_eq_true, decide_eq_true_eq, and_assoc] at h
    obtain ⟨h0, h1, h2, h3, h4, h5, h6, h7, h8⟩ := h
    subst h0 h1 h2 h3 h4 h5 h6 h7 h8
    rfl
  · rintro rfl
    simp [ProcA.eqB]
def sameC (a b : EntA) : Bool := decide (a.idx = b.idx) && decide (a.term = b.term) && decide (a.kind = b.kind) && CmdA.eqB a.cmd b.cmd && decide (a.mem = b.mem)
open Classical in
theorem same_c (a b : EntA) : sameE a b = sameC a b := by
  rw [sameE, Bool.eq_iff_iff]
  constructor
  · intro h
    have := of_decide_eq_true h
    simp only [EntA.says, Prod.mk.injEq] at this
    simp [sameC, CmdA.eqB_iff, this]
  · intro h
    simp only [sameC, decide_eq_true_eq, Bool.and_eq_true, CmdA.eqB_iff] at h
    refine decide_eq_true ?_
    simp only [EntA.says, Prod.mk.injEq]
    exact ⟨h.1.1.1.1, h.1.1.1.2, h.1.1.2, h.1.2, h.2⟩
def sameQ : List ProcA → List ProcA → Bool
  | [], [] => true
  | a :: r, b :: q => ProcA.eqB a b && sameQ r q
  | _, _ => false
theorem sameQ_iff : ∀ {l m : List ProcA}, sameQ l m = true ↔ l = m
  | [], [] => by simp [sameQ]
  | [], b :: q => by simp [sameQ]
  | a :: r, [] => by simp [sameQ]
  | a :: r, b :: q => by simp [sameQ, ProcA.eqB_iff, sameQ_iff (l := r) (m := q)]
open Classical in
theorem same_q (l m : List ProcA) : sameP l m = sameQ l m := by
  rw [sameP, Bool.eq_iff_iff]
  constructor
  · intro h
    exact sameQ_iff.2 (of_decide_eq_true h)
  · intro h
    exact decide_eq_true (sameQ_iff.1 h)
def formsFC : Bool → List (EntA × EntA) → Bool
  | _, [] => false
  | u, p :: r => ((u || !sameC p.1 p.2) && decide (p.1.term = p.2.term)) || formsFC (u || !sameC p.1 p.2) r
theorem formsF_c : ∀ (u : Bool) (l : List (EntA × EntA)), formsF u l = formsFC u l
  | _, [] => rfl
  | u, p :: r => by rw [formsF, formsFC, same_c, formsF_c]
def busyFC (most : Int) (l : List (EntA × EntA)) : Bool := l.any fun p => decide (p.1.idx ≤ most) && !sameC p.1 p.2
theorem busyF_c (most : Int) (l : List (EntA × EntA)) : busyF most l = busyFC most l := by
  rw [busyF, busyFC]
  congr 1
  funext p
  rw [same_c]
def busyC (a b : SeenA) : Bool := busyFC (min a.com b.com) (commonL a b) || basedL a b (min a.com b.com) || basedL b a (min a.com b.com)
theorem busy_c (a b : SeenA) : busyL a b = busyC a b := by rw [busyL, busyC, busyF_c]
def bossC (a b : SeenA) : Bool := decide (a.next = b.next) && sameQ a.procs b.procs && sameLs a.locs b.locs
def machC (a b : SeenA) : Bool := !decide (a.app = 0) && decide (a.app = b.app) && !(if a.group = 0 then bossC a b else tabS a b)
theorem mach_c (a b : SeenA) : machL a b = machC a b := by rw [machL, machC, bossS, bossC, same_q]
def mayC (s : SeenA) : Bool := headS s && baseS s && chainL s.bidx s.bterm s.es && (decide (s.bidx ≤ s.com) && decide (s.com ≤ lastX s.bidx s.es) && (decide (s.app = 0) || decide (s.group = 0) || mayL s.lo.data.toList s.hi.data.toList))
theorem may_c (s : SeenA) : mayS s = mayC s := by rw [mayS, mayC, tailS, Lib.toList_data, Lib.toList_data]
def pairC (a b : SeenA) (k : Int) (fs : List (Int × Int)) : List (Int × Int) :=
  if a.group = b.group then addF (machC a b) (addF (busyC a b) (addF (formsFC false (commonL a b)) (addF (leadS a b) fs (11, k)) (4, k)) (6, k)) (9, k) else fs
theorem pair_c (a b : SeenA) (k : Int) (fs : List (Int × Int)) : pairF a b k fs = pairC a b k fs := by rw [pairF, pairC, mach_c, busy_c, formsL, formsF_c]
def argsC (l : List SeenA) : Nat → List (Int × Int)
  | 0 => []
  | k + 1 => match l[k]? with | none => argsC l k | some s => addF (!mayC s) (argsC l k) (2, (k : Int))
theorem args_c (l : List SeenA) : ∀ k, argsN l k = argsC l k
  | 0 => rfl
  | k + 1 => by
    rw [argsN, argsC, args_c l k]
    cases l[k]? with
    | none => rfl
    | some s => simp only [may_c]
def rowC (l : List SeenA) (b : SeenA) (k : Int) (fs : List (Int × Int)) : Nat → List (Int × Int)
  | 0 => fs
  | i + 1 => match l[i]? with | none => rowC l b k fs i | some a => pairC a b k (rowC l b k fs i)
theorem row_c (l : List SeenA) (b : SeenA) (k : Int) (fs : List (Int × Int)) : ∀ i, rowN l b k fs i = rowC l b k fs i
  | 0 => rfl
  | i + 1 => by
    rw [rowN, rowC, row_c l b k fs i]
    cases l[i]? with
    | none => rfl
    | some s => simp only [pair_c]
def pairsC (l : List SeenA) : Nat → List (Int × Int)
  | 0 => []
  | k + 1 => match l[k]? with | none => pairsC l k | some b => rowC l b k (pairsC l k) k
theorem pairs_c (l : List SeenA) : ∀ k, pairsN l k = pairsC l k
  | 0 => rfl
  | k + 1 => by
    rw [pairsN, pairsC, pairs_c l k]
    cases l[k]? with
    | none => rfl
    | some s => simp only [row_c]
def putC (x : Says) (l : List Says) : List Says := l.takeWhile (fun y => !decide (x.2.1.data.toList < y.2.1.data.toList)) ++ x :: l.dropWhile (fun y => !decide (x.2.1.data.toList < y.2.1.data.toList))
theorem put_c (x : Says) (l : List Says) : putS x l = putC x l := by simp only [putS, putC, Lib.toList_data]
def tabsC (l : List SeenA) : List Says := (placesL l 9).foldl (fun out x => putC x out) []
theorem tabs_c (l : List SeenA) : tabsL l = tabsC l := by
  rw [tabsL, tabsC]
  congr 1
  funext out x
  exact put_c x out
def meetC (r x : Says) : Bool := meetL r.2.1.data.toList r.2.2.1.data.toList x.2.1.data.toList x.2.2.1.data.toList
theorem meet_c (r x : Says) : meetS r x = meetC r x := by simp only [meetS, meetC, Lib.toList_data]
def meetNC (t : List Says) (x : Says) (k : Int) (fs : List (Int × Int)) : Nat → List (Int × Int)
  | 0 => fs
  | i + 1 => match t[i]? with | none => meetNC t x k fs i | some r => addF (meetC r x) (meetNC t x k fs i) (8, k)
theorem meetN_c (t : List Says) (x : Says) (k : Int) (fs : List (Int × Int)) : ∀ i, meetN t x k fs i = meetNC t x k fs i
  | 0 => rfl
  | i + 1 => by
    rw [meetN, meetNC, meetN_c t x k fs i]
    cases t[i]? with
    | none => rfl
    | some s => simp only [meet_c]
def meetsC (t : List Says) (fs : List (Int × Int)) : Nat → List (Int × Int)
  | 0 => fs
  | k + 1 => match t[k]? with | none => meetsC t fs k | some x => meetNC t x k (meetsC t fs k) k
theorem meets_c (t : List Says) (fs : List (Int × Int)) : ∀ k, meetsN t fs k = meetsC t fs k
  | 0 => rfl
  | k + 1 => by
    rw [meetsN, meetsC, meets_c t fs k]
    cases t[k]? with
    | none => rfl
    | some s => simp only [meetN_c]
def endC (g : Bool) (t : List Says) (fs : List (Int × Int)) : List (Int × Int) := if t.length = 0 then fs else addF g fs (5, 0)
/-- what a check finds, when the places have a gap or none -/
def checkC (g : Bool) (l : List SeenA) : List (Int × Int) :=
  if argsC l l.length = [] then endC g (tabsC l) (meetsC (tabsC l) (pairsC l l.length) (tabsC l).length) else argsC l l.length
theorem check_c {l : List SeenA} {t : List Says} (ht : tabsC l = t) {g : Bool} (hg : gapS t = g) : checkL l = checkC g l := by
  have h1 : tabsL l = t := by rw [tabs_c, ht]
  rw [checkL, checkC, args_c, pairs_c, meets_c, h1, ht, endF, endC, hg]
theorem gap_no : gapS [] = true := by
  rw [gapS]
  have : gapL (rgL (List.map rgS [])) = some ([], []) := GapOk.eq (x := some ([], [])) ⟨fun t h => absurd h (not_lt_nil t), (fun hc => by rw [show rgL (List.map rgS []) = [] from rfl] at hc; have := covB_iff.2 hc; revert this; decide +kernel), .inl ⟨rfl, by decide +kernel⟩⟩
  rw [this]; rfl

/-- the chapter's entry, the chapter's replica -/
def oneC : CmdA := zeroC
def oneE : EntA := ⟨2, 2, 1, oneC, none, 0, 0, []⟩
def oneS (k : Int) (g : Nat) : SeenA := ⟨k, 3, true, false, 2, -1, 1, 1, some ⟨g, 0, none⟩, 3, 3, [0, 1, 2], some ⟨g + 1, 0, none⟩, 1, 1, [oneE], 2, 2, ⟨#[]⟩, ⟨#[]⟩, 1, false, none, 0, 0, [], none, 0, 0, [], 0⟩
def leadA (s : SeenA) : SeenA := { s with leads := true }
def oneT : Says := (3, ⟨#[]⟩, ⟨#[]⟩, 1, [0, 1, 2])
theorem gap_one : gapS [oneT] = false := by
  rw [gapS]
  have h : rgL (List.map rgS [oneT]) = [([], [])] := by simp only [List.map_cons, List.map_nil, rgL, rgS, oneT, nilB]
  have : gapL (rgL (List.map rgS [oneT])) = none := by
    rw [h]
    refine gap_none fun t => ⟨([], []), by simp, ?_⟩
    simp [hasL, mayL]
  rw [this]; rfl
theorem tabs_one2 (g g2 : Nat) : tabsC [oneS 0 g, oneS 1 g2] = [oneT] := by kernel_rfl
theorem check_nil : checkL [] = [] := (check_c (t := []) (by kernel_rfl) gap_no).trans (by kernel_rfl)
theorem check_one (g : Nat) : checkL [oneS 0 g] = [] := (check_c (t := [oneT]) (by kernel_rfl) gap_one).trans (by kernel_rfl)
theorem check_two (g g2 : Nat) : checkL [oneS 0 g, oneS 1 g2] = [] := (check_c (t := [oneT]) (by kernel_rfl) gap_one).trans (by kernel_rfl)
theorem check_lead (g g2 : Nat) : checkL [leadA (oneS 0 g), leadA (oneS 1 g2)] = [(11, 1)] := (check_c (t := [oneT]) (by kernel_rfl) gap_one).trans (by kernel_rfl)
end Go.Proofs.Yteibnignjghedaa
