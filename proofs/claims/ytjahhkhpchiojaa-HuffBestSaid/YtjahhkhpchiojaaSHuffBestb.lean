/- Texts joined: part 2 of what LHuffBest stands on. -/
import Derived.Test.YtjahhkhpchiojaaSHuffBesta
import Derived.RangeFuncCalls
import Derived.Laws.BytesString
import Derived.ChangeArms
import Derived.Carry
import Derived.Lib.ConvBytes
import Derived.Lib.MakeNoZero
import Derived.Lib.UnsafeStr
import Derived.Lib.Builder
import Derived.Laws.Strings
import Derived.Laws.StructEq
import Derived.RecoverIn
import Derived.WideLaws
import Derived.Test.YtjahhkhpchiojaaProg
namespace Go.Q
open Go
set_option linter.unusedVariables false
set_option linter.unusedSimpArgs false
/-- An operation of whatever kind that comes to a value: in the words of what is walked next. -/
def Runs (P : Program) (op : Op) (ty : TypeId) (E : Env) (M : Mem) (tc : List Nat) (v : AVal) (M' : Mem) : Prop :=
  ∀ cx (fr : Fr) a w e, Hold cx e M w → Emb fr.nt e M E a → ∀ (o : Oper), o.op = op → o.type = ty → ∀ (next : Act → World → Prop) (Q : Exit → Act → World → Prop),
    (∀ x w' e', Hold cx e' M' w' → (e.le e' ∧ ∀ b, Ro.le (e.mem b) (e'.mem b)) → Val e' v x → (∀ b, b < w.heap.size → (∀ i ∈ tc, i < e.n → (M.at_ i).live e i → e.own i ≠ b) → w'.heap[b]? = w.heap[b]?) → w.heap.size ≤ w'.heap.size → next (a.put o.dst x) w') →
    o.wpIn (fence P fr.r) 0 P a w next Q
theorem Does.runs {P : Program} {op : Op} {ty : TypeId} {E : Env} {M M' : Mem} {tc : List Nat} {v : AVal} (h : Does P op ty E M tc v M') : Runs P op ty E M tc v M' :=
  fun cx fr a w e hh he o ho ht next Q k => by
    obtain ⟨x, w', e', hr, hh', hle, hv, h1, h2⟩ := h cx fr.nt a w e hh he
    refine ⟨about_some (o := o) (by rw [execOp_one, ho, ht]; exact hr), ?_⟩
    rw [semAt_value (by rw [ho, ht]; exact hr)]
    exact k x w' e' hh' hle hv h1 h2
/-- An operation that panics. -/
def RunsP (P : Program) (op : Op) (ty : TypeId) (E : Env) (M : Mem) (v : AVal) (M' : Mem) : Prop :=
  ∀ cx (fr : Fr) a w e, Hold cx e M w → Emb fr.nt e M E a → ∀ (o : Oper), o.op = op → o.type = ty → ∀ (next : Act → World → Prop) (Q : Exit → Act → World → Prop),
    (∀ x w' e', Hold cx e' M' w' → (e.le e' ∧ ∀ b, Ro.le (e.mem b) (e'.mem b)) → Val e' v x → Q (.panic [{ v := x, recovered := false }]) a w') →
    o.wpIn (fence P fr.r) 0 P a w next Q
/-- A function of the program that has a body. -/
structure FnIs (P : Program) (f : FuncId) : Prop where
  h : ∃ fn, P.funcs[f]? = some fn ∧ fn.body.isSome = true ∧ (fn.name == "runtime.NumGoroutine") = false
/-- The arguments, in the caller's words and in the callee's. -/
def ArgsOk (M : Mem) (s bor : List Nat) (n : Nat) (la lc : List AVal) : Prop :=
  ∀ cx e w, Hold cx e M w → borOk M s bor → ∀ vs, Vals e la vs → Vals (calleeNv e w s bor n) lc vs
section
variable {M : Mem} {s bor : List Nat} {n : Nat} {la lc : List AVal}
theorem ArgsOk.nil : ArgsOk M s bor n [] [] := fun _ _ _ _ _ _ h => by simpa [Vals] using h
theorem ArgsOk.cons {a c : AVal} (h : ∀ cx e w, Hold cx e M w → borOk M s bor → ∀ v, Val e a v → Val (calleeNv e w s bor n) c v) (k : ArgsOk M s bor n la lc) : ArgsOk M s bor n (a :: la) (c :: lc) :=
  fun cx e w hh hb vs hv => by
    simp only [Vals] at hv ⊢
    obtain ⟨v, ws, rfl, h1, h2⟩ := hv
    exact ⟨v, ws, rfl, h cx e w hh hb v h1, k cx e w hh hb ws h2⟩
theorem Val.lend {cx : Cx} {e : Nv} {w : World} {a : AVal} {v : Value} (hh : Hold cx e M w) (hb : borOk M s bor) (h : Val e a v) : Val (e.lend w (lent e bor)) a v :=
  Val.mono (e := e) (e' := e.lend w (lent e bor)) ⟨Ro.le.refl _, lend_bm hh hb, Nat.le_refl _, fun _ _ => rfl, fun _ _ => rfl, fun _ _ => rfl, fun _ _ => rfl, fun _ _ => rfl⟩ (mem_same rfl (lend_bm hh hb)) h
/-- An argument handed over as it is. -/
theorem ArgsOk.ren {a c : AVal} (ha : a = c.ren (sub s)) (hu : c.under n = true) (k : ArgsOk M s bor n la lc) : ArgsOk M s bor n (a :: la) (c :: lc) :=
  .cons (fun cx e w hh hb v hv => by
    subst ha
    exact (Val.lend hh hb hv).re hu) k
/-- What is read only, borrowed. -/
theorem ArgsOk.ro {α : Type} {R : Rd α} {d : α} (k : ArgsOk M s bor n la lc) : ArgsOk M s bor n (.ro R false d :: la) (.ro R true d :: lc) :=
  .cons (fun cx e w hh hb v hv => by
    have := Val.lend hh hb hv
    simp only [Val] at this ⊢
    refine R.mono ?_ this
    intro k o hk
    rw [Nv.mem_false] at hk
    show Nv.mem _ true k = some o
    unfold Nv.mem
    have : (calleeNv e w s bor n).m k = some o := hk
    rw [this]) k
/-- A row of our own, borrowed. -/
theorem ArgsOk.row {α : Type} {R : Rd α} {l : List α} {i : Nat} {t : TypeId} (hc : M.at_ i = .row t R l) (hi : bor.contains i = true) (k : ArgsOk M s bor n la lc) : ArgsOk M s bor n (.whole i :: la) (.ro (Rd.slice R) true l :: lc) :=
  .cons (fun cx e w hh hb v hv => by
    simp only [Val] at hv
    have hk := hh.ch i hv.1
    rw [hc] at hk
    obtain ⟨g1, g2, g3, g4⟩ := hk
    have hv3 := hv.2.2
    simp only [Val, Rd.slice]
    cases hvir : e.vir i with
    | true =>
      rw [hvir] at hv3 g4
      simp only [if_true] at hv3 g4
      subst g4
      exact .inl ⟨rfl, none, 0, by rw [hv3.1]⟩
    | false =>
      rw [hvir] at hv3 g4
      simp only [Bool.false_eq_true, if_false] at hv3 g4
      obtain ⟨c, z, hbk, hz, hcs, hrow⟩ := g4
      have hlive : (M.at_ i).live e i := by rw [hc]; exact hvir
      have hli := hh.live i hv.1 hlive
      refine .inr ⟨e.own i, 0, c, t, z, e.caps i, by rw [hv3, g1], g2, ?_, ?_⟩
      · have h1 : (calleeNv e w s bor n).m (e.own i) = none := hli.2.1
        have h2 : (calleeNv e w s bor n).bm (e.own i) = some (.cells c t z) := by
          show (if ((lent e bor).any fun j => e.own j == e.own i) then w.heap[e.own i]? else e.bm (e.own i)) = _
          rw [if_pos]
          · exact hbk
          · exact List.any_eq_true.2 ⟨i, List.mem_filter.2 ⟨by simpa using hi, by simp [hvir]⟩, by simp⟩
        unfold Nv.mem
        rw [h1]
        simp only [if_true]
        exact h2
      · rw [List.drop_zero]
        refine rows_mono ?_ hrow
        intro k o hk
        unfold Nv.mem
        have : (calleeNv e w s bor n).m k = some o := hk
        rw [this]) k
/-- A struct of our own behind a pointer, borrowed. -/
theorem ArgsOk.cells {α : Type} {R : Rd α} {d : α} {l : List AVal} {i : Nat} {t : TypeId} (hc : M.at_ i = .cells t l) (hj : Joins R false d l) (hl : Nat.beq l.length R.sz = true) (hi : bor.contains i = true) (k : ArgsOk M s bor n la lc) :
    ArgsOk M s bor n (.ptr i 0 :: la) (.ro (Rd.ptr R) true d :: lc) :=
  .cons (fun cx e w hh hb v hv => by
    simp only [Val] at hv
    have hk := hh.ch i hv.1
    rw [hc] at hk
    obtain ⟨hvir, vs, hbk, hvs, ho⟩ := hk
    have hlive : (M.at_ i).live e i := by rw [hc]; trivial
    have hli := hh.live i hv.1 hlive
    simp only [Val, Rd.ptr]
    refine ⟨e.own i, 0, vs.toArray, t, (0, 0), by rw [hv.2.2], ?_, ?_⟩
    · have h1 : (calleeNv e w s bor n).m (e.own i) = none := hli.2.1
      have h2 : (calleeNv e w s bor n).bm (e.own i) = some (.cells vs.toArray t (0, 0)) := by
        show (if ((lent e bor).any fun j => e.own j == e.own i) then w.heap[e.own i]? else e.bm (e.own i)) = _
        rw [if_pos]
        · exact hbk
        · exact List.any_eq_true.2 ⟨i, List.mem_filter.2 ⟨by simpa using hi, by simp [hvir]⟩, by simp⟩
      unfold Nv.mem
      rw [h1]
      simp only [if_true]
      exact h2
    · have hok := hj e vs hvs ho
      rw [Nv.mem_false] at hok
      have hlen : vs.length = R.sz := by rw [hvs.length]; simpa using hl
      rw [List.drop_zero, List.toList_toArray, List.take_of_length_le (by omega)]
      refine R.mono ?_ hok
      intro k o hk
      unfold Nv.mem
      have : (calleeNv e w s bor n).m k = some o := hk
      rw [this]) k
end
section
variable {P : Program} {ty : TypeId} {E : Env} {M Mc Mc' : Mem} {fo : Operand} {f : FuncId} {cap lc : List AVal} {np N : Nat} {args : Array Operand} {tys : Array TypeId} {s t bor : List Nat} {v : AVal}
theorem run_enter {P : Program} {ρ : Operand → Value} {w : World} {us : List Value} (hfn : FnIs P f) (hf : ρ fo = .func (.func f) #[] us.toArray) :
    (exec1 ρ (.call { callee := .value fo, args := args, argTypes := tys }) ty).run P w = .ok (.enter f (args.map ρ ++ us.toArray)) w := by
  obtain ⟨fn, h1, h2, h3⟩ := hfn.h
  have hn : fn.body.isNone = false := by cases hb : fn.body <;> simp [hb] at h2 ⊢
  have h3' : ¬ fn.name = "runtime.NumGoroutine" := by simpa using h3
  simp [exec1, execOp, resolve, Deferred.ofValue, hf, invoke, callFunc, h1, hn, h3']
  intro h
  rw [h] at h2
  simp at h2
theorem call_core {Qs : Out → Mem → Prop} (hfn : FnIs P f) (hcal : E.ev fo = .fn f cap) (hspec : Spec P f np lc Mc Qs) (hM : LeM s 0 M Mc) (hnp : (Nat.ble np Mc.n && noMarks Mc) = true) (hbor : borOk M s bor)
    (hargs : ArgsOk M s bor Mc.n (args.toList.map E.ev ++ cap) lc) {cx : Cx} {fr : Fr} {a : Act} {w : World} {e : Nv} (hh : Hold cx e M w) (he : Emb fr.nt e M E a) {o : Oper} (ho : o.op = .call { callee := .value fo, args := args, argTypes := tys }) (ht : o.type = ty)
    {next : Act → World → Prop} {Q : Exit → Act → World → Prop}
    (k : ∀ cx' Mc' e' w' out x, Entry cx' np (calleeNv e w s bor Mc.n) Mc w → Hold cx' (calleeNv e w s bor Mc.n) Mc w → Qs out Mc' → Hold cx' e' Mc' w' → out.is e' x →
      match x with
      | .returned u => next (a.put o.dst u) w'
      | .panicked c => Q (.panic c) a w'
      | .outgrown => True) :
    o.wpIn (fence P fr.r) 0 P a w next Q := by
  have hv := he.ev fo
  rw [hcal] at hv
  simp only [Val] at hv
  obtain ⟨us, h1, h2⟩ := hv
  refine ⟨about_some (o := o) (by rw [execOp_one, ho, ht]; exact run_enter hfn h1), ?_⟩
  rw [Oper.semAt_eq _ _ _ (by rw [ho]; intro c hc; cases hc), execOp_one, ho, ht, run_enter hfn h1]
  refine ⟨fun h => by simp at h, ?_⟩
  obtain ⟨cx', hent, hin⟩ := hh.enter hM hnp hbor
  have hvals : Vals (calleeNv e w s bor Mc.n) lc (args.toList.map a.eval ++ us) := hargs cx e w hh hbor _ ((evs he args.toList).append h2)
  have hcall := hspec cx' _ w _ hent hin hvals
  have harr : (args.toList.map a.eval ++ us).toArray = args.map a.eval ++ us.toArray := by apply Array.ext'; simp
  rw [harr] at hcall
  have hcall' : CallsIn (fence P fr.r) 0 P f (args.map a.eval ++ us.toArray) w fun x w' => ∃ o M' e', Qs o M' ∧ Hold cx' e' M' w' ∧ o.is e' x := by
    cases hr : fr.r with
    | none => exact hcall
    | some l => exact CallsIn.inRound l hcall
  refine hcall'.mono fun x w' ⟨out, M', e', hq, hh', his⟩ => ?_
  have := k cx' M' e' w' out x hent hin hq hh' his
  cases x with
  | returned u => exact this
  | panicked c => exact this
  | outgrown =>
    cases out with
    | ret v => obtain ⟨u, hu, _⟩ := his; cases hu
    | pan v => obtain ⟨u, hu, _⟩ := his; cases hu
/-- A call that returns. -/
theorem runs_call (hfn : FnIs P f) (hcal : E.ev fo = .fn f cap) (hspec : Spec P f np lc Mc (fun o M' => o = .ret v ∧ M' = Mc')) (hM : LeM s 0 M Mc) (hnp : (Nat.ble np Mc.n && noMarks Mc) = true) (hbor : borOk M s bor)
    (hargs : ArgsOk M s bor Mc.n (args.toList.map E.ev ++ cap) lc) (htau : tauOk s t np M.n Mc.n Mc'.n N = true) (hp : AllLt Mc'.n fun j => (Mc'.at_ j).pers bor.isEmpty = true) (hpv : v.pers bor.isEmpty = true) :
    Runs P (.call { callee := .value fo, args := args, argTypes := tys }) ty E M s (v.ren (sub t)) (merge M s t Mc' N) :=
  fun cx fr a w e hh he o ho ht next Q k => by
    refine call_core hfn hcal hspec hM hnp hbor hargs hh he ho ht fun cx' M' e' w' out x hent hin hq hh' his => ?_
    obtain ⟨rfl, rfl⟩ := hq
    obtain ⟨u, rfl, hu⟩ := his
    obtain ⟨e2, g1, g2, g3, g4, g5⟩ := hh.leave hM hbor hent hin hh' htau hp
    exact k u w' e2 g1 g2 (hu.into g3 hpv) g4 g5
/-- A call that panics. -/
theorem runs_callP (hfn : FnIs P f) (hcal : E.ev fo = .fn f cap) (hspec : Spec P f np lc Mc (fun o M' => o = .pan v ∧ M' = Mc')) (hM : LeM s 0 M Mc) (hnp : (Nat.ble np Mc.n && noMarks Mc) = true) (hbor : borOk M s bor)
    (hargs : ArgsOk M s bor Mc.n (args.toList.map E.ev ++ cap) lc) (htau : tauOk s t np M.n Mc.n Mc'.n N = true) (hp : AllLt Mc'.n fun j => (Mc'.at_ j).pers bor.isEmpty = true) (hpv : v.pers bor.isEmpty = true) :
    RunsP P (.call { callee := .value fo, args := args, argTypes := tys }) ty E M (v.ren (sub t)) (merge M s t Mc' N) :=
  fun cx fr a w e hh he o ho ht next Q k => by
    refine call_core hfn hcal hspec hM hnp hbor hargs hh he ho ht fun cx' M' e' w' out x hent hin hq hh' his => ?_
    obtain ⟨rfl, rfl⟩ := hq
    obtain ⟨u, rfl, hu⟩ := his
    obtain ⟨e2, g1, g2, g3, g4, g5⟩ := hh.leave hM hbor hent hin hh' htau hp
    exact k u w' e2 g1 g2 (hu.into g3 hpv)
end
section
variable {P : Program} {cx : Cx} {fr : Fr} {ops : Array Oper} {os : List Oper} {E : Env} {M M' : Mem} {Q : Ex → Env → Mem → Prop} {op : Op} {ty : TypeId} {pos : String} {after : Array Edge} {dst : Nat} {v : AVal} {tc : List Nat}
/-- A call in a walk. -/
theorem WPL.c (h : Runs P op ty E M tc v M') (ht : Nat.blt dst fr.nt = true) (k : WPL P cx fr ops os (E.upd dst v) M' Q) :
    WPL P cx fr ops ({ dst := some dst, op := op, type := ty, pos := pos, after := after, guard := Option.none } :: os) E M Q := by
  intro a w e hh he
  unfold wpListIn
  rw [if_pos (by rfl)]
  refine h cx fr a w e hh he _ rfl rfl _ _ fun x w' e' hh' hle hv _ _ => ?_
  exact k _ w' e' hh' ((he.mono hle.1 hle.2).put ht hv)
theorem WPL.cg {j t : Nat} {b : Bool} (hj : (ops[j]?).bind (·.dst) = some t) (htj : Nat.blt t fr.nt = true) (hv : E.v t = .lit (.bool b)) (h : Runs P op ty E M tc v M') (ht : Nat.blt dst fr.nt = true) (k : WPL P cx fr ops os (E.upd dst v) M' Q) :
    WPL P cx fr ops ({ dst := some dst, op := op, type := ty, pos := pos, after := after, guard := some (j, b) } :: os) E M Q := by
  intro a w e hh he
  have hw : Region.wanted { dst := some dst, op := op, type := ty, pos := pos, after := after, guard := some (j, b) } (yielded ops a.tmps) = true := by
    simp [Region.wanted, yields he hj htj hv]
  unfold wpListIn
  rw [if_pos hw]
  refine h cx fr a w e hh he _ rfl rfl _ _ fun x w' e' hh' hle hv _ _ => ?_
  exact k _ w' e' hh' ((he.mono hle.1 hle.2).put ht hv)
/-- A call that panics, in a walk. -/
theorem WPL.p {d : Option Nat} (h : RunsP P op ty E M v M') (k : Q (.panic v) E M') :
    WPL P cx fr ops ({ dst := d, op := op, type := ty, pos := pos, after := after, guard := Option.none } :: os) E M Q := by
  intro a w e hh he
  unfold wpListIn
  rw [if_pos (by rfl)]
  refine h cx fr a w e hh he _ rfl rfl _ _ fun x w' e' hh' hle hv => ?_
  exact ⟨.panic v, E, M', e', k, hh', ⟨⟨he.d.mono hle.1, fun t _ => (he.v t).mono hle.1 hle.2⟩, fun p hp => (he.o p hp).mono hle.1 hle.2⟩, x, rfl, hv⟩
/-- THE WALK of a region that draws its order, some of its operations over: 'st': the chunks that no operation touches that is still to come, ahead of those of X. -/
def WPD (P : Program) (cx : Cx) (fr : Fr) (ops : Array Oper) (st X : List Nat) (fuel : Nat) (listed : Array Bool) (E : Env) (M : Mem) (Q : Ex → Env → Mem → Prop) : Prop :=
  ∀ a w e, Hold cx e M w → Emb fr.nt e M E a → wpAnyF P fr.r .any ops (Sat cx fr Q) (Agree e [] w) (Agree e st w) X fuel listed a w
def takeB (ops : Array Oper) (X : List Nat) (listed : Array Bool) (i : Nat) : Bool :=
  Region.noSelect ops && Region.free .any ops listed i && (Region.ready .any ops listed).contains i && !X.contains i &&
  X.all fun j => listed.getD j true || behind .any ops listed i ops.size j
def readyIs (ops : Array Oper) (listed : Array Bool) (i : Nat) : Bool := Region.ready .any ops listed == [i]
def readyNo (ops : Array Oper) (listed : Array Bool) : Bool := (Region.ready .any ops listed).isEmpty
variable {st st' X X' : List Nat} {fuel : Nat} {listed : Array Bool} {i : Nat}
theorem take_spec (hb : takeB ops X listed i = true) : Region.noSelect ops = true ∧ Region.free .any ops listed i = true ∧ (Region.ready .any ops listed).contains i = true ∧ X.contains i = false ∧
    ∀ j, X.contains j = true → j ≠ i → listed.getD j true = false → ∃ n, behind .any ops listed i n j = true := by
  simp only [takeB, Bool.and_eq_true, Bool.not_eq_true'] at hb
  obtain ⟨⟨⟨⟨h1, h2⟩, h3⟩, h4⟩, h5⟩ := hb
  refine ⟨h1, h2, h3, h4, fun j hjX _ hun => ?_⟩
  have := List.all_eq_true.1 h5 j (by simpa using hjX)
  rw [hun] at this
  exact ⟨_, by simpa using this⟩
def takeTB (ops : Array Oper) (X : List Nat) (listed : Array Bool) (i : Nat) : Bool :=
  Region.noSelect ops && Region.free .any ops listed i && (Region.ready .any ops listed).contains i && !X.contains i
theorem takeTB_spec (hb : takeTB ops X listed i = true) : Region.noSelect ops = true ∧ Region.free .any ops listed i = true ∧ (Region.ready .any ops listed).contains i = true ∧ X.contains i = false := by
  simp only [takeTB, Bool.and_eq_true, Bool.not_eq_true'] at hb
  obtain ⟨⟨⟨h1, h2⟩, h3⟩, h4⟩ := hb
  exact ⟨h1, h2, h3, h4⟩
theorem Agree.nil_of {e : Nv} {st : List Nat} {w w1 : World} (h : Agree e st w w1) : Agree e [] w w1 := ⟨h.ro, h.bro, fun _ hi => by cases hi⟩
theorem Fr.okd_lt {fr : Fr} {d : Nat} (h : fr.okd d = true) : Nat.blt d fr.nt = true := by unfold Fr.okd at h; rw [Bool.and_eq_true] at h; exact h.1
theorem Fr.okd_pin {fr : Fr} {d : Nat} (h : fr.okd d = true) : ∀ t, some d = some t → fr.pin.contains t = false := by
  unfold Fr.okd at h
  rw [Bool.and_eq_true, Bool.not_eq_true'] at h
  rintro t ⟨⟩
  exact h.2
theorem sat_panic {a : Act} {d : Option Tmp} {x : Value} (hd : ∀ t, d = some t → fr.pin.contains t = false) : ∀ c a' w, Sat cx fr Q (.panic c) (a'.put d x) w → Sat cx fr Q (.panic c) a' w := by
  rintro c a' w ⟨y, E, M, e, q, h1, h2, h3⟩
  cases y with
  | panic v =>
    have hdf : (a'.put d x).defers = a'.defers := by cases d <;> rfl
    have h21 := h2.1.1
    rw [hdf] at h21
    refine ⟨.panic v, E, M, e, q, h1, ⟨⟨h21, fun t ht => ?_⟩, h2.2⟩, h3⟩
    have h4 := h2.1.2 t ht
    cases d with
    | none => exact h4
    | some d0 =>
      have hne : d0 ≠ t := fun e0 => by subst e0; rw [hd _ rfl] at ht; cases ht
      simp only [Act.put, Array.getD_eq_getD_getElem?] at h4 ⊢
      rwa [Array.getElem?_setIfInBounds_ne hne] at h4
  | normal => cases h3
  | exit id => cases h3
  | goto l => cases h3
  | ret => cases h3
theorem sat_outgrown : ¬ LetsOut (Sat cx fr Q) := by
  rintro ⟨a, w, y, E, M, e, q, h1, h2, h3⟩
  cases y with
  | panic v => obtain ⟨_, h, _⟩ := h3; cases h
  | normal => cases h3
  | exit id => cases h3
  | goto l => cases h3
  | ret => cases h3
/-- A quiet operation is taken first. -/
theorem WPD.take (i : Nat) {st0 : List Nat} (ho : ops[i]? = some { dst := some dst, op := op, type := ty, pos := pos, after := after, guard := Option.none }) (hb : takeB ops X listed i = true) (h : Quiet P op ty E M st0 v) (hs : (st0.all st.contains) = true)
    (ht : fr.okd dst = true) (k : WPD P cx fr ops st X fuel (listed.setIfInBounds i true) (E.upd dst v) M Q) : WPD P cx fr ops st X (fuel + 1) listed E M Q := by
  intro a w e hh he
  obtain ⟨b1, b2, b3, b4, b5⟩ := take_spec hb
  obtain ⟨x, hv, hr⟩ := h cx fr.nt a w e hh he
  refine wpAnyF_first ho (Region.noSelect_spec b1) (fun c a' w' => sat_panic (a := a) (Fr.okd_pin ht) c a' w') sat_outgrown fuel listed a w (Region.free_spec ho b2) b5 (by simpa using b3) ?_ (Agree.of_hold hh st) b4 ?_ (v := x)
  · exact .inl ⟨rfl, fun w1 hw => hr w1 ⟨hw.ro, hw.bro, fun j hj => hw.own j (by have := List.all_eq_true.1 hs j hj; simpa using this)⟩⟩
  · exact k _ w e hh (he.put (Fr.okd_lt ht) hv)
/-- A guarded one. -/
theorem WPD.takeg (i : Nat) {st0 : List Nat} {j t : Nat} {b : Bool} (ho : ops[i]? = some { dst := some dst, op := op, type := ty, pos := pos, after := after, guard := some (j, b) }) (hb : takeB ops X listed i = true)
    (hj : (ops[j]?).bind (·.dst) = some t) (htj : Nat.blt t fr.nt = true) (hv : E.v t = .lit (.bool b)) (h : Quiet P op ty E M st0 v) (hs : (st0.all st.contains) = true)
    (ht : fr.okd dst = true) (k : WPD P cx fr ops st X fuel (listed.setIfInBounds i true) (E.upd dst v) M Q) : WPD P cx fr ops st X (fuel + 1) listed E M Q := by
  intro a w e hh he
  obtain ⟨b1, b2, b3, b4, b5⟩ := take_spec hb
  obtain ⟨x, hvx, hr⟩ := h cx fr.nt a w e hh he
  refine wpAnyF_first ho (Region.noSelect_spec b1) (fun c a' w' => sat_panic (a := a) (Fr.okd_pin ht) c a' w') sat_outgrown fuel listed a w (Region.free_spec ho b2) b5 (by simpa using b3) ?_ (Agree.of_hold hh st) b4 ?_ (v := x)
  · exact .inl ⟨by simp [Region.wanted, yields he hj htj hv], fun w1 hw => hr w1 ⟨hw.ro, hw.bro, fun j hj => hw.own j (by have := List.all_eq_true.1 hs j hj; simpa using this)⟩⟩
  · exact k _ w e hh (he.put (Fr.okd_lt ht) hvx)
/-- A quiet operation that reads nothing of our own is taken first. -/
theorem WPD.takeT (i : Nat) (ho : ops[i]? = some { dst := some dst, op := op, type := ty, pos := pos, after := after, guard := Option.none }) (hb : takeTB ops X listed i = true) (h : Quiet P op ty E M [] v)
    (ht : fr.okd dst = true) (k : WPD P cx fr ops st X fuel (listed.setIfInBounds i true) (E.upd dst v) M Q) : WPD P cx fr ops st X (fuel + 1) listed E M Q := by
  intro a w e hh he
  obtain ⟨b1, b2, b3, b4⟩ := takeTB_spec hb
  obtain ⟨x, hv, hr⟩ := h cx fr.nt a w e hh he
  refine wpAnyF_firstT ho (Region.noSelect_spec b1) (fun c a' w' => sat_panic (a := a) (Fr.okd_pin ht) c a' w') sat_outgrown (fun _ h => h.nil_of) fuel listed a w (Region.free_spec ho b2) (by simpa using b3) ?_ (Agree.of_hold hh st) b4 ?_ (v := x)
  · exact .inl ⟨rfl, fun w1 hw => hr w1 hw⟩
  · exact k _ w e hh (he.put (Fr.okd_lt ht) hv)
theorem WPD.takegT (i : Nat) {j t : Nat} {b : Bool} (ho : ops[i]? = some { dst := some dst, op := op, type := ty, pos := pos, after := after, guard := some (j, b) }) (hb : takeTB ops X listed i = true)
    (hj : (ops[j]?).bind (·.dst) = some t) (htj : Nat.blt t fr.nt = true) (hv : E.v t = .lit (.bool b)) (h : Quiet P op ty E M [] v)
    (ht : fr.okd dst = true) (k : WPD P cx fr ops st X fuel (listed.setIfInBounds i true) (E.upd dst v) M Q) : WPD P cx fr ops st X (fuel + 1) listed E M Q := by
  intro a w e hh he
  obtain ⟨b1, b2, b3, b4⟩ := takeTB_spec hb
  obtain ⟨x, hvx, hr⟩ := h cx fr.nt a w e hh he
  refine wpAnyF_firstT ho (Region.noSelect_spec b1) (fun c a' w' => sat_panic (a := a) (Fr.okd_pin ht) c a' w') sat_outgrown (fun _ h => h.nil_of) fuel listed a w (Region.free_spec ho b2) (by simpa using b3) ?_ (Agree.of_hold hh st) b4 ?_ (v := x)
  · exact .inl ⟨by simp [Region.wanted, yields he hj htj hv], fun w1 hw => hr w1 hw⟩
  · exact k _ w e hh (he.put (Fr.okd_lt ht) hvx)
/-- A guarded one that is passed over. -/
theorem WPD.pass (i : Nat) {j t : Nat} {b b' : Bool} {d : Option Nat} (ho : ops[i]? = some { dst := d, op := op, type := ty, pos := pos, after := after, guard := some (j, b) }) (hb : takeTB ops X listed i = true)
    (hj : (ops[j]?).bind (·.dst) = some t) (htj : Nat.blt t fr.nt = true) (hv : E.v t = .lit (.bool b')) (hne : (b' == b) = false)
    (hd : (match d with | some d => fr.okd d | none => true) = true) (hsk : SkipOkE P E op) (k : WPD P cx fr ops st X fuel (listed.setIfInBounds i true) (match d with | some d => E.upd d (.lit undef) | none => E) M Q) : WPD P cx fr ops st X (fuel + 1) listed E M Q := by
  intro a w e hh he
  obtain ⟨b1, b2, b3, b4⟩ := takeTB_spec hb
  refine wpAnyF_firstT ho (Region.noSelect_spec b1) (fun c a' w' => sat_panic (a := a) (d := d) (fun t e0 => by subst e0; exact Fr.okd_pin hd t rfl) c a' w') sat_outgrown (fun _ h => h.nil_of) fuel listed a w (Region.free_spec ho b2) (by simpa using b3) ?_ (Agree.of_hold hh st) b4 ?_ (v := undef)
  · refine .inr ⟨?_, rfl, fun _ => hsk.about he rfl⟩
    simp [Region.wanted, yields he hj htj hv]
    simpa using hne
  · cases d with
    | none => exact k _ w e hh he
    | some d => exact k _ w e hh (he.put (Fr.okd_lt hd) (by simp [Val]))
/-- The only one that may come up has an effect. -/
def Chunk.isOwn : Chunk → Bool
  | .cells .. | .row .. => true
  | _ => false
theorem WPD.eff_core (i : Nat) (st' X' : List Nat) {o : Oper} {E' : Env} (ho : ops[i]? = some o) (hb : readyIs ops listed i = true)
    (hg : ∀ a e, Emb fr.nt e M E a → Region.wanted o (yielded ops a.tmps) = true)
    (hs : (X.contains i || (X'.all X.contains && st.all fun j => st'.contains j && Nat.blt j M.n && (M.at_ j).isOwn && !(tc.contains j))) = true)
    (hstep : ∀ a w e, Hold cx e M w → Emb fr.nt e M E a → ∀ (next : Act → World → Prop) (Q : Exit → Act → World → Prop),
      (∀ a' w' e', Hold cx e' M' w' → e.le e' → Emb fr.nt e' M' E' a' → (∀ b, b < w.heap.size → (∀ i ∈ tc, i < e.n → (M.at_ i).live e i → e.own i ≠ b) → w'.heap[b]? = w.heap[b]?) → next a' w') →
      o.wpIn (fence P fr.r) 0 P a w next Q)
    (k : WPD P cx fr ops st' X' fuel (listed.setIfInBounds i true) E' M' Q) : WPD P cx fr ops st X (fuel + 1) listed E M Q := by
  intro a w e hh he
  have hready : Region.ready .any ops listed = [i] := by simpa [readyIs] using hb
  refine ⟨fun h => (by rw [hready] at h; cases h), fun j hj => ?_⟩
  rw [hready] at hj
  obtain rfl : j = i := by simpa using hj
  unfold wpOpIn
  simp only [ho]
  rw [if_pos (hg _ _ he)]
  refine hstep a w e hh he _ _ fun a' w' e' hh' hle he' hfr => ?_
  have hk := k a' w' e' hh' he'
  have hag : ∀ {st'' : List Nat} w1, Agree e' st'' w' w1 → Agree e [] w w1 := fun w1 hw => ⟨fun b o hb => hw.ro b o (hle.m b o hb), fun b o hb => hw.bro b o (hle.bm b o hb), fun _ hi => by cases hi⟩
  cases hx : X.contains j with
  | true => exact .inl ⟨rfl, hag _ (Agree.of_hold hh' st'), wpAnyG_of_F (fun w1 h => hag w1 h) (fun w1 h => hag w1 h) _ _ _ _ hk⟩
  | false =>
    rw [hx, Bool.false_or, Bool.and_eq_true] at hs
    have hst : ∀ x ∈ st, e.vir x = false → x < e.n ∧ w'.heap[e.own x]? = w.heap[e.own x]? ∧ x ∈ st' := by
      intro x hx hvx
      have h := List.all_eq_true.1 hs.2 x hx
      simp only [Bool.and_eq_true, Nat.blt_eq, Bool.not_eq_true'] at h
      obtain ⟨⟨⟨h1, h2⟩, h3⟩, h4⟩ := h
      have hxn : x < e.n := by rw [hh.n]; exact h2
      have hlx : (M.at_ x).live e x := by
        cases hc : M.at_ x with
        | cells t l => trivial
        | row t R l => exact hvx
        | gone => rw [hc] at h3; simp [Chunk.isOwn] at h3
        | obj o => rw [hc] at h3; simp [Chunk.isOwn] at h3
        | bag => rw [hc] at h3; simp [Chunk.isOwn] at h3
      refine ⟨hxn, hfr _ (hh.live x hxn hlx).1 fun y hy hyn hly hxy => ?_, by simpa using h1⟩
      have := hh.dist y x hyn hxn hly hlx hxy
      subst this
      rw [List.contains_eq_mem] at h4
      simp [hy] at h4
    have hmono : ∀ w1, Agree e' st' w' w1 → Agree e st w w1 := by
      intro w1 hw
      refine ⟨fun b o hb => hw.ro b o (hle.m b o hb), fun b o hb => hw.bro b o (hle.bm b o hb), fun x hx hvx => ?_⟩
      obtain ⟨h1, h2, h3⟩ := hst x hx hvx
      have := hw.own x h3 ((hle.vir x h1).trans hvx)
      rw [hle.own x h1] at this
      exact this.trans h2
    refine .inr ⟨rfl, hmono _ (Agree.of_hold hh' st'), wpAnyF_mono (fun w1 h => hag w1 h) (fun w1 h => hag w1 h) hmono (fun y hy => ?_) _ _ _ _ hk⟩
    exact List.all_eq_true.1 hs.1 y (by simpa using hy)
theorem WPD.eff (i : Nat) (st' X' : List Nat) (ho : ops[i]? = some { dst := some dst, op := op, type := ty, pos := pos, after := after, guard := Option.none }) (hb : readyIs ops listed i = true)
    (h : Runs P op ty E M tc v M') (hs : (X.contains i || (X'.all X.contains && st.all fun j => st'.contains j && Nat.blt j M.n && (M.at_ j).isOwn && !(tc.contains j))) = true) (ht : Nat.blt dst fr.nt = true)
    (k : WPD P cx fr ops st' X' fuel (listed.setIfInBounds i true) (E.upd dst v) M' Q) : WPD P cx fr ops st X (fuel + 1) listed E M Q :=
  WPD.eff_core (tc := tc) (M' := M') i st' X' ho hb (fun _ _ _ => rfl) hs (fun a w e hh he next Q' hk => h cx fr a w e hh he _ rfl rfl _ _ fun x w' e' hh' hle hv hfr _ =>
    hk _ w' e' hh' hle.1 ((he.mono hle.1 hle.2).put ht hv) hfr) k
theorem WPD.effg (i : Nat) (st' X' : List Nat) {j t : Nat} {b : Bool} (ho : ops[i]? = some { dst := some dst, op := op, type := ty, pos := pos, after := after, guard := some (j, b) }) (hb : readyIs ops listed i = true)
    (hj : (ops[j]?).bind (·.dst) = some t) (htj : Nat.blt t fr.nt = true) (hv : E.v t = .lit (.bool b))
    (h : Runs P op ty E M tc v M') (hs : (X.contains i || (X'.all X.contains && st.all fun j => st'.contains j && Nat.blt j M.n && (M.at_ j).isOwn && !(tc.contains j))) = true) (ht : Nat.blt dst fr.nt = true)
    (k : WPD P cx fr ops st' X' fuel (listed.setIfInBounds i true) (E.upd dst v) M' Q) : WPD P cx fr ops st X (fuel + 1) listed E M Q :=
  WPD.eff_core (tc := tc) (M' := M') i st' X' ho hb (fun _ _ he => by simp [Region.wanted, yields he hj htj hv]) hs (fun a w e hh he next Q' hk => h cx fr a w e hh he _ rfl rfl _ _ fun x w' e' hh' hle hv hfr _ =>
    hk _ w' e' hh' hle.1 ((he.mono hle.1 hle.2).put ht hv) hfr) k
theorem WPD.effS (i : Nat) (st' X' : List Nat) (ho : ops[i]? = some { dst := Option.none, op := op, type := ty, pos := pos, after := after, guard := Option.none }) (hb : readyIs ops listed i = true)
    (h : DoesS P op ty E M tc M') (hs : (X.contains i || (X'.all X.contains && st.all fun j => st'.contains j && Nat.blt j M.n && (M.at_ j).isOwn && !(tc.contains j))) = true)
    (k : WPD P cx fr ops st' X' fuel (listed.setIfInBounds i true) E M' Q) : WPD P cx fr ops st X (fuel + 1) listed E M Q :=
  WPD.eff_core (tc := tc) (M' := M') i st' X' ho hb (fun _ _ _ => rfl) hs (fun a w e hh he next Q' hk => by
    obtain ⟨w', e', hr, hh', hle, hfr, _⟩ := h cx fr.nt a w e hh he
    refine ⟨about_some hr, ?_⟩
    rw [semAt_skip hr]
    exact hk _ w' e' hh' hle.1 (he.mono hle.1 hle.2) hfr) k
/-- All have come up. -/
theorem WPD.done (hb : readyNo ops listed = true) (h : Q .normal E M) : WPD P cx fr ops st X fuel listed E M Q := by
  intro a w e hh he
  have hready : Region.ready .any ops listed = [] := by simpa [readyNo, List.isEmpty_iff] using hb
  have hs : Sat cx fr Q .normal a w := ⟨.normal, E, M, e, h, hh, he, rfl⟩
  cases fuel with
  | zero => exact ⟨hready, hs⟩
  | succ n => exact ⟨fun _ => hs, by rw [hready]; simp⟩
/-- THE BEGINNING of a region that draws its order. -/
theorem WP.regionD (st X : List Nat) {id : Nat} (hm : P.follows .mixedOrders = true) (h : WPD P cx fr ops st X ops.size (Array.replicate ops.size false) E M Q) : WP P cx fr (.region id ops true) E M Q :=
  fun a w e hh he => wpIn_region_any hm (wpAny_of_F _ _ _ _ (h a _ e hh.drew he))
end
end Go.Q
namespace Go.Q
open Go
set_option linter.unusedVariables false
set_option linter.unusedSimpArgs false
/-- What is asked at a round's end, a panic taken in. -/
def roundPostP (P : Program) (l : Nat) (R : Ending → World → Prop) : Exit → Act → World → Prop
  | .panic chain, a, w => a.defers = [] ∧ R (.panicked chain) w
  | x, a, w => roundPost P l R x a w
theorem roundIn_of_wpInP {F : Fence} {n : Nat} {P : Program} {l : Nat} {f : FuncId} {tmps : Array Value} {assign body : Code} {w : World} {R : Ending → World → Prop} (hF : F.fn f) (hf : (P.funcs[f]?).isSome = true)
    (h : assign.wpIn (F.inRound l) n P (Exit.then (fun a₁ w₁ => ∃ w₂, (Instr.beginRound l).run P w₁ = .ok () w₂ ∧ body.wpIn (F.inRound l) n P (roundPostP P l R) a₁ w₂) (fun _ _ _ => False))
      { tmps := tmps, defers := [] } w) :
    RoundIn F n P l f tmps assign body w R := by
  refine ⟨hF, fun c cs hr => ?_⟩
  let b : Frame := { (default : Frame) with fn := f, kind := .normal, roundOf := some l }
  have hb0 : Frame.round l f tmps assign body .normal = b.atR { tmps := tmps, defers := [] } [.code assign, .beginRound, .code body] := by
    simp [Frame.round, Frame.atR, b]
  have hr' : (F.inRound l).room ((c :: cs).length + 1 + n) := hr
  have hF' : (F.inRound l).fn b.fn := hF
  obtain ⟨e, a₁, w₁, hq, harr⟩ := h b [.beginRound, .code body] (c :: cs) rfl hF' hr'
  rw [← hb0] at harr
  cases e with
  | normal =>
    obtain ⟨w₂, hbr, hbody⟩ := hq
    have s1 : StepsIn (Machine.fenced P (F.inRound l)) P (lone (b.atR a₁ [.beginRound, .code body]) (c :: cs) w₁) (lone (b.atR a₁ [.code body]) (c :: cs) w₂) :=
      .one (fenced_calm (fr := b.atR a₁ [.beginRound, .code body]) hF' hr' rfl) (stepR_beginRound rfl hbr)
    obtain ⟨e₂, a₂, w₃, hq₂, harr₂⟩ := hbody b [] (c :: cs) rfl hF' hr'
    cases e₂ with
    | normal =>
      obtain ⟨v, w₄, hend, hR⟩ := hq₂
      exact ⟨.returned v, w₄, hR, (StepsIn.trans harr s1).trans (StepsIn.trans harr₂ (.one (fenced_calm (fr := b.atR a₂ []) hF' hr' rfl) (stepR_round_end rfl rfl hend)))⟩
    | ret =>
      obtain ⟨v, w₄, hend, hR⟩ := hq₂
      obtain ⟨k₁, hs⟩ := harr₂.2 rfl
      exact ⟨.returned v, w₄, hR, (StepsIn.trans harr s1).trans (StepsIn.trans hs (.one (fenced_calm (fr := b.atR a₂ (.code .ret :: k₁)) hF' hr' rfl) (stepR_round_ret rfl rfl hend)))⟩
    | exit id =>
      obtain ⟨v, w₄, hend, hR⟩ := hq₂
      obtain ⟨k₁, hk, hs⟩ := harr₂.2 rfl rfl
      exact ⟨.returned v, w₄, hR, (StepsIn.trans harr s1).trans (StepsIn.trans hs (.one (fenced_calm (fr := b.atR a₂ (.code (.exit id) :: k₁)) hF' hr' rfl) (stepR_round_exit rfl rfl hk hend)))⟩
    | goto t =>
      obtain ⟨v, w₄, hend, hR⟩ := hq₂
      obtain ⟨k₁, hk, hs⟩ := harr₂.2 rfl rfl
      exact ⟨.returned v, w₄, hR, (StepsIn.trans harr s1).trans (StepsIn.trans hs (.one (fenced_calm (fr := b.atR a₂ (.code (.goto t) :: k₁)) hF' hr' rfl) (stepR_round_goto rfl rfl hk hend)))⟩
    | panic chain =>
      obtain ⟨hd, hR⟩ := hq₂
      obtain ⟨todo, hs⟩ := harr₂
      obtain ⟨fn, hfn⟩ := Option.isSome_iff_exists.1 hf
      refine ⟨.panicked chain, w₃, hR, (StepsIn.trans harr s1).trans (StepsIn.trans hs (.one (fenced_calm (n := n) hF' hr' (by simp [Frame.about, Frame.atR, hd])) (step_leave_panicked ⟨rfl, hd, fn, hfn⟩)))⟩
    | outgrown => exact hq₂.elim
  | exit id => exact hq.elim
  | goto t => exact hq.elim
  | ret => exact hq.elim
  | panic chain => exact hq.elim
  | outgrown => exact hq.elim
/-- A loop's record. -/
def lp (r : Loop) (s : LoopState) (p : Option Code) : Obj := .loop { r with state := s, pending := p }
/-- How a piece is left, axs a pending jump. -/
def jumpOf : Ex → Option (Option Code)
  | .normal => some none
  | .ret => some (some .ret)
  | .exit id => some (some (.exit id))
  | .goto l => some (some (.goto l))
  | .panic _ => none
/-- What the iterator's body must come to. -/
def RangeQ (P : Program) (cx : Cx) (fr : Fr) (aC : Act) (r : Loop) (l : Nat) (Q : Ex → Env → Mem → Prop) (x : Ex) (E : Env) (M : Mem) : Prop :=
  marksOk M E.d ∧ ∃ v d os lid, (E.o, E.b) = (⟨aC, v, d, some (lid, l)⟩ :: os, []) ∧
    match x with
    | .normal | .ret => ∃ s j, (dropMarks M E.d).at_ lid = .obj (lp r s j) ∧ s ≠ .busy ∧
        (match j with
         | none => W cx fr Q .normal ⟨v, d, os, []⟩ ((dropMarks M E.d).set lid .gone)
         | some c => WP P cx fr c ⟨v, d, os, []⟩ ((dropMarks M E.d).set lid .gone) Q)
    | .panic u => W cx fr Q (.panic u) ⟨v, d, os, []⟩ (dropMarks M E.d)
    | _ => False
theorem okO_mem {e : Nv} {M M' : Mem} {p : OEnv} (h : okO e M p) : okO e M' p := h.mono (Nv.le.refl e) fun _ => Ro.le.refl _
section
variable {P : Program} {cx : Cx} {fr : Fr} {E : Env} {M : Mem} {Q : Ex → Env → Mem → Prop}
/-- A RANGE OVER A FUNCTION, outermost in its frame. -/
theorem WP.range {g : Operand} {ps : Array Tmp} {assign body c : Code} {f : FuncId} {fn : Func} {cap : List AVal} {nti n : Nat} (hr : fr.r = none) (hg : E.ev g = .fn f cap) (hf : P.funcs[f]? = some fn) (hb : fn.body = some c)
    (hnm : (fn.name == "runtime.NumGoroutine") = false) (hres : fn.results = #[]) (hnt : fn.ntmps = nti) (ha : Nat.ble (cap.length + 1) nti = true) (hn : (M.n, E.b) = (n, []))
    (h : ∀ (l : Nat) (r : Loop) (aC : Act), r.params = ps → r.assign = assign → r.body = body → r.tmps = aC.tmps → aC.tmps.size = fr.nt → (P.funcs[r.fn]?).isSome = true →
      WP P cx ⟨nti, none, []⟩ c ⟨fun t => (AVal.lit (.func (.yield l) #[] #[]) :: cap).getD t .any, [], ⟨aC, E.v, n :: E.d, some (n + 1, l)⟩ :: E.o, []⟩
        ((M.push (.obj (.deferred (some [])))).push (.obj (lp r .ready none))) (RangeQ P cx fr aC r l Q)) : WP P cx fr (.rangeFunc g ps assign body) E M Q := by
  intro a w e hh he
  have hb0 : E.b = [] := (Prod.mk.inj hn).2
  have hn := (Prod.mk.inj hn).1
  have hed : marks e M E.d a.defers := by have := he.d; rw [hb0] at this; exact marksB.nil.1 this
  have hgv := he.ev g
  rw [hg] at hgv
  simp only [Val] at hgv
  obtain ⟨us, hgv, hus⟩ := hgv
  have hul := hus.length
  refine wpIn_rangeFunc fun fnid hfnid => ?_
  rw [show (fence P fr.r).round = none from hr]
  let w1 := w.alloc (.deferred (some []))
  let r : Loop := { state := .ready, pending := none, fn := fnid, tmps := a.tmps, params := ps, assign := assign, body := body, defers := w.heap.size }
  let w2 := w1.alloc (.loop r)
  let l := w.heap.size + 1
  let mark : List Deferred := [{ target := .collected w.heap.size, args := #[] }]
  have hres' : (resolve a.eval (rangeCall g l) 0).run P w2 = .ok { target := .fn (.func f) us.toArray, args := #[.func (.yield l) #[] #[]] } w2 := by
    simp [resolve, Deferred.ofValue, hgv, eval_const]
  have hinv : (invoke (.fn (.func f) us.toArray) #[Value.func (.yield l) #[] #[]]).run P w2 = .ok (.enter f (#[Value.func (.yield l) #[] #[]] ++ us.toArray)) w2 := by
    have h3' : ¬ fn.name = "runtime.NumGoroutine" := by simpa using hnm
    simp [invoke, callFunc, hf, h3', hb]
  refine ⟨l, mark, w2, _, w2, f, _, w2, run_enterLoop_outer fnid a.tmps ps assign body, hres', fun g hg' => by simp [Target.leads] at hg'; subst hg'; exact Option.isSome_iff_exists.2 ⟨_, hf⟩, hinv, fun h => by simp at h, ?_⟩
  -- the memory with the two blocks
  let e1 := e.bump w.heap.size 0 0
  let e2 := e1.bump (w.heap.size + 1) 0 0
  have hle1 := e.bump_le w.heap.size 0 0 false
  have hle2 := e1.bump_le (w.heap.size + 1) 0 0 false
  have hm1 := fun b => e.bump_mem w.heap.size 0 0 false b
  have hm2 := fun b => e1.bump_mem (w.heap.size + 1) 0 0 false b
  have hh1 : Hold cx e1 (M.push (.obj (.deferred (some [])))) w1 := by
    refine hh.bind rfl rfl rfl (by simp [w1]) (by simp [w1]) (fun k hk hlt => RowKit.Below.heap_alloc w _ k hlt) (fun i hi hl => Nat.ne_of_lt (hh.live i hi hl).1) hh.bag_new (hnone hh.ro) (hnone hh.bro) (.inr hh.size) ?_
    refine ⟨by simp [Nv.bump], ?_⟩
    simp only [Nv.bump, if_true]
    exact heap_alloc_new w _
  have hsz1 : w1.heap.size = w.heap.size + 1 := by simp [w1]
  have hh2 : Hold cx e2 ((M.push (.obj (.deferred (some [])))).push (.obj (lp r .ready none))) w2 := by
    have key : Hold cx (e1.bump w1.heap.size 0 0) ((M.push (.obj (.deferred (some [])))).push (.obj (lp r .ready none))) w2 := by
      refine hh1.bind rfl rfl rfl (by simp [w2]) (by simp [w2]) (fun k hk hlt => RowKit.Below.heap_alloc w1 _ k hlt) (fun i hi hl => Nat.ne_of_lt (hh1.live i hi hl).1) hh1.bag_new (hnone hh1.ro) (hnone hh1.bro) (.inr hh1.size) ?_
      refine ⟨by simp [Nv.bump], ?_⟩
      simp only [Nv.bump, if_true]
      exact heap_alloc_new w1 _
    rw [hsz1] at key
    exact key
  let aC : Act := { a with defers := mark ++ a.defers }
  have hownn : e2.own n = w.heap.size := by
    have h1 : n = e.n := by rw [← hn, hh.n]
    subst h1
    have h2 : e.n ≠ e1.n := by simp [e1, Nv.bump]
    simp only [e2, Nv.bump, if_neg h2]
    simp [e1, Nv.bump]
  have hmarkn : markBlocks e2 n = [w.heap.size] := by
    have h1 : n = e.n := by rw [← hn, hh.n]
    have h2 : n ≠ e1.n := by rw [h1]; simp [e1, Nv.bump]
    unfold markBlocks
    rw [hownn]
    have h3 : e2.vir n = false := by
      simp only [e2, Nv.bump, if_neg h2]; subst h1; simp [e1, Nv.bump]
    have h4 : e2.bag n = [] := by
      simp only [e2, Nv.bump, if_neg h2]; subst h1; simp [e1, Nv.bump]
    rw [h3, h4]; rfl
  have hownl : e2.own (n + 1) = l := by
    have h1 : n + 1 = e1.n := by rw [← hn]; simp [e1, Nv.bump, hh.n]
    simp only [e2, Nv.bump, if_pos h1]
    rfl
  have hn2 : e2.n = n + 2 := by rw [← hn]; simp [e2, e1, Nv.bump, hh.n]
  have hoC : okO e2 ((M.push (.obj (.deferred (some [])))).push (.obj (lp r .ready none))) ⟨aC, E.v, n :: E.d, some (n + 1, l)⟩ := by
    refine ⟨fun t => ((he.v t).mono hle1 hm1).mono hle2 hm2, ⟨a.defers, by rw [hmarkn]; rfl, by omega, (hed.mono (M' := M) hle1).mono hle2⟩, ?_⟩
    rintro i l' hil
    cases hil
    exact ⟨by omega, hownl⟩
  refine callsIn_of_wp_marks (F := fence P fr.r) hf hb (Option.isSome_iff_exists.2 ⟨_, hf⟩) ?_ hr
  have hemb : Emb nti e2 ((M.push (.obj (.deferred (some [])))).push (.obj (lp r .ready none))) ⟨fun t => (AVal.lit (.func (.yield l) #[] #[]) :: cap).getD t .any, [], ⟨aC, E.v, n :: E.d, some (n + 1, l)⟩ :: E.o, []⟩
      { tmps := (#[Value.func (.yield l) #[] #[]] ++ us.toArray) ++ Array.replicate (fn.ntmps - (#[Value.func (.yield l) #[] #[]] ++ us.toArray).size) undef, defers := [] } := by
    have ha' : cap.length + 1 ≤ nti := by simpa using ha
    refine ⟨by simp [hnt, hul]; omega, fun t => ?_, ⟨[], rfl, rfl⟩, fun p hp => ?_⟩
    · have hvals : Vals e2 (AVal.lit (.func (.yield l) #[] #[]) :: cap) (Value.func (.yield l) #[] #[] :: us) := by
        simp only [Vals]
        exact ⟨_, _, rfl, by simp [Val], (hus.mono hle1 hm1).mono hle2 hm2⟩
      have hlen := hvals.length
      have harr : (#[Value.func (.yield l) #[] #[]] ++ us.toArray) = (Value.func (.yield l) #[] #[] :: us).toArray := by simp
      rw [harr]
      simp only [List.getD_eq_getElem?_getD]
      by_cases ht : t < (AVal.lit (.func (.yield l) #[] #[]) :: cap).length
      · rw [List.getElem?_eq_getElem ht]
        obtain ⟨v, h1, h2⟩ := hvals.get (List.getElem?_eq_getElem ht)
        have hs : ((Value.func (.yield l) #[] #[] :: us).toArray ++ Array.replicate (fn.ntmps - (Value.func (.yield l) #[] #[] :: us).toArray.size) undef).getD t undef = v := by
          rw [Array.getD_eq_getD_getElem?, Array.getElem?_append_left (by simpa [hlen] using ht)]
          simp only [List.getElem?_toArray, h1, Option.getD_some]
        rw [hs]
        exact h2
      · rw [List.getElem?_eq_none (by omega)]
        simp [Val]
    · rcases List.mem_cons.1 hp with rfl | hp
      · exact hoC
      · exact ((he.o p hp).mono (M' := M) hle1 hm1).mono hle2 hm2
  have hwp := h l r aC rfl rfl rfl rfl he.sz hfnid _ w2 e2 hh2 hemb
  rw [show (fence P (⟨nti, none, []⟩ : Fr).r) = fence P fr.r by rw [hr]] at hwp
  refine Go.wpIn_mono hwp fun x a' w' k => ?_
  obtain ⟨y, E', M', e', q, g1, g2, g3⟩ := k
  obtain ⟨q1, v', d', os', lid, q2, q3⟩ := q
  have qb : E'.b = [] := (Prod.mk.inj q2).2
  have q2 := (Prod.mk.inj q2).1
  have fin : Emb nti e' M' E' a' → (∃ s j, (dropMarks M' E'.d).at_ lid = .obj (lp r s j) ∧ s ≠ .busy ∧
        (match j with
         | none => W cx fr Q .normal ⟨v', d', os', []⟩ ((dropMarks M' E'.d).set lid .gone)
         | some c => WP P cx fr c ⟨v', d', os', []⟩ ((dropMarks M' E'.d).set lid .gone) Q)) →
      LeavesInM (fence P fr.r) 0 P fn a'.tmps (rangePost (fence P fr.r) 0 P l (Sat cx fr Q) aC) a'.defers .returning w' := by
    rintro g2 ⟨s, j, q4, q5, q6⟩
    have hfr : fence P fr.r = fence P none := by rw [hr]
    rw [hfr]
    have hd2 := g2.d
    rw [qb] at hd2
    refine leave_marks (by simp) E'.d M' w' a'.defers g1 (marksB.nil.1 hd2) q1 fun w'' hh'' => ?_
    have hp := g2.o ⟨aC, v', d', some (lid, l)⟩ (by rw [q2]; simp)
    obtain ⟨hlid, hownlid⟩ := hp.lk lid l rfl
    have hb' := hh''.ch lid hlid
    rw [q4] at hb'
    have hbl : w''.heap[l]? = some (.loop { r with state := s, pending := j }) := by rw [← hownlid]; exact hb'.2
    have hlive : ((dropMarks M' E'.d).at_ lid).live e' lid := by rw [q4]; trivial
    have hlt : l < w''.heap.size := (Array.getElem?_eq_some_iff.1 hbl).1
    refine ⟨.tuple #[], by simp [results, hres], ?_⟩
    refine ⟨j, _, run_endLoop (r := { r with state := s, pending := j }) hbl q5, ?_⟩
    have hh3 : Hold cx e' ((dropMarks M' E'.d).set lid .gone) (w''.putObj l (.loop { ({ r with state := s, pending := j } : Loop) with state := .exhausted })) :=
      hh''.change hlid hlive rfl rfl rfl (by simp [World.putObj]) (fun k hk => World.putObj_heap_other (by rw [hownlid] at hk; exact hk)) trivial
    have hemb3 : Emb fr.nt e' ((dropMarks M' E'.d).set lid .gone) ⟨v', d', os', []⟩ aC :=
      ⟨he.sz, hp.v, marksB.nil.2 (hp.d.mono (Nv.le.refl e')), fun p hp' => okO_mem (g2.o p (by rw [q2]; simp [hp']))⟩
    cases j with
    | none => exact q6 _ _ e' _ hh3 hemb3 rfl
    | some c =>
      have := q6 aC _ e' hh3 hemb3
      rw [hr] at this
      simpa [hr] using this
  cases y with
  | normal => cases g3; exact fin g2 q3
  | ret => cases g3; exact fin g2 q3
  | exit id => exact q3.elim
  | goto l => exact q3.elim
  | panic v =>
    obtain ⟨u, rfl, hu⟩ := g3
    show LeavesInM (fence P fr.r) 0 P fn a'.tmps (rangePost (fence P fr.r) 0 P l (Sat cx fr Q) aC) a'.defers (.panicking [{ v := u, recovered := false }]) w'
    have hfr : fence P fr.r = fence P none := by rw [hr]
    rw [hfr]
    have hd2 := g2.1.1
    rw [qb] at hd2
    refine leave_marks (u := .panicking [{ v := u, recovered := false }]) (by simp) E'.d M' w' a'.defers g1 (marksB.nil.1 hd2) q1 fun w'' hh'' => ?_
    have hp := g2.2 ⟨aC, v', d', some (lid, l)⟩ (by rw [q2]; simp)
    exact q3 aC w'' e' _ hh'' ⟨⟨marksB.nil.2 (hp.d.mono (Nv.le.refl e')), fun t _ => hp.v t⟩, fun p hp' => okO_mem (g2.2 p (by rw [q2]; simp [hp']))⟩ ⟨u, rfl, hu⟩
/-- Yield's arguments in the loop's variables. -/
def paramsV (f : Nat → AVal) : List Tmp → List AVal → (Nat → AVal)
  | t :: ts, a :: l => paramsV (fun u => if Nat.beq u t = true then a else f u) ts l
  | _, _ => f
theorem params_ok {e : Nv} : ∀ (ts : List Tmp) (axs : List AVal) (vs : List Value) (f : Nat → AVal) (tm : Array Value), Vals e axs vs → (∀ t ∈ ts, t < tm.size) → ts.length = axs.length → (∀ t, Val e (f t) (tm.getD t undef)) →
    ∀ t, Val e (paramsV f ts axs t) (((ts.zip vs).foldl (fun tmps (x : Tmp × Value) => tmps.setIfInBounds x.1 x.2) tm).getD t undef)
  | [], axs, vs, f, tm, _, _, _, hf => by simpa [paramsV] using hf
  | t :: ts, [], vs, f, tm, _, _, hl, _ => by simp at hl
  | t :: ts, a :: axs, vs, f, tm, h, hb, hl, hf => by
    simp only [Vals] at h
    obtain ⟨v, ws, rfl, h1, h2⟩ := h
    simp only [paramsV, List.zip_cons_cons, List.foldl_cons]
    refine params_ok ts axs ws _ _ h2 (fun x hx => by simpa using hb x (by simp [hx])) (by simpa using hl) fun u => ?_
    have ht : t < tm.size := hb t (by simp)
    simp only [Array.getD_eq_getD_getElem?]
    by_cases hu : u = t
    · subst hu
      simp [ht, h1]
    · rw [if_neg (by simpa using hu), Array.getElem?_setIfInBounds_ne (Ne.symm hu)]
      have := hf u
      rwa [Array.getD_eq_getD_getElem?] at this
theorem foldl_size : ∀ (l : List (Tmp × Value)) (tm : Array Value), (l.foldl (fun tmps (x : Tmp × Value) => tmps.setIfInBounds x.1 x.2) tm).size = tm.size
  | [], _ => rfl
  | x :: l, tm => by rw [List.foldl_cons, foldl_size l]; simp
/-- What a round must come to. -/
def RoundQ (lid : Nat) (l : Nat) (r : Loop) (aI aC : Act) (K : Option Code → Env → Mem → Prop) (KP : AVal → Env → Mem → Prop) (x : Ex) (E : Env) (M : Mem) : Prop :=
  E.d = [] ∧ ∃ v d v' d' os' lid', (E.o, E.b) = (⟨aI, v, d, none⟩ :: ⟨aC, v', d', some (lid', l)⟩ :: os', []) ∧ M.at_ lid' = .obj (lp r .busy none) ∧
    match x with
    | .panic u => KP u ⟨v, d, ⟨aC, v', d', some (lid', l)⟩ :: os', []⟩ M
    | x => ∃ j, jumpOf x = some j ∧ K j ⟨v, d, ⟨aC, v', d', some (lid', l)⟩ :: os', []⟩ (M.set lid' (.obj (lp r (if j.isNone then .ready else .done) j)))
/-- What the assignments to the loop's variables must come to. -/
def AssignQ (P : Program) (cx : Cx) (ntc l : Nat) (body : Code) (r : Loop) (aI aC : Act) (K : Option Code → Env → Mem → Prop) (KP : AVal → Env → Mem → Prop) (x : Ex) (E : Env) (M : Mem) : Prop :=
  x = .normal ∧ E.d = [] ∧ ∃ v d v' d' os' lid', (E.o, E.b) = (⟨aI, v, d, none⟩ :: ⟨aC, v', d', some (lid', l)⟩ :: os', []) ∧ M.at_ lid' = .obj (lp r .ready none) ∧
    WP P cx ⟨ntc, some l, []⟩ body E (M.set lid' (.obj (lp r .busy none))) (RoundQ lid' l r aI aC K KP)
variable {ops : Array Oper} {os : List Oper} {ty : TypeId} {pos : String} {after : Array Edge} {dst : Nat}
theorem putObj_hold {e : Nv} {w : World} (hh : Hold cx e M w) {i l : Nat} {o o' : Obj} (hi : i < e.n) (hl : e.own i = l) (hc : M.at_ i = .obj o) (hmk : (Chunk.obj o').mark = true → (M.at_ i).mark = true) : Hold cx e (M.set i (.obj o')) (w.putObj l o') := by
  subst hl
  have hlive : (M.at_ i).live e i := by rw [hc]; trivial
  have hb := hh.ch i hi
  rw [hc] at hb
  have hlt : e.own i < w.heap.size := (hh.live i hi hlive).1
  exact hh.change hi hlive rfl rfl rfl (by simp [World.putObj]) (fun k hk => World.putObj_heap_other hk) ⟨hb.1, World.putObj_heap_same hlt⟩ hmk
/-- A CALL OF yield: a round of the loop. -/
theorem WPL.ycore {g : Option (Nat × Bool)} {fo : Operand} {args : Array Operand} {tys : Array TypeId} {l lid ntc : Nat} {r : Loop} {aC : Act} {vC : Nat → AVal} {dC : List Nat} {oC : List OEnv} {ps : Array Tmp} {assign body : Code} (hfr : fr.r = none) (hfo : E.ev fo = .lit (.func (.yield l) #[] #[]))
    (ho : (E.o, E.b) = (⟨aC, vC, dC, some (lid, l)⟩ :: oC, [])) (hM : M.at_ lid = .obj (lp r .ready none)) (hrp : r.params = ps) (hra : r.assign = assign) (hrb : r.body = body) (hrt : r.tmps = aC.tmps) (hsz : aC.tmps.size = ntc) (hrf : (P.funcs[r.fn]?).isSome = true)
    (hps : Nat.beq ps.size args.size = true) (hpl : (ps.toList.all fun t => Nat.blt t ntc) = true) (ht : Nat.blt dst fr.nt = true)
    (hg : ∀ nt a e, Emb nt e M E a → nt = fr.nt → Region.wanted { dst := some dst, op := .call { callee := .value fo, args := args, argTypes := tys }, type := ty, pos := pos, after := after, guard := g } (yielded ops a.tmps) = true)
    (hround : ∀ aI : Act, WP P cx ⟨ntc, some l, []⟩ assign ⟨paramsV vC ps.toList (args.toList.map E.ev), [], ⟨aI, E.v, E.d, none⟩ :: E.o, []⟩ M
      (AssignQ P cx ntc l body r aI aC (fun j E M => WPL P cx fr ops os (E.upd dst (.lit (.bool j.isNone))) M Q) (fun u E M => W cx fr Q (.panic u) E M))) :
    WPL P cx fr ops ({ dst := some dst, op := .call { callee := .value fo, args := args, argTypes := tys }, type := ty, pos := pos, after := after, guard := g } :: os) E M Q := by
  intro a w e hh he
  have hb0 : E.b = [] := (Prod.mk.inj ho).2
  have ho := (Prod.mk.inj ho).1
  have hed : marks e M E.d a.defers := by have := he.d; rw [hb0] at this; exact marksB.nil.1 this
  have hv := ev_lit he hfo
  have hpO := he.o ⟨aC, vC, dC, some (lid, l)⟩ (by rw [ho]; simp)
  obtain ⟨hlid, hown⟩ := hpO.lk lid l rfl
  have hb := hh.ch lid hlid
  rw [hM] at hb
  have hbl : w.heap[l]? = some (.loop { r with state := .ready, pending := none }) := by rw [← hown]; exact hb.2
  have hps' : ps.size = args.size := by simpa using hps
  unfold wpListIn
  rw [if_pos (hg _ _ _ he rfl)]
  refine ⟨fun f hf => by simp [Oper.about, resolve, Deferred.ofValue, hv, Target.leads] at hf, ?_⟩
  rw [Oper.semAt_eq _ _ _ (by intro c hc; cases hc), execOp_one]
  have hrun : (exec1 a.eval (.call { callee := .value fo, args := args, argTypes := tys }) ty).run P w = .ok (.round l r.fn ((ps.zip (args.map a.eval)).foldl (fun tmps (t, a) => tmps.setIfInBounds t a) r.tmps) assign body) w := by
    have hy := run_yield (P := P) (args := args.map a.eval) hbl (by simp [hrp, hps'])
    simp only [hrp, hra, hrb] at hy
    simp [exec1, execOp, resolve, Deferred.ofValue, hv, invoke, hy]
  rw [hrun]
  refine ⟨fun h => by simp at h, ?_⟩
  have hfold : (ps.zip (args.map a.eval)).foldl (fun tmps (t, a) => tmps.setIfInBounds t a) r.tmps = (ps.toList.zip (args.toList.map a.eval)).foldl (fun tmps (x : Tmp × Value) => tmps.setIfInBounds x.1 x.2) aC.tmps := by
    rw [hrt, ← Array.foldl_toList]
    simp [Array.toList_zip]
  rw [hfold, hfr]
  refine roundIn_of_wpInP hrf hrf ?_
  let aR : Act := { tmps := (ps.toList.zip (args.toList.map a.eval)).foldl (fun tmps (x : Tmp × Value) => tmps.setIfInBounds x.1 x.2) aC.tmps, defers := [] }
  have hembR : Emb ntc e M ⟨paramsV vC ps.toList (args.toList.map E.ev), [], ⟨a, E.v, E.d, none⟩ :: E.o, []⟩ aR := by
    refine ⟨by simp only [aR]; rw [foldl_size, hsz], fun t => ?_, ⟨[], rfl, rfl⟩, fun p hp => ?_⟩
    · exact params_ok ps.toList _ _ vC aC.tmps (evs he args.toList) (fun t ht' => by have := List.all_eq_true.1 hpl t ht'; rw [hsz]; simpa using this) (by simpa using hps') hpO.v t
    · rcases List.mem_cons.1 hp with rfl | hp
      · exact ⟨he.v, hed, fun i l' hil => by cases hil⟩
      · exact he.o p hp
  refine Go.wpIn_mono (hround a aR w e hh hembR) fun x a1 w1 k => ?_
  obtain ⟨y, E1, M1, e1, q, g1, g2, g3⟩ := k
  obtain ⟨rfl, hd1, v1, d1, v1', d1', os1, lid1, ho1, hM1, hbody⟩ := q
  have ho1 := (Prod.mk.inj ho1).1
  cases g3
  have hp1 := g2.o ⟨aC, v1', d1', some (lid1, l)⟩ (by rw [ho1]; simp)
  obtain ⟨hlid1, hown1⟩ := hp1.lk lid1 l rfl
  have hb1 := g1.ch lid1 hlid1
  rw [hM1] at hb1
  have hbl1 : w1.heap[l]? = some (.loop { r with state := .ready, pending := none }) := by rw [← hown1]; exact hb1.2
  refine ⟨_, run_beginRound hbl1 rfl, ?_⟩
  have hh1 : Hold cx e1 (M1.set lid1 (.obj (lp r .busy none))) (w1.putObj l (.loop { ({ r with state := .ready, pending := none } : Loop) with state := .busy })) := putObj_hold g1 hlid1 hown1 hM1 (fun h => by cases h)
  have hemb1 : Emb ntc e1 (M1.set lid1 (.obj (lp r .busy none))) E1 a1 := Emb.mono (E := E1) g2 (Nv.le.refl e1) fun _ => Ro.le.refl _
  refine Go.wpIn_mono (hbody a1 _ e1 hh1 hemb1) fun x2 a2 w2 k2 => ?_
  obtain ⟨y2, E2, M2, e2, q2, k1, k3, k4⟩ := k2
  obtain ⟨hd2, v2, d2, v2', d2', os2, lid2, ho2, hM2, hK0⟩ := q2
  have hb2' : E2.b = [] := (Prod.mk.inj ho2).2
  have ho2 := (Prod.mk.inj ho2).1
  have fin : Emb ntc e2 M2 E2 a2 → ∀ j, WPL P cx fr ops os (Env.upd ⟨v2, d2, ⟨aC, v2', d2', some (lid2, l)⟩ :: os2, []⟩ dst (.lit (.bool (Option.isNone j)))) (M2.set lid2 (.obj (lp r (if Option.isNone j then .ready else .done) j))) Q → ∃ v w', (Instr.endRound l j).run P w2 = .ok v w' ∧ wpListIn (fence P fr.r) 0 P ops (Sat cx fr Q) os (a.put (some dst) v) w' := by
    intro k3 j hK
    have hp2 := k3.o ⟨aC, v2', d2', some (lid2, l)⟩ (by rw [ho2]; simp)
    have hpI := k3.o ⟨a, v2, d2, none⟩ (by rw [ho2]; simp)
    obtain ⟨hlid2, hown2⟩ := hp2.lk lid2 l rfl
    have hb2 := k1.ch lid2 hlid2
    rw [hM2] at hb2
    have hbl2 : w2.heap[l]? = some (.loop { r with state := .busy, pending := none }) := by rw [← hown2]; exact hb2.2
    refine ⟨_, _, run_endRound j hbl2, ?_⟩
    have hh2 : Hold cx e2 (M2.set lid2 (.obj (lp r (if j.isNone then .ready else .done) j))) (w2.putObj l (.loop { ({ r with state := .busy, pending := none } : Loop) with state := if j.isNone then .ready else .done, pending := j })) := putObj_hold k1 hlid2 hown2 hM2 (fun h => by cases h)
    have hembI : Emb fr.nt e2 (M2.set lid2 (.obj (lp r (if j.isNone then .ready else .done) j))) ⟨v2, d2, ⟨aC, v2', d2', some (lid2, l)⟩ :: os2, []⟩ a :=
      ⟨he.sz, hpI.v, marksB.nil.2 (hpI.d.mono (Nv.le.refl e2)), fun p hp => okO_mem (k3.o p (by rw [ho2]; simp at hp ⊢; exact .inr hp))⟩
    exact hK _ _ e2 hh2 (hembI.put ht (by simp [Val]))
  have conv : ∀ {v : Value} {w' : World}, wpListIn (fence P fr.r) 0 P ops (Sat cx fr Q) os (a.put (some dst) v) w' → wpListIn (fence P none) 0 P ops (Sat cx fr Q) os (a.put (some dst) v) w' := by
    intro v w' h; rw [hfr] at h; exact h
  cases y2 with
  | normal => cases k4; obtain ⟨j, hj, hK⟩ := hK0; cases hj; obtain ⟨v, w', h1, h2⟩ := fin k3 _ hK; exact ⟨v, w', h1, conv h2⟩
  | ret => cases k4; obtain ⟨j, hj, hK⟩ := hK0; cases hj; obtain ⟨v, w', h1, h2⟩ := fin k3 _ hK; exact ⟨v, w', h1, conv h2⟩
  | exit id => cases k4; obtain ⟨j, hj, hK⟩ := hK0; cases hj; obtain ⟨v, w', h1, h2⟩ := fin k3 _ hK; exact ⟨v, w', h1, conv h2⟩
  | goto t => cases k4; obtain ⟨j, hj, hK⟩ := hK0; cases hj; obtain ⟨v, w', h1, h2⟩ := fin k3 _ hK; exact ⟨v, w', h1, conv h2⟩
  | panic u =>
    obtain ⟨x, rfl, hx⟩ := k4
    have hpI := k3.2 ⟨a, v2, d2, none⟩ (by rw [ho2]; simp)
    have hdf : a2.defers = [] := by
      have := k3.1.1
      rw [hb2', hd2] at this
      exact marksB.nil.1 this
    exact ⟨hdf, hK0 a w2 e2 _ k1 ⟨⟨marksB.nil.2 (hpI.d.mono (Nv.le.refl e2)), fun t _ => hpI.v t⟩, fun p hp => okO_mem (k3.2 p (by rw [ho2]; simp at hp ⊢; exact .inr hp))⟩ ⟨x, rfl, hx⟩⟩
/-- A round. -/
theorem WPL.y {fo : Operand} {args : Array Operand} {tys : Array TypeId} {l lid ntc : Nat} {r : Loop} {aC : Act} {vC : Nat → AVal} {dC : List Nat} {oC : List OEnv} {ps : Array Tmp} {assign body : Code} (hfr : fr.r = none) (hfo : E.ev fo = .lit (.func (.yield l) #[] #[]))
    (ho : (E.o, E.b) = (⟨aC, vC, dC, some (lid, l)⟩ :: oC, [])) (hM : M.at_ lid = .obj (lp r .ready none)) (hrp : r.params = ps) (hra : r.assign = assign) (hrb : r.body = body) (hrt : r.tmps = aC.tmps) (hsz : aC.tmps.size = ntc) (hrf : (P.funcs[r.fn]?).isSome = true)
    (hps : Nat.beq ps.size args.size = true) (hpl : (ps.toList.all fun t => Nat.blt t ntc) = true) (ht : Nat.blt dst fr.nt = true)
    (hround : ∀ aI : Act, WP P cx ⟨ntc, some l, []⟩ assign ⟨paramsV vC ps.toList (args.toList.map E.ev), [], ⟨aI, E.v, E.d, none⟩ :: E.o, []⟩ M
      (AssignQ P cx ntc l body r aI aC (fun j E M => WPL P cx fr ops os (E.upd dst (.lit (.bool j.isNone))) M Q) (fun u E M => W cx fr Q (.panic u) E M))) :
    WPL P cx fr ops ({ dst := some dst, op := .call { callee := .value fo, args := args, argTypes := tys }, type := ty, pos := pos, after := after, guard := Option.none } :: os) E M Q :=
  WPL.ycore hfr hfo ho hM hrp hra hrb hrt hsz hrf hps hpl ht (fun _ _ _ _ _ => rfl) hround
theorem WPL.yg {gj gt : Nat} {gb : Bool} {fo : Operand} {args : Array Operand} {tys : Array TypeId} {l lid ntc : Nat} {r : Loop} {aC : Act} {vC : Nat → AVal} {dC : List Nat} {oC : List OEnv} {ps : Array Tmp} {assign body : Code} (hfr : fr.r = none) (hfo : E.ev fo = .lit (.func (.yield l) #[] #[]))
    (ho : (E.o, E.b) = (⟨aC, vC, dC, some (lid, l)⟩ :: oC, [])) (hM : M.at_ lid = .obj (lp r .ready none)) (hrp : r.params = ps) (hra : r.assign = assign) (hrb : r.body = body) (hrt : r.tmps = aC.tmps) (hsz : aC.tmps.size = ntc) (hrf : (P.funcs[r.fn]?).isSome = true)
    (hps : Nat.beq ps.size args.size = true) (hpl : (ps.toList.all fun t => Nat.blt t ntc) = true) (ht : Nat.blt dst fr.nt = true)
    (gh : (ops[gj]?).bind (·.dst) = some gt) (ght : Nat.blt gt fr.nt = true) (ghv : E.v gt = .lit (.bool gb))
    (hround : ∀ aI : Act, WP P cx ⟨ntc, some l, []⟩ assign ⟨paramsV vC ps.toList (args.toList.map E.ev), [], ⟨aI, E.v, E.d, none⟩ :: E.o, []⟩ M
      (AssignQ P cx ntc l body r aI aC (fun j E M => WPL P cx fr ops os (E.upd dst (.lit (.bool j.isNone))) M Q) (fun u E M => W cx fr Q (.panic u) E M))) :
    WPL P cx fr ops ({ dst := some dst, op := .call { callee := .value fo, args := args, argTypes := tys }, type := ty, pos := pos, after := after, guard := some (gj, gb) } :: os) E M Q :=
  WPL.ycore hfr hfo ho hM hrp hra hrb hrt hsz hrf hps hpl ht (fun _ _ _ he hn => by subst hn; simp [Region.wanted, yields he gh ght ghv]) hround
end
end Go.Q
namespace Go.Q
open Go
set_option linter.unusedVariables false
set_option linter.unusedSimpArgs false
theorem grd {α : Type} {b : Bool} {x : Option α} {r : α} (h : (bif b then x else none) = some r) : b = true ∧ x = some r := by
  cases b with
  | true => exact ⟨rfl, h⟩
  | false => cases h
theorem bnd {α β : Type} {x : Option α} {f : α → Option β} {r : β} (h : x.bind f = some r) : ∃ a, x = some a ∧ f a = some r := Option.bind_eq_some_iff.1 h
theorem cnt {α : Type} {b : Bool} {x y : Option α} {r : α} (hb : b = true) (h : (bif b then x else y) = some r) : x = some r := by subst hb; exact h
theorem cnf {α : Type} {b : Bool} {x y : Option α} {r : α} (hb : b = false) (h : (bif b then x else y) = some r) : y = some r := by subst hb; exact h
theorem inj {α : Type} {x r : α} (h : some x = some r) : r = x := (Option.some.inj h).symm
section
variable {P : Program} {cx : Cx} {fr : Fr} {E : Env} {M : Mem} {Q : Ex → Env → Mem → Prop} {next : Env → Mem → Prop} {ty : TypeId}
theorem Then.n (h : next E M) : Then next Q .normal E M := h
theorem Then.r (h : Q .ret E M) : Then next Q .ret E M := h
theorem Then.x {id : Nat} (h : Q (.exit id) E M) : Then next Q (.exit id) E M := h
theorem Then.p {v : AVal} (h : Q (.panic v) E M) : Then next Q (.panic v) E M := h
theorem InBlock.n {id : Nat} (h : Q .normal E M) : InBlock id Q .normal E M := h
theorem InBlock.r {id : Nat} (h : Q .ret E M) : InBlock id Q .ret E M := h
theorem InBlock.p {id : Nat} {v : AVal} (h : Q (.panic v) E M) : InBlock id Q (.panic v) E M := h
theorem InBlock.x0 {id : Nat} (h : Q .normal E M) : InBlock id Q (.exit id) E M := by simp only [InBlock, Nat.beq_eq, if_true]; exact h
theorem InBlock.x {id id' : Nat} (hi : Nat.beq id' id = false) (h : Q (.exit id') E M) : InBlock id Q (.exit id') E M := by
  simp only [InBlock]
  rw [if_neg (by rw [hi]; simp)]
  exact h
theorem q_mv {x : Operand} {v : AVal} (h : E.ev x = v) : Quiet P (.move x) ty E M [] v := h ▸ q_move x
theorem q_as {x : Operand} {v : AVal} (h : E.ev x = v) : Quiet P (.assign x) ty E M [] v := h ▸ q_assign x
theorem q_pickT {c x y : Operand} {v : AVal} (hc : E.ev c = .lit (.bool true)) (h : E.ev x = v) : Quiet P (.pick c x y) ty E M [] v := by
  have := q_pick (P := P) (ty := ty) (M := M) (x := x) (y := y) hc
  simp only [cond_true] at this
  exact h ▸ this
theorem q_pickF {c x y : Operand} {v : AVal} (hc : E.ev c = .lit (.bool false)) (h : E.ev y = v) : Quiet P (.pick c x y) ty E M [] v := by
  have := q_pick (P := P) (ty := ty) (M := M) (x := x) (y := y) hc
  simp only [cond_false] at this
  exact h ▸ this
/-- A guard's case: both ways. -/
theorem WPL.split {ops : Array Oper} {os : List Oper} {t : Nat} {b : Bool} (hv : E.v t = .lit (.bool b)) (h1 : b = true → WPL P cx fr ops os E M Q) (h2 : b = false → WPL P cx fr ops os E M Q) : WPL P cx fr ops os E M Q := by
  cases b with
  | true => exact h1 rfl
  | false => exact h2 rfl
theorem WP.vir {c : Code} {α : Type} (ct : TypeId) (R : Rd α) {N : Nat} (hN : M.n = N) (tt : Nat) (hv : E.v tt = .lit (.slice none 0 0)) (k : WP P cx fr c (E.upd tt (.whole N)) (M.push (.row ct R [])) Q) : WP P cx fr c E M Q := by
  intro a w e hh he
  refine k a w (e.bump 0 0 0 true) hh.bindVir ?_
  have h1 : Emb fr.nt (e.bump 0 0 0 true) (M.push (.row ct R [])) E a := he.mono (e.bump_le 0 0 0 true) (fun b => e.bump_mem 0 0 0 true b)
  refine ⟨h1.sz, fun u => ?_, h1.d, h1.o⟩
  rw [Env.upd_v]
  split
  · rename_i hu
    subst hu
    have := h1.v u
    rw [hv] at this
    simp only [Val] at this
    rw [this]
    simp only [Val, Nv.bump, ← hN, ← hh.n, if_true]
    exact ⟨Nat.lt_succ_self _, Nat.le_refl _, trivial, trivial⟩
  · exact h1.v u
end
section
variable {P : Program} {E : Env} {M : Mem} {ty : TypeId}
/-- Bytes of a slice as a string's own: []byte("..") and the like need Qm. A slice of a slice that is only read. -/
theorem run_slice_sl {t el : TypeId} {n : Nat} (h : SlIs P t el n) (a : Option Addr) (len cap : Nat) (lo hi : Option Value) (l r : Nat) (w : World)
    (hl : (match lo with | some v => ∃ k, v = .int k (l : Int) | none => l = 0)) (hr : (match hi with | some v => ∃ k, v = .int k (r : Int) | none => r = len)) (hlr : l ≤ r) (hrc : r ≤ cap) :
    (Instr.sliceAt t (.slice a len cap) lo hi none).run P w = .ok (.slice (if cap = l then a else a.map (·.add (l * n))) (r - l) (cap - l)) w := by
  have e1 : ∀ (y : Nat) (code : BoundsCode) (v : Value) (m : Nat), (∃ k, v = .int k (m : Int)) → m ≤ y → (Instr.sliceBound v y code).run P w = .ok m w := by
    rintro y code v m ⟨k, rfl⟩ hm
    have h1 : (0 : Int) ≤ (m : Int) ∧ (m : Int) ≤ (y : Int) := ⟨by omega, by omega⟩
    simp only [Instr.sliceBound, asIntOf, Sem.run_bind, Sem.run_pure, Result.andThen]
    rw [if_pos h1]
    simp
  cases lo with
  | none =>
    simp only at hl
    cases hi with
    | none =>
      simp only at hr
      subst hl hr
      simp [Instr.sliceAt, Instr.slice, run_underlying h.t, Instr.sliceBounds, h.e.run]
    | some v =>
      simp only at hr
      subst hl
      simp [Instr.sliceAt, Instr.slice, run_underlying h.t, Instr.sliceBounds, h.e.run, e1 cap _ v r hr hrc]
  | some u =>
    simp only at hl
    cases hi with
    | none =>
      simp only at hr
      subst hr
      simp [Instr.sliceAt, Instr.slice, run_underlying h.t, Instr.sliceBounds, h.e.run, e1 r _ u l hl hlr]
    | some v =>
      simp only at hr
      simp [Instr.sliceAt, Instr.slice, run_underlying h.t, Instr.sliceBounds, h.e.run, e1 cap _ v r hr hrc, e1 r _ u l hl hlr]
/-- The bounds of a slice expression. -/
def evOpt (E : Env) (x : Option Operand) (d : Int) (i : Int) : Prop := match x with | some o => ∃ k, E.ev o = .lit (.int k i) | none => i = d
theorem q_slice_ro {α : Type} {R : Rd α} {b : Bool} {l : List α} {t el : TypeId} {n : Nat} {x : Operand} {lo hi : Option Operand} {i j : Int} (h : SlIs P t el n) (hn : R.sz = n) (hx : E.ev x = .ro (Rd.slice R) b l)
    (hlo : evOpt E lo 0 i) (hhi : evOpt E hi l.length j) (hb : decide (0 ≤ i ∧ i ≤ j ∧ j ≤ l.length) = true) : Quiet P (.slice t x lo hi none) ty E M [] (.ro (Rd.slice R) b ((l.take j.toNat).drop i.toNat)) :=
  fun cx nt a w e hh he => by
    obtain ⟨b0, b1, b2⟩ := of_decide_eq_true hb
    have hv := he.ev x; rw [hx] at hv; simp only [Val, Rd.slice] at hv
    have hlo' : (match lo.map a.eval with | some v => ∃ k, v = .int k (i.toNat : Int) | none => i.toNat = 0) := by
      cases lo with
      | none => simp only [evOpt] at hlo; subst hlo; rfl
      | some o =>
        obtain ⟨k, hk⟩ := hlo
        exact ⟨k, by rw [ev_lit he hk, Int.toNat_of_nonneg b0]⟩
    have hhi' : (match hi.map a.eval with | some v => ∃ k, v = .int k (j.toNat : Int) | none => j.toNat = l.length) := by
      cases hi with
      | none => simp only [evOpt] at hhi; subst hhi; exact Int.toNat_natCast _
      | some o =>
        obtain ⟨k, hk⟩ := hhi
        exact ⟨k, by rw [ev_lit he hk, Int.toNat_of_nonneg (by omega)]⟩
    have hlr : i.toNat ≤ j.toNat := by omega
    have hjl : j.toNat ≤ l.length := by omega
    have hlen : ((l.take j.toNat).drop i.toNat).length = j.toNat - i.toNat := by simp; omega
    rcases hv with ⟨rfl, ad, c, h1⟩ | ⟨bk, o, c, tt, fr, cap, h1, hc, h2, h3⟩
    · simp at h1
      have hj0 : j.toNat = 0 := by simpa using hjl
      have hi0 : i.toNat = 0 := by omega
      refine ⟨.slice (if c = i.toNat then ad else ad.map (·.add (i.toNat * n))) (j.toNat - i.toNat) (c - i.toNat), ?_, fun w1 hw => ?_⟩
      · simp only [Val, Rd.slice]
        exact .inl ⟨by simp, _, _, by rw [hj0, hi0]⟩
      · have := run_slice_sl h ad 0 c (lo.map a.eval) (hi.map a.eval) i.toNat j.toNat w1 hlo' (by simpa using hhi') hlr (by omega)
        simp [exec1, execOp, h1, this]
    · simp at h1
      refine ⟨.slice (if cap = i.toNat then some ⟨bk, o, none⟩ else (some (⟨bk, o, none⟩ : Addr)).map (·.add (i.toNat * n))) (j.toNat - i.toNat) (cap - i.toNat), ?_, fun w1 hw => ?_⟩
      · simp only [Val, Rd.slice]
        by_cases h0 : j.toNat - i.toNat = 0
        · exact .inl ⟨List.eq_nil_of_length_eq_zero (by omega), _, _, by rw [h0]⟩
        · have hne : ¬ cap = i.toNat := by omega
          refine .inr ⟨bk, o + i.toNat * n, c, tt, fr, cap - i.toNat, by rw [if_neg hne, hlen]; simp [add_at], by omega, h2, ?_⟩
          rw [← hn]
          have := rows_drop i.toNat (rows_take j.toNat h3)
          rw [List.drop_drop] at this
          exact this
      · have := run_slice_sl h (some ⟨bk, o, none⟩) l.length cap (lo.map a.eval) (hi.map a.eval) i.toNat j.toNat w1 hlo' hhi' hlr (by omega)
        simp [exec1, execOp, h1, this]
end
end Go.Q
namespace Go.Q
open Go
set_option linter.unusedVariables false
set_option linter.unusedSimpArgs false
/-- A state told otherwise. -/
def Cv (cx : Cx) (nt : Nat) (E : Env) (M : Mem) (E' : Env) (M' : Mem) : Prop :=
  ∀ a w e, Hold cx e M w → Emb nt e M E a → ∃ e', Hold cx e' M' w ∧ Emb nt e' M' E' a
def Ex.plain : Ex → Bool
  | .panic _ => false
  | _ => true
section
variable {P : Program} {cx : Cx} {fr : Fr} {nt : Nat} {E E' E'' : Env} {M M' M'' : Mem} {Q Q' : Ex → Env → Mem → Prop} {x : Ex} {c : Code} {ops : Array Oper} {os : List Oper}
theorem W.cv (k : Cv cx fr.nt E M E' M') (hx : x.plain = true) (h : W cx fr Q x E' M') : W cx fr Q x E M := fun a w e X hh he hX => by
  cases x with
  | panic v => cases hx
  | normal => obtain ⟨e', h1, h2⟩ := k a w e hh he; exact h a w e' X h1 h2 hX
  | exit id => obtain ⟨e', h1, h2⟩ := k a w e hh he; exact h a w e' X h1 h2 hX
  | goto l => obtain ⟨e', h1, h2⟩ := k a w e hh he; exact h a w e' X h1 h2 hX
  | ret => obtain ⟨e', h1, h2⟩ := k a w e hh he; exact h a w e' X h1 h2 hX
theorem WP.cv (k : Cv cx fr.nt E M E' M') (h : WP P cx fr c E' M' Q) : WP P cx fr c E M Q := fun a w e hh he => let ⟨e', h1, h2⟩ := k a w e hh he; h a w e' h1 h2
theorem WPL.cv (k : Cv cx fr.nt E M E' M') (h : WPL P cx fr ops os E' M' Q) : WPL P cx fr ops os E M Q := fun a w e hh he => let ⟨e', h1, h2⟩ := k a w e hh he; h a w e' h1 h2
theorem Cv.same : Cv cx nt E M E M := fun a w e hh he => ⟨e, hh, he⟩
theorem Cv.trans (h : Cv cx nt E M E' M') (k : Cv cx nt E' M' E'' M'') : Cv cx nt E M E'' M'' := fun a w e hh he => let ⟨e', h1, h2⟩ := h a w e hh he; k a w e' h1 h2
theorem WPL.nilW (h : W cx fr Q .normal E M) : WPL P cx fr ops [] E M Q := fun a w e hh he => h a w e _ hh he rfl
theorem WP.skipW (h : W cx fr Q .normal E M) : WP P cx fr .skip E M Q := fun a w e hh he => wpIn_skip (h a w e _ hh he rfl)
theorem WP.exitW {id : Nat} (h : W cx fr Q (.exit id) E M) : WP P cx fr (.exit id) E M Q := fun a w e hh he => wpIn_exit (h a w e _ hh he rfl)
theorem WP.retW (h : W cx fr Q .ret E M) : WP P cx fr .ret E M Q := fun a w e hh he => wpIn_ret (h a w e _ hh he rfl)
theorem WPD.doneW {st X : List Nat} {fuel : Nat} {listed : Array Bool} (hb : readyNo ops listed = true) (h : W cx fr Q .normal E M) : WPD P cx fr ops st X fuel listed E M Q := by
  intro a w e hh he
  have hready : Region.ready .any ops listed = [] := by simpa [readyNo, List.isEmpty_iff] using hb
  have hs : Sat cx fr Q .normal a w := h a w e _ hh he rfl
  cases fuel with
  | zero => exact ⟨hready, hs⟩
  | succ n => exact ⟨fun _ => hs, by rw [hready]; simp⟩
theorem WPD.split {st X : List Nat} {fuel : Nat} {listed : Array Bool} {t : Nat} {b : Bool} (hv : E.v t = .lit (.bool b)) (h1 : b = true → WPD P cx fr ops st X fuel listed E M Q) (h2 : b = false → WPD P cx fr ops st X fuel listed E M Q) : WPD P cx fr ops st X fuel listed E M Q := by
  cases b with
  | true => exact h1 rfl
  | false => exact h2 rfl
theorem WPD.sub {st X : List Nat} {fuel : Nat} {listed : Array Bool} (X' : List Nat) (hs : X'.all X.contains = true) (k : WPD P cx fr ops st X' fuel listed E M Q) : WPD P cx fr ops st X fuel listed E M Q :=
  fun a w e hh he => wpAnyF_mono (fun _ h => h) (fun _ h => h.nil_of) (fun _ h => h) (fun i hi => List.all_eq_true.1 hs i (by simpa using hi)) _ _ _ _ (k a w e hh he)
theorem WP.regionD' (n : Nat) (st X : List Nat) {id : Nat} (hm : P.follows .mixedOrders = true) (hn : ops.size = n) (h : WPD P cx fr ops st X n (Array.replicate n false) E M Q) : WP P cx fr (.region id ops true) E M Q := by
  subst hn; exact WP.regionD st X hm h
/-- A cut. -/
theorem WP.monoW (h : WP P cx fr c E M Q) (hq : ∀ x E M, Q x E M → W cx fr Q' x E M) : WP P cx fr c E M Q' :=
  fun a w e hh he => Go.wpIn_mono (h a w e hh he) fun X a' w' k => by
    obtain ⟨y, E', M', e', q, h1, h2, h3⟩ := k
    exact hq y E' M' q a' w' e' X h1 h2 h3
theorem Cv.weak {np : Nat} (l : List Nat) (hnp : cx.np = np) (hM : LeM l np M M') (hE : LeE l M'.n E E') : Cv cx nt E M E' M' :=
  fun a w e hh he => ⟨_, hh.re hnp hM, he.re hM hE⟩
/-- A state told otherwise, its naming going on. -/
def CvL (cx : Cx) (nt : Nat) (E : Env) (M : Mem) (E' : Env) (M' : Mem) : Prop :=
  ∀ a w e, Hold cx e M w → Emb nt e M E a → ∃ e', Hold cx e' M' w ∧ Emb nt e' M' E' a ∧ e.le e'
theorem CvL.cv (h : CvL cx nt E M E' M') : Cv cx nt E M E' M' := fun a w e hh he => let ⟨e', h1, h2, _⟩ := h a w e hh he; ⟨e', h1, h2⟩
theorem WPD.cvL {st X : List Nat} {fuel : Nat} {listed : Array Bool} (k : CvL cx fr.nt E M E' M') (hst : (st.all fun i => Nat.blt i M.n) = true) (h : WPD P cx fr ops st X fuel listed E' M' Q) : WPD P cx fr ops st X fuel listed E M Q := fun a w e hh he => by
  obtain ⟨e', h1, h2, hle⟩ := k a w e hh he
  have key : ∀ (l : List Nat), (l.all fun i => Nat.blt i M.n) = true → ∀ w1, Agree e' l w w1 → Agree e l w w1 := fun l hl w1 hw => ⟨fun b o hb => hw.ro b o (hle.m b o hb), fun b o hb => hw.bro b o (hle.bm b o hb), fun i hi hv => by
    have hin : i < e.n := by rw [hh.n]; simpa using List.all_eq_true.1 hl i hi
    have := hw.own i hi ((hle.vir i hin).trans hv)
    rw [hle.own i hin] at this
    exact this⟩
  exact wpAnyF_mono (key [] rfl) (fun w1 h => (key st hst w1 h).nil_of) (key st hst) (fun _ h => h) _ _ _ _ (h a w e' h1 h2)
theorem CvL.vir {α : Type} (ct : TypeId) (R : Rd α) {N : Nat} (hN : M.n = N) (tt : Nat) (hv : E.v tt = .lit (.slice none 0 0)) : CvL cx nt E M (E.upd tt (.whole N)) (M.push (.row ct R [])) := by
  intro a w e hh he
  refine ⟨e.bump 0 0 0 true, hh.bindVir, ?_, e.bump_le 0 0 0 true⟩
  have h1 : Emb nt (e.bump 0 0 0 true) (M.push (.row ct R [])) E a := he.mono (e.bump_le 0 0 0 true) (fun b => e.bump_mem 0 0 0 true b)
  refine ⟨h1.sz, fun u => ?_, h1.d, h1.o⟩
  rw [Env.upd_v]
  split
  · rename_i hu
    subst hu
    have := h1.v u
    rw [hv] at this
    simp only [Val] at this
    rw [this]
    simp only [Val, Nv.bump, ← hN, ← hh.n, if_true]
    exact ⟨Nat.lt_succ_self _, Nat.le_refl _, trivial, trivial⟩
  · exact h1.v u
theorem Cv.vir {α : Type} (ct : TypeId) (R : Rd α) {N : Nat} (hN : M.n = N) (tt : Nat) (hv : E.v tt = .lit (.slice none 0 0)) : Cv cx nt E M (E.upd tt (.whole N)) (M.push (.row ct R [])) := CvL.cv (CvL.vir ct R hN tt hv)
theorem Cv.frzRow {i np : Nat} {t : TypeId} {α : Type} {R : Rd α} {l : List α} (hi : Nat.blt i M.n = true) (hc : M.at_ i = .row t R l) (hnp : cx.np = np) (hni : Nat.ble np i = true) (hd : (E.d.all fun j => !Nat.beq j i) = true) :
    Cv cx nt E M (E.frz i (.ro (Rd.slice R) false l) .any) (M.frz i (.ro (Rd.slice R) false l) .any) :=
  fun a w e hh he => let ⟨e', h1, h2, _⟩ := freeze_row hh he hi hc hnp hni hd; ⟨e', h1, h2⟩
theorem CvL.frzRow {i np : Nat} {t : TypeId} {α : Type} {R : Rd α} {l : List α} (hi : Nat.blt i M.n = true) (hc : M.at_ i = .row t R l) (hnp : cx.np = np) (hni : Nat.ble np i = true) (hd : (E.d.all fun j => !Nat.beq j i) = true) :
    CvL cx nt E M (E.frz i (.ro (Rd.slice R) false l) .any) (M.frz i (.ro (Rd.slice R) false l) .any) :=
  fun a w e hh he => freeze_row hh he hi hc hnp hni hd
/-- Nil, as a slice that is only read. -/
theorem nil_ro {e : Nv} {α : Type} (R : Rd α) (b : Bool) {v : Value} (h : Val e (.lit (.slice none 0 0)) v) : Val e (.ro (Rd.slice R) b []) v := by
  simp only [Val] at h ⊢
  exact .inl ⟨rfl, none, 0, by rw [h]⟩
theorem Cv.nilRo {α : Type} (R : Rd α) (b : Bool) (tt : Nat) (hv : E.v tt = .lit (.slice none 0 0)) : Cv cx nt E M (E.upd tt (.ro (Rd.slice R) b [])) M := by
  intro a w e hh he
  refine ⟨e, hh, he.sz, fun u => ?_, he.d, he.o⟩
  rw [Env.upd_v]
  split
  · rename_i hu
    subst hu
    have := he.v u
    rw [hv] at this
    exact nil_ro R b this
  · exact he.v u
/-- A value told otherwise. -/
theorem q_nm {op : Op} {ty : TypeId} {st : List Nat} {v v' : AVal} (h : Quiet P op ty E M st v) (hv : v = v') : Quiet P op ty E M st v' := hv ▸ h
theorem nm_int {k : IntKind} {a b : Int} (h : some a = some b) : AVal.lit (.int k a) = AVal.lit (.int k b) := by cases h; rfl
theorem nm_bool {a b : Bool} (h : some a = some b) : AVal.lit (.bool a) = AVal.lit (.bool b) := by cases h; rfl
theorem nf {α : Type} {x : Option α} {r : α} {p : Prop} (e : x = none) (h : x = some r) : p := by rw [e] at h; cases h
end
/-- A truth value that is known. -/
theorem lb {a b : Bool} (h : a = b) : AVal.lit (.bool a) = AVal.lit (.bool b) := by rw [h]
theorem ixs {α : Type} {l : List α} {i : Int} {d : α} (h : ix l i = some d) : (ix l i).isSome = true := by rw [h]; rfl
theorem ixj {α : Type} {l : List α} {i : Int} {d : α} (h : ix l i = some d) : l[i.toNat]? = some d := (ix_some h).2.1
theorem ixl {α : Type} {l : List α} {i : Int} {d : α} (h : ix l i = some d) : decide (i.toNat < l.length) = true := by
  have h1 := ix_some h
  exact decide_eq_true (by omega)
theorem Joins.nil {α : Type} {R : Rd α} {b : Bool} : Joins (Rd.slice R) b [] [.lit (.slice none 0 0)] := fun e cs hk ho => by
  simp only [Vals, Val] at hk
  obtain ⟨v, ws, rfl, rfl, rfl⟩ := hk
  exact .inl ⟨rfl, none, 0, rfl⟩
/-- What a body must come to, its memory told anew. -/
def BodyR (az : List (Nat × Nat)) (rs : List ResultVar) (np : Nat) (Q : Out → Mem → Prop) (x : Ex) (E : Env) (M : Mem) : Prop :=
  match x with
  | .normal | .ret => marksOk M E.d ∧ ∃ vs, resAll az E (dropMarks M E.d) rs = some vs ∧ ∃ (l : List Nat) (v : AVal) (M2 : Mem), LeM l np (dropMarks M E.d) M2 ∧ resOut vs = v.ren (sub l) ∧ (v.under M2.n && E.b.isEmpty) = true ∧ Q (.ret v) M2
  | .panic u => marksOk M E.d ∧ ∃ (l : List Nat) (v : AVal) (M2 : Mem), LeM l np (dropMarks M E.d) M2 ∧ u = v.ren (sub l) ∧ (v.under M2.n && E.b.isEmpty) = true ∧ Q (.pan v) M2
  | _ => False
theorem Spec.of_bodyR {az : List (Nat × Nat)} {P : Program} {f : FuncId} {fn : Func} {c : Code} {np nt : Nat} {args : List AVal} {M : Mem} {Q : Out → Mem → Prop} {rs : List ResultVar} (hf : P.funcs[f]? = some fn) (hb : fn.body = some c) (hr : fn.results.toList = rs) (hsc : ∀ t T, ResultVar.cell t T ∈ rs → CellOk P az T)
    (hnt : fn.ntmps = nt) (ha : Nat.ble args.length nt = true) (h : ∀ cx, cx.np = np → WP P cx ⟨nt, none, []⟩ c (argsEnv args) M (BodyR az rs np Q)) : Spec P f np args M Q := by
  have h1 : Spec P f np args M fun o M' => match o with
      | .ret u => ∃ (l : List Nat) (v : AVal) (M2 : Mem), LeM l np M' M2 ∧ u = v.ren (sub l) ∧ v.under M2.n = true ∧ Q (.ret v) M2
      | .pan u => ∃ (l : List Nat) (v : AVal) (M2 : Mem), LeM l np M' M2 ∧ u = v.ren (sub l) ∧ v.under M2.n = true ∧ Q (.pan v) M2 := by
    refine Spec.of_body hf hb hr hsc hnt ha fun cx hnp => (h cx hnp).mono fun x E M q => ?_
    cases x with
    | normal => obtain ⟨q1, vs, q2, l, v, M2, g1, g2, g3, g4⟩ := q; rw [Bool.and_eq_true] at g3; exact ⟨by simpa using g3.2, q1, vs, q2, l, v, M2, g1, g2, g3.1, g4⟩
    | ret => obtain ⟨q1, vs, q2, l, v, M2, g1, g2, g3, g4⟩ := q; rw [Bool.and_eq_true] at g3; exact ⟨by simpa using g3.2, q1, vs, q2, l, v, M2, g1, g2, g3.1, g4⟩
    | panic u => obtain ⟨q1, l, v, M2, g1, g2, g3, g4⟩ := q; rw [Bool.and_eq_true] at g3; exact ⟨by simpa using g3.2, q1, l, v, M2, g1, g2, g3.1, g4⟩
    | exit id => exact q
    | goto l => exact q
  intro cx e w vs k1 k2 k3
  refine (h1 cx e w vs k1 k2 k3).mono fun x w' ⟨o, M', e', q, g1, g2⟩ => ?_
  cases o with
  | ret u =>
    obtain ⟨l, v, M2, hM, rfl, hu, hq⟩ := q
    obtain ⟨y, rfl, hy⟩ := g2
    exact ⟨.ret v, M2, _, hq, g1.re k1.np hM, y, rfl, hy.re hu⟩
  | pan u =>
    obtain ⟨l, v, M2, hM, rfl, hu, hq⟩ := q
    obtain ⟨y, rfl, hy⟩ := g2
    exact ⟨.pan v, M2, _, hq, g1.re k1.np hM, y, rfl, hy.re hu⟩
theorem Scope.n {Q : Ex → Env → Mem → Prop} {E : Env} {M : Mem} (h : Q .normal E M) : (match Ex.normal with | .goto _ => False | _ => True) ∧ Q .normal E M := ⟨trivial, h⟩
theorem Scope.r {Q : Ex → Env → Mem → Prop} {E : Env} {M : Mem} (h : Q .ret E M) : (match Ex.ret with | .goto _ => False | _ => True) ∧ Q .ret E M := ⟨trivial, h⟩
theorem Scope.x {Q : Ex → Env → Mem → Prop} {E : Env} {M : Mem} {id : Nat} (h : Q (.exit id) E M) : (match Ex.exit id with | .goto _ => False | _ => True) ∧ Q (.exit id) E M := ⟨trivial, h⟩
section
variable {cx : Cx} {e : Nv} {M : Mem} {w : World} {E : Env} {nt : Nat}
/-- A mark that stands for nothing. -/
theorem Hold.bindBag (h : Hold cx e M w) : Hold cx (e.bump 0 0 0 true) (M.push .bag) w := by
  have h1 := h.bindVir (t := 0) (R := Rd.unit)
  have hat : ∀ i, ((M.push .bag).at_ i) = if i = M.n then .bag else (M.push (.row 0 Rd.unit [])).at_ i := by
    intro i; rw [Mem.push_at, Mem.push_at]; split <;> rfl
  have hatn : (M.push (.row 0 Rd.unit [])).at_ M.n = .row 0 Rd.unit [] := by rw [Mem.push_at, if_pos rfl]
  have hvn : (e.bump 0 0 0 true).vir M.n = true := by simp [Nv.bump, h.n]
  have hbn : (e.bump 0 0 0 true).bag M.n = [] := by simp [Nv.bump, h.n]
  have lv : ∀ i, ((M.push .bag).at_ i).live (e.bump 0 0 0 true) i → ((M.push (.row 0 Rd.unit [])).at_ i).live (e.bump 0 0 0 true) i := by
    intro i hl
    rw [hat] at hl
    split at hl
    · exact hl.elim
    · exact hl
  have mk : ∀ i, ((M.push .bag).at_ i).mark = true → i = M.n ∨ ((M.push (.row 0 Rd.unit [])).at_ i).mark = true := by
    intro i hm
    rw [hat] at hm
    split at hm
    · exact .inl (by assumption)
    · exact .inr hm
  refine ⟨h1.bm, h1.n, h1.size, h1.os, h1.tape, h1.output, h1.frame, h1.ro, h1.bro, h1.m0, h1.mnew, ?_, fun i hi hl => h1.live i hi (lv i hl), fun i j hi hj hli hlj => h1.dist i j hi hj (lv i hli) (lv j hlj), h1.np, h1.pin, ⟨?_, ?_, ?_, ?_⟩⟩
  · intro i hi
    rw [hat]
    split
    · rename_i hin; subst hin; exact hvn
    · exact h1.ch i hi
  · intro i hi hm
    rcases mk i hm with rfl | hm
    · rw [hbn]; exact List.nodup_nil
    · exact h1.bag.nodup i hi hm
  · intro i hi hm x hx
    rcases mk i hm with rfl | hm
    · rw [hbn] at hx; cases hx
    · exact h1.bag.at_ i hi hm x hx
  · intro i hi hm x hx j hj hlj
    rcases mk i hm with rfl | hm
    · rw [hbn] at hx; cases hx
    · exact h1.bag.own i hi hm x hx j hj (lv j hlj)
  · intro i j hi hj hmi hmj hij x hx
    rcases mk i hmi with rfl | hmi
    · rw [hbn] at hx; cases hx
    · rcases mk j hmj with rfl | hmj
      · rw [hbn]; simp
      · exact h1.bag.dist i j hi hj hmi hmj hij x hx
theorem Cv.nullMark {N : Nat} (hN : M.n = N) (hd : E.d = []) : Cv cx nt E M ⟨E.v, [N], E.o, E.b⟩ (M.push .bag) := by
  intro a w e hh he
  have h1 : Emb nt (e.bump 0 0 0 true) (M.push .bag) E a := he.mono (e.bump_le 0 0 0 true) (fun b => e.bump_mem 0 0 0 true b)
  refine ⟨_, hh.bindBag, h1.sz, h1.v, ?_, h1.o⟩
  have hd1 := h1.d
  rw [hd] at hd1
  obtain ⟨r, hr, hm⟩ := hd1
  have hr0 : r = [] := hm
  subst hr0
  refine ⟨[], hr, [], ?_, by simp [Nv.bump, hh.n, hN], rfl⟩
  have : markBlocks (e.bump 0 0 0 true) N = [] := by simp [markBlocks, Nv.bump, hh.n, hN]
  rw [this]
  rfl
end
/-- One name more, for a bag of marks. -/
def Nv.bumpBag (e : Nv) (bs : List Nat) : Nv := { e.bump 0 0 0 true with bag := fun k => if k = e.n then bs else e.bag k }
theorem Nv.bumpBag_le (e : Nv) (bs : List Nat) : e.le (e.bumpBag bs) :=
  ⟨Ro.le.refl _, Ro.le.refl _, Nat.le_succ _, (e.bump_le 0 0 0 true).own, (e.bump_le 0 0 0 true).caps, (e.bump_le 0 0 0 true).lens, (e.bump_le 0 0 0 true).vir, fun i hi => by simp [Nv.bumpBag, Nat.ne_of_lt hi]⟩
theorem Nv.bumpBag_mem (e : Nv) (bs : List Nat) (x : Bool) : Ro.le (e.mem x) ((e.bumpBag bs).mem x) := Ro.le.refl _
section
variable {cx : Cx} {e : Nv} {M : Mem} {w : World} {E : Env} {nt : Nat}
theorem Hold.bindBagL (h : Hold cx e M w) {bs : List Nat} (hn : bs.Nodup) (hb : ∀ b ∈ bs, w.heap[b]? = some (.deferred (some [])) ∧ Trash cx e M b) : Hold cx (e.bumpBag bs) (M.push .bag) w := by
  have hle := e.bumpBag_le bs
  have hat : ∀ i, i < e.n → (M.push .bag).at_ i = M.at_ i := fun i hi => by rw [Mem.push_at, if_neg (by rw [← h.n]; omega)]
  have hatn : (M.push .bag).at_ e.n = .bag := by rw [Mem.push_at, if_pos h.n]
  have split : ∀ i, i < (e.bumpBag bs).n → i = e.n ∨ i < e.n := fun i hi => by simp only [Nv.bumpBag, Nv.bump] at hi; omega
  have bn : (e.bumpBag bs).bag e.n = bs := by simp [Nv.bumpBag]
  have bo : ∀ i, i < e.n → (e.bumpBag bs).bag i = e.bag i := hle.bag
  have hdead : ¬ ((M.push .bag).at_ e.n).live (e.bumpBag bs) e.n := by rw [hatn]; exact fun h => h
  refine ⟨h.bm, by simp [Nv.bumpBag, Nv.bump, Mem.push, h.n], h.size, h.os, h.tape, h.output, h.frame, h.ro, h.bro, h.m0, h.mnew, ?_, ?_, ?_, Nat.le_succ_of_le h.np, ?_, ?_⟩
  · intro i hi
    rcases split i hi with rfl | hi'
    · rw [hatn]; simp [Chunk.ok, Nv.bumpBag, Nv.bump]
    · rw [hat i hi']
      exact Chunk.ok_mono hle (fun x => e.bumpBag_mem bs x) hi' (h.ch i hi')
  · intro i hi hl
    rcases split i hi with rfl | hi'
    · exact absurd hl hdead
    · rw [hat i hi'] at hl
      have := h.live i hi' ((live_congr (hle.vir i hi')).1 hl)
      rw [hle.own i hi']
      exact this
  · intro i j hi hj hli hlj hij
    rcases split i hi with rfl | hi'
    · exact absurd hli hdead
    rcases split j hj with rfl | hj'
    · exact absurd hlj hdead
    rw [hat i hi'] at hli
    rw [hat j hj'] at hlj
    rw [hle.own i hi', hle.own j hj'] at hij
    exact h.dist i j hi' hj' ((live_congr (hle.vir i hi')).1 hli) ((live_congr (hle.vir j hj')).1 hlj) hij
  · intro i hi
    have hi' : i < e.n := by have := h.np; omega
    rw [hle.own i hi', hle.caps i hi', hle.lens i hi', hle.vir i hi']
    exact h.pin i hi
  · refine ⟨fun i hi hmk => ?_, fun i hi hmk x hx => ?_, fun i hi hmk x hx j hj hlj => ?_, fun i j hi hj hmi hmj hij x hx => ?_⟩
    · rcases split i hi with rfl | hi'
      · rw [bn]; exact hn
      · rw [hat i hi'] at hmk; rw [bo i hi']; exact h.bag.nodup i hi' hmk
    · rcases split i hi with rfl | hi'
      · rw [bn] at hx
        obtain ⟨h1, h2⟩ := hb x hx
        exact ⟨h1, h2.m, h2.bm, h2.F⟩
      · rw [hat i hi'] at hmk; rw [bo i hi'] at hx
        exact h.bag.at_ i hi' hmk x hx
    · rcases split j hj with rfl | hj'
      · exact absurd hlj hdead
      · rw [hat j hj'] at hlj
        rw [hle.own j hj']
        have hlj' := (live_congr (hle.vir j hj')).1 hlj
        rcases split i hi with rfl | hi'
        · rw [bn] at hx; exact (hb x hx).2.own j hj' hlj'
        · rw [hat i hi'] at hmk; rw [bo i hi'] at hx
          exact h.bag.own i hi' hmk x hx j hj' hlj'
    · rcases split i hi with rfl | hi'
      · rw [bn] at hx
        rcases split j hj with rfl | hj'
        · exact absurd rfl hij
        · rw [hat j hj'] at hmj; rw [bo j hj']
          exact (hb x hx).2.bag j hj' hmj
      · rw [hat i hi'] at hmi; rw [bo i hi'] at hx
        rcases split j hj with rfl | hj'
        · rw [bn]
          exact fun hxb => (hb x hxb).2.bag i hi' hmi hx
        · rw [hat j hj'] at hmj; rw [bo j hj']
          exact h.bag.dist i j hi' hj' hmi hmj hij x hx
/-- A finished mark and a bag, as one bag. -/
theorem Cv.absorb {N i j : Nat} {l : List Nat} (hN : M.n = N) (hd : E.d = j :: i :: l) (hj : M.at_ j = .obj (.deferred (some []))) (hi : M.at_ i = .bag) : Cv cx nt E M ⟨E.v, N :: l, E.o, E.b⟩ (((M.set j .gone).set i .gone).push .bag) := by
  intro a w e hh he
  have hdm := he.d
  rw [hd] at hdm
  obtain ⟨r0, hr0, r1, hr1, hjn, i1, hi1, hin, hr2⟩ := hdm
  have hij : j ≠ i := by rintro rfl; rw [hj] at hi; cases hi
  have hjm : (M.at_ j).mark = true := by rw [hj]; rfl
  have him : (M.at_ i).mark = true := by rw [hi]; rfl
  have hjl : (M.at_ j).live e j := by rw [hj]; trivial
  have hcj := hh.ch j hjn
  rw [hj] at hcj
  obtain ⟨hvj, hbj⟩ := hcj
  have hci := hh.ch i hin
  rw [hi] at hci
  have hvi : e.vir i = true := hci
  have hlj := hh.live j hjn hjl
  let bs := e.own j :: (e.bag j ++ e.bag i)
  have hh2 : Hold cx e ((M.set j .gone).set i .gone) w := (hh.drop j).drop i
  have at2 : ∀ k, ((M.set j .gone).set i .gone).at_ k = if k = i then .gone else if k = j then .gone else M.at_ k := by
    intro k; rw [Mem.set_at]; split
    · rfl
    · rw [Mem.set_at]
  have lv : ∀ k, (((M.set j .gone).set i .gone).at_ k).live e k → k ≠ j ∧ (M.at_ k).live e k := by
    intro k hk
    rw [at2] at hk
    split at hk
    · exact hk.elim
    · split at hk
      · exact hk.elim
      · exact ⟨by assumption, hk⟩
  have mk : ∀ k, (((M.set j .gone).set i .gone).at_ k).mark = true → k ≠ j ∧ k ≠ i ∧ (M.at_ k).mark = true := by
    intro k hk
    rw [at2] at hk
    split at hk
    · cases hk
    · split at hk
      · cases hk
      · exact ⟨by assumption, by assumption, hk⟩
  have hnd : bs.Nodup := by
    refine List.nodup_cons.2 ⟨?_, List.nodup_append.2 ⟨hh.bag.nodup j hjn hjm, hh.bag.nodup i hin him, ?_⟩⟩
    · intro hm
      rcases List.mem_append.1 hm with hm | hm
      · exact hh.bag.own j hjn hjm _ hm j hjn hjl rfl
      · exact hh.bag.own i hin him _ hm j hjn hjl rfl
    · intro x hx y hy hxy
      subst hxy
      exact hh.bag.dist j i hjn hin hjm him hij x hx hy
  have htr : ∀ b ∈ bs, w.heap[b]? = some (.deferred (some [])) ∧ Trash cx e ((M.set j .gone).set i .gone) b := by
    intro b hb
    rcases List.mem_cons.1 hb with rfl | hb
    · refine ⟨hbj, hlj.2.1, hlj.2.2.1, hlj.2.2.2, fun k hk hl => ?_, fun k hk hm hx => ?_⟩
      · obtain ⟨h1, h2⟩ := lv k hl
        exact fun he => h1 (hh.dist k j hk hjn h2 hjl he)
      · exact hh.bag.own k hk (mk k hm).2.2 _ hx j hjn hjl rfl
    · have key : ∀ q, q < e.n → (M.at_ q).mark = true → (q = j ∨ q = i) → b ∈ e.bag q → w.heap[b]? = some (.deferred (some [])) ∧ Trash cx e ((M.set j .gone).set i .gone) b := by
        intro q hq hqm hqji hbq
        obtain ⟨g1, g2, g3, g4⟩ := hh.bag.at_ q hq hqm b hbq
        refine ⟨g1, g2, g3, g4, fun k hk hl => hh.bag.own q hq hqm b hbq k hk (lv k hl).2, fun k hk hm => ?_⟩
        obtain ⟨m1, m2, m3⟩ := mk k hm
        refine hh.bag.dist q k hq hk hqm m3 ?_ b hbq
        rcases hqji with rfl | rfl
        · exact fun h => m1 h.symm
        · exact fun h => m2 h.symm
      rcases List.mem_append.1 hb with hb | hb
      · exact key j hjn hjm (.inl rfl) hb
      · exact key i hin him (.inr rfl) hb
  have hle := e.bumpBag_le bs
  have h1 : Emb nt (e.bumpBag bs) (((M.set j .gone).set i .gone).push .bag) E a := he.mono hle (fun b => e.bumpBag_mem bs b)
  have hNe : N = e.n := by rw [← hN, hh.n]
  refine ⟨_, hh2.bindBagL hnd htr, h1.sz, h1.v, ?_, h1.o⟩
  refine ⟨r0, hr0, i1, ?_, by rw [hNe]; simp [Nv.bumpBag, Nv.bump], hr2.mono hle⟩
  have e1 : markBlocks (e.bumpBag bs) N = bs := by
    subst hNe; simp [markBlocks, Nv.bumpBag, Nv.bump]
  have e2 : markBlocks e j = e.own j :: e.bag j := by simp [markBlocks, hvj]
  have e3 : markBlocks e i = e.bag i := by simp [markBlocks, hvi]
  rw [hr1, hi1, e1, e2, e3]
  simp [bs]
end
end Go.Q
namespace Go.Q
open Go
set_option linter.unusedVariables false
set_option linter.unusedSimpArgs false
end Go.Q
namespace Go.Q
open Go
set_option linter.unusedVariables false
set_option linter.unusedSimpArgs false
def heapRo (W : World) : Ro := fun b => W.heap[b]?
def nvAll (W : World) : Nv := ⟨heapRo W, fun _ => none, fun _ => 0, fun _ => 0, fun _ => 0, fun _ => false, 0, fun _ => []⟩
theorem Spec.law {P : Program} {f : FuncId} {args : List AVal} {x : Value} (h : Spec P f 0 args Mem.nil fun o M => o = .ret (.lit x) ∧ M = Mem.nil) {W : World} {vs : List Value} (hv : Vals (nvAll W) args vs)
    (htb : ∀ g l, tabs g = some l → ∃ c t z, heapRo W g = some (.cells c t z) ∧ c.toList.take l.length = l := by exact tabs_none) :
    Calls P f vs.toArray W fun e W' => e = .returned x ∧ RowKit.Below W.heap.size W W' := by
  have hent : Entry ⟨W, fun _ => False, heapRo W, fun _ => none, 0, nvAll W, htb⟩ 0 (nvAll W) Mem.nil W :=
    ⟨rfl, rfl, rfl, rfl, fun b => ⟨fun h => h.elim, fun ⟨i, hi, _⟩ => absurd hi (Nat.not_lt_zero _)⟩⟩
  have hh : Hold ⟨W, fun _ => False, heapRo W, fun _ => none, 0, nvAll W, htb⟩ (nvAll W) Mem.nil W :=
    ⟨rfl, rfl, Nat.le_refl _, rfl, rfl, rfl, fun _ _ _ => rfl, fun _ _ h => h, fun _ _ h => (by cases h), Ro.le.refl _, fun _ _ h => .inl h, fun i hi => absurd hi (Nat.not_lt_zero _), fun i hi => absurd hi (Nat.not_lt_zero _),
     fun i j hi => absurd hi (Nat.not_lt_zero _), Nat.le_refl _, fun i hi => absurd hi (Nat.not_lt_zero _),
     ⟨fun i hi => absurd hi (Nat.not_lt_zero _), fun i hi => absurd hi (Nat.not_lt_zero _), fun i hi => absurd hi (Nat.not_lt_zero _), fun i j hi => absurd hi (Nat.not_lt_zero _)⟩⟩
  refine Calls.mono (CallsIn.calls (h _ _ W vs hent hh hv) (fence_room _)) ?_
  rintro e W' ⟨o, M', e', ⟨rfl, rfl⟩, k1, u, rfl, k2⟩
  simp only [Val] at k2
  subst k2
  exact ⟨rfl, k1.os, k1.tape, k1.output, k1.size, fun k hk => k1.frame k hk (fun h => h)⟩
theorem add_at' {a : Addr} {b off : Nat} : (a.add 0 = ⟨b, off, none⟩) = (a = ⟨b, off, none⟩) := by
  obtain ⟨b', o', sp⟩ := a
  cases sp <;> simp [Addr.add]
/-- A measure of readings. -/
structure Meas (H : Type) where
  u : DataW H → Nat
  ua : List (DataW H) → Nat
  nil : 1 ≤ u .nil
  lit : ∀ l, 1 ≤ u (.lit l)
  str : ∀ b, b.length + 1 ≤ u (.lit (.string b))
  ptr : ∀ d, u d + 1 ≤ u (.ptr d)
  slice : ∀ e s, ua e + 1 ≤ u (.slice e s)
  agg : ∀ l, ua l + 1 ≤ u (.agg l)
  cons : ∀ d r, u d + ua r ≤ ua (d :: r)
/-- A type whose readings are data of a reader: right ones, of a bulk. -/
def Opn (P : Program) (t : TypeId) {α : Type} (R : Rd α) (wf : α → Prop) (ms : α → Nat) : Prop :=
  R.sz = P.cellsOf t ∧ ∀ (H : Type) (enc : TypeId × Value → H) (W : World) (fuel : Nat) (cs : List Value) (x : DataW H × List MemPlace),
    DataW.trod enc P W 0 (fun _ => true) true fuel t cs = some x → ∃ d, R.ok (heapRo W) d cs ∧ wf d ∧ ∀ μ : Meas H, ms d ≤ μ.u x.1
section
variable {P : Program} {t e : TypeId}
theorem Opn.int {k : IntKind} (ht : P.underlying t = some (.int k)) (hc : P.cellsOf t = 1) : Opn P t (Rd.int k) (fun n => (Lit.int k n).wf = true) (fun _ => 1) :=
  ⟨hc.symm, fun H enc W fuel cs x h => by
    obtain ⟨n, rfl, rfl, hw⟩ := DataW.trod_int ht h
    exact ⟨n, rfl, hw, fun μ => μ.lit _⟩⟩
theorem Opn.bool (ht : P.underlying t = some .bool) (hc : P.cellsOf t = 1) : Opn P t Rd.bool (fun _ => True) (fun _ => 1) :=
  ⟨hc.symm, fun H enc W fuel cs x h => by
    obtain ⟨n, rfl, rfl⟩ := DataW.trod_bool ht h
    exact ⟨n, rfl, trivial, fun μ => μ.lit _⟩⟩
theorem Opn.str (ht : P.underlying t = some .string) (hc : P.cellsOf t = 1) : Opn P t Rd.str (fun s => s.size ≤ maxLen) (fun s => s.size + 1) :=
  ⟨hc.symm, fun H enc W fuel cs x h => by
    obtain ⟨s, rfl, rfl, hs⟩ := DataW.trod_string ht h
    refine ⟨s, rfl, hs, fun μ => ?_⟩
    have := μ.str s.data.toList
    rw [Array.length_toList] at this
    exact this⟩
def msum {α : Type} (ms : α → Nat) : List α → Nat
  | [] => 0
  | x :: l => ms x + msum ms l
theorem rows_mk {H : Type} {α : Type} {R : Rd α} {m : Ro} {wf : α → Prop} {ms : α → Nat} : ∀ (xs : List (DataW H × List MemPlace)) (cs : List Value), (∀ i x, xs[i]? = some x → ∃ d, R.ok m d ((cs.drop (i * R.sz)).take R.sz) ∧ wf d ∧ ∀ μ : Meas H, ms d ≤ μ.u x.1) →
    ∃ l : List α, l.length = xs.length ∧ rows R m l cs ∧ (∀ x ∈ l, wf x) ∧ ∀ μ : Meas H, msum ms l ≤ μ.ua (xs.map (·.1))
  | [], _, _ => ⟨[], rfl, trivial, by simp, fun μ => Nat.zero_le _⟩
  | x :: xs, cs, h => by
    obtain ⟨d, h1, h2, h0⟩ := h 0 x rfl
    obtain ⟨l, h3, h4, h5, h6⟩ := rows_mk xs (cs.drop R.sz) (fun i y hi => by
      obtain ⟨d, h1, h2, h0⟩ := h (i + 1) y (by simpa using hi)
      refine ⟨d, ?_, h2, h0⟩
      rw [List.drop_drop]
      rw [Nat.add_mul, Nat.one_mul, Nat.add_comm] at h1
      exact h1)
    refine ⟨d :: l, by simp [h3], ⟨by simpa using h1, h4⟩, ?_, fun μ => ?_⟩
    · intro x hx
      rcases List.mem_cons.1 hx with rfl | hx
      · exact h2
      · exact h5 x hx
    · exact Nat.le_trans (Nat.add_le_add (h0 μ) (h6 μ)) (μ.cons _ _)
theorem cells?_block {W : World} {a : Addr} {n : Nat} {cs : List Value} (h : W.cells? 0 a n = some cs) (hn : 0 < n) : ∃ b off c tt fr, a = ⟨b, off, none⟩ ∧ W.heap[b]? = some (.cells c tt fr) ∧ cs = (c.toList.drop off).take n := by
  obtain ⟨_, hlen, hget⟩ := World.cells?_some h
  obtain ⟨b, off, spot⟩ := a
  have h0 := hget 0 hn
  rw [List.getElem?_eq_getElem (by omega)] at h0
  have hspot : spot = none := by simpa [Addr.add] using World.cell?_spot h0
  subst hspot
  rw [add_at] at h0
  cases hb : W.heap[b]? with
  | none => simp [World.cell?, hb] at h0
  | some o =>
    cases o with
    | cells c tt fr =>
      refine ⟨b, off, c, tt, fr, rfl, hb, ?_⟩
      apply List.ext_getElem?
      intro i
      by_cases hi : i < n
      · rw [← hget i hi, add_at, cell_of hb, List.getElem?_take_of_lt hi, List.getElem?_drop]; simp
      · rw [List.getElem?_eq_none (by omega), List.getElem?_eq_none (by simp; omega)]
    | _ => simp [World.cell?, hb] at h0
theorem Opn.slice {α : Type} {R : Rd α} {wf : α → Prop} {ms : α → Nat} (ht : P.underlying t = some (.slice e)) (hc : P.cellsOf t = 1) (he : Opn P e R wf ms) (hpos : Nat.blt 0 R.sz = true) : Opn P t (Rd.slice R) (fun l => l.length ≤ maxLen ∧ ∀ x ∈ l, wf x) (fun l => msum ms l + 1) :=
  ⟨hc.symm, fun H enc W fuel cs x h => by
    have hpos' : 0 < R.sz := by simpa using hpos
    rcases DataW.trod_slice ht h with ⟨rfl, rfl⟩ | ⟨a, len, cap, elems, rest, n, _, rfl, rfl, _, hl, hm, hlen, hel, _⟩
    · exact ⟨[], .inl ⟨rfl, none, 0, rfl⟩, ⟨Nat.zero_le _, by simp⟩, fun μ => μ.nil⟩
    · have each : ∀ i x, elems[i]? = some x → ∃ cs', W.cells? 0 (a.add (i * R.sz)) R.sz = some cs' ∧ ∃ d, R.ok (heapRo W) d cs' ∧ wf d ∧ ∀ μ : Meas H, ms d ≤ μ.u x.1 := by
        intro i x hi
        have hil : i < len := by rw [← hlen]; exact (List.getElem?_eq_some_iff.1 hi).1
        have h1 := hel i hil
        rw [← he.1, hi, Option.bind_eq_some_iff] at h1
        obtain ⟨cs', h2, h3⟩ := h1
        exact ⟨cs', h2, he.2 H enc W n cs' _ h3⟩
      rcases Nat.eq_zero_or_pos len with h0 | h0
      · subst h0
        refine ⟨[], .inl ⟨rfl, some a, cap, rfl⟩, ⟨Nat.zero_le _, by simp⟩, fun μ => ?_⟩
        have := μ.slice (elems.map (·.1)) (rest.map (·.1))
        simp only [msum]; omega
      · obtain ⟨cs0, h2, _⟩ := each 0 elems[0] (List.getElem?_eq_getElem (by omega))
        rw [Nat.zero_mul] at h2
        obtain ⟨b, off, c, tt, fr, ha, hb, _⟩ := cells?_block h2 hpos'
        rw [add_at'] at ha
        subst ha
        obtain ⟨l, k1, k2, k3, k4⟩ := rows_mk (R := R) (m := heapRo W) (wf := wf) (ms := ms) elems (c.toList.drop off) (fun i x hi => by
          obtain ⟨cs', h2, d, h3, h4⟩ := each i x hi
          rw [add_at] at h2
          obtain ⟨b', off', c', tt', fr', ha', hb', hcs⟩ := cells?_block h2 hpos'
          simp only [Addr.mk.injEq, and_true] at ha'
          obtain ⟨rfl, rfl⟩ := ha'
          rw [hb] at hb'
          cases hb'
          refine ⟨d, ?_, h4⟩
          rw [List.drop_drop, ← hcs]
          exact h3)
        exact ⟨l, .inr ⟨b, off, c, tt, fr, cap, by rw [k1, hlen], by omega, hb, k2⟩, ⟨by omega, k3⟩, fun μ => Nat.le_trans (Nat.succ_le_succ (k4 μ)) (μ.slice _ _)⟩⟩
/-- The fields of a struct, from a place on. -/
def OpnP (P : Program) (l : List (Nat × TypeId)) (o : Nat) {α : Type} (R : Rd α) (wf : α → Prop) (ms : α → Nat) : Prop :=
  ∀ (H : Type) (enc : TypeId × Value → H) (W : World) (fuel : Nat) (cs : List Value) (xs : List (DataW H × List MemPlace)), xs.length = l.length → (∀ (i : Nat) (p : Nat × TypeId), l[i]? = some p → DataW.trod enc P W 0 (fun _ => true) true fuel p.2 ((cs.drop p.1).take (P.cellsOf p.2)) = xs[i]?) → cs.length = o + R.sz →
    ∃ d, R.ok (heapRo W) d (cs.drop o) ∧ wf d ∧ ∀ μ : Meas H, ms d ≤ μ.ua (xs.map (·.1))
theorem OpnP.nil {o : Nat} : OpnP P [] o Rd.unit (fun _ => True) (fun _ => 0) := fun H enc W fuel cs xs _ _ hl => ⟨(), by
  show cs.drop o = []
  exact List.drop_of_length_le (by simp [Rd.unit] at hl; omega), trivial, fun μ => Nat.zero_le _⟩
theorem OpnP.cons {o o' : Nat} {l : List (Nat × TypeId)} {α β : Type} {R : Rd α} {S : Rd β} {wf : α → Prop} {wf' : β → Prop} {ms : α → Nat} {ms' : β → Nat} (h : Opn P t R wf ms) (ho : o + R.sz = o') (k : OpnP P l o' S wf' ms') :
    OpnP P ((o, t) :: l) o (Rd.pair R S) (fun d => wf d.1 ∧ wf' d.2) (fun d => ms d.1 + ms' d.2) := fun H enc W fuel cs xs hx ha hl => by
  subst ho
  cases xs with
  | nil => simp at hx
  | cons x xs =>
    have hx1 := ha 0 (o, t) rfl
    obtain ⟨d, h1, h2, h5⟩ := h.2 H enc W fuel _ x hx1
    obtain ⟨d', h3, h4, h6⟩ := k H enc W fuel cs xs (by simpa using hx) (fun i p hp => ha (i + 1) p (by simpa using hp)) (by simp only [Rd.pair] at hl; omega)
    refine ⟨(d, d'), ⟨(cs.drop o).take R.sz, cs.drop (o + R.sz), ?_, by rw [h.1]; exact h1, h3⟩, ⟨h2, h4⟩, fun μ => Nat.le_trans (Nat.add_le_add (h5 μ) (h6 μ)) (μ.cons _ _)⟩
    rw [← List.drop_drop]
    exact (List.take_append_drop _ _).symm
theorem Opn.struct {α β : Type} {R : Rd α} {wf : α → Prop} {ms : α → Nat} {fs : Array Field} {l : List (Nat × TypeId)} {g : β → α} (mk : α → β) (hg : ∀ d, g (mk d) = d) (ht : P.underlying t = some (.struct fs)) (hl : fs.toList.map (fun f => (f.offset, f.type)) = l) (hc : R.sz = P.cellsOf t)
    (h : OpnP P l 0 R wf ms) : Opn P t (Rd.via R g) (fun s => wf (g s)) (fun s => ms (g s) + 1) :=
  ⟨hc, fun H enc W fuel cs x hx => by
    obtain ⟨xs, n, _, rfl, hlen, hxl, hf⟩ := DataW.trod_struct ht hx
    obtain ⟨d, h1, h2, h3⟩ := h H enc W n cs xs (by rw [hxl, ← hl]; simp) (fun i p hp => by
      rw [← hl, List.getElem?_map] at hp
      obtain ⟨f, hf', rfl⟩ := Option.map_eq_some_iff.1 hp
      exact hf i f (by simpa using hf')) (by rw [hlen, hc]; omega)
    refine ⟨mk d, ?_, by show wf (g (mk d)); rw [hg]; exact h2, fun μ => ?_⟩
    · show R.ok _ (g (mk d)) cs
      rw [hg]
      simpa using h1
    · show ms (g (mk d)) + 1 ≤ _
      rw [hg]
      exact Nat.le_trans (Nat.succ_le_succ (h3 μ)) (μ.agg _)⟩
end
/-- More rounds tell the same. -/
structure Le {α : Type} (x y : Option α) : Prop where
  h : ∀ r, x = some r → y = some r
theorem Le.rfl {α : Type} {x : Option α} : Le x x := ⟨fun _ h => h⟩
theorem Le.none {α : Type} {x y : Option α} (h : x = Option.none) : Le x y := ⟨fun r hr => by rw [h] at hr; cases hr⟩
theorem Le.bind {α β : Type} {x y : Option α} {f g : α → Option β} (h : Le x y) (k : ∀ a, Le (f a) (g a)) : Le (x.bind f) (y.bind g) := ⟨fun r hr => by
  obtain ⟨a, h1, h2⟩ := Option.bind_eq_some_iff.1 hr
  exact Option.bind_eq_some_iff.2 ⟨a, h.h a h1, (k a).h r h2⟩⟩
theorem Le.cond {α : Type} {b : Bool} {x x' y y' : Option α} (h : Le x x') (k : Le y y') : Le (bif b then x else y) (bif b then x' else y') := by
  cases b <;> assumption
end Go.Q
namespace Go.Q
open Go
set_option linter.unusedVariables false
set_option linter.unusedSimpArgs false
theorem wi {n : Int} (h1 : -9223372036854775808 ≤ n) (h2 : n ≤ 9223372036854775807) : IntKind.wrap .i64 n = n := by
  rw [IntKind.wrap_i64]; omega
theorem ix_nat {α : Type} {l : List α} {i : Nat} (h : i < l.length) : ix l (i : Int) = some l[i] := by
  simp [ix, h]
theorem dt {p : Prop} [Decidable p] (h : p) : decide p = true := decide_eq_true h
theorem df {p : Prop} [Decidable p] (h : ¬ p) : decide p = false := decide_eq_false h
end Go.Q
namespace Go.Q
open Go
set_option linter.unusedVariables false
set_option linter.unusedSimpArgs false
section
variable {P : Program} {ty : TypeId} {E : Env} {M : Mem} {α β : Type} {R : Rd α} {S : Rd β} {l : List α} {d : α} {d' : β} {i j n off : Nat} {t ct : TypeId} {x : Operand}
/-- A cell of an element of a row of our own. -/
theorem row_cell {cx : Cx} {e : Nv} {w w1 : World} (hh : Hold cx e M w) (hi : i < e.n) (hvir : e.vir i = false) (hc : M.at_ i = .row ct R l) (hd : l[j]? = some d) (hn : R.sz = n) (hp : PartIs R d off S d') (hz : S.sz = 1) (hw : Agree e [i] w w1) :
    ∃ u, w1.cell? ⟨e.own i, j * n + off, none⟩ = some u ∧ S.ok e.m d' [u] := by
  have hk := hh.ch i hi
  rw [hc] at hk
  obtain ⟨_, _, _, hr⟩ := hk
  rw [hvir] at hr
  simp only [Bool.false_eq_true, if_false] at hr
  obtain ⟨c, z, hb, _, hs, hrow⟩ := hr
  have hb1 := (hw.own i (by simp) hvir).trans hb
  have hg := hp _ _ (rows_get hrow hd)
  have hl := S.len hg
  rw [hz] at hl hg
  obtain ⟨u, hu⟩ := List.length_eq_one_iff.1 hl
  refine ⟨u, ?_, by rw [← hu]; exact hg⟩
  rw [cell_of hb1]
  have h0 := congrArg (·[0]?) hu
  simp only [List.getElem?_cons_zero] at h0
  rw [List.getElem?_take_of_lt (by decide), List.getElem?_drop, Nat.add_zero] at h0
  rw [List.getElem?_take] at h0
  split at h0
  · rw [List.getElem?_drop, hn] at h0
    simpa [Nat.add_comm] using h0
  · cases h0
theorem q_load_rowf {f : β → Value} {hf : ∀ x, (f x).oneCell' = true} (ht : Sc P t) (hx : E.ev x = .ptr i (j * n + off)) (hc : M.at_ i = .row ct R l) (hd : l[j]? = some d) (hn : R.sz = n) (hp : PartIs R d off (Rd.sc f hf) d') :
    Quiet P (.load t x) ty E M [i] (.lit (f d')) :=
  fun _ _ a w e hh he => by
    have hv := he.ev x; rw [hx] at hv; simp only [Val] at hv
    refine ⟨f d', by simp [Val], fun w1 hw => ?_⟩
    obtain ⟨u, h1, h2⟩ := row_cell hh hv.1 hv.2.1 hc hd hn hp rfl hw
    simp only [Rd.sc] at h2
    have : u = f d' := by simpa using h2
    subst this
    simp [exec1, execOp, hv.2.2, run_loadAt_sc ht h1]
theorem q_load_rowr (ht : Sc P t) (hx : E.ev x = .ptr i (j * n + off)) (hc : M.at_ i = .row ct R l) (hd : l[j]? = some d) (hn : R.sz = n) (hp : PartIs R d off S d') (hz : S.sz = 1) :
    Quiet P (.load t x) ty E M [i] (.ro S false d') :=
  fun _ _ a w e hh he => by
    have hv := he.ev x; rw [hx] at hv; simp only [Val] at hv
    obtain ⟨u, h1, h2⟩ := row_cell hh hv.1 hv.2.1 hc hd hn hp hz (Agree.of_hold hh [i])
    refine ⟨u, by simp only [Val, Nv.mem_false]; exact h2, fun w1 hw => ?_⟩
    have h3 : w1.cell? ⟨e.own i, j * n + off, none⟩ = some u := by
      rw [← h1]
      simp only [World.cell?, hw.own i (by simp) hv.2.1]
    simp [exec1, execOp, hv.2.2, run_loadAt_sc ht h3]
/-- An element of a row of our own, whole. -/
theorem q_load_rowag {l' : List AVal} (ht : Ag P t n) (hx : E.ev x = .ptr i (j * n)) (hc : M.at_ i = .row ct R l) (hd : l[j]? = some d) (hn : R.sz = n) (hs : Splits R false d l') :
    Quiet P (.load t x) ty E M [i] (.agg l') :=
  fun _ _ a w e hh he => by
    have hv := he.ev x; rw [hx] at hv; simp only [Val] at hv
    have hk := hh.ch i hv.1
    rw [hc] at hk
    obtain ⟨_, hlc, _, hr⟩ := hk
    rw [hv.2.1] at hr
    simp only [Bool.false_eq_true, if_false] at hr
    obtain ⟨c, z, hb, _, hsz, hrow⟩ := hr
    have hg := rows_get hrow hd
    have hl := R.len hg
    rw [hn] at hg hl
    refine ⟨.agg ((c.toList.drop (j * n)).take n).toArray, ?_, fun w1 hw => ?_⟩
    · simp only [Val]
      exact ⟨_, rfl, hs e _ (by rw [Nv.mem_false]; exact hg), R.one hg⟩
    have hb1 := (hw.own i (by simp) hv.2.1).trans hb
    rcases Nat.eq_zero_or_pos n with h0 | h0
    · subst h0
      have hld : (loadCells ⟨e.own i, j * 0, none⟩ 0).run P w1 = .ok #[] w1 := rfl
      simp [exec1, execOp, hv.2.2, Instr.loadAt, Instr.sureAddr, loadVar, ht.isAgg w1, ht.sz.run w1] at hld ⊢
      simp [hld]
    · have := run_loadAt_ag ht (o := j * n) hb1 (by simp at hl ⊢; omega)
      simp [exec1, execOp, hv.2.2, this]
end
end Go.Q
namespace Go.Q
open Go
set_option linter.unusedVariables false
set_option linter.unusedSimpArgs false
section
variable {P : Program} {ty : TypeId} {E : Env} {M : Mem}
/-- An array that is only read. -/
def Rd.array {α : Type} (n : Nat) (A : Rd α) (d0 : α) : Rd (List α) where
  sz := n * A.sz
  ok m l cs := cs.length = n * A.sz ∧ ∀ j, j < n → A.ok m (l.getD j d0) ((cs.drop (j * A.sz)).take A.sz)
  mono hm h := ⟨h.1, fun j hj => A.mono hm (h.2 j hj)⟩
  len h := h.1
  one := by
    rintro m d cs ⟨h1, h2⟩ v hv
    obtain ⟨k, hk, rfl⟩ := List.mem_iff_getElem.1 hv
    have hz : 0 < A.sz := by
      rcases Nat.eq_zero_or_pos A.sz with h | h
      · rw [h1, h] at hk; simp at hk
      · exact h
    have hkn : k / A.sz < n := Nat.div_lt_of_lt_mul (by rw [Nat.mul_comm, ← h1]; exact hk)
    refine A.one (h2 (k / A.sz) hkn) _ ?_
    have hkm := Nat.mod_lt k hz
    have e1 : k / A.sz * A.sz + k % A.sz = k := by rw [Nat.mul_comm]; exact Nat.div_add_mod k A.sz
    refine List.mem_iff_getElem?.2 ⟨k % A.sz, ?_⟩
    rw [List.getElem?_take_of_lt hkm, List.getElem?_drop, e1, List.getElem?_eq_getElem hk]
/-- A value put into an interface. -/
structure Conc (P : Program) (t : TypeId) : Prop where
  h : ∃ d, P.underlying t = some d ∧ (match d with | .interface _ => False | _ => True)
theorem q_mki {t : TypeId} {x : Operand} (h : Conc P t) : Quiet P (.makeInterface t x) ty E M [] (.ifc t (E.ev x)) :=
  fun _ _ a w e hh he => by
    obtain ⟨d, h1, h2⟩ := h.h
    refine ⟨.iface t (a.eval x), by simp only [Val]; exact ⟨_, rfl, he.ev x⟩, fun w1 _ => ?_⟩
    cases d <;> first | exact h2.elim | simp [exec1, execOp, Instr.makeInterface, run_underlying h1]
theorem q_cap_nil {t el : TypeId} {x : Operand} (h : P.underlying t = some (.slice el)) (hx : E.ev x = .lit (.slice none 0 0)) : Quiet P (.call { callee := .builtin .cap, args := #[x], argTypes := #[t] }) ty E M [] (.lit (.int .i64 0)) :=
  fun _ _ a w e hh he => ⟨.int .i64 0, by simp [Val], fun w1 _ => by
    simp [exec1, execOp, resolve, invoke, builtin, Builtin.cap_, ev_lit he hx, run_underlying h, goInt]⟩
theorem q_slice_nil {t el : TypeId} {n : Nat} {x y : Operand} {k : IntKind} (h : SlIs P t el n) (hx : E.ev x = .lit (.slice none 0 0)) (hy : E.ev y = .lit (.int k 0)) : Quiet P (.slice t x none (some y) none) ty E M [] (.lit (.slice none 0 0)) :=
  fun _ _ a w e hh he => ⟨.slice none 0 0, by simp [Val], fun w1 _ => by
    have := run_slice_sl h none 0 0 none (some (.int k 0)) 0 0 w1 rfl ⟨k, rfl⟩ (Nat.le_refl _) (Nat.le_refl _)
    simp [exec1, execOp, ev_lit he hx, ev_lit he hy, this]⟩
/-- A row of our own cut behind a place: its room stays. -/
theorem d_cut {α : Type} {R : Rd α} {l : List α} {t el ct : TypeId} {n i N : Nat} {x y : Operand} {k : IntKind} {j : Int} (h : SlIs P t el n) (hx : E.ev x = .whole i) (hc : M.at_ i = .row ct R l) (hy : E.ev y = .lit (.int k j)) (hb : decide (0 ≤ j ∧ j ≤ l.length) = true) (hN : M.n = N) :
    Does P (.slice t x none (some y) none) ty E M [i] (.whole N) ((M.set i .gone).push (.row ct R (l.take j.toNat))) :=
  fun cx nt a w e hh he => by
    obtain ⟨b0, b1⟩ := of_decide_eq_true hb
    have hv := he.ev x; rw [hx] at hv; simp only [Val] at hv
    have hk := hh.ch i hv.1
    rw [hc] at hk
    obtain ⟨g1, g2, g3, g4⟩ := hk
    have hv3 := hv.2.2
    have hll : (l.take j.toNat).length = j.toNat := by simp; omega
    have hdrop := hh.drop i
    cases hvir : e.vir i with
    | true =>
      rw [hvir] at hv3 g4
      simp only [if_true] at hv3 g4
      subst g4
      have hj0 : j = 0 := by simp at b1; omega
      subst hj0
      refine ⟨.slice none 0 0, w, e.bump 0 0 0 true, ?_, hdrop.bindVir, ⟨e.bump_le 0 0 0 true, fun b => e.bump_mem 0 0 0 true b⟩, ?_, fun _ _ _ => rfl, Nat.le_refl _⟩
      · have h0 : e.lens i = 0 := hv3.2
        rw [h0] at hv3
        have hcap : ∃ c, a.eval x = .slice none 0 c := ⟨0, by rw [hv3.1]⟩
        have := run_slice_sl h none 0 0 none (some (.int k 0)) 0 0 w rfl ⟨k, rfl⟩ (Nat.le_refl _) (Nat.le_refl _)
        simp [exec1, execOp, hv3.1, ev_lit he hy, this]
      · simp only [Val, Nv.bump, ← hN, ← hh.n, if_true]
        exact ⟨Nat.lt_succ_self _, Nat.le_refl _, trivial, trivial⟩
    | false =>
      rw [hvir] at hv3 g4
      simp only [Bool.false_eq_true, if_false] at hv3 g4
      obtain ⟨c, z, hbk, hz, hcs, hrow⟩ := g4
      have hlive : (M.at_ i).live e i := by rw [hc]; exact hvir
      have hli := hh.live i hv.1 hlive
      refine ⟨.slice (some ⟨e.own i, 0, none⟩) j.toNat (e.caps i), w, e.bump (e.own i) (e.caps i) j.toNat, ?_, ?_, ⟨e.bump_le _ _ _ false, fun b => e.bump_mem _ _ _ false b⟩, ?_, fun _ _ _ => rfl, Nat.le_refl _⟩
      · have := run_slice_sl h (some ⟨e.own i, 0, none⟩) (e.lens i) (e.caps i) none (some (.int k j)) 0 j.toNat w rfl ⟨k, by rw [Int.toNat_of_nonneg b0]⟩ (Nat.zero_le _) (by omega)
        simp [exec1, execOp, hv3, ev_lit he hy, this, add_at]
      · refine hdrop.bind rfl rfl rfl (Nat.le_refl _) hli.1 (fun _ _ _ => rfl) (fun q hq hl hqi => ?_) (fun q hq hm hbq => ?_) hli.2.1 hli.2.2.1 hli.2.2.2 ?_
        · rw [Mem.set_at] at hl
          split at hl
          · exact hl.elim
          · rename_i hqi'; exact hqi' (hh.dist q i hq hv.1 hl hlive hqi)
        · rw [Mem.set_at] at hm
          split at hm
          · cases hm
          · exact hh.bag.own q hq hm _ hbq i hv.1 hlive rfl
        · refine ⟨by simp only [Nv.bump, if_true]; exact hll.symm, by simp only [Nv.bump, if_true, hll]; omega, by simpa [Nv.bump] using g3, ?_⟩
          simp only [Nv.bump, if_true, Bool.false_eq_true, if_false]
          exact ⟨c, z, hbk, hz, hcs, rows_take _ hrow⟩
      · simp only [Val, Nv.bump, ← hN, ← hh.n, if_true, Bool.false_eq_true, if_false]
        exact ⟨Nat.lt_succ_self _, by omega, trivial⟩
/-- So many made elements behind nil. -/
theorem d_appendMakeNil {α : Type} {R : Rd α} {t ti el : TypeId} {n bytes N : Nat} {kt : IntKind} {zs : List Value} {s x : Operand} {m : Int} {d : α} (h : LitIs P t el n zs) (hb : ∃ i, P.info? el = some i ∧ i.bytes = bytes) (hti : P.underlying ti = some (.int kt)) (hn : R.sz = n) (hn0 : Nat.blt 0 n = true) (hb0 : Nat.blt 0 bytes = true) (hzl : Nat.beq zs.length n = true)
    (hd : Joins R false d (zs.map AVal.lit)) (hs : E.ev s = .lit (.slice none 0 0)) (hx : E.ev x = .lit (.int .i64 m)) (hlim : decide (0 < m ∧ m * bytes ≤ 140737488355328) = true) (hN : M.n = N) :
    Does P (.call { callee := .builtin .append, args := #[s, x], argTypes := #[t, ti] }) ty E M [] (.whole N) (M.push (.row el R (List.replicate m.toNat d))) :=
  fun cx nt a w e hh he => by
    obtain ⟨i, z, h1, h2, h3, h4⟩ := h.h
    obtain ⟨i', hi', hby⟩ := hb
    rw [h1] at hi'; cases hi'
    have hn0' : 0 < n := by simpa using hn0
    have hb0' : 0 < bytes := by simpa using hb0
    have hzl' : zs.length = n := by simpa using hzl
    obtain ⟨l0, l1⟩ := of_decide_eq_true hlim
    have hmb : m ≤ 140737488355328 := by
      have : m * 1 ≤ m * bytes := Int.mul_le_mul_of_nonneg_left (by omega) (by omega)
      omega
    have hok := hd e zs (vals_lits e zs) h.one
    rw [Nv.mem_false] at hok
    have hwrap : IntKind.i64.wrap m = m := by
      unfold IntKind.wrap
      simp [IntKind.signed, IntKind.bits]
      omega
    have hM : ((m.toNat : Nat) : Int) = m := Int.toNat_of_nonneg (by omega)
    have hnc : Builtin.nextslicecap m.toNat 0 = m.toNat := by
      unfold Builtin.nextslicecap; rw [if_pos (by omega)]
    have hcap := grownCap_ge w m.toNat 0 el
    have hcm := grownCap_le_maxLen w m.toNat 0 el (by simp only [maxLen]; omega)
    have hbn : m.toNat * bytes ≤ 140737488355328 := by
      have : ((m.toNat * bytes : Nat) : Int) = m * bytes := by rw [Int.natCast_mul, hM]
      omega
    have hrun : (Builtin.append_ #[t, ti] ty #[.slice none 0 0, .int .i64 m]).run P w = .ok (.slice (some ⟨w.heap.size, 0, none⟩) m.toNat (grownCap w m.toNat 0 el))
        (w.drew.alloc (.cells (Builtin.zeroCells z.cells m.toNat ++ Builtin.zeroCells z.cells (grownCap w m.toNat 0 el - m.toNat)) el)) := by
      have c1 : ¬ m < 0 := by omega
      have c2 : ¬ (281474976710656 : Int) < m * ((bytes : Nat) : Int) := by omega
      have c3 : ¬ m.toNat = 0 := by omega
      have c4 : ¬ (9223372036854775807 : Int) < ((m.toNat : Nat) : Int) := by omega
      have c5 : ¬ 281474976710656 < m.toNat * bytes := by omega
      have c6 : ¬ n = 0 := by omega
      have c9 : ¬ m ≤ 0 := by omega
      have c10 : ¬ (9223372036854775807 : Int) < max m 0 := by omega
      have c11 : ¬ m.toNat * n = 0 := by have := Nat.mul_pos (show 0 < m.toNat by omega) hn0'; omega
      have c7 : ¬ (9223372036854775807 : Int) < m := by omega
      have c8 : ¬ 9223372036854775807 < m.toNat := by omega
      simp [Builtin.append_, run_underlying h.t, run_underlying hti, sizeOf, typeInfo, zeroValue, h1, h2, h3, hby, asInt, asIntOf, hwrap, c9, c10, c11, c1, c2, c3, c4, c5, c6, c7, c8, hnc, Question.forced, Builtin.firstCells, newRow, grownCap]
    generalize hcc : grownCap w m.toNat 0 el = cap at hrun hcap hcm
    have hz0 : ∀ k, (Builtin.zeroCells z.cells k).toList = (List.replicate k zs).flatten := by
      intro k
      rw [Builtin.zeroCells, h4]
      have := made_list zs n hzl' hn0' k
      rw [List.size_toArray, hzl'] at *
      exact this
    have hfl : ∀ k, ((List.replicate k zs).flatten).length = k * n := by
      intro k
      induction k with
      | zero => simp
      | succ k ih => rw [List.replicate_succ, List.flatten_cons, List.length_append, ih, hzl', Nat.add_mul]; omega
    have hcell : Builtin.zeroCells z.cells m.toNat ++ Builtin.zeroCells z.cells (cap - m.toNat) = ((List.replicate cap zs).flatten).toArray := by
      apply Array.ext'
      rw [Array.toList_append, hz0, hz0, ← List.flatten_append, List.replicate_append_replicate, show m.toNat + (cap - m.toNat) = cap by omega]
    have hnew : Hold cx (e.bump w.heap.size cap m.toNat) (M.push (.row el R (List.replicate m.toNat d))) (w.drew.alloc (.cells ((List.replicate cap zs).flatten).toArray el)) := by
      have hsplit : (List.replicate cap zs).flatten = (List.replicate m.toNat zs).flatten ++ (List.replicate (cap - m.toNat) zs).flatten := by
        rw [← List.flatten_append, List.replicate_append_replicate]
        congr 2; omega
      have := hh.drew.newRow (R := R) (el := el) (ds := List.replicate m.toNat d) (cs := (List.replicate cap zs).flatten) (cap := cap) (by simpa using hcap) hcm (by rw [hfl, hn]) (by rw [hsplit]; exact rows_replicate hok _ _)
      simpa using this
    refine ⟨.slice (some ⟨w.heap.size, 0, none⟩) m.toNat cap, w.drew.alloc (.cells ((List.replicate cap zs).flatten).toArray el), e.bump w.heap.size cap m.toNat, ?_, hnew, ⟨e.bump_le _ _ _ false, fun b => e.bump_mem _ _ _ false b⟩, ?_, fun b hb _ => q_alloc_old w.drew _ (h := hb), by simp⟩
    · rw [← hcell]
      simp [exec1, execOp, resolve, invoke, builtin, ev_lit he hs, ev_lit he hx, hrun]
    · simp only [Val, Nv.bump, ← hN, ← hh.n, if_true, Bool.false_eq_true, if_false]
      exact ⟨Nat.lt_succ_self _, hcap, trivial⟩
end
theorem PartIs.self {α : Type} {R : Rd α} {d : α} : PartIs R d 0 R d := fun m cs h => by
  rw [List.drop_zero, List.take_of_length_le (by rw [R.len h]; exact Nat.le_refl _)]; exact h
/-- Is a row of our own nil? If so it is empty. -/
theorem WPL.eqlNilW {P : Program} {cx : Cx} {fr : Fr} {E : Env} {M : Mem} {Q : Ex → Env → Mem → Prop} {ops : Array Oper} {os : List Oper} {α : Type} {R : Rd α} {l : List α} {i : Nat} {ct t el yt ty : TypeId} {y : Operand} {dst : Nat} {pos : String} {after : Array Edge} (ht : P.underlying t = some (.slice el)) (hx : E.ev y = .whole i) (hc : M.at_ i = .row ct R l)
    (hd : Nat.blt dst fr.nt = true) (k : ∀ nb : Bool, (nb = true → l = []) → WPL P cx fr ops os (E.upd dst (.lit (.bool nb))) M Q) :
    WPL P cx fr ops ({ dst := some dst, op := .binOp .eql t y (.const (.slice none 0 0)) yt, type := ty, pos := pos, after := after, guard := Option.none } :: os) E M Q := by
  intro a w e hh he
  have hv := he.ev y
  rw [hx] at hv
  simp only [Val] at hv
  have hk := hh.ch i hv.1
  rw [hc] at hk
  have hrun : ∀ (ad : Option Addr) (n c : Nat), (binOp .eql t (.slice ad n c) (.slice none 0 0)).run P w = .ok (.bool ad.isNone) w := by
    intro ad n c
    have h1 : (Op.equal t (.slice ad n c) (.slice none 0 0)).run P w = .ok ad.isNone w := by
      rw [equal_eq, Op.equalIn]
      simp only [Sem.run_bind, run_underlying ht, Result.andThen, Sem.run_pure]
      cases ad <;> rfl
    simp only [binOp, Sem.run_bind, h1, Result.andThen, Sem.run_pure]
  have key : ∀ (ad : Option Addr) (n c : Nat), a.eval y = .slice ad n c → (ad.isNone = true → l = []) → wpListIn (fence P fr.r) 0 P ops (Sat cx fr Q) ({ dst := some dst, op := .binOp .eql t y (.const (.slice none 0 0)) yt, type := ty, pos := pos, after := after, guard := Option.none } :: os) a w := by
    intro ad n c hy hn
    unfold wpListIn
    rw [if_pos (by rfl)]
    refine ⟨fun f hf => by simp [Oper.about] at hf, ?_⟩
    rw [semAt_value (x := .bool ad.isNone) (w' := w)]
    · exact k _ hn _ w e hh (he.put hd (by simp [Val]))
    · simp only [exec1, execOp, hy, eval_const, g_slice, Sem.run_bind, Sem.run_pure, Result.andThen, hrun]
  have hv3 := hv.2.2
  cases hvir : e.vir i with
  | true =>
    rw [hvir] at hv3
    simp only [if_true] at hv3
    exact key none 0 0 hv3.1 fun _ => by have := hk.2.2.2; simpa [hvir] using this
  | false =>
    rw [hvir] at hv3
    simp only [Bool.false_eq_true, if_false] at hv3
    exact key _ _ _ hv3 fun h => by simp at h
end Go.Q
namespace Go.Q
open Go
set_option linter.unusedVariables false
set_option linter.unusedSimpArgs false
/-- There is a result, of which something holds. -/
def Ret.{u} {α : Type u} (x : Option α) (p : α → Prop) : Prop := ∃ r, x = some r ∧ p r
section
universe u v
variable {α : Type u} {β : Type v} {x y : Option α} {p q : α → Prop} {r : α}
theorem Ret.pure (h : p r) : Ret (some r) p := ⟨r, rfl, h⟩
theorem Ret.bind {f : α → Option β} {q : β → Prop} (h : Ret x p) (k : ∀ a, p a → Ret (f a) q) : Ret (x.bind f) q := by
  obtain ⟨a, rfl, ha⟩ := h
  exact k a ha
theorem Ret.cond {b : Bool} (h : b = true → Ret x p) (k : b = false → Ret y p) : Ret (bif b then x else y) p := by
  cases b with
  | true => exact h rfl
  | false => exact k rfl
theorem Ret.mono (h : Ret x p) (k : ∀ a, p a → q a) : Ret x q := let ⟨r, h1, h2⟩ := h; ⟨r, h1, k r h2⟩
theorem Ret.some (h : Ret x p) : ∃ r, x = Option.some r := let ⟨r, h1, _⟩ := h; ⟨r, h1⟩
end
theorem bd {α : Type} {c : Prop} [Decidable c] {x y : α} : (bif decide c then x else y) = if c then x else y := by
  by_cases h : c <;> simp [h]
theorem bnd' {α : Type} {c : Prop} [Decidable c] {x y : α} : (bif !decide c then x else y) = if c then y else x := by
  by_cases h : c <;> simp [h]
theorem bt {α : Type} {x y : α} : (bif true then x else y) = x := rfl
theorem bf {α : Type} {x y : α} : (bif false then x else y) = y := rfl
theorem ix_int {α : Type} {l : List α} {i : Int} (h0 : 0 ≤ i) (h : i < l.length) : ix l i = some (l[i.toNat]'(by omega)) := by
  unfold ix
  rw [if_pos h0, List.getElem?_eq_getElem]
theorem tm (a b : Nat) : Int.tmod (a : Int) (b : Int) = ((a % b : Nat) : Int) := rfl
theorem td (a b : Nat) : Int.tdiv (a : Int) (b : Int) = ((a / b : Nat) : Int) := rfl
end Go.Q
namespace Go.Q
open Go
set_option linter.unusedVariables false
set_option linter.unusedSimpArgs false
section
variable {P : Program} {cx : Cx} {fr : Fr} {ops : Array Oper} {os : List Oper} {E : Env} {M M' : Mem} {Q : Ex → Env → Mem → Prop} {op : Op} {ty : TypeId} {pos : String} {after : Array Edge} {dst : Nat} {v : AVal} {tc : List Nat}
variable {st st' X X' : List Nat} {fuel : Nat} {listed : Array Bool} {i : Nat}
/-- The walk, when operation i comes up next. -/
def WPD1 (P : Program) (cx : Cx) (fr : Fr) (ops : Array Oper) (st X : List Nat) (fuel : Nat) (listed : Array Bool) (i : Nat) (E : Env) (M : Mem) (Q : Ex → Env → Mem → Prop) : Prop :=
  ∀ a w e, Hold cx e M w → Emb fr.nt e M E a → wpOpIn (fence P fr.r) 0 P ops (Sat cx fr Q) i
    (fun a' w' => (X.contains i = true ∧ Agree e [] w w' ∧ wpAnyG P fr.r .any ops (Sat cx fr Q) (Agree e [] w) fuel (listed.setIfInBounds i true) a' w') ∨
      (X.contains i = false ∧ Agree e st w w' ∧ wpAnyF P fr.r .any ops (Sat cx fr Q) (Agree e [] w) (Agree e st w) X fuel (listed.setIfInBounds i true) a' w')) a w
theorem WPD1.cvL {E' : Env} {M' : Mem} (k : CvL cx fr.nt E M E' M') (hst : (st.all fun i => Nat.blt i M.n) = true) (h : WPD1 P cx fr ops st X fuel listed i E' M' Q) : WPD1 P cx fr ops st X fuel listed i E M Q := fun a w e hh he => by
  obtain ⟨e', h1, h2, hle⟩ := k a w e hh he
  have key : ∀ (l : List Nat), (l.all fun i => Nat.blt i M.n) = true → ∀ w1, Agree e' l w w1 → Agree e l w w1 := fun l hl w1 hw => ⟨fun b o hb => hw.ro b o (hle.m b o hb), fun b o hb => hw.bro b o (hle.bm b o hb), fun i hi hv => by
    have hin : i < e.n := by rw [hh.n]; simpa using List.all_eq_true.1 hl i hi
    have := hw.own i hi ((hle.vir i hin).trans hv)
    rw [hle.own i hin] at this
    exact this⟩
  refine wpOpIn_mono (fun a' w' h' => ?_) (h a w e' h1 h2)
  rcases h' with ⟨g1, g2, g3⟩ | ⟨g1, g2, g3⟩
  · exact .inl ⟨g1, key [] rfl _ g2, wpAnyG_mono (key [] rfl) _ _ _ _ g3⟩
  · exact .inr ⟨g1, key st hst _ g2, wpAnyF_mono (key [] rfl) (fun w1 h => (key st hst w1 h).nil_of) (key st hst) (fun _ h => h) _ _ _ _ g3⟩
theorem WPD1.eff_core (i : Nat) (st' X' : List Nat) {o : Oper} {E' : Env} (ho : ops[i]? = some o)
    (hg : ∀ a e, Emb fr.nt e M E a → Region.wanted o (yielded ops a.tmps) = true)
    (hs : (X.contains i || (X'.all X.contains && st.all fun j => st'.contains j && Nat.blt j M.n && (M.at_ j).isOwn && !(tc.contains j))) = true)
    (hstep : ∀ a w e, Hold cx e M w → Emb fr.nt e M E a → ∀ (next : Act → World → Prop) (Q : Exit → Act → World → Prop),
      (∀ a' w' e', Hold cx e' M' w' → e.le e' → Emb fr.nt e' M' E' a' → (∀ b, b < w.heap.size → (∀ i ∈ tc, i < e.n → (M.at_ i).live e i → e.own i ≠ b) → w'.heap[b]? = w.heap[b]?) → next a' w') →
      o.wpIn (fence P fr.r) 0 P a w next Q)
    (k : WPD P cx fr ops st' X' fuel (listed.setIfInBounds i true) E' M' Q) : WPD1 P cx fr ops st X fuel listed i E M Q := by
  intro a w e hh he
  unfold wpOpIn
  simp only [ho]
  rw [if_pos (hg _ _ he)]
  refine hstep a w e hh he _ _ fun a' w' e' hh' hle he' hfr => ?_
  have hk := k a' w' e' hh' he'
  have hag : ∀ {st'' : List Nat} w1, Agree e' st'' w' w1 → Agree e [] w w1 := fun w1 hw => ⟨fun b o hb => hw.ro b o (hle.m b o hb), fun b o hb => hw.bro b o (hle.bm b o hb), fun _ hi => by cases hi⟩
  cases hx : X.contains i with
  | true => exact .inl ⟨rfl, hag _ (Agree.of_hold hh' st'), wpAnyG_of_F (fun w1 h => hag w1 h) (fun w1 h => hag w1 h) _ _ _ _ hk⟩
  | false =>
    rw [hx, Bool.false_or, Bool.and_eq_true] at hs
    have hst : ∀ x ∈ st, e.vir x = false → x < e.n ∧ w'.heap[e.own x]? = w.heap[e.own x]? ∧ x ∈ st' := by
      intro x hx hvx
      have h := List.all_eq_true.1 hs.2 x hx
      simp only [Bool.and_eq_true, Nat.blt_eq, Bool.not_eq_true'] at h
      obtain ⟨⟨⟨h1, h2⟩, h3⟩, h4⟩ := h
      have hxn : x < e.n := by rw [hh.n]; exact h2
      have hlx : (M.at_ x).live e x := by
        cases hc : M.at_ x with
        | cells t l => trivial
        | row t R l => exact hvx
        | gone => rw [hc] at h3; simp [Chunk.isOwn] at h3
        | obj o => rw [hc] at h3; simp [Chunk.isOwn] at h3
        | bag => rw [hc] at h3; simp [Chunk.isOwn] at h3
      refine ⟨hxn, hfr _ (hh.live x hxn hlx).1 fun y hy hyn hly hxy => ?_, by simpa using h1⟩
      have := hh.dist y x hyn hxn hly hlx hxy
      subst this
      rw [List.contains_eq_mem] at h4
      simp [hy] at h4
    have hmono : ∀ w1, Agree e' st' w' w1 → Agree e st w w1 := by
      intro w1 hw
      refine ⟨fun b o hb => hw.ro b o (hle.m b o hb), fun b o hb => hw.bro b o (hle.bm b o hb), fun x hx hvx => ?_⟩
      obtain ⟨h1, h2, h3⟩ := hst x hx hvx
      have := hw.own x h3 ((hle.vir x h1).trans hvx)
      rw [hle.own x h1] at this
      exact this.trans h2
    refine .inr ⟨rfl, hmono _ (Agree.of_hold hh' st'), wpAnyF_mono (fun w1 h => hag w1 h) (fun w1 h => hag w1 h) hmono (fun y hy => ?_) _ _ _ _ hk⟩
    exact List.all_eq_true.1 hs.1 y (by simpa using hy)
theorem WPD1.eff (i : Nat) (st' X' : List Nat) (ho : ops[i]? = some { dst := some dst, op := op, type := ty, pos := pos, after := after, guard := Option.none })
    (h : Runs P op ty E M tc v M') (hs : (X.contains i || (X'.all X.contains && st.all fun j => st'.contains j && Nat.blt j M.n && (M.at_ j).isOwn && !(tc.contains j))) = true) (ht : Nat.blt dst fr.nt = true)
    (k : WPD P cx fr ops st' X' fuel (listed.setIfInBounds i true) (E.upd dst v) M' Q) : WPD1 P cx fr ops st X fuel listed i E M Q :=
  WPD1.eff_core (tc := tc) (M' := M') i st' X' ho (fun _ _ _ => rfl) hs (fun a w e hh he next Q' hk => h cx fr a w e hh he _ rfl rfl _ _ fun x w' e' hh' hle hv hfr _ =>
    hk _ w' e' hh' hle.1 ((he.mono hle.1 hle.2).put ht hv) hfr) k
theorem WPD1.effg (i : Nat) (st' X' : List Nat) {j t : Nat} {b : Bool} (ho : ops[i]? = some { dst := some dst, op := op, type := ty, pos := pos, after := after, guard := some (j, b) })
    (hj : (ops[j]?).bind (·.dst) = some t) (htj : Nat.blt t fr.nt = true) (hv : E.v t = .lit (.bool b))
    (h : Runs P op ty E M tc v M') (hs : (X.contains i || (X'.all X.contains && st.all fun j => st'.contains j && Nat.blt j M.n && (M.at_ j).isOwn && !(tc.contains j))) = true) (ht : Nat.blt dst fr.nt = true)
    (k : WPD P cx fr ops st' X' fuel (listed.setIfInBounds i true) (E.upd dst v) M' Q) : WPD1 P cx fr ops st X fuel listed i E M Q :=
  WPD1.eff_core (tc := tc) (M' := M') i st' X' ho (fun _ _ he => by simp [Region.wanted, yields he hj htj hv]) hs (fun a w e hh he next Q' hk => h cx fr a w e hh he _ rfl rfl _ _ fun x w' e' hh' hle hv hfr _ =>
    hk _ w' e' hh' hle.1 ((he.mono hle.1 hle.2).put ht hv) hfr) k
theorem WPD1.effS (i : Nat) (st' X' : List Nat) (ho : ops[i]? = some { dst := Option.none, op := op, type := ty, pos := pos, after := after, guard := Option.none })
    (h : DoesS P op ty E M tc M') (hs : (X.contains i || (X'.all X.contains && st.all fun j => st'.contains j && Nat.blt j M.n && (M.at_ j).isOwn && !(tc.contains j))) = true)
    (k : WPD P cx fr ops st' X' fuel (listed.setIfInBounds i true) E M' Q) : WPD1 P cx fr ops st X fuel listed i E M Q :=
  WPD1.eff_core (tc := tc) (M' := M') i st' X' ho (fun _ _ _ => rfl) hs (fun a w e hh he next Q' hk => by
    obtain ⟨w', e', hr, hh', hle, hfr, _⟩ := h cx fr.nt a w e hh he
    refine ⟨about_some hr, ?_⟩
    rw [semAt_skip hr]
    exact hk _ w' e' hh' hle.1 (he.mono hle.1 hle.2) hfr) k
end
end Go.Q
namespace Go.Q
open Go
set_option linter.unusedVariables false
set_option linter.unusedSimpArgs false
end Go.Q
namespace Go.Q
open Go
set_option linter.unusedVariables false
set_option linter.unusedSimpArgs false
end Go.Q
namespace Go.Q
open Go
set_option linter.unusedVariables false
set_option linter.unusedSimpArgs false
section
variable {P : Program} {cx : Cx} {fr : Fr} {nt : Nat} {E E' : Env} {M M' : Mem} {Q : Ex → Env → Mem → Prop} {ty : TypeId}
theorem len0 {α : Type} {l : List α} (h : decide (l.length = 0) = true) : ((l.length : Nat) : Int) = 0 := by
  have := of_decide_eq_true h
  omega
end
end Go.Q
namespace Go.Q
open Go
set_option linter.unusedVariables false
set_option linter.unusedSimpArgs false
end Go.Q
namespace Go.Q
open Go
set_option linter.unusedVariables false
set_option linter.unusedSimpArgs false
/-- The bytes of a string. -/
def L (s : ByteArray) : List UInt8 := s.data.toList
/-- Bytes as whole numbers. -/
def I (l : List UInt8) : List Int := l.map fun b => (b.toNat : Int)
end Go.Q
namespace Go.Q
open Go
set_option linter.unusedVariables false
set_option linter.unusedSimpArgs false
section
variable {P : Program} {cx : Cx} {fr : Fr} {E : Env} {M : Mem} {Q : Ex → Env → Mem → Prop}
/-- The rest of a loop, from the beginning of a round. -/
def WPI (P : Program) (cx : Cx) (fr : Fr) (c : Code) (E : Env) (M : Mem) (Q : Ex → Env → Mem → Prop) : Prop :=
  ∀ a w e, Hold cx e M w → Emb fr.nt e M E a → ∀ (b : Frame) (k : List Item) (cs : List Frame), b.roundOf = (fence P fr.r).round → (fence P fr.r).fn b.fn → (fence P fr.r).room (cs.length + 1 + 0) →
    ∃ x a' w', Sat cx fr Q x a' w' ∧ ArrivesIn (Machine.fenced P (fence P fr.r)) P (lone (b.atR a (.code c :: .inLoop c :: k)) cs w) b k cs x a' w'
theorem WPI.round {c : Code} (h : WP P cx fr c E M (Then (fun E M => WPI P cx fr c E M Q) Q)) : WPI P cx fr c E M Q := by
  intro a w e hh he b k cs hro hb hr
  obtain ⟨x, a1, w1, hq, harr⟩ := h a w e hh he b (.inLoop c :: k) cs hro hb hr
  obtain ⟨y, E', M', e', q, h1, h2, h3⟩ := hq
  cases y with
  | normal =>
    cases h3
    obtain ⟨x2, a2, w2, hq2, harr2⟩ := q a1 w1 e' h1 h2 b k cs hro hb hr
    exact ⟨x2, a2, w2, hq2, .of_steps (StepsIn.trans harr (.one (fenced_calm hb hr rfl) stepR_inLoop)) harr2⟩
  | exit id => cases h3; exact ⟨_, a1, w1, ⟨_, E', M', e', q, h1, h2, rfl⟩, .pass (x := .inLoop c) rfl (fun _ _ => .inl (by simp)) harr⟩
  | goto l => cases h3; exact ⟨_, a1, w1, ⟨_, E', M', e', q, h1, h2, rfl⟩, .pass (x := .inLoop c) rfl (fun _ _ => .inl (by simp)) harr⟩
  | ret => cases h3; exact ⟨_, a1, w1, ⟨_, E', M', e', q, h1, h2, rfl⟩, .pass (x := .inLoop c) rfl (fun _ _ => .inl (by simp)) harr⟩
  | panic v =>
    obtain ⟨u, rfl, hv⟩ := h3
    exact ⟨_, a1, w1, ⟨_, E', M', e', q, h1, h2, u, rfl, hv⟩, .pass (x := .inLoop c) rfl (fun _ _ => .inl (by simp)) harr⟩
end
def EqV (P : Program) (n : Nat) (t : TypeId) (x y : Value) (b : Bool) : Prop := ∀ d w, n ≤ d → (Op.equalIn d t x y).run P w = .ok b w
def EqF (P : Program) (n : Nat) (xs ys : List Value) (fs : List Field) (b : Bool) : Prop := ∀ d w, n ≤ d → (Op.eqFields d xs.toArray ys.toArray fs).run P w = .ok b w
section
variable {P : Program} {n : Nat} {t : TypeId} {xs ys : List Value} {f : Field} {fs : List Field}
theorem EqV.int {k k' : IntKind} {a b : Int} (h : P.underlying t = some (.int k')) : EqV P (n + 1) t (.int k a) (.int k b) (decide (a = b)) := fun d w hd => by
  obtain ⟨m, rfl⟩ : ∃ m, d = m + 1 := ⟨d - 1, by omega⟩
  rw [run_equalIn_int w m t k k' a b h]; rfl
theorem EqV.bool {a b : Bool} (h : P.underlying t = some .bool) : EqV P (n + 1) t (.bool a) (.bool b) (a == b) := fun d w hd => by
  obtain ⟨m, rfl⟩ : ∃ m, d = m + 1 := ⟨d - 1, by omega⟩
  exact run_equalIn_bool' w m t a b h
theorem EqV.str {a b : ByteArray} (h : P.underlying t = some .string) : EqV P (n + 1) t (.string a) (.string b) (a.toList == b.toList) := fun d w hd => by
  obtain ⟨m, rfl⟩ : ∃ m, d = m + 1 := ⟨d - 1, by omega⟩
  exact run_equalIn_string w m t a b h
theorem EqF.nil : EqF P n xs ys [] true := fun d w _ => rfl
theorem part_sc {w : World} {u : Value} {o : Nat} (ht : Sc P t) (h : xs[o]? = some u) : (part t xs.toArray o).run P w = .ok u w := by
  simp [part, ht.isAgg w, h]
theorem EqF.sc {u v : Value} {b c : Bool} (hn : (f.name == "_") = false) (ht : Sc P f.type) (hx : xs[f.offset]? = some u) (hy : ys[f.offset]? = some v) (h : EqV P n f.type u v b) (k : EqF P n xs ys fs c) : EqF P n xs ys (f :: fs) (b && c) := fun d w hd => by
  have hn' : f.name ≠ "_" := by simpa using hn
  rw [Op.eqFields, if_pos hn']
  simp only [Sem.run_bind, part_sc ht hx, part_sc ht hy, Result.andThen_ok, h d w hd]
  cases b with
  | true => simpa using k d w hd
  | false => simp
theorem EqV.struct {b : Bool} {fa : Array Field} (ht : P.underlying t = some (.struct fa)) (hp : P.stoodInHeld t = false) (h : EqF P n xs ys fa.toList b) : EqV P (n + 1) t (.agg xs.toArray) (.agg ys.toArray) b := fun d w hd => by
  obtain ⟨m, rfl⟩ : ∃ m, d = m + 1 := ⟨d - 1, by omega⟩
  have hf : P.fieldsOf t = fa := by simp [Program.fieldsOf, ht]
  rw [run_equalIn_agg w m t _ _ (by rw [hf]; exact ht) hp, hf]
  exact h m w (by omega)
end
theorem W.wk {cx : Cx} {fr : Fr} {Q : Ex → Env → Mem → Prop} {x : Ex} {E E' : Env} {M M' : Mem} {np : Nat} (l : List Nat) (hnp : cx.np = np) (hq : Q x E' M') (hM : LeM l np M M') (hE : LeE l M'.n E E') (hx : x.plain = true) : W cx fr Q x E M :=
  W.cv (Cv.weak l hnp hM hE) hx (W.now hq)
theorem BodyR.mkR {az : List (Nat × Nat)} {rs : List ResultVar} {np : Nat} {Q : Out → Mem → Prop} {E : Env} {M M2 : Mem} {vs : List AVal} {v : AVal} (hm : marksOk M E.d) (hvs : resAll az E (dropMarks M E.d) rs = some vs) (l : List Nat) (hq : Q (.ret v) M2)
    (hl : LeM l np (dropMarks M E.d) M2) (h1 : resOut vs = v.ren (sub l)) (h2 : (v.under M2.n && E.b.isEmpty) = true) : BodyR az rs np Q .ret E M := ⟨hm, vs, hvs, l, v, M2, hl, h1, h2, hq⟩
theorem BodyR.mkN {az : List (Nat × Nat)} {rs : List ResultVar} {np : Nat} {Q : Out → Mem → Prop} {E : Env} {M M2 : Mem} {vs : List AVal} {v : AVal} (hm : marksOk M E.d) (hvs : resAll az E (dropMarks M E.d) rs = some vs) (l : List Nat) (hq : Q (.ret v) M2)
    (hl : LeM l np (dropMarks M E.d) M2) (h1 : resOut vs = v.ren (sub l)) (h2 : (v.under M2.n && E.b.isEmpty) = true) : BodyR az rs np Q .normal E M := ⟨hm, vs, hvs, l, v, M2, hl, h1, h2, hq⟩
end Go.Q
namespace Go.Q
open Go
set_option linter.unusedVariables false
set_option linter.unusedSimpArgs false
section
variable {P : Program} {cx : Cx} {fr : Fr} {ops : Array Oper} {os : List Oper} {E E' : Env} {M M' : Mem} {Q : Ex → Env → Mem → Prop} {op : Op} {ty : TypeId} {pos : String} {after : Array Edge} {dst : Nat} {v : AVal} {tc : List Nat}
/-- A leaf at a panic: the payload told anew beside the state. -/
theorem W.wkP {u u' : AVal} {np : Nat} (l : List Nat) (hnp : cx.np = np) (hq : Q (.panic u') E' M') (hM : LeM l np M M') (hE : LeE l M'.n E E') (hu : u = u'.ren (sub l)) (hun : u'.under M'.n = true) : W cx fr Q (.panic u) E M := by
  intro a w e X hh he hx
  obtain ⟨x, rfl, hx⟩ := hx
  subst hu
  refine ⟨.panic u', E', M', e.re (sub l) M'.n, hq, hh.re hnp hM, ⟨⟨?_, fun t ht => ?_⟩, okOs_re hE.o he.2⟩, x, rfl, hx.re hun⟩
  · obtain ⟨r, h1, h2⟩ := he.1.1
    rw [hE.d] at h2
    exact ⟨r, by rw [← hE.b]; exact h1, marks_re h2 hE.db⟩
  · rcases hE.v t with h0 | ⟨h1, h2⟩
    · rw [h0]; simp [Val]
    · have := he.1.2 t ht
      rw [h1] at this
      exact this.re h2
theorem Scope.p {u : AVal} (h : Q (.panic u) E M) : (match Ex.panic u with | .goto _ => False | _ => True) ∧ Q (.panic u) E M := ⟨trivial, h⟩
theorem BodyR.mkP {az : List (Nat × Nat)} {rs : List ResultVar} {np : Nat} {Q : Out → Mem → Prop} {E : Env} {M M2 : Mem} {u v : AVal} (hm : marksOk M E.d) (l : List Nat) (hq : Q (.pan v) M2)
    (hl : LeM l np (dropMarks M E.d) M2) (h1 : u = v.ren (sub l)) (h2 : (v.under M2.n && E.b.isEmpty) = true) : BodyR az rs np Q (.panic u) E M := ⟨hm, l, v, M2, hl, h1, h2, hq⟩
/-- A panic of a value that is an interface of something. -/
theorem runs_panic {x : Operand} {t : TypeId} {a : AVal} (hx : E.ev x = .ifc t a) : RunsP P (.panic x) ty E M (.ifc t a) M := by
  intro cx fr a' w e hh he o ho hty next Q k
  have hv := he.ev x
  rw [hx] at hv
  have hv0 := hv
  simp only [Val] at hv
  obtain ⟨y, hy, _⟩ := hv
  refine ⟨fun f hf => by simp [Oper.about, ho] at hf, ?_⟩
  rw [Oper.semAt_eq _ _ _ (by rw [ho]; intro c hc; cases hc), execOp_one, ho]
  have hrun : (exec1 a'.eval (.panic x) o.type).run P w = .halt (.panic (.iface t y)) w := by
    simp [exec1, execOp, hy, Instr.panic]
  rw [hrun]
  exact k _ w e hh ⟨Nv.le.refl e, fun _ => Ro.le.refl _⟩ (hy ▸ hv0)
theorem WPL.pW {d : Option Nat} (h : RunsP P op ty E M v M') (k : W cx fr Q (.panic v) E M') :
    WPL P cx fr ops ({ dst := d, op := op, type := ty, pos := pos, after := after, guard := Option.none } :: os) E M Q := by
  intro a w e hh he
  unfold wpListIn
  rw [if_pos (by rfl)]
  refine h cx fr a w e hh he _ rfl rfl _ _ fun x w' e' hh' hle hv => ?_
  exact k a w' e' _ hh' ⟨⟨he.d.mono hle.1, fun t _ => (he.v t).mono hle.1 hle.2⟩, fun p hp => (he.o p hp).mono hle.1 hle.2⟩ ⟨x, rfl, hv⟩
/-- The only operation that may come up panics. -/
theorem WPD.pW {st X : List Nat} {fuel : Nat} {listed : Array Bool} (i : Nat) {d : Option Nat} (ho : ops[i]? = some { dst := d, op := op, type := ty, pos := pos, after := after, guard := Option.none }) (hb : readyIs ops listed i = true)
    (h : RunsP P op ty E M v M') (k : W cx fr Q (.panic v) E M') : WPD P cx fr ops st X (fuel + 1) listed E M Q := by
  intro a w e hh he
  have hready : Region.ready .any ops listed = [i] := by simpa [readyIs] using hb
  refine ⟨fun h => (by rw [hready] at h; cases h), fun j hj => ?_⟩
  rw [hready] at hj
  obtain rfl : j = i := by simpa using hj
  unfold wpOpIn
  simp only [ho]
  rw [if_pos (by rfl)]
  refine h cx fr a w e hh he _ rfl rfl _ _ fun x w' e' hh' hle hv => ?_
  exact k a w' e' _ hh' ⟨⟨he.d.mono hle.1, fun t _ => (he.v t).mono hle.1 hle.2⟩, fun p hp => (he.o p hp).mono hle.1 hle.2⟩ ⟨x, rfl, hv⟩
/-- One of several operations that may come up panics. -/
theorem WPD1.pW {st X : List Nat} {fuel : Nat} {listed : Array Bool} (i : Nat) {d : Option Nat} (ho : ops[i]? = some { dst := d, op := op, type := ty, pos := pos, after := after, guard := Option.none })
    (h : RunsP P op ty E M v M') (k : W cx fr Q (.panic v) E M') : WPD1 P cx fr ops st X fuel listed i E M Q := by
  intro a w e hh he
  unfold wpOpIn
  simp only [ho]
  rw [if_pos (by rfl)]
  refine h cx fr a w e hh he _ rfl rfl _ _ fun x w' e' hh' hle hv => ?_
  exact k a w' e' _ hh' ⟨⟨he.d.mono hle.1, fun t _ => (he.v t).mono hle.1 hle.2⟩, fun p hp => (he.o p hp).mono hle.1 hle.2⟩ ⟨x, rfl, hv⟩
end
end Go.Q
namespace Go.Q
open Go
set_option linter.unusedVariables false
set_option linter.unusedSimpArgs false
end Go.Q
namespace Go.Q
open Go
set_option linter.unusedVariables false
set_option linter.unusedSimpArgs false
end Go.Q
namespace Go.Proofs.Ytjahhkhpchiojaa.W
open Go Go.Q Go.Proofs
set_option linter.unusedVariables false
set_option linter.unusedSimpArgs false
structure S_huff_coin where
  ffreq : Int
  fsyms : (List Int)
  deriving Inhabited, DecidableEq
def rdS_huff_coin : Rd S_huff_coin := Rd.via (Rd.pair (Rd.int .i64) (Rd.pair (Rd.slice (Rd.int .i64)) Rd.unit)) fun x => (x.ffreq, (x.fsyms, ()))
theorem S_huff_coin.p0 {d : S_huff_coin} : PartIs rdS_huff_coin d 0 (Rd.int .i64) d.ffreq := PartIs.via PartIs.here
theorem S_huff_coin.p1 {d : S_huff_coin} : PartIs rdS_huff_coin d 1 (Rd.slice (Rd.int .i64)) d.fsyms := PartIs.via (PartIs.there PartIs.here)
theorem S_huff_coin.sp {b : Bool} {d : S_huff_coin} : Splits rdS_huff_coin b d [.lit (.int .i64 d.ffreq), .ro (Rd.slice (Rd.int .i64)) b d.fsyms] := Splits.via (Splits.pair Splits.sc (Splits.pair (Splits.one rfl) Splits.unit))
structure S_quireref02_coin where
  ffreq : Int
  fsyms : (List Int)
  deriving Inhabited, DecidableEq
def rdS_quireref02_coin : Rd S_quireref02_coin := Rd.via (Rd.pair (Rd.int .i64) (Rd.pair (Rd.slice (Rd.int .i64)) Rd.unit)) fun x => (x.ffreq, (x.fsyms, ()))
theorem S_quireref02_coin.p0 {d : S_quireref02_coin} : PartIs rdS_quireref02_coin d 0 (Rd.int .i64) d.ffreq := PartIs.via PartIs.here
theorem S_quireref02_coin.p1 {d : S_quireref02_coin} : PartIs rdS_quireref02_coin d 1 (Rd.slice (Rd.int .i64)) d.fsyms := PartIs.via (PartIs.there PartIs.here)
theorem S_quireref02_coin.sp {b : Bool} {d : S_quireref02_coin} : Splits rdS_quireref02_coin b d [.lit (.int .i64 d.ffreq), .ro (Rd.slice (Rd.int .i64)) b d.fsyms] := Splits.via (Splits.pair Splits.sc (Splits.pair (Splits.one rfl) Splits.unit))
def g_cmp_isNaN_int (k : Nat) (x178 : Int) : Option Unit := some ()
def g_cmp_Compare_int (k : Nat) (x175 : Int) (x176 : Int) : Option Int := ((g_cmp_isNaN_int k x175).bind fun _ => ((g_cmp_isNaN_int k x176).bind fun _ => (bif (!decide (x175 = x175)) then (bif (!decide (x176 = x176)) then some 0 else some (-1)) else (bif (!decide (x176 = x176)) then some 1 else (bif (decide (x175 < x176)) then some (-1) else (bif (decide (x176 < x175)) then some 1 else some 0))))))
def g_huff_Lengths_1 (k : Nat) (x170 : Int) (x171 : (List Int)) (x172 : Int) (x173 : (List Int)) : Option Int := ((g_cmp_Compare_int k x170 x172).bind fun x213 => some x213)
def g_slices_insertionSortCmpFunc_huff_coin_l1 (k : Nat) (x152 : Int) : Nat → Int → (List S_huff_coin) → Option (List S_huff_coin)
  | 0, _, _ => none
  | n + 1, x945, x946 => (((bif (decide (x152 < x945)) then ((ix x946 x945).bind fun x1071 => ((ix x946 (IntKind.wrap .i64 (x945 - 1))).bind fun x1072 => ((g_huff_Lengths_1 k x1071.ffreq x1071.fsyms x1072.ffreq x1072.fsyms).bind fun x1074 => some (decide (x1074 < 0))))) else some false) : Option Bool).bind fun x1061 => (bif x1061 then ((ix x946 (IntKind.wrap .i64 (x945 - 1))).bind fun x1086 => ((ix x946 x945).bind fun x1087 => ((ix x946 x945).bind fun x1088 => ((ix (List.set x946 (Int.toNat x945) (⟨x1086.ffreq, x1086.fsyms⟩ : S_huff_coin)) (IntKind.wrap .i64 (x945 - 1))).bind fun x1089 => (g_slices_insertionSortCmpFunc_huff_coin_l1 k x152 n (IntKind.wrap .i64 (x945 - 1)) (List.set (List.set x946 (Int.toNat x945) (⟨x1086.ffreq, x1086.fsyms⟩ : S_huff_coin)) (Int.toNat (IntKind.wrap .i64 (x945 - 1))) (⟨x1087.ffreq, x1087.fsyms⟩ : S_huff_coin))))))) else some x946))
theorem g_slices_insertionSortCmpFunc_huff_coin_l1_eqs : True := by have := @g_slices_insertionSortCmpFunc_huff_coin_l1.eq_2; trivial
def g_slices_insertionSortCmpFunc_huff_coin_l0 (k : Nat) (x152 : Int) (x153 : Int) : Nat → Int → (List S_huff_coin) → Option (List S_huff_coin)
  | 0, _, _ => none
  | n + 1, x721, x722 => (bif (decide (x721 < x153)) then ((g_slices_insertionSortCmpFunc_huff_coin_l1 k x152 k x721 x722).bind fun x1018 => (g_slices_insertionSortCmpFunc_huff_coin_l0 k x152 x153 n (IntKind.wrap .i64 (x721 + 1)) x1018)) else some x722)
theorem g_slices_insertionSortCmpFunc_huff_coin_l0_eqs : True := by have := @g_slices_insertionSortCmpFunc_huff_coin_l0.eq_2; trivial
def g_slices_insertionSortCmpFunc_huff_coin (k : Nat) (x152 : Int) (x153 : Int) (x154 : (List S_huff_coin)) : Option (List S_huff_coin) := ((g_slices_insertionSortCmpFunc_huff_coin_l0 k x152 x153 k (IntKind.wrap .i64 (x152 + 1)) x154).bind fun x871 => some x871)
def g_slices_swapRangeCmpFunc_huff_coin_l0 (k : Nat) (x1473 : Int) (x1474 : Int) (x1475 : Int) : Nat → Int → (List S_huff_coin) → Option (List S_huff_coin)
  | 0, _, _ => none
  | n + 1, x1528, x1529 => (bif (decide (x1528 < x1475)) then ((ix x1529 (IntKind.wrap .i64 (x1474 + x1528))).bind fun x1557 => ((ix x1529 (IntKind.wrap .i64 (x1473 + x1528))).bind fun x1558 => ((ix x1529 (IntKind.wrap .i64 (x1473 + x1528))).bind fun x1559 => ((ix (List.set x1529 (Int.toNat (IntKind.wrap .i64 (x1473 + x1528))) (⟨x1557.ffreq, x1557.fsyms⟩ : S_huff_coin)) (IntKind.wrap .i64 (x1474 + x1528))).bind fun x1560 => (g_slices_swapRangeCmpFunc_huff_coin_l0 k x1473 x1474 x1475 n (IntKind.wrap .i64 (x1528 + 1)) (List.set (List.set x1529 (Int.toNat (IntKind.wrap .i64 (x1473 + x1528))) (⟨x1557.ffreq, x1557.fsyms⟩ : S_huff_coin)) (Int.toNat (IntKind.wrap .i64 (x1474 + x1528))) (⟨x1558.ffreq, x1558.fsyms⟩ : S_huff_coin))))))) else some x1529)
theorem g_slices_swapRangeCmpFunc_huff_coin_l0_eqs : True := by have := @g_slices_swapRangeCmpFunc_huff_coin_l0.eq_2; trivial
def g_slices_swapRangeCmpFunc_huff_coin (k : Nat) (x1473 : Int) (x1474 : Int) (x1475 : Int) (x1476 : (List S_huff_coin)) : Option (List S_huff_coin) := ((g_slices_swapRangeCmpFunc_huff_coin_l0 k x1473 x1474 x1475 k 0 x1476).bind fun x1545 => some x1545)
def g_slices_rotateCmpFunc_huff_coin_l0 (k : Nat) (x1462 : Int) : Nat → Int → Int → (List S_huff_coin) → Option (Int × (List S_huff_coin))
  | 0, _, _, _ => none
  | n + 1, x1604, x1605, x1606 => (bif (!decide (x1604 = x1605)) then (bif (decide (x1605 < x1604)) then ((g_slices_swapRangeCmpFunc_huff_coin k (IntKind.wrap .i64 (x1462 - x1604)) x1462 x1605 x1606).bind fun x1621 => (g_slices_rotateCmpFunc_huff_coin_l0 k x1462 n (IntKind.wrap .i64 (x1604 - x1605)) x1605 x1621)) else ((some (IntKind.wrap .i64 ((IntKind.wrap .i64 (x1462 + x1605)) - x1604))).bind fun x1622 => ((g_slices_swapRangeCmpFunc_huff_coin k (IntKind.wrap .i64 (x1462 - x1604)) x1622 x1604 x1606).bind fun x1624 => (g_slices_rotateCmpFunc_huff_coin_l0 k x1462 n x1604 (IntKind.wrap .i64 (x1605 - x1604)) x1624)))) else some (x1604, x1606))
theorem g_slices_rotateCmpFunc_huff_coin_l0_eqs : True := by have := @g_slices_rotateCmpFunc_huff_coin_l0.eq_2; trivial
def g_slices_rotateCmpFunc_huff_coin (k : Nat) (x1461 : Int) (x1462 : Int) (x1463 : Int) (x1464 : (List S_huff_coin)) : Option (List S_huff_coin) := ((g_slices_rotateCmpFunc_huff_coin_l0 k x1462 k (IntKind.wrap .i64 (x1462 - x1461)) (IntKind.wrap .i64 (x1463 - x1462)) x1464).bind fun (x1615, x1616) => ((g_slices_swapRangeCmpFunc_huff_coin k (IntKind.wrap .i64 (x1462 - x1615)) x1462 x1615 x1616).bind fun x1627 => some x1627))
def g_slices_symMergeCmpFunc_huff_coin_l0 (k : Nat) (x1112 : Int) (x1115 : (List S_huff_coin)) : Nat → Int → Int → Option Int
  | 0, _, _ => none
  | n + 1, x2148, x2149 => (bif (decide (x2148 < x2149)) then ((some (IntKind.wrap .u64 (IntKind.wrap .i64 (x2148 + x2149)))).bind fun x2168 => ((ix x1115 (IntKind.wrap .i64 (shrI .u64 x2168 1))).bind fun x2175 => ((ix x1115 x1112).bind fun x2176 => ((g_huff_Lengths_1 k x2175.ffreq x2175.fsyms x2176.ffreq x2176.fsyms).bind fun x2178 => (bif (decide (x2178 < 0)) then ((some (IntKind.wrap .i64 ((IntKind.wrap .i64 (shrI .u64 x2168 1)) + 1))).bind fun x2180 => (g_slices_symMergeCmpFunc_huff_coin_l0 k x1112 x1115 n x2180 x2149)) else (g_slices_symMergeCmpFunc_huff_coin_l0 k x1112 x1115 n x2148 (IntKind.wrap .i64 (shrI .u64 x2168 1)))))))) else some x2148)
theorem g_slices_symMergeCmpFunc_huff_coin_l0_eqs : True := by have := @g_slices_symMergeCmpFunc_huff_coin_l0.eq_2; trivial
def g_slices_symMergeCmpFunc_huff_coin_l1 (k : Nat) (x2165 : Int) : Nat → Int → (List S_huff_coin) → Option (List S_huff_coin)
  | 0, _, _ => none
  | n + 1, x2199, x2200 => ((some (decide (x2199 < (IntKind.wrap .i64 (x2165 - 1))))).bind fun x2221 => (bif x2221 then ((ix x2200 (IntKind.wrap .i64 (x2199 + 1))).bind fun x2232 => ((ix x2200 x2199).bind fun x2233 => ((ix x2200 x2199).bind fun x2234 => ((ix (List.set x2200 (Int.toNat x2199) (⟨x2232.ffreq, x2232.fsyms⟩ : S_huff_coin)) (IntKind.wrap .i64 (x2199 + 1))).bind fun x2235 => (g_slices_symMergeCmpFunc_huff_coin_l1 k x2165 n (IntKind.wrap .i64 (x2199 + 1)) (List.set (List.set x2200 (Int.toNat x2199) (⟨x2232.ffreq, x2232.fsyms⟩ : S_huff_coin)) (Int.toNat (IntKind.wrap .i64 (x2199 + 1))) (⟨x2233.ffreq, x2233.fsyms⟩ : S_huff_coin))))))) else some x2200))
theorem g_slices_symMergeCmpFunc_huff_coin_l1_eqs : True := by have := @g_slices_symMergeCmpFunc_huff_coin_l1.eq_2; trivial
def g_slices_symMergeCmpFunc_huff_coin_l2 (k : Nat) (x1113 : Int) (x1115 : (List S_huff_coin)) : Nat → Int → Int → Option Int
  | 0, _, _ => none
  | n + 1, x2324, x2325 => (bif (decide (x2324 < x2325)) then ((some (IntKind.wrap .u64 (IntKind.wrap .i64 (x2324 + x2325)))).bind fun x2344 => ((ix x1115 x1113).bind fun x2351 => ((ix x1115 (IntKind.wrap .i64 (shrI .u64 x2344 1))).bind fun x2352 => ((g_huff_Lengths_1 k x2351.ffreq x2351.fsyms x2352.ffreq x2352.fsyms).bind fun x2354 => (bif (!(decide (x2354 < 0))) then ((some (IntKind.wrap .i64 ((IntKind.wrap .i64 (shrI .u64 x2344 1)) + 1))).bind fun x2356 => (g_slices_symMergeCmpFunc_huff_coin_l2 k x1113 x1115 n x2356 x2325)) else (g_slices_symMergeCmpFunc_huff_coin_l2 k x1113 x1115 n x2324 (IntKind.wrap .i64 (shrI .u64 x2344 1)))))))) else some x2324)
theorem g_slices_symMergeCmpFunc_huff_coin_l2_eqs : True := by have := @g_slices_symMergeCmpFunc_huff_coin_l2.eq_2; trivial
def g_slices_symMergeCmpFunc_huff_coin_l3 (k : Nat) (x2341 : Int) : Nat → Int → (List S_huff_coin) → Option (List S_huff_coin)
  | 0, _, _ => none
  | n + 1, x2373, x2374 => (bif (decide (x2341 < x2373)) then ((ix x2374 (IntKind.wrap .i64 (x2373 - 1))).bind fun x2402 => ((ix x2374 x2373).bind fun x2403 => ((ix x2374 x2373).bind fun x2404 => ((ix (List.set x2374 (Int.toNat x2373) (⟨x2402.ffreq, x2402.fsyms⟩ : S_huff_coin)) (IntKind.wrap .i64 (x2373 - 1))).bind fun x2405 => (g_slices_symMergeCmpFunc_huff_coin_l3 k x2341 n (IntKind.wrap .i64 (x2373 - 1)) (List.set (List.set x2374 (Int.toNat x2373) (⟨x2402.ffreq, x2402.fsyms⟩ : S_huff_coin)) (Int.toNat (IntKind.wrap .i64 (x2373 - 1))) (⟨x2403.ffreq, x2403.fsyms⟩ : S_huff_coin))))))) else some x2374)
theorem g_slices_symMergeCmpFunc_huff_coin_l3_eqs : True := by have := @g_slices_symMergeCmpFunc_huff_coin_l3.eq_2; trivial
def g_slices_symMergeCmpFunc_huff_coin_l4 (k : Nat) (x1115 : (List S_huff_coin)) (x2408 : Int) : Nat → Int → Int → Option Int
  | 0, _, _ => none
  | n + 1, x2434, x2435 => (bif (decide (x2434 < x2435)) then ((some (IntKind.wrap .u64 (IntKind.wrap .i64 (x2434 + x2435)))).bind fun x2457 => ((some (IntKind.wrap .i64 ((IntKind.wrap .i64 (x2408 - 1)) - (IntKind.wrap .i64 (shrI .u64 x2457 1))))).bind fun x2466 => ((ix x1115 x2466).bind fun x2467 => ((ix x1115 (IntKind.wrap .i64 (shrI .u64 x2457 1))).bind fun x2468 => ((g_huff_Lengths_1 k x2467.ffreq x2467.fsyms x2468.ffreq x2468.fsyms).bind fun x2470 => (bif (!(decide (x2470 < 0))) then ((some (IntKind.wrap .i64 ((IntKind.wrap .i64 (shrI .u64 x2457 1)) + 1))).bind fun x2472 => (g_slices_symMergeCmpFunc_huff_coin_l4 k x1115 x2408 n x2472 x2435)) else (g_slices_symMergeCmpFunc_huff_coin_l4 k x1115 x2408 n x2434 (IntKind.wrap .i64 (shrI .u64 x2457 1))))))))) else some x2434)
theorem g_slices_symMergeCmpFunc_huff_coin_l4_eqs : True := by have := @g_slices_symMergeCmpFunc_huff_coin_l4.eq_2; trivial
def h_slices_symMergeCmpFunc_huff_coin (rc1116 : Int → Int → Int → (List S_huff_coin) → Option (List S_huff_coin)) (k : Nat) (x1112 : Int) (x1113 : Int) (x1114 : Int) (x1115 : (List S_huff_coin)) : Option (List S_huff_coin) := ((some (decide ((IntKind.wrap .i64 (x1113 - x1112)) = 1))).bind fun x2131 => (bif x2131 then ((g_slices_symMergeCmpFunc_huff_coin_l0 k x1112 x1115 k x1113 x1114).bind fun x2165 => ((g_slices_symMergeCmpFunc_huff_coin_l1 k x2165 k x1112 x1115).bind fun x2218 => some x2218)) else ((some (decide ((IntKind.wrap .i64 (x1114 - x1113)) = 1))).bind fun x2307 => (bif x2307 then ((g_slices_symMergeCmpFunc_huff_coin_l2 k x1113 x1115 k x1112 x1113).bind fun x2341 => ((g_slices_symMergeCmpFunc_huff_coin_l3 k x2341 k x1113 x1115).bind fun x2390 => some x2390)) else ((some (IntKind.wrap .u64 (IntKind.wrap .i64 (x1112 + x1114)))).bind fun x2407 => ((some (IntKind.wrap .i64 ((IntKind.wrap .i64 (shrI .u64 x2407 1)) + x1113))).bind fun x2408 => ((((some (decide ((IntKind.wrap .i64 (shrI .u64 x2407 1)) < x1113))).bind fun x2413 => (bif x2413 then some ((IntKind.wrap .i64 (x2408 - x1114)), (IntKind.wrap .i64 (shrI .u64 x2407 1))) else some (x1112, x1113))) : Option (Int × Int)).bind fun (x2411, x2412) => ((g_slices_symMergeCmpFunc_huff_coin_l4 k x1115 x2408 k x2411 x2412).bind fun x2454 => (((((bif (decide (x2454 < x1113)) then ((some (decide (x1113 < (IntKind.wrap .i64 (x2408 - x2454))))).bind fun x2488 => some x2488) else some false) : Option Bool).bind fun x2486 => (bif x2486 then ((g_slices_rotateCmpFunc_huff_coin k x2454 x1113 (IntKind.wrap .i64 (x2408 - x2454)) x1115).bind fun x2492 => some x2492) else some x1115)) : Option (List S_huff_coin)).bind fun x2483 => (((((bif (decide (x1112 < x2454)) then ((some (decide (x2454 < (IntKind.wrap .i64 (shrI .u64 x2407 1))))).bind fun x2508 => some x2508) else some false) : Option Bool).bind fun x2506 => (bif x2506 then ((rc1116 x1112 x2454 (IntKind.wrap .i64 (shrI .u64 x2407 1)) x2483).bind fun x2512 => some x2512) else some x2483)) : Option (List S_huff_coin)).bind fun x2503 => ((((some (decide ((IntKind.wrap .i64 (shrI .u64 x2407 1)) < (IntKind.wrap .i64 (x2408 - x2454))))).bind fun x2518 => (bif x2518 then ((some (decide ((IntKind.wrap .i64 (x2408 - x2454)) < x1114))).bind fun x2520 => some x2520) else some false)) : Option Bool).bind fun x2517 => (bif x2517 then ((rc1116 (IntKind.wrap .i64 (shrI .u64 x2407 1)) (IntKind.wrap .i64 (x2408 - x2454)) x1114 x2503).bind fun x2524 => some x2524) else some x2503))))))))))))
def g_slices_symMergeCmpFunc_huff_coin : Nat → Int → Int → Int → (List S_huff_coin) → Option (List S_huff_coin)
  | 0, _, _, _, _ => none
  | k + 1, x1112, x1113, x1114, x1115 => h_slices_symMergeCmpFunc_huff_coin (g_slices_symMergeCmpFunc_huff_coin k) k x1112 x1113 x1114 x1115
def g_slices_stableCmpFunc_huff_coin_l0 (k : Nat) (x147 : Int) : Nat → Int → Int → (List S_huff_coin) → Option (Int × (List S_huff_coin))
  | 0, _, _, _ => none
  | n + 1, x2588, x2589, x2590 => (bif (decide (x2589 ≤ x147)) then ((g_slices_insertionSortCmpFunc_huff_coin k x2588 x2589 x2590).bind fun x2600 => (g_slices_stableCmpFunc_huff_coin_l0 k x147 n x2589 (IntKind.wrap .i64 (x2589 + 20)) x2600)) else some (x2588, x2590))
theorem g_slices_stableCmpFunc_huff_coin_l0_eqs : True := by have := @g_slices_stableCmpFunc_huff_coin_l0.eq_2; trivial
def g_slices_stableCmpFunc_huff_coin_l2 (k : Nat) (x147 : Int) (x2634 : Int) : Nat → Int → Int → (List S_huff_coin) → Option (Int × (List S_huff_coin))
  | 0, _, _, _ => none
  | n + 1, x2676, x2677, x2678 => (bif (decide (x2677 ≤ x147)) then ((g_slices_symMergeCmpFunc_huff_coin k x2676 (IntKind.wrap .i64 (x2676 + x2634)) x2677 x2678).bind fun x2689 => ((some (IntKind.wrap .i64 (x2677 + (IntKind.wrap .i64 (2 * x2634))))).bind fun x2690 => (g_slices_stableCmpFunc_huff_coin_l2 k x147 x2634 n x2677 x2690 x2689))) else some (x2676, x2678))
theorem g_slices_stableCmpFunc_huff_coin_l2_eqs : True := by have := @g_slices_stableCmpFunc_huff_coin_l2.eq_2; trivial
def g_slices_stableCmpFunc_huff_coin_l1 (k : Nat) (x147 : Int) : Nat → Int → (List S_huff_coin) → Option (List S_huff_coin)
  | 0, _, _ => none
  | n + 1, x2634, x2635 => (bif (decide (x2634 < x147)) then ((g_slices_stableCmpFunc_huff_coin_l2 k x147 x2634 k 0 (IntKind.wrap .i64 (2 * x2634)) x2635).bind fun (x2684, x2685) => ((((some (decide ((IntKind.wrap .i64 (x2684 + x2634)) < x147))).bind fun x2697 => (bif x2697 then ((g_slices_symMergeCmpFunc_huff_coin k x2684 (IntKind.wrap .i64 (x2684 + x2634)) x147 x2685).bind fun x2700 => some x2700) else some x2685)) : Option (List S_huff_coin)).bind fun x2696 => (g_slices_stableCmpFunc_huff_coin_l1 k x147 n (IntKind.wrap .i64 (x2634 * 2)) x2696))) else some x2635)
theorem g_slices_stableCmpFunc_huff_coin_l1_eqs : True := by have := @g_slices_stableCmpFunc_huff_coin_l1.eq_2; trivial
def g_slices_stableCmpFunc_huff_coin (k : Nat) (x147 : Int) (x148 : (List S_huff_coin)) : Option (List S_huff_coin) := ((g_slices_stableCmpFunc_huff_coin_l0 k x147 k 0 20 x148).bind fun (x2595, x2596) => ((g_slices_insertionSortCmpFunc_huff_coin k x2595 x147 x2596).bind fun x2603 => ((g_slices_stableCmpFunc_huff_coin_l1 k x147 k 20 x2603).bind fun x2666 => some x2666)))
def g_slices_SortStableFunc_huff_coin_huff_coin (k : Nat) (x145 : (List S_huff_coin)) : Option (List S_huff_coin) := ((g_slices_stableCmpFunc_huff_coin k ((List.length x145 : Nat) : Int) x145).bind fun x2707 => some x2707)
def g_slices_Clone_huff_coin_huff_coin (k : Nat) (x2712 : List S_huff_coin) : Option (List S_huff_coin) := bif decide ((List.length ([] : List S_huff_coin) + List.length x2712) * 32 ≤ 140737488355328) then some x2712 else none
def g_slices_Grow_int_int (k : Nat) (x2765 : Int) : Option (Unit ⊕ (List Int)) := (bif (decide (x2765 < 0)) then some (Sum.inl ()) else ((((some (IntKind.wrap .i64 (x2765 - (IntKind.wrap .i64 (0 - 0))))).bind fun x2787 => (bif (decide (0 < x2787)) then (bif (decide (0 < (x2787 : Int) ∧ (x2787 : Int) * ((8 : Nat) : Int) ≤ 140737488355328)) then (bif (decide (0 ≤ (0 : Int) ∧ (0 : Int) ≤ ((List.length (List.replicate (Int.toNat x2787) (0 : Int)) : Nat) : Int))) then some (List.take (Int.toNat 0) (List.replicate (Int.toNat x2787) (0 : Int))) else none) else none) else some ([] : List Int))) : Option (List Int)).bind fun x2786 => some (Sum.inr x2786)))
def g_slices_Concat_int_int_l0 (k : Nat) (x2740 : (List (List Int))) : Nat → Int → Int → Option (Unit ⊕ Int)
  | 0, _, _ => none
  | n + 1, x2820, x2821 => ((some (decide (x2821 < ((List.length x2740 : Nat) : Int)))).bind fun x2832 => (bif x2832 then ((ix x2740 x2821).bind fun x2838 => ((some (IntKind.wrap .i64 (x2820 + ((List.length x2838 : Nat) : Int)))).bind fun x2839 => (bif (decide (x2839 < 0)) then some (Sum.inl ()) else (g_slices_Concat_int_int_l0 k x2740 n x2839 (IntKind.wrap .i64 (x2821 + 1)))))) else some (Sum.inr x2820)))
theorem g_slices_Concat_int_int_l0_eqs : True := by have := @g_slices_Concat_int_int_l0.eq_2; trivial
def g_slices_Concat_int_int_l1 (k : Nat) (x2740 : (List (List Int))) : Nat → Int → (List Int) → Option (List Int)
  | 0, _, _ => none
  | n + 1, x2851, x2852 => ((some (decide (x2851 < ((List.length x2740 : Nat) : Int)))).bind fun x2859 => (bif x2859 then ((ix x2740 x2851).bind fun x2862 => (bif (decide (((List.length x2852) + (List.length x2862)) * 8 ≤ 140737488355328)) then (g_slices_Concat_int_int_l1 k x2740 n (IntKind.wrap .i64 (x2851 + 1)) (x2852 ++ x2862)) else none)) else some x2852))
theorem g_slices_Concat_int_int_l1_eqs : True := by have := @g_slices_Concat_int_int_l1.eq_2; trivial
def g_slices_Concat_int_int (k : Nat) (x2740 : (List (List Int))) : Option (ByteArray ⊕ (List Int)) := (((g_slices_Concat_int_int_l0 k x2740 k 0 0) : Option (Unit ⊕ Int)).bind fun y2842 => match y2842 with | (Sum.inl _) => some (Sum.inl (ByteArray.mk #[108, 101, 110, 32, 111, 117, 116, 32, 111, 102, 32, 114, 97, 110, 103, 101])) | (Sum.inr x2831) => ((g_slices_Grow_int_int k x2831).bind fun y2845 => match y2845 with | (Sum.inl _) => some (Sum.inl (ByteArray.mk #[99, 97, 110, 110, 111, 116, 32, 98, 101, 32, 110, 101, 103, 97, 116, 105, 118, 101])) | (Sum.inr x2844) => ((g_slices_Concat_int_int_l1 k x2740 k 0 x2844).bind fun x2858 => some (Sum.inr x2858))))
def g_huff_Lengths_l0 (k : Nat) (x6 : (List Int)) : Nat → Int → (List S_huff_coin) → Option (Unit ⊕ (List S_huff_coin))
  | 0, _, _ => none
  | n + 1, x3125, x3126 => ((some (decide (x3125 < ((List.length x6 : Nat) : Int)))).bind fun x3160 => (bif x3160 then ((((ix x6 x3125).bind fun x3177 => (((bif (decide (x3177 < 0)) then some true else some (decide (1073741824 < x3177))) : Option Bool).bind fun x3184 => (bif x3184 then some (Sum.inl ()) else (bif (decide (0 < x3177)) then (bif (decide (((List.length x3126) + (List.length ([(⟨x3177, ([x3125] : List Int)⟩ : S_huff_coin)] : List S_huff_coin))) * 32 ≤ 140737488355328)) then some (Sum.inr (x3126 ++ ([(⟨x3177, ([x3125] : List Int)⟩ : S_huff_coin)] : List S_huff_coin))) else none) else some (Sum.inr x3126))))) : Option (Unit ⊕ (List S_huff_coin))).bind fun y3191 => match y3191 with | (Sum.inl _) => some (Sum.inl ()) | (Sum.inr x3176) => (g_huff_Lengths_l0 k x6 n (IntKind.wrap .i64 (x3125 + 1)) x3176)) else some (Sum.inr x3126)))
theorem g_huff_Lengths_l0_eqs : True := by have := @g_huff_Lengths_l0.eq_2; trivial
def g_huff_Lengths_l2 (k : Nat) (x3293 : (List S_huff_coin)) : Nat → Int → (List S_huff_coin) → Option (ByteArray ⊕ (List S_huff_coin))
  | 0, _, _ => none
  | n + 1, x3396, x3397 => ((some (decide ((IntKind.wrap .i64 (x3396 + 1)) < ((List.length x3293 : Nat) : Int)))).bind fun x3430 => (bif x3430 then ((ix x3293 x3396).bind fun x3446 => ((ix x3293 (IntKind.wrap .i64 (x3396 + 1))).bind fun x3447 => ((ix x3293 x3396).bind fun x3448 => ((ix x3293 (IntKind.wrap .i64 (x3396 + 1))).bind fun x3449 => ((some (IntKind.wrap .i64 (x3446.ffreq + x3447.ffreq))).bind fun x3450 => ((g_slices_Concat_int_int k ([x3448.fsyms, x3449.fsyms] : List (List Int))).bind fun y3454 => match y3454 with | (Sum.inl x3452) => some (Sum.inl x3452) | (Sum.inr x3453) => (bif (decide (((List.length x3397) + (List.length ([(⟨x3450, x3453⟩ : S_huff_coin)] : List S_huff_coin))) * 32 ≤ 140737488355328)) then (g_huff_Lengths_l2 k x3293 n (IntKind.wrap .i64 (x3396 + 2)) (x3397 ++ ([(⟨x3450, x3453⟩ : S_huff_coin)] : List S_huff_coin))) else none))))))) else some (Sum.inr x3397)))
theorem g_huff_Lengths_l2_eqs : True := by have := @g_huff_Lengths_l2.eq_2; trivial
def g_huff_Lengths_l1 (k : Nat) (x7 : Int) (x3212 : (List S_huff_coin)) : Nat → Int → (List S_huff_coin) → Option (ByteArray ⊕ (List S_huff_coin))
  | 0, _, _ => none
  | n + 1, x3292, x3293 => (bif (decide (x3292 < x7)) then ((g_slices_Clone_huff_coin_huff_coin k x3212).bind fun x3367 => (((g_huff_Lengths_l2 k x3293 k 0 x3367) : Option (ByteArray ⊕ (List S_huff_coin))).bind fun y3457 => match y3457 with | (Sum.inl x3426) => some (Sum.inl x3426) | (Sum.inr x3427) => ((g_slices_SortStableFunc_huff_coin_huff_coin k x3427).bind fun x3459 => (g_huff_Lengths_l1 k x7 x3212 n (IntKind.wrap .i64 (x3292 + 1)) x3459)))) else some (Sum.inr x3293))
theorem g_huff_Lengths_l1_eqs : True := by have := @g_huff_Lengths_l1.eq_2; trivial
def g_huff_Lengths_l4 (k : Nat) (x3517 : S_huff_coin) : Nat → Int → (List Int) → Option (List Int)
  | 0, _, _ => none
  | n + 1, x3524, x3525 => ((some (decide (x3524 < ((List.length x3517.fsyms : Nat) : Int)))).bind fun x3533 => (bif x3533 then ((ix x3517.fsyms x3524).bind fun x3536 => ((ix x3525 x3536).bind fun x3537 => ((ix x3525 x3536).bind fun x3538 => (g_huff_Lengths_l4 k x3517 n (IntKind.wrap .i64 (x3524 + 1)) (List.set x3525 (Int.toNat x3536) (IntKind.wrap .i64 (x3537 + 1))))))) else some x3525))
theorem g_huff_Lengths_l4_eqs : True := by have := @g_huff_Lengths_l4.eq_2; trivial
def g_huff_Lengths_l3 (k : Nat) (x3212 : (List S_huff_coin)) (x3363 : (List S_huff_coin)) : Nat → Int → (List Int) → Option (List Int)
  | 0, _, _ => none
  | n + 1, x3485, x3486 => ((some (IntKind.wrap .i64 (2 * ((List.length x3212 : Nat) : Int)))).bind fun x3514 => ((some (decide (x3485 < (IntKind.wrap .i64 (x3514 - 2))))).bind fun x3515 => (bif x3515 then ((ix x3363 x3485).bind fun x3517 => ((g_huff_Lengths_l4 k x3517 k 0 x3486).bind fun x3532 => (g_huff_Lengths_l3 k x3212 x3363 n (IntKind.wrap .i64 (x3485 + 1)) x3532))) else some x3486)))
theorem g_huff_Lengths_l3_eqs : True := by have := @g_huff_Lengths_l3.eq_2; trivial
def g_huff_Lengths (k : Nat) (x6 : (List Int)) (x7 : Int) : Option (((List Int) × Int) ⊕ ByteArray) := ((((some (decide (320 < ((List.length x6 : Nat) : Int)))).bind fun x3056 => (bif x3056 then some true else (bif (decide (x7 < 1)) then some true else some (decide (15 < x7))))) : Option Bool).bind fun x3055 => (bif x3055 then some (Sum.inl (([] : List Int), 1)) else (((g_huff_Lengths_l0 k x6 k 0 ([] : List S_huff_coin)) : Option (Unit ⊕ (List S_huff_coin))).bind fun y3193 => match y3193 with | (Sum.inl _) => some (Sum.inl (([] : List Int), 1)) | (Sum.inr x3159) => (bif (decide (0 ≤ x7)) then ((some (decide ((shlI .i64 1 x7) < ((List.length x3159 : Nat) : Int)))).bind fun x3198 => (bif x3198 then some (Sum.inl (([] : List Int), 1)) else (bif (decide (0 ≤ (((List.length x6 : Nat) : Int) : Int) ∧ (((List.length x6 : Nat) : Int) : Int) ≤ ((List.length x6 : Nat) : Int) ∧ (8 : Int) * ((List.length x6 : Nat) : Int) ≤ 281474976710656 ∧ (((List.length x6 : Nat) : Int) : Int) ≤ 9223372036854775807)) then ((some (decide (((List.length x3159 : Nat) : Int) = 1))).bind fun x3206 => (bif x3206 then ((ix x3159 0).bind fun x3208 => ((ix x3208.fsyms 0).bind fun x3209 => ((ix (List.replicate (Int.toNat ((List.length x6 : Nat) : Int)) (0 : Int)) x3209).bind fun x3210 => some (Sum.inl ((List.set (List.replicate (Int.toNat ((List.length x6 : Nat) : Int)) (0 : Int)) (Int.toNat x3209) 1), 0))))) else ((g_slices_SortStableFunc_huff_coin_huff_coin k x3159).bind fun x3212 => (((g_huff_Lengths_l1 k x7 x3212 k 0 ([] : List S_huff_coin)) : Option (ByteArray ⊕ (List S_huff_coin))).bind fun y3461 => match y3461 with | (Sum.inl x3362) => some (Sum.inr x3362) | (Sum.inr x3363) => ((g_huff_Lengths_l3 k x3212 x3363 k 0 (List.replicate (Int.toNat ((List.length x6 : Nat) : Int)) (0 : Int))).bind fun x3510 => some (Sum.inl (x3510, 0))))))) else none))) else none))))
def g_huff_judged_l0 (k : Nat) (x3549 : (List Int)) : Nat → Int → Int → Int → Option (Unit ⊕ (Int × Int))
  | 0, _, _, _ => none
  | n + 1, x3689, x3690, x3691 => ((some (decide (x3691 < ((List.length x3549 : Nat) : Int)))).bind fun x3729 => (bif x3729 then ((((ix x3549 x3691).bind fun x3748 => (((bif (decide (x3748 < 0)) then some true else some (decide (15 < x3748))) : Option Bool).bind fun x3755 => (bif x3755 then some (Sum.inl ()) else (bif (decide (0 < x3748)) then (bif (decide (0 ≤ (IntKind.wrap .i64 (15 - x3748)))) then ((some (shlI .i64 1 (IntKind.wrap .i64 (15 - x3748)))).bind fun x3761 => some (Sum.inr ((IntKind.wrap .i64 (x3689 - x3761)), (IntKind.wrap .i64 (x3690 + 1))))) else none) else some (Sum.inr (x3689, x3690)))))) : Option (Unit ⊕ (Int × Int))).bind fun y3763 => match y3763 with | (Sum.inl _) => some (Sum.inl ()) | (Sum.inr (x3746, x3747)) => (g_huff_judged_l0 k x3549 n x3746 x3747 (IntKind.wrap .i64 (x3691 + 1)))) else some (Sum.inr (x3689, x3690))))
theorem g_huff_judged_l0_eqs : True := by have := @g_huff_judged_l0.eq_2; trivial
def g_huff_judged (k : Nat) (x3549 : (List Int)) : Option (Bool × Int) := ((some (decide (320 < ((List.length x3549 : Nat) : Int)))).bind fun x3652 => (bif x3652 then some (false, 1) else (((g_huff_judged_l0 k x3549 k 32768 0 0) : Option (Unit ⊕ (Int × Int))).bind fun y3765 => match y3765 with | (Sum.inl _) => some (false, 1) | (Sum.inr (x3727, x3728)) => (bif (decide (x3727 = 0)) then some (true, 0) else (((bif (decide (x3728 = 0)) then some (decide (x3728 = 0)) else (bif (decide (x3728 = 1)) then some (decide (x3727 = 16384)) else some false)) : Option Bool).bind fun x3777 => (bif x3777 then some (false, 0) else some (false, 11)))))))
def g_huff_of (k : Nat) (x3791 : (List Int)) (x3792 : Int) : Option Unit := some ()
def g_huff_Codes_l1 (k : Nat) (x3547 : (List Int)) (x4157 : Int) : Nat → Int → (List Int) → Int → Option (((List Int) × Int) ⊕ ((List Int) × Int))
  | 0, _, _, _ => none
  | n + 1, x4267, x4268, x4269 => ((some (decide (x4267 < ((List.length x3547 : Nat) : Int)))).bind fun x4301 => (bif x4301 then ((ix x3547 x4267).bind fun x4316 => (((bif (decide (x4316 = x4157)) then ((ix x4268 x4267).bind fun x4325 => some ((!true), (List.set x4268 (Int.toNat x4267) x4269), (IntKind.wrap .u32 (x4269 + 1)))) else some (false, x4268, x4269)) : Option (Bool × (List Int) × Int)).bind fun (x4320, x4321, x4322) => (bif x4320 then some (Sum.inl (x4321, x4322)) else (g_huff_Codes_l1 k x3547 x4157 n (IntKind.wrap .i64 (x4267 + 1)) x4321 x4322)))) else some (Sum.inr (x4268, x4269))))
theorem g_huff_Codes_l1_eqs : True := by have := @g_huff_Codes_l1.eq_2; trivial
def g_huff_Codes_l0 (k : Nat) (x3547 : (List Int)) : Nat → Int → (List Int) → Int → Option (List Int)
  | 0, _, _, _ => none
  | n + 1, x4157, x4158, x4159 => (bif (decide (x4157 ≤ 15)) then ((g_huff_of k x3547 x4157).bind fun _ => (((g_huff_Codes_l1 k x3547 x4157 k 0 x4158 (shlI .u32 x4159 1)) : Option (((List Int) × Int) ⊕ ((List Int) × Int))).bind fun y4329 => match y4329 with | (Sum.inl (x4297, x4298)) => (g_huff_Codes_l0 k x3547 n (IntKind.wrap .i64 (x4157 + 1)) x4297 x4298) | (Sum.inr (x4299, x4300)) => (g_huff_Codes_l0 k x3547 n (IntKind.wrap .i64 (x4157 + 1)) x4299 x4300))) else some x4158)
theorem g_huff_Codes_l0_eqs : True := by have := @g_huff_Codes_l0.eq_2; trivial
def g_huff_Codes (k : Nat) (x3547 : (List Int)) : Option ((List Int) × Int) := ((g_huff_judged k x3547).bind fun (x4015, x4016) => (bif (!decide (x4016 = 0)) then some (([] : List Int), x4016) else (bif (decide (0 ≤ (((List.length x3547 : Nat) : Int) : Int) ∧ (((List.length x3547 : Nat) : Int) : Int) ≤ ((List.length x3547 : Nat) : Int) ∧ (4 : Int) * ((List.length x3547 : Nat) : Int) ≤ 281474976710656 ∧ (((List.length x3547 : Nat) : Int) : Int) ≤ 9223372036854775807)) then ((g_huff_Codes_l0 k x3547 k 1 (List.replicate (Int.toNat ((List.length x3547 : Nat) : Int)) (0 : Int)) 0).bind fun x4231 => some (x4231, 0)) else none)))
def g_quirelaw02_alive (k : Nat) : Option (Bool ⊕ ByteArray) := ((g_huff_Codes k ([2, 1, 3, 3] : List Int)).bind fun (x5236, x5237) => ((g_huff_Codes k ([1, 1, 1] : List Int)).bind fun (x5239, x5240) => ((g_huff_Lengths k ([5, 1, 1, 0] : List Int) 15).bind fun y5245 => match y5245 with | (Sum.inl (x5242, x5243)) => (((bif (decide (x5237 = 0)) then ((some (decide (((List.length x5236 : Nat) : Int) = 4))).bind fun x5270 => (bif x5270 then ((ix x5236 0).bind fun x5272 => (bif (decide (x5272 = 2)) then ((ix x5236 1).bind fun x5274 => (bif (decide (x5274 = 0)) then ((ix x5236 2).bind fun x5276 => (bif (decide (x5276 = 6)) then ((ix x5236 3).bind fun x5278 => (bif (decide (x5278 = 7)) then (bif (decide (x5240 = 11)) then (bif (decide (x5243 = 0)) then ((some (decide (((List.length x5242 : Nat) : Int) = 4))).bind fun x5282 => (bif x5282 then ((ix x5242 0).bind fun x5284 => (bif (decide (x5284 = 1)) then ((ix x5242 1).bind fun x5286 => (bif (decide (x5286 = 2)) then ((ix x5242 2).bind fun x5288 => (bif (decide (x5288 = 2)) then ((ix x5242 3).bind fun x5290 => some (decide (x5290 = 0))) else some false)) else some false)) else some false)) else some false)) else some false) else some false) else some false)) else some false)) else some false)) else some false)) else some false)) else some false) : Option Bool).bind fun x5268 => some (Sum.inl x5268)) | (Sum.inr x5244) => some (Sum.inr x5244))))
def g_quireref02_space_l0 (k : Nat) (x5464 : (List Int)) : Nat → Int → Int → Int → Option (Int × Int)
  | 0, _, _, _ => none
  | n + 1, x5531, x5532, x5533 => ((some (decide (x5533 < ((List.length x5464 : Nat) : Int)))).bind fun x5557 => (bif x5557 then ((((ix x5464 x5533).bind fun x5567 => (bif (decide (0 < x5567)) then ((ix x5464 x5533).bind fun x5569 => ((some (IntKind.wrap .u64 (IntKind.wrap .i64 (15 - x5569)))).bind fun x5570 => (bif (decide (0 ≤ x5570)) then ((some (IntKind.wrap .i64 (x5531 + (shlI .i64 1 x5570)))).bind fun x5572 => some (x5572, (IntKind.wrap .i64 (x5532 + 1)))) else none))) else some (x5531, x5532))) : Option (Int × Int)).bind fun (x5565, x5566) => (g_quireref02_space_l0 k x5464 n x5565 x5566 (IntKind.wrap .i64 (x5533 + 1)))) else some (x5531, x5532)))
theorem g_quireref02_space_l0_eqs : True := by have := @g_quireref02_space_l0.eq_2; trivial
def g_quireref02_space (k : Nat) (x5464 : (List Int)) : Option (Int × Int) := ((g_quireref02_space_l0 k x5464 k 0 0 0).bind fun (x5553, x5554) => some (x5553, x5554))
def g_quireref02_Right_l0 (k : Nat) (x5411 : (List Int)) : Nat → Int → Option (Unit ⊕ Unit)
  | 0, _ => none
  | n + 1, x5623 => ((some (decide (x5623 < ((List.length x5411 : Nat) : Int)))).bind fun x5648 => (bif x5648 then ((((ix x5411 x5623).bind fun x5663 => (bif (decide (x5663 < 0)) then some true else ((ix x5411 x5623).bind fun x5665 => some (decide (15 < x5665))))) : Option Bool).bind fun x5662 => (bif x5662 then some (Sum.inl ()) else (g_quireref02_Right_l0 k x5411 n (IntKind.wrap .i64 (x5623 + 1))))) else some (Sum.inr ())))
theorem g_quireref02_Right_l0_eqs : True := by have := @g_quireref02_Right_l0.eq_2; trivial
def g_quireref02_Right (k : Nat) (x5411 : (List Int)) : Option Int := ((some (decide (320 < ((List.length x5411 : Nat) : Int)))).bind fun x5599 => (bif x5599 then some 1 else (((g_quireref02_Right_l0 k x5411 k 0) : Option (Unit ⊕ Unit)).bind fun y5669 => match y5669 with | (Sum.inl _) => some 1 | (Sum.inr _) => ((g_quireref02_space k x5411).bind fun (x5671, x5672) => (((bif (decide (x5671 = 32768)) then some true else (bif (decide (x5672 = 0)) then some true else (bif (decide (x5672 = 1)) then some (decide (x5671 = 16384)) else some false))) : Option Bool).bind fun x5685 => (bif x5685 then some 0 else some 11))))))
def g_quireref02_Cost_l0 (k : Nat) (x5817 : (List Int)) (x5818 : (List Int)) : Nat → Int → Int → Option (Unit ⊕ Int)
  | 0, _, _ => none
  | n + 1, x6129, x6130 => ((((some (decide (x6130 < ((List.length x5817 : Nat) : Int)))).bind fun x6246 => (bif x6246 then ((some (decide (x6130 < ((List.length x5818 : Nat) : Int)))).bind fun x6248 => some x6248) else some false)) : Option Bool).bind fun x6245 => (bif x6245 then ((((ix x5817 x6130).bind fun x6294 => ((ix x5818 x6130).bind fun x6295 => (((bif (decide (x6294 = 0)) then some true else some (decide (x6295 = 0))) : Option Bool).bind fun x6302 => (bif x6302 then some (Sum.inl x6129) else (((bif (decide (1099511627776 < x6294)) then some true else (bif (decide (x6294 < (-1099511627776))) then some true else (bif (decide (1048576 < x6295)) then some true else some (decide (x6295 < (-1048576)))))) : Option Bool).bind fun x6318 => (bif x6318 then some (Sum.inr ()) else ((some (IntKind.wrap .i64 (x6129 + (IntKind.wrap .i64 (x6294 * x6295))))).bind fun x6324 => (((bif (decide (2305843009213693952 < x6324)) then some true else ((some (decide (x6324 < (-2305843009213693952)))).bind fun x6329 => some x6329)) : Option Bool).bind fun x6327 => (bif x6327 then some (Sum.inr ()) else some (Sum.inl x6324)))))))))) : Option (Int ⊕ Unit)).bind fun y6333 => match y6333 with | (Sum.inl x6291) => (g_quireref02_Cost_l0 k x5817 x5818 n x6291 (IntKind.wrap .i64 (x6130 + 1))) | (Sum.inr _) => some (Sum.inl ())) else some (Sum.inr x6129)))
theorem g_quireref02_Cost_l0_eqs : True := by have := @g_quireref02_Cost_l0.eq_2; trivial
def g_quireref02_Cost (k : Nat) (x5817 : (List Int)) (x5818 : (List Int)) : Option Int := (((g_quireref02_Cost_l0 k x5817 x5818 k 0 0) : Option (Unit ⊕ Int)).bind fun y6335 => match y6335 with | (Sum.inl _) => some 4611686018427387904 | (Sum.inr x6232) => some x6232)
def g_quireref02_sorted_l1 (k : Nat) (x6397 : (List S_quireref02_coin)) (x6886 : Int) (x6887 : (List S_quireref02_coin)) : Nat → Int → Option Int
  | 0, _ => none
  | n + 1, x7134 => (((bif (decide (0 < x7134)) then ((ix x6887 (IntKind.wrap .i64 (x7134 - 1))).bind fun x7240 => ((ix x6397 x6886).bind fun x7241 => some (decide (x7241.ffreq < x7240.ffreq)))) else some false) : Option Bool).bind fun x7229 => (bif x7229 then (g_quireref02_sorted_l1 k x6397 x6886 x6887 n (IntKind.wrap .i64 (x7134 - 1))) else some x7134))
theorem g_quireref02_sorted_l1_eqs : True := by have := @g_quireref02_sorted_l1.eq_2; trivial
def g_quireref02_sorted_l0 (k : Nat) (x6397 : (List S_quireref02_coin)) : Nat → Int → (List S_quireref02_coin) → Option (List S_quireref02_coin)
  | 0, _, _ => none
  | n + 1, x6886, x6887 => ((some (decide (x6886 < ((List.length x6397 : Nat) : Int)))).bind fun x7045 => (bif x7045 then ((g_quireref02_sorted_l1 k x6397 x6886 x6887 k ((List.length x6887 : Nat) : Int)).bind fun x7189 => (bif (decide (0 ≤ (0 : Int) ∧ (0 : Int) ≤ x7189 ∧ x7189 ≤ ((List.length x6887 : Nat) : Int))) then (bif (decide (((List.length ([] : List S_quireref02_coin)) + (List.length (List.drop (Int.toNat 0) (List.take (Int.toNat x7189) x6887)))) * 32 ≤ 140737488355328)) then ((ix x6397 x6886).bind fun x7247 => (bif (decide (((List.length (([] : List S_quireref02_coin) ++ (List.drop (Int.toNat 0) (List.take (Int.toNat x7189) x6887)))) + (List.length ([(⟨x7247.ffreq, x7247.fsyms⟩ : S_quireref02_coin)] : List S_quireref02_coin))) * 32 ≤ 140737488355328)) then (bif (decide (0 ≤ (x7189 : Int) ∧ (x7189 : Int) ≤ ((List.length x6887 : Nat) : Int) ∧ ((List.length x6887 : Nat) : Int) ≤ ((List.length x6887 : Nat) : Int))) then (bif (decide (((List.length ((([] : List S_quireref02_coin) ++ (List.drop (Int.toNat 0) (List.take (Int.toNat x7189) x6887))) ++ ([(⟨x7247.ffreq, x7247.fsyms⟩ : S_quireref02_coin)] : List S_quireref02_coin))) + (List.length (List.drop (Int.toNat x7189) (List.take (Int.toNat ((List.length x6887 : Nat) : Int)) x6887)))) * 32 ≤ 140737488355328)) then (g_quireref02_sorted_l0 k x6397 n (IntKind.wrap .i64 (x6886 + 1)) (((([] : List S_quireref02_coin) ++ (List.drop (Int.toNat 0) (List.take (Int.toNat x7189) x6887))) ++ ([(⟨x7247.ffreq, x7247.fsyms⟩ : S_quireref02_coin)] : List S_quireref02_coin)) ++ (List.drop (Int.toNat x7189) (List.take (Int.toNat ((List.length x6887 : Nat) : Int)) x6887)))) else none) else none) else none)) else none) else none)) else some x6887))
theorem g_quireref02_sorted_l0_eqs : True := by have := @g_quireref02_sorted_l0.eq_2; trivial
def g_quireref02_sorted (k : Nat) (x6397 : (List S_quireref02_coin)) : Option (List S_quireref02_coin) := ((g_quireref02_sorted_l0 k x6397 k 0 ([] : List S_quireref02_coin)).bind fun x7042 => some x7042)
def g_quireref02_Least_l0 (k : Nat) (x6338 : (List Int)) : Nat → Int → (List S_quireref02_coin) → Option (List S_quireref02_coin)
  | 0, _, _ => none
  | n + 1, x7519, x7520 => ((some (decide (x7519 < ((List.length x6338 : Nat) : Int)))).bind fun x7538 => (bif x7538 then ((((ix x6338 x7519).bind fun x7545 => (bif (decide (0 < x7545)) then ((ix x6338 x7519).bind fun x7547 => (bif (decide (((List.length x7520) + (List.length ([(⟨x7547, ([x7519] : List Int)⟩ : S_quireref02_coin)] : List S_quireref02_coin))) * 32 ≤ 140737488355328)) then some (x7520 ++ ([(⟨x7547, ([x7519] : List Int)⟩ : S_quireref02_coin)] : List S_quireref02_coin)) else none)) else some x7520)) : Option (List S_quireref02_coin)).bind fun x7544 => (g_quireref02_Least_l0 k x6338 n (IntKind.wrap .i64 (x7519 + 1)) x7544)) else some x7520))
theorem g_quireref02_Least_l0_eqs : True := by have := @g_quireref02_Least_l0.eq_2; trivial
def g_quireref02_Least_l2 (k : Nat) (x7633 : (List S_quireref02_coin)) : Nat → Int → (List S_quireref02_coin) → Option (List S_quireref02_coin)
  | 0, _, _ => none
  | n + 1, x7748, x7749 => ((some (decide ((IntKind.wrap .i64 (x7748 + 1)) < ((List.length x7633 : Nat) : Int)))).bind fun x7773 => (bif x7773 then ((ix x7633 x7748).bind fun x7783 => ((ix x7633 (IntKind.wrap .i64 (x7748 + 1))).bind fun x7784 => ((some (IntKind.wrap .i64 (x7783.ffreq + x7784.ffreq))).bind fun x7785 => ((ix x7633 x7748).bind fun x7786 => ((ix x7633 (IntKind.wrap .i64 (x7748 + 1))).bind fun x7787 => (bif (decide (((List.length ([] : List Int)) + (List.length x7786.fsyms)) * 8 ≤ 140737488355328)) then (bif (decide (((List.length (([] : List Int) ++ x7786.fsyms)) + (List.length x7787.fsyms)) * 8 ≤ 140737488355328)) then (bif (decide (((List.length x7749) + (List.length ([(⟨x7785, ((([] : List Int) ++ x7786.fsyms) ++ x7787.fsyms)⟩ : S_quireref02_coin)] : List S_quireref02_coin))) * 32 ≤ 140737488355328)) then (g_quireref02_Least_l2 k x7633 n (IntKind.wrap .i64 (x7748 + 2)) (x7749 ++ ([(⟨x7785, ((([] : List Int) ++ x7786.fsyms) ++ x7787.fsyms)⟩ : S_quireref02_coin)] : List S_quireref02_coin))) else none) else none) else none)))))) else some x7749))
theorem g_quireref02_Least_l2_eqs : True := by have := @g_quireref02_Least_l2.eq_2; trivial
def g_quireref02_Least_l1 (k : Nat) (x6339 : Int) (x7562 : (List S_quireref02_coin)) : Nat → (List S_quireref02_coin) → Int → Option (List S_quireref02_coin)
  | 0, _, _ => none
  | n + 1, x7633, x7634 => (bif (decide (x7634 < x6339)) then ((g_quireref02_Least_l2 k x7633 k 0 ([] : List S_quireref02_coin)).bind fun x7770 => (bif (decide (((List.length ([] : List S_quireref02_coin)) + (List.length x7562)) * 32 ≤ 140737488355328)) then (bif (decide (((List.length (([] : List S_quireref02_coin) ++ x7562)) + (List.length x7770)) * 32 ≤ 140737488355328)) then ((g_quireref02_sorted k ((([] : List S_quireref02_coin) ++ x7562) ++ x7770)).bind fun x7795 => (g_quireref02_Least_l1 k x6339 x7562 n x7795 (IntKind.wrap .i64 (x7634 + 1)))) else none) else none)) else some x7633)
theorem g_quireref02_Least_l1_eqs : True := by have := @g_quireref02_Least_l1.eq_2; trivial
def g_quireref02_Least_l4 (k : Nat) (x6338 : (List Int)) (x7705 : (List S_quireref02_coin)) (x7842 : Int) : Nat → Int → Int → Option Int
  | 0, _, _ => none
  | n + 1, x7919, x7920 => ((ix x7705 x7842).bind fun x7934 => ((some (decide (x7920 < ((List.length x7934.fsyms : Nat) : Int)))).bind fun x7935 => (bif x7935 then ((ix x7705 x7842).bind fun x7937 => ((ix x7937.fsyms x7920).bind fun x7938 => ((ix x6338 x7938).bind fun x7939 => (g_quireref02_Least_l4 k x6338 x7705 x7842 n (IntKind.wrap .i64 (x7919 + x7939)) (IntKind.wrap .i64 (x7920 + 1)))))) else some x7919)))
theorem g_quireref02_Least_l4_eqs : True := by have := @g_quireref02_Least_l4.eq_2; trivial
def g_quireref02_Least_l3 (k : Nat) (x6338 : (List Int)) (x7562 : (List S_quireref02_coin)) (x7705 : (List S_quireref02_coin)) : Nat → Int → Int → Option Int
  | 0, _, _ => none
  | n + 1, x7841, x7842 => ((((some (IntKind.wrap .i64 (2 * ((List.length x7562 : Nat) : Int)))).bind fun x7904 => ((some (decide (x7842 < (IntKind.wrap .i64 (x7904 - 2))))).bind fun x7905 => (bif x7905 then ((some (decide (x7842 < ((List.length x7705 : Nat) : Int)))).bind fun x7907 => some x7907) else some false))) : Option Bool).bind fun x7903 => (bif x7903 then ((g_quireref02_Least_l4 k x6338 x7705 x7842 k x7841 0).bind fun x7930 => (g_quireref02_Least_l3 k x6338 x7562 x7705 n x7930 (IntKind.wrap .i64 (x7842 + 1)))) else some x7841))
theorem g_quireref02_Least_l3_eqs : True := by have := @g_quireref02_Least_l3.eq_2; trivial
def g_quireref02_Least (k : Nat) (x6338 : (List Int)) (x6339 : Int) : Option Int := ((g_quireref02_Least_l0 k x6338 k 0 ([] : List S_quireref02_coin)).bind fun x7535 => ((some (decide (((List.length x7535 : Nat) : Int) = 0))).bind fun x7553 => (bif x7553 then some 0 else ((some (decide (((List.length x7535 : Nat) : Int) = 1))).bind fun x7558 => (bif x7558 then ((ix x7535 0).bind fun x7560 => some x7560.ffreq) else ((g_quireref02_sorted k x7535).bind fun x7562 => ((g_quireref02_Least_l1 k x6339 x7562 k x7562 1).bind fun x7705 => ((g_quireref02_Least_l3 k x6338 x7562 x7705 k 0 0).bind fun x7887 => some x7887))))))))
def g_quirelaw02_HuffBest_l0 (k : Nat) (x3 : (List Int)) : Nat → Int → Bool → Int → Option (Int × Bool)
  | 0, _, _, _ => none
  | n + 1, x8000, x8001, x8002 => ((some (decide (x8002 < ((List.length x3 : Nat) : Int)))).bind fun x8038 => (bif x8038 then (((((bif x8001 then some true else ((ix x3 x8002).bind fun x8060 => (bif (decide (x8060 < 0)) then some true else ((ix x3 x8002).bind fun x8062 => some (decide (1073741824 < x8062)))))) : Option Bool).bind fun x8058 => ((ix x3 x8002).bind fun x8064 => (bif (decide (0 < x8064)) then some ((IntKind.wrap .i64 (x8000 + 1)), x8058) else some (x8000, x8058)))) : Option (Int × Bool)).bind fun (x8052, x8053) => (g_quirelaw02_HuffBest_l0 k x3 n x8052 x8053 (IntKind.wrap .i64 (x8002 + 1)))) else some (x8000, x8001)))
theorem g_quirelaw02_HuffBest_l0_eqs : True := by have := @g_quirelaw02_HuffBest_l0.eq_2; trivial
def g_quirelaw02_HuffBest_l1 (k : Nat) (x3 : (List Int)) (x4 : Int) (x7947 : (List Int)) : Nat → Int → Option (Unit ⊕ Unit)
  | 0, _ => none
  | n + 1, x8174 => ((some (decide (x8174 < ((List.length x7947 : Nat) : Int)))).bind fun x8227 => (bif x8227 then ((((ix x7947 x8174).bind fun x8268 => ((ix x3 x8174).bind fun x8269 => ((some (!((decide (x8268 = 0)) == (decide (x8269 = 0))))).bind fun x8270 => (bif x8270 then some true else ((ix x7947 x8174).bind fun x8272 => some (decide (x4 < x8272))))))) : Option Bool).bind fun x8262 => (bif x8262 then some (Sum.inl ()) else (g_quirelaw02_HuffBest_l1 k x3 x4 x7947 n (IntKind.wrap .i64 (x8174 + 1))))) else some (Sum.inr ())))
theorem g_quirelaw02_HuffBest_l1_eqs : True := by have := @g_quirelaw02_HuffBest_l1.eq_2; trivial
def g_quirelaw02_HuffBest (k : Nat) (x3 : (List Int)) (x4 : Int) : Option (Bool ⊕ ByteArray) := ((g_huff_Lengths k x3 x4).bind fun y7950 => match y7950 with | (Sum.inl (x7947, x7948)) => ((g_quirelaw02_alive k).bind fun y7959 => match y7959 with | (Sum.inl x7957) => (bif (!x7957) then some (Sum.inl false) else ((((some (decide (320 < ((List.length x3 : Nat) : Int)))).bind fun x7965 => (bif x7965 then some true else (bif (decide (x4 < 1)) then some true else some (decide (15 < x4))))) : Option Bool).bind fun x7964 => ((g_quirelaw02_HuffBest_l0 k x3 k 0 x7964 0).bind fun (x8034, x8035) => (((bif x8035 then some true else (bif (decide (0 ≤ (IntKind.wrap .u64 x4))) then ((some (decide ((shlI .i64 1 (IntKind.wrap .u64 x4)) < x8034))).bind fun x8089 => some x8089) else none)) : Option Bool).bind fun x8086 => (bif x8086 then (((bif (decide (x7948 = 1)) then ((some (decide (((List.length x7947 : Nat) : Int) = 0))).bind fun x8096 => some x8096) else some false) : Option Bool).bind fun x8094 => some (Sum.inl x8094)) else (((bif (!decide (x7948 = 0)) then some true else ((some (!decide (((List.length x7947 : Nat) : Int) = ((List.length x3 : Nat) : Int)))).bind fun x8118 => (bif x8118 then some true else ((g_quireref02_Right k x7947).bind fun x8121 => some (!decide (x8121 = 0)))))) : Option Bool).bind fun x8116 => (bif x8116 then some (Sum.inl false) else (((g_quirelaw02_HuffBest_l1 k x3 x4 x7947 k 0) : Option (Unit ⊕ Unit)).bind fun y8276 => match y8276 with | (Sum.inl _) => some (Sum.inl false) | (Sum.inr _) => ((g_quireref02_Cost k x3 x7947).bind fun x8278 => ((g_quireref02_Least k x3 x4).bind fun x8280 => some (Sum.inl (decide (x8278 = x8280))))))))))))) | (Sum.inr x7958) => some (Sum.inr x7958)) | (Sum.inr x7949) => some (Sum.inr x7949))
end Go.Proofs.Ytjahhkhpchiojaa.W
namespace Go.Proofs.Ytjahhkhpchiojaa.W
open Go Go.Q Go.Proofs
set_option linter.unusedVariables false
set_option linter.unusedSimpArgs false
end Go.Proofs.Ytjahhkhpchiojaa.W
namespace Go.Proofs.Ytjahhkhpchiojaa.W
open Go Go.Q Go.Proofs
set_option linter.unusedVariables false
set_option linter.unusedSimpArgs false
set_option maxRecDepth 100000
theorem mixed : Try.prog.follows .mixedOrders = true := rfl
theorem sz3 : SzIs Try.prog 3 1 := ⟨Try.t3, rfl, rfl⟩
theorem sl22 : SlIs Try.prog 22 3 1 := ⟨Try.underlying22, sz3⟩
theorem sc3 : Sc Try.prog 3 := ⟨_, Try.t3, Try.underlying3, rfl, rfl, trivial⟩
theorem li22 : LitIs Try.prog 22 3 1 [.int .i64 0] := ⟨Try.underlying22, ⟨Try.t3, _, rfl, rfl, rfl, rfl⟩, by intro v hv; simp at hv; (try rcases hv with rfl | hv) <;> first | rfl | (subst hv; rfl) | simp_all [Value.oneCell']⟩
theorem bu34 : BuildIs Try.prog 34 (placeOf [(0, 1), (1, 1)]) [.int .i64 0, .slice none 0 0] := BuildIs.struct (it := Try.t34) rfl Try.underlying34 rfl rfl rfl (by intro v hv; simp only [List.mem_cons, List.not_mem_nil, or_false] at hv; (try rcases hv with rfl | rfl) <;> (subst_vars; rfl))
theorem sz34 : SzIs Try.prog 34 2 := ⟨Try.t34, rfl, rfl⟩
theorem li32 : LitIs Try.prog 32 34 2 [.int .i64 0, .slice none 0 0] := ⟨Try.underlying32, ⟨Try.t34, _, rfl, rfl, rfl, rfl⟩, by intro v hv; simp at hv; (try rcases hv with rfl | hv) <;> first | rfl | (subst hv; rfl) | simp_all [Value.oneCell']⟩
theorem ap32 : ApIs Try.prog 32 34 2 32 := ⟨Try.underlying32, ⟨Try.t34, _, rfl, rfl, rfl, rfl, rfl⟩, by decide, by decide⟩
theorem sl32 : SlIs Try.prog 32 34 2 := ⟨Try.underlying32, sz34⟩
theorem by3 : ∃ i, Try.prog.info? 3 = some i ∧ i.bytes = 8 := ⟨Try.t3, rfl, rfl⟩
theorem fi34_1 : FieldIs Try.prog 34 1 1 22 1 := ⟨_, _, Try.t22, Try.underlying34, rfl, rfl, rfl, rfl, rfl⟩
theorem sc22 : Sc Try.prog 22 := ⟨_, Try.t22, Try.underlying22, rfl, rfl, trivial⟩
theorem ag34 : Ag Try.prog 34 2 := ⟨_, Try.t34, Try.underlying34, rfl, rfl, trivial⟩
theorem fi34_0 : FieldIs Try.prog 34 0 0 3 1 := ⟨_, _, Try.t3, Try.underlying34, rfl, rfl, rfl, rfl, rfl⟩
theorem fn17 : FnIs Try.prog 17 := ⟨_, Try.func17, rfl, by kernel_rfl⟩
theorem fn10 : FnIs Try.prog 10 := ⟨_, Try.func10, rfl, by kernel_rfl⟩
theorem fn9 : FnIs Try.prog 9 := ⟨_, Try.func9, rfl, by kernel_rfl⟩
theorem fn22 : FnIs Try.prog 22 := ⟨_, Try.func22, rfl, by kernel_rfl⟩
theorem fn26 : FnIs Try.prog 26 := ⟨_, Try.func26, rfl, by kernel_rfl⟩
theorem fn25 : FnIs Try.prog 25 := ⟨_, Try.func25, rfl, by kernel_rfl⟩
theorem fn23 : FnIs Try.prog 23 := ⟨_, Try.func23, rfl, by kernel_rfl⟩
theorem fn18 : FnIs Try.prog 18 := ⟨_, Try.func18, rfl, by kernel_rfl⟩
theorem fn11 : FnIs Try.prog 11 := ⟨_, Try.func11, rfl, by kernel_rfl⟩
theorem fn12 : FnIs Try.prog 12 := ⟨_, Try.func12, rfl, by kernel_rfl⟩
theorem sz22 : SzIs Try.prog 22 1 := ⟨Try.t22, rfl, rfl⟩
theorem li52 : LitIs Try.prog 52 22 1 [.slice none 0 0] := ⟨Try.underlying52, ⟨Try.t22, _, rfl, rfl, rfl, rfl⟩, by intro v hv; simp at hv; (try rcases hv with rfl | hv) <;> first | rfl | (subst hv; rfl) | simp_all [Value.oneCell']⟩
theorem sl52 : SlIs Try.prog 52 22 1 := ⟨Try.underlying52, sz22⟩
theorem cn9 : Conc Try.prog 9 := ⟨_, Try.underlying9, trivial⟩
theorem ap22 : ApIs Try.prog 22 3 1 8 := ⟨Try.underlying22, ⟨Try.t3, _, rfl, rfl, rfl, rfl, rfl⟩, by decide, by decide⟩
theorem fn19 : FnIs Try.prog 19 := ⟨_, Try.func19, rfl, by kernel_rfl⟩
theorem fn13 : FnIs Try.prog 13 := ⟨_, Try.func13, rfl, by kernel_rfl⟩
theorem fn4 : FnIs Try.prog 4 := ⟨_, Try.func4, rfl, by kernel_rfl⟩
theorem fn20 : FnIs Try.prog 20 := ⟨_, Try.func20, rfl, by kernel_rfl⟩
theorem li40 : LitIs Try.prog 40 43 1 [.int .u32 0] := ⟨Try.underlying40, ⟨Try.t43, _, rfl, rfl, rfl, rfl⟩, by intro v hv; simp at hv; (try rcases hv with rfl | hv) <;> first | rfl | (subst hv; rfl) | simp_all [Value.oneCell']⟩
theorem by43 : ∃ i, Try.prog.info? 43 = some i ∧ i.bytes = 4 := ⟨Try.t43, rfl, rfl⟩
theorem ze40 : ZeroIs Try.prog 40 [.slice none 0 0] := ⟨⟨Try.t40, _, rfl, rfl, rfl⟩, by intro v hv; simp only [List.mem_cons, List.not_mem_nil, or_false] at hv; (try rcases hv with rfl) <;> (subst_vars; rfl)⟩
theorem sz40 : SzIs Try.prog 40 1 := ⟨Try.t40, rfl, rfl⟩
theorem ze43 : ZeroIs Try.prog 43 [.int .u32 0] := ⟨⟨Try.t43, _, rfl, rfl, rfl⟩, by intro v hv; simp only [List.mem_cons, List.not_mem_nil, or_false] at hv; (try rcases hv with rfl) <;> (subst_vars; rfl)⟩
theorem sz43 : SzIs Try.prog 43 1 := ⟨Try.t43, rfl, rfl⟩
theorem sc43 : Sc Try.prog 43 := ⟨_, Try.t43, Try.underlying43, rfl, rfl, trivial⟩
theorem fn21 : FnIs Try.prog 21 := ⟨_, Try.func21, rfl, by kernel_rfl⟩
theorem sc40 : Sc Try.prog 40 := ⟨_, Try.t40, Try.underlying40, rfl, rfl, trivial⟩
theorem sl40 : SlIs Try.prog 40 43 1 := ⟨Try.underlying40, sz43⟩
theorem fn14 : FnIs Try.prog 14 := ⟨_, Try.func14, rfl, by kernel_rfl⟩
theorem fn5 : FnIs Try.prog 5 := ⟨_, Try.func5, rfl, by kernel_rfl⟩
theorem fn15 : FnIs Try.prog 15 := ⟨_, Try.func15, rfl, by kernel_rfl⟩
theorem fn6 : FnIs Try.prog 6 := ⟨_, Try.func6, rfl, by kernel_rfl⟩
theorem fn7 : FnIs Try.prog 7 := ⟨_, Try.func7, rfl, by kernel_rfl⟩
theorem bu48 : BuildIs Try.prog 48 (placeOf [(0, 1), (1, 1)]) [.int .i64 0, .slice none 0 0] := BuildIs.struct (it := Try.t48) rfl Try.underlying48 rfl rfl rfl (by intro v hv; simp only [List.mem_cons, List.not_mem_nil, or_false] at hv; (try rcases hv with rfl | rfl) <;> (subst_vars; rfl))
theorem sz48 : SzIs Try.prog 48 2 := ⟨Try.t48, rfl, rfl⟩
theorem li46 : LitIs Try.prog 46 48 2 [.int .i64 0, .slice none 0 0] := ⟨Try.underlying46, ⟨Try.t48, _, rfl, rfl, rfl, rfl⟩, by intro v hv; simp at hv; (try rcases hv with rfl | hv) <;> first | rfl | (subst hv; rfl) | simp_all [Value.oneCell']⟩
theorem ap46 : ApIs Try.prog 46 48 2 32 := ⟨Try.underlying46, ⟨Try.t48, _, rfl, rfl, rfl, rfl, rfl⟩, by decide, by decide⟩
theorem sl46 : SlIs Try.prog 46 48 2 := ⟨Try.underlying46, sz48⟩
theorem fi48_0 : FieldIs Try.prog 48 0 0 3 1 := ⟨_, _, Try.t3, Try.underlying48, rfl, rfl, rfl, rfl, rfl⟩
theorem ag48 : Ag Try.prog 48 2 := ⟨_, Try.t48, Try.underlying48, rfl, rfl, trivial⟩
theorem fn16 : FnIs Try.prog 16 := ⟨_, Try.func16, rfl, by kernel_rfl⟩
theorem fi48_1 : FieldIs Try.prog 48 1 1 22 1 := ⟨_, _, Try.t22, Try.underlying48, rfl, rfl, rfl, rfl, rfl⟩
theorem fn8 : FnIs Try.prog 8 := ⟨_, Try.func8, rfl, by kernel_rfl⟩
end Go.Proofs.Ytjahhkhpchiojaa.W
