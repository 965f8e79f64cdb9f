/- Texts joined: part 2 of what LInflateBehind stands on. -/
import Derived.Test.YtpceecokdpdgfaaSInflateBehinda
import Derived.RangeFuncCalls
import Derived.Laws.BytesString
import Derived.ChangeArms
import Derived.Carry
import Derived.Lib.ConvBytes
import Derived.Lib.MakeNoZero
import Derived.Lib.UnsafeStr
import Derived.Lib.Builder
import Derived.Laws.Strings
import Derived.Laws.StructEq
import Derived.RecoverIn
import Derived.WideLaws
namespace Go.Q
open Go
set_option linter.unusedVariables false
set_option linter.unusedSimpArgs false
/-- An operation of whatever kind that comes to a value: in the words of what is walked next. -/
def Runs (P : Program) (op : Op) (ty : TypeId) (E : Env) (M : Mem) (tc : List Nat) (v : AVal) (M' : Mem) : Prop :=
  ∀ cx (fr : Fr) a w e, Hold cx e M w → Emb fr.nt e M E a → ∀ (o : Oper), o.op = op → o.type = ty → ∀ (next : Act → World → Prop) (Q : Exit → Act → World → Prop),
    (∀ x w' e', Hold cx e' M' w' → (e.le e' ∧ ∀ b, Ro.le (e.mem b) (e'.mem b)) → Val e' v x → (∀ b, b < w.heap.size → (∀ i ∈ tc, i < e.n → (M.at_ i).live e i → e.own i ≠ b) → w'.heap[b]? = w.heap[b]?) → w.heap.size ≤ w'.heap.size → next (a.put o.dst x) w') →
    o.wpIn (fence P fr.r) 0 P a w next Q
theorem Does.runs {P : Program} {op : Op} {ty : TypeId} {E : Env} {M M' : Mem} {tc : List Nat} {v : AVal} (h : Does P op ty E M tc v M') : Runs P op ty E M tc v M' :=
  fun cx fr a w e hh he o ho ht next Q k => by
    obtain ⟨x, w', e', hr, hh', hle, hv, h1, h2⟩ := h cx fr.nt a w e hh he
    refine ⟨about_some (o := o) (by rw [execOp_one, ho, ht]; exact hr), ?_⟩
    rw [semAt_value (by rw [ho, ht]; exact hr)]
    exact k x w' e' hh' hle hv h1 h2
/-- An operation that panics. -/
def RunsP (P : Program) (op : Op) (ty : TypeId) (E : Env) (M : Mem) (v : AVal) (M' : Mem) : Prop :=
  ∀ cx (fr : Fr) a w e, Hold cx e M w → Emb fr.nt e M E a → ∀ (o : Oper), o.op = op → o.type = ty → ∀ (next : Act → World → Prop) (Q : Exit → Act → World → Prop),
    (∀ x w' e', Hold cx e' M' w' → (e.le e' ∧ ∀ b, Ro.le (e.mem b) (e'.mem b)) → Val e' v x → Q (.panic [{ v := x, recovered := false }]) a w') →
    o.wpIn (fence P fr.r) 0 P a w next Q
/-- A function of the program that has a body. -/
structure FnIs (P : Program) (f : FuncId) : Prop where
  h : ∃ fn, P.funcs[f]? = some fn ∧ fn.body.isSome = true ∧ (fn.name == "runtime.NumGoroutine") = false
/-- The arguments, in the caller's words and in the callee's. -/
def ArgsOk (M : Mem) (s bor : List Nat) (n : Nat) (la lc : List AVal) : Prop :=
  ∀ cx e w, Hold cx e M w → borOk M s bor → ∀ vs, Vals e la vs → Vals (calleeNv e w s bor n) lc vs
section
variable {M : Mem} {s bor : List Nat} {n : Nat} {la lc : List AVal}
theorem ArgsOk.nil : ArgsOk M s bor n [] [] := fun _ _ _ _ _ _ h => by simpa [Vals] using h
theorem ArgsOk.cons {a c : AVal} (h : ∀ cx e w, Hold cx e M w → borOk M s bor → ∀ v, Val e a v → Val (calleeNv e w s bor n) c v) (k : ArgsOk M s bor n la lc) : ArgsOk M s bor n (a :: la) (c :: lc) :=
  fun cx e w hh hb vs hv => by
    simp only [Vals] at hv ⊢
    obtain ⟨v, ws, rfl, h1, h2⟩ := hv
    exact ⟨v, ws, rfl, h cx e w hh hb v h1, k cx e w hh hb ws h2⟩
theorem Val.lend {cx : Cx} {e : Nv} {w : World} {a : AVal} {v : Value} (hh : Hold cx e M w) (hb : borOk M s bor) (h : Val e a v) : Val (e.lend w (lent e bor)) a v :=
  Val.mono (e := e) (e' := e.lend w (lent e bor)) ⟨Ro.le.refl _, lend_bm hh hb, Nat.le_refl _, fun _ _ => rfl, fun _ _ => rfl, fun _ _ => rfl, fun _ _ => rfl, fun _ _ => rfl⟩ (mem_same rfl (lend_bm hh hb)) h
/-- An argument handed over as it is. -/
theorem ArgsOk.ren {a c : AVal} (ha : a = c.ren (sub s)) (hu : c.under n = true) (k : ArgsOk M s bor n la lc) : ArgsOk M s bor n (a :: la) (c :: lc) :=
  .cons (fun cx e w hh hb v hv => by
    subst ha
    exact (Val.lend hh hb hv).re hu) k
/-- What is read only, borrowed. -/
theorem ArgsOk.ro {α : Type} {R : Rd α} {d : α} (k : ArgsOk M s bor n la lc) : ArgsOk M s bor n (.ro R false d :: la) (.ro R true d :: lc) :=
  .cons (fun cx e w hh hb v hv => by
    have := Val.lend hh hb hv
    simp only [Val] at this ⊢
    refine R.mono ?_ this
    intro k o hk
    rw [Nv.mem_false] at hk
    show Nv.mem _ true k = some o
    unfold Nv.mem
    have : (calleeNv e w s bor n).m k = some o := hk
    rw [this]) k
/-- Nil as an empty slice. -/
theorem ArgsOk.nilSlice {α : Type} {R : Rd α} {b : Bool} (k : ArgsOk M s bor n la lc) : ArgsOk M s bor n (.lit (.slice none 0 0) :: la) (.ro (Rd.slice R) b [] :: lc) :=
  .cons (fun cx e w hh hb v hv => by
    simp only [Val] at hv
    subst hv
    simp only [Val, Rd.slice]
    exact .inl ⟨trivial, none, 0, rfl⟩) k
/-- A row of our own, borrowed. -/
theorem ArgsOk.row {α : Type} {R : Rd α} {l : List α} {i : Nat} {t : TypeId} (hc : M.at_ i = .row t R l) (hi : bor.contains i = true) (k : ArgsOk M s bor n la lc) : ArgsOk M s bor n (.whole i :: la) (.ro (Rd.slice R) true l :: lc) :=
  .cons (fun cx e w hh hb v hv => by
    simp only [Val] at hv
    have hk := hh.ch i hv.1
    rw [hc] at hk
    obtain ⟨g1, g2, g3, g4⟩ := hk
    have hv3 := hv.2.2
    simp only [Val, Rd.slice]
    cases hvir : e.vir i with
    | true =>
      rw [hvir] at hv3 g4
      simp only [if_true] at hv3 g4
      subst g4
      exact .inl ⟨rfl, none, 0, by rw [hv3.1]⟩
    | false =>
      rw [hvir] at hv3 g4
      simp only [Bool.false_eq_true, if_false] at hv3 g4
      obtain ⟨c, z, hbk, hz, hcs, hrow⟩ := g4
      have hlive : (M.at_ i).live e i := by rw [hc]; exact hvir
      have hli := hh.live i hv.1 hlive
      refine .inr ⟨e.own i, 0, c, t, z, e.caps i, by rw [hv3, g1], g2, ?_, ?_⟩
      · have h1 : (calleeNv e w s bor n).m (e.own i) = none := hli.2.1
        have h2 : (calleeNv e w s bor n).bm (e.own i) = some (.cells c t z) := by
          show (if ((lent e bor).any fun j => e.own j == e.own i) then w.heap[e.own i]? else e.bm (e.own i)) = _
          rw [if_pos]
          · exact hbk
          · exact List.any_eq_true.2 ⟨i, List.mem_filter.2 ⟨by simpa using hi, by simp [hvir]⟩, by simp⟩
        unfold Nv.mem
        rw [h1]
        simp only [if_true]
        exact h2
      · rw [List.drop_zero]
        refine rows_mono ?_ hrow
        intro k o hk
        unfold Nv.mem
        have : (calleeNv e w s bor n).m k = some o := hk
        rw [this]) k
/-- A struct of our own behind a pointer, borrowed. -/
theorem ArgsOk.cells {α : Type} {R : Rd α} {d : α} {l : List AVal} {i : Nat} {t : TypeId} (hc : M.at_ i = .cells t l) (hj : Joins R false d l) (hl : Nat.beq l.length R.sz = true) (hi : bor.contains i = true) (k : ArgsOk M s bor n la lc) :
    ArgsOk M s bor n (.ptr i 0 :: la) (.ro (Rd.ptr R) true d :: lc) :=
  .cons (fun cx e w hh hb v hv => by
    simp only [Val] at hv
    have hk := hh.ch i hv.1
    rw [hc] at hk
    obtain ⟨hvir, vs, hbk, hvs, ho⟩ := hk
    have hlive : (M.at_ i).live e i := by rw [hc]; trivial
    have hli := hh.live i hv.1 hlive
    simp only [Val, Rd.ptr]
    refine ⟨e.own i, 0, vs.toArray, t, (0, 0), by rw [hv.2.2], ?_, ?_⟩
    · have h1 : (calleeNv e w s bor n).m (e.own i) = none := hli.2.1
      have h2 : (calleeNv e w s bor n).bm (e.own i) = some (.cells vs.toArray t (0, 0)) := by
        show (if ((lent e bor).any fun j => e.own j == e.own i) then w.heap[e.own i]? else e.bm (e.own i)) = _
        rw [if_pos]
        · exact hbk
        · exact List.any_eq_true.2 ⟨i, List.mem_filter.2 ⟨by simpa using hi, by simp [hvir]⟩, by simp⟩
      unfold Nv.mem
      rw [h1]
      simp only [if_true]
      exact h2
    · have hok := hj e vs hvs ho
      rw [Nv.mem_false] at hok
      have hlen : vs.length = R.sz := by rw [hvs.length]; simpa using hl
      rw [List.drop_zero, List.toList_toArray, List.take_of_length_le (by omega)]
      refine R.mono ?_ hok
      intro k o hk
      unfold Nv.mem
      have : (calleeNv e w s bor n).m k = some o := hk
      rw [this]) k
end
section
variable {P : Program} {ty : TypeId} {E : Env} {M Mc Mc' : Mem} {fo : Operand} {f : FuncId} {cap lc : List AVal} {np N : Nat} {args : Array Operand} {tys : Array TypeId} {s t bor : List Nat} {v : AVal}
theorem run_enter {P : Program} {ρ : Operand → Value} {w : World} {us : List Value} (hfn : FnIs P f) (hf : ρ fo = .func (.func f) #[] us.toArray) :
    (exec1 ρ (.call { callee := .value fo, args := args, argTypes := tys }) ty).run P w = .ok (.enter f (args.map ρ ++ us.toArray)) w := by
  obtain ⟨fn, h1, h2, h3⟩ := hfn.h
  have hn : fn.body.isNone = false := by cases hb : fn.body <;> simp [hb] at h2 ⊢
  have h3' : ¬ fn.name = "runtime.NumGoroutine" := by simpa using h3
  simp [exec1, execOp, resolve, Deferred.ofValue, hf, invoke, callFunc, h1, hn, h3']
  intro h
  rw [h] at h2
  simp at h2
theorem call_core {Qs : Out → Mem → Prop} (hfn : FnIs P f) (hcal : E.ev fo = .fn f cap) (hspec : Spec P f np lc Mc Qs) (hM : LeM s 0 M Mc) (hnp : (Nat.ble np Mc.n && noMarks Mc) = true) (hbor : borOk M s bor)
    (hargs : ArgsOk M s bor Mc.n (args.toList.map E.ev ++ cap) lc) {cx : Cx} {fr : Fr} {a : Act} {w : World} {e : Nv} (hh : Hold cx e M w) (he : Emb fr.nt e M E a) {o : Oper} (ho : o.op = .call { callee := .value fo, args := args, argTypes := tys }) (ht : o.type = ty)
    {next : Act → World → Prop} {Q : Exit → Act → World → Prop}
    (k : ∀ cx' Mc' e' w' out x, Entry cx' np (calleeNv e w s bor Mc.n) Mc w → Hold cx' (calleeNv e w s bor Mc.n) Mc w → Qs out Mc' → Hold cx' e' Mc' w' → out.is e' x →
      match x with
      | .returned u => next (a.put o.dst u) w'
      | .panicked c => Q (.panic c) a w'
      | .outgrown => True) :
    o.wpIn (fence P fr.r) 0 P a w next Q := by
  have hv := he.ev fo
  rw [hcal] at hv
  simp only [Val] at hv
  obtain ⟨us, h1, h2⟩ := hv
  refine ⟨about_some (o := o) (by rw [execOp_one, ho, ht]; exact run_enter hfn h1), ?_⟩
  rw [Oper.semAt_eq _ _ _ (by rw [ho]; intro c hc; cases hc), execOp_one, ho, ht, run_enter hfn h1]
  refine ⟨fun h => by simp at h, ?_⟩
  obtain ⟨cx', hent, hin⟩ := hh.enter hM hnp hbor
  have hvals : Vals (calleeNv e w s bor Mc.n) lc (args.toList.map a.eval ++ us) := hargs cx e w hh hbor _ ((evs he args.toList).append h2)
  have hcall := hspec cx' _ w _ hent hin hvals
  have harr : (args.toList.map a.eval ++ us).toArray = args.map a.eval ++ us.toArray := by apply Array.ext'; simp
  rw [harr] at hcall
  have hcall' : CallsIn (fence P fr.r) 0 P f (args.map a.eval ++ us.toArray) w fun x w' => ∃ o M' e', Qs o M' ∧ Hold cx' e' M' w' ∧ o.is e' x := by
    cases hr : fr.r with
    | none => exact hcall
    | some l => exact CallsIn.inRound l hcall
  refine hcall'.mono fun x w' ⟨out, M', e', hq, hh', his⟩ => ?_
  have := k cx' M' e' w' out x hent hin hq hh' his
  cases x with
  | returned u => exact this
  | panicked c => exact this
  | outgrown =>
    cases out with
    | ret v => obtain ⟨u, hu, _⟩ := his; cases hu
    | pan v => obtain ⟨u, hu, _⟩ := his; cases hu
/-- A call that returns. -/
theorem runs_call (hfn : FnIs P f) (hcal : E.ev fo = .fn f cap) (hspec : Spec P f np lc Mc (fun o M' => o = .ret v ∧ M' = Mc')) (hM : LeM s 0 M Mc) (hnp : (Nat.ble np Mc.n && noMarks Mc) = true) (hbor : borOk M s bor)
    (hargs : ArgsOk M s bor Mc.n (args.toList.map E.ev ++ cap) lc) (htau : tauOk s t np M.n Mc.n Mc'.n N = true) (hp : AllLt Mc'.n fun j => (Mc'.at_ j).pers bor.isEmpty = true) (hpv : v.pers bor.isEmpty = true) :
    Runs P (.call { callee := .value fo, args := args, argTypes := tys }) ty E M s (v.ren (sub t)) (merge M s t Mc' N) :=
  fun cx fr a w e hh he o ho ht next Q k => by
    refine call_core hfn hcal hspec hM hnp hbor hargs hh he ho ht fun cx' M' e' w' out x hent hin hq hh' his => ?_
    obtain ⟨rfl, rfl⟩ := hq
    obtain ⟨u, rfl, hu⟩ := his
    obtain ⟨e2, g1, g2, g3, g4, g5⟩ := hh.leave hM hbor hent hin hh' htau hp
    exact k u w' e2 g1 g2 (hu.into g3 hpv) g4 g5
/-- A call that panics. -/
theorem runs_callP (hfn : FnIs P f) (hcal : E.ev fo = .fn f cap) (hspec : Spec P f np lc Mc (fun o M' => o = .pan v ∧ M' = Mc')) (hM : LeM s 0 M Mc) (hnp : (Nat.ble np Mc.n && noMarks Mc) = true) (hbor : borOk M s bor)
    (hargs : ArgsOk M s bor Mc.n (args.toList.map E.ev ++ cap) lc) (htau : tauOk s t np M.n Mc.n Mc'.n N = true) (hp : AllLt Mc'.n fun j => (Mc'.at_ j).pers bor.isEmpty = true) (hpv : v.pers bor.isEmpty = true) :
    RunsP P (.call { callee := .value fo, args := args, argTypes := tys }) ty E M (v.ren (sub t)) (merge M s t Mc' N) :=
  fun cx fr a w e hh he o ho ht next Q k => by
    refine call_core hfn hcal hspec hM hnp hbor hargs hh he ho ht fun cx' M' e' w' out x hent hin hq hh' his => ?_
    obtain ⟨rfl, rfl⟩ := hq
    obtain ⟨u, rfl, hu⟩ := his
    obtain ⟨e2, g1, g2, g3, g4, g5⟩ := hh.leave hM hbor hent hin hh' htau hp
    exact k u w' e2 g1 g2 (hu.into g3 hpv)
end
section
variable {P : Program} {cx : Cx} {fr : Fr} {ops : Array Oper} {os : List Oper} {E : Env} {M M' : Mem} {Q : Ex → Env → Mem → Prop} {op : Op} {ty : TypeId} {pos : String} {after : Array Edge} {dst : Nat} {v : AVal} {tc : List Nat}
/-- A call in a walk. -/
theorem WPL.c (h : Runs P op ty E M tc v M') (ht : Nat.blt dst fr.nt = true) (k : WPL P cx fr ops os (E.upd dst v) M' Q) :
    WPL P cx fr ops ({ dst := some dst, op := op, type := ty, pos := pos, after := after, guard := Option.none } :: os) E M Q := by
  intro a w e hh he
  unfold wpListIn
  rw [if_pos (by rfl)]
  refine h cx fr a w e hh he _ rfl rfl _ _ fun x w' e' hh' hle hv _ _ => ?_
  exact k _ w' e' hh' ((he.mono hle.1 hle.2).put ht hv)
theorem WPL.cg {j t : Nat} {b : Bool} (hj : (ops[j]?).bind (·.dst) = some t) (htj : Nat.blt t fr.nt = true) (hv : E.v t = .lit (.bool b)) (h : Runs P op ty E M tc v M') (ht : Nat.blt dst fr.nt = true) (k : WPL P cx fr ops os (E.upd dst v) M' Q) :
    WPL P cx fr ops ({ dst := some dst, op := op, type := ty, pos := pos, after := after, guard := some (j, b) } :: os) E M Q := by
  intro a w e hh he
  have hw : Region.wanted { dst := some dst, op := op, type := ty, pos := pos, after := after, guard := some (j, b) } (yielded ops a.tmps) = true := by
    simp [Region.wanted, yields he hj htj hv]
  unfold wpListIn
  rw [if_pos hw]
  refine h cx fr a w e hh he _ rfl rfl _ _ fun x w' e' hh' hle hv _ _ => ?_
  exact k _ w' e' hh' ((he.mono hle.1 hle.2).put ht hv)
/-- A call that panics, in a walk. -/
theorem WPL.p {d : Option Nat} (h : RunsP P op ty E M v M') (k : Q (.panic v) E M') :
    WPL P cx fr ops ({ dst := d, op := op, type := ty, pos := pos, after := after, guard := Option.none } :: os) E M Q := by
  intro a w e hh he
  unfold wpListIn
  rw [if_pos (by rfl)]
  refine h cx fr a w e hh he _ rfl rfl _ _ fun x w' e' hh' hle hv => ?_
  exact ⟨.panic v, E, M', e', k, hh', ⟨⟨he.d.mono hle.1, fun t _ => (he.v t).mono hle.1 hle.2⟩, fun p hp => (he.o p hp).mono hle.1 hle.2⟩, x, rfl, hv⟩
/-- THE WALK of a region that draws its order, some of its operations over: 'st': the chunks that no operation touches that is still to come, ahead of those of X. -/
def WPD (P : Program) (cx : Cx) (fr : Fr) (ops : Array Oper) (st X : List Nat) (fuel : Nat) (listed : Array Bool) (E : Env) (M : Mem) (Q : Ex → Env → Mem → Prop) : Prop :=
  ∀ a w e, Hold cx e M w → Emb fr.nt e M E a → wpAnyF P fr.r .any ops (Sat cx fr Q) (Agree e [] w) (Agree e st w) X fuel listed a w
def takeB (ops : Array Oper) (X : List Nat) (listed : Array Bool) (i : Nat) : Bool :=
  Region.noSelect ops && Region.free .any ops listed i && (Region.ready .any ops listed).contains i && !X.contains i &&
  X.all fun j => listed.getD j true || behind .any ops listed i ops.size j
def readyIs (ops : Array Oper) (listed : Array Bool) (i : Nat) : Bool := Region.ready .any ops listed == [i]
def readyNo (ops : Array Oper) (listed : Array Bool) : Bool := (Region.ready .any ops listed).isEmpty
variable {st st' X X' : List Nat} {fuel : Nat} {listed : Array Bool} {i : Nat}
theorem take_spec (hb : takeB ops X listed i = true) : Region.noSelect ops = true ∧ Region.free .any ops listed i = true ∧ (Region.ready .any ops listed).contains i = true ∧ X.contains i = false ∧
    ∀ j, X.contains j = true → j ≠ i → listed.getD j true = false → ∃ n, behind .any ops listed i n j = true := by
  simp only [takeB, Bool.and_eq_true, Bool.not_eq_true'] at hb
  obtain ⟨⟨⟨⟨h1, h2⟩, h3⟩, h4⟩, h5⟩ := hb
  refine ⟨h1, h2, h3, h4, fun j hjX _ hun => ?_⟩
  have := List.all_eq_true.1 h5 j (by simpa using hjX)
  rw [hun] at this
  exact ⟨_, by simpa using this⟩
def takeTB (ops : Array Oper) (X : List Nat) (listed : Array Bool) (i : Nat) : Bool :=
  Region.noSelect ops && Region.free .any ops listed i && (Region.ready .any ops listed).contains i && !X.contains i
theorem takeTB_spec (hb : takeTB ops X listed i = true) : Region.noSelect ops = true ∧ Region.free .any ops listed i = true ∧ (Region.ready .any ops listed).contains i = true ∧ X.contains i = false := by
  simp only [takeTB, Bool.and_eq_true, Bool.not_eq_true'] at hb
  obtain ⟨⟨⟨h1, h2⟩, h3⟩, h4⟩ := hb
  exact ⟨h1, h2, h3, h4⟩
theorem Agree.nil_of {e : Nv} {st : List Nat} {w w1 : World} (h : Agree e st w w1) : Agree e [] w w1 := ⟨h.ro, h.bro, fun _ hi => by cases hi⟩
theorem Fr.okd_lt {fr : Fr} {d : Nat} (h : fr.okd d = true) : Nat.blt d fr.nt = true := by unfold Fr.okd at h; rw [Bool.and_eq_true] at h; exact h.1
theorem Fr.okd_pin {fr : Fr} {d : Nat} (h : fr.okd d = true) : ∀ t, some d = some t → fr.pin.contains t = false := by
  unfold Fr.okd at h
  rw [Bool.and_eq_true, Bool.not_eq_true'] at h
  rintro t ⟨⟩
  exact h.2
theorem sat_panic {a : Act} {d : Option Tmp} {x : Value} (hd : ∀ t, d = some t → fr.pin.contains t = false) : ∀ c a' w, Sat cx fr Q (.panic c) (a'.put d x) w → Sat cx fr Q (.panic c) a' w := by
  rintro c a' w ⟨y, E, M, e, q, h1, h2, h3⟩
  cases y with
  | panic v =>
    have hdf : (a'.put d x).defers = a'.defers := by cases d <;> rfl
    have h21 := h2.1.1
    rw [hdf] at h21
    refine ⟨.panic v, E, M, e, q, h1, ⟨⟨h21, fun t ht => ?_⟩, h2.2⟩, h3⟩
    have h4 := h2.1.2 t ht
    cases d with
    | none => exact h4
    | some d0 =>
      have hne : d0 ≠ t := fun e0 => by subst e0; rw [hd _ rfl] at ht; cases ht
      simp only [Act.put, Array.getD_eq_getD_getElem?] at h4 ⊢
      rwa [Array.getElem?_setIfInBounds_ne hne] at h4
  | normal => cases h3
  | exit id => cases h3
  | goto l => cases h3
  | ret => cases h3
theorem sat_outgrown : ¬ LetsOut (Sat cx fr Q) := by
  rintro ⟨a, w, y, E, M, e, q, h1, h2, h3⟩
  cases y with
  | panic v => obtain ⟨_, h, _⟩ := h3; cases h
  | normal => cases h3
  | exit id => cases h3
  | goto l => cases h3
  | ret => cases h3
/-- A quiet operation is taken first. -/
theorem WPD.take (i : Nat) {st0 : List Nat} (ho : ops[i]? = some { dst := some dst, op := op, type := ty, pos := pos, after := after, guard := Option.none }) (hb : takeB ops X listed i = true) (h : Quiet P op ty E M st0 v) (hs : (st0.all st.contains) = true)
    (ht : fr.okd dst = true) (k : WPD P cx fr ops st X fuel (listed.setIfInBounds i true) (E.upd dst v) M Q) : WPD P cx fr ops st X (fuel + 1) listed E M Q := by
  intro a w e hh he
  obtain ⟨b1, b2, b3, b4, b5⟩ := take_spec hb
  obtain ⟨x, hv, hr⟩ := h cx fr.nt a w e hh he
  refine wpAnyF_first ho (Region.noSelect_spec b1) (fun c a' w' => sat_panic (a := a) (Fr.okd_pin ht) c a' w') sat_outgrown fuel listed a w (Region.free_spec ho b2) b5 (by simpa using b3) ?_ (Agree.of_hold hh st) b4 ?_ (v := x)
  · exact .inl ⟨rfl, fun w1 hw => hr w1 ⟨hw.ro, hw.bro, fun j hj => hw.own j (by have := List.all_eq_true.1 hs j hj; simpa using this)⟩⟩
  · exact k _ w e hh (he.put (Fr.okd_lt ht) hv)
/-- A quiet operation that reads nothing of our own is taken first. -/
theorem WPD.takeT (i : Nat) (ho : ops[i]? = some { dst := some dst, op := op, type := ty, pos := pos, after := after, guard := Option.none }) (hb : takeTB ops X listed i = true) (h : Quiet P op ty E M [] v)
    (ht : fr.okd dst = true) (k : WPD P cx fr ops st X fuel (listed.setIfInBounds i true) (E.upd dst v) M Q) : WPD P cx fr ops st X (fuel + 1) listed E M Q := by
  intro a w e hh he
  obtain ⟨b1, b2, b3, b4⟩ := takeTB_spec hb
  obtain ⟨x, hv, hr⟩ := h cx fr.nt a w e hh he
  refine wpAnyF_firstT ho (Region.noSelect_spec b1) (fun c a' w' => sat_panic (a := a) (Fr.okd_pin ht) c a' w') sat_outgrown (fun _ h => h.nil_of) fuel listed a w (Region.free_spec ho b2) (by simpa using b3) ?_ (Agree.of_hold hh st) b4 ?_ (v := x)
  · exact .inl ⟨rfl, fun w1 hw => hr w1 hw⟩
  · exact k _ w e hh (he.put (Fr.okd_lt ht) hv)
/-- A guarded one that is passed over. -/
theorem WPD.pass (i : Nat) {j t : Nat} {b b' : Bool} {d : Option Nat} (ho : ops[i]? = some { dst := d, op := op, type := ty, pos := pos, after := after, guard := some (j, b) }) (hb : takeTB ops X listed i = true)
    (hj : (ops[j]?).bind (·.dst) = some t) (htj : Nat.blt t fr.nt = true) (hv : E.v t = .lit (.bool b')) (hne : (b' == b) = false)
    (hd : (match d with | some d => fr.okd d | none => true) = true) (hsk : SkipOkE P E op) (k : WPD P cx fr ops st X fuel (listed.setIfInBounds i true) (match d with | some d => E.upd d (.lit undef) | none => E) M Q) : WPD P cx fr ops st X (fuel + 1) listed E M Q := by
  intro a w e hh he
  obtain ⟨b1, b2, b3, b4⟩ := takeTB_spec hb
  refine wpAnyF_firstT ho (Region.noSelect_spec b1) (fun c a' w' => sat_panic (a := a) (d := d) (fun t e0 => by subst e0; exact Fr.okd_pin hd t rfl) c a' w') sat_outgrown (fun _ h => h.nil_of) fuel listed a w (Region.free_spec ho b2) (by simpa using b3) ?_ (Agree.of_hold hh st) b4 ?_ (v := undef)
  · refine .inr ⟨?_, rfl, fun _ => hsk.about he rfl⟩
    simp [Region.wanted, yields he hj htj hv]
    simpa using hne
  · cases d with
    | none => exact k _ w e hh he
    | some d => exact k _ w e hh (he.put (Fr.okd_lt hd) (by simp [Val]))
/-- The only one that may come up has an effect. -/
def Chunk.isOwn : Chunk → Bool
  | .cells .. | .row .. => true
  | _ => false
theorem WPD.eff_core (i : Nat) (st' X' : List Nat) {o : Oper} {E' : Env} (ho : ops[i]? = some o) (hb : readyIs ops listed i = true)
    (hg : ∀ a e, Emb fr.nt e M E a → Region.wanted o (yielded ops a.tmps) = true)
    (hs : (X.contains i || (X'.all X.contains && st.all fun j => st'.contains j && Nat.blt j M.n && (M.at_ j).isOwn && !(tc.contains j))) = true)
    (hstep : ∀ a w e, Hold cx e M w → Emb fr.nt e M E a → ∀ (next : Act → World → Prop) (Q : Exit → Act → World → Prop),
      (∀ a' w' e', Hold cx e' M' w' → e.le e' → Emb fr.nt e' M' E' a' → (∀ b, b < w.heap.size → (∀ i ∈ tc, i < e.n → (M.at_ i).live e i → e.own i ≠ b) → w'.heap[b]? = w.heap[b]?) → next a' w') →
      o.wpIn (fence P fr.r) 0 P a w next Q)
    (k : WPD P cx fr ops st' X' fuel (listed.setIfInBounds i true) E' M' Q) : WPD P cx fr ops st X (fuel + 1) listed E M Q := by
  intro a w e hh he
  have hready : Region.ready .any ops listed = [i] := by simpa [readyIs] using hb
  refine ⟨fun h => (by rw [hready] at h; cases h), fun j hj => ?_⟩
  rw [hready] at hj
  obtain rfl : j = i := by simpa using hj
  unfold wpOpIn
  simp only [ho]
  rw [if_pos (hg _ _ he)]
  refine hstep a w e hh he _ _ fun a' w' e' hh' hle he' hfr => ?_
  have hk := k a' w' e' hh' he'
  have hag : ∀ {st'' : List Nat} w1, Agree e' st'' w' w1 → Agree e [] w w1 := fun w1 hw => ⟨fun b o hb => hw.ro b o (hle.m b o hb), fun b o hb => hw.bro b o (hle.bm b o hb), fun _ hi => by cases hi⟩
  cases hx : X.contains j with
  | true => exact .inl ⟨rfl, hag _ (Agree.of_hold hh' st'), wpAnyG_of_F (fun w1 h => hag w1 h) (fun w1 h => hag w1 h) _ _ _ _ hk⟩
  | false =>
    rw [hx, Bool.false_or, Bool.and_eq_true] at hs
    have hst : ∀ x ∈ st, e.vir x = false → x < e.n ∧ w'.heap[e.own x]? = w.heap[e.own x]? ∧ x ∈ st' := by
      intro x hx hvx
      have h := List.all_eq_true.1 hs.2 x hx
      simp only [Bool.and_eq_true, Nat.blt_eq, Bool.not_eq_true'] at h
      obtain ⟨⟨⟨h1, h2⟩, h3⟩, h4⟩ := h
      have hxn : x < e.n := by rw [hh.n]; exact h2
      have hlx : (M.at_ x).live e x := by
        cases hc : M.at_ x with
        | cells t l => trivial
        | row t R l => exact hvx
        | gone => rw [hc] at h3; simp [Chunk.isOwn] at h3
        | obj o => rw [hc] at h3; simp [Chunk.isOwn] at h3
        | bag => rw [hc] at h3; simp [Chunk.isOwn] at h3
      refine ⟨hxn, hfr _ (hh.live x hxn hlx).1 fun y hy hyn hly hxy => ?_, by simpa using h1⟩
      have := hh.dist y x hyn hxn hly hlx hxy
      subst this
      rw [List.contains_eq_mem] at h4
      simp [hy] at h4
    have hmono : ∀ w1, Agree e' st' w' w1 → Agree e st w w1 := by
      intro w1 hw
      refine ⟨fun b o hb => hw.ro b o (hle.m b o hb), fun b o hb => hw.bro b o (hle.bm b o hb), fun x hx hvx => ?_⟩
      obtain ⟨h1, h2, h3⟩ := hst x hx hvx
      have := hw.own x h3 ((hle.vir x h1).trans hvx)
      rw [hle.own x h1] at this
      exact this.trans h2
    refine .inr ⟨rfl, hmono _ (Agree.of_hold hh' st'), wpAnyF_mono (fun w1 h => hag w1 h) (fun w1 h => hag w1 h) hmono (fun y hy => ?_) _ _ _ _ hk⟩
    exact List.all_eq_true.1 hs.1 y (by simpa using hy)
theorem WPD.eff (i : Nat) (st' X' : List Nat) (ho : ops[i]? = some { dst := some dst, op := op, type := ty, pos := pos, after := after, guard := Option.none }) (hb : readyIs ops listed i = true)
    (h : Runs P op ty E M tc v M') (hs : (X.contains i || (X'.all X.contains && st.all fun j => st'.contains j && Nat.blt j M.n && (M.at_ j).isOwn && !(tc.contains j))) = true) (ht : Nat.blt dst fr.nt = true)
    (k : WPD P cx fr ops st' X' fuel (listed.setIfInBounds i true) (E.upd dst v) M' Q) : WPD P cx fr ops st X (fuel + 1) listed E M Q :=
  WPD.eff_core (tc := tc) (M' := M') i st' X' ho hb (fun _ _ _ => rfl) hs (fun a w e hh he next Q' hk => h cx fr a w e hh he _ rfl rfl _ _ fun x w' e' hh' hle hv hfr _ =>
    hk _ w' e' hh' hle.1 ((he.mono hle.1 hle.2).put ht hv) hfr) k
theorem WPD.effS (i : Nat) (st' X' : List Nat) (ho : ops[i]? = some { dst := Option.none, op := op, type := ty, pos := pos, after := after, guard := Option.none }) (hb : readyIs ops listed i = true)
    (h : DoesS P op ty E M tc M') (hs : (X.contains i || (X'.all X.contains && st.all fun j => st'.contains j && Nat.blt j M.n && (M.at_ j).isOwn && !(tc.contains j))) = true)
    (k : WPD P cx fr ops st' X' fuel (listed.setIfInBounds i true) E M' Q) : WPD P cx fr ops st X (fuel + 1) listed E M Q :=
  WPD.eff_core (tc := tc) (M' := M') i st' X' ho hb (fun _ _ _ => rfl) hs (fun a w e hh he next Q' hk => by
    obtain ⟨w', e', hr, hh', hle, hfr, _⟩ := h cx fr.nt a w e hh he
    refine ⟨about_some hr, ?_⟩
    rw [semAt_skip hr]
    exact hk _ w' e' hh' hle.1 (he.mono hle.1 hle.2) hfr) k
/-- All have come up. -/
theorem WPD.done (hb : readyNo ops listed = true) (h : Q .normal E M) : WPD P cx fr ops st X fuel listed E M Q := by
  intro a w e hh he
  have hready : Region.ready .any ops listed = [] := by simpa [readyNo, List.isEmpty_iff] using hb
  have hs : Sat cx fr Q .normal a w := ⟨.normal, E, M, e, h, hh, he, rfl⟩
  cases fuel with
  | zero => exact ⟨hready, hs⟩
  | succ n => exact ⟨fun _ => hs, by rw [hready]; simp⟩
/-- THE BEGINNING of a region that draws its order. -/
theorem WP.regionD (st X : List Nat) {id : Nat} (hm : P.follows .mixedOrders = true) (h : WPD P cx fr ops st X ops.size (Array.replicate ops.size false) E M Q) : WP P cx fr (.region id ops true) E M Q :=
  fun a w e hh he => wpIn_region_any hm (wpAny_of_F _ _ _ _ (h a _ e hh.drew he))
end
end Go.Q
namespace Go.Q
open Go
set_option linter.unusedVariables false
set_option linter.unusedSimpArgs false
/-- What is asked at a round's end, a panic taken in. -/
def roundPostP (P : Program) (l : Nat) (R : Ending → World → Prop) : Exit → Act → World → Prop
  | .panic chain, a, w => a.defers = [] ∧ R (.panicked chain) w
  | x, a, w => roundPost P l R x a w
theorem roundIn_of_wpInP {F : Fence} {n : Nat} {P : Program} {l : Nat} {f : FuncId} {tmps : Array Value} {assign body : Code} {w : World} {R : Ending → World → Prop} (hF : F.fn f) (hf : (P.funcs[f]?).isSome = true)
    (h : assign.wpIn (F.inRound l) n P (Exit.then (fun a₁ w₁ => ∃ w₂, (Instr.beginRound l).run P w₁ = .ok () w₂ ∧ body.wpIn (F.inRound l) n P (roundPostP P l R) a₁ w₂) (fun _ _ _ => False))
      { tmps := tmps, defers := [] } w) :
    RoundIn F n P l f tmps assign body w R := by
  refine ⟨hF, fun c cs hr => ?_⟩
  let b : Frame := { (default : Frame) with fn := f, kind := .normal, roundOf := some l }
  have hb0 : Frame.round l f tmps assign body .normal = b.atR { tmps := tmps, defers := [] } [.code assign, .beginRound, .code body] := by
    simp [Frame.round, Frame.atR, b]
  have hr' : (F.inRound l).room ((c :: cs).length + 1 + n) := hr
  have hF' : (F.inRound l).fn b.fn := hF
  obtain ⟨e, a₁, w₁, hq, harr⟩ := h b [.beginRound, .code body] (c :: cs) rfl hF' hr'
  rw [← hb0] at harr
  cases e with
  | normal =>
    obtain ⟨w₂, hbr, hbody⟩ := hq
    have s1 : StepsIn (Machine.fenced P (F.inRound l)) P (lone (b.atR a₁ [.beginRound, .code body]) (c :: cs) w₁) (lone (b.atR a₁ [.code body]) (c :: cs) w₂) :=
      .one (fenced_calm (fr := b.atR a₁ [.beginRound, .code body]) hF' hr' rfl) (stepR_beginRound rfl hbr)
    obtain ⟨e₂, a₂, w₃, hq₂, harr₂⟩ := hbody b [] (c :: cs) rfl hF' hr'
    cases e₂ with
    | normal =>
      obtain ⟨v, w₄, hend, hR⟩ := hq₂
      exact ⟨.returned v, w₄, hR, (StepsIn.trans harr s1).trans (StepsIn.trans harr₂ (.one (fenced_calm (fr := b.atR a₂ []) hF' hr' rfl) (stepR_round_end rfl rfl hend)))⟩
    | ret =>
      obtain ⟨v, w₄, hend, hR⟩ := hq₂
      obtain ⟨k₁, hs⟩ := harr₂.2 rfl
      exact ⟨.returned v, w₄, hR, (StepsIn.trans harr s1).trans (StepsIn.trans hs (.one (fenced_calm (fr := b.atR a₂ (.code .ret :: k₁)) hF' hr' rfl) (stepR_round_ret rfl rfl hend)))⟩
    | exit id =>
      obtain ⟨v, w₄, hend, hR⟩ := hq₂
      obtain ⟨k₁, hk, hs⟩ := harr₂.2 rfl rfl
      exact ⟨.returned v, w₄, hR, (StepsIn.trans harr s1).trans (StepsIn.trans hs (.one (fenced_calm (fr := b.atR a₂ (.code (.exit id) :: k₁)) hF' hr' rfl) (stepR_round_exit rfl rfl hk hend)))⟩
    | goto t =>
      obtain ⟨v, w₄, hend, hR⟩ := hq₂
      obtain ⟨k₁, hk, hs⟩ := harr₂.2 rfl rfl
      exact ⟨.returned v, w₄, hR, (StepsIn.trans harr s1).trans (StepsIn.trans hs (.one (fenced_calm (fr := b.atR a₂ (.code (.goto t) :: k₁)) hF' hr' rfl) (stepR_round_goto rfl rfl hk hend)))⟩
    | panic chain =>
      obtain ⟨hd, hR⟩ := hq₂
      obtain ⟨todo, hs⟩ := harr₂
      obtain ⟨fn, hfn⟩ := Option.isSome_iff_exists.1 hf
      refine ⟨.panicked chain, w₃, hR, (StepsIn.trans harr s1).trans (StepsIn.trans hs (.one (fenced_calm (n := n) hF' hr' (by simp [Frame.about, Frame.atR, hd])) (step_leave_panicked ⟨rfl, hd, fn, hfn⟩)))⟩
    | outgrown => exact hq₂.elim
  | exit id => exact hq.elim
  | goto t => exact hq.elim
  | ret => exact hq.elim
  | panic chain => exact hq.elim
  | outgrown => exact hq.elim
/-- A loop's record. -/
def lp (r : Loop) (s : LoopState) (p : Option Code) : Obj := .loop { r with state := s, pending := p }
/-- How a piece is left, axs a pending jump. -/
def jumpOf : Ex → Option (Option Code)
  | .normal => some none
  | .ret => some (some .ret)
  | .exit id => some (some (.exit id))
  | .goto l => some (some (.goto l))
  | .panic _ => none
/-- What the iterator's body must come to. -/
def RangeQ (P : Program) (cx : Cx) (fr : Fr) (aC : Act) (r : Loop) (l : Nat) (Q : Ex → Env → Mem → Prop) (x : Ex) (E : Env) (M : Mem) : Prop :=
  marksOk M E.d ∧ ∃ v d os lid, (E.o, E.b) = (⟨aC, v, d, some (lid, l)⟩ :: os, []) ∧
    match x with
    | .normal | .ret => ∃ s j, (dropMarks M E.d).at_ lid = .obj (lp r s j) ∧ s ≠ .busy ∧
        (match j with
         | none => W cx fr Q .normal ⟨v, d, os, []⟩ ((dropMarks M E.d).set lid .gone)
         | some c => WP P cx fr c ⟨v, d, os, []⟩ ((dropMarks M E.d).set lid .gone) Q)
    | .panic u => W cx fr Q (.panic u) ⟨v, d, os, []⟩ (dropMarks M E.d)
    | _ => False
theorem okO_mem {e : Nv} {M M' : Mem} {p : OEnv} (h : okO e M p) : okO e M' p := h.mono (Nv.le.refl e) fun _ => Ro.le.refl _
section
variable {P : Program} {cx : Cx} {fr : Fr} {E : Env} {M : Mem} {Q : Ex → Env → Mem → Prop}
/-- A RANGE OVER A FUNCTION, outermost in its frame. -/
theorem WP.range {g : Operand} {ps : Array Tmp} {assign body c : Code} {f : FuncId} {fn : Func} {cap : List AVal} {nti n : Nat} (hr : fr.r = none) (hg : E.ev g = .fn f cap) (hf : P.funcs[f]? = some fn) (hb : fn.body = some c)
    (hnm : (fn.name == "runtime.NumGoroutine") = false) (hres : fn.results = #[]) (hnt : fn.ntmps = nti) (ha : Nat.ble (cap.length + 1) nti = true) (hn : (M.n, E.b) = (n, []))
    (h : ∀ (l : Nat) (r : Loop) (aC : Act), r.params = ps → r.assign = assign → r.body = body → r.tmps = aC.tmps → aC.tmps.size = fr.nt → (P.funcs[r.fn]?).isSome = true →
      WP P cx ⟨nti, none, []⟩ c ⟨fun t => (AVal.lit (.func (.yield l) #[] #[]) :: cap).getD t .any, [], ⟨aC, E.v, n :: E.d, some (n + 1, l)⟩ :: E.o, []⟩
        ((M.push (.obj (.deferred (some [])))).push (.obj (lp r .ready none))) (RangeQ P cx fr aC r l Q)) : WP P cx fr (.rangeFunc g ps assign body) E M Q := by
  intro a w e hh he
  have hb0 : E.b = [] := (Prod.mk.inj hn).2
  have hn := (Prod.mk.inj hn).1
  have hed : marks e M E.d a.defers := by have := he.d; rw [hb0] at this; exact marksB.nil.1 this
  have hgv := he.ev g
  rw [hg] at hgv
  simp only [Val] at hgv
  obtain ⟨us, hgv, hus⟩ := hgv
  have hul := hus.length
  refine wpIn_rangeFunc fun fnid hfnid => ?_
  rw [show (fence P fr.r).round = none from hr]
  let w1 := w.alloc (.deferred (some []))
  let r : Loop := { state := .ready, pending := none, fn := fnid, tmps := a.tmps, params := ps, assign := assign, body := body, defers := w.heap.size }
  let w2 := w1.alloc (.loop r)
  let l := w.heap.size + 1
  let mark : List Deferred := [{ target := .collected w.heap.size, args := #[] }]
  have hres' : (resolve a.eval (rangeCall g l) 0).run P w2 = .ok { target := .fn (.func f) us.toArray, args := #[.func (.yield l) #[] #[]] } w2 := by
    simp [resolve, Deferred.ofValue, hgv, eval_const]
  have hinv : (invoke (.fn (.func f) us.toArray) #[Value.func (.yield l) #[] #[]]).run P w2 = .ok (.enter f (#[Value.func (.yield l) #[] #[]] ++ us.toArray)) w2 := by
    have h3' : ¬ fn.name = "runtime.NumGoroutine" := by simpa using hnm
    simp [invoke, callFunc, hf, h3', hb]
  refine ⟨l, mark, w2, _, w2, f, _, w2, run_enterLoop_outer fnid a.tmps ps assign body, hres', fun g hg' => by simp [Target.leads] at hg'; subst hg'; exact Option.isSome_iff_exists.2 ⟨_, hf⟩, hinv, fun h => by simp at h, ?_⟩
  -- the memory with the two blocks
  let e1 := e.bump w.heap.size 0 0
  let e2 := e1.bump (w.heap.size + 1) 0 0
  have hle1 := e.bump_le w.heap.size 0 0 false
  have hle2 := e1.bump_le (w.heap.size + 1) 0 0 false
  have hm1 := fun b => e.bump_mem w.heap.size 0 0 false b
  have hm2 := fun b => e1.bump_mem (w.heap.size + 1) 0 0 false b
  have hh1 : Hold cx e1 (M.push (.obj (.deferred (some [])))) w1 := by
    refine hh.bind rfl rfl rfl (by simp [w1]) (by simp [w1]) (fun k hk hlt => RowKit.Below.heap_alloc w _ k hlt) (fun i hi hl => Nat.ne_of_lt (hh.live i hi hl).1) hh.bag_new (hnone hh.ro) (hnone hh.bro) (.inr hh.size) ?_
    refine ⟨by simp [Nv.bump], ?_⟩
    simp only [Nv.bump, if_true]
    exact heap_alloc_new w _
  have hsz1 : w1.heap.size = w.heap.size + 1 := by simp [w1]
  have hh2 : Hold cx e2 ((M.push (.obj (.deferred (some [])))).push (.obj (lp r .ready none))) w2 := by
    have key : Hold cx (e1.bump w1.heap.size 0 0) ((M.push (.obj (.deferred (some [])))).push (.obj (lp r .ready none))) w2 := by
      refine hh1.bind rfl rfl rfl (by simp [w2]) (by simp [w2]) (fun k hk hlt => RowKit.Below.heap_alloc w1 _ k hlt) (fun i hi hl => Nat.ne_of_lt (hh1.live i hi hl).1) hh1.bag_new (hnone hh1.ro) (hnone hh1.bro) (.inr hh1.size) ?_
      refine ⟨by simp [Nv.bump], ?_⟩
      simp only [Nv.bump, if_true]
      exact heap_alloc_new w1 _
    rw [hsz1] at key
    exact key
  let aC : Act := { a with defers := mark ++ a.defers }
  have hownn : e2.own n = w.heap.size := by
    have h1 : n = e.n := by rw [← hn, hh.n]
    subst h1
    have h2 : e.n ≠ e1.n := by simp [e1, Nv.bump]
    simp only [e2, Nv.bump, if_neg h2]
    simp [e1, Nv.bump]
  have hmarkn : markBlocks e2 n = [w.heap.size] := by
    have h1 : n = e.n := by rw [← hn, hh.n]
    have h2 : n ≠ e1.n := by rw [h1]; simp [e1, Nv.bump]
    unfold markBlocks
    rw [hownn]
    have h3 : e2.vir n = false := by
      simp only [e2, Nv.bump, if_neg h2]; subst h1; simp [e1, Nv.bump]
    have h4 : e2.bag n = [] := by
      simp only [e2, Nv.bump, if_neg h2]; subst h1; simp [e1, Nv.bump]
    rw [h3, h4]; rfl
  have hownl : e2.own (n + 1) = l := by
    have h1 : n + 1 = e1.n := by rw [← hn]; simp [e1, Nv.bump, hh.n]
    simp only [e2, Nv.bump, if_pos h1]
    rfl
  have hn2 : e2.n = n + 2 := by rw [← hn]; simp [e2, e1, Nv.bump, hh.n]
  have hoC : okO e2 ((M.push (.obj (.deferred (some [])))).push (.obj (lp r .ready none))) ⟨aC, E.v, n :: E.d, some (n + 1, l)⟩ := by
    refine ⟨fun t => ((he.v t).mono hle1 hm1).mono hle2 hm2, ⟨a.defers, by rw [hmarkn]; rfl, by omega, (hed.mono (M' := M) hle1).mono hle2⟩, ?_⟩
    rintro i l' hil
    cases hil
    exact ⟨by omega, hownl⟩
  refine callsIn_of_wp_marks (F := fence P fr.r) hf hb (Option.isSome_iff_exists.2 ⟨_, hf⟩) ?_ hr
  have hemb : Emb nti e2 ((M.push (.obj (.deferred (some [])))).push (.obj (lp r .ready none))) ⟨fun t => (AVal.lit (.func (.yield l) #[] #[]) :: cap).getD t .any, [], ⟨aC, E.v, n :: E.d, some (n + 1, l)⟩ :: E.o, []⟩
      { tmps := (#[Value.func (.yield l) #[] #[]] ++ us.toArray) ++ Array.replicate (fn.ntmps - (#[Value.func (.yield l) #[] #[]] ++ us.toArray).size) undef, defers := [] } := by
    have ha' : cap.length + 1 ≤ nti := by simpa using ha
    refine ⟨by simp [hnt, hul]; omega, fun t => ?_, ⟨[], rfl, rfl⟩, fun p hp => ?_⟩
    · have hvals : Vals e2 (AVal.lit (.func (.yield l) #[] #[]) :: cap) (Value.func (.yield l) #[] #[] :: us) := by
        simp only [Vals]
        exact ⟨_, _, rfl, by simp [Val], (hus.mono hle1 hm1).mono hle2 hm2⟩
      have hlen := hvals.length
      have harr : (#[Value.func (.yield l) #[] #[]] ++ us.toArray) = (Value.func (.yield l) #[] #[] :: us).toArray := by simp
      rw [harr]
      simp only [List.getD_eq_getElem?_getD]
      by_cases ht : t < (AVal.lit (.func (.yield l) #[] #[]) :: cap).length
      · rw [List.getElem?_eq_getElem ht]
        obtain ⟨v, h1, h2⟩ := hvals.get (List.getElem?_eq_getElem ht)
        have hs : ((Value.func (.yield l) #[] #[] :: us).toArray ++ Array.replicate (fn.ntmps - (Value.func (.yield l) #[] #[] :: us).toArray.size) undef).getD t undef = v := by
          rw [Array.getD_eq_getD_getElem?, Array.getElem?_append_left (by simpa [hlen] using ht)]
          simp only [List.getElem?_toArray, h1, Option.getD_some]
        rw [hs]
        exact h2
      · rw [List.getElem?_eq_none (by omega)]
        simp [Val]
    · rcases List.mem_cons.1 hp with rfl | hp
      · exact hoC
      · exact ((he.o p hp).mono (M' := M) hle1 hm1).mono hle2 hm2
  have hwp := h l r aC rfl rfl rfl rfl he.sz hfnid _ w2 e2 hh2 hemb
  rw [show (fence P (⟨nti, none, []⟩ : Fr).r) = fence P fr.r by rw [hr]] at hwp
  refine Go.wpIn_mono hwp fun x a' w' k => ?_
  obtain ⟨y, E', M', e', q, g1, g2, g3⟩ := k
  obtain ⟨q1, v', d', os', lid, q2, q3⟩ := q
  have qb : E'.b = [] := (Prod.mk.inj q2).2
  have q2 := (Prod.mk.inj q2).1
  have fin : Emb nti e' M' E' a' → (∃ s j, (dropMarks M' E'.d).at_ lid = .obj (lp r s j) ∧ s ≠ .busy ∧
        (match j with
         | none => W cx fr Q .normal ⟨v', d', os', []⟩ ((dropMarks M' E'.d).set lid .gone)
         | some c => WP P cx fr c ⟨v', d', os', []⟩ ((dropMarks M' E'.d).set lid .gone) Q)) →
      LeavesInM (fence P fr.r) 0 P fn a'.tmps (rangePost (fence P fr.r) 0 P l (Sat cx fr Q) aC) a'.defers .returning w' := by
    rintro g2 ⟨s, j, q4, q5, q6⟩
    have hfr : fence P fr.r = fence P none := by rw [hr]
    rw [hfr]
    have hd2 := g2.d
    rw [qb] at hd2
    refine leave_marks (by simp) E'.d M' w' a'.defers g1 (marksB.nil.1 hd2) q1 fun w'' hh'' => ?_
    have hp := g2.o ⟨aC, v', d', some (lid, l)⟩ (by rw [q2]; simp)
    obtain ⟨hlid, hownlid⟩ := hp.lk lid l rfl
    have hb' := hh''.ch lid hlid
    rw [q4] at hb'
    have hbl : w''.heap[l]? = some (.loop { r with state := s, pending := j }) := by rw [← hownlid]; exact hb'.2
    have hlive : ((dropMarks M' E'.d).at_ lid).live e' lid := by rw [q4]; trivial
    have hlt : l < w''.heap.size := (Array.getElem?_eq_some_iff.1 hbl).1
    refine ⟨.tuple #[], by simp [results, hres], ?_⟩
    refine ⟨j, _, run_endLoop (r := { r with state := s, pending := j }) hbl q5, ?_⟩
    have hh3 : Hold cx e' ((dropMarks M' E'.d).set lid .gone) (w''.putObj l (.loop { ({ r with state := s, pending := j } : Loop) with state := .exhausted })) :=
      hh''.change hlid hlive rfl rfl rfl (by simp [World.putObj]) (fun k hk => World.putObj_heap_other (by rw [hownlid] at hk; exact hk)) trivial
    have hemb3 : Emb fr.nt e' ((dropMarks M' E'.d).set lid .gone) ⟨v', d', os', []⟩ aC :=
      ⟨he.sz, hp.v, marksB.nil.2 (hp.d.mono (Nv.le.refl e')), fun p hp' => okO_mem (g2.o p (by rw [q2]; simp [hp']))⟩
    cases j with
    | none => exact q6 _ _ e' _ hh3 hemb3 rfl
    | some c =>
      have := q6 aC _ e' hh3 hemb3
      rw [hr] at this
      simpa [hr] using this
  cases y with
  | normal => cases g3; exact fin g2 q3
  | ret => cases g3; exact fin g2 q3
  | exit id => exact q3.elim
  | goto l => exact q3.elim
  | panic v =>
    obtain ⟨u, rfl, hu⟩ := g3
    show LeavesInM (fence P fr.r) 0 P fn a'.tmps (rangePost (fence P fr.r) 0 P l (Sat cx fr Q) aC) a'.defers (.panicking [{ v := u, recovered := false }]) w'
    have hfr : fence P fr.r = fence P none := by rw [hr]
    rw [hfr]
    have hd2 := g2.1.1
    rw [qb] at hd2
    refine leave_marks (u := .panicking [{ v := u, recovered := false }]) (by simp) E'.d M' w' a'.defers g1 (marksB.nil.1 hd2) q1 fun w'' hh'' => ?_
    have hp := g2.2 ⟨aC, v', d', some (lid, l)⟩ (by rw [q2]; simp)
    exact q3 aC w'' e' _ hh'' ⟨⟨marksB.nil.2 (hp.d.mono (Nv.le.refl e')), fun t _ => hp.v t⟩, fun p hp' => okO_mem (g2.2 p (by rw [q2]; simp [hp']))⟩ ⟨u, rfl, hu⟩
/-- Yield's arguments in the loop's variables. -/
def paramsV (f : Nat → AVal) : List Tmp → List AVal → (Nat → AVal)
  | t :: ts, a :: l => paramsV (fun u => if Nat.beq u t = true then a else f u) ts l
  | _, _ => f
theorem params_ok {e : Nv} : ∀ (ts : List Tmp) (axs : List AVal) (vs : List Value) (f : Nat → AVal) (tm : Array Value), Vals e axs vs → (∀ t ∈ ts, t < tm.size) → ts.length = axs.length → (∀ t, Val e (f t) (tm.getD t undef)) →
    ∀ t, Val e (paramsV f ts axs t) (((ts.zip vs).foldl (fun tmps (x : Tmp × Value) => tmps.setIfInBounds x.1 x.2) tm).getD t undef)
  | [], axs, vs, f, tm, _, _, _, hf => by simpa [paramsV] using hf
  | t :: ts, [], vs, f, tm, _, _, hl, _ => by simp at hl
  | t :: ts, a :: axs, vs, f, tm, h, hb, hl, hf => by
    simp only [Vals] at h
    obtain ⟨v, ws, rfl, h1, h2⟩ := h
    simp only [paramsV, List.zip_cons_cons, List.foldl_cons]
    refine params_ok ts axs ws _ _ h2 (fun x hx => by simpa using hb x (by simp [hx])) (by simpa using hl) fun u => ?_
    have ht : t < tm.size := hb t (by simp)
    simp only [Array.getD_eq_getD_getElem?]
    by_cases hu : u = t
    · subst hu
      simp [ht, h1]
    · rw [if_neg (by simpa using hu), Array.getElem?_setIfInBounds_ne (Ne.symm hu)]
      have := hf u
      rwa [Array.getD_eq_getD_getElem?] at this
theorem foldl_size : ∀ (l : List (Tmp × Value)) (tm : Array Value), (l.foldl (fun tmps (x : Tmp × Value) => tmps.setIfInBounds x.1 x.2) tm).size = tm.size
  | [], _ => rfl
  | x :: l, tm => by rw [List.foldl_cons, foldl_size l]; simp
/-- What a round must come to. -/
def RoundQ (lid : Nat) (l : Nat) (r : Loop) (aI aC : Act) (K : Option Code → Env → Mem → Prop) (KP : AVal → Env → Mem → Prop) (x : Ex) (E : Env) (M : Mem) : Prop :=
  E.d = [] ∧ ∃ v d v' d' os' lid', (E.o, E.b) = (⟨aI, v, d, none⟩ :: ⟨aC, v', d', some (lid', l)⟩ :: os', []) ∧ M.at_ lid' = .obj (lp r .busy none) ∧
    match x with
    | .panic u => KP u ⟨v, d, ⟨aC, v', d', some (lid', l)⟩ :: os', []⟩ M
    | x => ∃ j, jumpOf x = some j ∧ K j ⟨v, d, ⟨aC, v', d', some (lid', l)⟩ :: os', []⟩ (M.set lid' (.obj (lp r (if j.isNone then .ready else .done) j)))
/-- What the assignments to the loop's variables must come to. -/
def AssignQ (P : Program) (cx : Cx) (ntc l : Nat) (body : Code) (r : Loop) (aI aC : Act) (K : Option Code → Env → Mem → Prop) (KP : AVal → Env → Mem → Prop) (x : Ex) (E : Env) (M : Mem) : Prop :=
  x = .normal ∧ E.d = [] ∧ ∃ v d v' d' os' lid', (E.o, E.b) = (⟨aI, v, d, none⟩ :: ⟨aC, v', d', some (lid', l)⟩ :: os', []) ∧ M.at_ lid' = .obj (lp r .ready none) ∧
    WP P cx ⟨ntc, some l, []⟩ body E (M.set lid' (.obj (lp r .busy none))) (RoundQ lid' l r aI aC K KP)
variable {ops : Array Oper} {os : List Oper} {ty : TypeId} {pos : String} {after : Array Edge} {dst : Nat}
theorem putObj_hold {e : Nv} {w : World} (hh : Hold cx e M w) {i l : Nat} {o o' : Obj} (hi : i < e.n) (hl : e.own i = l) (hc : M.at_ i = .obj o) (hmk : (Chunk.obj o').mark = true → (M.at_ i).mark = true) : Hold cx e (M.set i (.obj o')) (w.putObj l o') := by
  subst hl
  have hlive : (M.at_ i).live e i := by rw [hc]; trivial
  have hb := hh.ch i hi
  rw [hc] at hb
  have hlt : e.own i < w.heap.size := (hh.live i hi hlive).1
  exact hh.change hi hlive rfl rfl rfl (by simp [World.putObj]) (fun k hk => World.putObj_heap_other hk) ⟨hb.1, World.putObj_heap_same hlt⟩ hmk
/-- A CALL OF yield: a round of the loop. -/
theorem WPL.ycore {g : Option (Nat × Bool)} {fo : Operand} {args : Array Operand} {tys : Array TypeId} {l lid ntc : Nat} {r : Loop} {aC : Act} {vC : Nat → AVal} {dC : List Nat} {oC : List OEnv} {ps : Array Tmp} {assign body : Code} (hfr : fr.r = none) (hfo : E.ev fo = .lit (.func (.yield l) #[] #[]))
    (ho : (E.o, E.b) = (⟨aC, vC, dC, some (lid, l)⟩ :: oC, [])) (hM : M.at_ lid = .obj (lp r .ready none)) (hrp : r.params = ps) (hra : r.assign = assign) (hrb : r.body = body) (hrt : r.tmps = aC.tmps) (hsz : aC.tmps.size = ntc) (hrf : (P.funcs[r.fn]?).isSome = true)
    (hps : Nat.beq ps.size args.size = true) (hpl : (ps.toList.all fun t => Nat.blt t ntc) = true) (ht : Nat.blt dst fr.nt = true)
    (hg : ∀ nt a e, Emb nt e M E a → nt = fr.nt → Region.wanted { dst := some dst, op := .call { callee := .value fo, args := args, argTypes := tys }, type := ty, pos := pos, after := after, guard := g } (yielded ops a.tmps) = true)
    (hround : ∀ aI : Act, WP P cx ⟨ntc, some l, []⟩ assign ⟨paramsV vC ps.toList (args.toList.map E.ev), [], ⟨aI, E.v, E.d, none⟩ :: E.o, []⟩ M
      (AssignQ P cx ntc l body r aI aC (fun j E M => WPL P cx fr ops os (E.upd dst (.lit (.bool j.isNone))) M Q) (fun u E M => W cx fr Q (.panic u) E M))) :
    WPL P cx fr ops ({ dst := some dst, op := .call { callee := .value fo, args := args, argTypes := tys }, type := ty, pos := pos, after := after, guard := g } :: os) E M Q := by
  intro a w e hh he
  have hb0 : E.b = [] := (Prod.mk.inj ho).2
  have ho := (Prod.mk.inj ho).1
  have hed : marks e M E.d a.defers := by have := he.d; rw [hb0] at this; exact marksB.nil.1 this
  have hv := ev_lit he hfo
  have hpO := he.o ⟨aC, vC, dC, some (lid, l)⟩ (by rw [ho]; simp)
  obtain ⟨hlid, hown⟩ := hpO.lk lid l rfl
  have hb := hh.ch lid hlid
  rw [hM] at hb
  have hbl : w.heap[l]? = some (.loop { r with state := .ready, pending := none }) := by rw [← hown]; exact hb.2
  have hps' : ps.size = args.size := by simpa using hps
  unfold wpListIn
  rw [if_pos (hg _ _ _ he rfl)]
  refine ⟨fun f hf => by simp [Oper.about, resolve, Deferred.ofValue, hv, Target.leads] at hf, ?_⟩
  rw [Oper.semAt_eq _ _ _ (by intro c hc; cases hc), execOp_one]
  have hrun : (exec1 a.eval (.call { callee := .value fo, args := args, argTypes := tys }) ty).run P w = .ok (.round l r.fn ((ps.zip (args.map a.eval)).foldl (fun tmps (t, a) => tmps.setIfInBounds t a) r.tmps) assign body) w := by
    have hy := run_yield (P := P) (args := args.map a.eval) hbl (by simp [hrp, hps'])
    simp only [hrp, hra, hrb] at hy
    simp [exec1, execOp, resolve, Deferred.ofValue, hv, invoke, hy]
  rw [hrun]
  refine ⟨fun h => by simp at h, ?_⟩
  have hfold : (ps.zip (args.map a.eval)).foldl (fun tmps (t, a) => tmps.setIfInBounds t a) r.tmps = (ps.toList.zip (args.toList.map a.eval)).foldl (fun tmps (x : Tmp × Value) => tmps.setIfInBounds x.1 x.2) aC.tmps := by
    rw [hrt, ← Array.foldl_toList]
    simp [Array.toList_zip]
  rw [hfold, hfr]
  refine roundIn_of_wpInP hrf hrf ?_
  let aR : Act := { tmps := (ps.toList.zip (args.toList.map a.eval)).foldl (fun tmps (x : Tmp × Value) => tmps.setIfInBounds x.1 x.2) aC.tmps, defers := [] }
  have hembR : Emb ntc e M ⟨paramsV vC ps.toList (args.toList.map E.ev), [], ⟨a, E.v, E.d, none⟩ :: E.o, []⟩ aR := by
    refine ⟨by simp only [aR]; rw [foldl_size, hsz], fun t => ?_, ⟨[], rfl, rfl⟩, fun p hp => ?_⟩
    · exact params_ok ps.toList _ _ vC aC.tmps (evs he args.toList) (fun t ht' => by have := List.all_eq_true.1 hpl t ht'; rw [hsz]; simpa using this) (by simpa using hps') hpO.v t
    · rcases List.mem_cons.1 hp with rfl | hp
      · exact ⟨he.v, hed, fun i l' hil => by cases hil⟩
      · exact he.o p hp
  refine Go.wpIn_mono (hround a aR w e hh hembR) fun x a1 w1 k => ?_
  obtain ⟨y, E1, M1, e1, q, g1, g2, g3⟩ := k
  obtain ⟨rfl, hd1, v1, d1, v1', d1', os1, lid1, ho1, hM1, hbody⟩ := q
  have ho1 := (Prod.mk.inj ho1).1
  cases g3
  have hp1 := g2.o ⟨aC, v1', d1', some (lid1, l)⟩ (by rw [ho1]; simp)
  obtain ⟨hlid1, hown1⟩ := hp1.lk lid1 l rfl
  have hb1 := g1.ch lid1 hlid1
  rw [hM1] at hb1
  have hbl1 : w1.heap[l]? = some (.loop { r with state := .ready, pending := none }) := by rw [← hown1]; exact hb1.2
  refine ⟨_, run_beginRound hbl1 rfl, ?_⟩
  have hh1 : Hold cx e1 (M1.set lid1 (.obj (lp r .busy none))) (w1.putObj l (.loop { ({ r with state := .ready, pending := none } : Loop) with state := .busy })) := putObj_hold g1 hlid1 hown1 hM1 (fun h => by cases h)
  have hemb1 : Emb ntc e1 (M1.set lid1 (.obj (lp r .busy none))) E1 a1 := Emb.mono (E := E1) g2 (Nv.le.refl e1) fun _ => Ro.le.refl _
  refine Go.wpIn_mono (hbody a1 _ e1 hh1 hemb1) fun x2 a2 w2 k2 => ?_
  obtain ⟨y2, E2, M2, e2, q2, k1, k3, k4⟩ := k2
  obtain ⟨hd2, v2, d2, v2', d2', os2, lid2, ho2, hM2, hK0⟩ := q2
  have hb2' : E2.b = [] := (Prod.mk.inj ho2).2
  have ho2 := (Prod.mk.inj ho2).1
  have fin : Emb ntc e2 M2 E2 a2 → ∀ j, WPL P cx fr ops os (Env.upd ⟨v2, d2, ⟨aC, v2', d2', some (lid2, l)⟩ :: os2, []⟩ dst (.lit (.bool (Option.isNone j)))) (M2.set lid2 (.obj (lp r (if Option.isNone j then .ready else .done) j))) Q → ∃ v w', (Instr.endRound l j).run P w2 = .ok v w' ∧ wpListIn (fence P fr.r) 0 P ops (Sat cx fr Q) os (a.put (some dst) v) w' := by
    intro k3 j hK
    have hp2 := k3.o ⟨aC, v2', d2', some (lid2, l)⟩ (by rw [ho2]; simp)
    have hpI := k3.o ⟨a, v2, d2, none⟩ (by rw [ho2]; simp)
    obtain ⟨hlid2, hown2⟩ := hp2.lk lid2 l rfl
    have hb2 := k1.ch lid2 hlid2
    rw [hM2] at hb2
    have hbl2 : w2.heap[l]? = some (.loop { r with state := .busy, pending := none }) := by rw [← hown2]; exact hb2.2
    refine ⟨_, _, run_endRound j hbl2, ?_⟩
    have hh2 : Hold cx e2 (M2.set lid2 (.obj (lp r (if j.isNone then .ready else .done) j))) (w2.putObj l (.loop { ({ r with state := .busy, pending := none } : Loop) with state := if j.isNone then .ready else .done, pending := j })) := putObj_hold k1 hlid2 hown2 hM2 (fun h => by cases h)
    have hembI : Emb fr.nt e2 (M2.set lid2 (.obj (lp r (if j.isNone then .ready else .done) j))) ⟨v2, d2, ⟨aC, v2', d2', some (lid2, l)⟩ :: os2, []⟩ a :=
      ⟨he.sz, hpI.v, marksB.nil.2 (hpI.d.mono (Nv.le.refl e2)), fun p hp => okO_mem (k3.o p (by rw [ho2]; simp at hp ⊢; exact .inr hp))⟩
    exact hK _ _ e2 hh2 (hembI.put ht (by simp [Val]))
  have conv : ∀ {v : Value} {w' : World}, wpListIn (fence P fr.r) 0 P ops (Sat cx fr Q) os (a.put (some dst) v) w' → wpListIn (fence P none) 0 P ops (Sat cx fr Q) os (a.put (some dst) v) w' := by
    intro v w' h; rw [hfr] at h; exact h
  cases y2 with
  | normal => cases k4; obtain ⟨j, hj, hK⟩ := hK0; cases hj; obtain ⟨v, w', h1, h2⟩ := fin k3 _ hK; exact ⟨v, w', h1, conv h2⟩
  | ret => cases k4; obtain ⟨j, hj, hK⟩ := hK0; cases hj; obtain ⟨v, w', h1, h2⟩ := fin k3 _ hK; exact ⟨v, w', h1, conv h2⟩
  | exit id => cases k4; obtain ⟨j, hj, hK⟩ := hK0; cases hj; obtain ⟨v, w', h1, h2⟩ := fin k3 _ hK; exact ⟨v, w', h1, conv h2⟩
  | goto t => cases k4; obtain ⟨j, hj, hK⟩ := hK0; cases hj; obtain ⟨v, w', h1, h2⟩ := fin k3 _ hK; exact ⟨v, w', h1, conv h2⟩
  | panic u =>
    obtain ⟨x, rfl, hx⟩ := k4
    have hpI := k3.2 ⟨a, v2, d2, none⟩ (by rw [ho2]; simp)
    have hdf : a2.defers = [] := by
      have := k3.1.1
      rw [hb2', hd2] at this
      exact marksB.nil.1 this
    exact ⟨hdf, hK0 a w2 e2 _ k1 ⟨⟨marksB.nil.2 (hpI.d.mono (Nv.le.refl e2)), fun t _ => hpI.v t⟩, fun p hp => okO_mem (k3.2 p (by rw [ho2]; simp at hp ⊢; exact .inr hp))⟩ ⟨x, rfl, hx⟩⟩
/-- A round. -/
theorem WPL.y {fo : Operand} {args : Array Operand} {tys : Array TypeId} {l lid ntc : Nat} {r : Loop} {aC : Act} {vC : Nat → AVal} {dC : List Nat} {oC : List OEnv} {ps : Array Tmp} {assign body : Code} (hfr : fr.r = none) (hfo : E.ev fo = .lit (.func (.yield l) #[] #[]))
    (ho : (E.o, E.b) = (⟨aC, vC, dC, some (lid, l)⟩ :: oC, [])) (hM : M.at_ lid = .obj (lp r .ready none)) (hrp : r.params = ps) (hra : r.assign = assign) (hrb : r.body = body) (hrt : r.tmps = aC.tmps) (hsz : aC.tmps.size = ntc) (hrf : (P.funcs[r.fn]?).isSome = true)
    (hps : Nat.beq ps.size args.size = true) (hpl : (ps.toList.all fun t => Nat.blt t ntc) = true) (ht : Nat.blt dst fr.nt = true)
    (hround : ∀ aI : Act, WP P cx ⟨ntc, some l, []⟩ assign ⟨paramsV vC ps.toList (args.toList.map E.ev), [], ⟨aI, E.v, E.d, none⟩ :: E.o, []⟩ M
      (AssignQ P cx ntc l body r aI aC (fun j E M => WPL P cx fr ops os (E.upd dst (.lit (.bool j.isNone))) M Q) (fun u E M => W cx fr Q (.panic u) E M))) :
    WPL P cx fr ops ({ dst := some dst, op := .call { callee := .value fo, args := args, argTypes := tys }, type := ty, pos := pos, after := after, guard := Option.none } :: os) E M Q :=
  WPL.ycore hfr hfo ho hM hrp hra hrb hrt hsz hrf hps hpl ht (fun _ _ _ _ _ => rfl) hround
theorem WPL.yg {gj gt : Nat} {gb : Bool} {fo : Operand} {args : Array Operand} {tys : Array TypeId} {l lid ntc : Nat} {r : Loop} {aC : Act} {vC : Nat → AVal} {dC : List Nat} {oC : List OEnv} {ps : Array Tmp} {assign body : Code} (hfr : fr.r = none) (hfo : E.ev fo = .lit (.func (.yield l) #[] #[]))
    (ho : (E.o, E.b) = (⟨aC, vC, dC, some (lid, l)⟩ :: oC, [])) (hM : M.at_ lid = .obj (lp r .ready none)) (hrp : r.params = ps) (hra : r.assign = assign) (hrb : r.body = body) (hrt : r.tmps = aC.tmps) (hsz : aC.tmps.size = ntc) (hrf : (P.funcs[r.fn]?).isSome = true)
    (hps : Nat.beq ps.size args.size = true) (hpl : (ps.toList.all fun t => Nat.blt t ntc) = true) (ht : Nat.blt dst fr.nt = true)
    (gh : (ops[gj]?).bind (·.dst) = some gt) (ght : Nat.blt gt fr.nt = true) (ghv : E.v gt = .lit (.bool gb))
    (hround : ∀ aI : Act, WP P cx ⟨ntc, some l, []⟩ assign ⟨paramsV vC ps.toList (args.toList.map E.ev), [], ⟨aI, E.v, E.d, none⟩ :: E.o, []⟩ M
      (AssignQ P cx ntc l body r aI aC (fun j E M => WPL P cx fr ops os (E.upd dst (.lit (.bool j.isNone))) M Q) (fun u E M => W cx fr Q (.panic u) E M))) :
    WPL P cx fr ops ({ dst := some dst, op := .call { callee := .value fo, args := args, argTypes := tys }, type := ty, pos := pos, after := after, guard := some (gj, gb) } :: os) E M Q :=
  WPL.ycore hfr hfo ho hM hrp hra hrb hrt hsz hrf hps hpl ht (fun _ _ _ he hn => by subst hn; simp [Region.wanted, yields he gh ght ghv]) hround
end
end Go.Q
namespace Go.Q
open Go
set_option linter.unusedVariables false
set_option linter.unusedSimpArgs false
theorem grd {α : Type} {b : Bool} {x : Option α} {r : α} (h : (bif b then x else none) = some r) : b = true ∧ x = some r := by
  cases b with
  | true => exact ⟨rfl, h⟩
  | false => cases h
theorem bnd {α β : Type} {x : Option α} {f : α → Option β} {r : β} (h : x.bind f = some r) : ∃ a, x = some a ∧ f a = some r := Option.bind_eq_some_iff.1 h
theorem cnt {α : Type} {b : Bool} {x y : Option α} {r : α} (hb : b = true) (h : (bif b then x else y) = some r) : x = some r := by subst hb; exact h
theorem cnf {α : Type} {b : Bool} {x y : Option α} {r : α} (hb : b = false) (h : (bif b then x else y) = some r) : y = some r := by subst hb; exact h
theorem inj {α : Type} {x r : α} (h : some x = some r) : r = x := (Option.some.inj h).symm
section
variable {P : Program} {cx : Cx} {fr : Fr} {E : Env} {M : Mem} {Q : Ex → Env → Mem → Prop} {next : Env → Mem → Prop} {ty : TypeId}
theorem Then.n (h : next E M) : Then next Q .normal E M := h
theorem Then.r (h : Q .ret E M) : Then next Q .ret E M := h
theorem Then.x {id : Nat} (h : Q (.exit id) E M) : Then next Q (.exit id) E M := h
theorem Then.p {v : AVal} (h : Q (.panic v) E M) : Then next Q (.panic v) E M := h
theorem InBlock.n {id : Nat} (h : Q .normal E M) : InBlock id Q .normal E M := h
theorem InBlock.r {id : Nat} (h : Q .ret E M) : InBlock id Q .ret E M := h
theorem InBlock.p {id : Nat} {v : AVal} (h : Q (.panic v) E M) : InBlock id Q (.panic v) E M := h
theorem InBlock.x0 {id : Nat} (h : Q .normal E M) : InBlock id Q (.exit id) E M := by simp only [InBlock, Nat.beq_eq, if_true]; exact h
theorem InBlock.x {id id' : Nat} (hi : Nat.beq id' id = false) (h : Q (.exit id') E M) : InBlock id Q (.exit id') E M := by
  simp only [InBlock]
  rw [if_neg (by rw [hi]; simp)]
  exact h
theorem WP.condT {c : Operand} {x y : Code} (hc : E.ev c = .lit (.bool true)) (h : WP P cx fr x E M Q) : WP P cx fr (.cond c x y) E M Q := WP.cond hc (fun _ => h) (fun h => by cases h)
theorem WP.condF {c : Operand} {x y : Code} (hc : E.ev c = .lit (.bool false)) (h : WP P cx fr y E M Q) : WP P cx fr (.cond c x y) E M Q := WP.cond hc (fun h => by cases h) (fun _ => h)
theorem q_mv {x : Operand} {v : AVal} (h : E.ev x = v) : Quiet P (.move x) ty E M [] v := h ▸ q_move x
theorem q_as {x : Operand} {v : AVal} (h : E.ev x = v) : Quiet P (.assign x) ty E M [] v := h ▸ q_assign x
theorem q_pickT {c x y : Operand} {v : AVal} (hc : E.ev c = .lit (.bool true)) (h : E.ev x = v) : Quiet P (.pick c x y) ty E M [] v := by
  have := q_pick (P := P) (ty := ty) (M := M) (x := x) (y := y) hc
  simp only [cond_true] at this
  exact h ▸ this
theorem q_pickF {c x y : Operand} {v : AVal} (hc : E.ev c = .lit (.bool false)) (h : E.ev y = v) : Quiet P (.pick c x y) ty E M [] v := by
  have := q_pick (P := P) (ty := ty) (M := M) (x := x) (y := y) hc
  simp only [cond_false] at this
  exact h ▸ this
/-- A guard's case: both ways. -/
theorem WPL.split {ops : Array Oper} {os : List Oper} {t : Nat} {b : Bool} (hv : E.v t = .lit (.bool b)) (h1 : b = true → WPL P cx fr ops os E M Q) (h2 : b = false → WPL P cx fr ops os E M Q) : WPL P cx fr ops os E M Q := by
  cases b with
  | true => exact h1 rfl
  | false => exact h2 rfl
/-- A name for nil in a cell of our own. -/
theorem Hold.virCell {e : Nv} {w : World} (hh : Hold cx e M w) {α : Type} {ct R} {i off N : Nat} {t : TypeId} {l : List AVal} (hN : M.n = N) (hi : i < N) (hc : M.at_ i = .cells t l) (hv : l[off]? = some (.lit (.slice none 0 0))) :
    Hold cx (e.bump 0 0 0 true) ((M.push (.row ct (R : Rd α) [])).set i (.cells t (l.set off (.whole N)))) w := by
  have h1 := hh.bindVir (t := ct) (R := R)
  have hin : i < (e.bump 0 0 0 true).n := by simp only [Nv.bump, hh.n, hN]; omega
  have hat : (M.push (.row ct R [])).at_ i = .cells t l := by rw [Mem.push_at, if_neg (by omega)]; exact hc
  have hlive : ((M.push (.row ct R [])).at_ i).live (e.bump 0 0 0 true) i := by rw [hat]; trivial
  refine h1.change hin hlive rfl rfl rfl rfl (fun _ _ => rfl) ?_
  have hk := h1.ch i hin
  rw [hat] at hk
  obtain ⟨g1, vs, g2, g3, g4⟩ := hk
  refine ⟨g1, vs, g2, ?_, g4⟩
  obtain ⟨u, hu, hval⟩ := g3.get hv
  simp only [Val] at hval
  have hset : vs = vs.set off u := by
    apply List.ext_getElem?
    intro j
    rw [List.getElem?_set]
    split
    · rename_i hj; subst hj; split
      · rename_i hlt; rw [hu]
      · rename_i hge; rw [List.getElem?_eq_none (by omega)]
    · rfl
  rw [hset]
  refine g3.set ?_
  rw [hval]
  simp only [Val, Nv.bump, ← hN, ← hh.n, if_true]
  exact ⟨Nat.lt_succ_self _, Nat.le_refl _, trivial, trivial⟩
theorem WPL.virC {ops : Array Oper} {os : List Oper} {α : Type} (ct : TypeId) (R : Rd α) {i off N : Nat} {t : TypeId} {l : List AVal} (hN : M.n = N) (hi : Nat.blt i N = true) (hc : M.at_ i = .cells t l) (hv : l[off]? = some (.lit (.slice none 0 0)))
    (k : WPL P cx fr ops os E ((M.push (.row ct R [])).set i (.cells t (l.set off (.whole N)))) Q) : WPL P cx fr ops os E M Q :=
  fun a w e hh he => k a w _ (hh.virCell hN (by simpa using hi) hc hv) (he.mono (e.bump_le 0 0 0 true) (fun b => e.bump_mem 0 0 0 true b))
theorem WP.virC {c : Code} {α : Type} (ct : TypeId) (R : Rd α) {i off N : Nat} {t : TypeId} {l : List AVal} (hN : M.n = N) (hi : Nat.blt i N = true) (hc : M.at_ i = .cells t l) (hv : l[off]? = some (.lit (.slice none 0 0)))
    (k : WP P cx fr c E ((M.push (.row ct R [])).set i (.cells t (l.set off (.whole N)))) Q) : WP P cx fr c E M Q :=
  fun a w e hh he => k a w _ (hh.virCell hN (by simpa using hi) hc hv) (he.mono (e.bump_le 0 0 0 true) (fun b => e.bump_mem 0 0 0 true b))
theorem WP.vir {c : Code} {α : Type} (ct : TypeId) (R : Rd α) {N : Nat} (hN : M.n = N) (tt : Nat) (hv : E.v tt = .lit (.slice none 0 0)) (k : WP P cx fr c (E.upd tt (.whole N)) (M.push (.row ct R [])) Q) : WP P cx fr c E M Q := by
  intro a w e hh he
  refine k a w (e.bump 0 0 0 true) hh.bindVir ?_
  have h1 : Emb fr.nt (e.bump 0 0 0 true) (M.push (.row ct R [])) E a := he.mono (e.bump_le 0 0 0 true) (fun b => e.bump_mem 0 0 0 true b)
  refine ⟨h1.sz, fun u => ?_, h1.d, h1.o⟩
  rw [Env.upd_v]
  split
  · rename_i hu
    subst hu
    have := h1.v u
    rw [hv] at this
    simp only [Val] at this
    rw [this]
    simp only [Val, Nv.bump, ← hN, ← hh.n, if_true]
    exact ⟨Nat.lt_succ_self _, Nat.le_refl _, trivial, trivial⟩
  · exact h1.v u
end
section
variable {P : Program} {E : Env} {M : Mem} {ty : TypeId}
/-- Bytes of a slice as a string's own: []byte("..") and the like need Qm. A slice of a slice that is only read. -/
theorem run_slice_sl {t el : TypeId} {n : Nat} (h : SlIs P t el n) (a : Option Addr) (len cap : Nat) (lo hi : Option Value) (l r : Nat) (w : World)
    (hl : (match lo with | some v => ∃ k, v = .int k (l : Int) | none => l = 0)) (hr : (match hi with | some v => ∃ k, v = .int k (r : Int) | none => r = len)) (hlr : l ≤ r) (hrc : r ≤ cap) :
    (Instr.sliceAt t (.slice a len cap) lo hi none).run P w = .ok (.slice (if cap = l then a else a.map (·.add (l * n))) (r - l) (cap - l)) w := by
  have e1 : ∀ (y : Nat) (code : BoundsCode) (v : Value) (m : Nat), (∃ k, v = .int k (m : Int)) → m ≤ y → (Instr.sliceBound v y code).run P w = .ok m w := by
    rintro y code v m ⟨k, rfl⟩ hm
    have h1 : (0 : Int) ≤ (m : Int) ∧ (m : Int) ≤ (y : Int) := ⟨by omega, by omega⟩
    simp only [Instr.sliceBound, asIntOf, Sem.run_bind, Sem.run_pure, Result.andThen]
    rw [if_pos h1]
    simp
  cases lo with
  | none =>
    simp only at hl
    cases hi with
    | none =>
      simp only at hr
      subst hl hr
      simp [Instr.sliceAt, Instr.slice, run_underlying h.t, Instr.sliceBounds, h.e.run]
    | some v =>
      simp only at hr
      subst hl
      simp [Instr.sliceAt, Instr.slice, run_underlying h.t, Instr.sliceBounds, h.e.run, e1 cap _ v r hr hrc]
  | some u =>
    simp only at hl
    cases hi with
    | none =>
      simp only at hr
      subst hr
      simp [Instr.sliceAt, Instr.slice, run_underlying h.t, Instr.sliceBounds, h.e.run, e1 r _ u l hl hlr]
    | some v =>
      simp only at hr
      simp [Instr.sliceAt, Instr.slice, run_underlying h.t, Instr.sliceBounds, h.e.run, e1 cap _ v r hr hrc, e1 r _ u l hl hlr]
/-- The bounds of a slice expression. -/
def evOpt (E : Env) (x : Option Operand) (d : Int) (i : Int) : Prop := match x with | some o => ∃ k, E.ev o = .lit (.int k i) | none => i = d
theorem q_slice_ro {α : Type} {R : Rd α} {b : Bool} {l : List α} {t el : TypeId} {n : Nat} {x : Operand} {lo hi : Option Operand} {i j : Int} (h : SlIs P t el n) (hn : R.sz = n) (hx : E.ev x = .ro (Rd.slice R) b l)
    (hlo : evOpt E lo 0 i) (hhi : evOpt E hi l.length j) (hb : decide (0 ≤ i ∧ i ≤ j ∧ j ≤ l.length) = true) : Quiet P (.slice t x lo hi none) ty E M [] (.ro (Rd.slice R) b ((l.take j.toNat).drop i.toNat)) :=
  fun cx nt a w e hh he => by
    obtain ⟨b0, b1, b2⟩ := of_decide_eq_true hb
    have hv := he.ev x; rw [hx] at hv; simp only [Val, Rd.slice] at hv
    have hlo' : (match lo.map a.eval with | some v => ∃ k, v = .int k (i.toNat : Int) | none => i.toNat = 0) := by
      cases lo with
      | none => simp only [evOpt] at hlo; subst hlo; rfl
      | some o =>
        obtain ⟨k, hk⟩ := hlo
        exact ⟨k, by rw [ev_lit he hk, Int.toNat_of_nonneg b0]⟩
    have hhi' : (match hi.map a.eval with | some v => ∃ k, v = .int k (j.toNat : Int) | none => j.toNat = l.length) := by
      cases hi with
      | none => simp only [evOpt] at hhi; subst hhi; exact Int.toNat_natCast _
      | some o =>
        obtain ⟨k, hk⟩ := hhi
        exact ⟨k, by rw [ev_lit he hk, Int.toNat_of_nonneg (by omega)]⟩
    have hlr : i.toNat ≤ j.toNat := by omega
    have hjl : j.toNat ≤ l.length := by omega
    have hlen : ((l.take j.toNat).drop i.toNat).length = j.toNat - i.toNat := by simp; omega
    rcases hv with ⟨rfl, ad, c, h1⟩ | ⟨bk, o, c, tt, fr, cap, h1, hc, h2, h3⟩
    · simp at h1
      have hj0 : j.toNat = 0 := by simpa using hjl
      have hi0 : i.toNat = 0 := by omega
      refine ⟨.slice (if c = i.toNat then ad else ad.map (·.add (i.toNat * n))) (j.toNat - i.toNat) (c - i.toNat), ?_, fun w1 hw => ?_⟩
      · simp only [Val, Rd.slice]
        exact .inl ⟨by simp, _, _, by rw [hj0, hi0]⟩
      · have := run_slice_sl h ad 0 c (lo.map a.eval) (hi.map a.eval) i.toNat j.toNat w1 hlo' (by simpa using hhi') hlr (by omega)
        simp [exec1, execOp, h1, this]
    · simp at h1
      refine ⟨.slice (if cap = i.toNat then some ⟨bk, o, none⟩ else (some (⟨bk, o, none⟩ : Addr)).map (·.add (i.toNat * n))) (j.toNat - i.toNat) (cap - i.toNat), ?_, fun w1 hw => ?_⟩
      · simp only [Val, Rd.slice]
        by_cases h0 : j.toNat - i.toNat = 0
        · exact .inl ⟨List.eq_nil_of_length_eq_zero (by omega), _, _, by rw [h0]⟩
        · have hne : ¬ cap = i.toNat := by omega
          refine .inr ⟨bk, o + i.toNat * n, c, tt, fr, cap - i.toNat, by rw [if_neg hne, hlen]; simp [add_at], by omega, h2, ?_⟩
          rw [← hn]
          have := rows_drop i.toNat (rows_take j.toNat h3)
          rw [List.drop_drop] at this
          exact this
      · have := run_slice_sl h (some ⟨bk, o, none⟩) l.length cap (lo.map a.eval) (hi.map a.eval) i.toNat j.toNat w1 hlo' hhi' hlr (by omega)
        simp [exec1, execOp, h1, this]
end
end Go.Q
namespace Go.Q
open Go
set_option linter.unusedVariables false
set_option linter.unusedSimpArgs false
/-- A state told otherwise. -/
def Cv (cx : Cx) (nt : Nat) (E : Env) (M : Mem) (E' : Env) (M' : Mem) : Prop :=
  ∀ a w e, Hold cx e M w → Emb nt e M E a → ∃ e', Hold cx e' M' w ∧ Emb nt e' M' E' a
def Ex.plain : Ex → Bool
  | .panic _ => false
  | _ => true
section
variable {P : Program} {cx : Cx} {fr : Fr} {nt : Nat} {E E' E'' : Env} {M M' M'' : Mem} {Q Q' : Ex → Env → Mem → Prop} {x : Ex} {c : Code} {ops : Array Oper} {os : List Oper}
theorem W.cv (k : Cv cx fr.nt E M E' M') (hx : x.plain = true) (h : W cx fr Q x E' M') : W cx fr Q x E M := fun a w e X hh he hX => by
  cases x with
  | panic v => cases hx
  | normal => obtain ⟨e', h1, h2⟩ := k a w e hh he; exact h a w e' X h1 h2 hX
  | exit id => obtain ⟨e', h1, h2⟩ := k a w e hh he; exact h a w e' X h1 h2 hX
  | goto l => obtain ⟨e', h1, h2⟩ := k a w e hh he; exact h a w e' X h1 h2 hX
  | ret => obtain ⟨e', h1, h2⟩ := k a w e hh he; exact h a w e' X h1 h2 hX
theorem WP.cv (k : Cv cx fr.nt E M E' M') (h : WP P cx fr c E' M' Q) : WP P cx fr c E M Q := fun a w e hh he => let ⟨e', h1, h2⟩ := k a w e hh he; h a w e' h1 h2
theorem WPL.cv (k : Cv cx fr.nt E M E' M') (h : WPL P cx fr ops os E' M' Q) : WPL P cx fr ops os E M Q := fun a w e hh he => let ⟨e', h1, h2⟩ := k a w e hh he; h a w e' h1 h2
theorem Cv.same : Cv cx nt E M E M := fun a w e hh he => ⟨e, hh, he⟩
theorem Cv.trans (h : Cv cx nt E M E' M') (k : Cv cx nt E' M' E'' M'') : Cv cx nt E M E'' M'' := fun a w e hh he => let ⟨e', h1, h2⟩ := h a w e hh he; k a w e' h1 h2
theorem WPL.nilW (h : W cx fr Q .normal E M) : WPL P cx fr ops [] E M Q := fun a w e hh he => h a w e _ hh he rfl
theorem WP.skipW (h : W cx fr Q .normal E M) : WP P cx fr .skip E M Q := fun a w e hh he => wpIn_skip (h a w e _ hh he rfl)
theorem WP.labelW {l : Nat} (h : W cx fr Q .normal E M) : WP P cx fr (.label l) E M Q := fun a w e hh he => wpIn_label (h a w e _ hh he rfl)
theorem WP.exitW {id : Nat} (h : W cx fr Q (.exit id) E M) : WP P cx fr (.exit id) E M Q := fun a w e hh he => wpIn_exit (h a w e _ hh he rfl)
theorem WP.retW (h : W cx fr Q .ret E M) : WP P cx fr .ret E M Q := fun a w e hh he => wpIn_ret (h a w e _ hh he rfl)
theorem WPD.doneW {st X : List Nat} {fuel : Nat} {listed : Array Bool} (hb : readyNo ops listed = true) (h : W cx fr Q .normal E M) : WPD P cx fr ops st X fuel listed E M Q := by
  intro a w e hh he
  have hready : Region.ready .any ops listed = [] := by simpa [readyNo, List.isEmpty_iff] using hb
  have hs : Sat cx fr Q .normal a w := h a w e _ hh he rfl
  cases fuel with
  | zero => exact ⟨hready, hs⟩
  | succ n => exact ⟨fun _ => hs, by rw [hready]; simp⟩
theorem WPD.split {st X : List Nat} {fuel : Nat} {listed : Array Bool} {t : Nat} {b : Bool} (hv : E.v t = .lit (.bool b)) (h1 : b = true → WPD P cx fr ops st X fuel listed E M Q) (h2 : b = false → WPD P cx fr ops st X fuel listed E M Q) : WPD P cx fr ops st X fuel listed E M Q := by
  cases b with
  | true => exact h1 rfl
  | false => exact h2 rfl
theorem WPD.sub {st X : List Nat} {fuel : Nat} {listed : Array Bool} (X' : List Nat) (hs : X'.all X.contains = true) (k : WPD P cx fr ops st X' fuel listed E M Q) : WPD P cx fr ops st X fuel listed E M Q :=
  fun a w e hh he => wpAnyF_mono (fun _ h => h) (fun _ h => h.nil_of) (fun _ h => h) (fun i hi => List.all_eq_true.1 hs i (by simpa using hi)) _ _ _ _ (k a w e hh he)
theorem WP.regionD' (n : Nat) (st X : List Nat) {id : Nat} (hm : P.follows .mixedOrders = true) (hn : ops.size = n) (h : WPD P cx fr ops st X n (Array.replicate n false) E M Q) : WP P cx fr (.region id ops true) E M Q := by
  subst hn; exact WP.regionD st X hm h
/-- A cut. -/
theorem WP.monoW (h : WP P cx fr c E M Q) (hq : ∀ x E M, Q x E M → W cx fr Q' x E M) : WP P cx fr c E M Q' :=
  fun a w e hh he => Go.wpIn_mono (h a w e hh he) fun X a' w' k => by
    obtain ⟨y, E', M', e', q, h1, h2, h3⟩ := k
    exact hq y E' M' q a' w' e' X h1 h2 h3
theorem Cv.weak {np : Nat} (l : List Nat) (hnp : cx.np = np) (hM : LeM l np M M') (hE : LeE l M'.n E E') : Cv cx nt E M E' M' :=
  fun a w e hh he => ⟨_, hh.re hnp hM, he.re hM hE⟩
/-- A state told otherwise, its naming going on. -/
def CvL (cx : Cx) (nt : Nat) (E : Env) (M : Mem) (E' : Env) (M' : Mem) : Prop :=
  ∀ a w e, Hold cx e M w → Emb nt e M E a → ∃ e', Hold cx e' M' w ∧ Emb nt e' M' E' a ∧ e.le e'
theorem CvL.cv (h : CvL cx nt E M E' M') : Cv cx nt E M E' M' := fun a w e hh he => let ⟨e', h1, h2, _⟩ := h a w e hh he; ⟨e', h1, h2⟩
theorem CvL.vir {α : Type} (ct : TypeId) (R : Rd α) {N : Nat} (hN : M.n = N) (tt : Nat) (hv : E.v tt = .lit (.slice none 0 0)) : CvL cx nt E M (E.upd tt (.whole N)) (M.push (.row ct R [])) := by
  intro a w e hh he
  refine ⟨e.bump 0 0 0 true, hh.bindVir, ?_, e.bump_le 0 0 0 true⟩
  have h1 : Emb nt (e.bump 0 0 0 true) (M.push (.row ct R [])) E a := he.mono (e.bump_le 0 0 0 true) (fun b => e.bump_mem 0 0 0 true b)
  refine ⟨h1.sz, fun u => ?_, h1.d, h1.o⟩
  rw [Env.upd_v]
  split
  · rename_i hu
    subst hu
    have := h1.v u
    rw [hv] at this
    simp only [Val] at this
    rw [this]
    simp only [Val, Nv.bump, ← hN, ← hh.n, if_true]
    exact ⟨Nat.lt_succ_self _, Nat.le_refl _, trivial, trivial⟩
  · exact h1.v u
theorem Cv.vir {α : Type} (ct : TypeId) (R : Rd α) {N : Nat} (hN : M.n = N) (tt : Nat) (hv : E.v tt = .lit (.slice none 0 0)) : Cv cx nt E M (E.upd tt (.whole N)) (M.push (.row ct R [])) := CvL.cv (CvL.vir ct R hN tt hv)
theorem CvL.virC {α : Type} (ct : TypeId) (R : Rd α) {i off N : Nat} {t : TypeId} {l : List AVal} (hN : M.n = N) (hi : Nat.blt i N = true) (hc : M.at_ i = .cells t l) (hv : l[off]? = some (.lit (.slice none 0 0))) :
    CvL cx nt E M E ((M.push (.row ct R [])).set i (.cells t (l.set off (.whole N)))) :=
  fun a w e hh he => ⟨_, hh.virCell hN (by simpa using hi) hc hv, he.mono (e.bump_le 0 0 0 true) (fun b => e.bump_mem 0 0 0 true b), e.bump_le 0 0 0 true⟩
theorem Cv.virC {α : Type} (ct : TypeId) (R : Rd α) {i off N : Nat} {t : TypeId} {l : List AVal} (hN : M.n = N) (hi : Nat.blt i N = true) (hc : M.at_ i = .cells t l) (hv : l[off]? = some (.lit (.slice none 0 0))) :
    Cv cx nt E M E ((M.push (.row ct R [])).set i (.cells t (l.set off (.whole N)))) := CvL.cv (CvL.virC ct R hN hi hc hv)
theorem Cv.frzRow {i np : Nat} {t : TypeId} {α : Type} {R : Rd α} {l : List α} (hi : Nat.blt i M.n = true) (hc : M.at_ i = .row t R l) (hnp : cx.np = np) (hni : Nat.ble np i = true) (hd : (E.d.all fun j => !Nat.beq j i) = true) :
    Cv cx nt E M (E.frz i (.ro (Rd.slice R) false l) .any) (M.frz i (.ro (Rd.slice R) false l) .any) :=
  fun a w e hh he => let ⟨e', h1, h2, _⟩ := freeze_row hh he hi hc hnp hni hd; ⟨e', h1, h2⟩
theorem Cv.frzCells {i np : Nat} {t : TypeId} {α : Type} {R : Rd α} {d : α} {l : List AVal} (hi : Nat.blt i M.n = true) (hc : M.at_ i = .cells t l) (hj : Joins R false d l) (hl : Nat.beq l.length R.sz = true) (hnp : cx.np = np) (hni : Nat.ble np i = true) (hd : (E.d.all fun j => !Nat.beq j i) = true) :
    Cv cx nt E M (E.frz i .any (.ro (Rd.ptr R) false d)) (M.frz i .any (.ro (Rd.ptr R) false d)) :=
  fun a w e hh he => let ⟨e', h1, h2, _⟩ := freeze_cells hh he hi hc hj hl hnp hni hd; ⟨e', h1, h2⟩
theorem CvL.frzRow {i np : Nat} {t : TypeId} {α : Type} {R : Rd α} {l : List α} (hi : Nat.blt i M.n = true) (hc : M.at_ i = .row t R l) (hnp : cx.np = np) (hni : Nat.ble np i = true) (hd : (E.d.all fun j => !Nat.beq j i) = true) :
    CvL cx nt E M (E.frz i (.ro (Rd.slice R) false l) .any) (M.frz i (.ro (Rd.slice R) false l) .any) :=
  fun a w e hh he => freeze_row hh he hi hc hnp hni hd
theorem CvL.frzCells {i np : Nat} {t : TypeId} {α : Type} {R : Rd α} {d : α} {l : List AVal} (hi : Nat.blt i M.n = true) (hc : M.at_ i = .cells t l) (hj : Joins R false d l) (hl : Nat.beq l.length R.sz = true) (hnp : cx.np = np) (hni : Nat.ble np i = true) (hd : (E.d.all fun j => !Nat.beq j i) = true) :
    CvL cx nt E M (E.frz i .any (.ro (Rd.ptr R) false d)) (M.frz i .any (.ro (Rd.ptr R) false d)) :=
  fun a w e hh he => freeze_cells hh he hi hc hj hl hnp hni hd
/-- Nil, as a slice that is only read. -/
theorem nil_ro {e : Nv} {α : Type} (R : Rd α) (b : Bool) {v : Value} (h : Val e (.lit (.slice none 0 0)) v) : Val e (.ro (Rd.slice R) b []) v := by
  simp only [Val] at h ⊢
  exact .inl ⟨rfl, none, 0, by rw [h]⟩
theorem Cv.nilRo {α : Type} (R : Rd α) (b : Bool) (tt : Nat) (hv : E.v tt = .lit (.slice none 0 0)) : Cv cx nt E M (E.upd tt (.ro (Rd.slice R) b [])) M := by
  intro a w e hh he
  refine ⟨e, hh, he.sz, fun u => ?_, he.d, he.o⟩
  rw [Env.upd_v]
  split
  · rename_i hu
    subst hu
    have := he.v u
    rw [hv] at this
    exact nil_ro R b this
  · exact he.v u
theorem Cv.nilRoC {α : Type} (R : Rd α) (b : Bool) {i off : Nat} {t : TypeId} {l : List AVal} (hi : Nat.blt i M.n = true) (hc : M.at_ i = .cells t l) (hv : l[off]? = some (.lit (.slice none 0 0))) :
    Cv cx nt E M E (M.set i (.cells t (l.set off (.ro (Rd.slice R) b [])))) :=
  fun a w e hh he => by
    have hin : i < e.n := by rw [hh.n]; simpa using hi
    have hlive : (M.at_ i).live e i := by rw [hc]; trivial
    refine ⟨e, hh.change hin hlive rfl rfl rfl rfl (fun _ _ => rfl) ?_, he.mem⟩
    have hk := hh.ch i hin
    rw [hc] at hk
    obtain ⟨g1, vs, g2, g3, g4⟩ := hk
    refine ⟨g1, vs, g2, ?_, g4⟩
    obtain ⟨u, hu, hval⟩ := g3.get hv
    have hset : vs = vs.set off u := by
      apply List.ext_getElem?
      intro j
      rw [List.getElem?_set]
      split
      · rename_i hj; subst hj; split
        · rename_i hlt; rw [hu]
        · rename_i hge; rw [List.getElem?_eq_none (by omega)]
      · rfl
    rw [hset]
    exact g3.set (nil_ro R b hval)
/-- Is a slice that is only read nil? If so it is empty. -/
theorem WPL.eqlNil {α : Type} {R : Rd α} {b : Bool} {l : List α} {t el yt ty : TypeId} {y : Operand} {dst : Nat} {pos : String} {after : Array Edge} (ht : P.underlying t = some (.slice el)) (hx : E.ev y = .ro (Rd.slice R) b l)
    (hd : Nat.blt dst fr.nt = true) (k : ∀ nb : Bool, (nb = true → l = []) → WPL P cx fr ops os (E.upd dst (.lit (.bool nb))) M Q) :
    WPL P cx fr ops ({ dst := some dst, op := .binOp .eql t y (.const (.slice none 0 0)) yt, type := ty, pos := pos, after := after, guard := Option.none } :: os) E M Q := by
  intro a w e hh he
  have hv := he.ev y
  rw [hx] at hv
  simp only [Val, Rd.slice] at hv
  have hrun : ∀ (ad : Option Addr) (n c : Nat), (binOp .eql t (.slice ad n c) (.slice none 0 0)).run P w = .ok (.bool ad.isNone) w := by
    intro ad n c
    have h1 : (Op.equal t (.slice ad n c) (.slice none 0 0)).run P w = .ok ad.isNone w := by
      rw [equal_eq, Op.equalIn]
      simp only [Sem.run_bind, run_underlying ht, Result.andThen, Sem.run_pure]
      cases ad <;> rfl
    simp only [binOp, Sem.run_bind, h1, Result.andThen, Sem.run_pure]
  have key : ∀ (ad : Option Addr) (n c : Nat), a.eval y = .slice ad n c → (ad.isNone = true → l = []) → wpListIn (fence P fr.r) 0 P ops (Sat cx fr Q) ({ dst := some dst, op := .binOp .eql t y (.const (.slice none 0 0)) yt, type := ty, pos := pos, after := after, guard := Option.none } :: os) a w := by
    intro ad n c hy hn
    unfold wpListIn
    rw [if_pos (by rfl)]
    refine ⟨fun f hf => by simp [Oper.about] at hf, ?_⟩
    rw [semAt_value (x := .bool ad.isNone) (w' := w)]
    · exact k _ hn _ w e hh (he.put hd (by simp [Val]))
    · simp only [exec1, execOp, hy, eval_const, g_slice, Sem.run_bind, Sem.run_pure, Result.andThen, hrun]
  rcases hv with ⟨h0, ad, c, h1⟩ | ⟨bk, o, c, tt, fr', cap, h1, _⟩
  · simp at h1
    exact key ad 0 c h1 (fun _ => h0)
  · simp at h1
    exact key _ _ _ h1 (fun h => by simp at h)
/-- A value told otherwise. -/
theorem q_nm {op : Op} {ty : TypeId} {st : List Nat} {v v' : AVal} (h : Quiet P op ty E M st v) (hv : v = v') : Quiet P op ty E M st v' := hv ▸ h
theorem nm_int {k : IntKind} {a b : Int} (h : some a = some b) : AVal.lit (.int k a) = AVal.lit (.int k b) := by cases h; rfl
theorem nm_bool {a b : Bool} (h : some a = some b) : AVal.lit (.bool a) = AVal.lit (.bool b) := by cases h; rfl
theorem nf {α : Type} {x : Option α} {r : α} {p : Prop} (e : x = none) (h : x = some r) : p := by rw [e] at h; cases h
end
/-- A truth value that is known. -/
theorem lb {a b : Bool} (h : a = b) : AVal.lit (.bool a) = AVal.lit (.bool b) := by rw [h]
theorem ixs {α : Type} {l : List α} {i : Int} {d : α} (h : ix l i = some d) : (ix l i).isSome = true := by rw [h]; rfl
theorem ixj {α : Type} {l : List α} {i : Int} {d : α} (h : ix l i = some d) : l[i.toNat]? = some d := (ix_some h).2.1
theorem Joins.nil {α : Type} {R : Rd α} {b : Bool} : Joins (Rd.slice R) b [] [.lit (.slice none 0 0)] := fun e cs hk ho => by
  simp only [Vals, Val] at hk
  obtain ⟨v, ws, rfl, rfl, rfl⟩ := hk
  exact .inl ⟨rfl, none, 0, rfl⟩
/-- What a body must come to, its memory told anew. -/
def BodyR (az : List (Nat × Nat)) (rs : List ResultVar) (np : Nat) (Q : Out → Mem → Prop) (x : Ex) (E : Env) (M : Mem) : Prop :=
  match x with
  | .normal | .ret => marksOk M E.d ∧ ∃ vs, resAll az E (dropMarks M E.d) rs = some vs ∧ ∃ (l : List Nat) (v : AVal) (M2 : Mem), LeM l np (dropMarks M E.d) M2 ∧ resOut vs = v.ren (sub l) ∧ (v.under M2.n && E.b.isEmpty) = true ∧ Q (.ret v) M2
  | .panic u => marksOk M E.d ∧ ∃ (l : List Nat) (v : AVal) (M2 : Mem), LeM l np (dropMarks M E.d) M2 ∧ u = v.ren (sub l) ∧ (v.under M2.n && E.b.isEmpty) = true ∧ Q (.pan v) M2
  | _ => False
theorem Spec.of_bodyR {az : List (Nat × Nat)} {P : Program} {f : FuncId} {fn : Func} {c : Code} {np nt : Nat} {args : List AVal} {M : Mem} {Q : Out → Mem → Prop} {rs : List ResultVar} (hf : P.funcs[f]? = some fn) (hb : fn.body = some c) (hr : fn.results.toList = rs) (hsc : ∀ t T, ResultVar.cell t T ∈ rs → CellOk P az T)
    (hnt : fn.ntmps = nt) (ha : Nat.ble args.length nt = true) (h : ∀ cx, cx.np = np → WP P cx ⟨nt, none, []⟩ c (argsEnv args) M (BodyR az rs np Q)) : Spec P f np args M Q := by
  have h1 : Spec P f np args M fun o M' => match o with
      | .ret u => ∃ (l : List Nat) (v : AVal) (M2 : Mem), LeM l np M' M2 ∧ u = v.ren (sub l) ∧ v.under M2.n = true ∧ Q (.ret v) M2
      | .pan u => ∃ (l : List Nat) (v : AVal) (M2 : Mem), LeM l np M' M2 ∧ u = v.ren (sub l) ∧ v.under M2.n = true ∧ Q (.pan v) M2 := by
    refine Spec.of_body hf hb hr hsc hnt ha fun cx hnp => (h cx hnp).mono fun x E M q => ?_
    cases x with
    | normal => obtain ⟨q1, vs, q2, l, v, M2, g1, g2, g3, g4⟩ := q; rw [Bool.and_eq_true] at g3; exact ⟨by simpa using g3.2, q1, vs, q2, l, v, M2, g1, g2, g3.1, g4⟩
    | ret => obtain ⟨q1, vs, q2, l, v, M2, g1, g2, g3, g4⟩ := q; rw [Bool.and_eq_true] at g3; exact ⟨by simpa using g3.2, q1, vs, q2, l, v, M2, g1, g2, g3.1, g4⟩
    | panic u => obtain ⟨q1, l, v, M2, g1, g2, g3, g4⟩ := q; rw [Bool.and_eq_true] at g3; exact ⟨by simpa using g3.2, q1, l, v, M2, g1, g2, g3.1, g4⟩
    | exit id => exact q
    | goto l => exact q
  intro cx e w vs k1 k2 k3
  refine (h1 cx e w vs k1 k2 k3).mono fun x w' ⟨o, M', e', q, g1, g2⟩ => ?_
  cases o with
  | ret u =>
    obtain ⟨l, v, M2, hM, rfl, hu, hq⟩ := q
    obtain ⟨y, rfl, hy⟩ := g2
    exact ⟨.ret v, M2, _, hq, g1.re k1.np hM, y, rfl, hy.re hu⟩
  | pan u =>
    obtain ⟨l, v, M2, hM, rfl, hu, hq⟩ := q
    obtain ⟨y, rfl, hy⟩ := g2
    exact ⟨.pan v, M2, _, hq, g1.re k1.np hM, y, rfl, hy.re hu⟩
section
variable {P : Program} {b : Frame} {a : Act} {k : List Item} {cs : List Frame} {w : World}
theorem stepR_scope {c : Code} : step P (lone (b.atR a (.code (.scope c) :: k)) cs w) = .next (lone (b.atR a (.code c :: .inScope c :: k)) cs w) :=
  step_lone_go (by simp [stepG, stepG.exec, Frame.atR])
theorem stepR_inScope {c : Code} : step P (lone (b.atR a (.inScope c :: k)) cs w) = .next (lone (b.atR a k) cs w) :=
  step_lone_go (by simp [stepG, stepG.exec, Frame.atR])
end
/-- A scope through which the walk goes without a goto. -/
theorem WP.scope {P : Program} {cx : Cx} {fr : Fr} {c : Code} {E : Env} {M : Mem} {Q : Ex → Env → Mem → Prop} (h : WP P cx fr c E M fun x E M => (match x with | .goto _ => False | _ => True) ∧ Q x E M) : WP P cx fr (.scope c) E M Q := by
  intro a w e hh he b k cs hro hb hr
  obtain ⟨x, a1, w1, hq, harr⟩ := h a w e hh he b (.inScope c :: k) cs hro hb hr
  have h0 : (lone (b.atR a (.code (.scope c) :: k)) cs w).fenced P (fence P fr.r) := fenced_calm hb hr rfl
  obtain ⟨y, E', M', e', ⟨q1, q2⟩, g1, g2, g3⟩ := hq
  have hs : Sat cx fr Q x a1 w1 := ⟨y, E', M', e', q2, g1, g2, g3⟩
  cases y with
  | normal => cases g3; exact ⟨.normal, a1, w1, hs, .head h0 stepR_scope (StepsIn.trans harr (.one (fenced_calm hb hr rfl) stepR_inScope))⟩
  | exit id =>
    cases g3
    have hx : exitTo id (.inScope c :: k) = exitTo id k := by simp [exitTo]
    exact ⟨.exit id, a1, w1, hs, fun k' hk => .head h0 stepR_scope (harr.1 k' (by rw [hx]; exact hk)), fun hr' hk => let ⟨k1, h1, h2⟩ := harr.2 hr' (by rw [hx]; exact hk); ⟨k1, h1, .head h0 stepR_scope h2⟩⟩
  | goto l => exact q1.elim
  | ret => cases g3; exact ⟨_, a1, w1, hs, .of_steps (.one h0 stepR_scope) harr⟩
  | panic u =>
    obtain ⟨v, rfl, hv⟩ := g3
    exact ⟨_, a1, w1, hs, .of_steps (.one h0 stepR_scope) harr⟩
theorem Scope.n {Q : Ex → Env → Mem → Prop} {E : Env} {M : Mem} (h : Q .normal E M) : (match Ex.normal with | .goto _ => False | _ => True) ∧ Q .normal E M := ⟨trivial, h⟩
theorem Scope.r {Q : Ex → Env → Mem → Prop} {E : Env} {M : Mem} (h : Q .ret E M) : (match Ex.ret with | .goto _ => False | _ => True) ∧ Q .ret E M := ⟨trivial, h⟩
theorem Scope.x {Q : Ex → Env → Mem → Prop} {E : Env} {M : Mem} {id : Nat} (h : Q (.exit id) E M) : (match Ex.exit id with | .goto _ => False | _ => True) ∧ Q (.exit id) E M := ⟨trivial, h⟩
section
variable {cx : Cx} {e : Nv} {M : Mem} {w : World} {E : Env} {nt : Nat}
/-- A mark that stands for nothing. -/
theorem Hold.bindBag (h : Hold cx e M w) : Hold cx (e.bump 0 0 0 true) (M.push .bag) w := by
  have h1 := h.bindVir (t := 0) (R := Rd.unit)
  have hat : ∀ i, ((M.push .bag).at_ i) = if i = M.n then .bag else (M.push (.row 0 Rd.unit [])).at_ i := by
    intro i; rw [Mem.push_at, Mem.push_at]; split <;> rfl
  have hatn : (M.push (.row 0 Rd.unit [])).at_ M.n = .row 0 Rd.unit [] := by rw [Mem.push_at, if_pos rfl]
  have hvn : (e.bump 0 0 0 true).vir M.n = true := by simp [Nv.bump, h.n]
  have hbn : (e.bump 0 0 0 true).bag M.n = [] := by simp [Nv.bump, h.n]
  have lv : ∀ i, ((M.push .bag).at_ i).live (e.bump 0 0 0 true) i → ((M.push (.row 0 Rd.unit [])).at_ i).live (e.bump 0 0 0 true) i := by
    intro i hl
    rw [hat] at hl
    split at hl
    · exact hl.elim
    · exact hl
  have mk : ∀ i, ((M.push .bag).at_ i).mark = true → i = M.n ∨ ((M.push (.row 0 Rd.unit [])).at_ i).mark = true := by
    intro i hm
    rw [hat] at hm
    split at hm
    · exact .inl (by assumption)
    · exact .inr hm
  refine ⟨h1.bm, h1.n, h1.size, h1.os, h1.tape, h1.output, h1.frame, h1.ro, h1.bro, h1.m0, h1.mnew, ?_, fun i hi hl => h1.live i hi (lv i hl), fun i j hi hj hli hlj => h1.dist i j hi hj (lv i hli) (lv j hlj), h1.np, h1.pin, ⟨?_, ?_, ?_, ?_⟩⟩
  · intro i hi
    rw [hat]
    split
    · rename_i hin; subst hin; exact hvn
    · exact h1.ch i hi
  · intro i hi hm
    rcases mk i hm with rfl | hm
    · rw [hbn]; exact List.nodup_nil
    · exact h1.bag.nodup i hi hm
  · intro i hi hm x hx
    rcases mk i hm with rfl | hm
    · rw [hbn] at hx; cases hx
    · exact h1.bag.at_ i hi hm x hx
  · intro i hi hm x hx j hj hlj
    rcases mk i hm with rfl | hm
    · rw [hbn] at hx; cases hx
    · exact h1.bag.own i hi hm x hx j hj (lv j hlj)
  · intro i j hi hj hmi hmj hij x hx
    rcases mk i hmi with rfl | hmi
    · rw [hbn] at hx; cases hx
    · rcases mk j hmj with rfl | hmj
      · rw [hbn]; simp
      · exact h1.bag.dist i j hi hj hmi hmj hij x hx
theorem Cv.nullMark {N : Nat} (hN : M.n = N) (hd : E.d = []) : Cv cx nt E M ⟨E.v, [N], E.o, E.b⟩ (M.push .bag) := by
  intro a w e hh he
  have h1 : Emb nt (e.bump 0 0 0 true) (M.push .bag) E a := he.mono (e.bump_le 0 0 0 true) (fun b => e.bump_mem 0 0 0 true b)
  refine ⟨_, hh.bindBag, h1.sz, h1.v, ?_, h1.o⟩
  have hd1 := h1.d
  rw [hd] at hd1
  obtain ⟨r, hr, hm⟩ := hd1
  have hr0 : r = [] := hm
  subst hr0
  refine ⟨[], hr, [], ?_, by simp [Nv.bump, hh.n, hN], rfl⟩
  have : markBlocks (e.bump 0 0 0 true) N = [] := by simp [markBlocks, Nv.bump, hh.n, hN]
  rw [this]
  rfl
end
/-- One name more, for a bag of marks. -/
def Nv.bumpBag (e : Nv) (bs : List Nat) : Nv := { e.bump 0 0 0 true with bag := fun k => if k = e.n then bs else e.bag k }
theorem Nv.bumpBag_le (e : Nv) (bs : List Nat) : e.le (e.bumpBag bs) :=
  ⟨Ro.le.refl _, Ro.le.refl _, Nat.le_succ _, (e.bump_le 0 0 0 true).own, (e.bump_le 0 0 0 true).caps, (e.bump_le 0 0 0 true).lens, (e.bump_le 0 0 0 true).vir, fun i hi => by simp [Nv.bumpBag, Nat.ne_of_lt hi]⟩
theorem Nv.bumpBag_mem (e : Nv) (bs : List Nat) (x : Bool) : Ro.le (e.mem x) ((e.bumpBag bs).mem x) := Ro.le.refl _
section
variable {cx : Cx} {e : Nv} {M : Mem} {w : World} {E : Env} {nt : Nat}
theorem Hold.bindBagL (h : Hold cx e M w) {bs : List Nat} (hn : bs.Nodup) (hb : ∀ b ∈ bs, w.heap[b]? = some (.deferred (some [])) ∧ Trash cx e M b) : Hold cx (e.bumpBag bs) (M.push .bag) w := by
  have hle := e.bumpBag_le bs
  have hat : ∀ i, i < e.n → (M.push .bag).at_ i = M.at_ i := fun i hi => by rw [Mem.push_at, if_neg (by rw [← h.n]; omega)]
  have hatn : (M.push .bag).at_ e.n = .bag := by rw [Mem.push_at, if_pos h.n]
  have split : ∀ i, i < (e.bumpBag bs).n → i = e.n ∨ i < e.n := fun i hi => by simp only [Nv.bumpBag, Nv.bump] at hi; omega
  have bn : (e.bumpBag bs).bag e.n = bs := by simp [Nv.bumpBag]
  have bo : ∀ i, i < e.n → (e.bumpBag bs).bag i = e.bag i := hle.bag
  have hdead : ¬ ((M.push .bag).at_ e.n).live (e.bumpBag bs) e.n := by rw [hatn]; exact fun h => h
  refine ⟨h.bm, by simp [Nv.bumpBag, Nv.bump, Mem.push, h.n], h.size, h.os, h.tape, h.output, h.frame, h.ro, h.bro, h.m0, h.mnew, ?_, ?_, ?_, Nat.le_succ_of_le h.np, ?_, ?_⟩
  · intro i hi
    rcases split i hi with rfl | hi'
    · rw [hatn]; simp [Chunk.ok, Nv.bumpBag, Nv.bump]
    · rw [hat i hi']
      exact Chunk.ok_mono hle (fun x => e.bumpBag_mem bs x) hi' (h.ch i hi')
  · intro i hi hl
    rcases split i hi with rfl | hi'
    · exact absurd hl hdead
    · rw [hat i hi'] at hl
      have := h.live i hi' ((live_congr (hle.vir i hi')).1 hl)
      rw [hle.own i hi']
      exact this
  · intro i j hi hj hli hlj hij
    rcases split i hi with rfl | hi'
    · exact absurd hli hdead
    rcases split j hj with rfl | hj'
    · exact absurd hlj hdead
    rw [hat i hi'] at hli
    rw [hat j hj'] at hlj
    rw [hle.own i hi', hle.own j hj'] at hij
    exact h.dist i j hi' hj' ((live_congr (hle.vir i hi')).1 hli) ((live_congr (hle.vir j hj')).1 hlj) hij
  · intro i hi
    have hi' : i < e.n := by have := h.np; omega
    rw [hle.own i hi', hle.caps i hi', hle.lens i hi', hle.vir i hi']
    exact h.pin i hi
  · refine ⟨fun i hi hmk => ?_, fun i hi hmk x hx => ?_, fun i hi hmk x hx j hj hlj => ?_, fun i j hi hj hmi hmj hij x hx => ?_⟩
    · rcases split i hi with rfl | hi'
      · rw [bn]; exact hn
      · rw [hat i hi'] at hmk; rw [bo i hi']; exact h.bag.nodup i hi' hmk
    · rcases split i hi with rfl | hi'
      · rw [bn] at hx
        obtain ⟨h1, h2⟩ := hb x hx
        exact ⟨h1, h2.m, h2.bm, h2.F⟩
      · rw [hat i hi'] at hmk; rw [bo i hi'] at hx
        exact h.bag.at_ i hi' hmk x hx
    · rcases split j hj with rfl | hj'
      · exact absurd hlj hdead
      · rw [hat j hj'] at hlj
        rw [hle.own j hj']
        have hlj' := (live_congr (hle.vir j hj')).1 hlj
        rcases split i hi with rfl | hi'
        · rw [bn] at hx; exact (hb x hx).2.own j hj' hlj'
        · rw [hat i hi'] at hmk; rw [bo i hi'] at hx
          exact h.bag.own i hi' hmk x hx j hj' hlj'
    · rcases split i hi with rfl | hi'
      · rw [bn] at hx
        rcases split j hj with rfl | hj'
        · exact absurd rfl hij
        · rw [hat j hj'] at hmj; rw [bo j hj']
          exact (hb x hx).2.bag j hj' hmj
      · rw [hat i hi'] at hmi; rw [bo i hi'] at hx
        rcases split j hj with rfl | hj'
        · rw [bn]
          exact fun hxb => (hb x hxb).2.bag i hi' hmi hx
        · rw [hat j hj'] at hmj; rw [bo j hj']
          exact h.bag.dist i j hi' hj' hmi hmj hij x hx
/-- A finished mark and a bag, as one bag. -/
theorem Cv.absorb {N i j : Nat} {l : List Nat} (hN : M.n = N) (hd : E.d = j :: i :: l) (hj : M.at_ j = .obj (.deferred (some []))) (hi : M.at_ i = .bag) : Cv cx nt E M ⟨E.v, N :: l, E.o, E.b⟩ (((M.set j .gone).set i .gone).push .bag) := by
  intro a w e hh he
  have hdm := he.d
  rw [hd] at hdm
  obtain ⟨r0, hr0, r1, hr1, hjn, i1, hi1, hin, hr2⟩ := hdm
  have hij : j ≠ i := by rintro rfl; rw [hj] at hi; cases hi
  have hjm : (M.at_ j).mark = true := by rw [hj]; rfl
  have him : (M.at_ i).mark = true := by rw [hi]; rfl
  have hjl : (M.at_ j).live e j := by rw [hj]; trivial
  have hcj := hh.ch j hjn
  rw [hj] at hcj
  obtain ⟨hvj, hbj⟩ := hcj
  have hci := hh.ch i hin
  rw [hi] at hci
  have hvi : e.vir i = true := hci
  have hlj := hh.live j hjn hjl
  let bs := e.own j :: (e.bag j ++ e.bag i)
  have hh2 : Hold cx e ((M.set j .gone).set i .gone) w := (hh.drop j).drop i
  have at2 : ∀ k, ((M.set j .gone).set i .gone).at_ k = if k = i then .gone else if k = j then .gone else M.at_ k := by
    intro k; rw [Mem.set_at]; split
    · rfl
    · rw [Mem.set_at]
  have lv : ∀ k, (((M.set j .gone).set i .gone).at_ k).live e k → k ≠ j ∧ (M.at_ k).live e k := by
    intro k hk
    rw [at2] at hk
    split at hk
    · exact hk.elim
    · split at hk
      · exact hk.elim
      · exact ⟨by assumption, hk⟩
  have mk : ∀ k, (((M.set j .gone).set i .gone).at_ k).mark = true → k ≠ j ∧ k ≠ i ∧ (M.at_ k).mark = true := by
    intro k hk
    rw [at2] at hk
    split at hk
    · cases hk
    · split at hk
      · cases hk
      · exact ⟨by assumption, by assumption, hk⟩
  have hnd : bs.Nodup := by
    refine List.nodup_cons.2 ⟨?_, List.nodup_append.2 ⟨hh.bag.nodup j hjn hjm, hh.bag.nodup i hin him, ?_⟩⟩
    · intro hm
      rcases List.mem_append.1 hm with hm | hm
      · exact hh.bag.own j hjn hjm _ hm j hjn hjl rfl
      · exact hh.bag.own i hin him _ hm j hjn hjl rfl
    · intro x hx y hy hxy
      subst hxy
      exact hh.bag.dist j i hjn hin hjm him hij x hx hy
  have htr : ∀ b ∈ bs, w.heap[b]? = some (.deferred (some [])) ∧ Trash cx e ((M.set j .gone).set i .gone) b := by
    intro b hb
    rcases List.mem_cons.1 hb with rfl | hb
    · refine ⟨hbj, hlj.2.1, hlj.2.2.1, hlj.2.2.2, fun k hk hl => ?_, fun k hk hm hx => ?_⟩
      · obtain ⟨h1, h2⟩ := lv k hl
        exact fun he => h1 (hh.dist k j hk hjn h2 hjl he)
      · exact hh.bag.own k hk (mk k hm).2.2 _ hx j hjn hjl rfl
    · have key : ∀ q, q < e.n → (M.at_ q).mark = true → (q = j ∨ q = i) → b ∈ e.bag q → w.heap[b]? = some (.deferred (some [])) ∧ Trash cx e ((M.set j .gone).set i .gone) b := by
        intro q hq hqm hqji hbq
        obtain ⟨g1, g2, g3, g4⟩ := hh.bag.at_ q hq hqm b hbq
        refine ⟨g1, g2, g3, g4, fun k hk hl => hh.bag.own q hq hqm b hbq k hk (lv k hl).2, fun k hk hm => ?_⟩
        obtain ⟨m1, m2, m3⟩ := mk k hm
        refine hh.bag.dist q k hq hk hqm m3 ?_ b hbq
        rcases hqji with rfl | rfl
        · exact fun h => m1 h.symm
        · exact fun h => m2 h.symm
      rcases List.mem_append.1 hb with hb | hb
      · exact key j hjn hjm (.inl rfl) hb
      · exact key i hin him (.inr rfl) hb
  have hle := e.bumpBag_le bs
  have h1 : Emb nt (e.bumpBag bs) (((M.set j .gone).set i .gone).push .bag) E a := he.mono hle (fun b => e.bumpBag_mem bs b)
  have hNe : N = e.n := by rw [← hN, hh.n]
  refine ⟨_, hh2.bindBagL hnd htr, h1.sz, h1.v, ?_, h1.o⟩
  refine ⟨r0, hr0, i1, ?_, by rw [hNe]; simp [Nv.bumpBag, Nv.bump], hr2.mono hle⟩
  have e1 : markBlocks (e.bumpBag bs) N = bs := by
    subst hNe; simp [markBlocks, Nv.bumpBag, Nv.bump]
  have e2 : markBlocks e j = e.own j :: e.bag j := by simp [markBlocks, hvj]
  have e3 : markBlocks e i = e.bag i := by simp [markBlocks, hvi]
  rw [hr1, hi1, e1, e2, e3]
  simp [bs]
end
end Go.Q
namespace Go.Q
open Go
set_option linter.unusedVariables false
set_option linter.unusedSimpArgs false
def strOf (l : List Int) : ByteArray := l.foldl (fun r n => r.push (UInt8.ofNat n.toNat)) ByteArray.empty
theorem rows_u8 {m : Ro} : ∀ {l : List Int} {cs : List Value}, rows (Rd.int .u8) m l cs → cs.take l.length = l.map (Value.int .u8)
  | [], _, _ => by simp
  | d :: l, cs, h => by
    obtain ⟨h1, h2⟩ := h
    have h3 := rows_u8 h2
    simp only [Rd.int, Rd.sc] at h1 h3
    cases cs with
    | nil => simp at h1
    | cons c cs =>
      simp at h1 h3
      simp [h1, h3]
section
variable {P : Program} {E : Env} {M : Mem} {ty : TypeId}
theorem run_firstBytes (w : World) (bk o len : Nat) {c : Array Value} {tt : TypeId} {fr : Nat × Nat} {m : Ro} {l : List Int} (hb : w.heap[bk]? = some (.cells c tt fr)) (hr : rows (Rd.int .u8) m l (c.toList.drop o)) (hl : len = l.length) :
    (loadCells ⟨bk, o, none⟩ len).run P w = .ok (l.map (Value.int .u8)).toArray w := by
  have h1 := rows_u8 hr
  have h2 := rows_len hr
  simp only [Rd.int, Rd.sc, Nat.mul_one] at h2
  have := run_loadCells_list (P := P) w ⟨bk, o, none⟩ (l.map (Value.int .u8)) (by
    intro j v hj
    rw [add_at, cell_of hb]
    rw [← h1] at hj
    have hjl : j < l.length := by
      have := (List.getElem?_eq_some_iff.1 hj).1
      simp at this; omega
    rw [List.getElem?_take_of_lt hjl, List.getElem?_drop] at hj
    simpa using hj)
  rw [List.length_map] at this
  rw [hl]; exact this
/-- A string of the bytes of a slice that is only read. -/
theorem q_bytes_str {src dst e : TypeId} {x : Operand} {b : Bool} {l : List Int} (hs : P.underlying src = some (.slice e)) (he : P.underlying e = some (.int .u8)) (hd : P.underlying dst = some .string) (hx : E.ev x = .ro (Rd.slice (Rd.int .u8)) b l) :
    Quiet P (.convert src dst x) ty E M [] (.lit (.string (strOf l))) :=
  fun cx nt a w e' hh hem => ⟨.string (strOf l), by simp [Val], fun w1 hw => by
    have hv := hem.ev x; rw [hx] at hv; simp only [Val, Rd.slice] at hv
    rcases hv with ⟨rfl, ad, c, h1⟩ | ⟨bk, o, c, tt, fr, cap, h1, hc, h2, h3⟩
    · simp at h1
      have : (Conv.bytesToString (.slice ad 0 c)).run P w1 = .ok (.string ByteArray.empty) w1 := by
        cases ad with
        | none => simp [Conv.bytesToString]
        | some ad => exact run_bytesToString w1 ad 0 c [] (by simp [loadCells, loadCellsFrom])
      simp only [exec1, execOp, h1, Sem.run_bind, run_convert_bytes_string w1 src dst e ad 0 c hs he hd, this, Result.andThen, Sem.run_pure]
      rfl
    · simp at h1
      have := run_bytesToString (P := P) w1 ⟨bk, o, none⟩ l.length cap l (run_firstBytes w1 bk o l.length (hw.mem h2) h3 rfl)
      simp only [exec1, execOp, h1, Sem.run_bind, run_convert_bytes_string w1 src dst e _ _ _ hs he hd, this, Result.andThen, Sem.run_pure]
      rfl⟩
end
end Go.Q
namespace Go.Q
open Go
set_option linter.unusedVariables false
set_option linter.unusedSimpArgs false
def heapRo (W : World) : Ro := fun b => W.heap[b]?
def nvAll (W : World) : Nv := ⟨heapRo W, fun _ => none, fun _ => 0, fun _ => 0, fun _ => 0, fun _ => false, 0, fun _ => []⟩
theorem Spec.law {P : Program} {f : FuncId} {args : List AVal} {x : Value} (h : Spec P f 0 args Mem.nil fun o M => o = .ret (.lit x) ∧ M = Mem.nil) {W : World} {vs : List Value} (hv : Vals (nvAll W) args vs)
    (htb : ∀ g l, tabs g = some l → ∃ c t z, heapRo W g = some (.cells c t z) ∧ c.toList.take l.length = l := by exact tabs_none) :
    Calls P f vs.toArray W fun e W' => e = .returned x ∧ RowKit.Below W.heap.size W W' := by
  have hent : Entry ⟨W, fun _ => False, heapRo W, fun _ => none, 0, nvAll W, htb⟩ 0 (nvAll W) Mem.nil W :=
    ⟨rfl, rfl, rfl, rfl, fun b => ⟨fun h => h.elim, fun ⟨i, hi, _⟩ => absurd hi (Nat.not_lt_zero _)⟩⟩
  have hh : Hold ⟨W, fun _ => False, heapRo W, fun _ => none, 0, nvAll W, htb⟩ (nvAll W) Mem.nil W :=
    ⟨rfl, rfl, Nat.le_refl _, rfl, rfl, rfl, fun _ _ _ => rfl, fun _ _ h => h, fun _ _ h => (by cases h), Ro.le.refl _, fun _ _ h => .inl h, fun i hi => absurd hi (Nat.not_lt_zero _), fun i hi => absurd hi (Nat.not_lt_zero _),
     fun i j hi => absurd hi (Nat.not_lt_zero _), Nat.le_refl _, fun i hi => absurd hi (Nat.not_lt_zero _),
     ⟨fun i hi => absurd hi (Nat.not_lt_zero _), fun i hi => absurd hi (Nat.not_lt_zero _), fun i hi => absurd hi (Nat.not_lt_zero _), fun i j hi => absurd hi (Nat.not_lt_zero _)⟩⟩
  refine Calls.mono (CallsIn.calls (h _ _ W vs hent hh hv) (fence_room _)) ?_
  rintro e W' ⟨o, M', e', ⟨rfl, rfl⟩, k1, u, rfl, k2⟩
  simp only [Val] at k2
  subst k2
  exact ⟨rfl, k1.os, k1.tape, k1.output, k1.size, fun k hk => k1.frame k hk (fun h => h)⟩
theorem add_at' {a : Addr} {b off : Nat} : (a.add 0 = ⟨b, off, none⟩) = (a = ⟨b, off, none⟩) := by
  obtain ⟨b', o', sp⟩ := a
  cases sp <;> simp [Addr.add]
/-- A measure of readings. -/
structure Meas (H : Type) where
  u : DataW H → Nat
  ua : List (DataW H) → Nat
  nil : 1 ≤ u .nil
  lit : ∀ l, 1 ≤ u (.lit l)
  str : ∀ b, b.length + 1 ≤ u (.lit (.string b))
  ptr : ∀ d, u d + 1 ≤ u (.ptr d)
  slice : ∀ e s, ua e + 1 ≤ u (.slice e s)
  agg : ∀ l, ua l + 1 ≤ u (.agg l)
  cons : ∀ d r, u d + ua r ≤ ua (d :: r)
/-- A type whose readings are data of a reader: right ones, of a bulk. -/
def Opn (P : Program) (t : TypeId) {α : Type} (R : Rd α) (wf : α → Prop) (ms : α → Nat) : Prop :=
  R.sz = P.cellsOf t ∧ ∀ (H : Type) (enc : TypeId × Value → H) (W : World) (fuel : Nat) (cs : List Value) (x : DataW H × List MemPlace),
    DataW.trod enc P W 0 (fun _ => true) true fuel t cs = some x → ∃ d, R.ok (heapRo W) d cs ∧ wf d ∧ ∀ μ : Meas H, ms d ≤ μ.u x.1
section
variable {P : Program} {t e : TypeId}
theorem Opn.int {k : IntKind} (ht : P.underlying t = some (.int k)) (hc : P.cellsOf t = 1) : Opn P t (Rd.int k) (fun n => (Lit.int k n).wf = true) (fun _ => 1) :=
  ⟨hc.symm, fun H enc W fuel cs x h => by
    obtain ⟨n, rfl, rfl, hw⟩ := DataW.trod_int ht h
    exact ⟨n, rfl, hw, fun μ => μ.lit _⟩⟩
theorem Opn.bool (ht : P.underlying t = some .bool) (hc : P.cellsOf t = 1) : Opn P t Rd.bool (fun _ => True) (fun _ => 1) :=
  ⟨hc.symm, fun H enc W fuel cs x h => by
    obtain ⟨n, rfl, rfl⟩ := DataW.trod_bool ht h
    exact ⟨n, rfl, trivial, fun μ => μ.lit _⟩⟩
theorem Opn.str (ht : P.underlying t = some .string) (hc : P.cellsOf t = 1) : Opn P t Rd.str (fun s => s.size ≤ maxLen) (fun s => s.size + 1) :=
  ⟨hc.symm, fun H enc W fuel cs x h => by
    obtain ⟨s, rfl, rfl, hs⟩ := DataW.trod_string ht h
    refine ⟨s, rfl, hs, fun μ => ?_⟩
    have := μ.str s.data.toList
    rw [Array.length_toList] at this
    exact this⟩
def msum {α : Type} (ms : α → Nat) : List α → Nat
  | [] => 0
  | x :: l => ms x + msum ms l
theorem rows_mk {H : Type} {α : Type} {R : Rd α} {m : Ro} {wf : α → Prop} {ms : α → Nat} : ∀ (xs : List (DataW H × List MemPlace)) (cs : List Value), (∀ i x, xs[i]? = some x → ∃ d, R.ok m d ((cs.drop (i * R.sz)).take R.sz) ∧ wf d ∧ ∀ μ : Meas H, ms d ≤ μ.u x.1) →
    ∃ l : List α, l.length = xs.length ∧ rows R m l cs ∧ (∀ x ∈ l, wf x) ∧ ∀ μ : Meas H, msum ms l ≤ μ.ua (xs.map (·.1))
  | [], _, _ => ⟨[], rfl, trivial, by simp, fun μ => Nat.zero_le _⟩
  | x :: xs, cs, h => by
    obtain ⟨d, h1, h2, h0⟩ := h 0 x rfl
    obtain ⟨l, h3, h4, h5, h6⟩ := rows_mk xs (cs.drop R.sz) (fun i y hi => by
      obtain ⟨d, h1, h2, h0⟩ := h (i + 1) y (by simpa using hi)
      refine ⟨d, ?_, h2, h0⟩
      rw [List.drop_drop]
      rw [Nat.add_mul, Nat.one_mul, Nat.add_comm] at h1
      exact h1)
    refine ⟨d :: l, by simp [h3], ⟨by simpa using h1, h4⟩, ?_, fun μ => ?_⟩
    · intro x hx
      rcases List.mem_cons.1 hx with rfl | hx
      · exact h2
      · exact h5 x hx
    · exact Nat.le_trans (Nat.add_le_add (h0 μ) (h6 μ)) (μ.cons _ _)
theorem cells?_block {W : World} {a : Addr} {n : Nat} {cs : List Value} (h : W.cells? 0 a n = some cs) (hn : 0 < n) : ∃ b off c tt fr, a = ⟨b, off, none⟩ ∧ W.heap[b]? = some (.cells c tt fr) ∧ cs = (c.toList.drop off).take n := by
  obtain ⟨_, hlen, hget⟩ := World.cells?_some h
  obtain ⟨b, off, spot⟩ := a
  have h0 := hget 0 hn
  rw [List.getElem?_eq_getElem (by omega)] at h0
  have hspot : spot = none := by simpa [Addr.add] using World.cell?_spot h0
  subst hspot
  rw [add_at] at h0
  cases hb : W.heap[b]? with
  | none => simp [World.cell?, hb] at h0
  | some o =>
    cases o with
    | cells c tt fr =>
      refine ⟨b, off, c, tt, fr, rfl, hb, ?_⟩
      apply List.ext_getElem?
      intro i
      by_cases hi : i < n
      · rw [← hget i hi, add_at, cell_of hb, List.getElem?_take_of_lt hi, List.getElem?_drop]; simp
      · rw [List.getElem?_eq_none (by omega), List.getElem?_eq_none (by simp; omega)]
    | _ => simp [World.cell?, hb] at h0
theorem Opn.slice {α : Type} {R : Rd α} {wf : α → Prop} {ms : α → Nat} (ht : P.underlying t = some (.slice e)) (hc : P.cellsOf t = 1) (he : Opn P e R wf ms) (hpos : Nat.blt 0 R.sz = true) : Opn P t (Rd.slice R) (fun l => l.length ≤ maxLen ∧ ∀ x ∈ l, wf x) (fun l => msum ms l + 1) :=
  ⟨hc.symm, fun H enc W fuel cs x h => by
    have hpos' : 0 < R.sz := by simpa using hpos
    rcases DataW.trod_slice ht h with ⟨rfl, rfl⟩ | ⟨a, len, cap, elems, rest, n, _, rfl, rfl, _, hl, hm, hlen, hel, _⟩
    · exact ⟨[], .inl ⟨rfl, none, 0, rfl⟩, ⟨Nat.zero_le _, by simp⟩, fun μ => μ.nil⟩
    · have each : ∀ i x, elems[i]? = some x → ∃ cs', W.cells? 0 (a.add (i * R.sz)) R.sz = some cs' ∧ ∃ d, R.ok (heapRo W) d cs' ∧ wf d ∧ ∀ μ : Meas H, ms d ≤ μ.u x.1 := by
        intro i x hi
        have hil : i < len := by rw [← hlen]; exact (List.getElem?_eq_some_iff.1 hi).1
        have h1 := hel i hil
        rw [← he.1, hi, Option.bind_eq_some_iff] at h1
        obtain ⟨cs', h2, h3⟩ := h1
        exact ⟨cs', h2, he.2 H enc W n cs' _ h3⟩
      rcases Nat.eq_zero_or_pos len with h0 | h0
      · subst h0
        refine ⟨[], .inl ⟨rfl, some a, cap, rfl⟩, ⟨Nat.zero_le _, by simp⟩, fun μ => ?_⟩
        have := μ.slice (elems.map (·.1)) (rest.map (·.1))
        simp only [msum]; omega
      · obtain ⟨cs0, h2, _⟩ := each 0 elems[0] (List.getElem?_eq_getElem (by omega))
        rw [Nat.zero_mul] at h2
        obtain ⟨b, off, c, tt, fr, ha, hb, _⟩ := cells?_block h2 hpos'
        rw [add_at'] at ha
        subst ha
        obtain ⟨l, k1, k2, k3, k4⟩ := rows_mk (R := R) (m := heapRo W) (wf := wf) (ms := ms) elems (c.toList.drop off) (fun i x hi => by
          obtain ⟨cs', h2, d, h3, h4⟩ := each i x hi
          rw [add_at] at h2
          obtain ⟨b', off', c', tt', fr', ha', hb', hcs⟩ := cells?_block h2 hpos'
          simp only [Addr.mk.injEq, and_true] at ha'
          obtain ⟨rfl, rfl⟩ := ha'
          rw [hb] at hb'
          cases hb'
          refine ⟨d, ?_, h4⟩
          rw [List.drop_drop, ← hcs]
          exact h3)
        exact ⟨l, .inr ⟨b, off, c, tt, fr, cap, by rw [k1, hlen], by omega, hb, k2⟩, ⟨by omega, k3⟩, fun μ => Nat.le_trans (Nat.succ_le_succ (k4 μ)) (μ.slice _ _)⟩⟩
/-- The fields of a struct, from a place on. -/
def OpnP (P : Program) (l : List (Nat × TypeId)) (o : Nat) {α : Type} (R : Rd α) (wf : α → Prop) (ms : α → Nat) : Prop :=
  ∀ (H : Type) (enc : TypeId × Value → H) (W : World) (fuel : Nat) (cs : List Value) (xs : List (DataW H × List MemPlace)), xs.length = l.length → (∀ (i : Nat) (p : Nat × TypeId), l[i]? = some p → DataW.trod enc P W 0 (fun _ => true) true fuel p.2 ((cs.drop p.1).take (P.cellsOf p.2)) = xs[i]?) → cs.length = o + R.sz →
    ∃ d, R.ok (heapRo W) d (cs.drop o) ∧ wf d ∧ ∀ μ : Meas H, ms d ≤ μ.ua (xs.map (·.1))
theorem OpnP.nil {o : Nat} : OpnP P [] o Rd.unit (fun _ => True) (fun _ => 0) := fun H enc W fuel cs xs _ _ hl => ⟨(), by
  show cs.drop o = []
  exact List.drop_of_length_le (by simp [Rd.unit] at hl; omega), trivial, fun μ => Nat.zero_le _⟩
theorem OpnP.cons {o o' : Nat} {l : List (Nat × TypeId)} {α β : Type} {R : Rd α} {S : Rd β} {wf : α → Prop} {wf' : β → Prop} {ms : α → Nat} {ms' : β → Nat} (h : Opn P t R wf ms) (ho : o + R.sz = o') (k : OpnP P l o' S wf' ms') :
    OpnP P ((o, t) :: l) o (Rd.pair R S) (fun d => wf d.1 ∧ wf' d.2) (fun d => ms d.1 + ms' d.2) := fun H enc W fuel cs xs hx ha hl => by
  subst ho
  cases xs with
  | nil => simp at hx
  | cons x xs =>
    have hx1 := ha 0 (o, t) rfl
    obtain ⟨d, h1, h2, h5⟩ := h.2 H enc W fuel _ x hx1
    obtain ⟨d', h3, h4, h6⟩ := k H enc W fuel cs xs (by simpa using hx) (fun i p hp => ha (i + 1) p (by simpa using hp)) (by simp only [Rd.pair] at hl; omega)
    refine ⟨(d, d'), ⟨(cs.drop o).take R.sz, cs.drop (o + R.sz), ?_, by rw [h.1]; exact h1, h3⟩, ⟨h2, h4⟩, fun μ => Nat.le_trans (Nat.add_le_add (h5 μ) (h6 μ)) (μ.cons _ _)⟩
    rw [← List.drop_drop]
    exact (List.take_append_drop _ _).symm
theorem Opn.struct {α β : Type} {R : Rd α} {wf : α → Prop} {ms : α → Nat} {fs : Array Field} {l : List (Nat × TypeId)} {g : β → α} (mk : α → β) (hg : ∀ d, g (mk d) = d) (ht : P.underlying t = some (.struct fs)) (hl : fs.toList.map (fun f => (f.offset, f.type)) = l) (hc : R.sz = P.cellsOf t)
    (h : OpnP P l 0 R wf ms) : Opn P t (Rd.via R g) (fun s => wf (g s)) (fun s => ms (g s) + 1) :=
  ⟨hc, fun H enc W fuel cs x hx => by
    obtain ⟨xs, n, _, rfl, hlen, hxl, hf⟩ := DataW.trod_struct ht hx
    obtain ⟨d, h1, h2, h3⟩ := h H enc W n cs xs (by rw [hxl, ← hl]; simp) (fun i p hp => by
      rw [← hl, List.getElem?_map] at hp
      obtain ⟨f, hf', rfl⟩ := Option.map_eq_some_iff.1 hp
      exact hf i f (by simpa using hf')) (by rw [hlen, hc]; omega)
    refine ⟨mk d, ?_, by show wf (g (mk d)); rw [hg]; exact h2, fun μ => ?_⟩
    · show R.ok _ (g (mk d)) cs
      rw [hg]
      simpa using h1
    · show ms (g (mk d)) + 1 ≤ _
      rw [hg]
      exact Nat.le_trans (Nat.succ_le_succ (h3 μ)) (μ.agg _)⟩
end
/-- More rounds tell the same. -/
structure Le {α : Type} (x y : Option α) : Prop where
  h : ∀ r, x = some r → y = some r
theorem Le.rfl {α : Type} {x : Option α} : Le x x := ⟨fun _ h => h⟩
theorem Le.none {α : Type} {x y : Option α} (h : x = Option.none) : Le x y := ⟨fun r hr => by rw [h] at hr; cases hr⟩
theorem Le.bind {α β : Type} {x y : Option α} {f g : α → Option β} (h : Le x y) (k : ∀ a, Le (f a) (g a)) : Le (x.bind f) (y.bind g) := ⟨fun r hr => by
  obtain ⟨a, h1, h2⟩ := Option.bind_eq_some_iff.1 hr
  exact Option.bind_eq_some_iff.2 ⟨a, h.h a h1, (k a).h r h2⟩⟩
theorem Le.cond {α : Type} {b : Bool} {x x' y y' : Option α} (h : Le x x') (k : Le y y') : Le (bif b then x else y) (bif b then x' else y') := by
  cases b <;> assumption
end Go.Q
namespace Go.Q
open Go
set_option linter.unusedVariables false
set_option linter.unusedSimpArgs false
section
variable {k : IntKind}
theorem wrap_ofInt (hs : k.signed = false) (n : Int) : k.wrap n = ((BitVec.ofInt k.bits n).toNat : Int) := by
  have h2 : (0 : Int) < 2 ^ k.bits := Int.pow_pos (by decide)
  simp only [IntKind.wrap, hs, Bool.false_and, Bool.false_eq_true, if_false, BitVec.toNat_ofInt]
  rw [Int.toNat_of_nonneg]
  · simp
  · exact Int.emod_nonneg _ (by simp; omega)
theorem wrap_nat (hs : k.signed = false) (b : BitVec k.bits) : k.wrap (b.toNat : Int) = (b.toNat : Int) := by
  rw [wrap_ofInt hs, BitVec.ofInt_natCast, BitVec.ofNat_toNat]
  simp
theorem ofInt_toNat (b : BitVec k.bits) : BitVec.ofInt k.bits (b.toNat : Int) = b := by
  rw [BitVec.ofInt_natCast, BitVec.ofNat_toNat]; simp
theorem bv_and (hs : k.signed = false) (a b : BitVec k.bits) : bits .and k (a.toNat : Int) (b.toNat : Int) = ((a &&& b).toNat : Int) := by
  simp only [bits, ofInt_toNat, wrap_nat hs]
theorem bv_or (hs : k.signed = false) (a b : BitVec k.bits) : bits .or k (a.toNat : Int) (b.toNat : Int) = ((a ||| b).toNat : Int) := by
  simp only [bits, ofInt_toNat, wrap_nat hs]
theorem bv_shr (a : BitVec k.bits) (n : Int) : shrI k (a.toNat : Int) n = ((a >>> n.toNat).toNat : Int) := by
  unfold shrI
  have hp : (0 : Int) ≤ 2 ^ (min n.toNat k.bits) := Int.pow_nonneg (by decide)
  rw [Int.fdiv_eq_ediv_of_nonneg _ hp, BitVec.toNat_ushiftRight, Nat.shiftRight_eq_div_pow]
  by_cases h : n.toNat ≤ k.bits
  · rw [Nat.min_eq_left h]; simp
  · rw [Nat.min_eq_right (by omega)]
    have h1 : a.toNat / 2 ^ k.bits = 0 := Nat.div_eq_of_lt a.isLt
    have h2 : a.toNat / 2 ^ n.toNat = 0 := Nat.div_eq_of_lt (Nat.lt_of_lt_of_le a.isLt (Nat.pow_le_pow_right (by decide) (by omega)))
    rw [h2]
    have : (a.toNat : Int) / 2 ^ k.bits = ((a.toNat / 2 ^ k.bits : Nat) : Int) := by simp
    rw [this, h1]
theorem bv_shl (hs : k.signed = false) (a : BitVec k.bits) (n : Int) : shlI k (a.toNat : Int) n = ((a <<< n.toNat).toNat : Int) := by
  unfold shlI
  have h1 : ((a.toNat : Int) * 2 ^ (min n.toNat k.bits)) = ((a.toNat * 2 ^ (min n.toNat k.bits) : Nat) : Int) := by simp
  rw [h1, wrap_ofInt hs, BitVec.ofInt_natCast, BitVec.toNat_ofNat, BitVec.toNat_shiftLeft, Nat.shiftLeft_eq]
  by_cases h : n.toNat ≤ k.bits
  · rw [Nat.min_eq_left h]
  · rw [Nat.min_eq_right (by omega)]
    have e1 : a.toNat * 2 ^ k.bits % 2 ^ k.bits = 0 := Nat.mul_mod_left _ _
    have e2 : a.toNat * 2 ^ n.toNat % 2 ^ k.bits = 0 := by
      have : 2 ^ n.toNat = 2 ^ (n.toNat - k.bits) * 2 ^ k.bits := by rw [← Nat.pow_add]; congr 1; omega
      rw [this, ← Nat.mul_assoc]; exact Nat.mul_mod_left _ _
    rw [e1, e2]
end
/-- A number of a kind, as its bits. -/
theorem wf_bv {k : IntKind} (hs : k.signed = false) {n : Int} (h : (Lit.int k n).wf = true) : ∃ b : BitVec k.bits, n = (b.toNat : Int) := by
  simp only [Lit.wf, IntKind.min, IntKind.max, hs, Bool.false_eq_true, if_false, Bool.and_eq_true, decide_eq_true_eq] at h
  refine ⟨BitVec.ofInt k.bits n, ?_⟩
  rw [BitVec.toNat_ofInt, Int.toNat_of_nonneg]
  · rw [Int.emod_eq_of_lt h.1]; simp; omega
  · have h2 : (0 : Int) < 2 ^ k.bits := Int.pow_pos (by decide)
    exact Int.emod_nonneg _ (by simp; omega)
theorem u8_bv {n : Int} (h : (Lit.int .u8 n).wf = true) : ∃ b : BitVec 8, n = (b.toNat : Int) := wf_bv (k := .u8) rfl h
theorem u8_shr (a : BitVec 8) (n : Int) : shrI .u8 (a.toNat : Int) n = ((a >>> n.toNat).toNat : Int) := bv_shr (k := .u8) a n
theorem u32_of_u64 (a : BitVec 64) : IntKind.wrap .u32 (a.toNat : Int) = ((a.setWidth 32).toNat : Int) := by
  rw [wrap_ofInt (k := .u32) rfl, BitVec.ofInt_natCast]; simp only [IntKind.bits, BitVec.toNat_ofNat, BitVec.toNat_setWidth]
theorem u64_and (a b : BitVec 64) : bits .and .u64 (a.toNat : Int) (b.toNat : Int) = ((a &&& b).toNat : Int) := bv_and (k := .u64) rfl a b
theorem u64_or (a b : BitVec 64) : bits .or .u64 (a.toNat : Int) (b.toNat : Int) = ((a ||| b).toNat : Int) := bv_or (k := .u64) rfl a b
theorem u64_shl (a : BitVec 64) (n : Int) : shlI .u64 (a.toNat : Int) n = ((a <<< n.toNat).toNat : Int) := bv_shl (k := .u64) rfl a n
theorem u64_of_u8 (a : BitVec 8) : IntKind.wrap .u64 (a.toNat : Int) = ((a.setWidth 64).toNat : Int) := by
  rw [wrap_ofInt (k := .u64) rfl, BitVec.ofInt_natCast]; simp only [IntKind.bits, BitVec.toNat_ofNat, BitVec.toNat_setWidth]
theorem wi {n : Int} (h1 : -9223372036854775808 ≤ n) (h2 : n ≤ 9223372036854775807) : IntKind.wrap .i64 n = n := by
  rw [IntKind.wrap_i64]; omega
theorem ix_nat {α : Type} {l : List α} {i : Nat} (h : i < l.length) : ix l (i : Int) = some l[i] := by
  simp [ix, h]
theorem dt {p : Prop} [Decidable p] (h : p) : decide p = true := decide_eq_true h
theorem df {p : Prop} [Decidable p] (h : ¬ p) : decide p = false := decide_eq_false h
end Go.Q
namespace Go.Q
open Go
set_option linter.unusedVariables false
set_option linter.unusedSimpArgs false
end Go.Q
namespace Go.Q
open Go
set_option linter.unusedVariables false
set_option linter.unusedSimpArgs false
/-- The cells of an array: what stands in them. -/
def arrL.{u} {α : Type u} (f : α → AVal) (d0 : α) (xs : List α) : Nat → Nat → List AVal
  | 0, _ => []
  | n + 1, k => f (xs.getD k d0) :: arrL f d0 xs n (k + 1)
/-- An array's elements, one of them set. -/
def setD.{u} {α : Type u} (d0 : α) (xs : List α) (n j : Nat) (v : α) : List α := (List.range n).map fun i => if i = j then v else xs.getD i d0
/-- An array's elements: just so many. -/
def fixD.{u} {α : Type u} (d0 : α) (xs : List α) (n : Nat) : List α := (List.range n).map fun i => xs.getD i d0
theorem arrL_length.{u} {α : Type u} {f : α → AVal} {d0 : α} {xs : List α} : ∀ {n k : Nat}, (arrL f d0 xs n k).length = n
  | 0, _ => rfl
  | n + 1, k => by simp [arrL, arrL_length]
theorem arrL_get.{u} {α : Type u} {f : α → AVal} {d0 : α} {xs : List α} : ∀ {n k i : Nat}, i < n → (arrL f d0 xs n k)[i]? = some (f (xs.getD (k + i) d0))
  | 0, _, _, h => absurd h (Nat.not_lt_zero _)
  | n + 1, k, 0, _ => by simp [arrL]
  | n + 1, k, i + 1, h => by
    rw [arrL, List.getElem?_cons_succ, arrL_get (by omega), show k + 1 + i = k + (i + 1) by omega]
theorem setD_get.{u} {α : Type u} {d0 : α} {xs : List α} {n j i : Nat} {v : α} (h : i < n) : (setD d0 xs n j v).getD i d0 = if i = j then v else xs.getD i d0 := by
  simp [setD, List.getD_eq_getElem?_getD, List.getElem?_map, List.getElem?_range h]
theorem fixD_get.{u} {α : Type u} {d0 : α} {xs : List α} {n i : Nat} (h : i < n) : (fixD d0 xs n)[i]? = some (xs.getD i d0) := by simp [fixD, h]
theorem fixD_length.{u} {α : Type u} {d0 : α} {xs : List α} {n : Nat} : (fixD d0 xs n).length = n := by simp [fixD]
theorem arrL_set.{u} {α : Type u} {f : α → AVal} {d0 : α} {xs : List α} {n j : Nat} {v : α} : arrL f d0 (setD d0 xs n j v) n 0 = (arrL f d0 xs n 0).set j (f v) := by
  apply List.ext_getElem?
  intro i
  rw [List.getElem?_set]
  by_cases hi : i < n
  · rw [arrL_get hi, arrL_get hi, Nat.zero_add, setD_get hi]
    by_cases hij : i = j
    · subst hij; simp [arrL_length, hi]
    · rw [if_neg hij, if_neg (fun h => hij h.symm)]
  · rw [List.getElem?_eq_none (by rw [arrL_length]; omega), List.getElem?_eq_none (by rw [arrL_length]; omega)]
    split
    · split
      · rename_i h; rw [arrL_length] at h; omega
      · rfl
    · rfl
theorem addone (a b : Nat) : a + b * 1 = a + b := by rw [Nat.mul_one]
theorem natlt {i : Int} {n : Nat} (h : decide (0 ≤ i ∧ i < (n : Int)) = true) : decide (i.toNat < n) = true := by
  have := of_decide_eq_true h
  exact decide_eq_true (by omega)
section
variable {P : Program} {ty : TypeId} {E : Env} {M : Mem}
theorem run_indexAt_ar {t el : TypeId} {n sz : Nat} (h : ArIs P t el n sz) (b o : Nat) (k : IntKind) (i : Int) (h0 : 0 ≤ i) (h1 : i < n) (w : World) :
    (Instr.indexAt t (.pointer (some ⟨b, o, Option.none⟩)) (.int k i)).run P w = .ok (.pointer (some ⟨b, o + i.toNat * sz, Option.none⟩)) w := by
  simp [Instr.indexAt, run_underlying h.t, h0, h1, h.e.run, add_at, asIntOf, Instr.sureAddr]
/-- The address of an array's element. -/
theorem q_indexArr {t el : TypeId} {n sz i off o : Nat} {x y : Operand} {k : IntKind} {j : Int} (h : ArIs P t el n sz) (hx : E.ev x = .ptr i off) (hy : E.ev y = .lit (.int k j)) (hj : decide (0 ≤ j ∧ j < n) = true) (ho : off + j.toNat * sz = o) :
    Quiet P (.indexAddr t x y) ty E M [] (.ptr i o) :=
  fun _ _ a w e hh he => by
    subst ho
    have hv := he.ev x; rw [hx] at hv; simp only [Val] at hv
    obtain ⟨h0, h1⟩ := of_decide_eq_true hj
    refine ⟨.pointer (some ⟨e.own i, off + j.toNat * sz, Option.none⟩), by simp [Val, hv.1, hv.2.1], fun w1 hw => ?_⟩
    have := run_indexAt_ar h (e.own i) off k j h0 h1 w1
    simp [exec1, execOp, hv.2.2, ev_lit he hy, this]
theorem arr_at.{u} {α : Type u} {f : α → AVal} {d0 : α} {xs : List α} {n off j : Nat} {l : List AVal} (hl : (l.drop off).take n = arrL f d0 xs n 0) (hj : j < n) : l[off + j]? = some (f (xs.getD j d0)) := by
  have := arrL_get (f := f) (d0 := d0) (xs := xs) (k := 0) hj
  rw [← hl, List.getElem?_take_of_lt hj, List.getElem?_drop, Nat.zero_add] at this
  exact this
theorem q_load_arr.{u} {α : Type u} {f : α → AVal} {d0 : α} {xs : List α} {n off o j i : Nat} {t ct : TypeId} {x : Operand} {l : List AVal} (ht : Sc P t) (hx : E.ev x = .ptr i o) (hc : M.at_ i = .cells ct l) (hl : (l.drop off).take n = arrL f d0 xs n 0) (hj : decide (j < n) = true) (ho : o = off + j) :
    Quiet P (.load t x) ty E M [i] (f (xs.getD j d0)) := by
  subst ho
  exact q_load ht hx hc (arr_at hl (of_decide_eq_true hj))
theorem s_store_arr.{u} {α : Type u} {f : α → AVal} {d0 v : α} {xs : List α} {n off o j i : Nat} {t ct : TypeId} {x y : Operand} {l l2 : List AVal} (ht : SzIs P t 1) (hx : E.ev x = .ptr i o) (hc : M.at_ i = .cells ct l) (hr : (E.ev y).cells = some [f v])
    (hl : (l.drop off).take n = arrL f d0 xs n 0) (hl2 : l.take off ++ (arrL f d0 (setD d0 xs n j v) n 0 ++ l.drop (off + n)) = l2) (hj : decide (j < n) = true) (ho : o = off + j) : DoesS P (.store t x y) ty E M [i] (M.set i (.cells ct l2)) := by
  subst ho
  have hj' := of_decide_eq_true hj
  have hlen : off + n ≤ l.length := by
    have := congrArg List.length hl
    rw [arrL_length, List.length_take, List.length_drop] at this
    omega
  have e2 : l2 = setAt l (off + j) [f v] := by
    rw [← hl2, arrL_set, ← hl]
    simp only [setAt]
    apply List.ext_getElem?
    intro q
    rw [List.getElem?_set]
    rcases Nat.lt_or_ge q off with h1 | h1
    · rw [List.getElem?_append_left (by simp; omega), List.getElem?_take_of_lt h1, if_neg (by omega)]
    · rw [List.getElem?_append_right (by simp; omega), List.length_take, Nat.min_eq_left (by omega)]
      rcases Nat.lt_or_ge q (off + n) with h2 | h2
      · rw [List.getElem?_append_left (by rw [List.length_set, List.length_take, List.length_drop]; omega), List.getElem?_set]
        by_cases hq : j = q - off
        · rw [if_pos hq, if_pos (by rw [List.length_take, List.length_drop]; omega), if_pos (by omega), if_pos (by omega)]
        · rw [if_neg hq, if_neg (by omega), List.getElem?_take_of_lt (by omega), List.getElem?_drop]
          congr 1; omega
      · rw [List.getElem?_append_right (by rw [List.length_set, List.length_take, List.length_drop]; omega), if_neg (by omega), List.getElem?_drop, List.length_set, List.length_take, List.length_drop]
        congr 1; omega
  rw [e2]
  exact s_store ht hx hc hr rfl (by rw [Nat.ble_eq]; omega)
/-- An array that is only read. -/
def Rd.array {α : Type} (n : Nat) (A : Rd α) (d0 : α) : Rd (List α) where
  sz := n * A.sz
  ok m l cs := cs.length = n * A.sz ∧ ∀ j, j < n → A.ok m (l.getD j d0) ((cs.drop (j * A.sz)).take A.sz)
  mono hm h := ⟨h.1, fun j hj => A.mono hm (h.2 j hj)⟩
  len h := h.1
  one := by
    rintro m d cs ⟨h1, h2⟩ v hv
    obtain ⟨k, hk, rfl⟩ := List.mem_iff_getElem.1 hv
    have hz : 0 < A.sz := by
      rcases Nat.eq_zero_or_pos A.sz with h | h
      · rw [h1, h] at hk; simp at hk
      · exact h
    have hkn : k / A.sz < n := Nat.div_lt_of_lt_mul (by rw [Nat.mul_comm, ← h1]; exact hk)
    refine A.one (h2 (k / A.sz) hkn) _ ?_
    have hkm := Nat.mod_lt k hz
    have e1 : k / A.sz * A.sz + k % A.sz = k := by rw [Nat.mul_comm]; exact Nat.div_add_mod k A.sz
    refine List.mem_iff_getElem?.2 ⟨k % A.sz, ?_⟩
    rw [List.getElem?_take_of_lt hkm, List.getElem?_drop, e1, List.getElem?_eq_getElem hk]
theorem Splits.arr {α : Type} {f : α → Value} {hf : ∀ x, (f x).oneCell' = true} {b : Bool} {n : Nat} {d : List α} {d0 : α} : Splits (Rd.array n (Rd.sc f hf) d0) b d (arrL (fun x => .lit (f x)) d0 d n 0) := fun e cs h => by
  obtain ⟨h1, h2⟩ := h
  have key : ∀ (n k : Nat) (cs : List Value), cs.length = n → (∀ j, j < n → cs[j]? = some (f (d.getD (k + j) d0))) → Vals e (arrL (fun x => .lit (f x)) d0 d n k) cs := by
    intro n
    induction n with
    | zero => intro k cs hc _; have : cs = [] := by simpa using hc
              simp [arrL, Vals, this]
    | succ n ih =>
      intro k cs hc hg
      cases cs with
      | nil => simp at hc
      | cons v cs =>
        simp only [arrL, Vals]
        refine ⟨v, cs, rfl, ?_, ih (k + 1) cs (by simpa using hc) fun j hj => ?_⟩
        · have := hg 0 (by omega); simp at this; simp [Val, this]
        · have := hg (j + 1) (by omega)
          rw [List.getElem?_cons_succ] at this
          rw [this, show k + 1 + j = k + (j + 1) by omega]
  have hz : (Rd.sc f hf).sz = 1 := rfl
  refine key n 0 cs (by rw [h1, hz, Nat.mul_one]) fun j hj => ?_
  have := h2 j hj
  simp only [Rd.sc] at this
  have h3 := congrArg (·[0]?) this
  simp only [List.getElem?_cons_zero] at h3
  rw [List.getElem?_take_of_lt (by decide), List.getElem?_drop] at h3
  rw [Nat.zero_add]
  simpa using h3
theorem Joins.arr {α : Type} {f : α → Value} {hf : ∀ x, (f x).oneCell' = true} {b : Bool} {n : Nat} {d : List α} {d0 : α} : Joins (Rd.array n (Rd.sc f hf) d0) b d (arrL (fun x => .lit (f x)) d0 d n 0) := fun e cs h ho => by
  have hl : cs.length = n := by rw [h.length, arrL_length]
  refine ⟨by rw [hl]; simp [Rd.sc], fun j hj => ?_⟩
  obtain ⟨u, hu, hv⟩ := h.get (arrL_get (f := fun x => AVal.lit (f x)) (d0 := d0) (xs := d) (k := 0) hj)
  rw [Nat.zero_add] at hv
  simp only [Val] at hv
  subst hv
  simp only [Rd.sc]
  rw [Nat.mul_one]
  apply List.ext_getElem?
  intro q
  cases q with
  | zero => rw [List.getElem?_take_of_lt (by decide), List.getElem?_drop]; simpa using hu
  | succ q => rw [List.getElem?_eq_none (by simp; omega), List.getElem?_eq_none (by simp)]
theorem rows_of_array {α : Type} {A : Rd α} {m : Ro} : ∀ {l : List α} {cs : List Value}, (∀ j x, l[j]? = some x → A.ok m x ((cs.drop (j * A.sz)).take A.sz)) → rows A m l cs
  | [], _, _ => trivial
  | x :: l, cs, h => ⟨by simpa using h 0 x rfl, rows_of_array fun j y hy => by
      have := h (j + 1) y (by simpa using hy)
      rw [List.drop_drop]
      rw [Nat.add_mul, Nat.one_mul, Nat.add_comm] at this
      exact this⟩
/-- A slice of an array that is only read. -/
theorem q_sliceArr_ro {α : Type} {A : Rd α} {d0 : α} {l : List α} {b : Bool} {t el : TypeId} {n sz : Nat} {x : Operand} {lo hi : Option Operand} {i j : Int} (h : ArIs P t el n sz) (hn : A.sz = sz) (hx : E.ev x = .ro (Rd.ptr (Rd.array n A d0)) b l)
    (hlo : evOpt E lo 0 i) (hhi : evOpt E hi n j) (hb : decide (0 ≤ i ∧ i ≤ j ∧ j ≤ n) = true) : Quiet P (.slice t x lo hi none) ty E M [] (.ro (Rd.slice A) b (((fixD d0 l n).take j.toNat).drop i.toNat)) :=
  fun cx nt a w e hh he => by
    subst hn
    obtain ⟨b0, b1, b2⟩ := of_decide_eq_true hb
    have hv := he.ev x; rw [hx] at hv; simp only [Val, Rd.ptr] at hv
    obtain ⟨bk, o, c, tt, fr, h1, h2, h3, h4⟩ := hv
    simp at h1
    have hs : ∀ (o' : Option Operand) (d m : Int), evOpt E o' d m → (match o'.map a.eval with | some v => ∃ k, v = .int k m | none => m = d) := by
      intro o' d m ho
      cases o' with
      | none => exact ho
      | some q => obtain ⟨k, hk⟩ := ho; exact ⟨k, ev_lit he hk⟩
    have hlo' := hs lo 0 i hlo
    have hhi' := hs hi n j hhi
    have e1 : ∀ (y : Nat) (code : BoundsCode) (v : Value) (m : Int), (∃ k, v = .int k m) → 0 ≤ m → m ≤ y → ∀ w1, (Instr.sliceBound v y code).run P w1 = .ok m.toNat w1 := by
      rintro y code v m ⟨k, rfl⟩ hm0 hm w1
      simp only [Instr.sliceBound, asIntOf, Sem.run_bind, Sem.run_pure, Result.andThen]
      rw [if_pos ⟨hm0, hm⟩]
      simp
    have hrun : ∀ w1, (exec1 a.eval (.slice t x lo hi none) ty).run P w1 = .ok (.value (.slice (some (if n = i.toNat then ⟨bk, o, none⟩ else ⟨bk, o + i.toNat * A.sz, none⟩)) (j.toNat - i.toNat) (n - i.toNat))) w1 := by
      intro w1
      cases lo with
      | none =>
        simp only [Option.map_none] at hlo'
        subst hlo'
        cases hi with
        | none =>
          simp only [Option.map_none] at hhi'
          subst hhi'
          simp [exec1, execOp, Instr.sliceAt, run_underlying h.t, Instr.sliceBounds, h.e.run, h1, Instr.sureAddr, add_at]
        | some q =>
          have := fun code => e1 n code (a.eval q) j hhi' (by omega) b2 w1
          simp [exec1, execOp, Instr.sliceAt, run_underlying h.t, Instr.sliceBounds, h.e.run, h1, Instr.sureAddr, this, add_at]
      | some p =>
        cases hi with
        | none =>
          simp only [Option.map_none] at hhi'
          subst hhi'
          have := fun code => e1 n code (a.eval p) i hlo' b0 b1 w1
          simp [exec1, execOp, Instr.sliceAt, run_underlying h.t, Instr.sliceBounds, h.e.run, h1, Instr.sureAddr, this, add_at]
        | some q =>
          have k1 := fun code => e1 n code (a.eval q) j hhi' (by omega) b2 w1
          have k2 := fun code => e1 j.toNat code (a.eval p) i hlo' b0 (by omega) w1
          simp [exec1, execOp, Instr.sliceAt, run_underlying h.t, Instr.sliceBounds, h.e.run, h1, Instr.sureAddr, k1, k2, add_at]
    refine ⟨_, ?_, fun w1 _ => hrun w1⟩
    simp only [Val, Rd.slice]
    have hlen : (((fixD d0 l n).take j.toNat).drop i.toNat).length = j.toNat - i.toNat := by simp [fixD_length]; omega
    by_cases h0 : j.toNat - i.toNat = 0
    · exact .inl ⟨List.eq_nil_of_length_eq_zero (by omega), _, _, by rw [h0]⟩
    · have hne : ¬ n = i.toNat := by omega
      refine .inr ⟨bk, o + i.toNat * A.sz, c, tt, fr, n - i.toNat, by rw [if_neg hne, hlen], by omega, h2, ?_⟩
      have hr : rows A (e.mem b) (fixD d0 l n) (c.toList.drop o) := rows_of_array fun q y hy => by
        have hq : q < n := by have := (List.getElem?_eq_some_iff.1 hy).1; rw [fixD_length] at this; exact this
        rw [fixD_get hq] at hy
        cases hy
        have := h4 q hq
        rw [show (Rd.array n A d0).sz = n * A.sz from rfl, List.drop_take, List.drop_drop, List.take_take, Nat.min_eq_left] at this
        · rw [List.drop_drop]; exact this
        · have h6 : (q + 1) * A.sz ≤ n * A.sz := Nat.mul_le_mul_right _ hq
          rw [Nat.add_mul] at h6; omega
      have := rows_drop i.toNat (rows_take j.toNat hr)
      rw [List.drop_drop] at this
      exact this
/-- A value put into an interface. -/
structure Conc (P : Program) (t : TypeId) : Prop where
  h : ∃ d, P.underlying t = some d ∧ (match d with | .interface _ => False | _ => True)
theorem q_mki {t : TypeId} {x : Operand} (h : Conc P t) : Quiet P (.makeInterface t x) ty E M [] (.ifc t (E.ev x)) :=
  fun _ _ a w e hh he => by
    obtain ⟨d, h1, h2⟩ := h.h
    refine ⟨.iface t (a.eval x), by simp only [Val]; exact ⟨_, rfl, he.ev x⟩, fun w1 _ => ?_⟩
    cases d <;> first | exact h2.elim | simp [exec1, execOp, Instr.makeInterface, run_underlying h1]
end
end Go.Q
namespace Go.Q
open Go
set_option linter.unusedVariables false
set_option linter.unusedSimpArgs false
/-- There is a result, of which something holds. -/
def Ret.{u} {α : Type u} (x : Option α) (p : α → Prop) : Prop := ∃ r, x = some r ∧ p r
section
universe u v
variable {α : Type u} {β : Type v} {x y : Option α} {p q : α → Prop} {r : α}
theorem Ret.pure (h : p r) : Ret (some r) p := ⟨r, rfl, h⟩
theorem Ret.bind {f : α → Option β} {q : β → Prop} (h : Ret x p) (k : ∀ a, p a → Ret (f a) q) : Ret (x.bind f) q := by
  obtain ⟨a, rfl, ha⟩ := h
  exact k a ha
theorem Ret.cond {b : Bool} (h : b = true → Ret x p) (k : b = false → Ret y p) : Ret (bif b then x else y) p := by
  cases b with
  | true => exact h rfl
  | false => exact k rfl
theorem Ret.mono (h : Ret x p) (k : ∀ a, p a → q a) : Ret x q := let ⟨r, h1, h2⟩ := h; ⟨r, h1, k r h2⟩
theorem Ret.some (h : Ret x p) : ∃ r, x = Option.some r := let ⟨r, h1, _⟩ := h; ⟨r, h1⟩
end
theorem bd {α : Type} {c : Prop} [Decidable c] {x y : α} : (bif decide c then x else y) = if c then x else y := by
  by_cases h : c <;> simp [h]
theorem bnd' {α : Type} {c : Prop} [Decidable c] {x y : α} : (bif !decide c then x else y) = if c then y else x := by
  by_cases h : c <;> simp [h]
theorem bt {α : Type} {x y : α} : (bif true then x else y) = x := rfl
theorem bf {α : Type} {x y : α} : (bif false then x else y) = y := rfl
theorem ix_int {α : Type} {l : List α} {i : Int} (h0 : 0 ≤ i) (h : i < l.length) : ix l i = some (l[i.toNat]'(by omega)) := by
  unfold ix
  rw [if_pos h0, List.getElem?_eq_getElem]
theorem tm (a b : Nat) : Int.tmod (a : Int) (b : Int) = ((a % b : Nat) : Int) := rfl
theorem td (a b : Nat) : Int.tdiv (a : Int) (b : Int) = ((a / b : Nat) : Int) := rfl
end Go.Q
namespace Go.Q
open Go
set_option linter.unusedVariables false
set_option linter.unusedSimpArgs false
section
variable {P : Program} {cx : Cx} {fr : Fr} {ops : Array Oper} {os : List Oper} {E : Env} {M M' : Mem} {Q : Ex → Env → Mem → Prop} {op : Op} {ty : TypeId} {pos : String} {after : Array Edge} {dst : Nat} {v : AVal} {tc : List Nat}
variable {st st' X X' : List Nat} {fuel : Nat} {listed : Array Bool} {i : Nat}
/-- The walk, when operation i comes up next. -/
def WPD1 (P : Program) (cx : Cx) (fr : Fr) (ops : Array Oper) (st X : List Nat) (fuel : Nat) (listed : Array Bool) (i : Nat) (E : Env) (M : Mem) (Q : Ex → Env → Mem → Prop) : Prop :=
  ∀ a w e, Hold cx e M w → Emb fr.nt e M E a → wpOpIn (fence P fr.r) 0 P ops (Sat cx fr Q) i
    (fun a' w' => (X.contains i = true ∧ Agree e [] w w' ∧ wpAnyG P fr.r .any ops (Sat cx fr Q) (Agree e [] w) fuel (listed.setIfInBounds i true) a' w') ∨
      (X.contains i = false ∧ Agree e st w w' ∧ wpAnyF P fr.r .any ops (Sat cx fr Q) (Agree e [] w) (Agree e st w) X fuel (listed.setIfInBounds i true) a' w')) a w
def readyAre (ops : Array Oper) (listed : Array Bool) (l : List Nat) : Bool := Region.ready .any ops listed == l && !l.isEmpty
theorem WPD.ofL (l : List Nat) (hb : readyAre ops listed l = true) (h : ∀ i ∈ l, WPD1 P cx fr ops st X fuel listed i E M Q) : WPD P cx fr ops st X (fuel + 1) listed E M Q := by
  intro a w e hh he
  simp only [readyAre, Bool.and_eq_true, beq_iff_eq, Bool.not_eq_true'] at hb
  refine ⟨fun h0 => ?_, fun j hj => ?_⟩
  · rw [hb.1] at h0; subst h0; simp at hb
  · rw [hb.1] at hj
    exact h j hj a w e hh he
theorem WPD.of2 (i j : Nat) (hb : readyAre ops listed [i, j] = true) (h1 : WPD1 P cx fr ops st X fuel listed i E M Q) (h2 : WPD1 P cx fr ops st X fuel listed j E M Q) : WPD P cx fr ops st X (fuel + 1) listed E M Q :=
  WPD.ofL [i, j] hb fun k hk => by
    simp only [List.mem_cons, List.not_mem_nil, or_false] at hk
    rcases hk with rfl | rfl
    · exact h1
    · exact h2
theorem WPD1.eff_core (i : Nat) (st' X' : List Nat) {o : Oper} {E' : Env} (ho : ops[i]? = some o)
    (hg : ∀ a e, Emb fr.nt e M E a → Region.wanted o (yielded ops a.tmps) = true)
    (hs : (X.contains i || (X'.all X.contains && st.all fun j => st'.contains j && Nat.blt j M.n && (M.at_ j).isOwn && !(tc.contains j))) = true)
    (hstep : ∀ a w e, Hold cx e M w → Emb fr.nt e M E a → ∀ (next : Act → World → Prop) (Q : Exit → Act → World → Prop),
      (∀ a' w' e', Hold cx e' M' w' → e.le e' → Emb fr.nt e' M' E' a' → (∀ b, b < w.heap.size → (∀ i ∈ tc, i < e.n → (M.at_ i).live e i → e.own i ≠ b) → w'.heap[b]? = w.heap[b]?) → next a' w') →
      o.wpIn (fence P fr.r) 0 P a w next Q)
    (k : WPD P cx fr ops st' X' fuel (listed.setIfInBounds i true) E' M' Q) : WPD1 P cx fr ops st X fuel listed i E M Q := by
  intro a w e hh he
  unfold wpOpIn
  simp only [ho]
  rw [if_pos (hg _ _ he)]
  refine hstep a w e hh he _ _ fun a' w' e' hh' hle he' hfr => ?_
  have hk := k a' w' e' hh' he'
  have hag : ∀ {st'' : List Nat} w1, Agree e' st'' w' w1 → Agree e [] w w1 := fun w1 hw => ⟨fun b o hb => hw.ro b o (hle.m b o hb), fun b o hb => hw.bro b o (hle.bm b o hb), fun _ hi => by cases hi⟩
  cases hx : X.contains i with
  | true => exact .inl ⟨rfl, hag _ (Agree.of_hold hh' st'), wpAnyG_of_F (fun w1 h => hag w1 h) (fun w1 h => hag w1 h) _ _ _ _ hk⟩
  | false =>
    rw [hx, Bool.false_or, Bool.and_eq_true] at hs
    have hst : ∀ x ∈ st, e.vir x = false → x < e.n ∧ w'.heap[e.own x]? = w.heap[e.own x]? ∧ x ∈ st' := by
      intro x hx hvx
      have h := List.all_eq_true.1 hs.2 x hx
      simp only [Bool.and_eq_true, Nat.blt_eq, Bool.not_eq_true'] at h
      obtain ⟨⟨⟨h1, h2⟩, h3⟩, h4⟩ := h
      have hxn : x < e.n := by rw [hh.n]; exact h2
      have hlx : (M.at_ x).live e x := by
        cases hc : M.at_ x with
        | cells t l => trivial
        | row t R l => exact hvx
        | gone => rw [hc] at h3; simp [Chunk.isOwn] at h3
        | obj o => rw [hc] at h3; simp [Chunk.isOwn] at h3
        | bag => rw [hc] at h3; simp [Chunk.isOwn] at h3
      refine ⟨hxn, hfr _ (hh.live x hxn hlx).1 fun y hy hyn hly hxy => ?_, by simpa using h1⟩
      have := hh.dist y x hyn hxn hly hlx hxy
      subst this
      rw [List.contains_eq_mem] at h4
      simp [hy] at h4
    have hmono : ∀ w1, Agree e' st' w' w1 → Agree e st w w1 := by
      intro w1 hw
      refine ⟨fun b o hb => hw.ro b o (hle.m b o hb), fun b o hb => hw.bro b o (hle.bm b o hb), fun x hx hvx => ?_⟩
      obtain ⟨h1, h2, h3⟩ := hst x hx hvx
      have := hw.own x h3 ((hle.vir x h1).trans hvx)
      rw [hle.own x h1] at this
      exact this.trans h2
    refine .inr ⟨rfl, hmono _ (Agree.of_hold hh' st'), wpAnyF_mono (fun w1 h => hag w1 h) (fun w1 h => hag w1 h) hmono (fun y hy => ?_) _ _ _ _ hk⟩
    exact List.all_eq_true.1 hs.1 y (by simpa using hy)
theorem WPD1.eff (i : Nat) (st' X' : List Nat) (ho : ops[i]? = some { dst := some dst, op := op, type := ty, pos := pos, after := after, guard := Option.none })
    (h : Runs P op ty E M tc v M') (hs : (X.contains i || (X'.all X.contains && st.all fun j => st'.contains j && Nat.blt j M.n && (M.at_ j).isOwn && !(tc.contains j))) = true) (ht : Nat.blt dst fr.nt = true)
    (k : WPD P cx fr ops st' X' fuel (listed.setIfInBounds i true) (E.upd dst v) M' Q) : WPD1 P cx fr ops st X fuel listed i E M Q :=
  WPD1.eff_core (tc := tc) (M' := M') i st' X' ho (fun _ _ _ => rfl) hs (fun a w e hh he next Q' hk => h cx fr a w e hh he _ rfl rfl _ _ fun x w' e' hh' hle hv hfr _ =>
    hk _ w' e' hh' hle.1 ((he.mono hle.1 hle.2).put ht hv) hfr) k
theorem WPD1.effS (i : Nat) (st' X' : List Nat) (ho : ops[i]? = some { dst := Option.none, op := op, type := ty, pos := pos, after := after, guard := Option.none })
    (h : DoesS P op ty E M tc M') (hs : (X.contains i || (X'.all X.contains && st.all fun j => st'.contains j && Nat.blt j M.n && (M.at_ j).isOwn && !(tc.contains j))) = true)
    (k : WPD P cx fr ops st' X' fuel (listed.setIfInBounds i true) E M' Q) : WPD1 P cx fr ops st X fuel listed i E M Q :=
  WPD1.eff_core (tc := tc) (M' := M') i st' X' ho (fun _ _ _ => rfl) hs (fun a w e hh he next Q' hk => by
    obtain ⟨w', e', hr, hh', hle, hfr, _⟩ := h cx fr.nt a w e hh he
    refine ⟨about_some hr, ?_⟩
    rw [semAt_skip hr]
    exact hk _ w' e' hh' hle.1 (he.mono hle.1 hle.2) hfr) k
end
end Go.Q
namespace Go.Q
open Go
set_option linter.unusedVariables false
set_option linter.unusedSimpArgs false
end Go.Q
namespace Go.Q
open Go
set_option linter.unusedVariables false
set_option linter.unusedSimpArgs false
end Go.Q
namespace Go.Q
open Go
set_option linter.unusedVariables false
set_option linter.unusedSimpArgs false
section
variable {P : Program} {cx : Cx} {fr : Fr} {nt : Nat} {E E' : Env} {M M' : Mem} {Q : Ex → Env → Mem → Prop} {ty : TypeId}
theorem WP.condFB {c : Operand} {x y : Code} {t : Bool} (hc : E.ev c = .lit (.bool t)) (hb : t = false) (h : WP P cx fr y E M Q) : WP P cx fr (.cond c x y) E M Q := WP.condF (hb ▸ hc) h
theorem len0 {α : Type} {l : List α} (h : decide (l.length = 0) = true) : ((l.length : Nat) : Int) = 0 := by
  have := of_decide_eq_true h
  omega
end
end Go.Q
namespace Go.Q
open Go
set_option linter.unusedVariables false
set_option linter.unusedSimpArgs false
end Go.Q
namespace Go.Q
open Go
set_option linter.unusedVariables false
set_option linter.unusedSimpArgs false
/-- The bytes of a string. -/
def L (s : ByteArray) : List UInt8 := s.data.toList
end Go.Q
namespace Go.Q
open Go
set_option linter.unusedVariables false
set_option linter.unusedSimpArgs false
section
variable {P : Program} {cx : Cx} {fr : Fr} {E : Env} {M : Mem} {Q : Ex → Env → Mem → Prop}
/-- The rest of a loop, from the beginning of a round. -/
def WPI (P : Program) (cx : Cx) (fr : Fr) (c : Code) (E : Env) (M : Mem) (Q : Ex → Env → Mem → Prop) : Prop :=
  ∀ a w e, Hold cx e M w → Emb fr.nt e M E a → ∀ (b : Frame) (k : List Item) (cs : List Frame), b.roundOf = (fence P fr.r).round → (fence P fr.r).fn b.fn → (fence P fr.r).room (cs.length + 1 + 0) →
    ∃ x a' w', Sat cx fr Q x a' w' ∧ ArrivesIn (Machine.fenced P (fence P fr.r)) P (lone (b.atR a (.code c :: .inLoop c :: k)) cs w) b k cs x a' w'
theorem WPI.round {c : Code} (h : WP P cx fr c E M (Then (fun E M => WPI P cx fr c E M Q) Q)) : WPI P cx fr c E M Q := by
  intro a w e hh he b k cs hro hb hr
  obtain ⟨x, a1, w1, hq, harr⟩ := h a w e hh he b (.inLoop c :: k) cs hro hb hr
  obtain ⟨y, E', M', e', q, h1, h2, h3⟩ := hq
  cases y with
  | normal =>
    cases h3
    obtain ⟨x2, a2, w2, hq2, harr2⟩ := q a1 w1 e' h1 h2 b k cs hro hb hr
    exact ⟨x2, a2, w2, hq2, .of_steps (StepsIn.trans harr (.one (fenced_calm hb hr rfl) stepR_inLoop)) harr2⟩
  | exit id => cases h3; exact ⟨_, a1, w1, ⟨_, E', M', e', q, h1, h2, rfl⟩, .pass (x := .inLoop c) rfl (fun _ _ => .inl (by simp)) harr⟩
  | goto l => cases h3; exact ⟨_, a1, w1, ⟨_, E', M', e', q, h1, h2, rfl⟩, .pass (x := .inLoop c) rfl (fun _ _ => .inl (by simp)) harr⟩
  | ret => cases h3; exact ⟨_, a1, w1, ⟨_, E', M', e', q, h1, h2, rfl⟩, .pass (x := .inLoop c) rfl (fun _ _ => .inl (by simp)) harr⟩
  | panic v =>
    obtain ⟨u, rfl, hv⟩ := h3
    exact ⟨_, a1, w1, ⟨_, E', M', e', q, h1, h2, u, rfl, hv⟩, .pass (x := .inLoop c) rfl (fun _ _ => .inl (by simp)) harr⟩
/-- A loop of which a bound of rounds is known; its last rounds may be walked by themselves. -/
theorem WP.loop2.{u} {c : Code} {β : Type u} (S : Nat → β → Prop) (Es : β → Env) (Ms : β → Mem) (k0 : Nat) (b0 : β) (h0 : S k0 b0) (hE : E = Es b0) (hM : M = Ms b0)
    (round : ∀ k b, S k b → WP P cx fr c (Es b) (Ms b) (Then (fun E' M' => (∃ k' b', k' < k ∧ S k' b' ∧ E' = Es b' ∧ M' = Ms b') ∨ WPI P cx fr c E' M' Q) Q)) : WP P cx fr (.loop c) E M Q := by
  subst hE hM
  intro a w e hh he b k cs hro hb hr
  have key : ∀ j b0 a w e, S j b0 → Hold cx e (Ms b0) w → Emb fr.nt e (Ms b0) (Es b0) a →
      ∃ x a' w', Sat cx fr Q x a' w' ∧ ArrivesIn (Machine.fenced P (fence P fr.r)) P (lone (b.atR a (.code c :: .inLoop c :: k)) cs w) b k cs x a' w' := by
    intro j
    induction j using Nat.strongRecOn with
    | _ j ih =>
      intro b0 a w e hS hh he
      obtain ⟨x, a1, w1, hq, harr⟩ := round j b0 hS a w e hh he b (.inLoop c :: k) cs hro hb hr
      obtain ⟨y, E', M', e', q, h1, h2, h3⟩ := hq
      cases y with
      | normal =>
        cases h3
        rcases q with ⟨k', b', hlt, hS', rfl, rfl⟩ | q
        · obtain ⟨x2, a2, w2, hq2, harr2⟩ := ih k' hlt b' a1 w1 e' hS' h1 h2
          exact ⟨x2, a2, w2, hq2, .of_steps (StepsIn.trans harr (.one (fenced_calm hb hr rfl) stepR_inLoop)) harr2⟩
        · obtain ⟨x2, a2, w2, hq2, harr2⟩ := q a1 w1 e' h1 h2 b k cs hro hb hr
          exact ⟨x2, a2, w2, hq2, .of_steps (StepsIn.trans harr (.one (fenced_calm hb hr rfl) stepR_inLoop)) harr2⟩
      | exit id => cases h3; exact ⟨_, a1, w1, ⟨_, E', M', e', q, h1, h2, rfl⟩, .pass (x := .inLoop c) rfl (fun _ _ => .inl (by simp)) harr⟩
      | goto l => cases h3; exact ⟨_, a1, w1, ⟨_, E', M', e', q, h1, h2, rfl⟩, .pass (x := .inLoop c) rfl (fun _ _ => .inl (by simp)) harr⟩
      | ret => cases h3; exact ⟨_, a1, w1, ⟨_, E', M', e', q, h1, h2, rfl⟩, .pass (x := .inLoop c) rfl (fun _ _ => .inl (by simp)) harr⟩
      | panic v =>
        obtain ⟨u, rfl, hv⟩ := h3
        exact ⟨_, a1, w1, ⟨_, E', M', e', q, h1, h2, u, rfl, hv⟩, .pass (x := .inLoop c) rfl (fun _ _ => .inl (by simp)) harr⟩
  obtain ⟨x, a', w', hq, harr⟩ := key k0 b0 a w e h0 hh he
  exact ⟨x, a', w', hq, .of_steps (.one (fenced_calm hb hr rfl) stepR_loop) harr⟩
end
def EqV (P : Program) (n : Nat) (t : TypeId) (x y : Value) (b : Bool) : Prop := ∀ d w, n ≤ d → (Op.equalIn d t x y).run P w = .ok b w
def EqF (P : Program) (n : Nat) (xs ys : List Value) (fs : List Field) (b : Bool) : Prop := ∀ d w, n ≤ d → (Op.eqFields d xs.toArray ys.toArray fs).run P w = .ok b w
section
variable {P : Program} {n : Nat} {t : TypeId} {xs ys : List Value} {f : Field} {fs : List Field}
theorem EqV.int {k k' : IntKind} {a b : Int} (h : P.underlying t = some (.int k')) : EqV P (n + 1) t (.int k a) (.int k b) (decide (a = b)) := fun d w hd => by
  obtain ⟨m, rfl⟩ : ∃ m, d = m + 1 := ⟨d - 1, by omega⟩
  rw [run_equalIn_int w m t k k' a b h]; rfl
theorem EqV.bool {a b : Bool} (h : P.underlying t = some .bool) : EqV P (n + 1) t (.bool a) (.bool b) (a == b) := fun d w hd => by
  obtain ⟨m, rfl⟩ : ∃ m, d = m + 1 := ⟨d - 1, by omega⟩
  exact run_equalIn_bool' w m t a b h
theorem EqV.str {a b : ByteArray} (h : P.underlying t = some .string) : EqV P (n + 1) t (.string a) (.string b) (a.toList == b.toList) := fun d w hd => by
  obtain ⟨m, rfl⟩ : ∃ m, d = m + 1 := ⟨d - 1, by omega⟩
  exact run_equalIn_string w m t a b h
theorem EqF.nil : EqF P n xs ys [] true := fun d w _ => rfl
theorem part_sc {w : World} {u : Value} {o : Nat} (ht : Sc P t) (h : xs[o]? = some u) : (part t xs.toArray o).run P w = .ok u w := by
  simp [part, ht.isAgg w, h]
theorem EqF.sc {u v : Value} {b c : Bool} (hn : (f.name == "_") = false) (ht : Sc P f.type) (hx : xs[f.offset]? = some u) (hy : ys[f.offset]? = some v) (h : EqV P n f.type u v b) (k : EqF P n xs ys fs c) : EqF P n xs ys (f :: fs) (b && c) := fun d w hd => by
  have hn' : f.name ≠ "_" := by simpa using hn
  rw [Op.eqFields, if_pos hn']
  simp only [Sem.run_bind, part_sc ht hx, part_sc ht hy, Result.andThen_ok, h d w hd]
  cases b with
  | true => simpa using k d w hd
  | false => simp
theorem EqV.struct {b : Bool} {fa : Array Field} (ht : P.underlying t = some (.struct fa)) (hp : P.stoodInHeld t = false) (h : EqF P n xs ys fa.toList b) : EqV P (n + 1) t (.agg xs.toArray) (.agg ys.toArray) b := fun d w hd => by
  obtain ⟨m, rfl⟩ : ∃ m, d = m + 1 := ⟨d - 1, by omega⟩
  have hf : P.fieldsOf t = fa := by simp [Program.fieldsOf, ht]
  rw [run_equalIn_agg w m t _ _ (by rw [hf]; exact ht) hp, hf]
  exact h m w (by omega)
end
theorem W.wk {cx : Cx} {fr : Fr} {Q : Ex → Env → Mem → Prop} {x : Ex} {E E' : Env} {M M' : Mem} {np : Nat} (l : List Nat) (hnp : cx.np = np) (hq : Q x E' M') (hM : LeM l np M M') (hE : LeE l M'.n E E') (hx : x.plain = true) : W cx fr Q x E M :=
  W.cv (Cv.weak l hnp hM hE) hx (W.now hq)
theorem BodyR.mkR {az : List (Nat × Nat)} {rs : List ResultVar} {np : Nat} {Q : Out → Mem → Prop} {E : Env} {M M2 : Mem} {vs : List AVal} {v : AVal} (hm : marksOk M E.d) (hvs : resAll az E (dropMarks M E.d) rs = some vs) (l : List Nat) (hq : Q (.ret v) M2)
    (hl : LeM l np (dropMarks M E.d) M2) (h1 : resOut vs = v.ren (sub l)) (h2 : (v.under M2.n && E.b.isEmpty) = true) : BodyR az rs np Q .ret E M := ⟨hm, vs, hvs, l, v, M2, hl, h1, h2, hq⟩
theorem BodyR.mkN {az : List (Nat × Nat)} {rs : List ResultVar} {np : Nat} {Q : Out → Mem → Prop} {E : Env} {M M2 : Mem} {vs : List AVal} {v : AVal} (hm : marksOk M E.d) (hvs : resAll az E (dropMarks M E.d) rs = some vs) (l : List Nat) (hq : Q (.ret v) M2)
    (hl : LeM l np (dropMarks M E.d) M2) (h1 : resOut vs = v.ren (sub l)) (h2 : (v.under M2.n && E.b.isEmpty) = true) : BodyR az rs np Q .normal E M := ⟨hm, vs, hvs, l, v, M2, hl, h1, h2, hq⟩
end Go.Q
namespace Go.Q
open Go
set_option linter.unusedVariables false
set_option linter.unusedSimpArgs false
section
variable {P : Program} {cx : Cx} {fr : Fr} {ops : Array Oper} {os : List Oper} {E E' : Env} {M M' : Mem} {Q : Ex → Env → Mem → Prop} {op : Op} {ty : TypeId} {pos : String} {after : Array Edge} {dst : Nat} {v : AVal} {tc : List Nat}
/-- A leaf at a panic: the payload told anew beside the state. -/
theorem W.wkP {u u' : AVal} {np : Nat} (l : List Nat) (hnp : cx.np = np) (hq : Q (.panic u') E' M') (hM : LeM l np M M') (hE : LeE l M'.n E E') (hu : u = u'.ren (sub l)) (hun : u'.under M'.n = true) : W cx fr Q (.panic u) E M := by
  intro a w e X hh he hx
  obtain ⟨x, rfl, hx⟩ := hx
  subst hu
  refine ⟨.panic u', E', M', e.re (sub l) M'.n, hq, hh.re hnp hM, ⟨⟨?_, fun t ht => ?_⟩, okOs_re hE.o he.2⟩, x, rfl, hx.re hun⟩
  · obtain ⟨r, h1, h2⟩ := he.1.1
    rw [hE.d] at h2
    exact ⟨r, by rw [← hE.b]; exact h1, marks_re h2 hE.db⟩
  · rcases hE.v t with h0 | ⟨h1, h2⟩
    · rw [h0]; simp [Val]
    · have := he.1.2 t ht
      rw [h1] at this
      exact this.re h2
theorem Scope.p {u : AVal} (h : Q (.panic u) E M) : (match Ex.panic u with | .goto _ => False | _ => True) ∧ Q (.panic u) E M := ⟨trivial, h⟩
theorem BodyR.mkP {az : List (Nat × Nat)} {rs : List ResultVar} {np : Nat} {Q : Out → Mem → Prop} {E : Env} {M M2 : Mem} {u v : AVal} (hm : marksOk M E.d) (l : List Nat) (hq : Q (.pan v) M2)
    (hl : LeM l np (dropMarks M E.d) M2) (h1 : u = v.ren (sub l)) (h2 : (v.under M2.n && E.b.isEmpty) = true) : BodyR az rs np Q (.panic u) E M := ⟨hm, l, v, M2, hl, h1, h2, hq⟩
/-- A panic of a value that is an interface of something. -/
theorem runs_panic {x : Operand} {t : TypeId} {a : AVal} (hx : E.ev x = .ifc t a) : RunsP P (.panic x) ty E M (.ifc t a) M := by
  intro cx fr a' w e hh he o ho hty next Q k
  have hv := he.ev x
  rw [hx] at hv
  have hv0 := hv
  simp only [Val] at hv
  obtain ⟨y, hy, _⟩ := hv
  refine ⟨fun f hf => by simp [Oper.about, ho] at hf, ?_⟩
  rw [Oper.semAt_eq _ _ _ (by rw [ho]; intro c hc; cases hc), execOp_one, ho]
  have hrun : (exec1 a'.eval (.panic x) o.type).run P w = .halt (.panic (.iface t y)) w := by
    simp [exec1, execOp, hy, Instr.panic]
  rw [hrun]
  exact k _ w e hh ⟨Nv.le.refl e, fun _ => Ro.le.refl _⟩ (hy ▸ hv0)
theorem WPL.pW {d : Option Nat} (h : RunsP P op ty E M v M') (k : W cx fr Q (.panic v) E M') :
    WPL P cx fr ops ({ dst := d, op := op, type := ty, pos := pos, after := after, guard := Option.none } :: os) E M Q := by
  intro a w e hh he
  unfold wpListIn
  rw [if_pos (by rfl)]
  refine h cx fr a w e hh he _ rfl rfl _ _ fun x w' e' hh' hle hv => ?_
  exact k a w' e' _ hh' ⟨⟨he.d.mono hle.1, fun t _ => (he.v t).mono hle.1 hle.2⟩, fun p hp => (he.o p hp).mono hle.1 hle.2⟩ ⟨x, rfl, hv⟩
/-- The only operation that may come up panics. -/
theorem WPD.pW {st X : List Nat} {fuel : Nat} {listed : Array Bool} (i : Nat) {d : Option Nat} (ho : ops[i]? = some { dst := d, op := op, type := ty, pos := pos, after := after, guard := Option.none }) (hb : readyIs ops listed i = true)
    (h : RunsP P op ty E M v M') (k : W cx fr Q (.panic v) E M') : WPD P cx fr ops st X (fuel + 1) listed E M Q := by
  intro a w e hh he
  have hready : Region.ready .any ops listed = [i] := by simpa [readyIs] using hb
  refine ⟨fun h => (by rw [hready] at h; cases h), fun j hj => ?_⟩
  rw [hready] at hj
  obtain rfl : j = i := by simpa using hj
  unfold wpOpIn
  simp only [ho]
  rw [if_pos (by rfl)]
  refine h cx fr a w e hh he _ rfl rfl _ _ fun x w' e' hh' hle hv => ?_
  exact k a w' e' _ hh' ⟨⟨he.d.mono hle.1, fun t _ => (he.v t).mono hle.1 hle.2⟩, fun p hp => (he.o p hp).mono hle.1 hle.2⟩ ⟨x, rfl, hv⟩
/-- One of several operations that may come up panics. -/
theorem WPD1.pW {st X : List Nat} {fuel : Nat} {listed : Array Bool} (i : Nat) {d : Option Nat} (ho : ops[i]? = some { dst := d, op := op, type := ty, pos := pos, after := after, guard := Option.none })
    (h : RunsP P op ty E M v M') (k : W cx fr Q (.panic v) E M') : WPD1 P cx fr ops st X fuel listed i E M Q := by
  intro a w e hh he
  unfold wpOpIn
  simp only [ho]
  rw [if_pos (by rfl)]
  refine h cx fr a w e hh he _ rfl rfl _ _ fun x w' e' hh' hle hv => ?_
  exact k a w' e' _ hh' ⟨⟨he.d.mono hle.1, fun t _ => (he.v t).mono hle.1 hle.2⟩, fun p hp => (he.o p hp).mono hle.1 hle.2⟩ ⟨x, rfl, hv⟩
end
end Go.Q
namespace Go.Q
open Go
set_option linter.unusedVariables false
set_option linter.unusedSimpArgs false
section
variable {P : Program} {cx : Cx} {fr : Fr} {ops : Array Oper} {os : List Oper} {E E' : Env} {M M' : Mem} {Q : Ex → Env → Mem → Prop} {op : Op} {ty : TypeId} {pos : String} {after : Array Edge} {dst : Nat} {v : AVal} {tc : List Nat}
/-- The deferred call of a closure. -/
def dfd (f : FuncId) (aD : Act) : Deferred := { target := .fn (.func f) aD.tmps, args := #[] }
theorem WPL.dfr {fo : Operand} {f : FuncId} {cap : List AVal} {tys : Array TypeId} (hr : fr.r = none) (hfo : E.ev fo = .fn f cap) (hd : (E.d, E.b) = ([], []))
    (k : ∀ aD : Act, aD.tmps.size = cap.length → WPL P cx fr ops os ⟨E.v, [], ⟨aD, fun t => cap.getD t .any, [], none⟩ :: E.o, [dfd f aD]⟩ M Q) :
    WPL P cx fr ops ({ dst := Option.none, op := .defer { callee := .value fo, args := #[], argTypes := tys }, type := ty, pos := pos, after := after, guard := Option.none } :: os) E M Q := by
  intro a w e hh he
  have hv := he.ev fo
  rw [hfo] at hv
  simp only [Val] at hv
  obtain ⟨us, h1, h2⟩ := hv
  have had : a.defers = [] := by
    have := he.d
    rw [(Prod.mk.inj hd).1, (Prod.mk.inj hd).2] at this
    exact marksB.nil.1 this
  unfold wpListIn
  rw [if_pos (by rfl)]
  refine ⟨fun f hf => by simp [Oper.about] at hf, ?_⟩
  rw [hr]
  have hrun : (Oper.semAt none a.eval { dst := Option.none, op := .defer { callee := .value fo, args := #[], argTypes := tys }, type := ty, pos := pos, after := after, guard := Option.none }).run P w = .ok (.defer (dfd f { tmps := us.toArray, defers := [] })) w := by
    simp [Oper.semAt, execOp, resolve, Deferred.ofValue, h1, dfd]
  rw [hrun]
  have hk := k { tmps := us.toArray, defers := [] } (by simpa using h2.length) { a with defers := [dfd f { tmps := us.toArray, defers := [] }] } w e hh ⟨he.sz, he.v, ⟨[], rfl, rfl⟩, fun p hp => ?_⟩
  · rw [hr] at hk
    simpa [Oper.uponIn, Act.put, had] using hk
  · rcases List.mem_cons.1 hp with rfl | hp
    · refine ⟨fun t => ?_, rfl, fun i l hil => by cases hil⟩
      simp only [List.getD_eq_getElem?_getD]
      by_cases ht : t < cap.length
      · rw [List.getElem?_eq_getElem ht]
        obtain ⟨v, g1, g2⟩ := h2.get (List.getElem?_eq_getElem ht)
        have hs : us.toArray.getD t undef = v := by rw [Array.getD_eq_getD_getElem?]; simp [g1]
        rw [hs]
        exact g2
      · rw [List.getElem?_eq_none (by omega)]
        simp [Val]
    · exact he.o p hp
theorem wpOps_recover {F : Fence} {n d0 d1 : Nat} {P : Program} {Q : Exit → Act → List Frame → World → Prop} {a : Act} {cs cs' : List Frame} {w : World} {xv : Value} {t0 t1 : TypeId} {p0 p1 : String} {af0 af1 : Array Edge} (hd : d0 < a.tmps.size)
    (hrec : recoverD cs = some (xv, cs') ∨ (recoverD cs = none ∧ xv = .nilIface ∧ cs' = cs)) (h : Q .normal ((a.put (some d0) xv).put (some d1) xv) cs' w) :
    wpOpsSIn F n P #[{ dst := some d0, op := .call { callee := .builtin .recover, args := #[], argTypes := #[] }, type := t0, pos := p0, after := af0, guard := Option.none }, { dst := some d1, op := .assign (.tmp d0), type := t1, pos := p1, after := af1, guard := Option.none }] Q [0, 1] a cs w := by
  have hrun : (execOp a.eval { dst := some d0, op := .call { callee := .builtin .recover, args := #[], argTypes := #[] }, type := t0, pos := p0, after := af0, guard := Option.none }).run P w = .ok .recover w := by
    simp [execOp, resolve, invoke, builtin]
  have hev : (a.put (some d0) xv).eval (.tmp d0) = xv := by
    simp [Act.put, Act.eval, hd]
  have h2 : wpOpsSIn F n P #[{ dst := some d0, op := .call { callee := .builtin .recover, args := #[], argTypes := #[] }, type := t0, pos := p0, after := af0, guard := Option.none }, { dst := some d1, op := .assign (.tmp d0), type := t1, pos := p1, after := af1, guard := Option.none }] Q [1] (a.put (some d0) xv) cs' w := by
    unfold wpOpsSIn
    simp only [List.getElem?_toArray, List.getElem?_cons_succ, List.getElem?_cons_zero]
    refine ⟨fun f hf => by simp [Oper.about] at hf, ?_⟩
    rw [if_pos (by rfl)]
    simp only [execOp, Sem.run_pure, hev]
    exact h
  unfold wpOpsSIn
  simp only [List.getElem?_toArray, List.getElem?_cons_zero]
  refine ⟨fun f hf => by simp [Oper.about, resolve, Target.leads] at hf, ?_⟩
  rw [if_pos (by rfl), hrun]
  rcases hrec with hr | ⟨hr, rfl, rfl⟩
  · simp only [hr]; exact h2
  · simp only [hr]; exact h2
/-- What the closure must come to: the function's frame waits. -/
def BodyF (az : List (Nat × Nat)) (rs : List ResultVar) (np : Nat) (Q : Out → Mem → Prop) (aF : Act) (x : Ex) (E : Env) (M : Mem) : Prop :=
  (x = .normal ∨ x = .ret) ∧ (E.d, E.b) = ([], []) ∧ ∃ vF, E.o = [⟨aF, vF, [], none⟩] ∧ BodyR az rs np Q .ret ⟨vF, [], [], []⟩ M
/-- What the body of a function that defers such a closure must come to: it is left ahead of that, or the closure's code behind its recover is walked. -/
def BodyD (P : Program) (cx : Cx) (fc : FuncId) (ntc d0 d1 nc : Nat) (rest : Code) (az : List (Nat × Nat)) (rs : List ResultVar) (np : Nat) (pin : List Nat) (Q : Out → Mem → Prop) (x : Ex) (E : Env) (M : Mem) : Prop :=
  (E.d = [] ∧ BodyR az rs np Q x E M) ∨
  ∃ u, (x = .panic u ∨ ((x = .normal ∨ x = .ret) ∧ u = .lit .nilIface)) ∧ E.d = [] ∧ ∃ aD vc, aD.tmps.size = nc ∧ E.b = [dfd fc aD] ∧ E.o = [⟨aD, vc, [], none⟩] ∧
    ∀ aF : Act, WP P cx ⟨ntc, none, []⟩ rest (((⟨vc, [], [⟨aF, fun t => if pin.contains t then E.v t else .any, [], none⟩], []⟩ : Env).upd d0 u).upd d1 u) M (BodyF az rs np Q aF)
theorem Spec.of_bodyD {az : List (Nat × Nat)} {f fc : FuncId} {fn fnc : Func} {c rest : Code} {id d0 d1 ntc nc np nt : Nat} {pin : List Nat} {args : List AVal} {Q : Out → Mem → Prop} {rs : List ResultVar} {t0 t1 : TypeId} {p0 p1 : String} {af0 af1 : Array Edge}
    (hf : P.funcs[f]? = some fn) (hb : fn.body = some c) (hr : fn.results.toList = rs) (hsc : ∀ t T, ResultVar.cell t T ∈ rs → CellOk P az T) (hnt : fn.ntmps = nt) (ha : Nat.ble args.length nt = true)
    (hfc : P.funcs[fc]? = some fnc) (hbc : fnc.body = some (.seq (.region id #[{ dst := some d0, op := .call { callee := .builtin .recover, args := #[], argTypes := #[] }, type := t0, pos := p0, after := af0, guard := Option.none }, { dst := some d1, op := .assign (.tmp d0), type := t1, pos := p1, after := af1, guard := Option.none }] false) rest))
    (hntc : fnc.ntmps = ntc) (hrc : fnc.results = #[]) (hnm : (fnc.name == "runtime.NumGoroutine") = false) (hd : (Nat.blt d0 ntc && Nat.blt d1 ntc && Nat.ble nc ntc) = true)
    (h : ∀ cx, cx.np = np → WP P cx ⟨nt, none, pin⟩ c (argsEnv args) M (BodyD P cx fc ntc d0 d1 nc rest az rs np pin Q)) : Spec P f np args M Q := by
  intro cx e w vs hent hh hv
  have hlen := hv.length
  have ha' : args.length ≤ nt := by simpa using ha
  refine callsIn_of_wp_defers hf hb (Option.isSome_iff_exists.2 ⟨_, hf⟩) ?_ rfl
  have hemb : Emb nt e M (argsEnv args) { tmps := vs.toArray ++ Array.replicate (fn.ntmps - vs.toArray.size) undef, defers := [] } := by
    refine ⟨by simp [hnt, hlen]; omega, fun t => ?_, ⟨[], rfl, rfl⟩, fun p hp => by cases hp⟩
    simp only [argsEnv, List.getD_eq_getElem?_getD]
    by_cases ht : t < args.length
    · rw [List.getElem?_eq_getElem ht]
      obtain ⟨v, h1, h2⟩ := hv.get (List.getElem?_eq_getElem ht)
      have hs : (vs.toArray ++ Array.replicate (fn.ntmps - vs.toArray.size) undef).getD t undef = v := by
        rw [Array.getD_eq_getD_getElem?, Array.getElem?_append_left (by simpa [hlen] using ht)]
        simp [h1]
      rw [hs]
      exact h2
    · rw [List.getElem?_eq_none (by omega)]
      simp [Val]
  refine Go.wpIn_mono (h cx hent.np _ w e hh hemb) fun x a' w' k => ?_
  obtain ⟨y, E', M', e', q, h1, h2, h3⟩ := k
  let R : Ending → World → Prop := fun x w' => ∃ o M' e', Q o M' ∧ Hold cx e' M' w' ∧ o.is e' x
  have hfinR : ∀ {E1 : Env} {M1 : Mem} {e1 : Nv} {w1 : World} {am : Act}, Hold cx e1 M1 w1 → (∀ t, Val e1 (E1.v t) (am.tmps.getD t undef)) → E1.d = [] → BodyR az rs np Q .ret E1 M1 →
      LeavesIn (fence P none) 0 P fn am.tmps R [] .returning w1 := by
    intro E1 M1 e1 w1 am g1 g2 g0 q
    obtain ⟨_, vs', q2, l, v, M2, q3, q4, q5, q6⟩ := q
    rw [g0] at q2 q3
    obtain ⟨u, r1, r2⟩ := run_results (a := am) g1 g2 hr hsc q2
    rw [Bool.and_eq_true] at q5
    rw [q4] at r2
    exact ⟨u, r1, .ret v, M2, _, q6, g1.re hent.np q3, u, rfl, r2.re q5.1⟩
  rcases q with ⟨q0, q⟩ | ⟨u, hu, hd0, aD, vc, hsz, hbD, hoD, hk⟩
  · have hdef : marksB e' M' E'.b E'.d a'.defers → E'.b = [] → a'.defers = [] := by
      intro g1 g2
      rw [q0, g2] at g1
      exact marksB.nil.1 g1
    have hbn : ∀ {b : Bool}, (b && E'.b.isEmpty) = true → E'.b = [] := by
      intro b hb'
      rw [Bool.and_eq_true] at hb'
      simpa using hb'.2
    cases y with
    | normal =>
      cases h3
      have had := hdef (Emb.d h2) (by obtain ⟨_, vs', q2, l, v, M2, q3, q4, q5, q6⟩ := q; exact hbn q5)
      show LeavesIn (fence P none) 0 P fn a'.tmps R a'.defers .returning w'
      rw [had]
      exact hfinR h1 (Emb.v h2) q0 q
    | ret =>
      cases h3
      have had := hdef (Emb.d h2) (by obtain ⟨_, vs', q2, l, v, M2, q3, q4, q5, q6⟩ := q; exact hbn q5)
      show LeavesIn (fence P none) 0 P fn a'.tmps R a'.defers .returning w'
      rw [had]
      exact hfinR h1 (Emb.v h2) q0 q
    | exit id => exact q.elim
    | goto l => exact q.elim
    | panic v =>
      obtain ⟨x, rfl, hx⟩ := h3
      obtain ⟨_, l, v', M2, q3, q4, q5, q6⟩ := q
      have had := hdef h2.1.1 (hbn q5)
      show LeavesIn (fence P none) 0 P fn a'.tmps R a'.defers (.panicking [{ v := x, recovered := false }]) w'
      rw [had]
      rw [q0] at q3
      rw [Bool.and_eq_true] at q5
      rw [q4] at hx
      exact ⟨.pan v', M2, _, q6, h1.re hent.np q3, x, rfl, hx.re q5.1⟩
  · have core : ∀ (um : FrameMode) (xv : Value), (um = .returning ∧ xv = .nilIface) ∨ um = .panicking [{ v := xv, recovered := false }] → Val e' u xv → (∀ t, pin.contains t = true → Val e' (E'.v t) (a'.tmps.getD t undef)) → okO e' M' ⟨aD, vc, [], none⟩ →
        LeavesIn (fence P none) 0 P fn a'.tmps R [dfd fc aD] um w' := by
      intro um xv hum hxv hpin hoc
      refine ⟨by rcases hum with ⟨rfl, _⟩ | rfl <;> simp, fun h => by simp at h, .func fc, aD.tmps, fc, #[] ++ aD.tmps, rfl, ?_, ?_, ?_⟩
      · have hnm' : ¬ fnc.name = "runtime.NumGoroutine" := by simpa using hnm
        simp [dfd, invoke, callFunc, hfc, hbc, hnm']
      · intro g hg
        simp [dfd, Target.leads] at hg
        subst hg
        exact Option.isSome_iff_exists.2 ⟨_, hfc⟩
      · refine callsDIn_of_wpSIn hfc hbc (Option.isSome_iff_exists.2 ⟨_, hfc⟩) fun c₀ cs hmode => ?_
        refine wpSIn_seq (wpSIn_region ?_)
        have hcs : ∃ cs' u', cs'.length = cs.length + 1 ∧ cs' = { c₀ with mode := u' } :: cs ∧ settle u' = .returning ∧ ((recoverD (c₀ :: cs) = some (xv, cs')) ∨ (recoverD (c₀ :: cs) = none ∧ xv = .nilIface ∧ cs' = c₀ :: cs)) := by
          rcases hum with ⟨rfl, rfl⟩ | rfl
          · refine ⟨c₀ :: cs, .returning, rfl, ?_, rfl, .inr ⟨by simp [recoverD, hmode], rfl, rfl⟩⟩
            rw [← hmode]
          · exact ⟨{ c₀ with mode := .panicking [{ v := xv, recovered := true }] } :: cs, _, rfl, rfl, rfl, .inl (by simp [recoverD, hmode])⟩
        obtain ⟨cs', u', hlen', hcs', hset, hrec⟩ := hcs
        have key : (Exit.thenS (Code.wpSIn (fence P none) (0 - 1) P rest (bodyPostS P fnc c₀ cs fun x u' w' => match x with
            | .returned _ => LeavesIn (fence P none) 0 P fn a'.tmps R [] (settle u') w'
            | .panicked chain => LeavesIn (fence P none) 0 P fn a'.tmps R [] (raised u' chain) w'
            | .outgrown => R .outgrown w')) (bodyPostS P fnc c₀ cs fun x u' w' => match x with
            | .returned _ => LeavesIn (fence P none) 0 P fn a'.tmps R [] (settle u') w'
            | .panicked chain => LeavesIn (fence P none) 0 P fn a'.tmps R [] (raised u' chain) w'
            | .outgrown => R .outgrown w')) .normal (({ tmps := (#[] ++ aD.tmps) ++ Array.replicate (fnc.ntmps - (#[] ++ aD.tmps).size) undef, defers := [] } : Act).put (some d0) xv |>.put (some d1) xv) cs' w' := by
          have hd3 := hd
          simp only [Bool.and_eq_true, Nat.ble_eq] at hd3
          have hsame : ∀ t, ((#[] ++ aD.tmps) ++ Array.replicate (fnc.ntmps - (#[] ++ aD.tmps).size) undef).getD t undef = aD.tmps.getD t undef := by
            intro t
            simp only [Array.getD_eq_getD_getElem?, Array.empty_append]
            by_cases ht : t < aD.tmps.size
            · rw [Array.getElem?_append_left ht]
            · rw [Array.getElem?_append_right (by omega)]
              rw [Array.getElem?_eq_none (show aD.tmps.size ≤ t by omega)]
              by_cases h4 : t - aD.tmps.size < fnc.ntmps - aD.tmps.size
              · rw [Array.getElem?_replicate, if_pos h4]; rfl
              · rw [Array.getElem?_replicate, if_neg h4]
          let aF : Act := { tmps := a'.tmps, defers := [] }
          have hemb0 : Emb ntc e' M' ⟨vc, [], [⟨aF, fun t => if pin.contains t then E'.v t else .any, [], none⟩], []⟩ { tmps := (#[] ++ aD.tmps) ++ Array.replicate (fnc.ntmps - (#[] ++ aD.tmps).size) undef, defers := [] } := by
            refine ⟨by simp [hntc, hsz]; omega, fun t => ?_, ⟨[], rfl, rfl⟩, fun p hp => ?_⟩
            · show Val e' (vc t) (((#[] ++ aD.tmps) ++ Array.replicate (fnc.ntmps - (#[] ++ aD.tmps).size) undef).getD t undef)
              rw [hsame]
              exact hoc.v t
            · simp only [List.mem_singleton] at hp
              subst hp
              refine ⟨fun t => ?_, rfl, fun i l hil => by cases hil⟩
              show Val e' (if pin.contains t then E'.v t else .any) (a'.tmps.getD t undef)
              by_cases hp : pin.contains t = true
              · rw [if_pos hp]; exact hpin t hp
              · rw [if_neg hp]; simp [Val]
          have hemb2 := (hemb0.put hd3.1.1 hxv).put hd3.1.2 hxv
          refine wpSIn_of_wpIn rfl (Go.wpIn_mono (hk aF _ w' e' h1 hemb2) fun x2 a3 w3 k3 => ?_)
          obtain ⟨y2, E3, M3, e3, ⟨hy, hdb, vF, ho3, hB⟩, g1, g2, g3⟩ := k3
          have fin3 : Emb ntc e3 M3 E3 a3 → a3.defers = [] ∧ ∃ u'', cs' = { c₀ with mode := u'' } :: cs ∧ ∃ v, (results fnc a3.tmps).run P w3 = .ok v w3 ∧ LeavesIn (fence P none) 0 P fn a'.tmps R [] (settle u'') w3 := by
            intro g2
            have hd4 := g2.d
            rw [(Prod.mk.inj hdb).1, (Prod.mk.inj hdb).2] at hd4
            have hp := g2.o ⟨aF, vF, [], none⟩ (by rw [ho3]; simp)
            refine ⟨marksB.nil.1 hd4, u', hcs', .tuple #[], by simp [results, hrc], ?_⟩
            rw [hset]
            exact hfinR (E1 := ⟨vF, [], [], []⟩) (am := aF) g1 hp.v rfl hB
          rcases hy with rfl | rfl
          · cases g3; exact fin3 g2
          · cases g3; exact fin3 g2
        have hds : d0 < ({ tmps := (#[] ++ aD.tmps) ++ Array.replicate (fnc.ntmps - (#[] ++ aD.tmps).size) undef, defers := [] } : Act).tmps.size := by
          simp only [Bool.and_eq_true, Nat.blt_eq, Nat.ble_eq] at hd
          simp
          omega
        refine wpOps_recover (cs' := cs') (xv := xv) hds ?_ key
        rcases hrec with h | ⟨h, g1, g2⟩
        · exact .inl h
        · exact .inr ⟨h, g1, g2⟩
    have hdef : marksB e' M' E'.b E'.d a'.defers → a'.defers = [dfd fc aD] := by
      rintro ⟨r, g1, g2⟩
      rw [hd0] at g2
      have : r = [] := g2
      subst this
      rw [g1, hbD]
      rfl
    rcases hu with rfl | ⟨hy, rfl⟩
    · obtain ⟨x, rfl, hx⟩ := h3
      show LeavesIn (fence P none) 0 P fn a'.tmps R a'.defers (.panicking [{ v := x, recovered := false }]) w'
      rw [hdef h2.1.1]
      exact core _ x (.inr rfl) hx h2.1.2 (h2.2 _ (by rw [hoD]; simp))
    · rcases hy with rfl | rfl
      · cases h3
        show LeavesIn (fence P none) 0 P fn a'.tmps R a'.defers .returning w'
        rw [hdef (Emb.d h2)]
        exact core _ _ (.inl ⟨rfl, rfl⟩) rfl (fun t _ => Emb.v h2 t) (Emb.o h2 _ (by rw [hoD]; simp))
      · cases h3
        show LeavesIn (fence P none) 0 P fn a'.tmps R a'.defers .returning w'
        rw [hdef (Emb.d h2)]
        exact core _ _ (.inl ⟨rfl, rfl⟩) rfl (fun t _ => Emb.v h2 t) (Emb.o h2 _ (by rw [hoD]; simp))
end
end Go.Q
namespace Go.Q
open Go
set_option linter.unusedVariables false
set_option linter.unusedSimpArgs false
section
variable {P : Program} {E : Env} {M : Mem} {ty t yt : TypeId} {x : Operand}
theorem g_iface {op : BinOp} {t : TypeId} {x y : Operand} {u : TypeId} {a v : Value} : eqGuard op t x y (.iface u a) v = pure () := by cases op <;> rfl
theorem g_nilc {op : BinOp} {t : TypeId} {x : Operand} {c : Value} : eqGuard op t x (.const c) .nilIface .nilIface = pure () := by cases op <;> cases x <;> rfl
theorem q_neqIfc {u : TypeId} {a : AVal} (ht : P.underlying t = some (.interface (P.methodsAt t))) (hx : E.ev x = .ifc u a) : Quiet P (.binOp .neq t x (.const .nilIface) yt) ty E M [] (.lit (.bool true)) :=
  fun _ _ ac _ _ _ he => ⟨.bool true, by simp [Val], fun w _ => by
    have hv := he.ev x; rw [hx] at hv; simp only [Val] at hv
    obtain ⟨y, hy, _⟩ := hv
    simp only [exec1, execOp, hy, g_iface, eval_const, Sem.run_bind, Sem.run_pure, Result.andThen, run_neq_held_nil _ _ _ _ ht]⟩
theorem q_neqNilIfc (ht : P.underlying t = some (.interface (P.methodsAt t))) (hx : E.ev x = .lit .nilIface) : Quiet P (.binOp .neq t x (.const .nilIface) yt) ty E M [] (.lit (.bool false)) :=
  fun _ _ ac _ _ _ he => ⟨.bool false, by simp [Val], fun w _ => by
    have hv := he.ev x; rw [hx] at hv; simp only [Val] at hv
    simp only [exec1, execOp, hv, g_nilc, eval_const, Sem.run_bind, Sem.run_pure, Result.andThen, run_neq_nil_nil _ _ ht]⟩
/-- What is in an interface is of the type that is asked for. -/
theorem q_assertIs {u T : TypeId} {a : AVal} (h : Conc P T) (hx : E.ev x = .ifc T a) : Quiet P (.typeAssert x u T true) ty E M [] (.tup [a, .lit (.bool true)]) :=
  fun _ _ ac w e hh he => by
    have hv := he.ev x; rw [hx] at hv; simp only [Val] at hv
    obtain ⟨y, hy, hya⟩ := hv
    obtain ⟨d, h1, h2⟩ := h.h
    refine ⟨.tuple #[y, .bool true], ⟨[y, .bool true], by simp, by simp [Vals, Val, hya]⟩, fun w1 _ => ?_⟩
    cases d <;> first | exact h2.elim | simp [exec1, execOp, hy, Instr.typeAssert, run_underlying h1]
end
/-- Constants alone. -/
def constOp : Operand → Bool
  | .const _ => true
  | _ => false
theorem fillA_const {place : Nat → Option (Nat × Nat)} {E : Env} : ∀ (ps : List (Nat × Operand)) (l : List AVal), (ps.all fun p => constOp p.2) = true → fillA place E l ps = fillA place Env.none l ps
  | [], l, _ => rfl
  | (i, .const v) :: ps, l, h => by
    have h' : (ps.all fun p => constOp p.2) = true := by simpa [constOp] using h
    have e : E.ev (.const v) = Env.none.ev (.const v) := rfl
    simp only [fillA, e]
    cases place i with
    | none => rfl
    | some q =>
      cases (Env.none.ev (.const v)).cells with
      | none => rfl
      | some r =>
        simp only
        rw [fillA_const ps _ h']
  | (i, .tmp t) :: ps, l, h => by simp [constOp] at h
  | (i, .global t) :: ps, l, h => by simp [constOp] at h
  | (i, .func t) :: ps, l, h => by simp [constOp] at h
theorem q_buildC {P : Program} {ty : TypeId} {E : Env} {M : Mem} {t : TypeId} {place : Nat → Option (Nat × Nat)} {zs : List Value} {ps : Array (Nat × Operand)} {l : List AVal} (h : BuildIs P t place zs) (hc : (ps.toList.all fun p => constOp p.2) = true)
    (hf : fillA place Env.none (zs.map AVal.lit) ps.toList = some l) : Quiet P (.build t ps) ty E M [] (.agg l) := q_build h ((fillA_const _ _ hc).trans hf)
end Go.Q
namespace Go.Proofs.Ytpceecokdpdgfaa.W
open Go Go.Q Go.Proofs
set_option linter.unusedVariables false
set_option linter.unusedSimpArgs false
structure S_inflate_run where
  fmany : Int
  flength : Int
  deriving Inhabited, DecidableEq
def rdS_inflate_run : Rd S_inflate_run := Rd.via (Rd.pair (Rd.int .i64) (Rd.pair (Rd.int .i64) Rd.unit)) fun x => (x.fmany, (x.flength, ()))
theorem S_inflate_run.p0 {d : S_inflate_run} : PartIs rdS_inflate_run d 0 (Rd.int .i64) d.fmany := PartIs.via PartIs.here
theorem S_inflate_run.p1 {d : S_inflate_run} : PartIs rdS_inflate_run d 1 (Rd.int .i64) d.flength := PartIs.via (PartIs.there PartIs.here)
theorem S_inflate_run.sp {b : Bool} {d : S_inflate_run} : Splits rdS_inflate_run b d [.lit (.int .i64 d.fmany), .lit (.int .i64 d.flength)] := Splits.via (Splits.pair Splits.sc (Splits.pair Splits.sc Splits.unit))
def g_inflate_Lit (k : Nat) (x4 : Int) : Option (Int × Int × Bool) := (((bif (decide (x4 < 257)) then some true else some (decide (285 < x4))) : Option Bool).bind fun x35 => (bif x35 then some (0, 0, false) else (bif (decide (x4 = 285)) then some (258, 0, true) else (bif (decide (x4 < 265)) then some ((IntKind.wrap .i64 (x4 - 254)), 0, true) else ((some (IntKind.wrap .i64 (Int.tdiv (IntKind.wrap .i64 (x4 - 261)) 4))).bind fun x41 => ((some (Int.tmod (IntKind.wrap .i64 (x4 - 265)) 4)).bind fun x42 => (bif (decide (0 ≤ x41)) then ((some (shlI .i64 (IntKind.wrap .i64 (4 + x42)) x41)).bind fun x44 => some ((IntKind.wrap .i64 (3 + x44)), x41, true)) else none)))))))
def g_inflate_Dist (k : Nat) (x133 : Int) : Option (Int × Int × Bool) := (((bif (decide (x133 < 0)) then some true else some (decide (29 < x133))) : Option Bool).bind fun x161 => (bif x161 then some (0, 0, false) else (bif (decide (x133 < 4)) then some ((IntKind.wrap .i64 (x133 + 1)), 0, true) else ((some (IntKind.wrap .i64 ((IntKind.wrap .i64 (Int.tdiv x133 2)) - 1))).bind fun x166 => ((some (IntKind.wrap .i64 (2 + (Int.tmod x133 2)))).bind fun x167 => (bif (decide (0 ≤ x166)) then ((some (IntKind.wrap .i64 (1 + (shlI .i64 x167 x166)))).bind fun x169 => some (x169, x166, true)) else none))))))
def g_inflate_laid_l1 (k : Nat) (x364 : S_inflate_run) : Nat → Int → (List Int) → Option (List Int)
  | 0, _, _ => none
  | n + 1, x368, x369 => (bif (decide (x368 < x364.fmany)) then (bif (decide (((List.length x369) + (List.length ([x364.flength] : List Int))) * 8 ≤ 140737488355328)) then (g_inflate_laid_l1 k x364 n (IntKind.wrap .i64 (x368 + 1)) (x369 ++ ([x364.flength] : List Int))) else none) else some x369)
theorem g_inflate_laid_l1_eqs : True := by have := @g_inflate_laid_l1.eq_2; trivial
def g_inflate_laid_l0 (k : Nat) (x261 : (List S_inflate_run)) : Nat → Int → (List Int) → Option (List Int)
  | 0, _, _ => none
  | n + 1, x344, x345 => ((some (decide (x344 < ((List.length x261 : Nat) : Int)))).bind fun x361 => (bif x361 then ((ix x261 x344).bind fun x364 => ((g_inflate_laid_l1 k x364 k 0 x345).bind fun x373 => (g_inflate_laid_l0 k x261 n (IntKind.wrap .i64 (x344 + 1)) x373))) else some x345))
theorem g_inflate_laid_l0_eqs : True := by have := @g_inflate_laid_l0.eq_2; trivial
def g_inflate_laid (k : Nat) (x261 : (List S_inflate_run)) : Option (List Int) := ((g_inflate_laid_l0 k x261 k 0 ([] : List Int)).bind fun x360 => some x360)
def g_inflate_FixedLit (k : Nat) : Option (List Int) := ((g_inflate_laid k ([(⟨144, 8⟩ : S_inflate_run), (⟨112, 9⟩ : S_inflate_run), (⟨24, 7⟩ : S_inflate_run), (⟨8, 8⟩ : S_inflate_run)] : List S_inflate_run)).bind fun x383 => some x383)
def g_inflate_FixedDist (k : Nat) : Option (List Int) := ((g_inflate_laid k ([(⟨32, 5⟩ : S_inflate_run)] : List S_inflate_run)).bind fun x658 => some x658)
def g_slices_Clone_byte_byte (k : Nat) (x697 : List Int) : Option (List Int) := bif decide ((List.length ([] : List Int) + List.length x697) * 1 ≤ 140737488355328) then some x697 else none
def g_bits_NewReader (k : Nat) (x695 : (List Int)) : Option (List Int) := ((g_slices_Clone_byte_byte k x695).bind fun x703 => some x703)
def g_bits_Reader_Left (k : Nat) (x727 : (List Int)) (x728 : Int) : Option Int := ((some (IntKind.wrap .i64 (8 * ((List.length x727 : Nat) : Int)))).bind fun x734 => some (IntKind.wrap .i64 (x734 - x728)))
def g_bits_Reader_Take_l0 (k : Nat) (x718 : Int) : Nat → Int → Int → (List Int) → Int → Option (Int × (List Int) × Int)
  | 0, _, _, _, _ => none
  | n + 1, x815, x816, x817, x818 => (bif (decide (x816 < x718)) then ((ix x817 0).bind fun x842 => (bif (decide (0 ≤ x818)) then (bif (decide (0 ≤ x816)) then ((some (shlI .u64 (IntKind.wrap .u64 (shrI .u8 x842 x818)) x816)).bind fun x845 => ((some (if ((IntKind.wrap .i64 (x718 - x816)) : Int) < (IntKind.wrap .i64 (8 - x818)) then ((IntKind.wrap .i64 (x718 - x816)) : Int) else (IntKind.wrap .i64 (8 - x818)))).bind fun x846 => ((some (decide ((IntKind.wrap .i64 (x818 + x846)) = 8))).bind fun x847 => (bif x847 then (bif (decide (0 ≤ (1 : Int) ∧ (1 : Int) ≤ ((List.length x817 : Nat) : Int) ∧ ((List.length x817 : Nat) : Int) ≤ ((List.length x817 : Nat) : Int))) then (g_bits_Reader_Take_l0 k x718 n (bits .or .u64 x815 x845) (IntKind.wrap .i64 (x816 + x846)) (List.drop (Int.toNat 1) (List.take (Int.toNat ((List.length x817 : Nat) : Int)) x817)) 0) else none) else (g_bits_Reader_Take_l0 k x718 n (bits .or .u64 x815 x845) (IntKind.wrap .i64 (x816 + x846)) x817 (IntKind.wrap .i64 (x818 + x846))))))) else none) else none)) else some (x815, x817, x818))
theorem g_bits_Reader_Take_l0_eqs : True := by have := @g_bits_Reader_Take_l0.eq_2; trivial
def g_bits_Reader_Take (k : Nat) (x718 : Int) (x719 : (List Int)) (x720 : Int) : Option (Int × Int × (List Int) × Int) := (((bif (decide (x718 < 0)) then some true else some (decide (32 < x718))) : Option Bool).bind fun x796 => (bif x796 then some (0, 1, x719, x720) else ((g_bits_Reader_Left k x719 x720).bind fun x801 => (bif (decide (x801 < x718)) then some (0, 10, x719, x720) else ((g_bits_Reader_Take_l0 k x718 k 0 0 x719 x720).bind fun (x833, x834, x835) => (bif (decide (0 ≤ x718)) then ((some (IntKind.wrap .u64 ((shlI .u64 1 x718) - 1))).bind fun x852 => ((some (IntKind.wrap .u32 (bits .and .u64 x833 x852))).bind fun x853 => some (x853, 0, x834, x835))) else none))))))
def g_inflate_must (k : Nat) (x859 : Int) : Option (Unit ⊕ Unit) := (bif (!decide (x859 = 0)) then some (Sum.inl ()) else some (Sum.inr ()))
def g_inflate_stream_take (k : Nat) (x712 : Int) (x713 : Int) (x714 : (List Int)) (x715 : Int) (x716 : (List Int)) : Option (Int ⊕ (Int × (List Int) × Int)) := ((g_bits_Reader_Take k x712 x714 x715).bind fun (x870, x871, x872, x873) => ((g_inflate_must k x871).bind fun y875 => match y875 with | (Sum.inl _) => some (Sum.inl x871) | (Sum.inr _) => some (Sum.inr ((IntKind.wrap .i64 x870), x872, x873))))
def g_bits_Reader_Align (k : Nat) (x906 : (List Int)) (x907 : Int) : Option ((List Int) × Int) := (bif (decide (0 < x907)) then (bif (decide (0 ≤ (1 : Int) ∧ (1 : Int) ≤ ((List.length x906 : Nat) : Int) ∧ ((List.length x906 : Nat) : Int) ≤ ((List.length x906 : Nat) : Int))) then some ((List.drop (Int.toNat 1) (List.take (Int.toNat ((List.length x906 : Nat) : Int)) x906)), 0) else none) else some (x906, x907))
def g_slices_Clone_byte_byte__b (k : Nat) (x923 : List Int) : Option (List Int) := bif decide ((List.length ([] : List Int) + List.length x923) * 1 ≤ 140737488355328) then some x923 else none
def g_bits_Reader_Bytes (k : Nat) (x900 : Int) (x901 : (List Int)) (x902 : Int) : Option ((List Int) × Int × (List Int) × Int) := (bif (decide (x900 < 0)) then some (([] : List Int), 1, x901, x902) else ((g_bits_Reader_Align k x901 x902).bind fun (x935, x936) => ((some (decide (((List.length x935 : Nat) : Int) < x900))).bind fun x939 => (bif x939 then some (([] : List Int), 10, x935, x936) else (bif (decide (0 ≤ (0 : Int) ∧ (0 : Int) ≤ x900 ∧ x900 ≤ ((List.length x935 : Nat) : Int))) then ((g_slices_Clone_byte_byte__b k (List.drop (Int.toNat 0) (List.take (Int.toNat x900) x935))).bind fun x943 => (bif (decide (0 ≤ (x900 : Int) ∧ (x900 : Int) ≤ ((List.length x935 : Nat) : Int) ∧ ((List.length x935 : Nat) : Int) ≤ ((List.length x935 : Nat) : Int))) then some (x943, 0, (List.drop (Int.toNat x900) (List.take (Int.toNat ((List.length x935 : Nat) : Int)) x935)), x936) else none)) else none)))))
def g_inflate_stream_bytes (k : Nat) (x894 : Int) (x895 : Int) (x896 : (List Int)) (x897 : Int) (x898 : (List Int)) : Option (Int ⊕ ((List Int) × (List Int) × Int)) := ((g_bits_Reader_Bytes k x894 x896 x897).bind fun (x957, x958, x959, x960) => ((g_inflate_must k x958).bind fun y962 => match y962 with | (Sum.inl _) => some (Sum.inl x958) | (Sum.inr _) => some (Sum.inr (x957, x959, x960))))
def g_inflate_ask (k : Nat) (x979 : Bool) (x980 : Int) : Option (Unit ⊕ Unit) := (bif (!x979) then ((g_inflate_must k x980).bind fun y987 => match y987 with | (Sum.inl _) => some (Sum.inl ()) | (Sum.inr _) => some (Sum.inr ())) else some (Sum.inr ()))
def g_inflate_stream_room (k : Nat) (x996 : Int) (x997 : Int) (x998 : (List Int)) (x999 : Int) (x1000 : (List Int)) : Option (Unit ⊕ Unit) := ((some (IntKind.wrap .i64 (x997 - ((List.length x1000 : Nat) : Int)))).bind fun x1011 => ((g_inflate_ask k (decide (x996 ≤ x1011)) 3).bind fun y1013 => match y1013 with | (Sum.inl _) => some (Sum.inl ()) | (Sum.inr _) => some (Sum.inr ())))
def g_inflate_stream_stored (k : Nat) (x889 : Int) (x890 : (List Int)) (x891 : Int) (x892 : (List Int)) : Option (Int ⊕ ((List Int) × Int × (List Int))) := ((g_inflate_stream_bytes k 4 x889 x890 x891 x892).bind fun y1060 => match y1060 with | (Sum.inl x1056) => some (Sum.inl x1056) | (Sum.inr (x1057, x1058, x1059)) => ((ix x1057 0).bind fun x1064 => ((ix x1057 1).bind fun x1065 => ((some (bits .or .i64 (IntKind.wrap .i64 x1064) (shlI .i64 (IntKind.wrap .i64 x1065) 8))).bind fun x1066 => ((ix x1057 2).bind fun x1073 => ((ix x1057 3).bind fun x1074 => ((some (bits .or .i64 (IntKind.wrap .i64 x1073) (shlI .i64 (IntKind.wrap .i64 x1074) 8))).bind fun x1075 => ((some (decide ((bits .xor .i64 x1066 65535) = x1075))).bind fun x1076 => ((g_inflate_ask k x1076 12).bind fun y1078 => match y1078 with | (Sum.inl _) => some (Sum.inl 12) | (Sum.inr _) => ((g_inflate_stream_room k x1066 x889 x1058 x1059 x892).bind fun y1080 => match y1080 with | (Sum.inl _) => some (Sum.inl 3) | (Sum.inr _) => ((g_inflate_stream_bytes k x1066 x889 x1058 x1059 x892).bind fun y1107 => match y1107 with | (Sum.inl x1103) => some (Sum.inl x1103) | (Sum.inr (x1104, x1105, x1106)) => (bif (decide (((List.length x892) + (List.length x1104)) * 1 ≤ 140737488355328)) then some (Sum.inr (x1105, x1106, (x892 ++ x1104))) else none))))))))))))
def g_huff_judged_l0 (k : Nat) (x1129 : (List Int)) : Nat → Int → Int → Int → Option (Unit ⊕ (Int × Int))
  | 0, _, _, _ => none
  | n + 1, x1269, x1270, x1271 => ((some (decide (x1271 < ((List.length x1129 : Nat) : Int)))).bind fun x1309 => (bif x1309 then ((((ix x1129 x1271).bind fun x1328 => (((bif (decide (x1328 < 0)) then some true else some (decide (15 < x1328))) : Option Bool).bind fun x1335 => (bif x1335 then some (Sum.inl ()) else (bif (decide (0 < x1328)) then (bif (decide (0 ≤ (IntKind.wrap .i64 (15 - x1328)))) then ((some (shlI .i64 1 (IntKind.wrap .i64 (15 - x1328)))).bind fun x1341 => some (Sum.inr ((IntKind.wrap .i64 (x1269 - x1341)), (IntKind.wrap .i64 (x1270 + 1))))) else none) else some (Sum.inr (x1269, x1270)))))) : Option (Unit ⊕ (Int × Int))).bind fun y1343 => match y1343 with | (Sum.inl _) => some (Sum.inl ()) | (Sum.inr (x1326, x1327)) => (g_huff_judged_l0 k x1129 n x1326 x1327 (IntKind.wrap .i64 (x1271 + 1)))) else some (Sum.inr (x1269, x1270))))
theorem g_huff_judged_l0_eqs : True := by have := @g_huff_judged_l0.eq_2; trivial
def g_huff_judged (k : Nat) (x1129 : (List Int)) : Option (Bool × Int) := ((some (decide (320 < ((List.length x1129 : Nat) : Int)))).bind fun x1232 => (bif x1232 then some (false, 1) else (((g_huff_judged_l0 k x1129 k 32768 0 0) : Option (Unit ⊕ (Int × Int))).bind fun y1345 => match y1345 with | (Sum.inl _) => some (false, 1) | (Sum.inr (x1307, x1308)) => (bif (decide (x1307 = 0)) then some (true, 0) else (((bif (decide (x1308 = 0)) then some (decide (x1308 = 0)) else (bif (decide (x1308 = 1)) then some (decide (x1307 = 16384)) else some false)) : Option Bool).bind fun x1357 => (bif x1357 then some (false, 0) else some (false, 11)))))))
def g_huff_of (k : Nat) (x1370 : (List Int)) (x1371 : Int) : Option Unit := some ()
def g_huff_New_l1 (k : Nat) (x1127 : (List Int)) (x2069 : Int) : Nat → Int → (List Int) → (List Int) → Option (((List Int) × (List Int)) ⊕ ((List Int) × (List Int)))
  | 0, _, _, _ => none
  | n + 1, x2314, x2315, x2316 => ((some (decide (x2314 < ((List.length x1127 : Nat) : Int)))).bind fun x2396 => (bif x2396 then ((ix x1127 x2314).bind fun x2435 => (((bif (decide (x2435 = x2069)) then (bif (decide (0 ≤ (x2069 : Int) ∧ (x2069 : Int) < 16)) then ((some (IntKind.wrap .i64 ((List.getD x2315 (Int.toNat x2069) (0 : Int)) + 1))).bind fun x2464 => (bif (decide (0 ≤ (x2069 : Int) ∧ (x2069 : Int) < 16)) then (bif (decide (((List.length x2316) + (List.length ([x2314] : List Int))) * 8 ≤ 140737488355328)) then some ((!true), (setD (0 : Int) x2315 16 (Int.toNat x2069) x2464), (x2316 ++ ([x2314] : List Int))) else none) else none)) else none) else some (false, x2315, x2316)) : Option (Bool × (List Int) × (List Int))).bind fun (x2451, x2452, x2453) => (bif x2451 then some (Sum.inl (x2452, x2453)) else (g_huff_New_l1 k x1127 x2069 n (IntKind.wrap .i64 (x2314 + 1)) x2452 x2453)))) else some (Sum.inr (x2315, x2316))))
theorem g_huff_New_l1_eqs : True := by have := @g_huff_New_l1.eq_2; trivial
def g_huff_New_l0 (k : Nat) (x1127 : (List Int)) : Nat → (List Int) → (List Int) → Int → Option ((List Int) × (List Int))
  | 0, _, _, _ => none
  | n + 1, x2067, x2068, x2069 => (bif (decide (x2069 ≤ 15)) then ((g_huff_of k x1127 x2069).bind fun _ => (((g_huff_New_l1 k x1127 x2069 k 0 x2067 x2068) : Option (((List Int) × (List Int)) ⊕ ((List Int) × (List Int)))).bind fun y2472 => match y2472 with | (Sum.inl (x2392, x2393)) => (g_huff_New_l0 k x1127 n x2392 x2393 (IntKind.wrap .i64 (x2069 + 1))) | (Sum.inr (x2394, x2395)) => (g_huff_New_l0 k x1127 n x2394 x2395 (IntKind.wrap .i64 (x2069 + 1))))) else some (x2067, x2068))
theorem g_huff_New_l0_eqs : True := by have := @g_huff_New_l0.eq_2; trivial
def g_huff_New (k : Nat) (x1127 : (List Int)) : Option (Int ⊕ ((List Int) × (List Int))) := ((g_huff_judged k x1127).bind fun (x1807, x1808) => (bif (!decide (x1808 = 0)) then some (Sum.inl x1808) else ((g_huff_New_l0 k x1127 k (List.replicate 16 (0 : Int)) ([] : List Int) 1).bind fun (x2233, x2234) => some (Sum.inr (x2233, x2234)))))
def g_inflate_code (k : Nat) (x1125 : (List Int)) : Option (Int ⊕ ((List Int) × (List Int))) := ((g_huff_New k x1125).bind fun y2490 => match y2490 with | (Sum.inl x2487) => ((g_inflate_must k x2487).bind fun y2492 => match y2492 with | (Sum.inl _) => some (Sum.inl x2487) | (Sum.inr _) => none) | (Sum.inr (x2488, x2489)) => ((g_inflate_must k 0).bind fun y2494 => match y2494 with | (Sum.inl _) => some (Sum.inl 0) | (Sum.inr _) => some (Sum.inr (x2488, x2489))))
def g_huff_Decoder_begins_l0 (k : Nat) (x2551 : Int) (x2552 : (List Int)) : Nat → Int → Int → Option Int
  | 0, _, _ => none
  | n + 1, x2573, x2574 => (bif (decide (x2551 ≤ x2574)) then (bif (decide (0 ≤ (x2574 : Int) ∧ (x2574 : Int) < 16)) then ((some (IntKind.wrap .i64 (x2573 + (List.getD x2552 (Int.toNat x2574) (0 : Int))))).bind fun x2584 => ((some (IntKind.wrap .i64 (Int.tdiv (IntKind.wrap .i64 (x2584 + 1)) 2))).bind fun x2585 => (g_huff_Decoder_begins_l0 k x2551 x2552 n x2585 (IntKind.wrap .i64 (x2574 - 1))))) else none) else some x2573)
theorem g_huff_Decoder_begins_l0_eqs : True := by have := @g_huff_Decoder_begins_l0.eq_2; trivial
def g_huff_Decoder_begins (k : Nat) (x2550 : Int) (x2551 : Int) (x2552 : (List Int)) (x2553 : (List Int)) : Option Bool := ((g_huff_Decoder_begins_l0 k x2551 x2552 k 0 15).bind fun x2580 => some (decide (x2550 < x2580)))
def g_huff_Decoder_Next_l0 (k : Nat) (x2523 : (List Int)) (x2526 : (List Int)) : Nat → Int → Int → Int → Int → (List Int) → Int → Option ((Int × (List Int) × Int) ⊕ (Int × (List Int) × Int))
  | 0, _, _, _, _, _, _ => none
  | n + 1, x2743, x2744, x2745, x2746, x2747, x2748 => (bif (decide (x2746 ≤ 15)) then ((some (decide (x2745 = ((List.length x2526 : Nat) : Int)))).bind fun x2848 => (bif x2848 then some (Sum.inl (11, x2747, x2748)) else ((g_bits_Reader_Take k 1 x2747 x2748).bind fun (x2851, x2852, x2853, x2854) => (bif (!decide (x2852 = 0)) then some (Sum.inl (x2852, x2853, x2854)) else ((some (bits .or .i64 (shlI .i64 x2743 1) (IntKind.wrap .i64 x2851))).bind fun x2857 => ((some (IntKind.wrap .i64 (x2857 - (shlI .i64 x2744 1)))).bind fun x2863 => (bif (decide (0 ≤ (x2746 : Int) ∧ (x2746 : Int) < 16)) then ((some (decide (x2863 < (List.getD x2523 (Int.toNat x2746) (0 : Int))))).bind fun x2865 => (bif x2865 then ((ix x2526 (IntKind.wrap .i64 (x2745 + x2863))).bind fun x2867 => some (Sum.inr (x2867, x2853, x2854))) else (bif (decide (0 ≤ (x2746 : Int) ∧ (x2746 : Int) < 16)) then ((some (IntKind.wrap .i64 ((shlI .i64 x2744 1) + (List.getD x2523 (Int.toNat x2746) (0 : Int))))).bind fun x2869 => (bif (decide (0 ≤ (x2746 : Int) ∧ (x2746 : Int) < 16)) then ((some (IntKind.wrap .i64 (x2745 + (List.getD x2523 (Int.toNat x2746) (0 : Int))))).bind fun x2871 => ((g_huff_Decoder_begins k (IntKind.wrap .i64 (x2857 - x2869)) (IntKind.wrap .i64 (x2746 + 1)) x2523 x2526).bind fun x2873 => (bif (!x2873) then some (Sum.inl (11, x2853, x2854)) else (g_huff_Decoder_Next_l0 k x2523 x2526 n x2857 x2869 x2871 (IntKind.wrap .i64 (x2746 + 1)) x2853 x2854)))) else none)) else none))) else none))))))) else some (Sum.inl (11, x2747, x2748)))
theorem g_huff_Decoder_Next_l0_eqs : True := by have := @g_huff_Decoder_Next_l0.eq_2; trivial
def g_huff_Decoder_Next (k : Nat) (x2523 : (List Int)) (x2524 : (List Int)) (x2525 : Int) (x2526 : (List Int)) : Option (Int × Int × (List Int) × Int) := (((g_huff_Decoder_Next_l0 k x2523 x2526 k 0 0 0 1 x2524 x2525) : Option ((Int × (List Int) × Int) ⊕ (Int × (List Int) × Int))).bind fun y2876 => match y2876 with | (Sum.inl (x2809, x2810, x2811)) => some (0, x2809, x2524, x2525) | (Sum.inr (x2812, x2813, x2814)) => some (x2812, 0, x2813, x2814))
def g_inflate_stream_sym (k : Nat) (x2516 : Int) (x2517 : (List Int)) (x2518 : Int) (x2519 : (List Int)) (x2520 : (List Int)) (x2521 : (List Int)) : Option (Int ⊕ (Int × (List Int) × Int)) := ((g_huff_Decoder_Next k x2519 x2517 x2518 x2521).bind fun (x2889, x2890, x2891, x2892) => ((g_inflate_must k x2890).bind fun y2894 => match y2894 with | (Sum.inl _) => some (Sum.inl x2890) | (Sum.inr _) => some (Sum.inr (x2889, x2891, x2892))))
def g_inflate_stream_copied_l0 (k : Nat) (x2986 : Int) (x2993 : Int) (x3004 : Int) (x3011 : Int) : Nat → Int → (List Int) → Option (List Int)
  | 0, _, _ => none
  | n + 1, x3034, x3035 => ((some (decide (x3034 < (IntKind.wrap .i64 (x2986 + x2993))))).bind fun x3051 => (bif x3051 then ((some (IntKind.wrap .i64 (((List.length x3035 : Nat) : Int) - (IntKind.wrap .i64 (x3004 + x3011))))).bind fun x3062 => ((ix x3035 x3062).bind fun x3063 => (bif (decide (((List.length x3035) + (List.length ([x3063] : List Int))) * 1 ≤ 140737488355328)) then (g_inflate_stream_copied_l0 k x2986 x2993 x3004 x3011 n (IntKind.wrap .i64 (x3034 + 1)) (x3035 ++ ([x3063] : List Int))) else none))) else some x3035))
theorem g_inflate_stream_copied_l0_eqs : True := by have := @g_inflate_stream_copied_l0.eq_2; trivial
def g_inflate_stream_copied (k : Nat) (x2906 : Int) (x2907 : Int) (x2908 : (List Int)) (x2909 : Int) (x2910 : (List Int)) (x2911 : (List Int)) (x2912 : (List Int)) : Option (Int ⊕ ((List Int) × Int × (List Int))) := ((g_inflate_Lit k x2906).bind fun (x2986, x2987, x2988) => ((g_inflate_ask k x2988 12).bind fun y2990 => match y2990 with | (Sum.inl _) => some (Sum.inl 12) | (Sum.inr _) => ((g_inflate_stream_take k x2987 x2907 x2908 x2909 x2911).bind fun y2996 => match y2996 with | (Sum.inl x2992) => some (Sum.inl x2992) | (Sum.inr (x2993, x2994, x2995)) => ((g_inflate_stream_sym k x2907 x2994 x2995 x2910 x2911 x2912).bind fun y3002 => match y3002 with | (Sum.inl x2998) => some (Sum.inl x2998) | (Sum.inr (x2999, x3000, x3001)) => ((g_inflate_Dist k x2999).bind fun (x3004, x3005, x3006) => ((g_inflate_ask k x3006 12).bind fun y3008 => match y3008 with | (Sum.inl _) => some (Sum.inl 12) | (Sum.inr _) => ((g_inflate_stream_take k x3005 x2907 x3000 x3001 x2911).bind fun y3014 => match y3014 with | (Sum.inl x3010) => some (Sum.inl x3010) | (Sum.inr (x3011, x3012, x3013)) => ((some (decide ((IntKind.wrap .i64 (x3004 + x3011)) ≤ ((List.length x2911 : Nat) : Int)))).bind fun x3015 => ((g_inflate_ask k x3015 12).bind fun y3017 => match y3017 with | (Sum.inl _) => some (Sum.inl 12) | (Sum.inr _) => ((g_inflate_stream_room k (IntKind.wrap .i64 (x2986 + x2993)) x2907 x3012 x3013 x2911).bind fun y3019 => match y3019 with | (Sum.inl _) => some (Sum.inl 3) | (Sum.inr _) => ((g_inflate_stream_copied_l0 k x2986 x2993 x3004 x3011 k 0 x2911).bind fun x3050 => some (Sum.inr (x3012, x3013, x3050)))))))))))))
def g_inflate_stream_coded_l0 (k : Nat) (x2507 : Int) (x2510 : (List Int)) (x2511 : (List Int)) (x2513 : (List Int)) (x2514 : (List Int)) : Nat → (List Int) → Int → (List Int) → Option (Int ⊕ (Unit ⊕ (Int ⊕ ((List Int) × Int × (List Int)))))
  | 0, _, _, _ => none
  | n + 1, x3120, x3121, x3122 => ((g_inflate_stream_sym k x2507 x3120 x3121 x2510 x3122 x2513).bind fun y3150 => match y3150 with | (Sum.inl x3146) => some (Sum.inl x3146) | (Sum.inr (x3147, x3148, x3149)) => (bif (decide (x3147 < 256)) then ((g_inflate_stream_room k 1 x2507 x3148 x3149 x3122).bind fun y3153 => match y3153 with | (Sum.inl _) => some (Sum.inr (Sum.inl ())) | (Sum.inr _) => (bif (decide (((List.length x3122) + (List.length ([(IntKind.wrap .u8 x3147)] : List Int))) * 1 ≤ 140737488355328)) then (g_inflate_stream_coded_l0 k x2507 x2510 x2511 x2513 x2514 n x3148 x3149 (x3122 ++ ([(IntKind.wrap .u8 x3147)] : List Int))) else none)) else (bif (decide (x3147 = 256)) then some (Sum.inr (Sum.inr (Sum.inr (x3148, x3149, x3122)))) else ((g_inflate_stream_copied k x3147 x2507 x3148 x3149 x2511 x3122 x2514).bind fun y3161 => match y3161 with | (Sum.inl x3157) => some (Sum.inr (Sum.inr (Sum.inl x3157))) | (Sum.inr (x3158, x3159, x3160)) => (g_inflate_stream_coded_l0 k x2507 x2510 x2511 x2513 x2514 n x3158 x3159 x3160)))))
theorem g_inflate_stream_coded_l0_eqs : True := by have := @g_inflate_stream_coded_l0.eq_2; trivial
def g_inflate_stream_coded (k : Nat) (x2507 : Int) (x2508 : (List Int)) (x2509 : Int) (x2510 : (List Int)) (x2511 : (List Int)) (x2512 : (List Int)) (x2513 : (List Int)) (x2514 : (List Int)) : Option (Int ⊕ ((List Int) × Int × (List Int))) := (((g_inflate_stream_coded_l0 k x2507 x2510 x2511 x2513 x2514 k x2508 x2509 x2512) : Option (Int ⊕ (Unit ⊕ (Int ⊕ ((List Int) × Int × (List Int)))))).bind fun y3163 => match y3163 with | (Sum.inl x3140) => some (Sum.inl x3140) | (Sum.inr (Sum.inl _)) => some (Sum.inl 3) | (Sum.inr (Sum.inr (Sum.inl x3141))) => some (Sum.inl x3141) | (Sum.inr (Sum.inr (Sum.inr (x3142, x3143, x3144)))) => some (Sum.inr (x3142, x3143, x3144)))
def g_huff_Full (k : Nat) (x3243 : (List Int)) : Option Bool := ((g_huff_judged k x3243).bind fun (x3250, x3251) => some x3250)
def g_inflate_stream_runs (k : Nat) (x3262 : Int) (x3263 : (List Int)) (x3264 : Int) (x3265 : (List Int)) (x3266 : (List Int)) (x3267 : (List Int)) : Option Unit := some ()
def g_inflate_stream_dynamic_1__b (k : Nat) (x3377 : (List Int)) : Option (Int × Bool) := ((some (decide (((List.length x3377 : Nat) : Int) = 0))).bind fun x3389 => (bif x3389 then some (0, false) else ((some (IntKind.wrap .i64 (((List.length x3377 : Nat) : Int) - 1))).bind fun x3391 => ((ix x3377 x3391).bind fun x3392 => some (x3392, true)))))
def g_inflate_stream_dynamic_l0 (k : Nat) (x3171 : Int) (x3174 : (List Int)) (x3649 : Int) (x3670 : Int) : Nat → Int → (List Int) → Int → (List Int) → Option (Int ⊕ ((List Int) × Int × (List Int)))
  | 0, _, _, _, _ => none
  | n + 1, x3681, x3682, x3683, x3684 => (bif (decide (x3681 < x3670)) then ((ix (List.drop (Int.toNat 0) (List.take (Int.toNat (IntKind.wrap .i64 (4 + x3649))) (fixD (0 : Int) ([16, 17, 18, 0, 8, 7, 9, 6, 10, 5, 11, 4, 12, 3, 13, 2, 14, 1, 15] : List Int) 19))) x3681).bind fun x3701 => ((g_inflate_stream_take k 3 x3171 x3682 x3683 x3174).bind fun y3707 => match y3707 with | (Sum.inl x3703) => some (Sum.inl x3703) | (Sum.inr (x3704, x3705, x3706)) => (bif (decide (0 ≤ (x3701 : Int) ∧ (x3701 : Int) < 19)) then (g_inflate_stream_dynamic_l0 k x3171 x3174 x3649 x3670 n (IntKind.wrap .i64 (x3681 + 1)) x3705 x3706 (setD (0 : Int) x3684 19 (Int.toNat x3701) x3704)) else none))) else some (Sum.inr (x3682, x3683, x3684)))
theorem g_inflate_stream_dynamic_l0_eqs : True := by have := @g_inflate_stream_dynamic_l0.eq_2; trivial
def g_inflate_stream_dynamic_l1 (k : Nat) (x3171 : Int) (x3174 : (List Int)) (x3637 : Int) (x3643 : Int) (x3719 : (List Int)) (x3720 : (List Int)) : Nat → (List Int) → Int → (List Int) → Option ((Int × (List Int)) ⊕ (((List Int) × Int × (List Int)) ⊕ ((Int × (List Int)) ⊕ (((List Int) × Int × (List Int)) ⊕ ((List Int) × Int × (List Int))))))
  | 0, _, _, _ => none
  | n + 1, x3925, x3926, x3927 => ((g_inflate_stream_sym k x3171 x3925 x3926 x3719 x3174 x3720).bind fun y4049 => match y4049 with | (Sum.inl x4045) => some (Sum.inl (x4045, x3927)) | (Sum.inr (x4046, x4047, x4048)) => (bif (decide (x4046 = 16)) then ((g_inflate_stream_dynamic_1__b k x3927).bind fun (x4052, x4053) => ((g_inflate_ask k x4053 12).bind fun y4055 => match y4055 with | (Sum.inl _) => some (Sum.inr (Sum.inl (x4047, x4048, x3927))) | (Sum.inr _) => ((g_inflate_stream_take k 2 x3171 x4047 x4048 x3174).bind fun y4061 => match y4061 with | (Sum.inl x4057) => some (Sum.inr (Sum.inr (Sum.inl (x4057, x3927)))) | (Sum.inr (x4058, x4059, x4060)) => ((some (IntKind.wrap .i64 ((IntKind.wrap .i64 (257 + x3637)) + (IntKind.wrap .i64 (1 + x3643))))).bind fun x4063 => ((some (IntKind.wrap .i64 (x4063 - ((List.length x3927 : Nat) : Int)))).bind fun x4064 => ((some (decide ((IntKind.wrap .i64 (3 + x4058)) ≤ x4064))).bind fun x4065 => ((g_inflate_ask k x4065 12).bind fun y4067 => match y4067 with | (Sum.inl _) => some (Sum.inr (Sum.inr (Sum.inr (Sum.inl (x4059, x4060, x3927))))) | (Sum.inr _) => ((g_inflate_laid k ([(⟨(IntKind.wrap .i64 (3 + x4058)), x4052⟩ : S_inflate_run)] : List S_inflate_run)).bind fun x4075 => (bif (decide (((List.length x3927) + (List.length x4075)) * 8 ≤ 140737488355328)) then ((some (IntKind.wrap .i64 ((IntKind.wrap .i64 (257 + x3637)) + (IntKind.wrap .i64 (1 + x3643))))).bind fun x4077 => ((some (decide (((List.length (x3927 ++ x4075) : Nat) : Int) = x4077))).bind fun x4078 => (bif x4078 then some (Sum.inr (Sum.inr (Sum.inr (Sum.inr (x4059, x4060, (x3927 ++ x4075)))))) else (g_inflate_stream_dynamic_l1 k x3171 x3174 x3637 x3643 x3719 x3720 n x4059 x4060 (x3927 ++ x4075))))) else none))))))))) else (bif (decide (x4046 = 17)) then ((g_inflate_stream_take k 3 x3171 x4047 x4048 x3174).bind fun y4086 => match y4086 with | (Sum.inl x4082) => some (Sum.inr (Sum.inr (Sum.inl (x4082, x3927)))) | (Sum.inr (x4083, x4084, x4085)) => ((some (IntKind.wrap .i64 ((IntKind.wrap .i64 (257 + x3637)) + (IntKind.wrap .i64 (1 + x3643))))).bind fun x4088 => ((some (IntKind.wrap .i64 (x4088 - ((List.length x3927 : Nat) : Int)))).bind fun x4089 => ((some (decide ((IntKind.wrap .i64 (3 + x4083)) ≤ x4089))).bind fun x4090 => ((g_inflate_ask k x4090 12).bind fun y4092 => match y4092 with | (Sum.inl _) => some (Sum.inr (Sum.inr (Sum.inr (Sum.inl (x4084, x4085, x3927))))) | (Sum.inr _) => ((g_inflate_laid k ([(⟨(IntKind.wrap .i64 (3 + x4083)), 0⟩ : S_inflate_run)] : List S_inflate_run)).bind fun x4100 => (bif (decide (((List.length x3927) + (List.length x4100)) * 8 ≤ 140737488355328)) then ((some (IntKind.wrap .i64 ((IntKind.wrap .i64 (257 + x3637)) + (IntKind.wrap .i64 (1 + x3643))))).bind fun x4102 => ((some (decide (((List.length (x3927 ++ x4100) : Nat) : Int) = x4102))).bind fun x4103 => (bif x4103 then some (Sum.inr (Sum.inr (Sum.inr (Sum.inr (x4084, x4085, (x3927 ++ x4100)))))) else (g_inflate_stream_dynamic_l1 k x3171 x3174 x3637 x3643 x3719 x3720 n x4084 x4085 (x3927 ++ x4100))))) else none))))))) else (bif (decide (x4046 = 18)) then ((g_inflate_stream_take k 7 x3171 x4047 x4048 x3174).bind fun y4111 => match y4111 with | (Sum.inl x4107) => some (Sum.inr (Sum.inr (Sum.inl (x4107, x3927)))) | (Sum.inr (x4108, x4109, x4110)) => ((some (IntKind.wrap .i64 ((IntKind.wrap .i64 (257 + x3637)) + (IntKind.wrap .i64 (1 + x3643))))).bind fun x4113 => ((some (IntKind.wrap .i64 (x4113 - ((List.length x3927 : Nat) : Int)))).bind fun x4114 => ((some (decide ((IntKind.wrap .i64 (11 + x4108)) ≤ x4114))).bind fun x4115 => ((g_inflate_ask k x4115 12).bind fun y4117 => match y4117 with | (Sum.inl _) => some (Sum.inr (Sum.inr (Sum.inr (Sum.inl (x4109, x4110, x3927))))) | (Sum.inr _) => ((g_inflate_laid k ([(⟨(IntKind.wrap .i64 (11 + x4108)), 0⟩ : S_inflate_run)] : List S_inflate_run)).bind fun x4125 => (bif (decide (((List.length x3927) + (List.length x4125)) * 8 ≤ 140737488355328)) then ((some (IntKind.wrap .i64 ((IntKind.wrap .i64 (257 + x3637)) + (IntKind.wrap .i64 (1 + x3643))))).bind fun x4127 => ((some (decide (((List.length (x3927 ++ x4125) : Nat) : Int) = x4127))).bind fun x4128 => (bif x4128 then some (Sum.inr (Sum.inr (Sum.inr (Sum.inr (x4109, x4110, (x3927 ++ x4125)))))) else (g_inflate_stream_dynamic_l1 k x3171 x3174 x3637 x3643 x3719 x3720 n x4109 x4110 (x3927 ++ x4125))))) else none))))))) else ((some (IntKind.wrap .i64 ((IntKind.wrap .i64 (257 + x3637)) + (IntKind.wrap .i64 (1 + x3643))))).bind fun x4131 => ((some (IntKind.wrap .i64 (x4131 - ((List.length x3927 : Nat) : Int)))).bind fun x4132 => ((g_inflate_ask k (decide (1 ≤ x4132)) 12).bind fun y4134 => match y4134 with | (Sum.inl _) => some (Sum.inr (Sum.inr (Sum.inr (Sum.inl (x4047, x4048, x3927))))) | (Sum.inr _) => ((g_inflate_laid k ([(⟨1, x4046⟩ : S_inflate_run)] : List S_inflate_run)).bind fun x4142 => (bif (decide (((List.length x3927) + (List.length x4142)) * 8 ≤ 140737488355328)) then ((some (IntKind.wrap .i64 ((IntKind.wrap .i64 (257 + x3637)) + (IntKind.wrap .i64 (1 + x3643))))).bind fun x4144 => ((some (decide (((List.length (x3927 ++ x4142) : Nat) : Int) = x4144))).bind fun x4145 => (bif x4145 then some (Sum.inr (Sum.inr (Sum.inr (Sum.inr (x4047, x4048, (x3927 ++ x4142)))))) else (g_inflate_stream_dynamic_l1 k x3171 x3174 x3637 x3643 x3719 x3720 n x4047 x4048 (x3927 ++ x4142))))) else none)))))))))
theorem g_inflate_stream_dynamic_l1_eqs : True := by have := @g_inflate_stream_dynamic_l1.eq_2; trivial
def g_inflate_stream_dynamic (k : Nat) (x3171 : Int) (x3172 : (List Int)) (x3173 : Int) (x3174 : (List Int)) : Option (Int ⊕ ((List Int) × Int × (List Int))) := ((g_inflate_stream_take k 5 x3171 x3172 x3173 x3174).bind fun y3640 => match y3640 with | (Sum.inl x3636) => some (Sum.inl x3636) | (Sum.inr (x3637, x3638, x3639)) => ((g_inflate_stream_take k 5 x3171 x3638 x3639 x3174).bind fun y3646 => match y3646 with | (Sum.inl x3642) => some (Sum.inl x3642) | (Sum.inr (x3643, x3644, x3645)) => ((g_inflate_stream_take k 4 x3171 x3644 x3645 x3174).bind fun y3652 => match y3652 with | (Sum.inl x3648) => some (Sum.inl x3648) | (Sum.inr (x3649, x3650, x3651)) => ((((some (decide ((IntKind.wrap .i64 (257 + x3637)) ≤ 286))).bind fun x3660 => (bif x3660 then ((some (decide ((IntKind.wrap .i64 (1 + x3643)) ≤ 30))).bind fun x3662 => ((g_inflate_ask k x3662 12).bind fun y3664 => match y3664 with | (Sum.inl _) => some (Sum.inl ()) | (Sum.inr _) => some (Sum.inr ()))) else ((g_inflate_ask k false 12).bind fun y3666 => match y3666 with | (Sum.inl _) => some (Sum.inl ()) | (Sum.inr _) => some (Sum.inr ())))) : Option (Unit ⊕ Unit)).bind fun y3668 => match y3668 with | (Sum.inl _) => some (Sum.inl 12) | (Sum.inr _) => (bif (decide (0 ≤ (0 : Int) ∧ (0 : Int) ≤ (IntKind.wrap .i64 (4 + x3649)) ∧ (IntKind.wrap .i64 (4 + x3649)) ≤ (19 : Int))) then ((some ((List.length (List.drop (Int.toNat 0) (List.take (Int.toNat (IntKind.wrap .i64 (4 + x3649))) (fixD (0 : Int) ([16, 17, 18, 0, 8, 7, 9, 6, 10, 5, 11, 4, 12, 3, 13, 2, 14, 1, 15] : List Int) 19))) : Nat) : Int)).bind fun x3670 => (((g_inflate_stream_dynamic_l0 k x3171 x3174 x3649 x3670 k 0 x3650 x3651 (List.replicate 19 (0 : Int))) : Option (Int ⊕ ((List Int) × Int × (List Int)))).bind fun y3710 => match y3710 with | (Sum.inl x3695) => some (Sum.inl x3695) | (Sum.inr (x3696, x3697, x3698)) => (bif (decide (0 ≤ (0 : Int) ∧ (0 : Int) ≤ (19 : Int) ∧ (19 : Int) ≤ (19 : Int))) then ((g_huff_Full k (List.drop (Int.toNat 0) (List.take (Int.toNat (19 : Int)) (fixD (0 : Int) x3698 19)))).bind fun x3713 => ((g_inflate_ask k x3713 11).bind fun y3715 => match y3715 with | (Sum.inl _) => some (Sum.inl 11) | (Sum.inr _) => (bif (decide (0 ≤ (0 : Int) ∧ (0 : Int) ≤ (19 : Int) ∧ (19 : Int) ≤ (19 : Int))) then ((g_inflate_code k (List.drop (Int.toNat 0) (List.take (Int.toNat (19 : Int)) (fixD (0 : Int) x3698 19)))).bind fun y3721 => match y3721 with | (Sum.inl x3718) => some (Sum.inl x3718) | (Sum.inr (x3719, x3720)) => ((g_inflate_stream_runs k x3171 x3696 x3697 x3719 x3174 x3720).bind fun _ => (((g_inflate_stream_dynamic_l1 k x3171 x3174 x3637 x3643 x3719 x3720 k x3696 x3697 ([] : List Int)) : Option ((Int × (List Int)) ⊕ (((List Int) × Int × (List Int)) ⊕ ((Int × (List Int)) ⊕ (((List Int) × Int × (List Int)) ⊕ ((List Int) × Int × (List Int))))))).bind fun y4148 => match y4148 with | (Sum.inl (x4031, x4032)) => some (Sum.inl x4031) | (Sum.inr (Sum.inl (x4033, x4034, x4035))) => some (Sum.inl 12) | (Sum.inr (Sum.inr (Sum.inl (x4036, x4037)))) => some (Sum.inl x4036) | (Sum.inr (Sum.inr (Sum.inr (Sum.inl (x4038, x4039, x4040))))) => some (Sum.inl 12) | (Sum.inr (Sum.inr (Sum.inr (Sum.inr (x4041, x4042, x4043))))) => ((ix x4043 256).bind fun x4149 => ((g_inflate_ask k (decide (0 < x4149)) 12).bind fun y4151 => match y4151 with | (Sum.inl _) => some (Sum.inl 12) | (Sum.inr _) => (bif (decide (0 ≤ (0 : Int) ∧ (0 : Int) ≤ (IntKind.wrap .i64 (257 + x3637)) ∧ (IntKind.wrap .i64 (257 + x3637)) ≤ ((List.length x4043 : Nat) : Int))) then ((g_inflate_code k (List.drop (Int.toNat 0) (List.take (Int.toNat (IntKind.wrap .i64 (257 + x3637))) x4043))).bind fun y4157 => match y4157 with | (Sum.inl x4154) => some (Sum.inl x4154) | (Sum.inr (x4155, x4156)) => (bif (decide (0 ≤ ((IntKind.wrap .i64 (257 + x3637)) : Int) ∧ ((IntKind.wrap .i64 (257 + x3637)) : Int) ≤ ((List.length x4043 : Nat) : Int) ∧ ((List.length x4043 : Nat) : Int) ≤ ((List.length x4043 : Nat) : Int))) then ((g_inflate_code k (List.drop (Int.toNat (IntKind.wrap .i64 (257 + x3637))) (List.take (Int.toNat ((List.length x4043 : Nat) : Int)) x4043))).bind fun y4163 => match y4163 with | (Sum.inl x4160) => some (Sum.inl x4160) | (Sum.inr (x4161, x4162)) => ((g_inflate_stream_coded k x3171 x4041 x4042 x4155 x4161 x3174 x4156 x4162).bind fun y4169 => match y4169 with | (Sum.inl x4165) => some (Sum.inl x4165) | (Sum.inr (x4166, x4167, x4168)) => some (Sum.inr (x4166, x4167, x4168)))) else none)) else none)))))) else none))) else none))) else none)))))
def g_inflate_stream_all_l0 (k : Nat) (x707 : Int) : Nat → Int → (List Int) → Int → (List Int) → Option (Int ⊕ ((Int × (List Int) × Int × (List Int)) ⊕ ((List Int) × Int × (List Int))))
  | 0, _, _, _, _ => none
  | n + 1, x4296, x4297, x4298, x4299 => (bif (decide (x4296 = 0)) then ((g_inflate_stream_take k 1 x707 x4297 x4298 x4299).bind fun y4366 => match y4366 with | (Sum.inl x4362) => some (Sum.inl x4362) | (Sum.inr (x4363, x4364, x4365)) => ((g_inflate_stream_take k 2 x707 x4364 x4365 x4299).bind fun y4372 => match y4372 with | (Sum.inl x4368) => some (Sum.inl x4368) | (Sum.inr (x4369, x4370, x4371)) => (bif (decide (x4369 = 0)) then ((g_inflate_stream_stored k x707 x4370 x4371 x4299).bind fun y4379 => match y4379 with | (Sum.inl x4375) => some (Sum.inl x4375) | (Sum.inr (x4376, x4377, x4378)) => (g_inflate_stream_all_l0 k x707 n x4363 x4376 x4377 x4378)) else (bif (decide (x4369 = 1)) then ((g_inflate_FixedLit k).bind fun x4382 => ((g_inflate_code k x4382).bind fun y4387 => match y4387 with | (Sum.inl x4384) => some (Sum.inr (Sum.inl (x4384, x4370, x4371, x4299))) | (Sum.inr (x4385, x4386)) => ((g_inflate_FixedDist k).bind fun x4389 => ((g_inflate_code k x4389).bind fun y4394 => match y4394 with | (Sum.inl x4391) => some (Sum.inr (Sum.inl (x4391, x4370, x4371, x4299))) | (Sum.inr (x4392, x4393)) => ((g_inflate_stream_coded k x707 x4370 x4371 x4385 x4392 x4299 x4386 x4393).bind fun y4400 => match y4400 with | (Sum.inl x4396) => some (Sum.inl x4396) | (Sum.inr (x4397, x4398, x4399)) => (g_inflate_stream_all_l0 k x707 n x4363 x4397 x4398 x4399)))))) else (bif (decide (x4369 = 2)) then ((g_inflate_stream_dynamic k x707 x4370 x4371 x4299).bind fun y4407 => match y4407 with | (Sum.inl x4403) => some (Sum.inl x4403) | (Sum.inr (x4404, x4405, x4406)) => (g_inflate_stream_all_l0 k x707 n x4363 x4404 x4405 x4406)) else ((g_inflate_must k 12).bind fun y4409 => match y4409 with | (Sum.inl _) => some (Sum.inr (Sum.inl (12, x4370, x4371, x4299))) | (Sum.inr _) => (g_inflate_stream_all_l0 k x707 n x4363 x4370 x4371 x4299))))))) else some (Sum.inr (Sum.inr (x4297, x4298, x4299))))
theorem g_inflate_stream_all_l0_eqs : True := by have := @g_inflate_stream_all_l0.eq_2; trivial
def g_inflate_stream_all (k : Nat) (x707 : Int) (x708 : (List Int)) (x709 : Int) (x710 : (List Int)) : Option (Int ⊕ ((List Int) × Int × (List Int))) := (((g_inflate_stream_all_l0 k x707 k 0 x708 x709 x710) : Option (Int ⊕ ((Int × (List Int) × Int × (List Int)) ⊕ ((List Int) × Int × (List Int))))).bind fun y4411 => match y4411 with | (Sum.inl x4351) => some (Sum.inl x4351) | (Sum.inr (Sum.inl (x4352, x4353, x4354, x4355))) => some (Sum.inl x4352) | (Sum.inr (Sum.inr (x4356, x4357, x4358))) => some (Sum.inr (x4356, x4357, x4358)))
def g_inflate_Inflate (k : Nat) (x690 : (List Int)) (x691 : Int) : Option ((List Int) × Int × Int) := (bif (decide (x691 < 0)) then some (([] : List Int), 0, 1) else ((g_bits_NewReader k x690).bind fun x4432 => ((g_inflate_stream_all k x691 x4432 0 ([] : List Int)).bind fun y4439 => match y4439 with | (Sum.inl x4435) => some (([] : List Int), 0, x4435) | (Sum.inr (x4436, x4437, x4438)) => ((g_bits_Reader_Left k x4436 x4437).bind fun x4445 => ((some (IntKind.wrap .i64 (((List.length x690 : Nat) : Int) - (IntKind.wrap .i64 (Int.tdiv x4445 8))))).bind fun x4446 => some (x4438, x4446, 0))))))
def g_bits_NewReader__b (k : Nat) (x4465 : (List Int)) : Option (List Int) := ((g_slices_Clone_byte_byte__b k x4465).bind fun x4471 => some x4471)
def g_inflate_Inflate__b (k : Nat) (x4460 : (List Int)) (x4461 : Int) : Option ((List Int) × Int × Int) := (bif (decide (x4461 < 0)) then some (([] : List Int), 0, 1) else ((g_bits_NewReader__b k x4460).bind fun x4495 => ((g_inflate_stream_all k x4461 x4495 0 ([] : List Int)).bind fun y4502 => match y4502 with | (Sum.inl x4498) => some (([] : List Int), 0, x4498) | (Sum.inr (x4499, x4500, x4501)) => ((g_bits_Reader_Left k x4499 x4500).bind fun x4508 => ((some (IntKind.wrap .i64 (((List.length x4460 : Nat) : Int) - (IntKind.wrap .i64 (Int.tdiv x4508 8))))).bind fun x4509 => some (x4501, x4509, 0))))))
def g_quirelaw03_alive (k : Nat) : Option Bool := ((g_inflate_Inflate k ([75, 4, 0] : List Int) 9).bind fun (x4537, x4538, x4539) => ((g_inflate_Inflate k ([1, 1, 0, 254, 255, 97] : List Int) 9).bind fun (x4541, x4542, x4543) => ((g_inflate_Inflate k ([7] : List Int) 9).bind fun (x4545, x4546, x4547) => ((g_inflate_Inflate__b k ([] : List Int) 9).bind fun (x4549, x4550, x4551) => ((((some ((strOf x4537).toList == (ByteArray.mk #[97]).toList)).bind fun x4562 => (bif x4562 then (bif (decide (x4538 = 3)) then (bif (decide (x4539 = 0)) then ((some ((strOf x4541).toList == (ByteArray.mk #[97]).toList)).bind fun x4566 => (bif x4566 then (bif (decide (x4542 = 6)) then (bif (decide (x4543 = 0)) then (bif (decide (x4547 = 12)) then some (decide (x4551 = 10)) else some false) else some false) else some false) else some false)) else some false) else some false) else some false)) : Option Bool).bind fun x4561 => some x4561)))))
def g_quirelaw01_Same (k : Nat) (x4738 : (List Int)) (x4739 : (List Int)) : Option Bool := ((some ((strOf x4738).toList == (strOf x4739).toList)).bind fun x4743 => some x4743)
def g_quirelaw03_InflateBehind (k : Nat) (x4664 : (List Int)) (x4665 : (List Int)) (x4666 : Int) : Option Bool := (((bif (decide (65536 < x4666)) then some 65536 else some x4666) : Option Int).bind fun x4762 => ((g_inflate_Inflate__b k x4664 x4762).bind fun (x4766, x4767, x4768) => (bif (!decide (x4768 = 0)) then ((((some (decide (((List.length x4766 : Nat) : Int) = 0))).bind fun x4789 => (bif x4789 then (bif (decide (x4767 = 0)) then ((g_quirelaw03_alive k).bind fun x4793 => some x4793) else some false) else some false)) : Option Bool).bind fun x4788 => some x4788) else (((bif (decide (x4767 < 1)) then some true else ((some (decide (((List.length x4664 : Nat) : Int) < x4767))).bind fun x4812 => (bif x4812 then some true else ((some (decide (x4762 < ((List.length x4766 : Nat) : Int)))).bind fun x4814 => some x4814)))) : Option Bool).bind fun x4810 => (bif x4810 then some false else (bif (decide (0 ≤ (0 : Int) ∧ (0 : Int) ≤ x4767 ∧ x4767 ≤ ((List.length x4664 : Nat) : Int))) then (bif (decide (((List.length ([] : List Int)) + (List.length (List.drop (Int.toNat 0) (List.take (Int.toNat x4767) x4664)))) * 1 ≤ 140737488355328)) then (bif (decide (((List.length (([] : List Int) ++ (List.drop (Int.toNat 0) (List.take (Int.toNat x4767) x4664)))) + (List.length x4665)) * 1 ≤ 140737488355328)) then ((g_inflate_Inflate k ((([] : List Int) ++ (List.drop (Int.toNat 0) (List.take (Int.toNat x4767) x4664))) ++ x4665) x4762).bind fun (x4821, x4822, x4823) => (bif (decide (0 ≤ (0 : Int) ∧ (0 : Int) ≤ (IntKind.wrap .i64 (x4767 - 1)) ∧ (IntKind.wrap .i64 (x4767 - 1)) ≤ ((List.length x4664 : Nat) : Int))) then ((g_inflate_Inflate__b k (List.drop (Int.toNat 0) (List.take (Int.toNat (IntKind.wrap .i64 (x4767 - 1))) x4664)) x4762).bind fun (x4826, x4827, x4828) => (((bif (decide (x4823 = 0)) then (bif (decide (x4822 = x4767)) then ((g_quirelaw01_Same k x4766 x4821).bind fun x4841 => (bif x4841 then (bif (decide (x4828 = 10)) then ((g_quirelaw03_alive k).bind fun x4845 => some x4845) else some false) else some false)) else some false) else some false) : Option Bool).bind fun x4837 => some x4837)) else none)) else none) else none) else none))))))
end Go.Proofs.Ytpceecokdpdgfaa.W
