/- Calls in a walk; regions that draw their order, walked. -/
import Derived.Test.YtnbjdgamindikaaDoorQi
import Derived.RangeFuncCalls
namespace Go.Q
open Go
set_option linter.unusedVariables false
set_option linter.unusedSimpArgs false

/-- An operation of whatever kind that comes to a value: in the words of what is walked next. -/
def Runs (P : Program) (op : Op) (ty : TypeId) (E : Env) (M : Mem) (tc : List Nat) (v : AVal) (M' : Mem) : Prop :=
  ∀ cx (fr : Fr) a w e, Hold cx e M w → Emb fr.nt e M E a → ∀ (o : Oper), o.op = op → o.type = ty → ∀ (next : Act → World → Prop) (Q : Exit → Act → World → Prop),
    (∀ x w' e', Hold cx e' M' w' → (e.le e' ∧ ∀ b, Ro.le (e.mem b) (e'.mem b)) → Val e' v x → (∀ b, b < w.heap.size → (∀ i ∈ tc, i < e.n → (M.at_ i).live e i → e.own i ≠ b) → w'.heap[b]? = w.heap[b]?) → w.heap.size ≤ w'.heap.size → next (a.put o.dst x) w') →
    o.wpIn (fence fr.r) 0 P a w next Q

theorem Does.runs {P : Program} {op : Op} {ty : TypeId} {E : Env} {M M' : Mem} {tc : List Nat} {v : AVal} (h : Does P op ty E M tc v M') : Runs P op ty E M tc v M' :=
  fun cx fr a w e hh he o ho ht next Q k => by
    obtain ⟨x, w', e', hr, hh', hle, hv, h1, h2⟩ := h cx fr.nt a w e hh he
    refine ⟨fun _ _ => trivial, ?_⟩
    rw [semAt_value (by rw [ho, ht]; exact hr)]
    exact k x w' e' hh' hle hv h1 h2

/-- An operation that panics. -/
def RunsP (P : Program) (op : Op) (ty : TypeId) (E : Env) (M : Mem) (v : AVal) (M' : Mem) : Prop :=
  ∀ cx (fr : Fr) a w e, Hold cx e M w → Emb fr.nt e M E a → ∀ (o : Oper), o.op = op → o.type = ty → ∀ (next : Act → World → Prop) (Q : Exit → Act → World → Prop),
    (∀ x w' e', Hold cx e' M' w' → (e.le e' ∧ ∀ b, Ro.le (e.mem b) (e'.mem b)) → Val e' v x → Q (.panic [{ v := x, recovered := false }]) a w') →
    o.wpIn (fence fr.r) 0 P a w next Q

/-- A function of the program that has a body. -/
structure FnIs (P : Program) (f : FuncId) : Prop where
  h : ∃ fn, P.funcs[f]? = some fn ∧ fn.body.isSome = true ∧ (fn.name == "runtime.NumGoroutine") = false

/-- The arguments, in the caller's words and in the callee's. -/
def ArgsOk (M : Mem) (s bor : List Nat) (n : Nat) (la lc : List AVal) : Prop :=
  ∀ cx e w, Hold cx e M w → borOk M s bor → ∀ vs, Vals e la vs → Vals (calleeNv e w s bor n) lc vs

section
variable {M : Mem} {s bor : List Nat} {n : Nat} {la lc : List AVal}

theorem ArgsOk.nil : ArgsOk M s bor n [] [] := fun _ _ _ _ _ _ h => by simpa [Vals] using h
theorem ArgsOk.cons {a c : AVal} (h : ∀ cx e w, Hold cx e M w → borOk M s bor → ∀ v, Val e a v → Val (calleeNv e w s bor n) c v) (k : ArgsOk M s bor n la lc) : ArgsOk M s bor n (a :: la) (c :: lc) :=
  fun cx e w hh hb vs hv => by
    simp only [Vals] at hv ⊢
    obtain ⟨v, ws, rfl, h1, h2⟩ := hv
    exact ⟨v, ws, rfl, h cx e w hh hb v h1, k cx e w hh hb ws h2⟩

theorem Val.lend {cx : Cx} {e : Nv} {w : World} {a : AVal} {v : Value} (hh : Hold cx e M w) (hb : borOk M s bor) (h : Val e a v) : Val (e.lend w (lent e bor)) a v :=
  Val.mono (e := e) (e' := e.lend w (lent e bor)) ⟨Ro.le.refl _, lend_bm hh hb, Nat.le_refl _, fun _ _ => rfl, fun _ _ => rfl, fun _ _ => rfl, fun _ _ => rfl, fun _ _ => rfl⟩ (mem_same rfl (lend_bm hh hb)) h

/-- An argument handed over as it is. -/
theorem ArgsOk.ren {a c : AVal} (ha : a = c.ren (sub s)) (hu : c.under n = true) (k : ArgsOk M s bor n la lc) : ArgsOk M s bor n (a :: la) (c :: lc) :=
  .cons (fun cx e w hh hb v hv => by
    subst ha
    exact (Val.lend hh hb hv).re hu) k
/-- What is read only, borrowed. -/
theorem ArgsOk.ro {α : Type} {R : Rd α} {d : α} (k : ArgsOk M s bor n la lc) : ArgsOk M s bor n (.ro R false d :: la) (.ro R true d :: lc) :=
  .cons (fun cx e w hh hb v hv => by
    have := Val.lend hh hb hv
    simp only [Val] at this ⊢
    refine R.mono ?_ this
    intro k o hk
    rw [Nv.mem_false] at hk
    show Nv.mem _ true k = some o
    unfold Nv.mem
    have : (calleeNv e w s bor n).m k = some o := hk
    rw [this]) k
/-- Nil as an empty slice. -/
theorem ArgsOk.nilSlice {α : Type} {R : Rd α} {b : Bool} (k : ArgsOk M s bor n la lc) : ArgsOk M s bor n (.lit (.slice none 0 0) :: la) (.ro (Rd.slice R) b [] :: lc) :=
  .cons (fun cx e w hh hb v hv => by
    simp only [Val] at hv
    subst hv
    simp only [Val, Rd.slice]
    exact .inl ⟨trivial, none, 0, rfl⟩) k
/-- A row of our own, borrowed. -/
theorem ArgsOk.row {α : Type} {R : Rd α} {l : List α} {i : Nat} {t : TypeId} (hc : M.at_ i = .row t R l) (hi : bor.contains i = true) (k : ArgsOk M s bor n la lc) : ArgsOk M s bor n (.whole i :: la) (.ro (Rd.slice R) true l :: lc) :=
  .cons (fun cx e w hh hb v hv => by
    simp only [Val] at hv
    have hk := hh.ch i hv.1
    rw [hc] at hk
    obtain ⟨g1, g2, g3, g4⟩ := hk
    have hv3 := hv.2.2
    simp only [Val, Rd.slice]
    cases hvir : e.vir i with
    | true =>
      rw [hvir] at hv3 g4
      simp only [if_true] at hv3 g4
      subst g4
      exact .inl ⟨rfl, none, 0, by rw [hv3.1]⟩
    | false =>
      rw [hvir] at hv3 g4
      simp only [Bool.false_eq_true, if_false] at hv3 g4
      obtain ⟨c, z, hbk, hz, hcs, hrow⟩ := g4
      have hlive : (M.at_ i).live e i := by rw [hc]; exact hvir
      have hli := hh.live i hv.1 hlive
      refine .inr ⟨e.own i, 0, c, t, z, e.caps i, by rw [hv3, g1], g2, ?_, ?_⟩
      · have h1 : (calleeNv e w s bor n).m (e.own i) = none := hli.2.1
        have h2 : (calleeNv e w s bor n).bm (e.own i) = some (.cells c t z) := by
          show (if ((lent e bor).any fun j => e.own j == e.own i) then w.heap[e.own i]? else e.bm (e.own i)) = _
          rw [if_pos]
          · exact hbk
          · exact List.any_eq_true.2 ⟨i, List.mem_filter.2 ⟨by simpa using hi, by simp [hvir]⟩, by simp⟩
        unfold Nv.mem
        rw [h1]
        simp only [if_true]
        exact h2
      · rw [List.drop_zero]
        refine rows_mono ?_ hrow
        intro k o hk
        unfold Nv.mem
        have : (calleeNv e w s bor n).m k = some o := hk
        rw [this]) k
/-- A struct of our own behind a pointer, borrowed. -/
theorem ArgsOk.cells {α : Type} {R : Rd α} {d : α} {l : List AVal} {i : Nat} {t : TypeId} (hc : M.at_ i = .cells t l) (hj : Joins R false d l) (hl : Nat.beq l.length R.sz = true) (hi : bor.contains i = true) (k : ArgsOk M s bor n la lc) :
    ArgsOk M s bor n (.ptr i 0 :: la) (.ro (Rd.ptr R) true d :: lc) :=
  .cons (fun cx e w hh hb v hv => by
    simp only [Val] at hv
    have hk := hh.ch i hv.1
    rw [hc] at hk
    obtain ⟨hvir, vs, hbk, hvs, ho⟩ := hk
    have hlive : (M.at_ i).live e i := by rw [hc]; trivial
    have hli := hh.live i hv.1 hlive
    simp only [Val, Rd.ptr]
    refine ⟨e.own i, 0, vs.toArray, t, (0, 0), by rw [hv.2.2], ?_, ?_⟩
    · have h1 : (calleeNv e w s bor n).m (e.own i) = none := hli.2.1
      have h2 : (calleeNv e w s bor n).bm (e.own i) = some (.cells vs.toArray t (0, 0)) := by
        show (if ((lent e bor).any fun j => e.own j == e.own i) then w.heap[e.own i]? else e.bm (e.own i)) = _
        rw [if_pos]
        · exact hbk
        · exact List.any_eq_true.2 ⟨i, List.mem_filter.2 ⟨by simpa using hi, by simp [hvir]⟩, by simp⟩
      unfold Nv.mem
      rw [h1]
      simp only [if_true]
      exact h2
    · have hok := hj e vs hvs ho
      rw [Nv.mem_false] at hok
      have hlen : vs.length = R.sz := by rw [hvs.length]; simpa using hl
      rw [List.drop_zero, List.toList_toArray, List.take_of_length_le (by omega)]
      refine R.mono ?_ hok
      intro k o hk
      unfold Nv.mem
      have : (calleeNv e w s bor n).m k = some o := hk
      rw [this]) k
end

section
variable {P : Program} {ty : TypeId} {E : Env} {M Mc Mc' : Mem} {fo : Operand} {f : FuncId} {cap lc : List AVal} {np N : Nat} {args : Array Operand} {tys : Array TypeId} {s t bor : List Nat} {v : AVal}

theorem run_enter {P : Program} {ρ : Operand → Value} {w : World} {us : List Value} (hfn : FnIs P f) (hf : ρ fo = .func (.func f) #[] us.toArray) :
    (exec1 ρ (.call { callee := .value fo, args := args, argTypes := tys }) ty).run P w = .ok (.enter f (args.map ρ ++ us.toArray)) w := by
  obtain ⟨fn, h1, h2, h3⟩ := hfn.h
  have hn : fn.body.isNone = false := by cases hb : fn.body <;> simp [hb] at h2 ⊢
  have h3' : ¬ fn.name = "runtime.NumGoroutine" := by simpa using h3
  simp [exec1, execOp, resolve, Deferred.ofValue, hf, invoke, callFunc, h1, hn, h3']
  intro h
  rw [h] at h2
  simp at h2

theorem call_core {Qs : Out → Mem → Prop} (hfn : FnIs P f) (hcal : E.ev fo = .fn f cap) (hspec : Spec P f np lc Mc Qs) (hM : LeM s 0 M Mc) (hnp : (Nat.ble np Mc.n && noMarks Mc) = true) (hbor : borOk M s bor)
    (hargs : ArgsOk M s bor Mc.n (args.toList.map E.ev ++ cap) lc) {cx : Cx} {fr : Fr} {a : Act} {w : World} {e : Nv} (hh : Hold cx e M w) (he : Emb fr.nt e M E a) {o : Oper} (ho : o.op = .call { callee := .value fo, args := args, argTypes := tys }) (ht : o.type = ty)
    {next : Act → World → Prop} {Q : Exit → Act → World → Prop}
    (k : ∀ cx' Mc' e' w' out x, Entry cx' np (calleeNv e w s bor Mc.n) Mc w → Hold cx' (calleeNv e w s bor Mc.n) Mc w → Qs out Mc' → Hold cx' e' Mc' w' → out.is e' x →
      match x with
      | .returned u => next (a.put o.dst u) w'
      | .panicked c => Q (.panic c) a w'
      | .outgrown => True) :
    o.wpIn (fence fr.r) 0 P a w next Q := by
  have hv := he.ev fo
  rw [hcal] at hv
  simp only [Val] at hv
  obtain ⟨us, h1, h2⟩ := hv
  refine ⟨fun _ _ => trivial, ?_⟩
  rw [Oper.semAt_eq _ _ _ (by rw [ho]; intro c hc; cases hc), execOp_one, ho, ht, run_enter hfn h1]
  refine ⟨fun h => by simp at h, ?_⟩
  obtain ⟨cx', hent, hin⟩ := hh.enter hM hnp hbor
  have hvals : Vals (calleeNv e w s bor Mc.n) lc (args.toList.map a.eval ++ us) := hargs cx e w hh hbor _ ((evs he args.toList).append h2)
  have hcall := hspec cx' _ w _ hent hin hvals
  have harr : (args.toList.map a.eval ++ us).toArray = args.map a.eval ++ us.toArray := by apply Array.ext'; simp
  rw [harr] at hcall
  have hcall' : CallsIn (fence fr.r) 0 P f (args.map a.eval ++ us.toArray) w fun x w' => ∃ o M' e', Qs o M' ∧ Hold cx' e' M' w' ∧ o.is e' x := by
    cases hr : fr.r with
    | none => exact hcall
    | some l => exact CallsIn.inRound l hcall
  refine hcall'.mono fun x w' ⟨out, M', e', hq, hh', his⟩ => ?_
  have := k cx' M' e' w' out x hent hin hq hh' his
  cases x with
  | returned u => exact this
  | panicked c => exact this
  | outgrown =>
    cases out with
    | ret v => obtain ⟨u, hu, _⟩ := his; cases hu
    | pan v => obtain ⟨u, hu, _⟩ := his; cases hu

/-- A call that returns. -/
theorem runs_call (hfn : FnIs P f) (hcal : E.ev fo = .fn f cap) (hspec : Spec P f np lc Mc (fun o M' => o = .ret v ∧ M' = Mc')) (hM : LeM s 0 M Mc) (hnp : (Nat.ble np Mc.n && noMarks Mc) = true) (hbor : borOk M s bor)
    (hargs : ArgsOk M s bor Mc.n (args.toList.map E.ev ++ cap) lc) (htau : tauOk s t np M.n Mc.n Mc'.n N = true) (hp : AllLt Mc'.n fun j => (Mc'.at_ j).pers bor.isEmpty = true) (hpv : v.pers bor.isEmpty = true) :
    Runs P (.call { callee := .value fo, args := args, argTypes := tys }) ty E M s (v.ren (sub t)) (merge M s t Mc' N) :=
  fun cx fr a w e hh he o ho ht next Q k => by
    refine call_core hfn hcal hspec hM hnp hbor hargs hh he ho ht fun cx' M' e' w' out x hent hin hq hh' his => ?_
    obtain ⟨rfl, rfl⟩ := hq
    obtain ⟨u, rfl, hu⟩ := his
    obtain ⟨e2, g1, g2, g3, g4, g5⟩ := hh.leave hM hbor hent hin hh' htau hp
    exact k u w' e2 g1 g2 (hu.into g3 hpv) g4 g5

/-- A call that panics. -/
theorem runs_callP (hfn : FnIs P f) (hcal : E.ev fo = .fn f cap) (hspec : Spec P f np lc Mc (fun o M' => o = .pan v ∧ M' = Mc')) (hM : LeM s 0 M Mc) (hnp : (Nat.ble np Mc.n && noMarks Mc) = true) (hbor : borOk M s bor)
    (hargs : ArgsOk M s bor Mc.n (args.toList.map E.ev ++ cap) lc) (htau : tauOk s t np M.n Mc.n Mc'.n N = true) (hp : AllLt Mc'.n fun j => (Mc'.at_ j).pers bor.isEmpty = true) (hpv : v.pers bor.isEmpty = true) :
    RunsP P (.call { callee := .value fo, args := args, argTypes := tys }) ty E M (v.ren (sub t)) (merge M s t Mc' N) :=
  fun cx fr a w e hh he o ho ht next Q k => by
    refine call_core hfn hcal hspec hM hnp hbor hargs hh he ho ht fun cx' M' e' w' out x hent hin hq hh' his => ?_
    obtain ⟨rfl, rfl⟩ := hq
    obtain ⟨u, rfl, hu⟩ := his
    obtain ⟨e2, g1, g2, g3, g4, g5⟩ := hh.leave hM hbor hent hin hh' htau hp
    exact k u w' e2 g1 g2 (hu.into g3 hpv)
end

section
variable {P : Program} {cx : Cx} {fr : Fr} {ops : Array Oper} {os : List Oper} {E : Env} {M M' : Mem} {Q : Ex → Env → Mem → Prop} {op : Op} {ty : TypeId} {pos : String} {after : Array Edge} {dst : Nat} {v : AVal} {tc : List Nat}

/-- A call in a walk. -/
theorem WPL.c (h : Runs P op ty E M tc v M') (ht : Nat.blt dst fr.nt = true) (k : WPL P cx fr ops os (E.upd dst v) M' Q) :
    WPL P cx fr ops ({ dst := some dst, op := op, type := ty, pos := pos, after := after, guard := Option.none } :: os) E M Q := by
  intro a w e hh he
  unfold wpListIn
  rw [if_pos (by rfl)]
  refine h cx fr a w e hh he _ rfl rfl _ _ fun x w' e' hh' hle hv _ _ => ?_
  exact k _ w' e' hh' ((he.mono hle.1 hle.2).put ht hv)

theorem WPL.cg {j t : Nat} {b : Bool} (hj : (ops[j]?).bind (·.dst) = some t) (htj : Nat.blt t fr.nt = true) (hv : E.v t = .lit (.bool b)) (h : Runs P op ty E M tc v M') (ht : Nat.blt dst fr.nt = true) (k : WPL P cx fr ops os (E.upd dst v) M' Q) :
    WPL P cx fr ops ({ dst := some dst, op := op, type := ty, pos := pos, after := after, guard := some (j, b) } :: os) E M Q := by
  intro a w e hh he
  have hw : Region.wanted { dst := some dst, op := op, type := ty, pos := pos, after := after, guard := some (j, b) } (yielded ops a.tmps) = true := by
    simp [Region.wanted, yields he hj htj hv]
  unfold wpListIn
  rw [if_pos hw]
  refine h cx fr a w e hh he _ rfl rfl _ _ fun x w' e' hh' hle hv _ _ => ?_
  exact k _ w' e' hh' ((he.mono hle.1 hle.2).put ht hv)

/-- A call that panics, in a walk. -/
theorem WPL.p {d : Option Nat} (h : RunsP P op ty E M v M') (k : Q (.panic v) E M') :
    WPL P cx fr ops ({ dst := d, op := op, type := ty, pos := pos, after := after, guard := Option.none } :: os) E M Q := by
  intro a w e hh he
  unfold wpListIn
  rw [if_pos (by rfl)]
  refine h cx fr a w e hh he _ rfl rfl _ _ fun x w' e' hh' hle hv => ?_
  exact ⟨.panic v, E, M', e', k, hh', ⟨he.d.mono hle.1, fun p hp => (he.o p hp).mono hle.1 hle.2⟩, x, rfl, hv⟩
theorem WPL.pg {d : Option Nat} {j t : Nat} {b : Bool} (hj : (ops[j]?).bind (·.dst) = some t) (htj : Nat.blt t fr.nt = true) (hv : E.v t = .lit (.bool b)) (h : RunsP P op ty E M v M') (k : Q (.panic v) E M') :
    WPL P cx fr ops ({ dst := d, op := op, type := ty, pos := pos, after := after, guard := some (j, b) } :: os) E M Q := by
  intro a w e hh he
  have hw : Region.wanted { dst := d, op := op, type := ty, pos := pos, after := after, guard := some (j, b) } (yielded ops a.tmps) = true := by
    simp [Region.wanted, yields he hj htj hv]
  unfold wpListIn
  rw [if_pos hw]
  refine h cx fr a w e hh he _ rfl rfl _ _ fun x w' e' hh' hle hv => ?_
  exact ⟨.panic v, E, M', e', k, hh', ⟨he.d.mono hle.1, fun p hp => (he.o p hp).mono hle.1 hle.2⟩, x, rfl, hv⟩

/-! ### Drawn regions -/

/-- THE WALK of a region that draws its order, some of its operations over: 'st': the chunks that no operation touches that is still to come, ahead of those of X. -/
def WPD (P : Program) (cx : Cx) (fr : Fr) (ops : Array Oper) (st X : List Nat) (fuel : Nat) (listed : Array Bool) (E : Env) (M : Mem) (Q : Ex → Env → Mem → Prop) : Prop :=
  ∀ a w e, Hold cx e M w → Emb fr.nt e M E a → wpAnyF P fr.r .any ops (Sat cx fr Q) (Agree e [] w) (Agree e st w) X fuel listed a w

def takeB (ops : Array Oper) (X : List Nat) (listed : Array Bool) (i : Nat) : Bool :=
  Region.noSelect ops && Region.free .any ops listed i && (Region.ready .any ops listed).contains i && !X.contains i &&
  X.all fun j => listed.getD j true || behind .any ops listed i ops.size j
def readyIs (ops : Array Oper) (listed : Array Bool) (i : Nat) : Bool := Region.ready .any ops listed == [i]
def readyNo (ops : Array Oper) (listed : Array Bool) : Bool := (Region.ready .any ops listed).isEmpty

variable {st st' X X' : List Nat} {fuel : Nat} {listed : Array Bool} {i : Nat}

theorem take_spec (hb : takeB ops X listed i = true) : Region.noSelect ops = true ∧ Region.free .any ops listed i = true ∧ (Region.ready .any ops listed).contains i = true ∧ X.contains i = false ∧
    ∀ j, X.contains j = true → j ≠ i → listed.getD j true = false → ∃ n, behind .any ops listed i n j = true := by
  simp only [takeB, Bool.and_eq_true, Bool.not_eq_true'] at hb
  obtain ⟨⟨⟨⟨h1, h2⟩, h3⟩, h4⟩, h5⟩ := hb
  refine ⟨h1, h2, h3, h4, fun j hjX _ hun => ?_⟩
  have := List.all_eq_true.1 h5 j (by simpa using hjX)
  rw [hun] at this
  exact ⟨_, by simpa using this⟩

def takeTB (ops : Array Oper) (X : List Nat) (listed : Array Bool) (i : Nat) : Bool :=
  Region.noSelect ops && Region.free .any ops listed i && (Region.ready .any ops listed).contains i && !X.contains i
theorem takeTB_spec (hb : takeTB ops X listed i = true) : Region.noSelect ops = true ∧ Region.free .any ops listed i = true ∧ (Region.ready .any ops listed).contains i = true ∧ X.contains i = false := by
  simp only [takeTB, Bool.and_eq_true, Bool.not_eq_true'] at hb
  obtain ⟨⟨⟨h1, h2⟩, h3⟩, h4⟩ := hb
  exact ⟨h1, h2, h3, h4⟩
theorem Agree.nil_of {e : Nv} {st : List Nat} {w w1 : World} (h : Agree e st w w1) : Agree e [] w w1 := ⟨h.ro, h.bro, fun _ hi => by cases hi⟩

theorem sat_panic {a : Act} {d : Option Tmp} {x : Value} : ∀ c a' w, Sat cx fr Q (.panic c) (a'.put d x) w → Sat cx fr Q (.panic c) a' w := by
  rintro c a' w ⟨y, E, M, e, q, h1, h2, h3⟩
  cases y with
  | panic v =>
    refine ⟨.panic v, E, M, e, q, h1, ?_, h3⟩
    have : (a'.put d x).defers = a'.defers := by cases d <;> rfl
    show marks e M E.d a'.defers ∧ _
    rw [← this]; exact h2
  | normal => cases h3
  | exit id => cases h3
  | goto l => cases h3
  | ret => cases h3

theorem sat_outgrown : ¬ LetsOut (Sat cx fr Q) := by
  rintro ⟨a, w, y, E, M, e, q, h1, h2, h3⟩
  cases y with
  | panic v => obtain ⟨_, h, _⟩ := h3; cases h
  | normal => cases h3
  | exit id => cases h3
  | goto l => cases h3
  | ret => cases h3

/-- A quiet operation is taken first. -/
theorem WPD.take (i : Nat) {st0 : List Nat} (ho : ops[i]? = some { dst := some dst, op := op, type := ty, pos := pos, after := after, guard := Option.none }) (hb : takeB ops X listed i = true) (h : Quiet P op ty E M st0 v) (hs : (st0.all st.contains) = true)
    (ht : Nat.blt dst fr.nt = true) (k : WPD P cx fr ops st X fuel (listed.setIfInBounds i true) (E.upd dst v) M Q) : WPD P cx fr ops st X (fuel + 1) listed E M Q := by
  intro a w e hh he
  obtain ⟨b1, b2, b3, b4, b5⟩ := take_spec hb
  obtain ⟨x, hv, hr⟩ := h cx fr.nt a w e hh he
  refine wpAnyF_first ho (Region.noSelect_spec b1) (fun c a' w' => sat_panic (a := a) c a' w') sat_outgrown fuel listed a w (Region.free_spec ho b2) b5 (by simpa using b3) ?_ (Agree.of_hold hh st) b4 ?_ (v := x)
  · exact .inl ⟨rfl, fun w1 hw => hr w1 ⟨hw.ro, hw.bro, fun j hj => hw.own j (by have := List.all_eq_true.1 hs j hj; simpa using this)⟩⟩
  · exact k _ w e hh (he.put ht hv)

/-- A guarded one. -/
theorem WPD.takeg (i : Nat) {st0 : List Nat} {j t : Nat} {b : Bool} (ho : ops[i]? = some { dst := some dst, op := op, type := ty, pos := pos, after := after, guard := some (j, b) }) (hb : takeB ops X listed i = true)
    (hj : (ops[j]?).bind (·.dst) = some t) (htj : Nat.blt t fr.nt = true) (hv : E.v t = .lit (.bool b)) (h : Quiet P op ty E M st0 v) (hs : (st0.all st.contains) = true)
    (ht : Nat.blt dst fr.nt = true) (k : WPD P cx fr ops st X fuel (listed.setIfInBounds i true) (E.upd dst v) M Q) : WPD P cx fr ops st X (fuel + 1) listed E M Q := by
  intro a w e hh he
  obtain ⟨b1, b2, b3, b4, b5⟩ := take_spec hb
  obtain ⟨x, hvx, hr⟩ := h cx fr.nt a w e hh he
  refine wpAnyF_first ho (Region.noSelect_spec b1) (fun c a' w' => sat_panic (a := a) c a' w') sat_outgrown fuel listed a w (Region.free_spec ho b2) b5 (by simpa using b3) ?_ (Agree.of_hold hh st) b4 ?_ (v := x)
  · exact .inl ⟨by simp [Region.wanted, yields he hj htj hv], fun w1 hw => hr w1 ⟨hw.ro, hw.bro, fun j hj => hw.own j (by have := List.all_eq_true.1 hs j hj; simpa using this)⟩⟩
  · exact k _ w e hh (he.put ht hvx)

/-- A quiet operation that reads nothing of our own is taken first. -/
theorem WPD.takeT (i : Nat) (ho : ops[i]? = some { dst := some dst, op := op, type := ty, pos := pos, after := after, guard := Option.none }) (hb : takeTB ops X listed i = true) (h : Quiet P op ty E M [] v)
    (ht : Nat.blt dst fr.nt = true) (k : WPD P cx fr ops st X fuel (listed.setIfInBounds i true) (E.upd dst v) M Q) : WPD P cx fr ops st X (fuel + 1) listed E M Q := by
  intro a w e hh he
  obtain ⟨b1, b2, b3, b4⟩ := takeTB_spec hb
  obtain ⟨x, hv, hr⟩ := h cx fr.nt a w e hh he
  refine wpAnyF_firstT ho (Region.noSelect_spec b1) (fun c a' w' => sat_panic (a := a) c a' w') sat_outgrown (fun _ h => h.nil_of) fuel listed a w (Region.free_spec ho b2) (by simpa using b3) ?_ (Agree.of_hold hh st) b4 ?_ (v := x)
  · exact .inl ⟨rfl, fun w1 hw => hr w1 hw⟩
  · exact k _ w e hh (he.put ht hv)
theorem WPD.takegT (i : Nat) {j t : Nat} {b : Bool} (ho : ops[i]? = some { dst := some dst, op := op, type := ty, pos := pos, after := after, guard := some (j, b) }) (hb : takeTB ops X listed i = true)
    (hj : (ops[j]?).bind (·.dst) = some t) (htj : Nat.blt t fr.nt = true) (hv : E.v t = .lit (.bool b)) (h : Quiet P op ty E M [] v)
    (ht : Nat.blt dst fr.nt = true) (k : WPD P cx fr ops st X fuel (listed.setIfInBounds i true) (E.upd dst v) M Q) : WPD P cx fr ops st X (fuel + 1) listed E M Q := by
  intro a w e hh he
  obtain ⟨b1, b2, b3, b4⟩ := takeTB_spec hb
  obtain ⟨x, hvx, hr⟩ := h cx fr.nt a w e hh he
  refine wpAnyF_firstT ho (Region.noSelect_spec b1) (fun c a' w' => sat_panic (a := a) c a' w') sat_outgrown (fun _ h => h.nil_of) fuel listed a w (Region.free_spec ho b2) (by simpa using b3) ?_ (Agree.of_hold hh st) b4 ?_ (v := x)
  · exact .inl ⟨by simp [Region.wanted, yields he hj htj hv], fun w1 hw => hr w1 hw⟩
  · exact k _ w e hh (he.put ht hvx)

/-- A guarded one that is passed over. -/
theorem WPD.pass (i : Nat) {j t : Nat} {b b' : Bool} {d : Option Nat} (ho : ops[i]? = some { dst := d, op := op, type := ty, pos := pos, after := after, guard := some (j, b) }) (hb : takeTB ops X listed i = true)
    (hj : (ops[j]?).bind (·.dst) = some t) (htj : Nat.blt t fr.nt = true) (hv : E.v t = .lit (.bool b')) (hne : (b' == b) = false)
    (hd : (match d with | some d => Nat.blt d fr.nt | none => true) = true) (k : WPD P cx fr ops st X fuel (listed.setIfInBounds i true) (match d with | some d => E.upd d (.lit undef) | none => E) M Q) : WPD P cx fr ops st X (fuel + 1) listed E M Q := by
  intro a w e hh he
  obtain ⟨b1, b2, b3, b4⟩ := takeTB_spec hb
  refine wpAnyF_firstT ho (Region.noSelect_spec b1) (fun c a' w' => sat_panic (a := a) c a' w') sat_outgrown (fun _ h => h.nil_of) fuel listed a w (Region.free_spec ho b2) (by simpa using b3) ?_ (Agree.of_hold hh st) b4 ?_ (v := undef)
  · refine .inr ⟨?_, rfl⟩
    simp [Region.wanted, yields he hj htj hv]
    simpa using hne
  · cases d with
    | none => exact k _ w e hh he
    | some d => exact k _ w e hh (he.put hd (by simp [Val]))

/-- One whose guard was passed over itself. -/
theorem WPD.passu (i : Nat) {j t : Nat} {b : Bool} {d : Option Nat} (ho : ops[i]? = some { dst := d, op := op, type := ty, pos := pos, after := after, guard := some (j, b) }) (hb : takeTB ops X listed i = true)
    (hj : (ops[j]?).bind (·.dst) = some t) (htj : Nat.blt t fr.nt = true) (hv : E.v t = .lit undef)
    (hd : (match d with | some d => Nat.blt d fr.nt | none => true) = true) (k : WPD P cx fr ops st X fuel (listed.setIfInBounds i true) (match d with | some d => E.upd d (.lit undef) | none => E) M Q) : WPD P cx fr ops st X (fuel + 1) listed E M Q := by
  intro a w e hh he
  obtain ⟨b1, b2, b3, b4⟩ := takeTB_spec hb
  refine wpAnyF_firstT ho (Region.noSelect_spec b1) (fun c a' w' => sat_panic (a := a) c a' w') sat_outgrown (fun _ h => h.nil_of) fuel listed a w (Region.free_spec ho b2) (by simpa using b3) ?_ (Agree.of_hold hh st) b4 ?_ (v := undef)
  · refine .inr ⟨?_, rfl⟩
    simp [Region.wanted, yields_undef he hj htj hv]
  · cases d with
    | none => exact k _ w e hh he
    | some d => exact k _ w e hh (he.put hd (by simp [Val]))

/-- The only one that may come up has an effect. -/
def Chunk.isOwn : Chunk → Bool
  | .cells .. | .row .. => true
  | _ => false

theorem WPD.eff_core (i : Nat) (st' X' : List Nat) {o : Oper} {E' : Env} (ho : ops[i]? = some o) (hb : readyIs ops listed i = true)
    (hg : ∀ a e, Emb fr.nt e M E a → Region.wanted o (yielded ops a.tmps) = true)
    (hs : (X.contains i || (X'.all X.contains && st.all fun j => st'.contains j && Nat.blt j M.n && (M.at_ j).isOwn && !(tc.contains j))) = true)
    (hstep : ∀ a w e, Hold cx e M w → Emb fr.nt e M E a → ∀ (next : Act → World → Prop) (Q : Exit → Act → World → Prop),
      (∀ a' w' e', Hold cx e' M' w' → e.le e' → Emb fr.nt e' M' E' a' → (∀ b, b < w.heap.size → (∀ i ∈ tc, i < e.n → (M.at_ i).live e i → e.own i ≠ b) → w'.heap[b]? = w.heap[b]?) → next a' w') →
      o.wpIn (fence fr.r) 0 P a w next Q)
    (k : WPD P cx fr ops st' X' fuel (listed.setIfInBounds i true) E' M' Q) : WPD P cx fr ops st X (fuel + 1) listed E M Q := by
  intro a w e hh he
  have hready : Region.ready .any ops listed = [i] := by simpa [readyIs] using hb
  refine ⟨fun h => (by rw [hready] at h; cases h), fun j hj => ?_⟩
  rw [hready] at hj
  obtain rfl : j = i := by simpa using hj
  unfold wpOpIn
  simp only [ho]
  rw [if_pos (hg _ _ he)]
  refine hstep a w e hh he _ _ fun a' w' e' hh' hle he' hfr => ?_
  have hk := k a' w' e' hh' he'
  have hag : ∀ {st'' : List Nat} w1, Agree e' st'' w' w1 → Agree e [] w w1 := fun w1 hw => ⟨fun b o hb => hw.ro b o (hle.m b o hb), fun b o hb => hw.bro b o (hle.bm b o hb), fun _ hi => by cases hi⟩
  cases hx : X.contains j with
  | true => exact .inl ⟨rfl, hag _ (Agree.of_hold hh' st'), wpAnyG_of_F (fun w1 h => hag w1 h) (fun w1 h => hag w1 h) _ _ _ _ hk⟩
  | false =>
    rw [hx, Bool.false_or, Bool.and_eq_true] at hs
    have hst : ∀ x ∈ st, e.vir x = false → x < e.n ∧ w'.heap[e.own x]? = w.heap[e.own x]? ∧ x ∈ st' := by
      intro x hx hvx
      have h := List.all_eq_true.1 hs.2 x hx
      simp only [Bool.and_eq_true, Nat.blt_eq, Bool.not_eq_true'] at h
      obtain ⟨⟨⟨h1, h2⟩, h3⟩, h4⟩ := h
      have hxn : x < e.n := by rw [hh.n]; exact h2
      have hlx : (M.at_ x).live e x := by
        cases hc : M.at_ x with
        | cells t l => trivial
        | row t R l => exact hvx
        | gone => rw [hc] at h3; simp [Chunk.isOwn] at h3
        | obj o => rw [hc] at h3; simp [Chunk.isOwn] at h3
        | bag => rw [hc] at h3; simp [Chunk.isOwn] at h3
      refine ⟨hxn, hfr _ (hh.live x hxn hlx).1 fun y hy hyn hly hxy => ?_, by simpa using h1⟩
      have := hh.dist y x hyn hxn hly hlx hxy
      subst this
      rw [List.contains_eq_mem] at h4
      simp [hy] at h4
    have hmono : ∀ w1, Agree e' st' w' w1 → Agree e st w w1 := by
      intro w1 hw
      refine ⟨fun b o hb => hw.ro b o (hle.m b o hb), fun b o hb => hw.bro b o (hle.bm b o hb), fun x hx hvx => ?_⟩
      obtain ⟨h1, h2, h3⟩ := hst x hx hvx
      have := hw.own x h3 ((hle.vir x h1).trans hvx)
      rw [hle.own x h1] at this
      exact this.trans h2
    refine .inr ⟨rfl, hmono _ (Agree.of_hold hh' st'), wpAnyF_mono (fun w1 h => hag w1 h) (fun w1 h => hag w1 h) hmono (fun y hy => ?_) _ _ _ _ hk⟩
    exact List.all_eq_true.1 hs.1 y (by simpa using hy)

theorem WPD.eff (i : Nat) (st' X' : List Nat) (ho : ops[i]? = some { dst := some dst, op := op, type := ty, pos := pos, after := after, guard := Option.none }) (hb : readyIs ops listed i = true)
    (h : Runs P op ty E M tc v M') (hs : (X.contains i || (X'.all X.contains && st.all fun j => st'.contains j && Nat.blt j M.n && (M.at_ j).isOwn && !(tc.contains j))) = true) (ht : Nat.blt dst fr.nt = true)
    (k : WPD P cx fr ops st' X' fuel (listed.setIfInBounds i true) (E.upd dst v) M' Q) : WPD P cx fr ops st X (fuel + 1) listed E M Q :=
  WPD.eff_core (tc := tc) (M' := M') i st' X' ho hb (fun _ _ _ => rfl) hs (fun a w e hh he next Q' hk => h cx fr a w e hh he _ rfl rfl _ _ fun x w' e' hh' hle hv hfr _ =>
    hk _ w' e' hh' hle.1 ((he.mono hle.1 hle.2).put ht hv) hfr) k

theorem WPD.effg (i : Nat) (st' X' : List Nat) {j t : Nat} {b : Bool} (ho : ops[i]? = some { dst := some dst, op := op, type := ty, pos := pos, after := after, guard := some (j, b) }) (hb : readyIs ops listed i = true)
    (hj : (ops[j]?).bind (·.dst) = some t) (htj : Nat.blt t fr.nt = true) (hv : E.v t = .lit (.bool b))
    (h : Runs P op ty E M tc v M') (hs : (X.contains i || (X'.all X.contains && st.all fun j => st'.contains j && Nat.blt j M.n && (M.at_ j).isOwn && !(tc.contains j))) = true) (ht : Nat.blt dst fr.nt = true)
    (k : WPD P cx fr ops st' X' fuel (listed.setIfInBounds i true) (E.upd dst v) M' Q) : WPD P cx fr ops st X (fuel + 1) listed E M Q :=
  WPD.eff_core (tc := tc) (M' := M') i st' X' ho hb (fun _ _ he => by simp [Region.wanted, yields he hj htj hv]) hs (fun a w e hh he next Q' hk => h cx fr a w e hh he _ rfl rfl _ _ fun x w' e' hh' hle hv hfr _ =>
    hk _ w' e' hh' hle.1 ((he.mono hle.1 hle.2).put ht hv) hfr) k

theorem WPD.effS (i : Nat) (st' X' : List Nat) (ho : ops[i]? = some { dst := Option.none, op := op, type := ty, pos := pos, after := after, guard := Option.none }) (hb : readyIs ops listed i = true)
    (h : DoesS P op ty E M tc M') (hs : (X.contains i || (X'.all X.contains && st.all fun j => st'.contains j && Nat.blt j M.n && (M.at_ j).isOwn && !(tc.contains j))) = true)
    (k : WPD P cx fr ops st' X' fuel (listed.setIfInBounds i true) E M' Q) : WPD P cx fr ops st X (fuel + 1) listed E M Q :=
  WPD.eff_core (tc := tc) (M' := M') i st' X' ho hb (fun _ _ _ => rfl) hs (fun a w e hh he next Q' hk => by
    obtain ⟨w', e', hr, hh', hle, hfr, _⟩ := h cx fr.nt a w e hh he
    refine ⟨fun _ _ => trivial, ?_⟩
    rw [semAt_skip hr]
    exact hk _ w' e' hh' hle.1 (he.mono hle.1 hle.2) hfr) k

/-- All have come up. -/
theorem WPD.done (hb : readyNo ops listed = true) (h : Q .normal E M) : WPD P cx fr ops st X fuel listed E M Q := by
  intro a w e hh he
  have hready : Region.ready .any ops listed = [] := by simpa [readyNo, List.isEmpty_iff] using hb
  have hs : Sat cx fr Q .normal a w := ⟨.normal, E, M, e, h, hh, he, rfl⟩
  cases fuel with
  | zero => exact ⟨hready, hs⟩
  | succ n => exact ⟨fun _ => hs, by rw [hready]; simp⟩

/-- THE BEGINNING of a region that draws its order. -/
theorem WP.regionD (st X : List Nat) {id : Nat} (hm : P.follows .mixedOrders = true) (h : WPD P cx fr ops st X ops.size (Array.replicate ops.size false) E M Q) : WP P cx fr (.region id ops true) E M Q :=
  fun a w e hh he => wpIn_region_any hm (wpAny_of_F _ _ _ _ (h a _ e hh.drew he))
end
end Go.Q
