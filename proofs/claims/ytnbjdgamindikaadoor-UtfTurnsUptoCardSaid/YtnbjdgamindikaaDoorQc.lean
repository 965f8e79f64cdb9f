/- The steps of a region's walk: quiet operations, operations with an effect, guards; regions that draw their order. -/
import Derived.Test.YtnbjdgamindikaaDoorQb
namespace Go.Q
open Go
set_option linter.unusedVariables false
set_option linter.unusedSimpArgs false

theorem Emb.mono {nt : Nat} {e : Nv} {M : Mem} {E : Env} {a : Act} {e' : Nv} {M' : Mem} (h : Emb nt e M E a) (hle : e.le e') (hb : ∀ b, Ro.le (e.mem b) (e'.mem b)) : Emb nt e' M' E a :=
  ⟨h.sz, fun t => (h.v t).mono hle hb, h.d.mono hle, fun p hp => (h.o p hp).mono hle hb⟩

/-- An operation that yields a value and turns memory; of the blocks that stood before it touches those of the chunks 'tc' alone. -/
def Does (P : Program) (op : Op) (ty : TypeId) (E : Env) (M : Mem) (tc : List Nat) (v : AVal) (M' : Mem) : Prop :=
  ∀ cx nt a w e, Hold cx e M w → Emb nt e M E a → ∃ x w' e', (exec1 a.eval op ty).run P w = .ok (.value x) w' ∧ Hold cx e' M' w' ∧ (e.le e' ∧ ∀ b, Ro.le (e.mem b) (e'.mem b)) ∧ Val e' v x ∧
    (∀ b, b < w.heap.size → (∀ i ∈ tc, i < e.n → (M.at_ i).live e i → e.own i ≠ b) → w'.heap[b]? = w.heap[b]?) ∧ w.heap.size ≤ w'.heap.size

/-- The same, of one that yields nothing. -/
def DoesS (P : Program) (op : Op) (ty : TypeId) (E : Env) (M : Mem) (tc : List Nat) (M' : Mem) : Prop :=
  ∀ cx nt a w e, Hold cx e M w → Emb nt e M E a → ∃ w' e', (exec1 a.eval op ty).run P w = .ok .skip w' ∧ Hold cx e' M' w' ∧ (e.le e' ∧ ∀ b, Ro.le (e.mem b) (e'.mem b)) ∧
    (∀ b, b < w.heap.size → (∀ i ∈ tc, i < e.n → (M.at_ i).live e i → e.own i ≠ b) → w'.heap[b]? = w.heap[b]?) ∧ w.heap.size ≤ w'.heap.size

theorem Quiet.does {P : Program} {op : Op} {ty : TypeId} {E : Env} {M : Mem} {st : List Nat} {v : AVal} (h : Quiet P op ty E M st v) : Does P op ty E M [] v M :=
  fun cx nt a w e hh he => by
    obtain ⟨x, hv, hr⟩ := h cx nt a w e hh he
    exact ⟨x, w, e, hr w (Agree.of_hold hh st), hh, ⟨Nv.le.refl e, fun _ => Ro.le.refl _⟩, hv, fun _ _ _ => rfl, Nat.le_refl _⟩

theorem no_defer {P : Program} {ρ : Operand → Value} {c : Call} {ty : TypeId} {w : World} : (∀ x w', (exec1 ρ (.defer c) ty).run P w ≠ .ok (.value x) w') ∧ ∀ w', (exec1 ρ (.defer c) ty).run P w ≠ .ok .skip w' := by
  constructor
  · intro x w' h
    simp only [exec1, execOp, Sem.run_bind] at h
    cases hr : (resolve ρ c ty).run P w <;> rw [hr] at h <;> simp [Result.andThen] at h
  · intro w' h
    simp only [exec1, execOp, Sem.run_bind] at h
    cases hr : (resolve ρ c ty).run P w <;> rw [hr] at h <;> simp [Result.andThen] at h

theorem semAt_value {P : Program} {r : Option Nat} {ρ : Operand → Value} {o : Oper} {x : Value} {w w' : World} (h : (exec1 ρ o.op o.type).run P w = .ok (.value x) w') : (o.semAt r ρ).run P w = .ok (.value x) w' := by
  rw [Oper.semAt_eq]
  · exact h
  · intro c hc
    rw [hc] at h
    exact no_defer.1 _ _ h
theorem semAt_skip {P : Program} {r : Option Nat} {ρ : Operand → Value} {o : Oper} {w w' : World} (h : (exec1 ρ o.op o.type).run P w = .ok .skip w') : (o.semAt r ρ).run P w = .ok .skip w' := by
  rw [Oper.semAt_eq]
  · exact h
  · intro c hc
    rw [hc] at h
    exact no_defer.2 _ h

section
variable {P : Program} {cx : Cx} {fr : Fr} {ops : Array Oper} {os : List Oper} {E : Env} {M M' : Mem} {Q : Ex → Env → Mem → Prop} {op : Op} {ty : TypeId} {pos : String} {after : Array Edge} {dst : Nat} {v : AVal} {tc st : List Nat}

theorem WPL.nil (h : Q .normal E M) : WPL P cx fr ops [] E M Q := fun _ _ e hh he => ⟨.normal, E, M, e, h, hh, he, rfl⟩

theorem WPL.step {g : Option (Nat × Bool)} (hg : ∀ nt a e, Emb nt e M E a → Region.wanted { dst := some dst, op := op, type := ty, pos := pos, after := after, guard := g } (yielded ops a.tmps) = true)
    (h : Does P op ty E M tc v M') (ht : Nat.blt dst fr.nt = true) (k : WPL P cx fr ops os (E.upd dst v) M' Q) :
    WPL P cx fr ops ({ dst := some dst, op := op, type := ty, pos := pos, after := after, guard := g } :: os) E M Q := by
  intro a w e hh he
  obtain ⟨x, w', e', hr, hh', he', hv, _⟩ := h cx fr.nt a w e hh he
  unfold wpListIn
  rw [if_pos (hg _ _ _ he)]
  refine ⟨fun _ _ => trivial, ?_⟩
  rw [semAt_value hr]
  exact k _ w' e' hh' ((he.mono he'.1 he'.2).put ht hv)

/-- A quiet operation. -/
theorem WPL.q (h : Quiet P op ty E M st v) (ht : Nat.blt dst fr.nt = true) (k : WPL P cx fr ops os (E.upd dst v) M Q) :
    WPL P cx fr ops ({ dst := some dst, op := op, type := ty, pos := pos, after := after, guard := Option.none } :: os) E M Q :=
  WPL.step (fun _ _ _ _ => rfl) h.does ht k

/-- An operation with an effect. -/
theorem WPL.d (h : Does P op ty E M tc v M') (ht : Nat.blt dst fr.nt = true) (k : WPL P cx fr ops os (E.upd dst v) M' Q) :
    WPL P cx fr ops ({ dst := some dst, op := op, type := ty, pos := pos, after := after, guard := Option.none } :: os) E M Q :=
  WPL.step (fun _ _ _ _ => rfl) h ht k

theorem WPL.stepS {g : Option (Nat × Bool)} (hg : ∀ nt a e, Emb nt e M E a → Region.wanted { dst := Option.none, op := op, type := ty, pos := pos, after := after, guard := g } (yielded ops a.tmps) = true)
    (h : DoesS P op ty E M tc M') (k : WPL P cx fr ops os E M' Q) :
    WPL P cx fr ops ({ dst := Option.none, op := op, type := ty, pos := pos, after := after, guard := g } :: os) E M Q := by
  intro a w e hh he
  obtain ⟨w', e', hr, hh', he', _⟩ := h cx fr.nt a w e hh he
  unfold wpListIn
  rw [if_pos (hg _ _ _ he)]
  refine ⟨fun _ _ => trivial, ?_⟩
  rw [semAt_skip hr]
  exact k _ w' e' hh' (he.mono he'.1 he'.2)

theorem WPL.s (h : DoesS P op ty E M tc M') (k : WPL P cx fr ops os E M' Q) :
    WPL P cx fr ops ({ dst := Option.none, op := op, type := ty, pos := pos, after := after, guard := Option.none } :: os) E M Q :=
  WPL.stepS (fun _ _ _ _ => rfl) h k

/-- What a guard's operation has yielded. -/
theorem yields {nt : Nat} {a : Act} {e : Nv} {j t : Nat} {b : Bool} (he : Emb nt e M E a) (hj : (ops[j]?).bind (·.dst) = some t) (ht : Nat.blt t nt = true) (hv : E.v t = .lit (.bool b)) : yielded ops a.tmps j = some b := by
  have h := he.v t
  rw [hv] at h
  simp only [Val] at h
  have ht' : t < a.tmps.size := by rw [he.sz]; simpa [Nat.blt_eq] using ht
  rw [Array.getD_eq_getD_getElem?, Array.getElem?_eq_getElem ht'] at h
  simp at h
  simp [yielded, hj, Array.getElem?_eq_getElem ht', h]

/-- A guarded operation that is carried out. -/
theorem WPL.qg {j t : Nat} {b : Bool} (hj : (ops[j]?).bind (·.dst) = some t) (htj : Nat.blt t fr.nt = true) (hv : E.v t = .lit (.bool b)) (h : Quiet P op ty E M st v) (ht : Nat.blt dst fr.nt = true) (k : WPL P cx fr ops os (E.upd dst v) M Q) :
    WPL P cx fr ops ({ dst := some dst, op := op, type := ty, pos := pos, after := after, guard := some (j, b) } :: os) E M Q := by
  intro a w e hh he
  have hw : Region.wanted { dst := some dst, op := op, type := ty, pos := pos, after := after, guard := some (j, b) } (yielded ops a.tmps) = true := by
    simp [Region.wanted, yields he hj htj hv]
  obtain ⟨x, w', e', hr, hh', he', hvx, _⟩ := h.does cx fr.nt a w e hh he
  unfold wpListIn
  rw [if_pos hw]
  refine ⟨fun _ _ => trivial, ?_⟩
  rw [semAt_value hr]
  exact k _ w' e' hh' ((he.mono he'.1 he'.2).put ht hvx)

theorem WPL.dg {j t : Nat} {b : Bool} (hj : (ops[j]?).bind (·.dst) = some t) (htj : Nat.blt t fr.nt = true) (hv : E.v t = .lit (.bool b)) (h : Does P op ty E M tc v M') (ht : Nat.blt dst fr.nt = true) (k : WPL P cx fr ops os (E.upd dst v) M' Q) :
    WPL P cx fr ops ({ dst := some dst, op := op, type := ty, pos := pos, after := after, guard := some (j, b) } :: os) E M Q := by
  intro a w e hh he
  have hw : Region.wanted { dst := some dst, op := op, type := ty, pos := pos, after := after, guard := some (j, b) } (yielded ops a.tmps) = true := by
    simp [Region.wanted, yields he hj htj hv]
  obtain ⟨x, w', e', hr, hh', he', hvx, _⟩ := h cx fr.nt a w e hh he
  unfold wpListIn
  rw [if_pos hw]
  refine ⟨fun _ _ => trivial, ?_⟩
  rw [semAt_value hr]
  exact k _ w' e' hh' ((he.mono he'.1 he'.2).put ht hvx)

/-- A guarded operation that is passed over. -/
theorem WPL.skipg {j t : Nat} {b b' : Bool} (hj : (ops[j]?).bind (·.dst) = some t) (htj : Nat.blt t fr.nt = true) (hv : E.v t = .lit (.bool b')) (hne : (b' == b) = false) (ht : Nat.blt dst fr.nt = true) (k : WPL P cx fr ops os (E.upd dst (.lit undef)) M Q) :
    WPL P cx fr ops ({ dst := some dst, op := op, type := ty, pos := pos, after := after, guard := some (j, b) } :: os) E M Q := by
  intro a w e hh he
  have hw : Region.wanted { dst := some dst, op := op, type := ty, pos := pos, after := after, guard := some (j, b) } (yielded ops a.tmps) = false := by
    simp [Region.wanted, yields he hj htj hv]
    simpa using hne
  unfold wpListIn
  rw [if_neg (by rw [hw]; simp)]
  exact ⟨fun _ _ => trivial, k _ w e hh (he.put ht (by simp [Val]))⟩
theorem WPL.skipgS {j t : Nat} {b b' : Bool} (hj : (ops[j]?).bind (·.dst) = some t) (htj : Nat.blt t fr.nt = true) (hv : E.v t = .lit (.bool b')) (hne : (b' == b) = false) (k : WPL P cx fr ops os E M Q) :
    WPL P cx fr ops ({ dst := Option.none, op := op, type := ty, pos := pos, after := after, guard := some (j, b) } :: os) E M Q := by
  intro a w e hh he
  have hw : Region.wanted { dst := Option.none, op := op, type := ty, pos := pos, after := after, guard := some (j, b) } (yielded ops a.tmps) = false := by
    simp [Region.wanted, yields he hj htj hv]
    simpa using hne
  unfold wpListIn
  rw [if_neg (by rw [hw]; simp)]
  exact ⟨fun _ _ => trivial, k _ w e hh he⟩

/-- One whose guard was passed over itself. -/
theorem yields_undef {nt : Nat} {a : Act} {e : Nv} {j t : Nat} (he : Emb nt e M E a) (hj : (ops[j]?).bind (·.dst) = some t) (ht : Nat.blt t nt = true) (hv : E.v t = .lit undef) : yielded ops a.tmps j = none := by
  have h := he.v t
  rw [hv] at h
  simp only [Val] at h
  have ht' : t < a.tmps.size := by rw [he.sz]; simpa [Nat.blt_eq] using ht
  rw [Array.getD_eq_getD_getElem?, Array.getElem?_eq_getElem ht'] at h
  simp at h
  simp [yielded, hj, Array.getElem?_eq_getElem ht', h, undef]
theorem WPL.skipu {j t : Nat} {b : Bool} (hj : (ops[j]?).bind (·.dst) = some t) (htj : Nat.blt t fr.nt = true) (hv : E.v t = .lit undef) (ht : Nat.blt dst fr.nt = true) (k : WPL P cx fr ops os (E.upd dst (.lit undef)) M Q) :
    WPL P cx fr ops ({ dst := some dst, op := op, type := ty, pos := pos, after := after, guard := some (j, b) } :: os) E M Q := by
  intro a w e hh he
  have hw : Region.wanted { dst := some dst, op := op, type := ty, pos := pos, after := after, guard := some (j, b) } (yielded ops a.tmps) = false := by
    simp [Region.wanted, yields_undef he hj htj hv]
  unfold wpListIn
  rw [if_neg (by rw [hw]; simp)]
  exact ⟨fun _ _ => trivial, k _ w e hh (he.put ht (by simp [Val]))⟩

/-- A region in the order of the text. -/
theorem WP.region {id : Nat} {l : List Oper} (h : WPL P cx fr l.toArray l E M Q) : WP P cx fr (.region id l.toArray false) E M Q :=
  fun a w e hh he => wpIn_region_lit (h a w e hh he)
end

/-! ### Regions that draw their order -/

/-- One operation of a region, under a fence: as the kit's, with the round's own meaning. -/
def YieldsF (P : Program) (ops : Array Oper) (S : World → Prop) (o : Oper) (v : Value) (a : Act) : Prop :=
  (Region.wanted o (yielded ops a.tmps) = true ∧ ∀ w, S w → (exec1 a.eval o.op o.type).run P w = .ok (.value v) w) ∨
  (Region.wanted o (yielded ops a.tmps) = false ∧ v = undef)

theorem YieldsF.of_same {P : Program} {ops : Array Oper} {S : World → Prop} {o : Oper} {v : Value} {a a' : Act} (hy : YieldsF P ops S o v a) (he : execOp a'.eval o = execOp a.eval o)
    (hw : Region.wanted o (yielded ops a'.tmps) = Region.wanted o (yielded ops a.tmps)) : YieldsF P ops S o v a' := by
  unfold YieldsF at *
  rw [hw]
  rcases hy with ⟨h1, h2⟩ | h
  · exact .inl ⟨h1, fun w hS => by rw [← execOp_one, he, execOp_one]; exact h2 w hS⟩
  · exact .inr h

section drawn
variable {P : Program} {r : Option Nat} {ops : Array Oper} {Q : Exit → Act → World → Prop} {md : Region.Mode} {S : World → Prop}

theorem YieldsF.wpOp {i : Nat} {o : Oper} {v : Value} {a : Act} (hi : ops[i]? = some o) (hy : YieldsF P ops S o v a) {K : Act → World → Prop} {w : World} (hS : S w) (h : K (a.put o.dst v) w) :
    wpOpIn (fence r) 0 P ops Q i K a w := by
  unfold wpOpIn
  simp only [hi]
  rcases hy with ⟨hw, hv⟩ | ⟨hw, rfl⟩
  · simp only [hw, if_true]
    refine ⟨fun _ _ => trivial, ?_⟩
    rw [semAt_value (hv w hS)]
    exact h
  · simp only [hw, Bool.false_eq_true, if_false]
    exact ⟨fun _ _ => trivial, h⟩

theorem semAt_put {o : Oper} (hs : ∀ cs b, o.op ≠ .select cs b) (a : Act) (dst : Option Tmp) (v : Value) (h : ∀ d, dst = some d → d ∉ o.looksAt ops) :
    o.semAt r (a.put dst v).eval = o.semAt r a.eval := by
  have hall : ∀ x ∈ o.op.operands, (a.put dst v).eval x = a.eval x := by
    intro x hx
    apply Act.eval_put
    intro d hd hxd
    subst hxd
    exact h d hd (by
      unfold Oper.looksAt
      exact List.mem_append_left _ (List.mem_filterMap.2 ⟨_, by simpa using hx, rfl⟩))
  unfold Oper.semAt
  cases r with
  | none => exact execOp_congr o hs hall
  | some l =>
    cases hop : o.op with
    | defer c =>
      simp only
      rw [resolve_congr c o.type (fun x hx => hall x (by rw [hop]; exact hx))]
    | _ => exact execOp_congr o hs hall

theorem wpOp_putF {j : Nat} {oi oj : Oper} {v : Value} (hj : ops[j]? = some oj) (hap : oi.apart ops oj = true)
    (hsi : ∀ cs b, oi.op ≠ .select cs b) (hsj : ∀ cs b, oj.op ≠ .select cs b)
    (hQ : ∀ c a w, Q (.panic c) (a.put oi.dst v) w → Q (.panic c) a w) (hO : ¬ LetsOut Q) {K : Act → World → Prop} {a : Act} {w : World}
    (hy : YieldsF P ops S oi v a) (h : wpOpIn (fence r) 0 P ops Q j K (a.put oi.dst v) w) :
    wpOpIn (fence r) 0 P ops Q j (fun a' w' => YieldsF P ops S oi v a' ∧ K (a'.put oi.dst v) w') a w := by
  obtain ⟨h1, h2, h3⟩ := Oper.apart_spec hap
  have keep : ∀ (a : Act), YieldsF P ops S oi v a → ∀ u, YieldsF P ops S oi v (a.put oj.dst u) := fun a hy u =>
    hy.of_same (execOp_put oi hsi a oj.dst u h3) (wanted_put oi a oj.dst u h3)
  have keepD : ∀ d, YieldsF P ops S oi v { a with defers := d :: a.defers } := fun d => hy.of_same rfl rfl
  unfold wpOpIn at *
  simp only [hj] at *
  rw [wanted_put oj a oi.dst v h1] at h
  split
  · rename_i hw
    simp only [hw, if_true] at h
    refine ⟨fun _ _ => trivial, ?_⟩
    have h' := h.2
    rw [semAt_put hsj a oi.dst v h1] at h'
    generalize (oj.semAt r a.eval).run P w = rr at h' ⊢
    cases rr with
    | ok n w' =>
      cases n <;> simp only [Oper.uponIn] at h' ⊢
      case value u => exact ⟨keep a hy u, by rw [← Act.put_comm a v u h2]; exact h'⟩
      case skip => exact ⟨keep a hy _, by rw [← Act.put_comm a v undef h2]; exact h'⟩
      case defer d =>
        refine ⟨keep _ (keepD d) _, ?_⟩
        rw [← Act.put_comm _ v undef h2, ← Act.put_defers]
        exact h'
      case enter f args =>
        refine ⟨h'.1, CallsIn.mono h'.2 fun e w'' he => ?_⟩
        cases e with
        | returned u => exact ⟨keep a hy u, by rw [← Act.put_comm a v u h2]; exact he⟩
        | panicked c => exact hQ _ _ _ he
        | outgrown => exact he
      case row row args => exact ⟨h'.1, RowsIn.mono h'.2 fun u w'' he => ⟨keep a hy u, by rw [← Act.put_comm a v u h2]; exact he⟩⟩
      case round l f tmps assign body =>
        refine ⟨h'.1, RoundIn.mono h'.2 fun e w'' he => ?_⟩
        cases e with
        | returned u => exact ⟨keep a hy u, by rw [← Act.put_comm a v u h2]; exact he⟩
        | panicked c => exact hQ _ _ _ he
        | outgrown => exact he
    | halt x w' =>
      cases x <;> simp only [Oper.uponIn] at h' ⊢
      case panic u => exact hQ _ _ _ h'
  · rename_i hw
    simp only [hw] at h
    exact ⟨fun _ _ => trivial, keep a hy _, by rw [← Act.put_comm a v undef h2]; exact h.2⟩

/-- Whatever order is picked from here on: 'S0' holds behind every operation that is carried out. -/
def wpAnyG (P : Program) (r : Option Nat) (md : Region.Mode) (ops : Array Oper) (Q : Exit → Act → World → Prop) (S0 : World → Prop) : Nat → Array Bool → Act → World → Prop
  | 0, listed, a, w => Region.ready md ops listed = [] ∧ Q .normal a w
  | fuel + 1, listed, a, w =>
    (Region.ready md ops listed = [] → Q .normal a w) ∧
    ∀ i ∈ Region.ready md ops listed, wpOpIn (fence r) 0 P ops Q i (fun a' w' => S0 w' ∧ wpAnyG P r md ops Q S0 fuel (listed.setIfInBounds i true) a' w') a w

/-- Whatever order is picked from here on: 'S' holds behind every operation that is carried out, till one of X is; 'S0' always. -/
def wpAnyF (P : Program) (r : Option Nat) (md : Region.Mode) (ops : Array Oper) (Q : Exit → Act → World → Prop) (S0 S : World → Prop) (X : List Nat) : Nat → Array Bool → Act → World → Prop
  | 0, listed, a, w => Region.ready md ops listed = [] ∧ Q .normal a w
  | fuel + 1, listed, a, w =>
    (Region.ready md ops listed = [] → Q .normal a w) ∧
    ∀ i ∈ Region.ready md ops listed, wpOpIn (fence r) 0 P ops Q i (fun a' w' => (X.contains i = true ∧ S0 w' ∧ wpAnyG P r md ops Q S0 fuel (listed.setIfInBounds i true) a' w') ∨
      (X.contains i = false ∧ S w' ∧ wpAnyF P r md ops Q S0 S X fuel (listed.setIfInBounds i true) a' w')) a w

theorem wpAny_of_G {S0 : World → Prop} : ∀ (fuel : Nat) (listed : Array Bool) (a : Act) (w : World), wpAnyG P r md ops Q S0 fuel listed a w → wpAnyIn (fence r) 0 P md ops Q fuel listed a w
  | 0, _, _, _, h => h
  | fuel + 1, _, _, _, h => ⟨h.1, fun i hi => wpOpIn_mono (fun a' w' h' => wpAny_of_G fuel _ a' w' h'.2) (h.2 i hi)⟩

theorem wpAny_of_F {S0 : World → Prop} {X : List Nat} : ∀ (fuel : Nat) (listed : Array Bool) (a : Act) (w : World), wpAnyF P r md ops Q S0 S X fuel listed a w → wpAnyIn (fence r) 0 P md ops Q fuel listed a w
  | 0, _, _, _, h => h
  | fuel + 1, _, _, _, h => ⟨h.1, fun i hi => wpOpIn_mono (fun a' w' h' => h'.elim (fun h => wpAny_of_G fuel _ a' w' h.2.2) (fun h => wpAny_of_F fuel _ a' w' h.2.2)) (h.2 i hi)⟩

theorem wpAnyG_mono {S0 S0' : World → Prop} (h0 : ∀ w, S0 w → S0' w) : ∀ (fuel : Nat) (listed : Array Bool) (a : Act) (w : World), wpAnyG P r md ops Q S0 fuel listed a w → wpAnyG P r md ops Q S0' fuel listed a w
  | 0, _, _, _, h => h
  | fuel + 1, _, _, _, h => ⟨h.1, fun i hi => wpOpIn_mono (fun a' w' h' => ⟨h0 _ h'.1, wpAnyG_mono h0 fuel _ a' w' h'.2⟩) (h.2 i hi)⟩

theorem wpAnyG_of_F {S0 S0' : World → Prop} {X : List Nat} (h0 : ∀ w, S0 w → S0' w) (hs : ∀ w, S w → S0' w) : ∀ (fuel : Nat) (listed : Array Bool) (a : Act) (w : World), wpAnyF P r md ops Q S0 S X fuel listed a w → wpAnyG P r md ops Q S0' fuel listed a w
  | 0, _, _, _, h => h
  | fuel + 1, _, _, _, h => ⟨h.1, fun i hi => wpOpIn_mono (fun a' w' h' => by
      rcases h' with ⟨h1, h2, h3⟩ | ⟨h1, h2, h3⟩
      · exact ⟨h0 _ h2, wpAnyG_mono h0 fuel _ a' w' h3⟩
      · exact ⟨hs _ h2, wpAnyG_of_F h0 hs fuel _ a' w' h3⟩) (h.2 i hi)⟩

theorem wpAnyF_mono {S0 S0' S' : World → Prop} {X X' : List Nat} (h0 : ∀ w, S0 w → S0' w) (hs0 : ∀ w, S w → S0' w) (hS : ∀ w, S w → S' w) (hX : ∀ i, X.contains i = true → X'.contains i = true) : ∀ (fuel : Nat) (listed : Array Bool) (a : Act) (w : World), wpAnyF P r md ops Q S0 S X fuel listed a w → wpAnyF P r md ops Q S0' S' X' fuel listed a w
  | 0, _, _, _, h => h
  | fuel + 1, _, _, _, h => ⟨h.1, fun i hi => wpOpIn_mono (fun a' w' h' => by
      rcases h' with ⟨h1, h2, h3⟩ | ⟨h1, h2, h3⟩
      · exact .inl ⟨hX i h1, h0 _ h2, wpAnyG_mono h0 fuel _ a' w' h3⟩
      · cases hx : X'.contains i with
        | true => exact .inl ⟨rfl, hs0 _ h2, wpAnyG_of_F h0 hs0 fuel _ a' w' h3⟩
        | false => exact .inr ⟨rfl, hS _ h2, wpAnyF_mono h0 hs0 hS hX fuel _ a' w' h3⟩) (h.2 i hi)⟩

/-- j comes behind i, by way of operations that have not come up. -/
def behind (md : Region.Mode) (ops : Array Oper) (listed : Array Bool) (i : Nat) : Nat → Nat → Bool
  | 0, _ => false
  | n + 1, j => match ops[j]? with
    | some oj => oj.after.any fun e => Region.binds md e && (e.on == i || (!(listed.getD e.on true) && behind md ops listed i n e.on))
    | none => false

theorem behind_not_ready {listed : Array Bool} {i n j : Nat} (hi : listed.getD i true = false) (h : behind md ops listed i n j = true) : j ∉ Region.ready md ops listed := by
  intro hj
  obtain ⟨hjun, oj, hoj, hall⟩ := mem_ready.1 hj
  have key : ∀ k, listed.getD k true = false → listed.getD k false = true → False := fun k h0 h1 => by
    simp only [Array.getD_eq_getD_getElem?] at h0 h1
    cases hk : listed[k]? with
    | none => rw [hk] at h0; simp at h0
    | some b => rw [hk] at h0 h1; simp at h0 h1; rw [h0] at h1; cases h1
  cases n with
  | zero => simp [behind] at h
  | succ n =>
    simp only [behind, hoj] at h
    obtain ⟨e, he, hb⟩ := Array.any_eq_true'.1 h
    simp only [Bool.and_eq_true, Bool.or_eq_true, beq_iff_eq, Bool.not_eq_true'] at hb
    have h1 := hall e he hb.1
    rcases hb.2 with h2 | h2
    · rw [h2] at h1; exact key i hi h1
    · exact key e.on h2.1 h1

theorem behind_set {listed : Array Bool} {i j : Nat} (hi : listed.getD i true = false) (hj : j ∈ Region.ready md ops listed) : ∀ {n k : Nat}, behind md ops listed i n k = true → behind md ops (listed.setIfInBounds j true) i n k = true
  | 0, _, h => by simp [behind] at h
  | n + 1, k, h => by
    simp only [behind] at h ⊢
    cases hk : ops[k]? with
    | none => rw [hk] at h; simp at h
    | some ok =>
      rw [hk] at h
      simp only at h ⊢
      obtain ⟨e, he, hb⟩ := Array.any_eq_true'.1 h
      simp only [Bool.and_eq_true, Bool.or_eq_true, beq_iff_eq, Bool.not_eq_true'] at hb
      refine Array.any_eq_true'.2 ⟨e, he, ?_⟩
      simp only [Bool.and_eq_true, Bool.or_eq_true, beq_iff_eq, Bool.not_eq_true']
      refine ⟨hb.1, hb.2.imp id fun h2 => ⟨?_, behind_set hi hj h2.2⟩⟩
      have hne : j ≠ e.on := fun hje => behind_not_ready hi h2.2 (hje ▸ hj)
      rw [getD_set_ne true hne]
      exact h2.1

/-- An operation that may come up now may be taken first. -/
theorem wpAnyG_first {S0 : World → Prop} {i : Nat} {oi : Oper} {v : Value} (hi : ops[i]? = some oi) (hsel : ∀ (j : Nat) (o : Oper) cs b, ops[j]? = some o → o.op ≠ .select cs b)
    (hQ : ∀ c a w, Q (.panic c) (a.put oi.dst v) w → Q (.panic c) a w) (hO : ¬ LetsOut Q) :
    ∀ (fuel : Nat) (listed : Array Bool) (a : Act) (w : World),
      (∀ j oj, ops[j]? = some oj → j ≠ i → listed.getD j true = false → (∀ e ∈ oj.after, Region.binds md e = true → e.on ≠ i) → oi.apart ops oj = true) →
      i ∈ Region.ready md ops listed → YieldsF P ops S0 oi v a → S0 w →
      wpAnyG P r md ops Q S0 fuel (listed.setIfInBounds i true) (a.put oi.dst v) w → wpAnyG P r md ops Q S0 (fuel + 1) listed a w := by
  intro fuel
  induction fuel with
  | zero =>
    intro listed a w _ hr hy hS H
    refine ⟨fun h => (by rw [h] at hr; cases hr), fun j hj => ?_⟩
    by_cases hji : j = i
    · subst hji; exact hy.wpOp hi hS ⟨hS, H⟩
    · have := ready_mono hj hji
      rw [H.1] at this
      cases this
  | succ fuel ih =>
    intro listed a w hfree hr hy hS H
    refine ⟨fun h => (by rw [h] at hr; cases hr), fun j hj => ?_⟩
    by_cases hji : j = i
    · subst hji; exact hy.wpOp hi hS ⟨hS, H⟩
    · have h1 := H.2 j (ready_mono hj hji)
      obtain ⟨hjun, oj, hoj, hall⟩ := mem_ready.1 hj
      have hnot : ∀ e ∈ oj.after, Region.binds md e = true → e.on ≠ i := fun e he hb heq => by
        have h1 := hall e he hb
        have h0 := (mem_ready.1 hr).1
        rw [heq] at h1
        rcases Nat.lt_or_ge i listed.size with h' | h'
        · simp [h'] at h0 h1; rw [h0] at h1; cases h1
        · simp [Array.getElem?_eq_none h'] at h1
      have h2 := wpOp_putF hoj (hfree j oj hoj hji hjun hnot) (fun cs b => hsel i oi cs b hi) (fun cs b => hsel j oj cs b hoj) hQ hO hy h1
      have hun' : ∀ k, (listed.setIfInBounds j true).getD k true = false → listed.getD k true = false := fun k hun => by
        by_cases hjk : j = k
        · subst hjk; exact hjun
        · rw [getD_set_ne true hjk] at hun; exact hun
      refine wpOpIn_mono (fun a' w' h3 => ?_) h2
      obtain ⟨h4, h5⟩ := h3.2
      refine ⟨h4, ih (listed.setIfInBounds j true) a' w' (fun k ok hk hki hun hno => hfree k ok hk hki (hun' k hun) hno) (ready_mono hr (Ne.symm hji)) h3.1 h4 ?_⟩
      rw [Array.setIfInBounds_comm _ _ hji]
      exact h5

/-- The same, of one that yields what it yields behind X too. -/
theorem wpAnyF_firstT {S0 : World → Prop} {X : List Nat} {i : Nat} {oi : Oper} {v : Value} (hi : ops[i]? = some oi) (hsel : ∀ (j : Nat) (o : Oper) cs b, ops[j]? = some o → o.op ≠ .select cs b)
    (hQ : ∀ c a w, Q (.panic c) (a.put oi.dst v) w → Q (.panic c) a w) (hO : ¬ LetsOut Q) (hss : ∀ w, S w → S0 w) :
    ∀ (fuel : Nat) (listed : Array Bool) (a : Act) (w : World),
      (∀ j oj, ops[j]? = some oj → j ≠ i → listed.getD j true = false → (∀ e ∈ oj.after, Region.binds md e = true → e.on ≠ i) → oi.apart ops oj = true) →
      i ∈ Region.ready md ops listed → YieldsF P ops S0 oi v a → S w → X.contains i = false →
      wpAnyF P r md ops Q S0 S X fuel (listed.setIfInBounds i true) (a.put oi.dst v) w → wpAnyF P r md ops Q S0 S X (fuel + 1) listed a w := by
  intro fuel
  induction fuel with
  | zero =>
    intro listed a w _ hr hy hS hiX H
    refine ⟨fun h => (by rw [h] at hr; cases hr), fun j hj => ?_⟩
    by_cases hji : j = i
    · subst hji; exact hy.wpOp hi (hss _ hS) (.inr ⟨hiX, hS, H⟩)
    · have := ready_mono hj hji
      rw [H.1] at this
      cases this
  | succ fuel ih =>
    intro listed a w hfree hr hy hS hiX H
    refine ⟨fun h => (by rw [h] at hr; cases hr), fun j hj => ?_⟩
    by_cases hji : j = i
    · subst hji; exact hy.wpOp hi (hss _ hS) (.inr ⟨hiX, hS, H⟩)
    · have h1 := H.2 j (ready_mono hj hji)
      obtain ⟨hjun, oj, hoj, hall⟩ := mem_ready.1 hj
      have hnot : ∀ e ∈ oj.after, Region.binds md e = true → e.on ≠ i := fun e he hb heq => by
        have h1 := hall e he hb
        have h0 := (mem_ready.1 hr).1
        rw [heq] at h1
        rcases Nat.lt_or_ge i listed.size with h' | h'
        · simp [h'] at h0 h1; rw [h0] at h1; cases h1
        · simp [Array.getElem?_eq_none h'] at h1
      have h2 := wpOp_putF hoj (hfree j oj hoj hji hjun hnot) (fun cs b => hsel i oi cs b hi) (fun cs b => hsel j oj cs b hoj) hQ hO hy h1
      have hun' : ∀ k, (listed.setIfInBounds j true).getD k true = false → listed.getD k true = false := fun k hun => by
        by_cases hjk : j = k
        · subst hjk; exact hjun
        · rw [getD_set_ne true hjk] at hun; exact hun
      have hf' : ∀ k ok, ops[k]? = some ok → k ≠ i → (listed.setIfInBounds j true).getD k true = false → (∀ e ∈ ok.after, Region.binds md e = true → e.on ≠ i) → oi.apart ops ok = true := fun k ok hk hki hun hno => hfree k ok hk hki (hun' k hun) hno
      refine wpOpIn_mono (fun a' w' h3 => ?_) h2
      rcases h3.2 with ⟨h4, h5, h6⟩ | ⟨h4, h5, h6⟩
      · refine .inl ⟨h4, h5, wpAnyG_first hi hsel hQ hO fuel (listed.setIfInBounds j true) a' w' hf' (ready_mono hr (Ne.symm hji)) h3.1 h5 ?_⟩
        rw [Array.setIfInBounds_comm _ _ hji]
        exact h6
      · refine .inr ⟨h4, h5, ih (listed.setIfInBounds j true) a' w' hf' (ready_mono hr (Ne.symm hji)) h3.1 h5 hiX ?_⟩
        rw [Array.setIfInBounds_comm _ _ hji]
        exact h6

/-- An operation that may come up now may be taken first. -/
theorem wpAnyF_first {S0 : World → Prop} {X : List Nat} {i : Nat} {oi : Oper} {v : Value} (hi : ops[i]? = some oi) (hsel : ∀ (j : Nat) (o : Oper) cs b, ops[j]? = some o → o.op ≠ .select cs b)
    (hQ : ∀ c a w, Q (.panic c) (a.put oi.dst v) w → Q (.panic c) a w) (hO : ¬ LetsOut Q) :
    ∀ (fuel : Nat) (listed : Array Bool) (a : Act) (w : World),
      (∀ j oj, ops[j]? = some oj → j ≠ i → listed.getD j true = false → (∀ e ∈ oj.after, Region.binds md e = true → e.on ≠ i) → oi.apart ops oj = true) →
      (∀ j, X.contains j = true → j ≠ i → listed.getD j true = false → ∃ n, behind md ops listed i n j = true) →
      i ∈ Region.ready md ops listed → YieldsF P ops S oi v a → S w → X.contains i = false →
      wpAnyF P r md ops Q S0 S X fuel (listed.setIfInBounds i true) (a.put oi.dst v) w → wpAnyF P r md ops Q S0 S X (fuel + 1) listed a w := by
  intro fuel
  induction fuel with
  | zero =>
    intro listed a w _ _ hr hy hS hiX H
    refine ⟨fun h => (by rw [h] at hr; cases hr), fun j hj => ?_⟩
    by_cases hji : j = i
    · subst hji; exact hy.wpOp hi hS (.inr ⟨hiX, hS, H⟩)
    · have := ready_mono hj hji
      rw [H.1] at this
      cases this
  | succ fuel ih =>
    intro listed a w hfree hX hr hy hS hiX H
    refine ⟨fun h => (by rw [h] at hr; cases hr), fun j hj => ?_⟩
    by_cases hji : j = i
    · subst hji; exact hy.wpOp hi hS (.inr ⟨hiX, hS, H⟩)
    · have h1 := H.2 j (ready_mono hj hji)
      obtain ⟨hjun, oj, hoj, hall⟩ := mem_ready.1 hj
      have hnot : ∀ e ∈ oj.after, Region.binds md e = true → e.on ≠ i := fun e he hb heq => by
        have h1 := hall e he hb
        have h0 := (mem_ready.1 hr).1
        rw [heq] at h1
        rcases Nat.lt_or_ge i listed.size with h' | h'
        · simp [h'] at h0 h1; rw [h0] at h1; cases h1
        · simp [Array.getElem?_eq_none h'] at h1
      have hjX : X.contains j = false := by
        cases hc : X.contains j with
        | false => rfl
        | true =>
          obtain ⟨n, hn⟩ := hX j hc hji hjun
          exact absurd hj (behind_not_ready (mem_ready.1 hr).1 hn)
      have h2 := wpOp_putF hoj (hfree j oj hoj hji hjun hnot) (fun cs b => hsel i oi cs b hi) (fun cs b => hsel j oj cs b hoj) hQ hO hy h1
      have hun' : ∀ k, (listed.setIfInBounds j true).getD k true = false → listed.getD k true = false := fun k hun => by
        by_cases hjk : j = k
        · subst hjk; exact hjun
        · rw [getD_set_ne true hjk] at hun; exact hun
      refine wpOpIn_mono (fun a' w' h3 => ?_) h2
      rcases h3.2 with h4 | h4
      · rw [hjX] at h4; cases h4.1
      · refine .inr ⟨hjX, h4.2.1, ih (listed.setIfInBounds j true) a' w' (fun k ok hk hki hun hno => hfree k ok hk hki (hun' k hun) hno) (fun k hkX hki hun => let ⟨n, hn⟩ := hX k hkX hki (hun' k hun); ⟨n, behind_set (mem_ready.1 hr).1 hj hn⟩) (ready_mono hr (Ne.symm hji)) h3.1 h4.2.1 hiX ?_⟩
        rw [Array.setIfInBounds_comm _ _ hji]
        exact h4.2.2
end drawn
end Go.Q
