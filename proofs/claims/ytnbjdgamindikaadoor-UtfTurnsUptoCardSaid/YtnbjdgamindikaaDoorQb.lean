/- The operations that change nothing: what each yields, in abstract values. -/
import Derived.Test.YtnbjdgamindikaaDoorQa
import Derived.Laws.Bits
import Derived.Laws.Tables
namespace Go.Q
open Go
set_option linter.unusedVariables false
set_option linter.unusedSimpArgs false

/-- The operation alone. -/
abbrev exec1 (ρ : Operand → Value) (op : Op) (ty : TypeId) : Sem Next := execOp ρ { dst := Option.none, op := op, type := ty, pos := "", after := #[], guard := Option.none }

theorem execOp_one (ρ : Operand → Value) (o : Oper) : execOp ρ o = exec1 ρ o.op o.type := rfl

/-- Worlds in which what is read is the same. -/
structure Agree (e : Nv) (st : List Nat) (w w1 : World) : Prop where
  ro : ∀ b o, e.m b = some o → w1.heap[b]? = some o
  bro : ∀ b o, e.bm b = some o → w1.heap[b]? = some o
  own : ∀ i ∈ st, e.vir i = false → w1.heap[e.own i]? = w.heap[e.own i]?

theorem Agree.mem {e : Nv} {st : List Nat} {w w1 : World} (h : Agree e st w w1) {b : Bool} {k : Nat} {o : Obj} (hk : e.mem b k = some o) : w1.heap[k]? = some o := by
  unfold Nv.mem at hk
  cases hm : e.m k with
  | some o1 => rw [hm] at hk; cases hk; exact h.ro _ _ hm
  | none =>
    rw [hm] at hk
    simp only at hk
    split at hk
    · exact h.bro _ _ hk
    · cases hk

theorem Agree.of_hold {cx : Cx} {e : Nv} {M : Mem} {w : World} (h : Hold cx e M w) (st : List Nat) : Agree e st w w := ⟨h.ro, h.bro, fun _ _ _ => rfl⟩

/-- An operation that yields a value and does nothing else, in every world that agrees in what it reads. -/
def Quiet (P : Program) (op : Op) (ty : TypeId) (E : Env) (M : Mem) (st : List Nat) (v : AVal) : Prop :=
  ∀ cx nt a w e, Hold cx e M w → Emb nt e M E a → ∃ x, Val e v x ∧ ∀ w1, Agree e st w w1 → (exec1 a.eval op ty).run P w1 = .ok (.value x) w1

section
variable {P : Program} {ty : TypeId} {E : Env} {M : Mem}

theorem Quiet.weak {op : Op} {st st' : List Nat} {v : AVal} (h : Quiet P op ty E M st v) (hs : ∀ i ∈ st, i ∈ st') : Quiet P op ty E M st' v :=
  fun cx nt a w e hh he => let ⟨x, hv, hr⟩ := h cx nt a w e hh he; ⟨x, hv, fun w1 hw => hr w1 ⟨hw.ro, hw.bro, fun i hi => hw.own i (hs i hi)⟩⟩

theorem q_move (x : Operand) : Quiet P (.move x) ty E M [] (E.ev x) :=
  fun _ _ a _ _ _ he => ⟨a.eval x, he.ev x, fun _ _ => rfl⟩

theorem q_assign (x : Operand) : Quiet P (.assign x) ty E M [] (E.ev x) :=
  fun _ _ a _ _ _ he => ⟨a.eval x, he.ev x, fun _ _ => rfl⟩

theorem ev_lit {nt : Nat} {e : Nv} {a : Act} (he : Emb nt e M E a) {x : Operand} {v : Value} (h : E.ev x = .lit v) : a.eval x = v := by
  have := he.ev x; rw [h] at this; simpa [Val] using this

theorem q_pick {c x y : Operand} {t : Bool} (hc : E.ev c = .lit (.bool t)) : Quiet P (.pick c x y) ty E M [] (bif t then E.ev x else E.ev y) :=
  fun _ _ a _ _ _ he => by
    cases t with
    | true => exact ⟨a.eval x, he.ev x, fun _ _ => by simp [exec1, execOp, ev_lit he hc, asBool]⟩
    | false => exact ⟨a.eval y, he.ev y, fun _ _ => by simp [exec1, execOp, ev_lit he hc, asBool]⟩

/-- A binary operation on two known values, whose run is known in whatever world. -/
theorem q_bin {op : BinOp} {t yt : TypeId} {x y : Operand} {u v r : Value} (hx : E.ev x = .lit u) (hy : E.ev y = .lit v)
    (hg : eqGuard op t x y u v = pure ()) (hr : ∀ w, (binOp op t u v).run P w = .ok r w) : Quiet P (.binOp op t x y yt) ty E M [] (.lit r) :=
  fun _ _ a _ _ _ he => ⟨r, by simp [Val], fun w _ => by
    simp [exec1, execOp, ev_lit he hx, ev_lit he hy, hg, hr]⟩

theorem g_int {op : BinOp} {t : TypeId} {x y : Operand} {k k' : IntKind} {a b : Int} : eqGuard op t x y (.int k a) (.int k' b) = pure () := by cases op <;> rfl
theorem g_bool {op : BinOp} {t : TypeId} {x y : Operand} {a b : Bool} : eqGuard op t x y (.bool a) (.bool b) = pure () := by cases op <;> rfl
theorem g_str {op : BinOp} {t : TypeId} {x y : Operand} {a b : ByteArray} : eqGuard op t x y (.string a) (.string b) = pure () := by cases op <;> rfl
theorem g_ptr {op : BinOp} {t : TypeId} {x y : Operand} {a : Option Addr} {v : Value} : eqGuard op t x y (.pointer a) v = pure () := by cases op <;> rfl
theorem g_slice {op : BinOp} {t : TypeId} {x y : Operand} {a : Option Addr} {n c : Nat} {v : Value} : eqGuard op t x y (.slice a n c) v = pure () := by cases op <;> rfl
theorem g_map {op : BinOp} {t : TypeId} {x y : Operand} {a : Option Nat} {v : Value} : eqGuard op t x y (.map a) v = pure () := by cases op <;> rfl

section ints
variable {t yt : TypeId} {x y : Operand} {k k' : IntKind} {a b : Int}
theorem q_add (hx : E.ev x = .lit (.int k a)) (hy : E.ev y = .lit (.int k b)) : Quiet P (.binOp .add t x y yt) ty E M [] (.lit (.int k (k.wrap (a + b)))) :=
  q_bin hx hy g_int fun w => by simp [binOp, Op.intArith]
theorem q_sub (hx : E.ev x = .lit (.int k a)) (hy : E.ev y = .lit (.int k b)) : Quiet P (.binOp .sub t x y yt) ty E M [] (.lit (.int k (k.wrap (a - b)))) :=
  q_bin hx hy g_int fun w => by simp [binOp, Op.intArith]
theorem q_mul (hx : E.ev x = .lit (.int k a)) (hy : E.ev y = .lit (.int k b)) : Quiet P (.binOp .mul t x y yt) ty E M [] (.lit (.int k (k.wrap (a * b)))) :=
  q_bin hx hy g_int fun w => by simp [binOp, Op.intArith]
theorem q_quo (hx : E.ev x = .lit (.int k a)) (hy : E.ev y = .lit (.int k b)) (h0 : (b == 0) = false) : Quiet P (.binOp .quo t x y yt) ty E M [] (.lit (.int k (k.wrap (a.tdiv b)))) :=
  q_bin hx hy g_int fun w => by have : b ≠ 0 := by simpa using h0
                                simp [binOp, Op.intDiv, this]
theorem q_rem (hx : E.ev x = .lit (.int k a)) (hy : E.ev y = .lit (.int k b)) (h0 : (b == 0) = false) : Quiet P (.binOp .rem t x y yt) ty E M [] (.lit (.int k (a.tmod b))) :=
  q_bin hx hy g_int fun w => by have : b ≠ 0 := by simpa using h0
                                simp [binOp, Op.intDiv, this]
theorem q_and (hx : E.ev x = .lit (.int k a)) (hy : E.ev y = .lit (.int k b)) : Quiet P (.binOp .and t x y yt) ty E M [] (.lit (.int k (bits .and k a b))) :=
  q_bin hx hy g_int fun w => by simp [binOp, intBits_and]
theorem q_or (hx : E.ev x = .lit (.int k a)) (hy : E.ev y = .lit (.int k b)) : Quiet P (.binOp .or t x y yt) ty E M [] (.lit (.int k (bits .or k a b))) :=
  q_bin hx hy g_int fun w => by simp [binOp, intBits_or]
theorem q_xor (hx : E.ev x = .lit (.int k a)) (hy : E.ev y = .lit (.int k b)) : Quiet P (.binOp .xor t x y yt) ty E M [] (.lit (.int k (bits .xor k a b))) :=
  q_bin hx hy g_int fun w => by simp [binOp, intBits_xor]
theorem q_andNot (hx : E.ev x = .lit (.int k a)) (hy : E.ev y = .lit (.int k b)) : Quiet P (.binOp .andNot t x y yt) ty E M [] (.lit (.int k (bits .andNot k a b))) :=
  q_bin hx hy g_int fun w => by simp [binOp, Op.intBits, bits]
def shlI (k : IntKind) (a b : Int) : Int := k.wrap (a * 2 ^ (min b.toNat k.bits))
def shrI (k : IntKind) (a b : Int) : Int := a.fdiv (2 ^ (min b.toNat k.bits))
theorem q_shl (hx : E.ev x = .lit (.int k a)) (hy : E.ev y = .lit (.int k' b)) (h0 : decide (0 ≤ b) = true) : Quiet P (.binOp .shl t x y yt) ty E M [] (.lit (.int k (shlI k a b))) :=
  q_bin hx hy g_int fun w => by have : ¬ b < 0 := by have := of_decide_eq_true h0; omega
                                simp [binOp, Op.shift, this, shlI]
theorem q_shr (hx : E.ev x = .lit (.int k a)) (hy : E.ev y = .lit (.int k' b)) (h0 : decide (0 ≤ b) = true) : Quiet P (.binOp .shr t x y yt) ty E M [] (.lit (.int k (shrI k a b))) :=
  q_bin hx hy g_int fun w => by have : ¬ b < 0 := by have := of_decide_eq_true h0; omega
                                simp [binOp, Op.shift, this, shrI]
theorem q_eql (hx : E.ev x = .lit (.int k a)) (hy : E.ev y = .lit (.int k b)) : Quiet P (.binOp .eql t x y yt) ty E M [] (.lit (.bool (decide (a = b)))) :=
  q_bin hx hy g_int fun w => by simp [binOp, Op.intCmp]; rfl
theorem q_neq (hx : E.ev x = .lit (.int k a)) (hy : E.ev y = .lit (.int k b)) : Quiet P (.binOp .neq t x y yt) ty E M [] (.lit (.bool (!decide (a = b)))) :=
  q_bin hx hy g_int fun w => by simp [binOp, Op.intCmp]; rfl
theorem q_lss (hx : E.ev x = .lit (.int k a)) (hy : E.ev y = .lit (.int k b)) : Quiet P (.binOp .lss t x y yt) ty E M [] (.lit (.bool (decide (a < b)))) :=
  q_bin hx hy g_int fun w => by simp [binOp, Op.intCmp]
theorem q_leq (hx : E.ev x = .lit (.int k a)) (hy : E.ev y = .lit (.int k b)) : Quiet P (.binOp .leq t x y yt) ty E M [] (.lit (.bool (decide (a ≤ b)))) :=
  q_bin hx hy g_int fun w => by simp [binOp, Op.intCmp]
theorem q_gtr (hx : E.ev x = .lit (.int k a)) (hy : E.ev y = .lit (.int k b)) : Quiet P (.binOp .gtr t x y yt) ty E M [] (.lit (.bool (decide (b < a)))) :=
  q_bin hx hy g_int fun w => by simp [binOp, Op.intCmp]
theorem q_geq (hx : E.ev x = .lit (.int k a)) (hy : E.ev y = .lit (.int k b)) : Quiet P (.binOp .geq t x y yt) ty E M [] (.lit (.bool (decide (b ≤ a)))) :=
  q_bin hx hy g_int fun w => by simp [binOp, Op.intCmp]
theorem q_neg (hx : E.ev x = .lit (.int k a)) : Quiet P (.unOp .neg t x) ty E M [] (.lit (.int k (k.wrap (0 - a)))) :=
  fun _ _ _ _ _ _ he => ⟨.int k (k.wrap (0 - a)), by simp [Val], fun w _ => by simp [exec1, execOp, ev_lit he hx, Op.unary, Op.intArith]⟩
theorem q_not {b : Bool} (hx : E.ev x = .lit (.bool b)) : Quiet P (.unOp .not t x) ty E M [] (.lit (.bool (!b))) :=
  fun _ _ _ _ _ _ he => ⟨.bool (!b), by simp [Val], fun w _ => by simp [exec1, execOp, ev_lit he hx, Op.unary]⟩
theorem q_com (hx : E.ev x = .lit (.int k a)) : Quiet P (.unOp .xor t x) ty E M [] (.lit (.int k (bits .xor k (if k.signed then -1 else k.max) a))) :=
  fun _ _ _ _ _ _ he => ⟨.int k (bits .xor k (if k.signed then -1 else k.max) a), by simp [Val], fun w _ => by simp [exec1, execOp, ev_lit he hx, Op.unary, intBits_xor]⟩
theorem q_conv {src dst : TypeId} {s : TypeDesc} (hs : P.underlying src = some s) (hd : P.underlying dst = some (.int k')) (hx : E.ev x = .lit (.int k a)) :
    Quiet P (.convert src dst x) ty E M [] (.lit (.int k' (k'.wrap a))) :=
  fun _ _ _ _ _ _ he => ⟨.int k' (k'.wrap a), by simp [Val], fun w _ => by
    simp [exec1, execOp, ev_lit he hx, convert, run_underlying hs, run_underlying hd, Conv.intToInt]⟩
theorem q_min (hx : E.ev x = .lit (.int k a)) (hy : E.ev y = .lit (.int k b)) {tys : Array TypeId} :
    Quiet P (.call { callee := .builtin .min, args := #[x, y], argTypes := tys }) ty E M [] (.lit (.int k (if b < a then b else a))) :=
  fun _ _ _ _ _ _ he => ⟨.int k (if b < a then b else a), by simp [Val], fun w _ => by
    simp [exec1, execOp, resolve, invoke, builtin, Builtin.min_, Builtin.min2, ev_lit he hx, ev_lit he hy]⟩
theorem q_max (hx : E.ev x = .lit (.int k a)) (hy : E.ev y = .lit (.int k b)) {tys : Array TypeId} :
    Quiet P (.call { callee := .builtin .max, args := #[x, y], argTypes := tys }) ty E M [] (.lit (.int k (if b > a then b else a))) :=
  fun _ _ _ _ _ _ he => ⟨.int k (if b > a then b else a), by simp [Val], fun w _ => by
    simp [exec1, execOp, resolve, invoke, builtin, Builtin.max_, Builtin.max2, ev_lit he hx, ev_lit he hy]⟩
end ints

section others
variable {t yt : TypeId} {x y : Operand}
theorem equal_eq (t : TypeId) (x y : Value) : Op.equal t x y = Op.equalIn (9999 + 1) t x y := rfl
theorem run_equal_bool {a b : Bool} {w : World} (ht : P.underlying t = some .bool) : (Op.equal t (.bool a) (.bool b)).run P w = .ok (a == b) w := by
  rw [equal_eq, Op.equalIn]
  simp only [Sem.run_bind, run_underlying ht, Result.andThen, Sem.run_pure]
theorem run_equal_ptr {el : TypeId} {a : Addr} {w : World} (ht : P.underlying t = some (.pointer el)) : (Op.equal t (.pointer (some a)) (.pointer Option.none)).run P w = .ok false w := by
  rw [equal_eq, Op.equalIn]
  simp only [Sem.run_bind, run_underlying ht, Result.andThen, Sem.run_pure]
theorem run_equal_nil {el : TypeId} {w : World} (ht : P.underlying t = some (.pointer el)) : (Op.equal t (.pointer Option.none) (.pointer Option.none)).run P w = .ok true w := by
  rw [equal_eq, Op.equalIn]
  simp only [Sem.run_bind, run_underlying ht, Result.andThen, Sem.run_pure, Option.isNone_none]
theorem run_eql_ptr {el : TypeId} {a : Addr} {w : World} (ht : P.underlying t = some (.pointer el)) : (binOp .eql t (.pointer (some a)) (.pointer Option.none)).run P w = .ok (.bool false) w := by
  simp only [binOp, Sem.run_bind, run_equal_ptr ht, Result.andThen, Sem.run_pure]
theorem run_neq_ptr {el : TypeId} {a : Addr} {w : World} (ht : P.underlying t = some (.pointer el)) : (binOp .neq t (.pointer (some a)) (.pointer Option.none)).run P w = .ok (.bool true) w := by
  simp only [binOp, Sem.run_bind, run_equal_ptr ht, Result.andThen, Sem.run_pure, Bool.not_false]
theorem run_eql_nil {el : TypeId} {w : World} (ht : P.underlying t = some (.pointer el)) : (binOp .eql t (.pointer Option.none) (.pointer Option.none)).run P w = .ok (.bool true) w := by
  simp only [binOp, Sem.run_bind, run_equal_nil ht, Result.andThen, Sem.run_pure]
theorem run_neq_nil {el : TypeId} {w : World} (ht : P.underlying t = some (.pointer el)) : (binOp .neq t (.pointer Option.none) (.pointer Option.none)).run P w = .ok (.bool false) w := by
  simp only [binOp, Sem.run_bind, run_equal_nil ht, Result.andThen, Sem.run_pure, Bool.not_true]
theorem q_eqlb {a b : Bool} (ht : P.underlying t = some .bool) (hx : E.ev x = .lit (.bool a)) (hy : E.ev y = .lit (.bool b)) : Quiet P (.binOp .eql t x y yt) ty E M [] (.lit (.bool (a == b))) :=
  q_bin hx hy g_bool fun w => by simp [binOp, run_equal_bool ht]
theorem q_neqb {a b : Bool} (ht : P.underlying t = some .bool) (hx : E.ev x = .lit (.bool a)) (hy : E.ev y = .lit (.bool b)) : Quiet P (.binOp .neq t x y yt) ty E M [] (.lit (.bool (!(a == b)))) :=
  q_bin hx hy g_bool fun w => by simp [binOp, run_equal_bool ht]
theorem q_eqls {a b : ByteArray} (hx : E.ev x = .lit (.string a)) (hy : E.ev y = .lit (.string b)) : Quiet P (.binOp .eql t x y yt) ty E M [] (.lit (.bool (a.toList == b.toList))) :=
  q_bin hx hy g_str fun w => by simp [binOp, Op.stringOp]
theorem q_neqs {a b : ByteArray} (hx : E.ev x = .lit (.string a)) (hy : E.ev y = .lit (.string b)) : Quiet P (.binOp .neq t x y yt) ty E M [] (.lit (.bool (!(a.toList == b.toList)))) :=
  q_bin hx hy g_str fun w => by simp [binOp, Op.stringOp]
theorem q_lsss {a b : ByteArray} (hx : E.ev x = .lit (.string a)) (hy : E.ev y = .lit (.string b)) : Quiet P (.binOp .lss t x y yt) ty E M [] (.lit (.bool (Op.bytesLess a.toList b.toList))) :=
  q_bin hx hy g_str fun w => by simp [binOp, Op.stringOp]
end others

theorem eval_const (a : Act) (v : Value) : a.eval (.const v) = v := rfl

section nils
variable {t yt : TypeId} {x y : Operand} {el : TypeId}
/-- A pointer of our own is not nil. -/
theorem q_eqlp {i off : Nat} (ht : P.underlying t = some (.pointer el)) (hx : E.ev x = .ptr i off) : Quiet P (.binOp .eql t x (.const (.pointer Option.none)) yt) ty E M [] (.lit (.bool false)) :=
  fun _ _ a _ _ _ he => ⟨.bool false, by simp [Val], fun w _ => by
    have hv := he.ev x; rw [hx] at hv; simp only [Val] at hv
    simp only [exec1, execOp, hv.2.2, g_ptr, eval_const, Sem.run_bind, Sem.run_pure, Result.andThen, run_eql_ptr ht]⟩
theorem q_neqp {i off : Nat} (ht : P.underlying t = some (.pointer el)) (hx : E.ev x = .ptr i off) : Quiet P (.binOp .neq t x (.const (.pointer Option.none)) yt) ty E M [] (.lit (.bool true)) :=
  fun _ _ a _ _ _ he => ⟨.bool true, by simp [Val], fun w _ => by
    have hv := he.ev x; rw [hx] at hv; simp only [Val] at hv
    simp only [exec1, execOp, hv.2.2, g_ptr, eval_const, Sem.run_bind, Sem.run_pure, Result.andThen, run_neq_ptr ht]⟩
theorem q_eqlp_ro {α : Type} {R : Rd α} {b : Bool} {d : α} (ht : P.underlying t = some (.pointer el)) (hx : E.ev x = .ro (Rd.ptr R) b d) : Quiet P (.binOp .eql t x (.const (.pointer Option.none)) yt) ty E M [] (.lit (.bool false)) :=
  fun _ _ a _ _ _ he => ⟨.bool false, by simp [Val], fun w _ => by
    have hv := he.ev x; rw [hx] at hv; simp only [Val, Rd.ptr] at hv
    obtain ⟨_, _, _, _, _, h1, _⟩ := hv
    simp at h1
    simp only [exec1, execOp, h1, g_ptr, eval_const, Sem.run_bind, Sem.run_pure, Result.andThen, run_eql_ptr ht]⟩
theorem q_neqp_ro {α : Type} {R : Rd α} {b : Bool} {d : α} (ht : P.underlying t = some (.pointer el)) (hx : E.ev x = .ro (Rd.ptr R) b d) : Quiet P (.binOp .neq t x (.const (.pointer Option.none)) yt) ty E M [] (.lit (.bool true)) :=
  fun _ _ a _ _ _ he => ⟨.bool true, by simp [Val], fun w _ => by
    have hv := he.ev x; rw [hx] at hv; simp only [Val, Rd.ptr] at hv
    obtain ⟨_, _, _, _, _, h1, _⟩ := hv
    simp at h1
    simp only [exec1, execOp, h1, g_ptr, eval_const, Sem.run_bind, Sem.run_pure, Result.andThen, run_neq_ptr ht]⟩
theorem q_eqlp_nil (ht : P.underlying t = some (.pointer el)) (hx : E.ev x = .lit (.pointer Option.none)) : Quiet P (.binOp .eql t x (.const (.pointer Option.none)) yt) ty E M [] (.lit (.bool true)) :=
  q_bin hx rfl g_ptr fun w => run_eql_nil ht
theorem q_neqp_nil (ht : P.underlying t = some (.pointer el)) (hx : E.ev x = .lit (.pointer Option.none)) : Quiet P (.binOp .neq t x (.const (.pointer Option.none)) yt) ty E M [] (.lit (.bool false)) :=
  q_bin hx rfl g_ptr fun w => run_neq_nil ht

theorem q_nilCheck {i off : Nat} (hx : E.ev x = .ptr i off) : Quiet P (.nilCheck x) ty E M [] (.ptr i off) :=
  fun _ _ a _ _ _ he => ⟨a.eval x, by have := he.ev x; rwa [hx] at this, fun w _ => by
    have hv := he.ev x; rw [hx] at hv; simp only [Val] at hv
    simp [exec1, execOp, hv.2.2]⟩
theorem q_nilCheck_ro {α : Type} {R : Rd α} {b : Bool} {d : α} (hx : E.ev x = .ro (Rd.ptr R) b d) : Quiet P (.nilCheck x) ty E M [] (.ro (Rd.ptr R) b d) :=
  fun _ _ a _ _ _ he => ⟨a.eval x, by have := he.ev x; rwa [hx] at this, fun w _ => by
    have hv := he.ev x; rw [hx] at hv; simp only [Val, Rd.ptr] at hv
    obtain ⟨_, _, _, _, _, h1, _⟩ := hv
    simp at h1
    simp [exec1, execOp, h1]⟩
theorem q_nilCheck_fn {f : FuncId} {l : List AVal} (hx : E.ev x = .fn f l) : Quiet P (.nilCheck x) ty E M [] (.fn f l) :=
  fun _ _ a _ _ _ he => ⟨a.eval x, by have := he.ev x; rwa [hx] at this, fun w _ => by
    have hv := he.ev x; rw [hx] at hv; simp only [Val] at hv
    obtain ⟨vs, h1, _⟩ := hv
    simp [exec1, execOp, h1]⟩
end nils

/-- What is known of a field: its place, its cells. -/
structure FieldIs (P : Program) (t : TypeId) (k off : Nat) (ft : TypeId) (n : Nat) : Prop where
  h : ∃ fs f i, P.underlying t = some (.struct fs) ∧ fs[k]? = some f ∧ f.offset = off ∧ f.type = ft ∧ P.info? ft = some i ∧ i.size = n

theorem run_sizeOf {t : TypeId} {i : TypeInfo} (h : P.info? t = some i) (w : World) : (sizeOf t).run P w = .ok i.size w := by
  simp [sizeOf, typeInfo, h]

theorem run_fieldAt {t : TypeId} {k off n : Nat} {ft : TypeId} (h : FieldIs P t k off ft n) (hn : n ≠ 0) (b o : Nat) (w : World) :
    (Instr.fieldAt t (.pointer (some ⟨b, o, none⟩)) k).run P w = .ok (.pointer (some ⟨b, o + off, none⟩)) w := by
  obtain ⟨fs, f, i, h1, h2, h3, h4, h5, h6⟩ := h
  subst h3 h4
  have : (sizeOf f.type).run P w = .ok n w := by rw [run_sizeOf h5, h6]
  simp [Instr.fieldAt, run_underlying h1, h2, Instr.sureAddr, fieldPlace, this, hn, Addr.add]

theorem q_fieldAddr {t : TypeId} {k off n : Nat} {ft : TypeId} {x : Operand} {i o : Nat} (h : FieldIs P t k off ft n) (hn : Nat.beq n 0 = false) (hx : E.ev x = .ptr i o) :
    Quiet P (.fieldAddr t x k) ty E M [] (.ptr i (o + off)) :=
  fun _ _ a _ e _ he => by
    have hv := he.ev x; rw [hx] at hv; simp only [Val] at hv
    refine ⟨.pointer (some ⟨e.own i, o + off, Option.none⟩), by simp [Val, hv.1, hv.2.1], fun w _ => ?_⟩
    have hn' : n ≠ 0 := by intro h0; subst h0; simp at hn
    simp [exec1, execOp, hv.2.2, run_fieldAt h hn']

/-- A part of a datum: where it lies in the cells. -/
def PartIs {α β : Type} (R : Rd α) (d : α) (off : Nat) (S : Rd β) (d' : β) : Prop :=
  ∀ m cs, R.ok m d cs → S.ok m d' ((cs.drop off).take S.sz)

theorem PartIs.here {α β : Type} {A : Rd α} {B : Rd β} {d : α × β} : PartIs (Rd.pair A B) d 0 A d.1 := by
  rintro m cs ⟨x, y, rfl, h1, h2⟩
  have := A.len h1
  simpa [List.take_append, this] using h1

theorem PartIs.there {α β γ : Type} {A : Rd α} {B : Rd β} {C : Rd γ} {d : α × β} {x : γ} {off : Nat} (h : PartIs B d.2 off C x) : PartIs (Rd.pair A B) d (A.sz + off) C x := by
  rintro m cs ⟨u, v, rfl, h1, h2⟩
  have := A.len h1
  rw [List.drop_append, ← this, List.drop_of_length_le (by omega)]
  simpa using h m v h2

theorem PartIs.via {α β γ : Type} {A : Rd α} {g : β → α} {C : Rd γ} {d : β} {x : γ} {off : Nat} (h : PartIs A (g d) off C x) : PartIs (Rd.via A g) d off C x := h

theorem q_fieldAddr_ro {α β : Type} {R : Rd α} {S : Rd β} {d : α} {d' : β} {b : Bool} {t : TypeId} {k off n : Nat} {ft : TypeId} {x : Operand} (h : FieldIs P t k off ft n) (hn : Nat.beq n 0 = false)
    (hx : E.ev x = .ro (Rd.ptr R) b d) (hp : PartIs R d off S d') (hz : off + S.sz ≤ R.sz) : Quiet P (.fieldAddr t x k) ty E M [] (.ro (Rd.ptr S) b d') :=
  fun _ _ a _ e _ he => by
    have hv := he.ev x; rw [hx] at hv; simp only [Val, Rd.ptr] at hv
    obtain ⟨bk, o, c, tt, fr, h1, h2, h3⟩ := hv
    simp at h1
    have h4 := hp _ _ h3
    refine ⟨.pointer (some ⟨bk, o + off, Option.none⟩), ?_, fun w _ => ?_⟩
    · simp only [Val, Rd.ptr]
      refine ⟨bk, o + off, c, tt, fr, rfl, h2, ?_⟩
      rw [List.drop_take, List.take_take, List.drop_drop, Nat.min_eq_left (by omega)] at h4
      exact h4
    · have hn' : n ≠ 0 := by intro h0; subst h0; simp at hn
      simp [exec1, execOp, h1, run_fieldAt h hn']

/-- A type of one cell that is no struct and no array. -/
structure Sc (P : Program) (t : TypeId) : Prop where
  h : ∃ d i, P.underlying t = some d ∧ P.info? t = some i ∧ i.size = 1 ∧ (match d with | .struct _ | .array _ _ => False | _ => True)

theorem Sc.isAgg {t : TypeId} (h : Sc P t) (w : World) : (isAgg t).run P w = .ok false w := by
  obtain ⟨d, i, h1, h2, h3, h4⟩ := h
  unfold Go.isAgg
  simp only [Sem.run_bind, run_underlying h1, Result.andThen]
  cases d <;> first | rfl | exact h4.elim

theorem run_loadAt_sc {t : TypeId} (h : Sc P t) {w : World} {b o : Nat} {v : Value} (hc : w.cell? ⟨b, o, none⟩ = some v) :
    (Instr.loadAt t (.pointer (some ⟨b, o, none⟩))).run P w = .ok v w := by
  simp [Instr.loadAt, Instr.sureAddr, loadVar, h.isAgg w, hc]

theorem cell_of {w : World} {b o : Nat} {c : Array Value} {t : TypeId} {fr : Nat × Nat} (h : w.heap[b]? = some (.cells c t fr)) : w.cell? ⟨b, o, none⟩ = c[o]? := by
  simp [World.cell?, h]

theorem Vals.get {e : Nv} : ∀ {l : List AVal} {vs : List Value} {i : Nat} {a : AVal}, Vals e l vs → l[i]? = some a → ∃ v, vs[i]? = some v ∧ Val e a v
  | [], _, i, a, _, h => by simp at h
  | x :: l, vs, i, a, h, hi => by
    simp only [Vals] at h
    obtain ⟨v, ws, rfl, h1, h2⟩ := h
    cases i with
    | zero => simp at hi; subst hi; exact ⟨v, rfl, h1⟩
    | succ i => simpa using Vals.get h2 (by simpa using hi)

theorem Vals.length {e : Nv} : ∀ {l : List AVal} {vs : List Value}, Vals e l vs → vs.length = l.length
  | [], _, h => by simp only [Vals] at h; simp [h]
  | x :: l, vs, h => by
    simp only [Vals] at h
    obtain ⟨v, ws, rfl, h1, h2⟩ := h
    simp [Vals.length h2]

/-- A cell of our own is read. -/
theorem q_load {t ct : TypeId} {x : Operand} {i o : Nat} {l : List AVal} {v : AVal} (ht : Sc P t) (hx : E.ev x = .ptr i o) (hc : M.at_ i = .cells ct l) (hv : l[o]? = some v) :
    Quiet P (.load t x) ty E M [i] v :=
  fun _ _ a w e hh he => by
    have hp := he.ev x; rw [hx] at hp; simp only [Val] at hp
    have hk := hh.ch i hp.1
    rw [hc] at hk
    obtain ⟨hvir, vs, hb, hvs, _⟩ := hk
    obtain ⟨u, hu, hval⟩ := hvs.get hv
    refine ⟨u, hval, fun w1 hw => ?_⟩
    have hb1 := (hw.own i (by simp) hvir).trans hb
    have : w1.cell? ⟨e.own i, o, Option.none⟩ = some u := by rw [cell_of hb1]; simpa using hu
    simp [exec1, execOp, hp.2.2, run_loadAt_sc ht this]

/-- What is only read, of one value. -/
theorem q_load_sc {α : Type} {f : α → Value} {hf : ∀ x, (f x).oneCell' = true} {b : Bool} {d : α} {t : TypeId} {x : Operand} (ht : Sc P t) (hx : E.ev x = .ro (Rd.ptr (Rd.sc f hf)) b d) :
    Quiet P (.load t x) ty E M [] (.lit (f d)) :=
  fun _ _ a w e hh he => by
    have hv := he.ev x; rw [hx] at hv; simp only [Val, Rd.ptr, Rd.sc] at hv
    obtain ⟨bk, o, c, tt, fr, h1, h2, h3⟩ := hv
    simp at h1
    refine ⟨f d, by simp [Val], fun w1 hw => ?_⟩
    have hb := hw.mem h2
    have : c[o]? = some (f d) := by
      have := congrArg (·[0]?) h3
      simpa [List.getElem?_take, List.getElem?_drop] using this
    have : w1.cell? ⟨bk, o, Option.none⟩ = some (f d) := by rw [cell_of hb]; exact this
    simp [exec1, execOp, h1, run_loadAt_sc ht this]

/-- What is only read, of one cell. -/
theorem q_load_ro {α : Type} {R : Rd α} {b : Bool} {d : α} {t : TypeId} {x : Operand} (ht : Sc P t) (hx : E.ev x = .ro (Rd.ptr R) b d) (hz : R.sz = 1) :
    Quiet P (.load t x) ty E M [] (.ro R b d) :=
  fun _ _ a w e hh he => by
    have hv := he.ev x; rw [hx] at hv; simp only [Val, Rd.ptr] at hv
    obtain ⟨bk, o, c, tt, fr, h1, h2, h3⟩ := hv
    simp at h1
    have hl := R.len h3
    rw [hz] at hl h3
    obtain ⟨u, hu⟩ := List.length_eq_one_iff.1 hl
    refine ⟨u, by simp only [Val]; rw [← hu]; exact h3, fun w1 hw => ?_⟩
    have hb := hw.mem h2
    have : c[o]? = some u := by
      have := congrArg (·[0]?) hu
      simpa [List.getElem?_take, List.getElem?_drop] using this
    have : w1.cell? ⟨bk, o, Option.none⟩ = some u := by rw [cell_of hb]; exact this
    simp [exec1, execOp, h1, run_loadAt_sc ht this]

/-- The size of a type, in cells. -/
structure SzIs (P : Program) (t : TypeId) (n : Nat) : Prop where
  h : ∃ i, P.info? t = some i ∧ i.size = n
theorem SzIs.run {t : TypeId} {n : Nat} (h : SzIs P t n) (w : World) : (sizeOf t).run P w = .ok n w := by
  obtain ⟨i, h1, h2⟩ := h
  rw [run_sizeOf h1, h2]

/-- A slice type, with its elements' size. -/
structure SlIs (P : Program) (t el : TypeId) (n : Nat) : Prop where
  t : P.underlying t = some (.slice el)
  e : SzIs P el n

/-- An array type. -/
structure ArIs (P : Program) (t el : TypeId) (len n : Nat) : Prop where
  t : P.underlying t = some (.array len el)
  e : SzIs P el n

theorem add_at (b o n : Nat) : (⟨b, o, Option.none⟩ : Addr).add n = ⟨b, o + n, Option.none⟩ := by
  unfold Addr.add; split <;> simp_all

theorem run_indexAt_sl {t el : TypeId} {n : Nat} (h : SlIs P t el n) (b o len cap : Nat) (k : IntKind) (i : Int) (h0 : 0 ≤ i) (h1 : i < len) (w : World) :
    (Instr.indexAt t (.slice (some ⟨b, o, Option.none⟩) len cap) (.int k i)).run P w = .ok (.pointer (some ⟨b, o + i.toNat * n, Option.none⟩)) w := by
  simp [Instr.indexAt, run_underlying h.t, h0, h1, h.e.run, add_at, asIntOf]

/-- Read at a place: there, or not. -/
def ix {α : Type} (l : List α) (i : Int) : Option α := if 0 ≤ i then l[i.toNat]? else Option.none
theorem ix_some {α : Type} {l : List α} {i : Int} {d : α} (h : ix l i = some d) : 0 ≤ i ∧ l[i.toNat]? = some d ∧ i < l.length := by
  unfold ix at h
  split at h
  · rename_i h0
    have := (List.getElem?_eq_some_iff.1 h).1
    exact ⟨h0, h, by omega⟩
  · cases h

/-- An element of what is only read. -/
theorem q_index_ro {α : Type} {R : Rd α} {b : Bool} {l : List α} {d : α} {t el : TypeId} {n : Nat} {x y : Operand} {k : IntKind} {i : Int} (h : SlIs P t el n) (hn : R.sz = n)
    (hx : E.ev x = .ro (Rd.slice R) b l) (hy : E.ev y = .lit (.int k i)) (hd : ix l i = some d) : Quiet P (.indexAddr t x y) ty E M [] (.ro (Rd.ptr R) b d) :=
  fun _ _ a w e hh he => by
    have hv := he.ev x; rw [hx] at hv; simp only [Val, Rd.slice] at hv
    obtain ⟨h0, h1, h2⟩ := ix_some hd
    rcases hv with ⟨rfl, _⟩ | ⟨bk, o, c, tt, fr, cap, e1, hc, e2, e3⟩
    · simp at h1
    · simp at e1
      refine ⟨.pointer (some ⟨bk, o + i.toNat * n, Option.none⟩), ?_, fun w1 hw => ?_⟩
      · simp only [Val, Rd.ptr]
        refine ⟨bk, o + i.toNat * n, c, tt, fr, rfl, e2, ?_⟩
        have := rows_get e3 h1
        rw [List.drop_drop, hn] at this
        rw [hn]
        exact this
      · simp [exec1, execOp, e1, ev_lit he hy, run_indexAt_sl h bk o l.length cap k i h0 h2]

/-- An element of a row of our own. -/
theorem q_index_row {α : Type} {R : Rd α} {l : List α} {t el : TypeId} {n : Nat} {x y : Operand} {k : IntKind} {i : Int} {j : Nat} {ct : TypeId} (h : SlIs P t el n)
    (hx : E.ev x = .whole j) (hc : M.at_ j = .row ct R l) (hy : E.ev y = .lit (.int k i)) (hd : (ix l i).isSome = true) : Quiet P (.indexAddr t x y) ty E M [] (.ptr j (i.toNat * n)) :=
  fun _ _ a w e hh he => by
    have hv := he.ev x; rw [hx] at hv; simp only [Val] at hv
    obtain ⟨d, hd⟩ := Option.isSome_iff_exists.1 hd
    obtain ⟨h0, h1, h2⟩ := ix_some hd
    have hk := hh.ch j hv.1
    rw [hc] at hk
    obtain ⟨hl, hlc, _, hr⟩ := hk
    cases hvir : e.vir j with
    | true => rw [hvir] at hr; simp at hr; subst hr; simp at h1
    | false =>
      have hv3 := hv.2.2
      rw [hvir] at hv3
      simp only [Bool.false_eq_true, if_false] at hv3
      refine ⟨.pointer (some ⟨e.own j, i.toNat * n, Option.none⟩), by simp [Val, hv.1, hvir], fun w1 hw => ?_⟩
      have := run_indexAt_sl h (e.own j) 0 (e.lens j) (e.caps j) k i h0 (by rw [hl]; exact h2) w1
      simp [exec1, execOp, hv3, ev_lit he hy, this]

theorem Vals.drop {e : Nv} : ∀ {l : List AVal} {vs : List Value} (n : Nat), Vals e l vs → Vals e (l.drop n) (vs.drop n)
  | _, _, 0, h => by simpa using h
  | [], vs, n + 1, h => by simp only [Vals] at h; simp [h, Vals]
  | x :: l, vs, n + 1, h => by
    simp only [Vals] at h
    obtain ⟨v, ws, rfl, h1, h2⟩ := h
    simpa using h2.drop n
theorem Vals.take {e : Nv} : ∀ {l : List AVal} {vs : List Value} (n : Nat), Vals e l vs → Vals e (l.take n) (vs.take n)
  | _, _, 0, h => by simp [Vals]
  | [], vs, n + 1, h => by simp only [Vals] at h; simp [h, Vals]
  | x :: l, vs, n + 1, h => by
    simp only [Vals] at h
    obtain ⟨v, ws, rfl, h1, h2⟩ := h
    simp only [List.take_succ_cons, Vals]
    exact ⟨v, _, rfl, h1, h2.take n⟩
theorem Vals.append {e : Nv} : ∀ {l l' : List AVal} {vs vs' : List Value}, Vals e l vs → Vals e l' vs' → Vals e (l ++ l') (vs ++ vs')
  | [], l', vs, vs', h, h' => by simp only [Vals] at h; subst h; exact h'
  | x :: l, l', vs, vs', h, h' => by
    simp only [Vals] at h
    obtain ⟨v, ws, rfl, h1, h2⟩ := h
    simp only [List.cons_append, Vals]
    exact ⟨v, _, rfl, h1, h2.append h'⟩

/-- The cells of a datum, told one by one. -/
def Splits {α : Type} (R : Rd α) (b : Bool) (d : α) (l : List AVal) : Prop := ∀ e cs, R.ok (e.mem b) d cs → Vals e l cs
theorem Splits.unit {b : Bool} {d : Unit} : Splits Rd.unit b d [] := fun e cs h => by simp only [Rd.unit] at h; simp [Vals, h]
theorem Splits.sc {α : Type} {f : α → Value} {hf : ∀ x, (f x).oneCell' = true} {b : Bool} {d : α} : Splits (Rd.sc f hf) b d [.lit (f d)] := fun e cs h => by
  simp only [Rd.sc] at h; simp [Vals, Val, h]
theorem Splits.one {α : Type} {R : Rd α} {b : Bool} {d : α} (hz : R.sz = 1) : Splits R b d [.ro R b d] := fun e cs h => by
  obtain ⟨u, hu⟩ := List.length_eq_one_iff.1 ((R.len h).trans hz)
  subst hu
  simp [Vals, Val, h]
theorem Splits.pair {α β : Type} {A : Rd α} {B : Rd β} {b : Bool} {d : α × β} {l l' : List AVal} (h : Splits A b d.1 l) (h' : Splits B b d.2 l') : Splits (Rd.pair A B) b d (l ++ l') := fun e cs hk => by
  obtain ⟨x, y, rfl, h1, h2⟩ := hk
  exact (h e x h1).append (h' e y h2)
theorem Splits.via {α β : Type} {A : Rd α} {g : β → α} {b : Bool} {d : β} {l : List AVal} (h : Splits A b (g d) l) : Splits (Rd.via A g) b d l := h

/-- Cells that are a datum. -/
def Joins {α : Type} (R : Rd α) (b : Bool) (d : α) (l : List AVal) : Prop := ∀ e cs, Vals e l cs → (∀ v ∈ cs, v.oneCell' = true) → R.ok (e.mem b) d cs
theorem Joins.unit {b : Bool} {d : Unit} : Joins Rd.unit b d [] := fun e cs h _ => by simp only [Vals] at h; simp [Rd.unit, h]
theorem Joins.sc {α : Type} {f : α → Value} {hf : ∀ x, (f x).oneCell' = true} {b : Bool} {d : α} : Joins (Rd.sc f hf) b d [.lit (f d)] := fun e cs h _ => by
  simp only [Vals, Val] at h
  obtain ⟨v, ws, rfl, rfl, rfl⟩ := h
  simp [Rd.sc]
theorem Joins.one {α : Type} {R : Rd α} {b : Bool} {d : α} : Joins R b d [.ro R b d] := fun e cs h _ => by
  simp only [Vals, Val] at h
  obtain ⟨v, ws, rfl, h1, rfl⟩ := h
  exact h1
theorem Joins.cons {α β : Type} {A : Rd α} {B : Rd β} {b : Bool} {x : α} {y : β} {a : AVal} {l : List AVal} (h : Joins A b x [a]) (h' : Joins B b y l) : Joins (Rd.pair A B) b (x, y) (a :: l) := fun e cs hk ho => by
  simp only [Vals] at hk
  obtain ⟨v, ws, rfl, h1, h2⟩ := hk
  exact ⟨[v], ws, rfl, h e [v] (by simp only [Vals]; exact ⟨v, [], rfl, h1, rfl⟩) (fun u hu => ho u (by simp at hu; simp [hu])), h' e ws h2 (fun u hu => ho u (by simp [hu]))⟩
theorem Joins.pair {α β : Type} {A : Rd α} {B : Rd β} {b : Bool} {x : α} {y : β} {l l' : List AVal} (h : Joins A b x l) (h' : Joins B b y l') : Joins (Rd.pair A B) b (x, y) (l ++ l') := fun e cs hk ho => by
  have hk' := hk
  have h1 := hk.take l.length
  have h2 := hk.drop l.length
  rw [List.take_left'] at h1 <;> try rfl
  rw [List.drop_left'] at h2 <;> try rfl
  exact ⟨cs.take l.length, cs.drop l.length, (List.take_append_drop _ _).symm, h e _ h1 (fun u hu => ho u (List.mem_of_mem_take hu)), h' e _ h2 (fun u hu => ho u (List.mem_of_mem_drop hu))⟩
theorem Joins.via {α β : Type} {A : Rd α} {g : β → α} {b : Bool} {d : β} {l : List AVal} (h : Joins A b (g d) l) : Joins (Rd.via A g) b d l := h
theorem Joins.borrow {α : Type} {R : Rd α} {d : α} {l : List AVal} (h : Joins R false d l) : Joins R true d l := fun e cs hk ho => R.mono (by
  intro k o hm
  rw [Nv.mem_false] at hm
  unfold Nv.mem
  rw [hm]) (h e cs hk ho)

/-- A type of structs or arrays. -/
structure Ag (P : Program) (t : TypeId) (n : Nat) : Prop where
  h : ∃ d i, P.underlying t = some d ∧ P.info? t = some i ∧ i.size = n ∧ (match d with | .struct _ | .array _ _ => True | _ => False)
theorem Ag.isAgg {t : TypeId} {n : Nat} (h : Ag P t n) (w : World) : (isAgg t).run P w = .ok true w := by
  obtain ⟨d, i, h1, h2, h3, h4⟩ := h
  unfold Go.isAgg
  simp only [Sem.run_bind, run_underlying h1, Result.andThen]
  cases d <;> first | rfl | exact h4.elim
theorem Ag.sz {t : TypeId} {n : Nat} (h : Ag P t n) : SzIs P t n := by
  obtain ⟨d, i, h1, h2, h3, h4⟩ := h
  exact ⟨i, h2, h3⟩

theorem run_loadAt_ag {t : TypeId} {n : Nat} (h : Ag P t n) {w : World} {b o : Nat} {c : Array Value} {ct : TypeId} {fr : Nat × Nat} (hb : w.heap[b]? = some (.cells c ct fr)) (hn : o + n ≤ c.size) :
    (Instr.loadAt t (.pointer (some ⟨b, o, Option.none⟩))).run P w = .ok (.agg ((c.toList.drop o).take n).toArray) w := by
  have hl : ((c.toList.drop o).take n).length = n := by simp; omega
  have hld := run_loadCells_list (P := P) w ⟨b, o, Option.none⟩ ((c.toList.drop o).take n) (by
    intro j v hj
    have hjn : j < n := by rw [← hl]; exact (List.getElem?_eq_some_iff.1 hj).1
    rw [List.getElem?_take_of_lt hjn, List.getElem?_drop] at hj
    rw [add_at, cell_of hb]
    simpa using hj)
  rw [hl] at hld
  simp [Instr.loadAt, Instr.sureAddr, loadVar, h.isAgg w, h.sz.run w, hld]

/-- A struct of our own is read whole. -/
theorem q_load_ag {t ct : TypeId} {x : Operand} {i o n : Nat} {l : List AVal} (ht : Ag P t n) (hx : E.ev x = .ptr i o) (hc : M.at_ i = .cells ct l) (hn : o + n ≤ l.length) :
    Quiet P (.load t x) ty E M [i] (.agg ((l.drop o).take n)) :=
  fun _ _ a w e hh he => by
    have hp := he.ev x; rw [hx] at hp; simp only [Val] at hp
    have hk := hh.ch i hp.1
    rw [hc] at hk
    obtain ⟨hvir, vs, hb, hvs, ho⟩ := hk
    refine ⟨.agg ((vs.drop o).take n).toArray, ?_, fun w1 hw => ?_⟩
    · simp only [Val]
      exact ⟨_, rfl, (hvs.drop o).take n, fun u hu => ho u (List.mem_of_mem_drop (List.mem_of_mem_take hu))⟩
    have hb1 := (hw.own i (by simp) hvir).trans hb
    have := run_loadAt_ag ht (o := o) hb1 (by simp [hvs.length, hn])
    simp [exec1, execOp, hp.2.2, this]

/-- A struct that is only read. -/
theorem q_load_roag {α : Type} {R : Rd α} {b : Bool} {d : α} {t : TypeId} {x : Operand} {n : Nat} {l : List AVal} (ht : Ag P t n) (hx : E.ev x = .ro (Rd.ptr R) b d) (hz : R.sz = n) (hs : Splits R b d l) :
    Quiet P (.load t x) ty E M [] (.agg l) :=
  fun _ _ a w e hh he => by
    have hv := he.ev x; rw [hx] at hv; simp only [Val, Rd.ptr] at hv
    obtain ⟨bk, o, c, tt, fr, h1, h2, h3⟩ := hv
    simp at h1
    have hl := R.len h3
    rw [hz] at hl h3
    refine ⟨.agg ((c.toList.drop o).take n).toArray, ?_, fun w1 hw => ?_⟩
    · simp only [Val]
      exact ⟨_, rfl, hs e _ h3, R.one h3⟩
    have hb := hw.mem h2
    have hsz : o + n ≤ c.size ∨ n = 0 := by simp at hl; omega
    rcases hsz with hsz | h0
    · have := run_loadAt_ag ht (o := o) hb hsz
      simp [exec1, execOp, h1, this]
    · subst h0
      have hld : (loadCells ⟨bk, o, Option.none⟩ 0).run P w1 = .ok #[] w1 := rfl
      simp [exec1, execOp, h1, Instr.loadAt, Instr.sureAddr, loadVar, ht.isAgg w1, ht.sz.run w1, hld]

/-- An element of a row of our own is read. -/
theorem q_load_row {α : Type} {f : α → Value} {hf : ∀ x, (f x).oneCell' = true} {l : List α} {t ct : TypeId} {x : Operand} {i j : Nat} {d : α} (ht : Sc P t) (hx : E.ev x = .ptr i (j * 1)) (hc : M.at_ i = .row ct (Rd.sc f hf) l)
    (hd : l[j]? = some d) : Quiet P (.load t x) ty E M [i] (.lit (f d)) :=
  fun _ _ a w e hh he => by
    have hp := he.ev x; rw [hx] at hp; simp only [Val] at hp
    have hk := hh.ch i hp.1
    rw [hc] at hk
    obtain ⟨_, _, _, hr⟩ := hk
    rw [hp.2.1] at hr
    simp only [Bool.false_eq_true, if_false] at hr
    obtain ⟨c, z, hb, _, hs, hrow⟩ := hr
    refine ⟨f d, by simp [Val], fun w1 hw => ?_⟩
    have hb1 := (hw.own i (by simp) hp.2.1).trans hb
    have hg := rows_get hrow hd
    have hcell : w1.cell? ⟨e.own i, j, Option.none⟩ = some (f d) := by
      rw [cell_of hb1]
      simp only [Rd.sc, Nat.mul_one] at hg
      have := congrArg (·[0]?) hg
      simpa [List.getElem?_take, List.getElem?_drop] using this
    have hp' : a.eval x = .pointer (some ⟨e.own i, j, Option.none⟩) := by simpa using hp.2.2
    simp [exec1, execOp, hp', run_loadAt_sc ht hcell]

/-- The length of what is only read. -/
theorem q_len_ro {α : Type} {R : Rd α} {b : Bool} {l : List α} {t el : TypeId} {n : Nat} {x : Operand} (h : SlIs P t el n) (hx : E.ev x = .ro (Rd.slice R) b l) :
    Quiet P (.call { callee := .builtin .len, args := #[x], argTypes := #[t] }) ty E M [] (.lit (.int .i64 (l.length : Int))) :=
  fun _ _ a w e hh he => by
    have hv := he.ev x; rw [hx] at hv; simp only [Val, Rd.slice] at hv
    refine ⟨.int .i64 (l.length : Int), by simp [Val], fun w1 hw => ?_⟩
    rcases hv with ⟨rfl, a0, c, h1⟩ | ⟨bk, o, c, tt, fr, cap, h1, _⟩ <;>
      (simp at h1; simp [exec1, execOp, resolve, invoke, builtin, Builtin.len_, h1, run_underlying h.t, goInt])

theorem q_len_row {α : Type} {R : Rd α} {l : List α} {t el ct : TypeId} {n : Nat} {x : Operand} {i : Nat} (h : SlIs P t el n) (hx : E.ev x = .whole i) (hc : M.at_ i = .row ct R l) :
    Quiet P (.call { callee := .builtin .len, args := #[x], argTypes := #[t] }) ty E M [] (.lit (.int .i64 (l.length : Int))) :=
  fun _ _ a w e hh he => by
    have hv := he.ev x; rw [hx] at hv; simp only [Val] at hv
    have hk := hh.ch i hv.1
    rw [hc] at hk
    have hl := hk.1
    refine ⟨.int .i64 (l.length : Int), by simp [Val], fun w1 hw => ?_⟩
    have hv3 := hv.2.2
    rw [← hl]
    split at hv3
    · simp [exec1, execOp, resolve, invoke, builtin, Builtin.len_, hv3.1, hv3.2, run_underlying h.t, goInt]
    · simp [exec1, execOp, resolve, invoke, builtin, Builtin.len_, hv3, run_underlying h.t, goInt]

theorem q_len_nil {t el : TypeId} {n : Nat} {x : Operand} (h : SlIs P t el n) (hx : E.ev x = .lit (.slice Option.none 0 0)) :
    Quiet P (.call { callee := .builtin .len, args := #[x], argTypes := #[t] }) ty E M [] (.lit (.int .i64 0)) :=
  fun _ _ a w e hh he => ⟨.int .i64 0, by simp [Val], fun w1 hw => by
    simp [exec1, execOp, resolve, invoke, builtin, Builtin.len_, ev_lit he hx, run_underlying h.t, goInt]⟩

theorem q_len_str {t : TypeId} {x : Operand} {s : ByteArray} (h : P.underlying t = some .string) (hx : E.ev x = .lit (.string s)) :
    Quiet P (.call { callee := .builtin .len, args := #[x], argTypes := #[t] }) ty E M [] (.lit (.int .i64 (s.size : Int))) :=
  fun _ _ a w e hh he => ⟨.int .i64 (s.size : Int), by simp [Val], fun w1 hw => by
    simp [exec1, execOp, resolve, invoke, builtin, Builtin.len_, ev_lit he hx, run_underlying h, goInt]⟩

/-- A component of a tuple. -/
theorem q_extract {x : Operand} {l : List AVal} {k : Nat} {v : AVal} (hx : E.ev x = .tup l) (hv : l[k]? = some v) : Quiet P (.extract x k) ty E M [] v :=
  fun _ _ a w e hh he => by
    have hp := he.ev x; rw [hx] at hp; simp only [Val] at hp
    obtain ⟨vs, h1, h2⟩ := hp
    obtain ⟨u, hu, hval⟩ := h2.get hv
    exact ⟨u, hval, fun w1 hw => by simp [exec1, execOp, h1, Instr.extract, hu]⟩

theorem evs {nt : Nat} {e : Nv} {a : Act} (he : Emb nt e M E a) : ∀ (l : List Operand), Vals e (l.map E.ev) (l.map a.eval)
  | [] => by simp [Vals]
  | x :: l => by simp only [List.map_cons, Vals]; exact ⟨_, _, rfl, he.ev x, evs he l⟩

theorem q_makeFunc {f : FuncId} {cap : Array Operand} : Quiet P (.makeFunc (.func f) #[] cap) ty E M [] (.fn f (cap.toList.map E.ev)) :=
  fun _ _ a w e hh he => ⟨.func (.func f) #[] (cap.toList.map a.eval).toArray, by
      simp only [Val]
      exact ⟨(cap.toList.map a.eval), rfl, evs he cap.toList⟩, fun w1 hw => by
      have : cap.map a.eval = (cap.toList.map a.eval).toArray := by apply Array.ext'; simp
      simp [exec1, execOp, Instr.makeFunc, this]⟩

/-- A cell of a struct. -/
theorem q_field {t ft : TypeId} {x : Operand} {k off : Nat} {l : List AVal} {v : AVal} (h : FieldIs P t k off ft 1) (hs : Sc P ft) (hx : E.ev x = .agg l) (hv : l[off]? = some v) : Quiet P (.field t x k) ty E M [] v :=
  fun _ _ a w e hh he => by
    have hp := he.ev x; rw [hx] at hp; simp only [Val] at hp
    obtain ⟨vs, h1, h2, _⟩ := hp
    obtain ⟨u, hu, hval⟩ := h2.get hv
    obtain ⟨fs, f, i, g1, g2, g3, g4, g5, g6⟩ := h
    subst g3 g4
    refine ⟨u, hval, fun w1 hw => ?_⟩
    simp [exec1, execOp, h1, Instr.field, run_underlying g1, g2, asAgg, part, hs.isAgg w1, hu]

/-- A struct in a struct. -/
theorem q_field_ag {t ft : TypeId} {x : Operand} {k off n : Nat} {l : List AVal} (h : FieldIs P t k off ft n) (hs : Ag P ft n) (hx : E.ev x = .agg l) : Quiet P (.field t x k) ty E M [] (.agg ((l.drop off).take n)) :=
  fun _ _ a w e hh he => by
    have hp := he.ev x; rw [hx] at hp; simp only [Val] at hp
    obtain ⟨vs, h1, h2, ho⟩ := hp
    obtain ⟨fs, f, i, g1, g2, g3, g4, g5, g6⟩ := h
    subst g3 g4
    refine ⟨.agg ((vs.drop f.offset).take n).toArray, ?_, fun w1 hw => ?_⟩
    · simp only [Val]
      exact ⟨_, rfl, (h2.drop _).take _, fun u hu => ho u (List.mem_of_mem_drop (List.mem_of_mem_take hu))⟩
    · have hz := hs.sz.run w1
      simp [exec1, execOp, h1, Instr.field, run_underlying g1, g2, asAgg, part, hs.isAgg w1, hz]
end
end Go.Q
