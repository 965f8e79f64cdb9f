/- Texts joined: part 2 of what LDecBack stands on. -/
import Derived.Test.YtdbeblgfccjbgaaDoorSDecBacka
import Derived.Laws.BytesString
import Derived.ChangeArms
import Derived.Carry
import Derived.Lib.ConvBytes
import Derived.Lib.MakeNoZero
import Derived.Lib.UnsafeStr
import Derived.Lib.Builder
import Derived.Laws.Strings
import Derived.Laws.StructEq
namespace Go.Q
open Go
set_option linter.unusedVariables false
set_option linter.unusedSimpArgs false
theorem grd {α : Type} {b : Bool} {x : Option α} {r : α} (h : (bif b then x else none) = some r) : b = true ∧ x = some r := by
  cases b with
  | true => exact ⟨rfl, h⟩
  | false => cases h
theorem bnd {α β : Type} {x : Option α} {f : α → Option β} {r : β} (h : x.bind f = some r) : ∃ a, x = some a ∧ f a = some r := Option.bind_eq_some_iff.1 h
theorem cnt {α : Type} {b : Bool} {x y : Option α} {r : α} (hb : b = true) (h : (bif b then x else y) = some r) : x = some r := by subst hb; exact h
theorem cnf {α : Type} {b : Bool} {x y : Option α} {r : α} (hb : b = false) (h : (bif b then x else y) = some r) : y = some r := by subst hb; exact h
theorem inj {α : Type} {x r : α} (h : some x = some r) : r = x := (Option.some.inj h).symm
section
variable {P : Program} {cx : Cx} {fr : Fr} {E : Env} {M : Mem} {Q : Ex → Env → Mem → Prop} {next : Env → Mem → Prop} {ty : TypeId}
theorem Then.n (h : next E M) : Then next Q .normal E M := h
theorem Then.r (h : Q .ret E M) : Then next Q .ret E M := h
theorem Then.x {id : Nat} (h : Q (.exit id) E M) : Then next Q (.exit id) E M := h
theorem Then.p {v : AVal} (h : Q (.panic v) E M) : Then next Q (.panic v) E M := h
theorem InBlock.n {id : Nat} (h : Q .normal E M) : InBlock id Q .normal E M := h
theorem InBlock.r {id : Nat} (h : Q .ret E M) : InBlock id Q .ret E M := h
theorem InBlock.p {id : Nat} {v : AVal} (h : Q (.panic v) E M) : InBlock id Q (.panic v) E M := h
theorem InBlock.x0 {id : Nat} (h : Q .normal E M) : InBlock id Q (.exit id) E M := by simp only [InBlock, Nat.beq_eq, if_true]; exact h
theorem InBlock.x {id id' : Nat} (hi : Nat.beq id' id = false) (h : Q (.exit id') E M) : InBlock id Q (.exit id') E M := by
  simp only [InBlock]
  rw [if_neg (by rw [hi]; simp)]
  exact h
theorem WP.condT {c : Operand} {x y : Code} (hc : E.ev c = .lit (.bool true)) (h : WP P cx fr x E M Q) : WP P cx fr (.cond c x y) E M Q := WP.cond hc (fun _ => h) (fun h => by cases h)
theorem WP.condF {c : Operand} {x y : Code} (hc : E.ev c = .lit (.bool false)) (h : WP P cx fr y E M Q) : WP P cx fr (.cond c x y) E M Q := WP.cond hc (fun h => by cases h) (fun _ => h)
theorem q_mv {x : Operand} {v : AVal} (h : E.ev x = v) : Quiet P (.move x) ty E M [] v := h ▸ q_move x
theorem q_as {x : Operand} {v : AVal} (h : E.ev x = v) : Quiet P (.assign x) ty E M [] v := h ▸ q_assign x
theorem q_pickT {c x y : Operand} {v : AVal} (hc : E.ev c = .lit (.bool true)) (h : E.ev x = v) : Quiet P (.pick c x y) ty E M [] v := by
  have := q_pick (P := P) (ty := ty) (M := M) (x := x) (y := y) hc
  simp only [cond_true] at this
  exact h ▸ this
theorem q_pickF {c x y : Operand} {v : AVal} (hc : E.ev c = .lit (.bool false)) (h : E.ev y = v) : Quiet P (.pick c x y) ty E M [] v := by
  have := q_pick (P := P) (ty := ty) (M := M) (x := x) (y := y) hc
  simp only [cond_false] at this
  exact h ▸ this
/-- A guard's case: both ways. -/
theorem WPL.split {ops : Array Oper} {os : List Oper} {t : Nat} {b : Bool} (hv : E.v t = .lit (.bool b)) (h1 : b = true → WPL P cx fr ops os E M Q) (h2 : b = false → WPL P cx fr ops os E M Q) : WPL P cx fr ops os E M Q := by
  cases b with
  | true => exact h1 rfl
  | false => exact h2 rfl
theorem WP.vir {c : Code} {α : Type} (ct : TypeId) (R : Rd α) {N : Nat} (hN : M.n = N) (tt : Nat) (hv : E.v tt = .lit (.slice none 0 0)) (k : WP P cx fr c (E.upd tt (.whole N)) (M.push (.row ct R [])) Q) : WP P cx fr c E M Q := by
  intro a w e hh he
  refine k a w (e.bump 0 0 0 true) hh.bindVir ?_
  have h1 : Emb fr.nt (e.bump 0 0 0 true) (M.push (.row ct R [])) E a := he.mono (e.bump_le 0 0 0 true) (fun b => e.bump_mem 0 0 0 true b)
  refine ⟨h1.sz, fun u => ?_, h1.d, h1.o⟩
  rw [Env.upd_v]
  split
  · rename_i hu
    subst hu
    have := h1.v u
    rw [hv] at this
    simp only [Val] at this
    rw [this]
    simp only [Val, Nv.bump, ← hN, ← hh.n, if_true]
    exact ⟨Nat.lt_succ_self _, Nat.le_refl _, trivial, trivial⟩
  · exact h1.v u
end
section
variable {P : Program} {E : Env} {M : Mem} {ty : TypeId}
/-- The bounds of a slice expression. -/
def evOpt (E : Env) (x : Option Operand) (d : Int) (i : Int) : Prop := match x with | some o => ∃ k, E.ev o = .lit (.int k i) | none => i = d
/-- A byte of a string. -/
theorem q_index_str {t : TypeId} {x y : Operand} {s : ByteArray} {k : IntKind} {i c : Int} (h : P.underlying t = some .string) (hx : E.ev x = .lit (.string s)) (hy : E.ev y = .lit (.int k i)) (hc : ix (strInts s) i = some c) : Quiet P (.index t x y) ty E M [] (.lit (.int .u8 c)) :=
  fun _ _ a w e hh he => by
    obtain ⟨h0, h1, h2⟩ := ix_some hc
    refine ⟨.int .u8 c, by simp [Val], fun w1 hw => ?_⟩
    have hsz : (strInts s).length = s.size := by rw [strInts, List.length_map, Array.length_toList]; rfl
    have hlt : i.toNat < s.size := by omega
    have hget : c = ((s[i.toNat]'hlt).toNat : Int) := by
      simp only [strInts, List.getElem?_map] at h1
      have e2 : s.data.toList[i.toNat]? = some (s[i.toNat]'hlt) := by
        rw [Array.getElem?_toList]
        exact Array.getElem?_eq_getElem (by simpa using hlt)
      rw [e2] at h1
      simpa using h1.symm
    subst hget
    simp [exec1, execOp, ev_lit he hx, ev_lit he hy, Instr.index, run_underlying h, asIntOf, h0, hlt, getElem?_pos]
/-- Part of a string. -/
theorem q_slice_str {t : TypeId} {x : Operand} {s : ByteArray} {lo hi : Option Operand} {i j : Int} (h : P.underlying t = some .string) (hx : E.ev x = .lit (.string s))
    (hlo : evOpt E lo 0 i) (hhi : evOpt E hi s.size j) (hb : decide (0 ≤ i ∧ i ≤ j ∧ j ≤ s.size) = true) : Quiet P (.slice t x lo hi none) ty E M [] (.lit (.string (s.extract i.toNat j.toNat))) :=
  fun cx nt a w e hh he => by
    obtain ⟨b0, b1, b2⟩ := of_decide_eq_true hb
    refine ⟨.string (s.extract i.toNat j.toNat), by simp [Val], fun w1 hw => ?_⟩
    have e1 : ∀ (y : Nat) (code : BoundsCode) (k : IntKind) (m : Int), 0 ≤ m → m ≤ y → (Instr.sliceBound (.int k m) y code).run P w1 = .ok m.toNat w1 := by
      intro y code k m h0 hm
      simp only [Instr.sliceBound, asIntOf, Sem.run_bind, Sem.run_pure, Result.andThen]
      rw [if_pos ⟨h0, hm⟩]
      simp
    have hjs : j.toNat ≤ s.size := by omega
    cases lo with
    | none =>
      simp only [evOpt] at hlo
      subst hlo
      cases hi with
      | none =>
        simp only [evOpt] at hhi
        subst hhi
        simp [exec1, execOp, ev_lit he hx, Instr.sliceAt, Instr.slice, run_underlying h, Instr.sliceBounds]
      | some v =>
        obtain ⟨k, hk⟩ := hhi
        simp [exec1, execOp, ev_lit he hx, ev_lit he hk, Instr.sliceAt, Instr.slice, run_underlying h, Instr.sliceBounds, e1 s.size _ k j (by omega) b2]
    | some u =>
      obtain ⟨k', hk'⟩ := hlo
      cases hi with
      | none =>
        simp only [evOpt] at hhi
        subst hhi
        simp [exec1, execOp, ev_lit he hx, ev_lit he hk', Instr.sliceAt, Instr.slice, run_underlying h, Instr.sliceBounds, e1 s.size _ k' i b0 b1]
      | some v =>
        obtain ⟨k, hk⟩ := hhi
        simp [exec1, execOp, ev_lit he hx, ev_lit he hk, ev_lit he hk', Instr.sliceAt, Instr.slice, run_underlying h, Instr.sliceBounds, e1 s.size _ k j (by omega) b2, e1 j.toNat _ k' i b0 (by omega)]
end
end Go.Q
namespace Go.Q
open Go
set_option linter.unusedVariables false
set_option linter.unusedSimpArgs false
/-- A state told otherwise. -/
def Cv (cx : Cx) (nt : Nat) (E : Env) (M : Mem) (E' : Env) (M' : Mem) : Prop :=
  ∀ a w e, Hold cx e M w → Emb nt e M E a → ∃ e', Hold cx e' M' w ∧ Emb nt e' M' E' a
def Ex.plain : Ex → Bool
  | .panic _ => false
  | _ => true
section
variable {P : Program} {cx : Cx} {fr : Fr} {nt : Nat} {E E' E'' : Env} {M M' M'' : Mem} {Q Q' : Ex → Env → Mem → Prop} {x : Ex} {c : Code} {ops : Array Oper} {os : List Oper}
theorem W.cv (k : Cv cx fr.nt E M E' M') (hx : x.plain = true) (h : W cx fr Q x E' M') : W cx fr Q x E M := fun a w e X hh he hX => by
  cases x with
  | panic v => cases hx
  | normal => obtain ⟨e', h1, h2⟩ := k a w e hh he; exact h a w e' X h1 h2 hX
  | exit id => obtain ⟨e', h1, h2⟩ := k a w e hh he; exact h a w e' X h1 h2 hX
  | goto l => obtain ⟨e', h1, h2⟩ := k a w e hh he; exact h a w e' X h1 h2 hX
  | ret => obtain ⟨e', h1, h2⟩ := k a w e hh he; exact h a w e' X h1 h2 hX
theorem WP.cv (k : Cv cx fr.nt E M E' M') (h : WP P cx fr c E' M' Q) : WP P cx fr c E M Q := fun a w e hh he => let ⟨e', h1, h2⟩ := k a w e hh he; h a w e' h1 h2
theorem WPL.cv (k : Cv cx fr.nt E M E' M') (h : WPL P cx fr ops os E' M' Q) : WPL P cx fr ops os E M Q := fun a w e hh he => let ⟨e', h1, h2⟩ := k a w e hh he; h a w e' h1 h2
theorem Cv.same : Cv cx nt E M E M := fun a w e hh he => ⟨e, hh, he⟩
theorem Cv.trans (h : Cv cx nt E M E' M') (k : Cv cx nt E' M' E'' M'') : Cv cx nt E M E'' M'' := fun a w e hh he => let ⟨e', h1, h2⟩ := h a w e hh he; k a w e' h1 h2
theorem WPL.nilW (h : W cx fr Q .normal E M) : WPL P cx fr ops [] E M Q := fun a w e hh he => h a w e _ hh he rfl
theorem WP.skipW (h : W cx fr Q .normal E M) : WP P cx fr .skip E M Q := fun a w e hh he => wpIn_skip (h a w e _ hh he rfl)
theorem WP.exitW {id : Nat} (h : W cx fr Q (.exit id) E M) : WP P cx fr (.exit id) E M Q := fun a w e hh he => wpIn_exit (h a w e _ hh he rfl)
theorem WP.retW (h : W cx fr Q .ret E M) : WP P cx fr .ret E M Q := fun a w e hh he => wpIn_ret (h a w e _ hh he rfl)
theorem WPD.doneW {st X : List Nat} {fuel : Nat} {listed : Array Bool} (hb : readyNo ops listed = true) (h : W cx fr Q .normal E M) : WPD P cx fr ops st X fuel listed E M Q := by
  intro a w e hh he
  have hready : Region.ready .any ops listed = [] := by simpa [readyNo, List.isEmpty_iff] using hb
  have hs : Sat cx fr Q .normal a w := h a w e _ hh he rfl
  cases fuel with
  | zero => exact ⟨hready, hs⟩
  | succ n => exact ⟨fun _ => hs, by rw [hready]; simp⟩
theorem WPD.split {st X : List Nat} {fuel : Nat} {listed : Array Bool} {t : Nat} {b : Bool} (hv : E.v t = .lit (.bool b)) (h1 : b = true → WPD P cx fr ops st X fuel listed E M Q) (h2 : b = false → WPD P cx fr ops st X fuel listed E M Q) : WPD P cx fr ops st X fuel listed E M Q := by
  cases b with
  | true => exact h1 rfl
  | false => exact h2 rfl
theorem WPD.sub {st X : List Nat} {fuel : Nat} {listed : Array Bool} (X' : List Nat) (hs : X'.all X.contains = true) (k : WPD P cx fr ops st X' fuel listed E M Q) : WPD P cx fr ops st X fuel listed E M Q :=
  fun a w e hh he => wpAnyF_mono (fun _ h => h) (fun _ h => h.nil_of) (fun _ h => h) (fun i hi => List.all_eq_true.1 hs i (by simpa using hi)) _ _ _ _ (k a w e hh he)
theorem WP.regionD' (n : Nat) (st X : List Nat) {id : Nat} (hm : P.follows .mixedOrders = true) (hn : ops.size = n) (h : WPD P cx fr ops st X n (Array.replicate n false) E M Q) : WP P cx fr (.region id ops true) E M Q := by
  subst hn; exact WP.regionD st X hm h
/-- A cut. -/
theorem WP.monoW (h : WP P cx fr c E M Q) (hq : ∀ x E M, Q x E M → W cx fr Q' x E M) : WP P cx fr c E M Q' :=
  fun a w e hh he => Go.wpIn_mono (h a w e hh he) fun X a' w' k => by
    obtain ⟨y, E', M', e', q, h1, h2, h3⟩ := k
    exact hq y E' M' q a' w' e' X h1 h2 h3
theorem Cv.weak {np : Nat} (l : List Nat) (hnp : cx.np = np) (hM : LeM l np M M') (hE : LeE l M'.n E E') : Cv cx nt E M E' M' :=
  fun a w e hh he => ⟨_, hh.re hnp hM, he.re hM hE⟩
/-- A state told otherwise, its naming going on. -/
def CvL (cx : Cx) (nt : Nat) (E : Env) (M : Mem) (E' : Env) (M' : Mem) : Prop :=
  ∀ a w e, Hold cx e M w → Emb nt e M E a → ∃ e', Hold cx e' M' w ∧ Emb nt e' M' E' a ∧ e.le e'
theorem CvL.cv (h : CvL cx nt E M E' M') : Cv cx nt E M E' M' := fun a w e hh he => let ⟨e', h1, h2, _⟩ := h a w e hh he; ⟨e', h1, h2⟩
theorem CvL.vir {α : Type} (ct : TypeId) (R : Rd α) {N : Nat} (hN : M.n = N) (tt : Nat) (hv : E.v tt = .lit (.slice none 0 0)) : CvL cx nt E M (E.upd tt (.whole N)) (M.push (.row ct R [])) := by
  intro a w e hh he
  refine ⟨e.bump 0 0 0 true, hh.bindVir, ?_, e.bump_le 0 0 0 true⟩
  have h1 : Emb nt (e.bump 0 0 0 true) (M.push (.row ct R [])) E a := he.mono (e.bump_le 0 0 0 true) (fun b => e.bump_mem 0 0 0 true b)
  refine ⟨h1.sz, fun u => ?_, h1.d, h1.o⟩
  rw [Env.upd_v]
  split
  · rename_i hu
    subst hu
    have := h1.v u
    rw [hv] at this
    simp only [Val] at this
    rw [this]
    simp only [Val, Nv.bump, ← hN, ← hh.n, if_true]
    exact ⟨Nat.lt_succ_self _, Nat.le_refl _, trivial, trivial⟩
  · exact h1.v u
theorem Cv.vir {α : Type} (ct : TypeId) (R : Rd α) {N : Nat} (hN : M.n = N) (tt : Nat) (hv : E.v tt = .lit (.slice none 0 0)) : Cv cx nt E M (E.upd tt (.whole N)) (M.push (.row ct R [])) := CvL.cv (CvL.vir ct R hN tt hv)
/-- A value told otherwise. -/
theorem q_nm {op : Op} {ty : TypeId} {st : List Nat} {v v' : AVal} (h : Quiet P op ty E M st v) (hv : v = v') : Quiet P op ty E M st v' := hv ▸ h
theorem nm_int {k : IntKind} {a b : Int} (h : some a = some b) : AVal.lit (.int k a) = AVal.lit (.int k b) := by cases h; rfl
theorem nm_bool {a b : Bool} (h : some a = some b) : AVal.lit (.bool a) = AVal.lit (.bool b) := by cases h; rfl
theorem nf {α : Type} {x : Option α} {r : α} {p : Prop} (e : x = none) (h : x = some r) : p := by rw [e] at h; cases h
end
/-- A truth value that is known. -/
theorem lb {a b : Bool} (h : a = b) : AVal.lit (.bool a) = AVal.lit (.bool b) := by rw [h]
theorem bnot {a : Bool} (h : (!a) = true) : a = false := by cases a <;> first | rfl | cases h
theorem Joins.nil {α : Type} {R : Rd α} {b : Bool} : Joins (Rd.slice R) b [] [.lit (.slice none 0 0)] := fun e cs hk ho => by
  simp only [Vals, Val] at hk
  obtain ⟨v, ws, rfl, rfl, rfl⟩ := hk
  exact .inl ⟨rfl, none, 0, rfl⟩
/-- What a body must come to, its memory told anew. -/
def BodyR (az : List (Nat × Nat)) (rs : List ResultVar) (np : Nat) (Q : Out → Mem → Prop) (x : Ex) (E : Env) (M : Mem) : Prop :=
  match x with
  | .normal | .ret => marksOk M E.d ∧ ∃ vs, resAll az E (dropMarks M E.d) rs = some vs ∧ ∃ (l : List Nat) (v : AVal) (M2 : Mem), LeM l np (dropMarks M E.d) M2 ∧ resOut vs = v.ren (sub l) ∧ v.under M2.n = true ∧ Q (.ret v) M2
  | .panic u => marksOk M E.d ∧ ∃ (l : List Nat) (v : AVal) (M2 : Mem), LeM l np (dropMarks M E.d) M2 ∧ u = v.ren (sub l) ∧ v.under M2.n = true ∧ Q (.pan v) M2
  | _ => False
theorem Spec.of_bodyR {az : List (Nat × Nat)} {P : Program} {f : FuncId} {fn : Func} {c : Code} {np nt : Nat} {args : List AVal} {M : Mem} {Q : Out → Mem → Prop} {rs : List ResultVar} (hf : P.funcs[f]? = some fn) (hb : fn.body = some c) (hr : fn.results.toList = rs) (hsc : ∀ t T, ResultVar.cell t T ∈ rs → CellOk P az T)
    (hnt : fn.ntmps = nt) (ha : Nat.ble args.length nt = true) (h : ∀ cx, cx.np = np → WP P cx ⟨nt, none⟩ c (argsEnv args) M (BodyR az rs np Q)) : Spec P f np args M Q := by
  have h1 : Spec P f np args M fun o M' => match o with
      | .ret u => ∃ (l : List Nat) (v : AVal) (M2 : Mem), LeM l np M' M2 ∧ u = v.ren (sub l) ∧ v.under M2.n = true ∧ Q (.ret v) M2
      | .pan u => ∃ (l : List Nat) (v : AVal) (M2 : Mem), LeM l np M' M2 ∧ u = v.ren (sub l) ∧ v.under M2.n = true ∧ Q (.pan v) M2 := by
    refine Spec.of_body hf hb hr hsc hnt ha fun cx hnp => (h cx hnp).mono fun x E M q => ?_
    cases x with
    | normal => obtain ⟨q1, vs, q2, q3⟩ := q; exact ⟨q1, vs, q2, q3⟩
    | ret => obtain ⟨q1, vs, q2, q3⟩ := q; exact ⟨q1, vs, q2, q3⟩
    | panic u => obtain ⟨q1, q2⟩ := q; exact ⟨q1, q2⟩
    | exit id => exact q
    | goto l => exact q
  intro cx e w vs k1 k2 k3
  refine (h1 cx e w vs k1 k2 k3).mono fun x w' ⟨o, M', e', q, g1, g2⟩ => ?_
  cases o with
  | ret u =>
    obtain ⟨l, v, M2, hM, rfl, hu, hq⟩ := q
    obtain ⟨y, rfl, hy⟩ := g2
    exact ⟨.ret v, M2, _, hq, g1.re k1.np hM, y, rfl, hy.re hu⟩
  | pan u =>
    obtain ⟨l, v, M2, hM, rfl, hu, hq⟩ := q
    obtain ⟨y, rfl, hy⟩ := g2
    exact ⟨.pan v, M2, _, hq, g1.re k1.np hM, y, rfl, hy.re hu⟩
theorem Scope.n {Q : Ex → Env → Mem → Prop} {E : Env} {M : Mem} (h : Q .normal E M) : (match Ex.normal with | .goto _ => False | _ => True) ∧ Q .normal E M := ⟨trivial, h⟩
theorem Scope.r {Q : Ex → Env → Mem → Prop} {E : Env} {M : Mem} (h : Q .ret E M) : (match Ex.ret with | .goto _ => False | _ => True) ∧ Q .ret E M := ⟨trivial, h⟩
theorem Scope.x {Q : Ex → Env → Mem → Prop} {E : Env} {M : Mem} {id : Nat} (h : Q (.exit id) E M) : (match Ex.exit id with | .goto _ => False | _ => True) ∧ Q (.exit id) E M := ⟨trivial, h⟩
section
variable {cx : Cx} {e : Nv} {M : Mem} {w : World} {E : Env} {nt : Nat}
/-- A mark that stands for nothing. -/
theorem Hold.bindBag (h : Hold cx e M w) : Hold cx (e.bump 0 0 0 true) (M.push .bag) w := by
  have h1 := h.bindVir (t := 0) (R := Rd.unit)
  have hat : ∀ i, ((M.push .bag).at_ i) = if i = M.n then .bag else (M.push (.row 0 Rd.unit [])).at_ i := by
    intro i; rw [Mem.push_at, Mem.push_at]; split <;> rfl
  have hatn : (M.push (.row 0 Rd.unit [])).at_ M.n = .row 0 Rd.unit [] := by rw [Mem.push_at, if_pos rfl]
  have hvn : (e.bump 0 0 0 true).vir M.n = true := by simp [Nv.bump, h.n]
  have hbn : (e.bump 0 0 0 true).bag M.n = [] := by simp [Nv.bump, h.n]
  have lv : ∀ i, ((M.push .bag).at_ i).live (e.bump 0 0 0 true) i → ((M.push (.row 0 Rd.unit [])).at_ i).live (e.bump 0 0 0 true) i := by
    intro i hl
    rw [hat] at hl
    split at hl
    · exact hl.elim
    · exact hl
  have mk : ∀ i, ((M.push .bag).at_ i).mark = true → i = M.n ∨ ((M.push (.row 0 Rd.unit [])).at_ i).mark = true := by
    intro i hm
    rw [hat] at hm
    split at hm
    · exact .inl (by assumption)
    · exact .inr hm
  refine ⟨h1.bm, h1.n, h1.size, h1.os, h1.tape, h1.output, h1.frame, h1.ro, h1.bro, h1.m0, h1.mnew, ?_, fun i hi hl => h1.live i hi (lv i hl), fun i j hi hj hli hlj => h1.dist i j hi hj (lv i hli) (lv j hlj), h1.np, h1.pin, ⟨?_, ?_, ?_, ?_⟩⟩
  · intro i hi
    rw [hat]
    split
    · rename_i hin; subst hin; exact hvn
    · exact h1.ch i hi
  · intro i hi hm
    rcases mk i hm with rfl | hm
    · rw [hbn]; exact List.nodup_nil
    · exact h1.bag.nodup i hi hm
  · intro i hi hm x hx
    rcases mk i hm with rfl | hm
    · rw [hbn] at hx; cases hx
    · exact h1.bag.at_ i hi hm x hx
  · intro i hi hm x hx j hj hlj
    rcases mk i hm with rfl | hm
    · rw [hbn] at hx; cases hx
    · exact h1.bag.own i hi hm x hx j hj (lv j hlj)
  · intro i j hi hj hmi hmj hij x hx
    rcases mk i hmi with rfl | hmi
    · rw [hbn] at hx; cases hx
    · rcases mk j hmj with rfl | hmj
      · rw [hbn]; simp
      · exact h1.bag.dist i j hi hj hmi hmj hij x hx
theorem Cv.nullMark {N : Nat} (hN : M.n = N) (hd : E.d = []) : Cv cx nt E M ⟨E.v, [N], E.o⟩ (M.push .bag) := by
  intro a w e hh he
  have h1 : Emb nt (e.bump 0 0 0 true) (M.push .bag) E a := he.mono (e.bump_le 0 0 0 true) (fun b => e.bump_mem 0 0 0 true b)
  refine ⟨_, hh.bindBag, h1.sz, h1.v, ?_, h1.o⟩
  have hd1 := h1.d
  rw [hd] at hd1
  refine ⟨[], ?_, by simp [Nv.bump, hh.n, hN], rfl⟩
  have : markBlocks (e.bump 0 0 0 true) N = [] := by simp [markBlocks, Nv.bump, hh.n, hN]
  rw [this]
  exact hd1
end
/-- One name more, for a bag of marks. -/
def Nv.bumpBag (e : Nv) (bs : List Nat) : Nv := { e.bump 0 0 0 true with bag := fun k => if k = e.n then bs else e.bag k }
theorem Nv.bumpBag_le (e : Nv) (bs : List Nat) : e.le (e.bumpBag bs) :=
  ⟨Ro.le.refl _, Ro.le.refl _, Nat.le_succ _, (e.bump_le 0 0 0 true).own, (e.bump_le 0 0 0 true).caps, (e.bump_le 0 0 0 true).lens, (e.bump_le 0 0 0 true).vir, fun i hi => by simp [Nv.bumpBag, Nat.ne_of_lt hi]⟩
theorem Nv.bumpBag_mem (e : Nv) (bs : List Nat) (x : Bool) : Ro.le (e.mem x) ((e.bumpBag bs).mem x) := Ro.le.refl _
section
variable {cx : Cx} {e : Nv} {M : Mem} {w : World} {E : Env} {nt : Nat}
theorem Hold.bindBagL (h : Hold cx e M w) {bs : List Nat} (hn : bs.Nodup) (hb : ∀ b ∈ bs, w.heap[b]? = some (.deferred (some [])) ∧ Trash cx e M b) : Hold cx (e.bumpBag bs) (M.push .bag) w := by
  have hle := e.bumpBag_le bs
  have hat : ∀ i, i < e.n → (M.push .bag).at_ i = M.at_ i := fun i hi => by rw [Mem.push_at, if_neg (by rw [← h.n]; omega)]
  have hatn : (M.push .bag).at_ e.n = .bag := by rw [Mem.push_at, if_pos h.n]
  have split : ∀ i, i < (e.bumpBag bs).n → i = e.n ∨ i < e.n := fun i hi => by simp only [Nv.bumpBag, Nv.bump] at hi; omega
  have bn : (e.bumpBag bs).bag e.n = bs := by simp [Nv.bumpBag]
  have bo : ∀ i, i < e.n → (e.bumpBag bs).bag i = e.bag i := hle.bag
  have hdead : ¬ ((M.push .bag).at_ e.n).live (e.bumpBag bs) e.n := by rw [hatn]; exact fun h => h
  refine ⟨h.bm, by simp [Nv.bumpBag, Nv.bump, Mem.push, h.n], h.size, h.os, h.tape, h.output, h.frame, h.ro, h.bro, h.m0, h.mnew, ?_, ?_, ?_, Nat.le_succ_of_le h.np, ?_, ?_⟩
  · intro i hi
    rcases split i hi with rfl | hi'
    · rw [hatn]; simp [Chunk.ok, Nv.bumpBag, Nv.bump]
    · rw [hat i hi']
      exact Chunk.ok_mono hle (fun x => e.bumpBag_mem bs x) hi' (h.ch i hi')
  · intro i hi hl
    rcases split i hi with rfl | hi'
    · exact absurd hl hdead
    · rw [hat i hi'] at hl
      have := h.live i hi' ((live_congr (hle.vir i hi')).1 hl)
      rw [hle.own i hi']
      exact this
  · intro i j hi hj hli hlj hij
    rcases split i hi with rfl | hi'
    · exact absurd hli hdead
    rcases split j hj with rfl | hj'
    · exact absurd hlj hdead
    rw [hat i hi'] at hli
    rw [hat j hj'] at hlj
    rw [hle.own i hi', hle.own j hj'] at hij
    exact h.dist i j hi' hj' ((live_congr (hle.vir i hi')).1 hli) ((live_congr (hle.vir j hj')).1 hlj) hij
  · intro i hi
    have hi' : i < e.n := by have := h.np; omega
    rw [hle.own i hi', hle.caps i hi', hle.lens i hi', hle.vir i hi']
    exact h.pin i hi
  · refine ⟨fun i hi hmk => ?_, fun i hi hmk x hx => ?_, fun i hi hmk x hx j hj hlj => ?_, fun i j hi hj hmi hmj hij x hx => ?_⟩
    · rcases split i hi with rfl | hi'
      · rw [bn]; exact hn
      · rw [hat i hi'] at hmk; rw [bo i hi']; exact h.bag.nodup i hi' hmk
    · rcases split i hi with rfl | hi'
      · rw [bn] at hx
        obtain ⟨h1, h2⟩ := hb x hx
        exact ⟨h1, h2.m, h2.bm, h2.F⟩
      · rw [hat i hi'] at hmk; rw [bo i hi'] at hx
        exact h.bag.at_ i hi' hmk x hx
    · rcases split j hj with rfl | hj'
      · exact absurd hlj hdead
      · rw [hat j hj'] at hlj
        rw [hle.own j hj']
        have hlj' := (live_congr (hle.vir j hj')).1 hlj
        rcases split i hi with rfl | hi'
        · rw [bn] at hx; exact (hb x hx).2.own j hj' hlj'
        · rw [hat i hi'] at hmk; rw [bo i hi'] at hx
          exact h.bag.own i hi' hmk x hx j hj' hlj'
    · rcases split i hi with rfl | hi'
      · rw [bn] at hx
        rcases split j hj with rfl | hj'
        · exact absurd rfl hij
        · rw [hat j hj'] at hmj; rw [bo j hj']
          exact (hb x hx).2.bag j hj' hmj
      · rw [hat i hi'] at hmi; rw [bo i hi'] at hx
        rcases split j hj with rfl | hj'
        · rw [bn]
          exact fun hxb => (hb x hxb).2.bag i hi' hmi hx
        · rw [hat j hj'] at hmj; rw [bo j hj']
          exact h.bag.dist i j hi' hj' hmi hmj hij x hx
/-- A finished mark and a bag, as one bag. -/
theorem Cv.absorb {N i j : Nat} {l : List Nat} (hN : M.n = N) (hd : E.d = j :: i :: l) (hj : M.at_ j = .obj (.deferred (some []))) (hi : M.at_ i = .bag) : Cv cx nt E M ⟨E.v, N :: l, E.o⟩ (((M.set j .gone).set i .gone).push .bag) := by
  intro a w e hh he
  have hdm := he.d
  rw [hd] at hdm
  obtain ⟨r1, hr1, hjn, i1, hi1, hin, hr2⟩ := hdm
  have hij : j ≠ i := by rintro rfl; rw [hj] at hi; cases hi
  have hjm : (M.at_ j).mark = true := by rw [hj]; rfl
  have him : (M.at_ i).mark = true := by rw [hi]; rfl
  have hjl : (M.at_ j).live e j := by rw [hj]; trivial
  have hcj := hh.ch j hjn
  rw [hj] at hcj
  obtain ⟨hvj, hbj⟩ := hcj
  have hci := hh.ch i hin
  rw [hi] at hci
  have hvi : e.vir i = true := hci
  have hlj := hh.live j hjn hjl
  let bs := e.own j :: (e.bag j ++ e.bag i)
  have hh2 : Hold cx e ((M.set j .gone).set i .gone) w := (hh.drop j).drop i
  have at2 : ∀ k, ((M.set j .gone).set i .gone).at_ k = if k = i then .gone else if k = j then .gone else M.at_ k := by
    intro k; rw [Mem.set_at]; split
    · rfl
    · rw [Mem.set_at]
  have lv : ∀ k, (((M.set j .gone).set i .gone).at_ k).live e k → k ≠ j ∧ (M.at_ k).live e k := by
    intro k hk
    rw [at2] at hk
    split at hk
    · exact hk.elim
    · split at hk
      · exact hk.elim
      · exact ⟨by assumption, hk⟩
  have mk : ∀ k, (((M.set j .gone).set i .gone).at_ k).mark = true → k ≠ j ∧ k ≠ i ∧ (M.at_ k).mark = true := by
    intro k hk
    rw [at2] at hk
    split at hk
    · cases hk
    · split at hk
      · cases hk
      · exact ⟨by assumption, by assumption, hk⟩
  have hnd : bs.Nodup := by
    refine List.nodup_cons.2 ⟨?_, List.nodup_append.2 ⟨hh.bag.nodup j hjn hjm, hh.bag.nodup i hin him, ?_⟩⟩
    · intro hm
      rcases List.mem_append.1 hm with hm | hm
      · exact hh.bag.own j hjn hjm _ hm j hjn hjl rfl
      · exact hh.bag.own i hin him _ hm j hjn hjl rfl
    · intro x hx y hy hxy
      subst hxy
      exact hh.bag.dist j i hjn hin hjm him hij x hx hy
  have htr : ∀ b ∈ bs, w.heap[b]? = some (.deferred (some [])) ∧ Trash cx e ((M.set j .gone).set i .gone) b := by
    intro b hb
    rcases List.mem_cons.1 hb with rfl | hb
    · refine ⟨hbj, hlj.2.1, hlj.2.2.1, hlj.2.2.2, fun k hk hl => ?_, fun k hk hm hx => ?_⟩
      · obtain ⟨h1, h2⟩ := lv k hl
        exact fun he => h1 (hh.dist k j hk hjn h2 hjl he)
      · exact hh.bag.own k hk (mk k hm).2.2 _ hx j hjn hjl rfl
    · have key : ∀ q, q < e.n → (M.at_ q).mark = true → (q = j ∨ q = i) → b ∈ e.bag q → w.heap[b]? = some (.deferred (some [])) ∧ Trash cx e ((M.set j .gone).set i .gone) b := by
        intro q hq hqm hqji hbq
        obtain ⟨g1, g2, g3, g4⟩ := hh.bag.at_ q hq hqm b hbq
        refine ⟨g1, g2, g3, g4, fun k hk hl => hh.bag.own q hq hqm b hbq k hk (lv k hl).2, fun k hk hm => ?_⟩
        obtain ⟨m1, m2, m3⟩ := mk k hm
        refine hh.bag.dist q k hq hk hqm m3 ?_ b hbq
        rcases hqji with rfl | rfl
        · exact fun h => m1 h.symm
        · exact fun h => m2 h.symm
      rcases List.mem_append.1 hb with hb | hb
      · exact key j hjn hjm (.inl rfl) hb
      · exact key i hin him (.inr rfl) hb
  have hle := e.bumpBag_le bs
  have h1 : Emb nt (e.bumpBag bs) (((M.set j .gone).set i .gone).push .bag) E a := he.mono hle (fun b => e.bumpBag_mem bs b)
  have hNe : N = e.n := by rw [← hN, hh.n]
  refine ⟨_, hh2.bindBagL hnd htr, h1.sz, h1.v, ?_, h1.o⟩
  refine ⟨i1, ?_, by rw [hNe]; simp [Nv.bumpBag, Nv.bump], hr2.mono hle⟩
  have e1 : markBlocks (e.bumpBag bs) N = bs := by
    subst hNe; simp [markBlocks, Nv.bumpBag, Nv.bump]
  have e2 : markBlocks e j = e.own j :: e.bag j := by simp [markBlocks, hvj]
  have e3 : markBlocks e i = e.bag i := by simp [markBlocks, hvi]
  show a.defers = _
  rw [hr1, hi1, e1, e2, e3]
  simp [bs]
end
end Go.Q
namespace Go.Q
open Go
set_option linter.unusedVariables false
set_option linter.unusedSimpArgs false
def strOf (l : List Int) : ByteArray := l.foldl (fun r n => r.push (UInt8.ofNat n.toNat)) ByteArray.empty
theorem rows_u8 {m : Ro} : ∀ {l : List Int} {cs : List Value}, rows (Rd.int .u8) m l cs → cs.take l.length = l.map (Value.int .u8)
  | [], _, _ => by simp
  | d :: l, cs, h => by
    obtain ⟨h1, h2⟩ := h
    have h3 := rows_u8 h2
    simp only [Rd.int, Rd.sc] at h1 h3
    cases cs with
    | nil => simp at h1
    | cons c cs =>
      simp at h1 h3
      simp [h1, h3]
section
variable {P : Program} {E : Env} {M : Mem} {ty : TypeId}
theorem run_firstBytes (w : World) (bk o len : Nat) {c : Array Value} {tt : TypeId} {fr : Nat × Nat} {m : Ro} {l : List Int} (hb : w.heap[bk]? = some (.cells c tt fr)) (hr : rows (Rd.int .u8) m l (c.toList.drop o)) (hl : len = l.length) :
    (loadCells ⟨bk, o, none⟩ len).run P w = .ok (l.map (Value.int .u8)).toArray w := by
  have h1 := rows_u8 hr
  have h2 := rows_len hr
  simp only [Rd.int, Rd.sc, Nat.mul_one] at h2
  have := run_loadCells_list (P := P) w ⟨bk, o, none⟩ (l.map (Value.int .u8)) (by
    intro j v hj
    rw [add_at, cell_of hb]
    rw [← h1] at hj
    have hjl : j < l.length := by
      have := (List.getElem?_eq_some_iff.1 hj).1
      simp at this; omega
    rw [List.getElem?_take_of_lt hjl, List.getElem?_drop] at hj
    simpa using hj)
  rw [List.length_map] at this
  rw [hl]; exact this
/-- A string of the bytes of a row of our own. -/
theorem q_bytes_str_row {src dst e ct : TypeId} {x : Operand} {i : Nat} {l : List Int} (hs : P.underlying src = some (.slice e)) (he : P.underlying e = some (.int .u8)) (hd : P.underlying dst = some .string) (hx : E.ev x = .whole i) (hc : M.at_ i = .row ct (Rd.int .u8) l) :
    Quiet P (.convert src dst x) ty E M [i] (.lit (.string (strOf l))) :=
  fun cx nt a w e' hh hem => ⟨.string (strOf l), by simp [Val], fun w1 hw => by
    have hv := hem.ev x; rw [hx] at hv; simp only [Val] at hv
    have hk := hh.ch i hv.1
    rw [hc] at hk
    obtain ⟨g1, g2, g3, g4⟩ := hk
    have hv3 := hv.2.2
    cases hvir : e'.vir i with
    | true =>
      rw [hvir] at hv3 g4
      simp only [if_true] at hv3 g4
      subst g4
      have : (Conv.bytesToString (.slice none 0 0)).run P w1 = .ok (.string ByteArray.empty) w1 := by simp [Conv.bytesToString]
      simp only [exec1, execOp, hv3.1, Sem.run_bind, run_convert_bytes_string w1 src dst e none 0 0 hs he hd, this, Result.andThen, Sem.run_pure]
      rfl
    | false =>
      rw [hvir] at hv3 g4
      simp only [Bool.false_eq_true, if_false] at hv3 g4
      obtain ⟨c, z, hb, _, hcs, hrow⟩ := g4
      have := run_bytesToString (P := P) w1 ⟨e'.own i, 0, none⟩ l.length (e'.caps i) l (run_firstBytes w1 (e'.own i) 0 l.length ((hw.own i (by simp) hvir).trans hb) (by simpa using hrow) rfl)
      simp only [exec1, execOp, hv3, g1, Sem.run_bind, run_convert_bytes_string w1 src dst e _ _ _ hs he hd, this, Result.andThen, Sem.run_pure]
      rfl⟩
end
end Go.Q
namespace Go.Q
open Go
set_option linter.unusedVariables false
set_option linter.unusedSimpArgs false
def heapRo (W : World) : Ro := fun b => W.heap[b]?
def nvAll (W : World) : Nv := ⟨heapRo W, fun _ => none, fun _ => 0, fun _ => 0, fun _ => 0, fun _ => false, 0, fun _ => []⟩
theorem Spec.law {P : Program} {f : FuncId} {args : List AVal} {x : Value} (h : Spec P f 0 args Mem.nil fun o M => o = .ret (.lit x) ∧ M = Mem.nil) {W : World} {vs : List Value} (hv : Vals (nvAll W) args vs)
    (htb : ∀ g l, tabs g = some l → ∃ c t z, heapRo W g = some (.cells c t z) ∧ c.toList.take l.length = l := by exact tabs_none) :
    Calls P f vs.toArray W fun e W' => e = .returned x ∧ RowKit.Below W.heap.size W W' := by
  have hent : Entry ⟨W, fun _ => False, heapRo W, fun _ => none, 0, nvAll W, htb⟩ 0 (nvAll W) Mem.nil W :=
    ⟨rfl, rfl, rfl, rfl, fun b => ⟨fun h => h.elim, fun ⟨i, hi, _⟩ => absurd hi (Nat.not_lt_zero _)⟩⟩
  have hh : Hold ⟨W, fun _ => False, heapRo W, fun _ => none, 0, nvAll W, htb⟩ (nvAll W) Mem.nil W :=
    ⟨rfl, rfl, Nat.le_refl _, rfl, rfl, rfl, fun _ _ _ => rfl, fun _ _ h => h, fun _ _ h => (by cases h), Ro.le.refl _, fun _ _ h => .inl h, fun i hi => absurd hi (Nat.not_lt_zero _), fun i hi => absurd hi (Nat.not_lt_zero _),
     fun i j hi => absurd hi (Nat.not_lt_zero _), Nat.le_refl _, fun i hi => absurd hi (Nat.not_lt_zero _),
     ⟨fun i hi => absurd hi (Nat.not_lt_zero _), fun i hi => absurd hi (Nat.not_lt_zero _), fun i hi => absurd hi (Nat.not_lt_zero _), fun i j hi => absurd hi (Nat.not_lt_zero _)⟩⟩
  refine Calls.mono (CallsIn.calls (h _ _ W vs hent hh hv) (fence_room _)) ?_
  rintro e W' ⟨o, M', e', ⟨rfl, rfl⟩, k1, u, rfl, k2⟩
  simp only [Val] at k2
  subst k2
  exact ⟨rfl, k1.os, k1.tape, k1.output, k1.size, fun k hk => k1.frame k hk (fun h => h)⟩
theorem add_at' {a : Addr} {b off : Nat} : (a.add 0 = ⟨b, off, none⟩) = (a = ⟨b, off, none⟩) := by
  obtain ⟨b', o', sp⟩ := a
  cases sp <;> simp [Addr.add]
/-- A measure of readings. -/
structure Meas (H : Type) where
  u : DataW H → Nat
  ua : List (DataW H) → Nat
  nil : 1 ≤ u .nil
  lit : ∀ l, 1 ≤ u (.lit l)
  str : ∀ b, b.length + 1 ≤ u (.lit (.string b))
  ptr : ∀ d, u d + 1 ≤ u (.ptr d)
  slice : ∀ e s, ua e + 1 ≤ u (.slice e s)
  agg : ∀ l, ua l + 1 ≤ u (.agg l)
  cons : ∀ d r, u d + ua r ≤ ua (d :: r)
/-- A type whose readings are data of a reader: right ones, of a bulk. -/
def Opn (P : Program) (t : TypeId) {α : Type} (R : Rd α) (wf : α → Prop) (ms : α → Nat) : Prop :=
  R.sz = P.cellsOf t ∧ ∀ (H : Type) (enc : TypeId × Value → H) (W : World) (fuel : Nat) (cs : List Value) (x : DataW H × List MemPlace),
    DataW.trod enc P W 0 (fun _ => true) true fuel t cs = some x → ∃ d, R.ok (heapRo W) d cs ∧ wf d ∧ ∀ μ : Meas H, ms d ≤ μ.u x.1
section
variable {P : Program} {t e : TypeId}
theorem Opn.int {k : IntKind} (ht : P.underlying t = some (.int k)) (hc : P.cellsOf t = 1) : Opn P t (Rd.int k) (fun n => (Lit.int k n).wf = true) (fun _ => 1) :=
  ⟨hc.symm, fun H enc W fuel cs x h => by
    obtain ⟨n, rfl, rfl, hw⟩ := DataW.trod_int ht h
    exact ⟨n, rfl, hw, fun μ => μ.lit _⟩⟩
theorem Opn.bool (ht : P.underlying t = some .bool) (hc : P.cellsOf t = 1) : Opn P t Rd.bool (fun _ => True) (fun _ => 1) :=
  ⟨hc.symm, fun H enc W fuel cs x h => by
    obtain ⟨n, rfl, rfl⟩ := DataW.trod_bool ht h
    exact ⟨n, rfl, trivial, fun μ => μ.lit _⟩⟩
theorem Opn.str (ht : P.underlying t = some .string) (hc : P.cellsOf t = 1) : Opn P t Rd.str (fun s => s.size ≤ maxLen) (fun s => s.size + 1) :=
  ⟨hc.symm, fun H enc W fuel cs x h => by
    obtain ⟨s, rfl, rfl, hs⟩ := DataW.trod_string ht h
    refine ⟨s, rfl, hs, fun μ => ?_⟩
    have := μ.str s.data.toList
    rw [Array.length_toList] at this
    exact this⟩
def msum {α : Type} (ms : α → Nat) : List α → Nat
  | [] => 0
  | x :: l => ms x + msum ms l
theorem rows_mk {H : Type} {α : Type} {R : Rd α} {m : Ro} {wf : α → Prop} {ms : α → Nat} : ∀ (xs : List (DataW H × List MemPlace)) (cs : List Value), (∀ i x, xs[i]? = some x → ∃ d, R.ok m d ((cs.drop (i * R.sz)).take R.sz) ∧ wf d ∧ ∀ μ : Meas H, ms d ≤ μ.u x.1) →
    ∃ l : List α, l.length = xs.length ∧ rows R m l cs ∧ (∀ x ∈ l, wf x) ∧ ∀ μ : Meas H, msum ms l ≤ μ.ua (xs.map (·.1))
  | [], _, _ => ⟨[], rfl, trivial, by simp, fun μ => Nat.zero_le _⟩
  | x :: xs, cs, h => by
    obtain ⟨d, h1, h2, h0⟩ := h 0 x rfl
    obtain ⟨l, h3, h4, h5, h6⟩ := rows_mk xs (cs.drop R.sz) (fun i y hi => by
      obtain ⟨d, h1, h2, h0⟩ := h (i + 1) y (by simpa using hi)
      refine ⟨d, ?_, h2, h0⟩
      rw [List.drop_drop]
      rw [Nat.add_mul, Nat.one_mul, Nat.add_comm] at h1
      exact h1)
    refine ⟨d :: l, by simp [h3], ⟨by simpa using h1, h4⟩, ?_, fun μ => ?_⟩
    · intro x hx
      rcases List.mem_cons.1 hx with rfl | hx
      · exact h2
      · exact h5 x hx
    · exact Nat.le_trans (Nat.add_le_add (h0 μ) (h6 μ)) (μ.cons _ _)
theorem cells?_block {W : World} {a : Addr} {n : Nat} {cs : List Value} (h : W.cells? 0 a n = some cs) (hn : 0 < n) : ∃ b off c tt fr, a = ⟨b, off, none⟩ ∧ W.heap[b]? = some (.cells c tt fr) ∧ cs = (c.toList.drop off).take n := by
  obtain ⟨_, hlen, hget⟩ := World.cells?_some h
  obtain ⟨b, off, spot⟩ := a
  have h0 := hget 0 hn
  rw [List.getElem?_eq_getElem (by omega)] at h0
  have hspot : spot = none := by simpa [Addr.add] using World.cell?_spot h0
  subst hspot
  rw [add_at] at h0
  cases hb : W.heap[b]? with
  | none => simp [World.cell?, hb] at h0
  | some o =>
    cases o with
    | cells c tt fr =>
      refine ⟨b, off, c, tt, fr, rfl, hb, ?_⟩
      apply List.ext_getElem?
      intro i
      by_cases hi : i < n
      · rw [← hget i hi, add_at, cell_of hb, List.getElem?_take_of_lt hi, List.getElem?_drop]; simp
      · rw [List.getElem?_eq_none (by omega), List.getElem?_eq_none (by simp; omega)]
    | _ => simp [World.cell?, hb] at h0
theorem Opn.slice {α : Type} {R : Rd α} {wf : α → Prop} {ms : α → Nat} (ht : P.underlying t = some (.slice e)) (hc : P.cellsOf t = 1) (he : Opn P e R wf ms) (hpos : Nat.blt 0 R.sz = true) : Opn P t (Rd.slice R) (fun l => l.length ≤ maxLen ∧ ∀ x ∈ l, wf x) (fun l => msum ms l + 1) :=
  ⟨hc.symm, fun H enc W fuel cs x h => by
    have hpos' : 0 < R.sz := by simpa using hpos
    rcases DataW.trod_slice ht h with ⟨rfl, rfl⟩ | ⟨a, len, cap, elems, rest, n, _, rfl, rfl, _, hl, hm, hlen, hel, _⟩
    · exact ⟨[], .inl ⟨rfl, none, 0, rfl⟩, ⟨Nat.zero_le _, by simp⟩, fun μ => μ.nil⟩
    · have each : ∀ i x, elems[i]? = some x → ∃ cs', W.cells? 0 (a.add (i * R.sz)) R.sz = some cs' ∧ ∃ d, R.ok (heapRo W) d cs' ∧ wf d ∧ ∀ μ : Meas H, ms d ≤ μ.u x.1 := by
        intro i x hi
        have hil : i < len := by rw [← hlen]; exact (List.getElem?_eq_some_iff.1 hi).1
        have h1 := hel i hil
        rw [← he.1, hi, Option.bind_eq_some_iff] at h1
        obtain ⟨cs', h2, h3⟩ := h1
        exact ⟨cs', h2, he.2 H enc W n cs' _ h3⟩
      rcases Nat.eq_zero_or_pos len with h0 | h0
      · subst h0
        refine ⟨[], .inl ⟨rfl, some a, cap, rfl⟩, ⟨Nat.zero_le _, by simp⟩, fun μ => ?_⟩
        have := μ.slice (elems.map (·.1)) (rest.map (·.1))
        simp only [msum]; omega
      · obtain ⟨cs0, h2, _⟩ := each 0 elems[0] (List.getElem?_eq_getElem (by omega))
        rw [Nat.zero_mul] at h2
        obtain ⟨b, off, c, tt, fr, ha, hb, _⟩ := cells?_block h2 hpos'
        rw [add_at'] at ha
        subst ha
        obtain ⟨l, k1, k2, k3, k4⟩ := rows_mk (R := R) (m := heapRo W) (wf := wf) (ms := ms) elems (c.toList.drop off) (fun i x hi => by
          obtain ⟨cs', h2, d, h3, h4⟩ := each i x hi
          rw [add_at] at h2
          obtain ⟨b', off', c', tt', fr', ha', hb', hcs⟩ := cells?_block h2 hpos'
          simp only [Addr.mk.injEq, and_true] at ha'
          obtain ⟨rfl, rfl⟩ := ha'
          rw [hb] at hb'
          cases hb'
          refine ⟨d, ?_, h4⟩
          rw [List.drop_drop, ← hcs]
          exact h3)
        exact ⟨l, .inr ⟨b, off, c, tt, fr, cap, by rw [k1, hlen], by omega, hb, k2⟩, ⟨by omega, k3⟩, fun μ => Nat.le_trans (Nat.succ_le_succ (k4 μ)) (μ.slice _ _)⟩⟩
/-- The fields of a struct, from a place on. -/
def OpnP (P : Program) (l : List (Nat × TypeId)) (o : Nat) {α : Type} (R : Rd α) (wf : α → Prop) (ms : α → Nat) : Prop :=
  ∀ (H : Type) (enc : TypeId × Value → H) (W : World) (fuel : Nat) (cs : List Value) (xs : List (DataW H × List MemPlace)), xs.length = l.length → (∀ (i : Nat) (p : Nat × TypeId), l[i]? = some p → DataW.trod enc P W 0 (fun _ => true) true fuel p.2 ((cs.drop p.1).take (P.cellsOf p.2)) = xs[i]?) → cs.length = o + R.sz →
    ∃ d, R.ok (heapRo W) d (cs.drop o) ∧ wf d ∧ ∀ μ : Meas H, ms d ≤ μ.ua (xs.map (·.1))
theorem OpnP.nil {o : Nat} : OpnP P [] o Rd.unit (fun _ => True) (fun _ => 0) := fun H enc W fuel cs xs _ _ hl => ⟨(), by
  show cs.drop o = []
  exact List.drop_of_length_le (by simp [Rd.unit] at hl; omega), trivial, fun μ => Nat.zero_le _⟩
theorem OpnP.cons {o o' : Nat} {l : List (Nat × TypeId)} {α β : Type} {R : Rd α} {S : Rd β} {wf : α → Prop} {wf' : β → Prop} {ms : α → Nat} {ms' : β → Nat} (h : Opn P t R wf ms) (ho : o + R.sz = o') (k : OpnP P l o' S wf' ms') :
    OpnP P ((o, t) :: l) o (Rd.pair R S) (fun d => wf d.1 ∧ wf' d.2) (fun d => ms d.1 + ms' d.2) := fun H enc W fuel cs xs hx ha hl => by
  subst ho
  cases xs with
  | nil => simp at hx
  | cons x xs =>
    have hx1 := ha 0 (o, t) rfl
    obtain ⟨d, h1, h2, h5⟩ := h.2 H enc W fuel _ x hx1
    obtain ⟨d', h3, h4, h6⟩ := k H enc W fuel cs xs (by simpa using hx) (fun i p hp => ha (i + 1) p (by simpa using hp)) (by simp only [Rd.pair] at hl; omega)
    refine ⟨(d, d'), ⟨(cs.drop o).take R.sz, cs.drop (o + R.sz), ?_, by rw [h.1]; exact h1, h3⟩, ⟨h2, h4⟩, fun μ => Nat.le_trans (Nat.add_le_add (h5 μ) (h6 μ)) (μ.cons _ _)⟩
    rw [← List.drop_drop]
    exact (List.take_append_drop _ _).symm
theorem Opn.struct {α β : Type} {R : Rd α} {wf : α → Prop} {ms : α → Nat} {fs : Array Field} {l : List (Nat × TypeId)} {g : β → α} (mk : α → β) (hg : ∀ d, g (mk d) = d) (ht : P.underlying t = some (.struct fs)) (hl : fs.toList.map (fun f => (f.offset, f.type)) = l) (hc : R.sz = P.cellsOf t)
    (h : OpnP P l 0 R wf ms) : Opn P t (Rd.via R g) (fun s => wf (g s)) (fun s => ms (g s) + 1) :=
  ⟨hc, fun H enc W fuel cs x hx => by
    obtain ⟨xs, n, _, rfl, hlen, hxl, hf⟩ := DataW.trod_struct ht hx
    obtain ⟨d, h1, h2, h3⟩ := h H enc W n cs xs (by rw [hxl, ← hl]; simp) (fun i p hp => by
      rw [← hl, List.getElem?_map] at hp
      obtain ⟨f, hf', rfl⟩ := Option.map_eq_some_iff.1 hp
      exact hf i f (by simpa using hf')) (by rw [hlen, hc]; omega)
    refine ⟨mk d, ?_, by show wf (g (mk d)); rw [hg]; exact h2, fun μ => ?_⟩
    · show R.ok _ (g (mk d)) cs
      rw [hg]
      simpa using h1
    · show ms (g (mk d)) + 1 ≤ _
      rw [hg]
      exact Nat.le_trans (Nat.succ_le_succ (h3 μ)) (μ.agg _)⟩
end
/-- More rounds tell the same. -/
structure Le {α : Type} (x y : Option α) : Prop where
  h : ∀ r, x = some r → y = some r
theorem Le.rfl {α : Type} {x : Option α} : Le x x := ⟨fun _ h => h⟩
theorem Le.none {α : Type} {x y : Option α} (h : x = Option.none) : Le x y := ⟨fun r hr => by rw [h] at hr; cases hr⟩
theorem Le.bind {α β : Type} {x y : Option α} {f g : α → Option β} (h : Le x y) (k : ∀ a, Le (f a) (g a)) : Le (x.bind f) (y.bind g) := ⟨fun r hr => by
  obtain ⟨a, h1, h2⟩ := Option.bind_eq_some_iff.1 hr
  exact Option.bind_eq_some_iff.2 ⟨a, h.h a h1, (k a).h r h2⟩⟩
theorem Le.cond {α : Type} {b : Bool} {x x' y y' : Option α} (h : Le x x') (k : Le y y') : Le (bif b then x else y) (bif b then x' else y') := by
  cases b <;> assumption
end Go.Q
namespace Go.Q
open Go
set_option linter.unusedVariables false
set_option linter.unusedSimpArgs false
section
variable {k : IntKind}
theorem wrap_ofInt (hs : k.signed = false) (n : Int) : k.wrap n = ((BitVec.ofInt k.bits n).toNat : Int) := by
  have h2 : (0 : Int) < 2 ^ k.bits := Int.pow_pos (by decide)
  simp only [IntKind.wrap, hs, Bool.false_and, Bool.false_eq_true, if_false, BitVec.toNat_ofInt]
  rw [Int.toNat_of_nonneg]
  · simp
  · exact Int.emod_nonneg _ (by simp; omega)
theorem wrap_nat (hs : k.signed = false) (b : BitVec k.bits) : k.wrap (b.toNat : Int) = (b.toNat : Int) := by
  rw [wrap_ofInt hs, BitVec.ofInt_natCast, BitVec.ofNat_toNat]
  simp
theorem ofInt_toNat (b : BitVec k.bits) : BitVec.ofInt k.bits (b.toNat : Int) = b := by
  rw [BitVec.ofInt_natCast, BitVec.ofNat_toNat]; simp
theorem bv_and (hs : k.signed = false) (a b : BitVec k.bits) : bits .and k (a.toNat : Int) (b.toNat : Int) = ((a &&& b).toNat : Int) := by
  simp only [bits, ofInt_toNat, wrap_nat hs]
theorem bv_or (hs : k.signed = false) (a b : BitVec k.bits) : bits .or k (a.toNat : Int) (b.toNat : Int) = ((a ||| b).toNat : Int) := by
  simp only [bits, ofInt_toNat, wrap_nat hs]
end
theorem u64_and (a b : BitVec 64) : bits .and .u64 (a.toNat : Int) (b.toNat : Int) = ((a &&& b).toNat : Int) := bv_and (k := .u64) rfl a b
theorem u64_or (a b : BitVec 64) : bits .or .u64 (a.toNat : Int) (b.toNat : Int) = ((a ||| b).toNat : Int) := bv_or (k := .u64) rfl a b
theorem wi {n : Int} (h1 : -9223372036854775808 ≤ n) (h2 : n ≤ 9223372036854775807) : IntKind.wrap .i64 n = n := by
  rw [IntKind.wrap_i64]; omega
theorem wu8 {n : Int} (h1 : 0 ≤ n) (h2 : n ≤ 255) : IntKind.wrap .u8 n = n := by
  have : IntKind.wrap .u8 n = n % 256 := by simp [IntKind.wrap, IntKind.bits, IntKind.signed]
  rw [this]; omega
theorem i64_wf {n : Int} (h : (Lit.int .i64 n).wf = true) : -9223372036854775808 ≤ n ∧ n ≤ 9223372036854775807 := by
  simp only [Lit.wf, IntKind.min, IntKind.max, IntKind.signed, IntKind.bits, if_true, Bool.and_eq_true, decide_eq_true_eq] at h
  simpa using h
theorem ix_nat {α : Type} {l : List α} {i : Nat} (h : i < l.length) : ix l (i : Int) = some l[i] := by
  simp [ix, h]
theorem dt {p : Prop} [Decidable p] (h : p) : decide p = true := decide_eq_true h
theorem df {p : Prop} [Decidable p] (h : ¬ p) : decide p = false := decide_eq_false h
end Go.Q
namespace Go.Q
open Go
set_option linter.unusedVariables false
set_option linter.unusedSimpArgs false
end Go.Q
namespace Go.Q
open Go
set_option linter.unusedVariables false
set_option linter.unusedSimpArgs false
section
variable {P : Program} {ty : TypeId} {E : Env} {M : Mem}
/-- An array that is only read. -/
def Rd.array {α : Type} (n : Nat) (A : Rd α) (d0 : α) : Rd (List α) where
  sz := n * A.sz
  ok m l cs := cs.length = n * A.sz ∧ ∀ j, j < n → A.ok m (l.getD j d0) ((cs.drop (j * A.sz)).take A.sz)
  mono hm h := ⟨h.1, fun j hj => A.mono hm (h.2 j hj)⟩
  len h := h.1
  one := by
    rintro m d cs ⟨h1, h2⟩ v hv
    obtain ⟨k, hk, rfl⟩ := List.mem_iff_getElem.1 hv
    have hz : 0 < A.sz := by
      rcases Nat.eq_zero_or_pos A.sz with h | h
      · rw [h1, h] at hk; simp at hk
      · exact h
    have hkn : k / A.sz < n := Nat.div_lt_of_lt_mul (by rw [Nat.mul_comm, ← h1]; exact hk)
    refine A.one (h2 (k / A.sz) hkn) _ ?_
    have hkm := Nat.mod_lt k hz
    have e1 : k / A.sz * A.sz + k % A.sz = k := by rw [Nat.mul_comm]; exact Nat.div_add_mod k A.sz
    refine List.mem_iff_getElem?.2 ⟨k % A.sz, ?_⟩
    rw [List.getElem?_take_of_lt hkm, List.getElem?_drop, e1, List.getElem?_eq_getElem hk]
/-- A value put into an interface. -/
structure Conc (P : Program) (t : TypeId) : Prop where
  h : ∃ d, P.underlying t = some d ∧ (match d with | .interface _ => False | _ => True)
theorem q_mki {t : TypeId} {x : Operand} (h : Conc P t) : Quiet P (.makeInterface t x) ty E M [] (.ifc t (E.ev x)) :=
  fun _ _ a w e hh he => by
    obtain ⟨d, h1, h2⟩ := h.h
    refine ⟨.iface t (a.eval x), by simp only [Val]; exact ⟨_, rfl, he.ev x⟩, fun w1 _ => ?_⟩
    cases d <;> first | exact h2.elim | simp [exec1, execOp, Instr.makeInterface, run_underlying h1]
end
theorem PartIs.self {α : Type} {R : Rd α} {d : α} : PartIs R d 0 R d := fun m cs h => by
  rw [List.drop_zero, List.take_of_length_le (by rw [R.len h]; exact Nat.le_refl _)]; exact h
end Go.Q
namespace Go.Q
open Go
set_option linter.unusedVariables false
set_option linter.unusedSimpArgs false
/-- There is a result, of which something holds. -/
def Ret.{u} {α : Type u} (x : Option α) (p : α → Prop) : Prop := ∃ r, x = some r ∧ p r
section
universe u v
variable {α : Type u} {β : Type v} {x y : Option α} {p q : α → Prop} {r : α}
theorem Ret.pure (h : p r) : Ret (some r) p := ⟨r, rfl, h⟩
theorem Ret.bind {f : α → Option β} {q : β → Prop} (h : Ret x p) (k : ∀ a, p a → Ret (f a) q) : Ret (x.bind f) q := by
  obtain ⟨a, rfl, ha⟩ := h
  exact k a ha
theorem Ret.cond {b : Bool} (h : b = true → Ret x p) (k : b = false → Ret y p) : Ret (bif b then x else y) p := by
  cases b with
  | true => exact h rfl
  | false => exact k rfl
theorem Ret.mono (h : Ret x p) (k : ∀ a, p a → q a) : Ret x q := let ⟨r, h1, h2⟩ := h; ⟨r, h1, k r h2⟩
theorem Ret.some (h : Ret x p) : ∃ r, x = Option.some r := let ⟨r, h1, _⟩ := h; ⟨r, h1⟩
end
theorem bd {α : Type} {c : Prop} [Decidable c] {x y : α} : (bif decide c then x else y) = if c then x else y := by
  by_cases h : c <;> simp [h]
theorem bt {α : Type} {x y : α} : (bif true then x else y) = x := rfl
theorem bf {α : Type} {x y : α} : (bif false then x else y) = y := rfl
theorem tm (a b : Nat) : Int.tmod (a : Int) (b : Int) = ((a % b : Nat) : Int) := rfl
theorem td (a b : Nat) : Int.tdiv (a : Int) (b : Int) = ((a / b : Nat) : Int) := rfl
end Go.Q
namespace Go.Q
open Go
set_option linter.unusedVariables false
set_option linter.unusedSimpArgs false
section
variable {P : Program} {cx : Cx} {fr : Fr} {ops : Array Oper} {os : List Oper} {E : Env} {M M' : Mem} {Q : Ex → Env → Mem → Prop} {op : Op} {ty : TypeId} {pos : String} {after : Array Edge} {dst : Nat} {v : AVal} {tc : List Nat}
variable {st st' X X' : List Nat} {fuel : Nat} {listed : Array Bool} {i : Nat}
/-- The walk, when operation i comes up next. -/
def WPD1 (P : Program) (cx : Cx) (fr : Fr) (ops : Array Oper) (st X : List Nat) (fuel : Nat) (listed : Array Bool) (i : Nat) (E : Env) (M : Mem) (Q : Ex → Env → Mem → Prop) : Prop :=
  ∀ a w e, Hold cx e M w → Emb fr.nt e M E a → wpOpIn (fence fr.r) 0 P ops (Sat cx fr Q) i
    (fun a' w' => (X.contains i = true ∧ Agree e [] w w' ∧ wpAnyG P fr.r .any ops (Sat cx fr Q) (Agree e [] w) fuel (listed.setIfInBounds i true) a' w') ∨
      (X.contains i = false ∧ Agree e st w w' ∧ wpAnyF P fr.r .any ops (Sat cx fr Q) (Agree e [] w) (Agree e st w) X fuel (listed.setIfInBounds i true) a' w')) a w
def readyAre (ops : Array Oper) (listed : Array Bool) (l : List Nat) : Bool := Region.ready .any ops listed == l && !l.isEmpty
theorem WPD.ofL (l : List Nat) (hb : readyAre ops listed l = true) (h : ∀ i ∈ l, WPD1 P cx fr ops st X fuel listed i E M Q) : WPD P cx fr ops st X (fuel + 1) listed E M Q := by
  intro a w e hh he
  simp only [readyAre, Bool.and_eq_true, beq_iff_eq, Bool.not_eq_true'] at hb
  refine ⟨fun h0 => ?_, fun j hj => ?_⟩
  · rw [hb.1] at h0; subst h0; simp at hb
  · rw [hb.1] at hj
    exact h j hj a w e hh he
theorem WPD.of2 (i j : Nat) (hb : readyAre ops listed [i, j] = true) (h1 : WPD1 P cx fr ops st X fuel listed i E M Q) (h2 : WPD1 P cx fr ops st X fuel listed j E M Q) : WPD P cx fr ops st X (fuel + 1) listed E M Q :=
  WPD.ofL [i, j] hb fun k hk => by
    simp only [List.mem_cons, List.not_mem_nil, or_false] at hk
    rcases hk with rfl | rfl
    · exact h1
    · exact h2
theorem WPD.of3 (i j k : Nat) (hb : readyAre ops listed [i, j, k] = true) (h1 : WPD1 P cx fr ops st X fuel listed i E M Q) (h2 : WPD1 P cx fr ops st X fuel listed j E M Q) (h3 : WPD1 P cx fr ops st X fuel listed k E M Q) : WPD P cx fr ops st X (fuel + 1) listed E M Q :=
  WPD.ofL [i, j, k] hb fun m hk => by
    simp only [List.mem_cons, List.not_mem_nil, or_false] at hk
    rcases hk with rfl | rfl | rfl
    · exact h1
    · exact h2
    · exact h3
theorem WPD1.eff_core (i : Nat) (st' X' : List Nat) {o : Oper} {E' : Env} (ho : ops[i]? = some o)
    (hg : ∀ a e, Emb fr.nt e M E a → Region.wanted o (yielded ops a.tmps) = true)
    (hs : (X.contains i || (X'.all X.contains && st.all fun j => st'.contains j && Nat.blt j M.n && (M.at_ j).isOwn && !(tc.contains j))) = true)
    (hstep : ∀ a w e, Hold cx e M w → Emb fr.nt e M E a → ∀ (next : Act → World → Prop) (Q : Exit → Act → World → Prop),
      (∀ a' w' e', Hold cx e' M' w' → e.le e' → Emb fr.nt e' M' E' a' → (∀ b, b < w.heap.size → (∀ i ∈ tc, i < e.n → (M.at_ i).live e i → e.own i ≠ b) → w'.heap[b]? = w.heap[b]?) → next a' w') →
      o.wpIn (fence fr.r) 0 P a w next Q)
    (k : WPD P cx fr ops st' X' fuel (listed.setIfInBounds i true) E' M' Q) : WPD1 P cx fr ops st X fuel listed i E M Q := by
  intro a w e hh he
  unfold wpOpIn
  simp only [ho]
  rw [if_pos (hg _ _ he)]
  refine hstep a w e hh he _ _ fun a' w' e' hh' hle he' hfr => ?_
  have hk := k a' w' e' hh' he'
  have hag : ∀ {st'' : List Nat} w1, Agree e' st'' w' w1 → Agree e [] w w1 := fun w1 hw => ⟨fun b o hb => hw.ro b o (hle.m b o hb), fun b o hb => hw.bro b o (hle.bm b o hb), fun _ hi => by cases hi⟩
  cases hx : X.contains i with
  | true => exact .inl ⟨rfl, hag _ (Agree.of_hold hh' st'), wpAnyG_of_F (fun w1 h => hag w1 h) (fun w1 h => hag w1 h) _ _ _ _ hk⟩
  | false =>
    rw [hx, Bool.false_or, Bool.and_eq_true] at hs
    have hst : ∀ x ∈ st, e.vir x = false → x < e.n ∧ w'.heap[e.own x]? = w.heap[e.own x]? ∧ x ∈ st' := by
      intro x hx hvx
      have h := List.all_eq_true.1 hs.2 x hx
      simp only [Bool.and_eq_true, Nat.blt_eq, Bool.not_eq_true'] at h
      obtain ⟨⟨⟨h1, h2⟩, h3⟩, h4⟩ := h
      have hxn : x < e.n := by rw [hh.n]; exact h2
      have hlx : (M.at_ x).live e x := by
        cases hc : M.at_ x with
        | cells t l => trivial
        | row t R l => exact hvx
        | gone => rw [hc] at h3; simp [Chunk.isOwn] at h3
        | obj o => rw [hc] at h3; simp [Chunk.isOwn] at h3
        | bag => rw [hc] at h3; simp [Chunk.isOwn] at h3
      refine ⟨hxn, hfr _ (hh.live x hxn hlx).1 fun y hy hyn hly hxy => ?_, by simpa using h1⟩
      have := hh.dist y x hyn hxn hly hlx hxy
      subst this
      rw [List.contains_eq_mem] at h4
      simp [hy] at h4
    have hmono : ∀ w1, Agree e' st' w' w1 → Agree e st w w1 := by
      intro w1 hw
      refine ⟨fun b o hb => hw.ro b o (hle.m b o hb), fun b o hb => hw.bro b o (hle.bm b o hb), fun x hx hvx => ?_⟩
      obtain ⟨h1, h2, h3⟩ := hst x hx hvx
      have := hw.own x h3 ((hle.vir x h1).trans hvx)
      rw [hle.own x h1] at this
      exact this.trans h2
    refine .inr ⟨rfl, hmono _ (Agree.of_hold hh' st'), wpAnyF_mono (fun w1 h => hag w1 h) (fun w1 h => hag w1 h) hmono (fun y hy => ?_) _ _ _ _ hk⟩
    exact List.all_eq_true.1 hs.1 y (by simpa using hy)
theorem WPD1.eff (i : Nat) (st' X' : List Nat) (ho : ops[i]? = some { dst := some dst, op := op, type := ty, pos := pos, after := after, guard := Option.none })
    (h : Runs P op ty E M tc v M') (hs : (X.contains i || (X'.all X.contains && st.all fun j => st'.contains j && Nat.blt j M.n && (M.at_ j).isOwn && !(tc.contains j))) = true) (ht : Nat.blt dst fr.nt = true)
    (k : WPD P cx fr ops st' X' fuel (listed.setIfInBounds i true) (E.upd dst v) M' Q) : WPD1 P cx fr ops st X fuel listed i E M Q :=
  WPD1.eff_core (tc := tc) (M' := M') i st' X' ho (fun _ _ _ => rfl) hs (fun a w e hh he next Q' hk => h cx fr a w e hh he _ rfl rfl _ _ fun x w' e' hh' hle hv hfr _ =>
    hk _ w' e' hh' hle.1 ((he.mono hle.1 hle.2).put ht hv) hfr) k
theorem WPD1.effS (i : Nat) (st' X' : List Nat) (ho : ops[i]? = some { dst := Option.none, op := op, type := ty, pos := pos, after := after, guard := Option.none })
    (h : DoesS P op ty E M tc M') (hs : (X.contains i || (X'.all X.contains && st.all fun j => st'.contains j && Nat.blt j M.n && (M.at_ j).isOwn && !(tc.contains j))) = true)
    (k : WPD P cx fr ops st' X' fuel (listed.setIfInBounds i true) E M' Q) : WPD1 P cx fr ops st X fuel listed i E M Q :=
  WPD1.eff_core (tc := tc) (M' := M') i st' X' ho (fun _ _ _ => rfl) hs (fun a w e hh he next Q' hk => by
    obtain ⟨w', e', hr, hh', hle, hfr, _⟩ := h cx fr.nt a w e hh he
    refine ⟨fun _ _ => trivial, ?_⟩
    rw [semAt_skip hr]
    exact hk _ w' e' hh' hle.1 (he.mono hle.1 hle.2) hfr) k
end
end Go.Q
namespace Go.Q
open Go
set_option linter.unusedVariables false
set_option linter.unusedSimpArgs false
section
variable {P : Program} {E : Env} {M : Mem} {ty : TypeId}
/-- Two strings, one behind the other. -/
theorem q_concat {t yt : TypeId} {x y : Operand} {p s : ByteArray} (hx : E.ev x = .lit (.string p)) (hy : E.ev y = .lit (.string s)) (hlim : decide (p.size + s.size ≤ 9223372036854775807) = true) :
    Quiet P (.binOp .add t x y yt) ty E M [] (.lit (.string (p ++ s))) :=
  q_bin hx hy g_str fun w => by
    have h := of_decide_eq_true hlim
    have hmax : IntKind.i64.max = 9223372036854775807 := rfl
    have h' : ¬ (9223372036854775807 : Int) < (p.size : Int) + (s.size : Int) := by omega
    simp [binOp, Op.stringOp, hmax, h']
end
end Go.Q
namespace Go.Q
open Go
set_option linter.unusedVariables false
set_option linter.unusedSimpArgs false
/-- A function that the model stands in for. -/
structure ExtIs (P : Program) (f : FuncId) (g : Array Value → Sem Value) : Prop where
  h : ∃ fn, P.funcs[f]? = some fn ∧ fn.body.isNone = true ∧ (fn.name == "runtime.NumGoroutine") = false ∧ (Extern.findNext fn).isNone = true ∧ Extern.find fn = some g
section
variable {P : Program} {E : Env} {M : Mem} {ty : TypeId} {fo : Operand} {f : FuncId} {g : Array Value → Sem Value} {args : Array Operand} {tys : Array TypeId}
theorem run_ext {ρ : Operand → Value} {w w' : World} {r : Value} (hfn : ExtIs P f g) (hf : ρ fo = .func (.func f) #[] #[]) (hr : (g (args.map ρ)).run P w = .ok r w') :
    (exec1 ρ (.call { callee := .value fo, args := args, argTypes := tys }) ty).run P w = .ok (.value r) w' := by
  obtain ⟨fn, h1, h2, h3, h4, h5⟩ := hfn.h
  have h3' : ¬ fn.name = "runtime.NumGoroutine" := by simpa using h3
  have h4' : Extern.findNext fn = none := by simpa using h4
  have h2' : fn.body = none := by simpa using h2
  simp [exec1, execOp, resolve, Deferred.ofValue, hf, invoke, callFunc, h1, h2', h3', h4', h5, hr]
theorem fn_eval {nt : Nat} {e : Nv} {a : Act} (he : Emb nt e M E a) (hcal : E.ev fo = .fn f []) : a.eval fo = .func (.func f) #[] #[] := by
  have hv := he.ev fo
  rw [hcal] at hv
  simp only [Val, Vals] at hv
  obtain ⟨us, h1, rfl⟩ := hv
  exact h1
end
end Go.Q
namespace Go.Q
open Go
set_option linter.unusedVariables false
set_option linter.unusedSimpArgs false
section
variable {P : Program} {cx : Cx} {fr : Fr} {nt : Nat} {E E' : Env} {M M' : Mem} {Q : Ex → Env → Mem → Prop} {ty : TypeId}
theorem WP.condFB {c : Operand} {x y : Code} {t : Bool} (hc : E.ev c = .lit (.bool t)) (hb : t = false) (h : WP P cx fr y E M Q) : WP P cx fr (.cond c x y) E M Q := WP.condF (hb ▸ hc) h
end
end Go.Q
namespace Go.Q
open Go
set_option linter.unusedVariables false
set_option linter.unusedSimpArgs false
section
variable {P : Program} {cx : Cx} {fr : Fr} {E : Env} {M M' : Mem} {Q : Ex → Env → Mem → Prop} {ty : TypeId}
theorem nm_str {a b : ByteArray} (h : some a = some b) : AVal.lit (.string a) = AVal.lit (.string b) := by cases h; rfl
end
end Go.Q
namespace Go.Q
open Go
set_option linter.unusedVariables false
set_option linter.unusedSimpArgs false
/-- The bytes of a string. -/
def L (s : ByteArray) : List UInt8 := s.data.toList
theorem L_ext {a b : ByteArray} (h : L a = L b) : a = b := by
  apply ByteArray.ext
  exact Array.ext' h
theorem L_size (s : ByteArray) : s.size = (L s).length := by rw [L, Array.length_toList]; rfl
theorem L_toList (s : ByteArray) : s.toList = L s := ByteArray.toList_eq s
theorem L_extract (s : ByteArray) (i j : Nat) : L (s.extract i j) = ((L s).drop i).take (j - i) := by simp [L]
theorem L_append (a b : ByteArray) : L (a ++ b) = L a ++ L b := by simp [L]
theorem L_empty : L ByteArray.empty = [] := rfl
theorem L_mk (l : List UInt8) : L (ByteArray.mk l.toArray) = l := by simp [L]
theorem L_strOf (l : List Int) : L (strOf l) = l.map fun n => UInt8.ofNat n.toNat := by
  have : ∀ (l : List Int) (acc : ByteArray), L (l.foldl (fun r n => r.push (UInt8.ofNat n.toNat)) acc) = L acc ++ l.map fun n => UInt8.ofNat n.toNat := by
    intro l
    induction l with
    | nil => intro acc; simp
    | cons x l ih => intro acc; rw [List.foldl_cons, ih]; simp [L, ByteArray.push]
  rw [strOf, this, L_empty, List.nil_append]
/-- Bytes as whole numbers. -/
def I (l : List UInt8) : List Int := l.map fun b => (b.toNat : Int)
theorem strInts_L (s : ByteArray) : strInts s = I (L s) := rfl
/-- The k-th byte, or 0. -/
def byt (l : List UInt8) (k : Nat) : Nat := (l.getD k 0).toNat
theorem ix_I {l : List UInt8} {i : Nat} (h : i < l.length) : ix (I l) (i : Int) = some (byt l i : Int) := by
  rw [ix_nat (by simpa [I] using h)]
  simp [I, byt, List.getD_eq_getElem?_getD, List.getElem?_eq_getElem h]
end Go.Q
namespace Go.Q
open Go
set_option linter.unusedVariables false
set_option linter.unusedSimpArgs false
section
variable {P : Program} {E : Env} {M : Mem} {ty : TypeId}
/-- A slice literal of values that are kept one by one. -/
theorem d_buildCells {t el : TypeId} {n len N : Nat} {zs : List Value} {ps : Array (Nat × Operand)} {l : List AVal} (h : LitIs P t el n zs) (hn0 : Nat.blt 0 n = true) (hsmall : Nat.ble (len * n) 16777216 = true) (hzl : Nat.beq zs.length n = true)
    (hf : fillA (placeAt n) E (zerosA zs len) ps.toList = some l) (hN : M.n = N) :
    Does P (.buildSlice t len ps) ty E M [] (.sl N n 0 len) (M.push (.cells el l)) :=
  fun cx nt a w e hh he => by
    obtain ⟨i, z, h1, h2, h3, h4⟩ := h.h
    have hn0' : 0 < n := by simpa using hn0
    have hzl' : zs.length = n := by simpa using hzl
    have hsm' : len * n ≤ 16777216 := by simpa using hsmall
    have hmade := made_list zs n hzl' hn0' len
    have hone : ∀ v ∈ (List.replicate len zs).flatten, v.oneCell' = true := by
      intro v hv
      obtain ⟨l1, hl1, hv1⟩ := List.mem_flatten.1 hv
      rw [List.eq_of_mem_replicate hl1] at hv1
      exact h.one v hv1
    obtain ⟨cs, g1, g2, g3⟩ := fill_ok (P := P) he ps.toList _ l _ (zerosA_vals e zs len) hone hf
    have hle := e.bump_le w.heap.size len len false
    have hm := fun b => e.bump_mem w.heap.size len len false b
    have hnone : ∀ {m : Ro}, (∀ b o, m b = some o → w.heap[b]? = some o) → m w.heap.size = none := by
      intro m hm
      cases hx : m w.heap.size with
      | none => rfl
      | some o => have := (Array.getElem?_eq_some_iff.1 (hm _ _ hx)).1; omega
    have hnew : Hold cx (e.bump w.heap.size len len) (M.push (.cells el l)) (w.alloc (.cells cs.toArray el)) := by
      refine hh.bind rfl rfl rfl (by simp) (by simp) (fun k hk hlt => q_alloc_old w _ _ hlt) (fun i hi hl => Nat.ne_of_lt (hh.live i hi hl).1) hh.bag_new (hnone hh.ro) (hnone hh.bro) (.inr hh.size) ?_
      refine ⟨by simp [Nv.bump], cs, ?_, g2.mono hle hm, g3⟩
      simp only [Nv.bump, if_true]
      exact heap_alloc_new w _
    have g1' : Instr.fill (fun j => some (j * i.size, i.size)) ((Array.range (len * i.size)).map (z.cells[· % z.cells.size]!)) (ps.map fun (j, x) => (j, a.eval x)).toList = some cs.toArray := by
      rw [h3, h4]
      rw [← hmade] at g1
      have e1 : (ps.map fun (j, x) => (j, a.eval x)).toList = ps.toList.map fun p => (p.1, a.eval p.2) := by simp
      rw [e1]
      exact g1
    refine ⟨.slice (some ⟨w.heap.size, 0, none⟩) len len, w.alloc (.cells cs.toArray el), e.bump w.heap.size len len, ?_, hnew, ⟨hle, hm⟩, ?_, fun b hb _ => q_alloc_old w _ _ hb, by simp⟩
    · have hsm : ¬ (len * i.size > 2 ^ 24) := by rw [h3]; omega
      by_cases h0 : len * i.size = 0
      · have hl0 : len = 0 := by
          rcases Nat.eq_zero_or_pos len with h | h
          · exact h
          · have := Nat.mul_pos h hn0'; rw [h3] at h0; omega
        subst hl0
        simp only [Nat.zero_mul] at g1'
        have e0 : Array.range 0 = #[] := rfl
        rw [e0, Array.map_empty, Array.toList_map] at g1'
        simp only [exec1, execOp, Instr.buildSlice, Sem.run_bind, run_underlying h.t, Result.andThen, sizeOf, typeInfo, run_program, h1, Sem.run_pure, Nat.zero_mul]
        simp [e0, g1', Go.newRow]
      · have := run_buildSlice (P := P) w t el len (ps.map fun (j, x) => (j, a.eval x)) cs.toArray i z h.t h1 h2 hsm h0 g1'
        simp [exec1, execOp, this]
    · simp only [Val, Nv.bump, ← hN, ← hh.n, if_true, Bool.false_eq_true, if_false]
      exact ⟨Nat.lt_succ_self _, by omega, trivial, 0, by simp, fun _ => by simp⟩
theorem q_len_sl {t el : TypeId} {n i sz off len : Nat} {x : Operand} {k : Int} (h : SlIs P t el n) (hx : E.ev x = .sl i sz off len) (hk : (len : Int) = k) :
    Quiet P (.call { callee := .builtin .len, args := #[x], argTypes := #[t] }) ty E M [] (.lit (.int .i64 k)) :=
  fun _ _ a w e hh he => by
    have hv := he.ev x; rw [hx] at hv; simp only [Val] at hv
    obtain ⟨_, _, _, o, h1, _⟩ := hv
    refine ⟨.int .i64 (len : Int), by simp [Val, hk], fun w1 hw => ?_⟩
    simp [exec1, execOp, resolve, invoke, builtin, Builtin.len_, h1, run_underlying h.t, goInt]
theorem q_index_sl {t el : TypeId} {n i off len j o : Nat} {x y : Operand} {k : IntKind} (h : SlIs P t el n) (hx : E.ev x = .sl i n off len) (hy : E.ev y = .lit (.int k (j : Int))) (hj : Nat.blt j len = true) (ho : (off + j) * n = o) :
    Quiet P (.indexAddr t x y) ty E M [] (.ptr i o) :=
  fun _ _ a w e hh he => by
    have hv := he.ev x; rw [hx] at hv; simp only [Val] at hv
    obtain ⟨h1, h2, h3, o', h4, h5⟩ := hv
    have hj' : j < len := by simpa using hj
    have h6 := h5 (by omega)
    subst h6
    refine ⟨.pointer (some ⟨e.own i, o, none⟩), by simp [Val, h1, h3], fun w1 hw => ?_⟩
    have := run_indexAt_sl h (e.own i) (off * n) len (e.caps i - off) k (j : Int) (by omega) (by omega) w1
    rw [Int.toNat_natCast, ← Nat.add_mul, ho] at this
    simp [exec1, execOp, h4, ev_lit he hy, this]
end
section
variable {P : Program} {cx : Cx} {fr : Fr} {E : Env} {M : Mem} {Q : Ex → Env → Mem → Prop}
/-- The rest of a loop, from the beginning of a round. -/
def WPI (P : Program) (cx : Cx) (fr : Fr) (c : Code) (E : Env) (M : Mem) (Q : Ex → Env → Mem → Prop) : Prop :=
  ∀ a w e, Hold cx e M w → Emb fr.nt e M E a → ∀ (b : Frame) (k : List Item) (cs : List Frame), b.roundOf = (fence fr.r).round → (fence fr.r).fn b.fn → (fence fr.r).room (cs.length + 1 + 0) →
    ∃ x a' w', Sat cx fr Q x a' w' ∧ ArrivesIn (Machine.fenced P (fence fr.r)) P (lone (b.atR a (.code c :: .inLoop c :: k)) cs w) b k cs x a' w'
theorem WP.loopU {c : Code} (h : WPI P cx fr c E M Q) : WP P cx fr (.loop c) E M Q := by
  intro a w e hh he b k cs hro hb hr
  obtain ⟨x, a', w', hq, harr⟩ := h a w e hh he b k cs hro hb hr
  exact ⟨x, a', w', hq, .of_steps (.one (fenced_calm hb hr rfl) stepR_loop) harr⟩
theorem WPI.round {c : Code} (h : WP P cx fr c E M (Then (fun E M => WPI P cx fr c E M Q) Q)) : WPI P cx fr c E M Q := by
  intro a w e hh he b k cs hro hb hr
  obtain ⟨x, a1, w1, hq, harr⟩ := h a w e hh he b (.inLoop c :: k) cs hro hb hr
  obtain ⟨y, E', M', e', q, h1, h2, h3⟩ := hq
  cases y with
  | normal =>
    cases h3
    obtain ⟨x2, a2, w2, hq2, harr2⟩ := q a1 w1 e' h1 h2 b k cs hro hb hr
    exact ⟨x2, a2, w2, hq2, .of_steps (StepsIn.trans harr (.one (fenced_calm hb hr rfl) stepR_inLoop)) harr2⟩
  | exit id => cases h3; exact ⟨_, a1, w1, ⟨_, E', M', e', q, h1, h2, rfl⟩, .pass (x := .inLoop c) rfl (fun _ _ => .inl (by simp)) harr⟩
  | goto l => cases h3; exact ⟨_, a1, w1, ⟨_, E', M', e', q, h1, h2, rfl⟩, .pass (x := .inLoop c) rfl (fun _ _ => .inl (by simp)) harr⟩
  | ret => cases h3; exact ⟨_, a1, w1, ⟨_, E', M', e', q, h1, h2, rfl⟩, .pass (x := .inLoop c) rfl (fun _ _ => .inl (by simp)) harr⟩
  | panic v =>
    obtain ⟨u, rfl, hv⟩ := h3
    exact ⟨_, a1, w1, ⟨_, E', M', e', q, h1, h2, u, rfl, hv⟩, .pass (x := .inLoop c) rfl (fun _ _ => .inl (by simp)) harr⟩
end
def add64S : Array Value → Sem Value := fun args => do
  let (x, y, c) ← Extern.MathBitsCarry.three "Add64" args
  pure (Extern.MathBitsCarry.pair ((x + y + c) % Extern.MathBitsCarry.m64) ((x + y + c) / Extern.MathBitsCarry.m64))
def sub64S : Array Value → Sem Value := fun args => do
  let (x, y, b) ← Extern.MathBitsCarry.three "Sub64" args
  pure (Extern.MathBitsCarry.pair ((x + Extern.MathBitsCarry.m64 - y - b) % Extern.MathBitsCarry.m64) (if x < y + b then 1 else 0))
theorem three_eq (name : String) (x y c : Value) : Extern.MathBitsCarry.three name #[x, y, c] = (do
    let c := (← asInt c).toNat
    if c > 1 then unsupported (.noEntry ("extern/math/bits." ++ name ++ ": a carry that is neither 0 nor 1"))
    pure ((← asInt x).toNat, (← asInt y).toNat, c)) := rfl
/-- A sum and its carry; a difference and what is borrowed. -/
def add64 (a b c : Int) : Int × Int := (Int.ofNat ((a.toNat + b.toNat + c.toNat) % Extern.MathBitsCarry.m64), Int.ofNat ((a.toNat + b.toNat + c.toNat) / Extern.MathBitsCarry.m64))
def sub64 (a b c : Int) : Int × Int := (Int.ofNat ((a.toNat + Extern.MathBitsCarry.m64 - b.toNat - c.toNat) % Extern.MathBitsCarry.m64), Int.ofNat (if a.toNat < b.toNat + c.toNat then 1 else 0))
theorem three_run {P : Program} {w : World} {name : String} {k k' k'' : IntKind} {a b c : Int} (h : decide (Int.toNat c ≤ 1) = true) : (Extern.MathBitsCarry.three name #[.int k a, .int k' b, .int k'' c]).run P w = .ok (a.toNat, b.toNat, c.toNat) w := by
  have h' : ¬ (c.toNat > 1) := by have := of_decide_eq_true h; omega
  rw [three_eq]
  simp only [asInt, asIntOf, pure_bind, if_neg h']
  rfl
section
variable {P : Program} {E : Env} {M : Mem} {ty : TypeId} {fo : Operand} {f : FuncId} {tys : Array TypeId} {x y z : Operand} {a b c : Int}
theorem q_add64 (hfn : ExtIs P f add64S) (hcal : E.ev fo = .fn f []) (hx : E.ev x = .lit (.int .u64 a)) (hy : E.ev y = .lit (.int .u64 b)) (hz : E.ev z = .lit (.int .u64 c)) (h : decide (Int.toNat c ≤ 1) = true) :
    Quiet P (.call { callee := .value fo, args := #[x, y, z], argTypes := tys }) ty E M [] (.tup [.lit (.int .u64 (add64 a b c).1), .lit (.int .u64 (add64 a b c).2)]) :=
  fun cx nt ac w e hh he => ⟨.tuple #[.int .u64 (add64 a b c).1, .int .u64 (add64 a b c).2], by simp [Val, Vals], fun w1 hw => run_ext hfn (fn_eval he hcal) (by
    simp only [List.map_toArray, List.map_cons, List.map_nil, ev_lit he hx, ev_lit he hy, ev_lit he hz]
    unfold add64S
    rw [Sem.run_bind, three_run h]
    rfl)⟩
theorem q_sub64 (hfn : ExtIs P f sub64S) (hcal : E.ev fo = .fn f []) (hx : E.ev x = .lit (.int .u64 a)) (hy : E.ev y = .lit (.int .u64 b)) (hz : E.ev z = .lit (.int .u64 c)) (h : decide (Int.toNat c ≤ 1) = true) :
    Quiet P (.call { callee := .value fo, args := #[x, y, z], argTypes := tys }) ty E M [] (.tup [.lit (.int .u64 (sub64 a b c).1), .lit (.int .u64 (sub64 a b c).2)]) :=
  fun cx nt ac w e hh he => ⟨.tuple #[.int .u64 (sub64 a b c).1, .int .u64 (sub64 a b c).2], by simp [Val, Vals], fun w1 hw => run_ext hfn (fn_eval he hcal) (by
    simp only [List.map_toArray, List.map_cons, List.map_nil, ev_lit he hx, ev_lit he hy, ev_lit he hz]
    unfold sub64S
    rw [Sem.run_bind, three_run h]
    rfl)⟩
end
def EqV (P : Program) (n : Nat) (t : TypeId) (x y : Value) (b : Bool) : Prop := ∀ d w, n ≤ d → (Op.equalIn d t x y).run P w = .ok b w
def EqF (P : Program) (n : Nat) (xs ys : List Value) (fs : List Field) (b : Bool) : Prop := ∀ d w, n ≤ d → (Op.eqFields d xs.toArray ys.toArray fs).run P w = .ok b w
section
variable {P : Program} {n : Nat} {t : TypeId} {xs ys : List Value} {f : Field} {fs : List Field}
theorem EqV.int {k k' : IntKind} {a b : Int} (h : P.underlying t = some (.int k')) : EqV P (n + 1) t (.int k a) (.int k b) (decide (a = b)) := fun d w hd => by
  obtain ⟨m, rfl⟩ : ∃ m, d = m + 1 := ⟨d - 1, by omega⟩
  rw [run_equalIn_int w m t k k' a b h]; rfl
theorem EqV.bool {a b : Bool} (h : P.underlying t = some .bool) : EqV P (n + 1) t (.bool a) (.bool b) (a == b) := fun d w hd => by
  obtain ⟨m, rfl⟩ : ∃ m, d = m + 1 := ⟨d - 1, by omega⟩
  exact run_equalIn_bool' w m t a b h
theorem EqV.str {a b : ByteArray} (h : P.underlying t = some .string) : EqV P (n + 1) t (.string a) (.string b) (a.toList == b.toList) := fun d w hd => by
  obtain ⟨m, rfl⟩ : ∃ m, d = m + 1 := ⟨d - 1, by omega⟩
  exact run_equalIn_string w m t a b h
theorem EqF.nil : EqF P n xs ys [] true := fun d w _ => rfl
theorem part_sc {w : World} {u : Value} {o : Nat} (ht : Sc P t) (h : xs[o]? = some u) : (part t xs.toArray o).run P w = .ok u w := by
  simp [part, ht.isAgg w, h]
theorem EqF.sc {u v : Value} {b c : Bool} (hn : (f.name == "_") = false) (ht : Sc P f.type) (hx : xs[f.offset]? = some u) (hy : ys[f.offset]? = some v) (h : EqV P n f.type u v b) (k : EqF P n xs ys fs c) : EqF P n xs ys (f :: fs) (b && c) := fun d w hd => by
  have hn' : f.name ≠ "_" := by simpa using hn
  rw [Op.eqFields, if_pos hn']
  simp only [Sem.run_bind, part_sc ht hx, part_sc ht hy, Result.andThen_ok, h d w hd]
  cases b with
  | true => simpa using k d w hd
  | false => simp
theorem EqV.struct {b : Bool} {fa : Array Field} (ht : P.underlying t = some (.struct fa)) (hp : P.stoodInHeld t = false) (h : EqF P n xs ys fa.toList b) : EqV P (n + 1) t (.agg xs.toArray) (.agg ys.toArray) b := fun d w hd => by
  obtain ⟨m, rfl⟩ : ∃ m, d = m + 1 := ⟨d - 1, by omega⟩
  have hf : P.fieldsOf t = fa := by simp [Program.fieldsOf, ht]
  rw [run_equalIn_agg w m t _ _ (by rw [hf]; exact ht) hp, hf]
  exact h m w (by omega)
end
section
variable {P : Program} {E : Env} {M : Mem} {ty t yt : TypeId} {x y : Operand} {xs ys : List Value} {b : Bool} {n : Nat}
theorem agg_lits {nt : Nat} {e : Nv} {a : Act} (he : Emb nt e M E a) (hx : E.ev x = .agg (xs.map AVal.lit)) : a.eval x = .agg xs.toArray := by
  have hv := he.ev x
  rw [hx] at hv
  simp only [Val] at hv
  obtain ⟨vs, h1, h2, _⟩ := hv
  have : ∀ {l us : List Value}, Vals e (l.map AVal.lit) us → us = l := by
    intro l
    induction l with
    | nil => intro us h; simpa [Vals] using h
    | cons v l ih =>
      intro us h
      simp only [List.map_cons, Vals, Val] at h
      obtain ⟨u, ws, rfl, rfl, h⟩ := h
      rw [ih h]
  rw [h1, this h2]
theorem q_eqlAg (hn : Nat.ble n 10000 = true) (hg : P.eqGuardType P.depth t = false) (hx : E.ev x = .agg (xs.map AVal.lit)) (hy : E.ev y = .agg (ys.map AVal.lit)) (h : EqV P n t (.agg xs.toArray) (.agg ys.toArray) b) :
    Quiet P (.binOp .eql t x y yt) ty E M [] (.lit (.bool b)) :=
  fun _ _ a w e hh he => ⟨.bool b, by simp [Val], fun w1 hw => by
    have h1 := run_eqGuard_agg (P := P) w1 .eql t x y xs.toArray ys.toArray hg
    have h2 := run_eql_struct (P := P) w1 t xs.toArray ys.toArray
    rw [h 10000 w1 (Nat.le_of_ble_eq_true hn)] at h2
    simp [exec1, execOp, agg_lits he hx, agg_lits he hy, h1, h2]⟩
theorem q_neqAg (hn : Nat.ble n 10000 = true) (hg : P.eqGuardType P.depth t = false) (hx : E.ev x = .agg (xs.map AVal.lit)) (hy : E.ev y = .agg (ys.map AVal.lit)) (h : EqV P n t (.agg xs.toArray) (.agg ys.toArray) b) :
    Quiet P (.binOp .neq t x y yt) ty E M [] (.lit (.bool (!b))) :=
  fun _ _ a w e hh he => ⟨.bool (!b), by simp [Val], fun w1 hw => by
    have h1 := run_eqGuard_agg (P := P) w1 .neq t x y xs.toArray ys.toArray hg
    have h2 := run_neq_struct (P := P) w1 t xs.toArray ys.toArray
    rw [h 10000 w1 (Nat.le_of_ble_eq_true hn)] at h2
    simp [exec1, execOp, agg_lits he hx, agg_lits he hy, h1, h2]⟩
end
theorem W.wk {cx : Cx} {fr : Fr} {Q : Ex → Env → Mem → Prop} {x : Ex} {E E' : Env} {M M' : Mem} {np : Nat} (l : List Nat) (hnp : cx.np = np) (hq : Q x E' M') (hM : LeM l np M M') (hE : LeE l M'.n E E') (hx : x.plain = true) : W cx fr Q x E M :=
  W.cv (Cv.weak l hnp hM hE) hx (W.now hq)
theorem BodyR.mkR {az : List (Nat × Nat)} {rs : List ResultVar} {np : Nat} {Q : Out → Mem → Prop} {E : Env} {M M2 : Mem} {vs : List AVal} {v : AVal} (hm : marksOk M E.d) (hvs : resAll az E (dropMarks M E.d) rs = some vs) (l : List Nat) (hq : Q (.ret v) M2)
    (hl : LeM l np (dropMarks M E.d) M2) (h1 : resOut vs = v.ren (sub l)) (h2 : v.under M2.n = true) : BodyR az rs np Q .ret E M := ⟨hm, vs, hvs, l, v, M2, hl, h1, h2, hq⟩
theorem fold_int {k : IntKind} {a b : Int} (h : a = b) : AVal.lit (.int k a) = .lit (.int k b) := by rw [h]
end Go.Q
namespace Go.Proofs.YtdbeblgfccjbgaaDoor.W
open Go Go.Q Go.Proofs
set_option linter.unusedVariables false
set_option linter.unusedSimpArgs false
structure S_api_Dec where
  fC : Int
  fE : Int
  deriving Inhabited, DecidableEq
def rdS_api_Dec : Rd S_api_Dec := Rd.via (Rd.pair (Rd.int .i64) (Rd.pair (Rd.int .i64) Rd.unit)) fun x => (x.fC, (x.fE, ()))
theorem S_api_Dec.p0 {d : S_api_Dec} : PartIs rdS_api_Dec d 0 (Rd.int .i64) d.fC := PartIs.via PartIs.here
theorem S_api_Dec.sp {b : Bool} {d : S_api_Dec} : Splits rdS_api_Dec b d [.lit (.int .i64 d.fC), .lit (.int .i64 d.fE)] := Splits.via (Splits.pair Splits.sc (Splits.pair Splits.sc Splits.unit))
def g_internal_stringslite_HasPrefix (k : Nat) (x18 : ByteArray) (x19 : ByteArray) : Option Bool := ((((some (decide (((ByteArray.size x19 : Nat) : Int) ≤ ((ByteArray.size x18 : Nat) : Int)))).bind fun x37 => (bif x37 then (bif (decide (0 ≤ (0 : Int) ∧ (0 : Int) ≤ ((ByteArray.size x19 : Nat) : Int) ∧ ((ByteArray.size x19 : Nat) : Int) ≤ ((ByteArray.size x18 : Nat) : Int))) then ((some (ByteArray.extract x18 (Int.toNat 0) (Int.toNat ((ByteArray.size x19 : Nat) : Int)))).bind fun x40 => some (x40.toList == x19.toList)) else none) else some false)) : Option Bool).bind fun x36 => some x36)
def g_internal_stringslite_CutPrefix (k : Nat) (x15 : ByteArray) (x16 : ByteArray) : Option (ByteArray × Bool) := ((g_internal_stringslite_HasPrefix k x15 x16).bind fun x56 => (bif (!x56) then some (x15, false) else (bif (decide (0 ≤ (((ByteArray.size x16 : Nat) : Int) : Int) ∧ (((ByteArray.size x16 : Nat) : Int) : Int) ≤ ((ByteArray.size x15 : Nat) : Int) ∧ ((ByteArray.size x15 : Nat) : Int) ≤ ((ByteArray.size x15 : Nat) : Int))) then ((some (ByteArray.extract x15 (Int.toNat ((ByteArray.size x16 : Nat) : Int)) (Int.toNat ((ByteArray.size x15 : Nat) : Int)))).bind fun x59 => some (x59, true)) else none)))
def g_strings_CutPrefix (k : Nat) (x12 : ByteArray) (x13 : ByteArray) : Option (ByteArray × Bool) := ((g_internal_stringslite_CutPrefix k x12 x13).bind fun (x66, x67) => some (x66, x67))
def g_dec_parser_take (k : Nat) (x9 : ByteArray) (x10 : ByteArray) : Option (Bool × ByteArray) := ((g_strings_CutPrefix k x10 x9).bind fun (x74, x75) => some (x75, x74))
def g_dec_parser_some_l0 (k : Nat) (x79 : ByteArray) : Nat → Int → Option Int
  | 0, _ => none
  | n + 1, x167 => ((((some (decide (x167 < ((ByteArray.size x79 : Nat) : Int)))).bind fun x214 => (bif x214 then ((ix (strInts x79) x167).bind fun x216 => (bif (decide (48 ≤ x216)) then ((ix (strInts x79) x167).bind fun x218 => some (decide (x218 ≤ 57))) else some false)) else some false)) : Option Bool).bind fun x213 => (bif x213 then (g_dec_parser_some_l0 k x79 n (IntKind.wrap .i64 (x167 + 1))) else some x167))
theorem g_dec_parser_some_l0_eqs : True := by have := @g_dec_parser_some_l0.eq_2; trivial
def g_dec_parser_some (k : Nat) (x79 : ByteArray) : Option (ByteArray × ByteArray) := ((g_dec_parser_some_l0 k x79 k 0).bind fun x194 => (bif (decide (0 ≤ (0 : Int) ∧ (0 : Int) ≤ x194 ∧ x194 ≤ ((ByteArray.size x79 : Nat) : Int))) then (bif (decide (0 ≤ (x194 : Int) ∧ (x194 : Int) ≤ ((ByteArray.size x79 : Nat) : Int) ∧ ((ByteArray.size x79 : Nat) : Int) ≤ ((ByteArray.size x79 : Nat) : Int))) then ((some (ByteArray.extract x79 (Int.toNat x194) (Int.toNat ((ByteArray.size x79 : Nat) : Int)))).bind fun x224 => some ((ByteArray.extract x79 (Int.toNat 0) (Int.toNat x194)), x224)) else none) else none))
def g_dec_values (k : Nat) (x303 : ByteArray) : Option Unit := some ()
def g_strings_trimLeftByte_l0 (k : Nat) (x521 : Int) : Nat → ByteArray → Option ByteArray
  | 0, _ => none
  | n + 1, x587 => ((((some (decide (0 < ((ByteArray.size x587 : Nat) : Int)))).bind fun x622 => (bif x622 then ((ix (strInts x587) 0).bind fun x624 => some (decide (x624 = x521))) else some false)) : Option Bool).bind fun x621 => (bif x621 then (bif (decide (0 ≤ (1 : Int) ∧ (1 : Int) ≤ ((ByteArray.size x587 : Nat) : Int) ∧ ((ByteArray.size x587 : Nat) : Int) ≤ ((ByteArray.size x587 : Nat) : Int))) then ((some (ByteArray.extract x587 (Int.toNat 1) (Int.toNat ((ByteArray.size x587 : Nat) : Int)))).bind fun x628 => (g_strings_trimLeftByte_l0 k x521 n x628)) else none) else some x587))
theorem g_strings_trimLeftByte_l0_eqs : True := by have := @g_strings_trimLeftByte_l0.eq_2; trivial
def g_strings_trimLeftByte (k : Nat) (x520 : ByteArray) (x521 : Int) : Option ByteArray := ((g_strings_trimLeftByte_l0 k x521 k x520).bind fun x608 => some x608)
def g_strings_TrimLeft (k : Nat) (x489 : ByteArray) (x490 : ByteArray) : Option ByteArray := ((((some (x489.toList == (ByteArray.mk #[]).toList)).bind fun x658 => (bif x658 then some true else ((some (x490.toList == (ByteArray.mk #[]).toList)).bind fun x660 => some x660))) : Option Bool).bind fun x657 => (bif x657 then some x489 else ((((some (decide (((ByteArray.size x490 : Nat) : Int) = 1))).bind fun x679 => (bif x679 then ((ix (strInts x490) 0).bind fun x681 => some (decide (x681 < 128))) else some false)) : Option Bool).bind fun x678 => (bif x678 then ((ix (strInts x490) 0).bind fun x684 => ((g_strings_trimLeftByte k x489 x684).bind fun x686 => some x686)) else none))))
def g_strings_trimRightByte_l0 (k : Nat) (x722 : Int) : Nat → ByteArray → Option ByteArray
  | 0, _ => none
  | n + 1, x800 => ((((some (decide (0 < ((ByteArray.size x800 : Nat) : Int)))).bind fun x842 => (bif x842 then ((some (IntKind.wrap .i64 (((ByteArray.size x800 : Nat) : Int) - 1))).bind fun x844 => ((ix (strInts x800) x844).bind fun x845 => some (decide (x845 = x722)))) else some false)) : Option Bool).bind fun x841 => (bif x841 then ((some (IntKind.wrap .i64 (((ByteArray.size x800 : Nat) : Int) - 1))).bind fun x848 => (bif (decide (0 ≤ (0 : Int) ∧ (0 : Int) ≤ x848 ∧ x848 ≤ ((ByteArray.size x800 : Nat) : Int))) then (g_strings_trimRightByte_l0 k x722 n (ByteArray.extract x800 (Int.toNat 0) (Int.toNat x848))) else none)) else some x800))
theorem g_strings_trimRightByte_l0_eqs : True := by have := @g_strings_trimRightByte_l0.eq_2; trivial
def g_strings_trimRightByte (k : Nat) (x721 : ByteArray) (x722 : Int) : Option ByteArray := ((g_strings_trimRightByte_l0 k x722 k x721).bind fun x825 => some x825)
def g_strings_TrimRight (k : Nat) (x690 : ByteArray) (x691 : ByteArray) : Option ByteArray := ((((some (x690.toList == (ByteArray.mk #[]).toList)).bind fun x879 => (bif x879 then some true else ((some (x691.toList == (ByteArray.mk #[]).toList)).bind fun x881 => some x881))) : Option Bool).bind fun x878 => (bif x878 then some x690 else ((((some (decide (((ByteArray.size x691 : Nat) : Int) = 1))).bind fun x900 => (bif x900 then ((ix (strInts x691) 0).bind fun x902 => some (decide (x902 < 128))) else some false)) : Option Bool).bind fun x899 => (bif x899 then ((ix (strInts x691) 0).bind fun x905 => ((g_strings_trimRightByte k x690 x905).bind fun x907 => some x907)) else none))))
def g_math_bits_Mul64 (k : Nat) (x927 : Int) (x928 : Int) : Option Int := ((some (IntKind.wrap .u64 ((bits .and .u64 x927 4294967295) * (bits .and .u64 x928 4294967295)))).bind fun x939 => ((some (IntKind.wrap .u64 ((shrI .u64 x927 32) * (bits .and .u64 x928 4294967295)))).bind fun x940 => ((some (IntKind.wrap .u64 (x940 + (shrI .u64 x939 32)))).bind fun x941 => ((some (IntKind.wrap .u64 ((bits .and .u64 x927 4294967295) * (shrI .u64 x928 32)))).bind fun x942 => ((some (IntKind.wrap .u64 ((bits .and .u64 x941 4294967295) + x942))).bind fun x943 => ((some (IntKind.wrap .u64 ((shrI .u64 x927 32) * (shrI .u64 x928 32)))).bind fun x944 => ((some (IntKind.wrap .u64 (x944 + (shrI .u64 x941 32)))).bind fun x945 => ((some (IntKind.wrap .u64 (x945 + (shrI .u64 x943 32)))).bind fun x946 => some x946))))))))
def g_dec_wide_times (k : Nat) (x923 : Int) (x924 : Int) (x925 : Int) : Option (Bool × Int) := ((g_math_bits_Mul64 k x924 x925).bind fun x955 => ((g_math_bits_Mul64 k x923 x925).bind fun x957 => ((some (IntKind.wrap .u64 (x957 + (add64 x955 (IntKind.wrap .u64 (x923 * x925)) 0).2))).bind fun x958 => some ((decide (x958 = 0)), (add64 x955 (IntKind.wrap .u64 (x923 * x925)) 0).1))))
def g_dec_wide_plus (k : Nat) (x962 : Int) (x963 : Int) (x964 : Int) (x965 : Int) : Option Bool := (bif (decide (Int.toNat ((add64 x963 x965 0).2) ≤ 1)) then ((some (decide ((add64 x962 x964 ((add64 x963 x965 0).2)).2 = 0))).bind fun x971 => some x971) else none)
def g_dec_wide_zero (k : Nat) (x1012 : Int) (x1013 : Int) : Option Unit := some ()
def g_math_bits_Len64 (k : Nat) (x1043 : Int) : Option Int := (((bif (decide (4294967296 ≤ x1043)) then some ((shrI .u64 x1043 32), 32) else some (x1043, 0)) : Option (Int × Int)).bind fun (x1064, x1065) => (((bif (decide (65536 ≤ x1064)) then some ((shrI .u64 x1064 16), (IntKind.wrap .i64 (x1065 + 16))) else some (x1064, x1065)) : Option (Int × Int)).bind fun (x1069, x1070) => (((bif (decide (256 ≤ x1069)) then some ((shrI .u64 x1069 8), (IntKind.wrap .i64 (x1070 + 8))) else some (x1069, x1070)) : Option (Int × Int)).bind fun (x1074, x1075) => ((ix (strInts (ByteArray.mk #[0, 1, 2, 2, 3, 3, 3, 3, 4, 4, 4, 4, 4, 4, 4, 4, 5, 5, 5, 5, 5, 5, 5, 5, 5, 5, 5, 5, 5, 5, 5, 5, 6, 6, 6, 6, 6, 6, 6, 6, 6, 6, 6, 6, 6, 6, 6, 6, 6, 6, 6, 6, 6, 6, 6, 6, 6, 6, 6, 6, 6, 6, 6, 6, 7, 7, 7, 7, 7, 7, 7, 7, 7, 7, 7, 7, 7, 7, 7, 7, 7, 7, 7, 7, 7, 7, 7, 7, 7, 7, 7, 7, 7, 7, 7, 7, 7, 7, 7, 7, 7, 7, 7, 7, 7, 7, 7, 7, 7, 7, 7, 7, 7, 7, 7, 7, 7, 7, 7, 7, 7, 7, 7, 7, 7, 7, 7, 7, 8, 8, 8, 8, 8, 8, 8, 8, 8, 8, 8, 8, 8, 8, 8, 8, 8, 8, 8, 8, 8, 8, 8, 8, 8, 8, 8, 8, 8, 8, 8, 8, 8, 8, 8, 8, 8, 8, 8, 8, 8, 8, 8, 8, 8, 8, 8, 8, 8, 8, 8, 8, 8, 8, 8, 8, 8, 8, 8, 8, 8, 8, 8, 8, 8, 8, 8, 8, 8, 8, 8, 8, 8, 8, 8, 8, 8, 8, 8, 8, 8, 8, 8, 8, 8, 8, 8, 8, 8, 8, 8, 8, 8, 8, 8, 8, 8, 8, 8, 8, 8, 8, 8, 8, 8, 8, 8, 8, 8, 8, 8, 8, 8, 8, 8, 8, 8, 8, 8, 8, 8, 8, 8, 8, 8, 8, 8, 8])) (IntKind.wrap .u8 x1074)).bind fun x1078 => ((some (IntKind.wrap .i64 (x1075 + (IntKind.wrap .i64 x1078)))).bind fun x1079 => some x1079)))))
def g_math_bits_LeadingZeros64 (k : Nat) (x1041 : Int) : Option Int := ((g_math_bits_Len64 k x1041).bind fun x1084 => some (IntKind.wrap .i64 (64 - x1084)))
def g_math_bits_Div64_l0 (k : Nat) (x1234 : Int) (x1240 : Int) : Nat → Int → Int → Option Int
  | 0, _, _ => none
  | n + 1, x1269, x1270 => (((bif (decide (4294967296 ≤ x1269)) then some true else ((some (IntKind.wrap .u64 (x1269 * (bits .and .u64 x1234 4294967295)))).bind fun x1313 => ((some (IntKind.wrap .u64 (4294967296 * x1270))).bind fun x1314 => ((some (IntKind.wrap .u64 (x1314 + (shrI .u64 x1240 32)))).bind fun x1315 => some (decide (x1315 < x1313)))))) : Option Bool).bind fun x1311 => (bif x1311 then ((some (IntKind.wrap .u64 (x1270 + (shrI .u64 x1234 32)))).bind fun x1318 => (bif (decide (4294967296 ≤ x1318)) then some (IntKind.wrap .u64 (x1269 - 1)) else (g_math_bits_Div64_l0 k x1234 x1240 n (IntKind.wrap .u64 (x1269 - 1)) x1318))) else some x1269))
theorem g_math_bits_Div64_l0_eqs : True := by have := @g_math_bits_Div64_l0.eq_2; trivial
def g_math_bits_Div64_l1 (k : Nat) (x1234 : Int) (x1240 : Int) : Nat → Int → Int → Option Int
  | 0, _, _ => none
  | n + 1, x1351, x1352 => (((bif (decide (4294967296 ≤ x1352)) then some true else ((some (IntKind.wrap .u64 (x1352 * (bits .and .u64 x1234 4294967295)))).bind fun x1395 => ((some (IntKind.wrap .u64 (4294967296 * x1351))).bind fun x1396 => ((some (IntKind.wrap .u64 (x1396 + (bits .and .u64 x1240 4294967295)))).bind fun x1397 => some (decide (x1397 < x1395)))))) : Option Bool).bind fun x1393 => (bif x1393 then ((some (IntKind.wrap .u64 (x1351 + (shrI .u64 x1234 32)))).bind fun x1400 => (bif (decide (4294967296 ≤ x1400)) then some (IntKind.wrap .u64 (x1352 - 1)) else (g_math_bits_Div64_l1 k x1234 x1240 n x1400 (IntKind.wrap .u64 (x1352 - 1))))) else some x1352))
theorem g_math_bits_Div64_l1_eqs : True := by have := @g_math_bits_Div64_l1.eq_2; trivial
def g_math_bits_Div64 (k : Nat) (x1023 : Int) (x1024 : Int) (x1025 : Int) : Option (Int × Int) := (bif (decide (x1025 = 0)) then none else (bif (decide (x1025 ≤ x1023)) then none else (bif (decide (x1023 = 0)) then (bif (!(x1025 == 0)) then (bif (!(x1025 == 0)) then some ((IntKind.wrap .u64 (Int.tdiv x1024 x1025)), (Int.tmod x1024 x1025)) else none) else none) else ((g_math_bits_LeadingZeros64 k x1025).bind fun x1232 => (bif (decide (0 ≤ (IntKind.wrap .u64 x1232))) then ((some (shlI .u64 x1025 (IntKind.wrap .u64 x1232))).bind fun x1234 => (bif (decide (0 ≤ (IntKind.wrap .u64 x1232))) then ((some (shlI .u64 x1023 (IntKind.wrap .u64 x1232))).bind fun x1236 => ((some (IntKind.wrap .u64 (64 - (IntKind.wrap .u64 x1232)))).bind fun x1237 => (bif (decide (0 ≤ x1237)) then (bif (decide (0 ≤ (IntKind.wrap .u64 x1232))) then ((some (shlI .u64 x1024 (IntKind.wrap .u64 x1232))).bind fun x1240 => (bif (!((shrI .u64 x1234 32) == 0)) then ((some (IntKind.wrap .u64 (Int.tdiv (bits .or .u64 x1236 (shrI .u64 x1024 x1237)) (shrI .u64 x1234 32)))).bind fun x1242 => ((some (IntKind.wrap .u64 (x1242 * (shrI .u64 x1234 32)))).bind fun x1243 => ((some (IntKind.wrap .u64 ((bits .or .u64 x1236 (shrI .u64 x1024 x1237)) - x1243))).bind fun x1244 => ((g_math_bits_Div64_l0 k x1234 x1240 k x1242 x1244).bind fun x1295 => ((some (IntKind.wrap .u64 ((bits .or .u64 x1236 (shrI .u64 x1024 x1237)) * 4294967296))).bind fun x1321 => ((some (IntKind.wrap .u64 (x1321 + (shrI .u64 x1240 32)))).bind fun x1322 => ((some (IntKind.wrap .u64 (x1322 - (IntKind.wrap .u64 (x1295 * x1234))))).bind fun x1323 => (bif (!((shrI .u64 x1234 32) == 0)) then ((some (IntKind.wrap .u64 (Int.tdiv x1323 (shrI .u64 x1234 32)))).bind fun x1325 => ((some (IntKind.wrap .u64 (x1325 * (shrI .u64 x1234 32)))).bind fun x1326 => ((g_math_bits_Div64_l1 k x1234 x1240 k (IntKind.wrap .u64 (x1323 - x1326)) x1325).bind fun x1377 => ((some (IntKind.wrap .u64 (x1295 * 4294967296))).bind fun x1403 => ((some (IntKind.wrap .u64 (x1323 * 4294967296))).bind fun x1404 => ((some (IntKind.wrap .u64 (x1404 + (bits .and .u64 x1240 4294967295)))).bind fun x1405 => ((some (IntKind.wrap .u64 (x1405 - (IntKind.wrap .u64 (x1377 * x1234))))).bind fun x1406 => (bif (decide (0 ≤ (IntKind.wrap .u64 x1232))) then ((some (shrI .u64 x1406 (IntKind.wrap .u64 x1232))).bind fun x1408 => some ((IntKind.wrap .u64 (x1403 + x1377)), x1408)) else none)))))))) else none)))))))) else none)) else none) else none))) else none)) else none)))))
def g_dec_wide_by (k : Nat) (x1019 : Int) (x1020 : Int) (x1021 : Int) : Option (Int × Int × Int) := ((g_math_bits_Div64 k 0 x1019 x1021).bind fun (x1419, x1420) => ((g_math_bits_Div64 k x1420 x1020 x1021).bind fun (x1422, x1423) => some (x1423, x1419, x1422)))
def g_dec_wide_tens_l0 (k : Nat) (x1454 : Int) : Nat → Bool → Int → Int → Int → Option (Bool × Int × Int)
  | 0, _, _, _, _ => none
  | n + 1, x1534, x1535, x1536, x1537 => (((bif (decide (x1535 < x1454)) then (bif x1534 then ((g_dec_wide_zero k x1536 x1537).bind fun _ => ((some (!(decide ((bits .or .u64 x1536 x1537) = 0)))).bind fun x1585 => some x1585)) else some false) else some false) : Option Bool).bind fun x1581 => (bif x1581 then ((g_dec_wide_times k x1536 x1537 10).bind fun (x1589, x1590) => (g_dec_wide_tens_l0 k x1454 n x1589 (IntKind.wrap .i64 (x1535 + 1)) x1590 (IntKind.wrap .u64 (x1537 * 10)))) else some (x1534, x1536, x1537)))
theorem g_dec_wide_tens_l0_eqs : True := by have := @g_dec_wide_tens_l0.eq_2; trivial
def g_dec_wide_tens (k : Nat) (x1452 : Int) (x1453 : Int) (x1454 : Int) : Option (Bool × Int × Int) := ((g_dec_wide_tens_l0 k x1454 k true 0 x1452 x1453).bind fun (x1563, x1564, x1565) => some (x1563, x1564, x1565))
def g_dec_num_tell_l0 (k : Nat) : Nat → Int → Int → Int → Int → Int → Int → Option (Int × Int × Int)
  | 0, _, _, _, _, _, _ => none
  | n + 1, x1662, x1663, x1664, x1665, x1666, x1667 => (bif (decide (x1662 = 0)) then ((g_dec_wide_by k x1666 x1667 10).bind fun (x1680, x1681, x1682) => (g_dec_num_tell_l0 k n x1680 x1666 x1667 (IntKind.wrap .i64 (x1665 + 1)) x1681 x1682)) else some (x1663, x1664, x1665))
theorem g_dec_num_tell_l0_eqs : True := by have := @g_dec_num_tell_l0.eq_2; trivial
def g_dec_num_tell (k : Nat) (x1007 : Bool) (x1008 : Int) (x1009 : Int) (x1010 : Int) : Option (Int × Int × Int) := ((g_dec_wide_zero k x1008 x1009).bind fun _ => (bif (decide ((bits .or .u64 x1008 x1009) = 0)) then some (0, 0, 0) else ((g_dec_wide_by k x1008 x1009 10).bind fun (x1653, x1654, x1655) => ((g_dec_num_tell_l0 k k x1653 x1008 x1009 x1010 x1654 x1655).bind fun (x1674, x1675, x1676) => (((bif (decide (18 < x1676)) then ((some (if (40 : Int) < (IntKind.wrap .i64 (x1676 - 18)) then (40 : Int) else (IntKind.wrap .i64 (x1676 - 18)))).bind fun x1699 => ((g_dec_wide_tens k x1674 x1675 x1699).bind fun (x1701, x1702, x1703) => (((bif (decide (58 < x1676)) then some false else some x1701) : Option Bool).bind fun x1705 => some (x1705, x1702, x1703, 18)))) else some (true, x1674, x1675, x1676)) : Option (Bool × Int × Int × Int)).bind fun (x1694, x1695, x1696, x1697) => (((bif x1007 then ((some (IntKind.wrap .u64 (9223372036854775807 + 1))).bind fun x1713 => some x1713) else some 9223372036854775807) : Option Int).bind fun x1711 => (((bif (!x1694) then some true else (bif (decide (x1697 < (-18))) then some true else (bif (decide (0 < x1695)) then some true else some (decide (x1711 < x1696))))) : Option Bool).bind fun x1727 => (bif x1727 then some (30, 0, 0) else (((bif x1007 then ((some (IntKind.wrap .i64 (0 - (IntKind.wrap .i64 x1696)))).bind fun x1737 => some x1737) else some (IntKind.wrap .i64 x1696)) : Option Int).bind fun x1735 => some (0, x1735, x1697))))))))))
def g_dec_Parse_l0 (k : Nat) (x1922 : ByteArray) : Nat → Int → Int → Option Int
  | 0, _, _ => none
  | n + 1, x1978, x1979 => ((some (decide (x1978 < ((ByteArray.size x1922 : Nat) : Int)))).bind fun x1992 => (bif x1992 then ((ix (strInts x1922) x1978).bind fun x1999 => ((some (IntKind.wrap .i64 (IntKind.wrap .u8 (x1999 - 48)))).bind fun x2000 => ((some (IntKind.wrap .i64 ((IntKind.wrap .i64 (10 * x1979)) + x2000))).bind fun x2002 => (g_dec_Parse_l0 k x1922 n (IntKind.wrap .i64 (x1978 + 1)) x2002)))) else some x1979))
theorem g_dec_Parse_l0_eqs : True := by have := @g_dec_Parse_l0.eq_2; trivial
def g_dec_Parse_l1 (k : Nat) (x2026 : ByteArray) : Nat → Int → Int → Int → Option (Int × Int)
  | 0, _, _, _ => none
  | n + 1, x2053, x2054, x2055 => ((some (decide (x2053 < ((ByteArray.size x2026 : Nat) : Int)))).bind fun x2077 => (bif x2077 then ((ix (strInts x2026) x2053).bind fun x2088 => ((some (IntKind.wrap .i64 (IntKind.wrap .u8 (x2088 - 48)))).bind fun x2089 => ((g_dec_wide_times k x2054 x2055 10).bind fun (x2092, x2093) => ((g_dec_wide_plus k x2093 (IntKind.wrap .u64 (x2055 * 10)) 0 (IntKind.wrap .u64 x2089)).bind fun x2095 => (g_dec_Parse_l1 k x2026 n (IntKind.wrap .i64 (x2053 + 1)) ((add64 x2093 0 ((add64 (IntKind.wrap .u64 (x2055 * 10)) (IntKind.wrap .u64 x2089) 0).2)).1) ((add64 (IntKind.wrap .u64 (x2055 * 10)) (IntKind.wrap .u64 x2089) 0).1)))))) else some (x2054, x2055)))
theorem g_dec_Parse_l1_eqs : True := by have := @g_dec_Parse_l1.eq_2; trivial
def g_dec_Parse (k : Nat) (x7 : ByteArray) : Option (Int × Int × Int) := ((g_dec_parser_take k (ByteArray.mk #[45]) x7).bind fun (x1747, x1748) => ((g_dec_parser_some k x1748).bind fun (x1750, x1751) => ((((some (decide (((ByteArray.size x7 : Nat) : Int) ≤ 255))).bind fun x1756 => (bif x1756 then ((some (!(x1750.toList == (ByteArray.mk #[]).toList))).bind fun x1758 => some x1758) else some false)) : Option Bool).bind fun x1755 => ((((g_dec_parser_take k (ByteArray.mk #[46]) x1751).bind fun (x1773, x1774) => (bif x1773 then ((g_dec_parser_some k x1774).bind fun (x1777, x1778) => (bif x1755 then ((some (!(x1777.toList == (ByteArray.mk #[]).toList))).bind fun x1780 => some (x1777, x1780, x1778)) else some (x1777, false, x1778))) else some ((ByteArray.mk #[]), x1755, x1774))) : Option (ByteArray × Bool × ByteArray)).bind fun (x1769, x1770, x1771) => ((((((g_dec_parser_take k (ByteArray.mk #[101]) x1771).bind fun (x1900, x1901) => (bif x1900 then some (true, x1901) else ((g_dec_parser_take k (ByteArray.mk #[69]) x1901).bind fun (x1904, x1905) => some (x1904, x1905)))) : Option (Bool × ByteArray)).bind fun (x1897, x1898) => (bif x1897 then ((g_dec_parser_take k (ByteArray.mk #[45]) x1898).bind fun (x1909, x1910) => (((bif (!x1909) then ((g_dec_parser_take k (ByteArray.mk #[43]) x1910).bind fun (x1918, x1919) => some x1919) else some x1910) : Option ByteArray).bind fun x1915 => ((g_dec_parser_some k x1915).bind fun (x1922, x1923) => (((bif x1770 then ((some (decide (1 ≤ ((ByteArray.size x1922 : Nat) : Int)))).bind fun x1930 => (bif x1930 then ((some (decide (((ByteArray.size x1922 : Nat) : Int) ≤ 3))).bind fun x1932 => some x1932) else some false)) else some false) : Option Bool).bind fun x1928 => (((bif x1928 then ((g_dec_values k x1922).bind fun _ => ((g_dec_Parse_l0 k x1922 k 0 0).bind fun x1991 => some x1991)) else some 0) : Option Int).bind fun x1963 => (bif x1909 then some (x1928, x1923, (IntKind.wrap .i64 (0 - x1963))) else some (x1928, x1923, x1963))))))) else some (x1770, x1898, 0))) : Option (Bool × ByteArray × Int)).bind fun (x1887, x1888, x1889) => (((bif (!x1887) then some true else ((some (!(x1888.toList == (ByteArray.mk #[]).toList))).bind fun x2018 => some x2018)) : Option Bool).bind fun x2016 => (bif x2016 then some (40, 0, 0) else (bif (decide (ByteArray.size x1750 + ByteArray.size x1769 ≤ 9223372036854775807)) then ((g_strings_TrimLeft k (x1750 ++ x1769) (ByteArray.mk #[48])).bind fun x2023 => ((some (IntKind.wrap .i64 (x1889 - ((ByteArray.size x1769 : Nat) : Int)))).bind fun x2024 => ((g_strings_TrimRight k x2023 (ByteArray.mk #[48])).bind fun x2026 => ((some (IntKind.wrap .i64 (((ByteArray.size x2023 : Nat) : Int) - ((ByteArray.size x2026 : Nat) : Int)))).bind fun x2027 => ((some (decide (30 < ((ByteArray.size x2026 : Nat) : Int)))).bind fun x2030 => (bif x2030 then some (30, 0, 0) else ((g_dec_values k x2026).bind fun _ => ((g_dec_Parse_l1 k x2026 k 0 0 0).bind fun (x2075, x2076) => ((g_dec_num_tell k x1747 x2075 x2076 (IntKind.wrap .i64 (x2024 + x2027))).bind fun (x2098, x2099, x2100) => some (x2098, x2099, x2100)))))))))) else none))))))))
def g_quireref09_trim_l0 (k : Nat) (x2681 : (List Int)) : Nat → Int → Option Int
  | 0, _ => none
  | n + 1, x2754 => (((bif (decide (0 < x2754)) then ((ix x2681 (IntKind.wrap .i64 (x2754 - 1))).bind fun x2781 => some (decide (x2781 = 0))) else some false) : Option Bool).bind fun x2779 => (bif x2779 then (g_quireref09_trim_l0 k x2681 n (IntKind.wrap .i64 (x2754 - 1))) else some x2754))
theorem g_quireref09_trim_l0_eqs : True := by have := @g_quireref09_trim_l0.eq_2; trivial
def g_quireref09_trim (k : Nat) (x2680 : Bool) (x2681 : (List Int)) : Option (Bool × (List Int)) := ((g_quireref09_trim_l0 k x2681 k ((List.length x2681 : Nat) : Int)).bind fun x2769 => (bif (decide (x2769 = 0)) then some (false, ([] : List Int)) else (bif (decide (0 ≤ (0 : Int) ∧ (0 : Int) ≤ x2769 ∧ x2769 ≤ ((List.length x2681 : Nat) : Int))) then (bif (decide (((List.length ([] : List Int)) + (List.length (List.drop (Int.toNat 0) (List.take (Int.toNat x2769) x2681)))) * 8 ≤ 140737488355328)) then some (x2680, (([] : List Int) ++ (List.drop (Int.toNat 0) (List.take (Int.toNat x2769) x2681)))) else none) else none)))
def g_quireref09_Shift (k : Nat) (x2996 : Bool) (x2997 : (List Int)) (x2998 : Int) : Option (Bool × (List Int)) := (bif (decide (0 ≤ (x2998 : Int) ∧ (x2998 : Int) ≤ x2998 ∧ (8 : Int) * x2998 ≤ 281474976710656 ∧ (x2998 : Int) ≤ 9223372036854775807)) then (bif (decide (((List.length (List.replicate (Int.toNat x2998) (0 : Int))) + (List.length x2997)) * 8 ≤ 140737488355328)) then ((g_quireref09_trim k x2996 ((List.replicate (Int.toNat x2998) (0 : Int)) ++ x2997)).bind fun (x3020, x3021) => some (x3020, x3021)) else none) else none)
def g_quireref09_at (k : Nat) (x3138 : Bool) (x3139 : (List Int)) (x3140 : Int) : Option Int := (((bif (decide (0 ≤ x3140)) then ((some (decide (x3140 < ((List.length x3139 : Nat) : Int)))).bind fun x3171 => some x3171) else some false) : Option Bool).bind fun x3169 => (bif x3169 then ((ix x3139 x3140).bind fun x3174 => some x3174) else some 0))
def g_quireref09_more_l0 (k : Nat) (x3130 : Bool) (x3131 : (List Int)) (x3132 : Bool) (x3133 : (List Int)) : Nat → Int → Option (Int ⊕ Unit)
  | 0, _ => none
  | n + 1, x3347 => (bif (decide (0 ≤ x3347)) then ((g_quireref09_at k x3130 x3131 x3347).bind fun x3448 => ((g_quireref09_at k x3132 x3133 x3347).bind fun x3450 => (bif (decide (x3450 < x3448)) then some (Sum.inl 1) else ((g_quireref09_at k x3130 x3131 x3347).bind fun x3457 => ((g_quireref09_at k x3132 x3133 x3347).bind fun x3459 => (bif (decide (x3457 < x3459)) then some (Sum.inl (-1)) else (g_quireref09_more_l0 k x3130 x3131 x3132 x3133 n (IntKind.wrap .i64 (x3347 - 1))))))))) else some (Sum.inr ()))
theorem g_quireref09_more_l0_eqs : True := by have := @g_quireref09_more_l0.eq_2; trivial
def g_quireref09_more (k : Nat) (x3130 : Bool) (x3131 : (List Int)) (x3132 : Bool) (x3133 : (List Int)) : Option Int := ((some (IntKind.wrap .i64 (((List.length x3131 : Nat) : Int) + ((List.length x3133 : Nat) : Int)))).bind fun x3290 => (((g_quireref09_more_l0 k x3130 x3131 x3132 x3133 k x3290) : Option (Int ⊕ Unit)).bind fun y3462 => match y3462 with | (Sum.inl x3404) => some x3404 | (Sum.inr _) => some 0))
def g_dec_ranged_l0 (k : Nat) (x4459 : (List S_api_Dec)) : Nat → Int → Option (Unit ⊕ Unit)
  | 0, _ => none
  | n + 1, x4510 => ((some (decide (x4510 < ((List.length x4459 : Nat) : Int)))).bind fun x4526 => (bif x4526 then ((ix x4459 x4510).bind fun x4535 => (((bif (decide (x4535.fE < (-18))) then some true else some (decide (18 < x4535.fE))) : Option Bool).bind fun x4537 => (bif x4537 then some (Sum.inl ()) else (g_dec_ranged_l0 k x4459 n (IntKind.wrap .i64 (x4510 + 1)))))) else some (Sum.inr ())))
theorem g_dec_ranged_l0_eqs : True := by have := @g_dec_ranged_l0.eq_2; trivial
def g_dec_ranged (k : Nat) (x4459 : (List S_api_Dec)) : Option Bool := (((g_dec_ranged_l0 k x4459 k 0) : Option (Unit ⊕ Unit)).bind fun y4542 => match y4542 with | (Sum.inl _) => some false | (Sum.inr _) => some true)
def g_dec_size (k : Nat) (x4552 : Int) : Option Int := (bif (decide (x4552 < 0)) then ((some (IntKind.wrap .u64 (0 - (IntKind.wrap .u64 x4552)))).bind fun x4562 => some x4562) else some (IntKind.wrap .u64 x4552))
def g_dec_of (k : Nat) (x4549 : Int) (x4550 : Int) : Option Int := ((g_dec_size k x4549).bind fun x4571 => some x4571)
def g_dec_clean__b (k : Nat) (x4456 : Int) (x4457 : Int) : Option (Bool × Int × Int) := ((g_dec_ranged k ([(⟨x4456, x4457⟩ : S_api_Dec)] : List S_api_Dec)).bind fun x4609 => (bif (!x4609) then some (false, x4456, x4457) else ((g_dec_of k x4456 x4457).bind fun x4612 => ((g_dec_num_tell k (decide (x4456 < 0)) 0 x4612 x4457).bind fun (x4614, x4615, x4616) => some (true, x4615, x4616)))))
def g_math_bits_Mul (k : Nat) (x4654 : Int) (x4655 : Int) : Option Int := ((g_math_bits_Mul64 k x4654 x4655).bind fun x4661 => some x4661)
def g_strings_HasPrefix (k : Nat) (x4696 : ByteArray) (x4697 : ByteArray) : Option Bool := ((g_internal_stringslite_HasPrefix k x4696 x4697).bind fun x4703 => some x4703)
def g_strings_Repeat (k : Nat) (x4644 : ByteArray) (x4645 : Int) : Option ByteArray := (bif (decide (x4645 = 0)) then some (ByteArray.mk #[]) else (bif (decide (x4645 = 1)) then some x4644 else (bif (decide (x4645 < 0)) then none else ((some (IntKind.wrap .u64 ((ByteArray.size x4644 : Nat) : Int))).bind fun x4847 => ((g_math_bits_Mul k x4847 (IntKind.wrap .u64 x4645)).bind fun x4849 => (((bif (decide (0 < x4849)) then some true else ((some (decide (9223372036854775807 < (IntKind.wrap .u64 (x4847 * (IntKind.wrap .u64 x4645)))))).bind fun x4861 => some x4861)) : Option Bool).bind fun x4859 => (bif x4859 then none else ((some (IntKind.wrap .i64 (IntKind.wrap .u64 (x4847 * (IntKind.wrap .u64 x4645))))).bind fun x4864 => ((some (decide (((ByteArray.size x4644 : Nat) : Int) = 0))).bind fun x4867 => (bif x4867 then some (ByteArray.mk #[]) else ((((ix (strInts x4644) 0).bind fun x4937 => (((bif (decide (x4937 = 32)) then some (decide (x4937 = 32)) else (bif (decide (x4937 = 45)) then some (decide (x4937 = 45)) else (bif (decide (x4937 = 48)) then some (decide (x4937 = 48)) else (bif (decide (x4937 = 61)) then some (decide (x4937 = 61)) else some (decide (x4937 = 9)))))) : Option Bool).bind fun x4942 => (bif x4942 then (((bif (decide (x4864 ≤ 128)) then ((g_strings_HasPrefix k (ByteArray.mk #[32, 32, 32, 32, 32, 32, 32, 32, 32, 32, 32, 32, 32, 32, 32, 32, 32, 32, 32, 32, 32, 32, 32, 32, 32, 32, 32, 32, 32, 32, 32, 32, 32, 32, 32, 32, 32, 32, 32, 32, 32, 32, 32, 32, 32, 32, 32, 32, 32, 32, 32, 32, 32, 32, 32, 32, 32, 32, 32, 32, 32, 32, 32, 32, 32, 32, 32, 32, 32, 32, 32, 32, 32, 32, 32, 32, 32, 32, 32, 32, 32, 32, 32, 32, 32, 32, 32, 32, 32, 32, 32, 32, 32, 32, 32, 32, 32, 32, 32, 32, 32, 32, 32, 32, 32, 32, 32, 32, 32, 32, 32, 32, 32, 32, 32, 32, 32, 32, 32, 32, 32, 32, 32, 32, 32, 32, 32, 32]) x4644).bind fun x4955 => some x4955) else some false) : Option Bool).bind fun x4952 => (bif x4952 then (bif (decide (0 ≤ (0 : Int) ∧ (0 : Int) ≤ x4864 ∧ x4864 ≤ ((ByteArray.size (ByteArray.mk #[32, 32, 32, 32, 32, 32, 32, 32, 32, 32, 32, 32, 32, 32, 32, 32, 32, 32, 32, 32, 32, 32, 32, 32, 32, 32, 32, 32, 32, 32, 32, 32, 32, 32, 32, 32, 32, 32, 32, 32, 32, 32, 32, 32, 32, 32, 32, 32, 32, 32, 32, 32, 32, 32, 32, 32, 32, 32, 32, 32, 32, 32, 32, 32, 32, 32, 32, 32, 32, 32, 32, 32, 32, 32, 32, 32, 32, 32, 32, 32, 32, 32, 32, 32, 32, 32, 32, 32, 32, 32, 32, 32, 32, 32, 32, 32, 32, 32, 32, 32, 32, 32, 32, 32, 32, 32, 32, 32, 32, 32, 32, 32, 32, 32, 32, 32, 32, 32, 32, 32, 32, 32, 32, 32, 32, 32, 32, 32]) : Nat) : Int))) then ((some (ByteArray.extract (ByteArray.mk #[32, 32, 32, 32, 32, 32, 32, 32, 32, 32, 32, 32, 32, 32, 32, 32, 32, 32, 32, 32, 32, 32, 32, 32, 32, 32, 32, 32, 32, 32, 32, 32, 32, 32, 32, 32, 32, 32, 32, 32, 32, 32, 32, 32, 32, 32, 32, 32, 32, 32, 32, 32, 32, 32, 32, 32, 32, 32, 32, 32, 32, 32, 32, 32, 32, 32, 32, 32, 32, 32, 32, 32, 32, 32, 32, 32, 32, 32, 32, 32, 32, 32, 32, 32, 32, 32, 32, 32, 32, 32, 32, 32, 32, 32, 32, 32, 32, 32, 32, 32, 32, 32, 32, 32, 32, 32, 32, 32, 32, 32, 32, 32, 32, 32, 32, 32, 32, 32, 32, 32, 32, 32, 32, 32, 32, 32, 32, 32]) (Int.toNat 0) (Int.toNat x4864))).bind fun x4959 => some (Sum.inl x4959)) else none) else (((bif (decide (x4864 ≤ 128)) then ((g_strings_HasPrefix k (ByteArray.mk #[45, 45, 45, 45, 45, 45, 45, 45, 45, 45, 45, 45, 45, 45, 45, 45, 45, 45, 45, 45, 45, 45, 45, 45, 45, 45, 45, 45, 45, 45, 45, 45, 45, 45, 45, 45, 45, 45, 45, 45, 45, 45, 45, 45, 45, 45, 45, 45, 45, 45, 45, 45, 45, 45, 45, 45, 45, 45, 45, 45, 45, 45, 45, 45, 45, 45, 45, 45, 45, 45, 45, 45, 45, 45, 45, 45, 45, 45, 45, 45, 45, 45, 45, 45, 45, 45, 45, 45, 45, 45, 45, 45, 45, 45, 45, 45, 45, 45, 45, 45, 45, 45, 45, 45, 45, 45, 45, 45, 45, 45, 45, 45, 45, 45, 45, 45, 45, 45, 45, 45, 45, 45, 45, 45, 45, 45, 45, 45]) x4644).bind fun x4966 => some x4966) else some false) : Option Bool).bind fun x4963 => (bif x4963 then (bif (decide (0 ≤ (0 : Int) ∧ (0 : Int) ≤ x4864 ∧ x4864 ≤ ((ByteArray.size (ByteArray.mk #[45, 45, 45, 45, 45, 45, 45, 45, 45, 45, 45, 45, 45, 45, 45, 45, 45, 45, 45, 45, 45, 45, 45, 45, 45, 45, 45, 45, 45, 45, 45, 45, 45, 45, 45, 45, 45, 45, 45, 45, 45, 45, 45, 45, 45, 45, 45, 45, 45, 45, 45, 45, 45, 45, 45, 45, 45, 45, 45, 45, 45, 45, 45, 45, 45, 45, 45, 45, 45, 45, 45, 45, 45, 45, 45, 45, 45, 45, 45, 45, 45, 45, 45, 45, 45, 45, 45, 45, 45, 45, 45, 45, 45, 45, 45, 45, 45, 45, 45, 45, 45, 45, 45, 45, 45, 45, 45, 45, 45, 45, 45, 45, 45, 45, 45, 45, 45, 45, 45, 45, 45, 45, 45, 45, 45, 45, 45, 45]) : Nat) : Int))) then ((some (ByteArray.extract (ByteArray.mk #[45, 45, 45, 45, 45, 45, 45, 45, 45, 45, 45, 45, 45, 45, 45, 45, 45, 45, 45, 45, 45, 45, 45, 45, 45, 45, 45, 45, 45, 45, 45, 45, 45, 45, 45, 45, 45, 45, 45, 45, 45, 45, 45, 45, 45, 45, 45, 45, 45, 45, 45, 45, 45, 45, 45, 45, 45, 45, 45, 45, 45, 45, 45, 45, 45, 45, 45, 45, 45, 45, 45, 45, 45, 45, 45, 45, 45, 45, 45, 45, 45, 45, 45, 45, 45, 45, 45, 45, 45, 45, 45, 45, 45, 45, 45, 45, 45, 45, 45, 45, 45, 45, 45, 45, 45, 45, 45, 45, 45, 45, 45, 45, 45, 45, 45, 45, 45, 45, 45, 45, 45, 45, 45, 45, 45, 45, 45, 45]) (Int.toNat 0) (Int.toNat x4864))).bind fun x4970 => some (Sum.inl x4970)) else none) else (((bif (decide (x4864 ≤ 64)) then ((g_strings_HasPrefix k (ByteArray.mk #[48, 48, 48, 48, 48, 48, 48, 48, 48, 48, 48, 48, 48, 48, 48, 48, 48, 48, 48, 48, 48, 48, 48, 48, 48, 48, 48, 48, 48, 48, 48, 48, 48, 48, 48, 48, 48, 48, 48, 48, 48, 48, 48, 48, 48, 48, 48, 48, 48, 48, 48, 48, 48, 48, 48, 48, 48, 48, 48, 48, 48, 48, 48, 48]) x4644).bind fun x4977 => some x4977) else some false) : Option Bool).bind fun x4974 => (bif x4974 then (bif (decide (0 ≤ (0 : Int) ∧ (0 : Int) ≤ x4864 ∧ x4864 ≤ ((ByteArray.size (ByteArray.mk #[48, 48, 48, 48, 48, 48, 48, 48, 48, 48, 48, 48, 48, 48, 48, 48, 48, 48, 48, 48, 48, 48, 48, 48, 48, 48, 48, 48, 48, 48, 48, 48, 48, 48, 48, 48, 48, 48, 48, 48, 48, 48, 48, 48, 48, 48, 48, 48, 48, 48, 48, 48, 48, 48, 48, 48, 48, 48, 48, 48, 48, 48, 48, 48]) : Nat) : Int))) then ((some (ByteArray.extract (ByteArray.mk #[48, 48, 48, 48, 48, 48, 48, 48, 48, 48, 48, 48, 48, 48, 48, 48, 48, 48, 48, 48, 48, 48, 48, 48, 48, 48, 48, 48, 48, 48, 48, 48, 48, 48, 48, 48, 48, 48, 48, 48, 48, 48, 48, 48, 48, 48, 48, 48, 48, 48, 48, 48, 48, 48, 48, 48, 48, 48, 48, 48, 48, 48, 48, 48]) (Int.toNat 0) (Int.toNat x4864))).bind fun x4981 => some (Sum.inl x4981)) else none) else (((bif (decide (x4864 ≤ 128)) then ((g_strings_HasPrefix k (ByteArray.mk #[61, 61, 61, 61, 61, 61, 61, 61, 61, 61, 61, 61, 61, 61, 61, 61, 61, 61, 61, 61, 61, 61, 61, 61, 61, 61, 61, 61, 61, 61, 61, 61, 61, 61, 61, 61, 61, 61, 61, 61, 61, 61, 61, 61, 61, 61, 61, 61, 61, 61, 61, 61, 61, 61, 61, 61, 61, 61, 61, 61, 61, 61, 61, 61, 61, 61, 61, 61, 61, 61, 61, 61, 61, 61, 61, 61, 61, 61, 61, 61, 61, 61, 61, 61, 61, 61, 61, 61, 61, 61, 61, 61, 61, 61, 61, 61, 61, 61, 61, 61, 61, 61, 61, 61, 61, 61, 61, 61, 61, 61, 61, 61, 61, 61, 61, 61, 61, 61, 61, 61, 61, 61, 61, 61, 61, 61, 61, 61]) x4644).bind fun x4988 => some x4988) else some false) : Option Bool).bind fun x4985 => (bif x4985 then (bif (decide (0 ≤ (0 : Int) ∧ (0 : Int) ≤ x4864 ∧ x4864 ≤ ((ByteArray.size (ByteArray.mk #[61, 61, 61, 61, 61, 61, 61, 61, 61, 61, 61, 61, 61, 61, 61, 61, 61, 61, 61, 61, 61, 61, 61, 61, 61, 61, 61, 61, 61, 61, 61, 61, 61, 61, 61, 61, 61, 61, 61, 61, 61, 61, 61, 61, 61, 61, 61, 61, 61, 61, 61, 61, 61, 61, 61, 61, 61, 61, 61, 61, 61, 61, 61, 61, 61, 61, 61, 61, 61, 61, 61, 61, 61, 61, 61, 61, 61, 61, 61, 61, 61, 61, 61, 61, 61, 61, 61, 61, 61, 61, 61, 61, 61, 61, 61, 61, 61, 61, 61, 61, 61, 61, 61, 61, 61, 61, 61, 61, 61, 61, 61, 61, 61, 61, 61, 61, 61, 61, 61, 61, 61, 61, 61, 61, 61, 61, 61, 61]) : Nat) : Int))) then ((some (ByteArray.extract (ByteArray.mk #[61, 61, 61, 61, 61, 61, 61, 61, 61, 61, 61, 61, 61, 61, 61, 61, 61, 61, 61, 61, 61, 61, 61, 61, 61, 61, 61, 61, 61, 61, 61, 61, 61, 61, 61, 61, 61, 61, 61, 61, 61, 61, 61, 61, 61, 61, 61, 61, 61, 61, 61, 61, 61, 61, 61, 61, 61, 61, 61, 61, 61, 61, 61, 61, 61, 61, 61, 61, 61, 61, 61, 61, 61, 61, 61, 61, 61, 61, 61, 61, 61, 61, 61, 61, 61, 61, 61, 61, 61, 61, 61, 61, 61, 61, 61, 61, 61, 61, 61, 61, 61, 61, 61, 61, 61, 61, 61, 61, 61, 61, 61, 61, 61, 61, 61, 61, 61, 61, 61, 61, 61, 61, 61, 61, 61, 61, 61, 61]) (Int.toNat 0) (Int.toNat x4864))).bind fun x4992 => some (Sum.inl x4992)) else none) else (((bif (decide (x4864 ≤ 64)) then ((g_strings_HasPrefix k (ByteArray.mk #[9, 9, 9, 9, 9, 9, 9, 9, 9, 9, 9, 9, 9, 9, 9, 9, 9, 9, 9, 9, 9, 9, 9, 9, 9, 9, 9, 9, 9, 9, 9, 9, 9, 9, 9, 9, 9, 9, 9, 9, 9, 9, 9, 9, 9, 9, 9, 9, 9, 9, 9, 9, 9, 9, 9, 9, 9, 9, 9, 9, 9, 9, 9, 9]) x4644).bind fun x4999 => some x4999) else some false) : Option Bool).bind fun x4996 => (bif x4996 then (bif (decide (0 ≤ (0 : Int) ∧ (0 : Int) ≤ x4864 ∧ x4864 ≤ ((ByteArray.size (ByteArray.mk #[9, 9, 9, 9, 9, 9, 9, 9, 9, 9, 9, 9, 9, 9, 9, 9, 9, 9, 9, 9, 9, 9, 9, 9, 9, 9, 9, 9, 9, 9, 9, 9, 9, 9, 9, 9, 9, 9, 9, 9, 9, 9, 9, 9, 9, 9, 9, 9, 9, 9, 9, 9, 9, 9, 9, 9, 9, 9, 9, 9, 9, 9, 9, 9]) : Nat) : Int))) then ((some (ByteArray.extract (ByteArray.mk #[9, 9, 9, 9, 9, 9, 9, 9, 9, 9, 9, 9, 9, 9, 9, 9, 9, 9, 9, 9, 9, 9, 9, 9, 9, 9, 9, 9, 9, 9, 9, 9, 9, 9, 9, 9, 9, 9, 9, 9, 9, 9, 9, 9, 9, 9, 9, 9, 9, 9, 9, 9, 9, 9, 9, 9, 9, 9, 9, 9, 9, 9, 9, 9]) (Int.toNat 0) (Int.toNat x4864))).bind fun x5003 => some (Sum.inl x5003)) else none) else some (Sum.inr ()))))))))))) else some (Sum.inr ())))) : Option (ByteArray ⊕ Unit)).bind fun y5005 => match y5005 with | (Sum.inl x4936) => some x4936 | (Sum.inr _) => (((bif (decide (8192 < x4864)) then (bif (!(((ByteArray.size x4644 : Nat) : Int) == 0)) then ((some (IntKind.wrap .i64 (Int.tdiv 8192 ((ByteArray.size x4644 : Nat) : Int)))).bind fun x5014 => ((some (IntKind.wrap .i64 (x5014 * ((ByteArray.size x4644 : Nat) : Int)))).bind fun x5015 => (bif (decide (x5015 = 0)) then some ((ByteArray.size x4644 : Nat) : Int) else some x5015))) else none) else some x4864) : Option Int).bind fun x5011 => none))))))))))))
def g_dec_Print_l0 (k : Nat) : Nat → ByteArray → Int → Option ByteArray
  | 0, _, _ => none
  | n + 1, x5100, x5101 => (bif (decide (0 < x5101)) then ((some (IntKind.wrap .u64 (48 + (Int.tmod x5101 10)))).bind fun x5109 => (bif (decide (ByteArray.size (strOf ([(IntKind.wrap .u8 x5109)] : List Int)) + ByteArray.size x5100 ≤ 9223372036854775807)) then (g_dec_Print_l0 k n ((strOf ([(IntKind.wrap .u8 x5109)] : List Int)) ++ x5100) (IntKind.wrap .u64 (Int.tdiv x5101 10))) else none)) else some x5100)
theorem g_dec_Print_l0_eqs : True := by have := @g_dec_Print_l0.eq_2; trivial
def g_dec_Print (k : Nat) (x4453 : Int) (x4454 : Int) : Option ByteArray := ((g_dec_clean__b k x4453 x4454).bind fun (x5089, x5090, x5091) => (bif (!x5089) then some (ByteArray.mk #[63]) else ((g_dec_size k x5090).bind fun x5094 => ((g_dec_Print_l0 k k (ByteArray.mk #[]) x5094).bind fun x5106 => (((bif (decide (x5090 = 0)) then some (ByteArray.mk #[48]) else (bif (decide (0 < x5091)) then ((g_strings_Repeat k (ByteArray.mk #[48]) x5091).bind fun x5145 => (bif (decide (ByteArray.size x5106 + ByteArray.size x5145 ≤ 9223372036854775807)) then some (x5106 ++ x5145) else none)) else (bif (decide (x5091 < 0)) then ((some (IntKind.wrap .i64 ((IntKind.wrap .i64 (1 - x5091)) - ((ByteArray.size x5106 : Nat) : Int)))).bind fun x5148 => ((some (if (0 : Int) > x5148 then (0 : Int) else x5148)).bind fun x5149 => ((g_strings_Repeat k (ByteArray.mk #[48]) x5149).bind fun x5151 => (bif (decide (ByteArray.size x5151 + ByteArray.size x5106 ≤ 9223372036854775807)) then ((some ((ByteArray.size (x5151 ++ x5106) : Nat) : Int)).bind fun x5163 => ((some ((ByteArray.size (x5151 ++ x5106) : Nat) : Int)).bind fun x5164 => (bif (decide (0 ≤ (0 : Int) ∧ (0 : Int) ≤ (IntKind.wrap .i64 (x5163 + x5091)) ∧ (IntKind.wrap .i64 (x5163 + x5091)) ≤ ((ByteArray.size (x5151 ++ x5106) : Nat) : Int))) then ((some (ByteArray.extract (x5151 ++ x5106) (Int.toNat 0) (Int.toNat (IntKind.wrap .i64 (x5163 + x5091))))).bind fun x5166 => (bif (decide (ByteArray.size x5166 + ByteArray.size (ByteArray.mk #[46]) ≤ 9223372036854775807)) then (bif (decide (0 ≤ ((IntKind.wrap .i64 (x5164 + x5091)) : Int) ∧ ((IntKind.wrap .i64 (x5164 + x5091)) : Int) ≤ ((ByteArray.size (x5151 ++ x5106) : Nat) : Int) ∧ ((ByteArray.size (x5151 ++ x5106) : Nat) : Int) ≤ ((ByteArray.size (x5151 ++ x5106) : Nat) : Int))) then ((some (ByteArray.extract (x5151 ++ x5106) (Int.toNat (IntKind.wrap .i64 (x5164 + x5091))) (Int.toNat ((ByteArray.size (x5151 ++ x5106) : Nat) : Int)))).bind fun x5169 => (bif (decide (ByteArray.size (x5166 ++ (ByteArray.mk #[46])) + ByteArray.size x5169 ≤ 9223372036854775807)) then some ((x5166 ++ (ByteArray.mk #[46])) ++ x5169) else none)) else none) else none)) else none))) else none)))) else some x5106))) : Option ByteArray).bind fun x5141 => (((bif (decide (x5090 < 0)) then (bif (decide (ByteArray.size (ByteArray.mk #[45]) + ByteArray.size x5141 ≤ 9223372036854775807)) then some ((ByteArray.mk #[45]) ++ x5141) else none) else some x5141) : Option ByteArray).bind fun x5174 => some x5174))))))
def g_dec_Make (k : Nat) (x5556 : Int) (x5557 : Int) : Option (Int × Int × Int) := (((bif (!decide (x5556 = 0)) then (bif (decide (x5557 < (-100))) then some true else some (decide (100 < x5557))) else some false) : Option Bool).bind fun x5591 => (bif x5591 then some (30, 0, 0) else ((g_dec_size k x5556).bind fun x5597 => ((g_dec_num_tell k (decide (x5556 < 0)) 0 x5597 x5557).bind fun (x5599, x5600, x5601) => some (x5599, x5600, x5601)))))
def g_dec_clean (k : Nat) (x5611 : Int) (x5612 : Int) (x5613 : Int) (x5614 : Int) : Option (Bool × Int × Int × Int × Int) := ((g_dec_ranged k ([(⟨x5611, x5612⟩ : S_api_Dec)] : List S_api_Dec)).bind fun x5685 => (bif (!x5685) then some (false, x5611, x5612, x5613, x5614) else ((g_dec_of k x5611 x5612).bind fun x5688 => ((g_dec_num_tell k (decide (x5611 < 0)) 0 x5688 x5612).bind fun (x5690, x5691, x5692) => ((g_dec_ranged k ([(⟨x5613, x5614⟩ : S_api_Dec)] : List S_api_Dec)).bind fun x5709 => (bif (!x5709) then some (false, x5691, x5692, x5613, x5614) else ((g_dec_of k x5613 x5614).bind fun x5712 => ((g_dec_num_tell k (decide (x5613 < 0)) 0 x5712 x5614).bind fun (x5714, x5715, x5716) => some (true, x5691, x5692, x5715, x5716)))))))))
def g_dec_even (k : Nat) (x5731 : Int) (x5732 : Int) (x5733 : Int) (x5734 : Int) : Option (Bool × Int × Int × Int × Int × Int × Int) := ((((g_dec_of k x5731 x5732).bind fun x6009 => ((g_dec_of k x5733 x5734).bind fun x6011 => some (x6009, x6011))) : Option (Int × Int)).bind fun (x5974, x5975) => ((((g_dec_wide_zero k 0 x5974).bind fun _ => (bif (decide ((bits .or .u64 0 x5974) = 0)) then some (true, 0, x5974, x5734, 0, x5975, x5734) else ((g_dec_wide_zero k 0 x5975).bind fun _ => (bif (decide ((bits .or .u64 0 x5975) = 0)) then some (true, 0, x5974, x5732, 0, x5975, x5732) else (bif (decide (x5734 < x5732)) then ((g_dec_wide_tens k 0 x5974 (IntKind.wrap .i64 (x5732 - x5734))).bind fun (x6068, x6069, x6070) => some (x6068, x6069, x6070, x5734, 0, x5975, x5734)) else (bif (decide (x5732 < x5734)) then ((g_dec_wide_tens k 0 x5975 (IntKind.wrap .i64 (x5734 - x5732))).bind fun (x6073, x6074, x6075) => some (x6073, 0, x5974, x5732, x6074, x6075, x5732)) else some (true, 0, x5974, x5732, 0, x5975, x5734))))))) : Option (Bool × Int × Int × Int × Int × Int × Int)).bind fun (x6055, x6056, x6057, x6058, x6059, x6060, x6061) => some (x6055, x6056, x6057, x6058, x6059, x6060, x6061)))
def g_dec_wide_cmp (k : Nat) (x6090 : Int) (x6091 : Int) (x6092 : Int) (x6093 : Int) : Option Int := ((some ((decide (x6090 = x6092)) && ((decide (x6091 = x6093)) && true))).bind fun x6123 => (bif x6123 then some 0 else (((bif (decide (x6090 < x6092)) then some true else (bif (decide (x6090 = x6092)) then some (decide (x6091 < x6093)) else some false)) : Option Bool).bind fun x6127 => (bif x6127 then some (-1) else some 1))))
def g_dec_wide_less (k : Nat) (x6135 : Int) (x6136 : Int) (x6137 : Int) (x6138 : Int) : Option Unit := (bif (decide (Int.toNat ((sub64 x6136 x6138 0).2) ≤ 1)) then some () else none)
def g_dec_Add (k : Nat) (x5606 : Int) (x5607 : Int) (x5608 : Int) (x5609 : Int) : Option (Int × Int × Int) := ((g_dec_clean k x5606 x5607 x5608 x5609).bind fun (x6181, x6182, x6183, x6184, x6185) => (bif (!x6181) then some (1, 0, 0) else ((g_dec_even k x6182 x6183 x6184 x6185).bind fun (x6188, x6189, x6190, x6191, x6192, x6193, x6194) => (((bif (!x6188) then some (Sum.inl ()) else ((some ((decide (x6182 < 0)) == (decide (x6184 < 0)))).bind fun x6212 => (bif x6212 then ((g_dec_wide_plus k x6189 x6190 x6192 x6193).bind fun x6215 => some (Sum.inr (x6215, (decide (x6182 < 0)), (add64 x6189 x6192 ((add64 x6190 x6193 0).2)).1, (add64 x6190 x6193 0).1))) else ((g_dec_wide_cmp k x6189 x6190 x6192 x6193).bind fun x6217 => (bif (decide (0 ≤ x6217)) then ((g_dec_wide_less k x6189 x6190 x6192 x6193).bind fun _ => some (Sum.inr (x6188, (decide (x6182 < 0)), (sub64 x6189 x6192 ((sub64 x6190 x6193 0).2)).1, (sub64 x6190 x6193 0).1))) else ((g_dec_wide_less k x6192 x6193 x6189 x6190).bind fun _ => some (Sum.inr (x6188, (decide (x6184 < 0)), (sub64 x6192 x6189 ((sub64 x6193 x6190 0).2)).1, (sub64 x6193 x6190 0).1)))))))) : Option (Unit ⊕ (Bool × Bool × Int × Int))).bind fun y6224 => match y6224 with | (Sum.inl _) => some (30, 0, 0) | (Sum.inr (x6207, x6208, x6209, x6210)) => (bif (!x6207) then some (30, 0, 0) else ((g_dec_num_tell k x6208 x6209 x6210 x6191).bind fun (x6228, x6229, x6230) => some (x6228, x6229, x6230)))))))
def g_dec_factors_l0 (k : Nat) (x6280 : Int) : Nat → Int → Int → Option (Int × Int)
  | 0, _, _ => none
  | n + 1, x6304, x6305 => (bif (!(x6280 == 0)) then (bif (decide ((Int.tmod x6304 x6280) = 0)) then (bif (!(x6280 == 0)) then (g_dec_factors_l0 k x6280 n (IntKind.wrap .u64 (Int.tdiv x6304 x6280)) (IntKind.wrap .i64 (x6305 + 1))) else none) else some (x6304, x6305)) else none)
theorem g_dec_factors_l0_eqs : True := by have := @g_dec_factors_l0.eq_2; trivial
def g_dec_factors (k : Nat) (x6279 : Int) (x6280 : Int) : Option (Int × Int) := ((g_dec_factors_l0 k x6280 k x6279 0).bind fun (x6311, x6312) => some (x6312, x6311))
def g_dec_Div_l0 (k : Nat) : Nat → Int → Int → Option Int
  | 0, _, _ => none
  | n + 1, x6454, x6455 => (bif (!decide (x6455 = 0)) then (bif (!(x6455 == 0)) then (g_dec_Div_l0 k n x6455 (Int.tmod x6454 x6455)) else none) else some x6454)
theorem g_dec_Div_l0_eqs : True := by have := @g_dec_Div_l0.eq_2; trivial
def g_dec_Div_l1 (k : Nat) (x6468 : Int) (x6475 : Int) : Nat → Bool → Int → Int → Int → Option (Bool × Int × Int)
  | 0, _, _, _, _ => none
  | n + 1, x6494, x6495, x6496, x6497 => ((((some (decide (x6495 < (IntKind.wrap .i64 (x6475 - x6468))))).bind fun x6528 => (bif x6528 then some x6494 else some false)) : Option Bool).bind fun x6527 => (bif x6527 then ((g_dec_wide_times k x6496 x6497 2).bind fun (x6533, x6534) => (g_dec_Div_l1 k x6468 x6475 n x6533 (IntKind.wrap .i64 (x6495 + 1)) x6534 (IntKind.wrap .u64 (x6497 * 2)))) else some (x6494, x6496, x6497)))
theorem g_dec_Div_l1_eqs : True := by have := @g_dec_Div_l1.eq_2; trivial
def g_dec_Div_l2 (k : Nat) (x6471 : Int) (x6475 : Int) : Nat → Bool → Int → Int → Int → Option (Bool × Int × Int)
  | 0, _, _, _, _ => none
  | n + 1, x6553, x6554, x6555, x6556 => ((((some (decide (x6554 < (IntKind.wrap .i64 (x6475 - x6471))))).bind fun x6587 => (bif x6587 then some x6553 else some false)) : Option Bool).bind fun x6586 => (bif x6586 then ((g_dec_wide_times k x6555 x6556 5).bind fun (x6592, x6593) => (g_dec_Div_l2 k x6471 x6475 n x6592 (IntKind.wrap .i64 (x6554 + 1)) x6593 (IntKind.wrap .u64 (x6556 * 5)))) else some (x6553, x6555, x6556)))
theorem g_dec_Div_l2_eqs : True := by have := @g_dec_Div_l2.eq_2; trivial
def g_dec_Div (k : Nat) (x6235 : Int) (x6236 : Int) (x6237 : Int) (x6238 : Int) : Option (Int × Int × Int) := ((g_dec_clean k x6235 x6236 x6237 x6238).bind fun (x6432, x6433, x6434, x6435, x6436) => (bif (!x6432) then some (1, 0, 0) else (bif (decide (x6435 = 0)) then some (31, 0, 0) else (bif (decide (x6433 = 0)) then some (0, 0, 0) else ((g_dec_size k x6433).bind fun x6447 => ((g_dec_size k x6435).bind fun x6449 => ((g_dec_Div_l0 k k x6447 x6449).bind fun x6460 => (bif (!(x6460 == 0)) then ((g_dec_factors k (IntKind.wrap .u64 (Int.tdiv x6449 x6460)) 2).bind fun (x6468, x6469) => ((g_dec_factors k x6469 5).bind fun (x6471, x6472) => (bif (!decide (x6472 = 1)) then some (30, 0, 0) else ((some (if (x6471 : Int) > x6468 then (x6471 : Int) else x6468)).bind fun x6475 => (bif (!(x6460 == 0)) then ((g_dec_Div_l1 k x6468 x6475 k true 0 0 (IntKind.wrap .u64 (Int.tdiv x6447 x6460))).bind fun (x6515, x6516, x6517) => ((g_dec_Div_l2 k x6471 x6475 k x6515 0 x6516 x6517).bind fun (x6574, x6575, x6576) => (bif (!x6574) then some (30, 0, 0) else ((some (!((decide (x6433 < 0)) == (decide (x6435 < 0))))).bind fun x6597 => ((some (IntKind.wrap .i64 ((IntKind.wrap .i64 (x6434 - x6436)) - x6475))).bind fun x6598 => ((g_dec_num_tell k x6597 x6575 x6576 x6598).bind fun (x6600, x6601, x6602) => some (x6600, x6601, x6602))))))) else none))))) else none))))))))
def g_dec_left_l0 (k : Nat) (x6643 : Int) (x6646 : Int) (x6647 : Int) : Nat → Int → Int → Option Int
  | 0, _, _ => none
  | n + 1, x6787, x6788 => ((some (decide (x6788 < (IntKind.wrap .i64 (x6643 - x6647))))).bind fun x6803 => (bif x6803 then ((g_math_bits_Mul64 k x6787 10).bind fun x6807 => (bif (!(x6646 == 0)) then ((g_math_bits_Div64 k (Int.tmod x6807 x6646) (IntKind.wrap .u64 (x6787 * 10)) x6646).bind fun (x6814, x6815) => (g_dec_left_l0 k x6643 x6646 x6647 n x6815 (IntKind.wrap .i64 (x6788 + 1)))) else none)) else some x6787))
theorem g_dec_left_l0_eqs : True := by have := @g_dec_left_l0.eq_2; trivial
def g_dec_left (k : Nat) (x6640 : Bool) (x6641 : Int) (x6642 : Int) (x6643 : Int) (x6644 : Bool) (x6645 : Int) (x6646 : Int) (x6647 : Int) : Option (Int × Int × Int) := (bif (decide (x6647 ≤ x6643)) then (bif (!(x6646 == 0)) then ((g_dec_left_l0 k x6643 x6646 x6647 k (Int.tmod x6642 x6646) 0).bind fun x6802 => some (0, x6802, x6647)) else none) else ((g_dec_wide_tens k x6645 x6646 (IntKind.wrap .i64 (x6647 - x6643))).bind fun (x6818, x6819, x6820) => (((bif (!x6818) then some true else ((g_dec_wide_cmp k x6819 x6820 x6641 x6642).bind fun x6836 => some (decide (0 < x6836)))) : Option Bool).bind fun x6833 => (bif x6833 then some (x6641, x6642, x6643) else (bif (!(x6820 == 0)) then some (0, (Int.tmod x6642 x6820), x6643) else none)))))
def g_dec_Mod (k : Nat) (x6615 : Int) (x6616 : Int) (x6617 : Int) (x6618 : Int) : Option (Int × Int × Int) := ((g_dec_clean k x6615 x6616 x6617 x6618).bind fun (x6982, x6983, x6984, x6985, x6986) => (bif (!x6982) then some (1, 0, 0) else (bif (decide (x6985 = 0)) then some (31, 0, 0) else ((((g_dec_of k x6983 x6984).bind fun x7072 => ((g_dec_of k x6985 x6986).bind fun x7074 => ((g_dec_left k (decide (x6983 < 0)) 0 x7072 x6984 (decide (x6985 < 0)) 0 x7074 x6986).bind fun (x7076, x7077, x7078) => some (x7076, x7077, x7078)))) : Option (Int × Int × Int)).bind fun (x7042, x7043, x7044) => ((g_dec_num_tell k (decide (x6983 < 0)) x7042 x7043 x7044).bind fun (x7099, x7100, x7101) => (((bif (!decide (x7099 = 0)) then some true else (bif (decide (x7100 = 0)) then some true else ((some ((decide (x6983 < 0)) == (decide (x6985 < 0)))).bind fun x7117 => some x7117))) : Option Bool).bind fun x7114 => (bif x7114 then some (x7099, x7100, x7101) else ((g_dec_Add k x7100 x7101 x6985 x6986).bind fun (x7121, x7122, x7123) => some (x7121, x7122, x7123)))))))))
def g_quirelaw09_alive (k : Nat) : Option Bool := ((g_dec_Make k 120 0).bind fun (x7166, x7167, x7168) => ((g_dec_Add k 1 (-1) 2 (-1)).bind fun (x7170, x7171, x7172) => ((g_dec_Div k 1 0 4 0).bind fun (x7174, x7175, x7176) => ((g_dec_Div k 1 0 3 0).bind fun (x7178, x7179, x7180) => ((g_dec_Div k 1 0 0 0).bind fun (x7182, x7183, x7184) => ((g_dec_Mod k (-7) 0 3 0).bind fun (x7186, x7187, x7188) => ((((some ((decide (x7167 = 12)) && ((decide (x7168 = 1)) && true))).bind fun x7207 => (bif x7207 then (bif (decide (x7166 = 0)) then ((some ((decide (x7171 = 3)) && ((decide (x7172 = (-1))) && true))).bind fun x7210 => (bif x7210 then (bif (decide (x7170 = 0)) then ((some ((decide (x7175 = 25)) && ((decide (x7176 = (-2))) && true))).bind fun x7213 => (bif x7213 then (bif (decide (x7174 = 0)) then (bif (decide (x7178 = 30)) then (bif (decide (x7182 = 31)) then ((some ((decide (x7187 = 2)) && ((decide (x7188 = 0)) && true))).bind fun x7218 => (bif x7218 then (bif (decide (x7186 = 0)) then ((g_dec_Print k 5 (-3)).bind fun x7222 => ((some (x7222.toList == (ByteArray.mk #[48, 46, 48, 48, 53]).toList)).bind fun x7223 => some x7223)) else some false) else some false)) else some false) else some false) else some false) else some false)) else some false) else some false)) else some false) else some false)) : Option Bool).bind fun x7206 => some x7206)))))))
def g_quirelaw09_DecBack_l0 (k : Nat) (x7490 : ByteArray) : Nat → Int → Option (Unit ⊕ Unit)
  | 0, _ => none
  | n + 1, x7613 => ((some (decide (x7613 < ((ByteArray.size x7490 : Nat) : Int)))).bind fun x7654 => (bif x7654 then ((((ix (strInts x7490) x7613).bind fun x7681 => (bif (!decide (x7681 = 45)) then ((ix (strInts x7490) x7613).bind fun x7683 => (bif (!decide (x7683 = 46)) then ((ix (strInts x7490) x7613).bind fun x7685 => (bif (decide (x7685 < 48)) then some true else ((ix (strInts x7490) x7613).bind fun x7687 => some (decide (57 < x7687))))) else some false)) else some false)) : Option Bool).bind fun x7680 => (bif x7680 then some (Sum.inl ()) else (g_quirelaw09_DecBack_l0 k x7490 n (IntKind.wrap .i64 (x7613 + 1))))) else some (Sum.inr ())))
theorem g_quirelaw09_DecBack_l0_eqs : True := by have := @g_quirelaw09_DecBack_l0.eq_2; trivial
def g_quirelaw09_DecBack (k : Nat) (x7320 : Int) (x7321 : Int) : Option Bool := ((g_dec_Print k x7320 x7321).bind fun x7490 => ((g_dec_Make k x7320 x7321).bind fun (x7492, x7493, x7494) => (((bif (decide (x7321 < (-18))) then some true else some (decide (18 < x7321))) : Option Bool).bind fun x7511 => (bif x7511 then ((((some (x7490.toList == (ByteArray.mk #[63]).toList)).bind fun x7520 => (bif x7520 then ((g_quirelaw09_alive k).bind fun x7523 => some x7523) else some false)) : Option Bool).bind fun x7519 => some x7519) else ((g_dec_Parse k x7490).bind fun (x7526, x7527, x7528) => (((bif (!decide (x7492 = 0)) then some true else (bif (!decide (x7526 = 0)) then some true else ((some (!((decide (x7493 = x7527)) && ((decide (x7494 = x7528)) && true)))).bind fun x7565 => (bif x7565 then some true else ((some (decide (((ByteArray.size x7490 : Nat) : Int) = 0))).bind fun x7567 => (bif x7567 then some true else ((some (decide (40 < ((ByteArray.size x7490 : Nat) : Int)))).bind fun x7569 => (bif x7569 then some true else ((g_quirelaw09_alive k).bind fun x7572 => some (!x7572)))))))))) : Option Bool).bind fun x7562 => (bif x7562 then some false else (((g_quirelaw09_DecBack_l0 k x7490 k 0) : Option (Unit ⊕ Unit)).bind fun y7691 => match y7691 with | (Sum.inl _) => some false | (Sum.inr _) => some true))))))))
end Go.Proofs.YtdbeblgfccjbgaaDoor.W
namespace Go.Proofs.YtdbeblgfccjbgaaDoor.W
open Go Go.Q Go.Proofs
set_option linter.unusedVariables false
set_option linter.unusedSimpArgs false
theorem g_internal_stringslite_HasPrefix_mono {k k' : Nat} (hk : k ≤ k') {x18 : ByteArray} {x19 : ByteArray} : Le (g_internal_stringslite_HasPrefix k x18 x19) (g_internal_stringslite_HasPrefix k' x18 x19) := by
  unfold g_internal_stringslite_HasPrefix
  repeat' first | (with_reducible exact Le.rfl) | (with_reducible refine Le.bind ?_ ?_) | (with_reducible refine Le.cond ?_ ?_) | intro _ | split
theorem g_math_bits_Mul64_mono {k k' : Nat} (hk : k ≤ k') {x927 : Int} {x928 : Int} : Le (g_math_bits_Mul64 k x927 x928) (g_math_bits_Mul64 k' x927 x928) := by
  unfold g_math_bits_Mul64
  repeat' first | (with_reducible exact Le.rfl) | (with_reducible refine Le.bind ?_ ?_) | (with_reducible refine Le.cond ?_ ?_) | intro _ | split
theorem g_dec_wide_times_mono {k k' : Nat} (hk : k ≤ k') {x923 : Int} {x924 : Int} {x925 : Int} : Le (g_dec_wide_times k x923 x924 x925) (g_dec_wide_times k' x923 x924 x925) := by
  unfold g_dec_wide_times
  repeat' first | (with_reducible exact Le.rfl) | (with_reducible exact g_math_bits_Mul64_mono hk) | (with_reducible refine Le.bind ?_ ?_) | (with_reducible refine Le.cond ?_ ?_) | intro _ | split
theorem g_dec_wide_plus_mono {k k' : Nat} (hk : k ≤ k') {x962 : Int} {x963 : Int} {x964 : Int} {x965 : Int} : Le (g_dec_wide_plus k x962 x963 x964 x965) (g_dec_wide_plus k' x962 x963 x964 x965) := by
  unfold g_dec_wide_plus
  repeat' first | (with_reducible exact Le.rfl) | (with_reducible refine Le.bind ?_ ?_) | (with_reducible refine Le.cond ?_ ?_) | intro _ | split
theorem g_dec_wide_zero_mono {k k' : Nat} (hk : k ≤ k') {x1012 : Int} {x1013 : Int} : Le (g_dec_wide_zero k x1012 x1013) (g_dec_wide_zero k' x1012 x1013) := by
  unfold g_dec_wide_zero
  repeat' first | (with_reducible exact Le.rfl) | (with_reducible refine Le.bind ?_ ?_) | (with_reducible refine Le.cond ?_ ?_) | intro _ | split
theorem g_math_bits_Len64_mono {k k' : Nat} (hk : k ≤ k') {x1043 : Int} : Le (g_math_bits_Len64 k x1043) (g_math_bits_Len64 k' x1043) := by
  unfold g_math_bits_Len64
  repeat' first | (with_reducible exact Le.rfl) | (with_reducible refine Le.bind ?_ ?_) | (with_reducible refine Le.cond ?_ ?_) | intro _ | split
theorem g_math_bits_LeadingZeros64_mono {k k' : Nat} (hk : k ≤ k') {x1041 : Int} : Le (g_math_bits_LeadingZeros64 k x1041) (g_math_bits_LeadingZeros64 k' x1041) := by
  unfold g_math_bits_LeadingZeros64
  repeat' first | (with_reducible exact Le.rfl) | (with_reducible exact g_math_bits_Len64_mono hk) | (with_reducible refine Le.bind ?_ ?_) | (with_reducible refine Le.cond ?_ ?_) | intro _ | split
theorem g_math_bits_Div64_l0_mono {k k' : Nat} (hk : k ≤ k') {x1234 : Int} {x1240 : Int} : ∀ {n n' : Nat} (hn : n ≤ n') {y0 : Int} {y1 : Int}, Le (g_math_bits_Div64_l0 k x1234 x1240 n y0 y1) (g_math_bits_Div64_l0 k' x1234 x1240 n' y0 y1)
  | 0, _, _ => Le.none rfl
  | n + 1, 0, h => absurd h (Nat.not_succ_le_zero n)
  | n + 1, n' + 1, hn => by
    rw [g_math_bits_Div64_l0.eq_2, g_math_bits_Div64_l0.eq_2]
    repeat' first | (with_reducible exact Le.rfl) | (with_reducible exact g_math_bits_Div64_l0_eqs_mono hk) | (with_reducible exact g_math_bits_Div64_l0_mono hk (Nat.le_of_succ_le_succ hn)) | (with_reducible refine Le.bind ?_ ?_) | (with_reducible refine Le.cond ?_ ?_) | intro _ | split
theorem g_math_bits_Div64_l1_mono {k k' : Nat} (hk : k ≤ k') {x1234 : Int} {x1240 : Int} : ∀ {n n' : Nat} (hn : n ≤ n') {y0 : Int} {y1 : Int}, Le (g_math_bits_Div64_l1 k x1234 x1240 n y0 y1) (g_math_bits_Div64_l1 k' x1234 x1240 n' y0 y1)
  | 0, _, _ => Le.none rfl
  | n + 1, 0, h => absurd h (Nat.not_succ_le_zero n)
  | n + 1, n' + 1, hn => by
    rw [g_math_bits_Div64_l1.eq_2, g_math_bits_Div64_l1.eq_2]
    repeat' first | (with_reducible exact Le.rfl) | (with_reducible exact g_math_bits_Div64_l1_eqs_mono hk) | (with_reducible exact g_math_bits_Div64_l1_mono hk (Nat.le_of_succ_le_succ hn)) | (with_reducible refine Le.bind ?_ ?_) | (with_reducible refine Le.cond ?_ ?_) | intro _ | split
theorem g_math_bits_Div64_mono {k k' : Nat} (hk : k ≤ k') {x1023 : Int} {x1024 : Int} {x1025 : Int} : Le (g_math_bits_Div64 k x1023 x1024 x1025) (g_math_bits_Div64 k' x1023 x1024 x1025) := by
  unfold g_math_bits_Div64
  repeat' first | (with_reducible exact Le.rfl) | (with_reducible exact g_math_bits_LeadingZeros64_mono hk) | (with_reducible exact g_math_bits_Div64_l0_mono hk hk) | (with_reducible exact g_math_bits_Div64_l1_mono hk hk) | (with_reducible refine Le.bind ?_ ?_) | (with_reducible refine Le.cond ?_ ?_) | intro _ | split
theorem g_dec_wide_by_mono {k k' : Nat} (hk : k ≤ k') {x1019 : Int} {x1020 : Int} {x1021 : Int} : Le (g_dec_wide_by k x1019 x1020 x1021) (g_dec_wide_by k' x1019 x1020 x1021) := by
  unfold g_dec_wide_by
  repeat' first | (with_reducible exact Le.rfl) | (with_reducible exact g_math_bits_Div64_mono hk) | (with_reducible refine Le.bind ?_ ?_) | (with_reducible refine Le.cond ?_ ?_) | intro _ | split
theorem g_dec_wide_tens_l0_mono {k k' : Nat} (hk : k ≤ k') {x1454 : Int} : ∀ {n n' : Nat} (hn : n ≤ n') {y0 : Bool} {y1 : Int} {y2 : Int} {y3 : Int}, Le (g_dec_wide_tens_l0 k x1454 n y0 y1 y2 y3) (g_dec_wide_tens_l0 k' x1454 n' y0 y1 y2 y3)
  | 0, _, _ => Le.none rfl
  | n + 1, 0, h => absurd h (Nat.not_succ_le_zero n)
  | n + 1, n' + 1, hn => by
    rw [g_dec_wide_tens_l0.eq_2, g_dec_wide_tens_l0.eq_2]
    repeat' first | (with_reducible exact Le.rfl) | (with_reducible exact g_dec_wide_zero_mono hk) | (with_reducible exact g_dec_wide_times_mono hk) | (with_reducible exact g_dec_wide_tens_l0_eqs_mono hk) | (with_reducible exact g_dec_wide_tens_l0_mono hk (Nat.le_of_succ_le_succ hn)) | (with_reducible refine Le.bind ?_ ?_) | (with_reducible refine Le.cond ?_ ?_) | intro _ | split
theorem g_dec_wide_tens_mono {k k' : Nat} (hk : k ≤ k') {x1452 : Int} {x1453 : Int} {x1454 : Int} : Le (g_dec_wide_tens k x1452 x1453 x1454) (g_dec_wide_tens k' x1452 x1453 x1454) := by
  unfold g_dec_wide_tens
  repeat' first | (with_reducible exact Le.rfl) | (with_reducible exact g_dec_wide_tens_l0_mono hk hk) | (with_reducible refine Le.bind ?_ ?_) | (with_reducible refine Le.cond ?_ ?_) | intro _ | split
theorem g_dec_num_tell_l0_mono {k k' : Nat} (hk : k ≤ k') : ∀ {n n' : Nat} (hn : n ≤ n') {y0 : Int} {y1 : Int} {y2 : Int} {y3 : Int} {y4 : Int} {y5 : Int}, Le (g_dec_num_tell_l0 k n y0 y1 y2 y3 y4 y5) (g_dec_num_tell_l0 k' n' y0 y1 y2 y3 y4 y5)
  | 0, _, _ => Le.none rfl
  | n + 1, 0, h => absurd h (Nat.not_succ_le_zero n)
  | n + 1, n' + 1, hn => by
    rw [g_dec_num_tell_l0.eq_2, g_dec_num_tell_l0.eq_2]
    repeat' first | (with_reducible exact Le.rfl) | (with_reducible exact g_dec_wide_by_mono hk) | (with_reducible exact g_dec_num_tell_l0_eqs_mono hk) | (with_reducible exact g_dec_num_tell_l0_mono hk (Nat.le_of_succ_le_succ hn)) | (with_reducible refine Le.bind ?_ ?_) | (with_reducible refine Le.cond ?_ ?_) | intro _ | split
theorem g_dec_num_tell_mono {k k' : Nat} (hk : k ≤ k') {x1007 : Bool} {x1008 : Int} {x1009 : Int} {x1010 : Int} : Le (g_dec_num_tell k x1007 x1008 x1009 x1010) (g_dec_num_tell k' x1007 x1008 x1009 x1010) := by
  unfold g_dec_num_tell
  repeat' first | (with_reducible exact Le.rfl) | (with_reducible exact g_dec_wide_zero_mono hk) | (with_reducible exact g_dec_wide_by_mono hk) | (with_reducible exact g_dec_num_tell_l0_mono hk hk) | (with_reducible exact g_dec_wide_tens_mono hk) | (with_reducible refine Le.bind ?_ ?_) | (with_reducible refine Le.cond ?_ ?_) | intro _ | split
theorem g_dec_ranged_l0_mono {k k' : Nat} (hk : k ≤ k') {x4459 : (List S_api_Dec)} : ∀ {n n' : Nat} (hn : n ≤ n') {y0 : Int}, Le (g_dec_ranged_l0 k x4459 n y0) (g_dec_ranged_l0 k' x4459 n' y0)
  | 0, _, _ => Le.none rfl
  | n + 1, 0, h => absurd h (Nat.not_succ_le_zero n)
  | n + 1, n' + 1, hn => by
    rw [g_dec_ranged_l0.eq_2, g_dec_ranged_l0.eq_2]
    repeat' first | (with_reducible exact Le.rfl) | (with_reducible exact g_dec_ranged_l0_eqs_mono hk) | (with_reducible exact g_dec_ranged_l0_mono hk (Nat.le_of_succ_le_succ hn)) | (with_reducible refine Le.bind ?_ ?_) | (with_reducible refine Le.cond ?_ ?_) | intro _ | split
theorem g_dec_ranged_mono {k k' : Nat} (hk : k ≤ k') {x4459 : (List S_api_Dec)} : Le (g_dec_ranged k x4459) (g_dec_ranged k' x4459) := by
  unfold g_dec_ranged
  repeat' first | (with_reducible exact Le.rfl) | (with_reducible exact g_dec_ranged_l0_mono hk hk) | (with_reducible refine Le.bind ?_ ?_) | (with_reducible refine Le.cond ?_ ?_) | intro _ | split
theorem g_dec_size_mono {k k' : Nat} (hk : k ≤ k') {x4552 : Int} : Le (g_dec_size k x4552) (g_dec_size k' x4552) := by
  unfold g_dec_size
  repeat' first | (with_reducible exact Le.rfl) | (with_reducible refine Le.bind ?_ ?_) | (with_reducible refine Le.cond ?_ ?_) | intro _ | split
theorem g_dec_of_mono {k k' : Nat} (hk : k ≤ k') {x4549 : Int} {x4550 : Int} : Le (g_dec_of k x4549 x4550) (g_dec_of k' x4549 x4550) := by
  unfold g_dec_of
  repeat' first | (with_reducible exact Le.rfl) | (with_reducible exact g_dec_size_mono hk) | (with_reducible refine Le.bind ?_ ?_) | (with_reducible refine Le.cond ?_ ?_) | intro _ | split
theorem g_dec_clean__b_mono {k k' : Nat} (hk : k ≤ k') {x4456 : Int} {x4457 : Int} : Le (g_dec_clean__b k x4456 x4457) (g_dec_clean__b k' x4456 x4457) := by
  unfold g_dec_clean__b
  repeat' first | (with_reducible exact Le.rfl) | (with_reducible exact g_dec_ranged_mono hk) | (with_reducible exact g_dec_of_mono hk) | (with_reducible exact g_dec_num_tell_mono hk) | (with_reducible refine Le.bind ?_ ?_) | (with_reducible refine Le.cond ?_ ?_) | intro _ | split
theorem g_math_bits_Mul_mono {k k' : Nat} (hk : k ≤ k') {x4654 : Int} {x4655 : Int} : Le (g_math_bits_Mul k x4654 x4655) (g_math_bits_Mul k' x4654 x4655) := by
  unfold g_math_bits_Mul
  repeat' first | (with_reducible exact Le.rfl) | (with_reducible exact g_math_bits_Mul64_mono hk) | (with_reducible refine Le.bind ?_ ?_) | (with_reducible refine Le.cond ?_ ?_) | intro _ | split
theorem g_strings_HasPrefix_mono {k k' : Nat} (hk : k ≤ k') {x4696 : ByteArray} {x4697 : ByteArray} : Le (g_strings_HasPrefix k x4696 x4697) (g_strings_HasPrefix k' x4696 x4697) := by
  unfold g_strings_HasPrefix
  repeat' first | (with_reducible exact Le.rfl) | (with_reducible exact g_internal_stringslite_HasPrefix_mono hk) | (with_reducible refine Le.bind ?_ ?_) | (with_reducible refine Le.cond ?_ ?_) | intro _ | split
theorem g_strings_Repeat_mono {k k' : Nat} (hk : k ≤ k') {x4644 : ByteArray} {x4645 : Int} : Le (g_strings_Repeat k x4644 x4645) (g_strings_Repeat k' x4644 x4645) := by
  unfold g_strings_Repeat
  repeat' first | (with_reducible exact Le.rfl) | (with_reducible exact g_math_bits_Mul_mono hk) | (with_reducible exact g_strings_HasPrefix_mono hk) | (with_reducible refine Le.bind ?_ ?_) | (with_reducible refine Le.cond ?_ ?_) | intro _ | split
theorem g_dec_Print_l0_mono {k k' : Nat} (hk : k ≤ k') : ∀ {n n' : Nat} (hn : n ≤ n') {y0 : ByteArray} {y1 : Int}, Le (g_dec_Print_l0 k n y0 y1) (g_dec_Print_l0 k' n' y0 y1)
  | 0, _, _ => Le.none rfl
  | n + 1, 0, h => absurd h (Nat.not_succ_le_zero n)
  | n + 1, n' + 1, hn => by
    rw [g_dec_Print_l0.eq_2, g_dec_Print_l0.eq_2]
    repeat' first | (with_reducible exact Le.rfl) | (with_reducible exact g_dec_Print_l0_eqs_mono hk) | (with_reducible exact g_dec_Print_l0_mono hk (Nat.le_of_succ_le_succ hn)) | (with_reducible refine Le.bind ?_ ?_) | (with_reducible refine Le.cond ?_ ?_) | intro _ | split
theorem g_dec_Print_mono {k k' : Nat} (hk : k ≤ k') {x4453 : Int} {x4454 : Int} : Le (g_dec_Print k x4453 x4454) (g_dec_Print k' x4453 x4454) := by
  unfold g_dec_Print
  repeat' first | (with_reducible exact Le.rfl) | (with_reducible exact g_dec_clean__b_mono hk) | (with_reducible exact g_dec_size_mono hk) | (with_reducible exact g_dec_Print_l0_mono hk hk) | (with_reducible exact g_strings_Repeat_mono hk) | (with_reducible refine Le.bind ?_ ?_) | (with_reducible refine Le.cond ?_ ?_) | intro _ | split
theorem g_dec_Make_mono {k k' : Nat} (hk : k ≤ k') {x5556 : Int} {x5557 : Int} : Le (g_dec_Make k x5556 x5557) (g_dec_Make k' x5556 x5557) := by
  unfold g_dec_Make
  repeat' first | (with_reducible exact Le.rfl) | (with_reducible exact g_dec_size_mono hk) | (with_reducible exact g_dec_num_tell_mono hk) | (with_reducible refine Le.bind ?_ ?_) | (with_reducible refine Le.cond ?_ ?_) | intro _ | split
theorem g_dec_clean_mono {k k' : Nat} (hk : k ≤ k') {x5611 : Int} {x5612 : Int} {x5613 : Int} {x5614 : Int} : Le (g_dec_clean k x5611 x5612 x5613 x5614) (g_dec_clean k' x5611 x5612 x5613 x5614) := by
  unfold g_dec_clean
  repeat' first | (with_reducible exact Le.rfl) | (with_reducible exact g_dec_ranged_mono hk) | (with_reducible exact g_dec_of_mono hk) | (with_reducible exact g_dec_num_tell_mono hk) | (with_reducible refine Le.bind ?_ ?_) | (with_reducible refine Le.cond ?_ ?_) | intro _ | split
theorem g_dec_even_mono {k k' : Nat} (hk : k ≤ k') {x5731 : Int} {x5732 : Int} {x5733 : Int} {x5734 : Int} : Le (g_dec_even k x5731 x5732 x5733 x5734) (g_dec_even k' x5731 x5732 x5733 x5734) := by
  unfold g_dec_even
  repeat' first | (with_reducible exact Le.rfl) | (with_reducible exact g_dec_of_mono hk) | (with_reducible exact g_dec_wide_zero_mono hk) | (with_reducible exact g_dec_wide_tens_mono hk) | (with_reducible refine Le.bind ?_ ?_) | (with_reducible refine Le.cond ?_ ?_) | intro _ | split
theorem g_dec_wide_cmp_mono {k k' : Nat} (hk : k ≤ k') {x6090 : Int} {x6091 : Int} {x6092 : Int} {x6093 : Int} : Le (g_dec_wide_cmp k x6090 x6091 x6092 x6093) (g_dec_wide_cmp k' x6090 x6091 x6092 x6093) := by
  unfold g_dec_wide_cmp
  repeat' first | (with_reducible exact Le.rfl) | (with_reducible refine Le.bind ?_ ?_) | (with_reducible refine Le.cond ?_ ?_) | intro _ | split
theorem g_dec_wide_less_mono {k k' : Nat} (hk : k ≤ k') {x6135 : Int} {x6136 : Int} {x6137 : Int} {x6138 : Int} : Le (g_dec_wide_less k x6135 x6136 x6137 x6138) (g_dec_wide_less k' x6135 x6136 x6137 x6138) := by
  unfold g_dec_wide_less
  repeat' first | (with_reducible exact Le.rfl) | (with_reducible refine Le.bind ?_ ?_) | (with_reducible refine Le.cond ?_ ?_) | intro _ | split
theorem g_dec_Add_mono {k k' : Nat} (hk : k ≤ k') {x5606 : Int} {x5607 : Int} {x5608 : Int} {x5609 : Int} : Le (g_dec_Add k x5606 x5607 x5608 x5609) (g_dec_Add k' x5606 x5607 x5608 x5609) := by
  unfold g_dec_Add
  repeat' first | (with_reducible exact Le.rfl) | (with_reducible exact g_dec_clean_mono hk) | (with_reducible exact g_dec_even_mono hk) | (with_reducible exact g_dec_wide_plus_mono hk) | (with_reducible exact g_dec_wide_cmp_mono hk) | (with_reducible exact g_dec_wide_less_mono hk) | (with_reducible exact g_dec_num_tell_mono hk) | (with_reducible refine Le.bind ?_ ?_) | (with_reducible refine Le.cond ?_ ?_) | intro _ | split
theorem g_dec_factors_l0_mono {k k' : Nat} (hk : k ≤ k') {x6280 : Int} : ∀ {n n' : Nat} (hn : n ≤ n') {y0 : Int} {y1 : Int}, Le (g_dec_factors_l0 k x6280 n y0 y1) (g_dec_factors_l0 k' x6280 n' y0 y1)
  | 0, _, _ => Le.none rfl
  | n + 1, 0, h => absurd h (Nat.not_succ_le_zero n)
  | n + 1, n' + 1, hn => by
    rw [g_dec_factors_l0.eq_2, g_dec_factors_l0.eq_2]
    repeat' first | (with_reducible exact Le.rfl) | (with_reducible exact g_dec_factors_l0_eqs_mono hk) | (with_reducible exact g_dec_factors_l0_mono hk (Nat.le_of_succ_le_succ hn)) | (with_reducible refine Le.bind ?_ ?_) | (with_reducible refine Le.cond ?_ ?_) | intro _ | split
theorem g_dec_factors_mono {k k' : Nat} (hk : k ≤ k') {x6279 : Int} {x6280 : Int} : Le (g_dec_factors k x6279 x6280) (g_dec_factors k' x6279 x6280) := by
  unfold g_dec_factors
  repeat' first | (with_reducible exact Le.rfl) | (with_reducible exact g_dec_factors_l0_mono hk hk) | (with_reducible refine Le.bind ?_ ?_) | (with_reducible refine Le.cond ?_ ?_) | intro _ | split
theorem g_dec_Div_l0_mono {k k' : Nat} (hk : k ≤ k') : ∀ {n n' : Nat} (hn : n ≤ n') {y0 : Int} {y1 : Int}, Le (g_dec_Div_l0 k n y0 y1) (g_dec_Div_l0 k' n' y0 y1)
  | 0, _, _ => Le.none rfl
  | n + 1, 0, h => absurd h (Nat.not_succ_le_zero n)
  | n + 1, n' + 1, hn => by
    rw [g_dec_Div_l0.eq_2, g_dec_Div_l0.eq_2]
    repeat' first | (with_reducible exact Le.rfl) | (with_reducible exact g_dec_Div_l0_eqs_mono hk) | (with_reducible exact g_dec_Div_l0_mono hk (Nat.le_of_succ_le_succ hn)) | (with_reducible refine Le.bind ?_ ?_) | (with_reducible refine Le.cond ?_ ?_) | intro _ | split
theorem g_dec_Div_l1_mono {k k' : Nat} (hk : k ≤ k') {x6468 : Int} {x6475 : Int} : ∀ {n n' : Nat} (hn : n ≤ n') {y0 : Bool} {y1 : Int} {y2 : Int} {y3 : Int}, Le (g_dec_Div_l1 k x6468 x6475 n y0 y1 y2 y3) (g_dec_Div_l1 k' x6468 x6475 n' y0 y1 y2 y3)
  | 0, _, _ => Le.none rfl
  | n + 1, 0, h => absurd h (Nat.not_succ_le_zero n)
  | n + 1, n' + 1, hn => by
    rw [g_dec_Div_l1.eq_2, g_dec_Div_l1.eq_2]
    repeat' first | (with_reducible exact Le.rfl) | (with_reducible exact g_dec_wide_times_mono hk) | (with_reducible exact g_dec_Div_l1_eqs_mono hk) | (with_reducible exact g_dec_Div_l1_mono hk (Nat.le_of_succ_le_succ hn)) | (with_reducible refine Le.bind ?_ ?_) | (with_reducible refine Le.cond ?_ ?_) | intro _ | split
theorem g_dec_Div_l2_mono {k k' : Nat} (hk : k ≤ k') {x6471 : Int} {x6475 : Int} : ∀ {n n' : Nat} (hn : n ≤ n') {y0 : Bool} {y1 : Int} {y2 : Int} {y3 : Int}, Le (g_dec_Div_l2 k x6471 x6475 n y0 y1 y2 y3) (g_dec_Div_l2 k' x6471 x6475 n' y0 y1 y2 y3)
  | 0, _, _ => Le.none rfl
  | n + 1, 0, h => absurd h (Nat.not_succ_le_zero n)
  | n + 1, n' + 1, hn => by
    rw [g_dec_Div_l2.eq_2, g_dec_Div_l2.eq_2]
    repeat' first | (with_reducible exact Le.rfl) | (with_reducible exact g_dec_wide_times_mono hk) | (with_reducible exact g_dec_Div_l2_eqs_mono hk) | (with_reducible exact g_dec_Div_l2_mono hk (Nat.le_of_succ_le_succ hn)) | (with_reducible refine Le.bind ?_ ?_) | (with_reducible refine Le.cond ?_ ?_) | intro _ | split
theorem g_dec_Div_mono {k k' : Nat} (hk : k ≤ k') {x6235 : Int} {x6236 : Int} {x6237 : Int} {x6238 : Int} : Le (g_dec_Div k x6235 x6236 x6237 x6238) (g_dec_Div k' x6235 x6236 x6237 x6238) := by
  unfold g_dec_Div
  repeat' first | (with_reducible exact Le.rfl) | (with_reducible exact g_dec_clean_mono hk) | (with_reducible exact g_dec_size_mono hk) | (with_reducible exact g_dec_Div_l0_mono hk hk) | (with_reducible exact g_dec_factors_mono hk) | (with_reducible exact g_dec_Div_l1_mono hk hk) | (with_reducible exact g_dec_Div_l2_mono hk hk) | (with_reducible exact g_dec_num_tell_mono hk) | (with_reducible refine Le.bind ?_ ?_) | (with_reducible refine Le.cond ?_ ?_) | intro _ | split
theorem g_dec_left_l0_mono {k k' : Nat} (hk : k ≤ k') {x6643 : Int} {x6646 : Int} {x6647 : Int} : ∀ {n n' : Nat} (hn : n ≤ n') {y0 : Int} {y1 : Int}, Le (g_dec_left_l0 k x6643 x6646 x6647 n y0 y1) (g_dec_left_l0 k' x6643 x6646 x6647 n' y0 y1)
  | 0, _, _ => Le.none rfl
  | n + 1, 0, h => absurd h (Nat.not_succ_le_zero n)
  | n + 1, n' + 1, hn => by
    rw [g_dec_left_l0.eq_2, g_dec_left_l0.eq_2]
    repeat' first | (with_reducible exact Le.rfl) | (with_reducible exact g_math_bits_Mul64_mono hk) | (with_reducible exact g_math_bits_Div64_mono hk) | (with_reducible exact g_dec_left_l0_eqs_mono hk) | (with_reducible exact g_dec_left_l0_mono hk (Nat.le_of_succ_le_succ hn)) | (with_reducible refine Le.bind ?_ ?_) | (with_reducible refine Le.cond ?_ ?_) | intro _ | split
theorem g_dec_left_mono {k k' : Nat} (hk : k ≤ k') {x6640 : Bool} {x6641 : Int} {x6642 : Int} {x6643 : Int} {x6644 : Bool} {x6645 : Int} {x6646 : Int} {x6647 : Int} : Le (g_dec_left k x6640 x6641 x6642 x6643 x6644 x6645 x6646 x6647) (g_dec_left k' x6640 x6641 x6642 x6643 x6644 x6645 x6646 x6647) := by
  unfold g_dec_left
  repeat' first | (with_reducible exact Le.rfl) | (with_reducible exact g_dec_left_l0_mono hk hk) | (with_reducible exact g_dec_wide_tens_mono hk) | (with_reducible exact g_dec_wide_cmp_mono hk) | (with_reducible refine Le.bind ?_ ?_) | (with_reducible refine Le.cond ?_ ?_) | intro _ | split
theorem g_dec_Mod_mono {k k' : Nat} (hk : k ≤ k') {x6615 : Int} {x6616 : Int} {x6617 : Int} {x6618 : Int} : Le (g_dec_Mod k x6615 x6616 x6617 x6618) (g_dec_Mod k' x6615 x6616 x6617 x6618) := by
  unfold g_dec_Mod
  repeat' first | (with_reducible exact Le.rfl) | (with_reducible exact g_dec_clean_mono hk) | (with_reducible exact g_dec_of_mono hk) | (with_reducible exact g_dec_left_mono hk) | (with_reducible exact g_dec_num_tell_mono hk) | (with_reducible exact g_dec_Add_mono hk) | (with_reducible refine Le.bind ?_ ?_) | (with_reducible refine Le.cond ?_ ?_) | intro _ | split
theorem g_quirelaw09_alive_mono {k k' : Nat} (hk : k ≤ k') : Le (g_quirelaw09_alive k) (g_quirelaw09_alive k') := by
  unfold g_quirelaw09_alive
  repeat' first | (with_reducible exact Le.rfl) | (with_reducible exact g_dec_Make_mono hk) | (with_reducible exact g_dec_Add_mono hk) | (with_reducible exact g_dec_Div_mono hk) | (with_reducible exact g_dec_Mod_mono hk) | (with_reducible exact g_dec_Print_mono hk) | (with_reducible refine Le.bind ?_ ?_) | (with_reducible refine Le.cond ?_ ?_) | intro _ | split
end Go.Proofs.YtdbeblgfccjbgaaDoor.W
set_option linter.unusedVariables false
set_option linter.unusedSimpArgs false
namespace Go.Dz
/-- A number, 10 to the 500000 times it. -/
def val (m e : Int) : Int := m * 10 ^ (e + 500000).toNat
theorem p10 (n : Nat) : (0 : Int) < 10 ^ n := Int.pow_pos (by decide)
theorem val_shift {m e : Int} {j : Nat} (he : -500000 ≤ e) : val (m * 10 ^ j) e = val m (e + j) := by
  unfold val
  rw [Int.mul_assoc, ← Int.pow_add, show j + (e + 500000).toNat = (e + j + 500000).toNat by omega]
theorem val_inj {m m' e : Int} (h : val m e = val m' e) : m = m' := by
  unfold val at h
  exact Int.eq_of_mul_eq_mul_right (Int.ne_of_gt (p10 _)) h
theorem val_zero {e : Int} : val 0 e = 0 := by simp [val]
theorem val_eq_zero {m e : Int} (h : val m e = 0) : m = 0 := by
  unfold val at h
  rcases Int.mul_eq_zero.1 h with h | h
  · exact h
  · exact absurd h (Int.ne_of_gt (p10 _))
/-- Two numbers that are equal: one has noughts more. -/
theorem val_rep {m m' e e' : Int} (he : -500000 ≤ e) (hle : e ≤ e') (h : val m e = val m' e') : m = m' * 10 ^ (e' - e).toNat := by
  have h1 := val_shift (m := m') (e := e) (j := (e' - e).toNat) he
  rw [show e + ((e' - e).toNat : Int) = e' by omega, ← h] at h1
  exact (val_inj h1).symm
/-- What a Dec may be. -/
def Canon (c x : Int) : Prop := (c = 0 ∧ x = 0) ∨ (c ≠ 0 ∧ -18 ≤ x ∧ x ≤ 18 ∧ -9223372036854775808 ≤ c ∧ c ≤ 9223372036854775807 ∧ (x = 18 ∨ ¬ (10 : Int) ∣ c))
theorem Canon.rng {c x : Int} (h : Canon c x) : -18 ≤ x ∧ x ≤ 18 ∧ -9223372036854775808 ≤ c ∧ c ≤ 9223372036854775807 := by
  rcases h with ⟨rfl, rfl⟩ | ⟨_, h1, h2, h3, h4, _⟩ <;> omega
theorem dvd_pow10 {m : Int} {n : Nat} (h : n ≠ 0) : (10 : Int) ∣ m * 10 ^ n := by
  obtain ⟨k, rfl⟩ : ∃ k, n = k + 1 := ⟨n - 1, by omega⟩
  exact ⟨m * 10 ^ k, by rw [Int.pow_succ]; rw [← Int.mul_assoc, Int.mul_comm]⟩
theorem Canon.uniq' {c x c' x' : Int} (h : Canon c x) (h' : Canon c' x') (hle : x ≤ x') (e : val c x = val c' x') : c = c' ∧ x = x' := by
  have r := h.rng
  have e1 := val_rep (by omega) hle e
  by_cases hc : c = 0
  · subst hc
    rw [val_zero] at e
    have hc' := val_eq_zero e.symm
    subst hc'
    rcases h with ⟨_, hx⟩ | ⟨h0, _⟩
    · rcases h' with ⟨_, hx'⟩ | ⟨h0, _⟩
      · exact ⟨rfl, by omega⟩
      · exact absurd rfl h0
    · exact absurd rfl h0
  · have hc' : c' ≠ 0 := by rintro rfl; simp at e1; exact hc e1
    by_cases hx : x = x'
    · subst hx
      exact ⟨val_inj e, rfl⟩
    · have h10 : (10 : Int) ∣ c := by rw [e1]; exact dvd_pow10 (by omega)
      have r' := h'.rng
      rcases h with ⟨h0, _⟩ | ⟨_, _, _, _, _, h5 | h5⟩
      · exact absurd h0 hc
      · omega
      · exact absurd h10 h5
theorem Canon.uniq {c x c' x' : Int} (h : Canon c x) (h' : Canon c' x') (e : val c x = val c' x') : c = c' ∧ x = x' := by
  by_cases hle : x ≤ x'
  · exact h.uniq' h' hle e
  · obtain ⟨h1, h2⟩ := h'.uniq' h (by omega) e.symm
    exact ⟨h1.symm, h2.symm⟩
/-- The right Dec of a number, or that there is none. -/
def Tells (p : Int → Prop) (r : (Int × Int) × Int) : Prop :=
  (r.2 = 0 ∧ Canon r.1.1 r.1.2 ∧ p (val r.1.1 r.1.2)) ∨ (r = ((0, 0), 30) ∧ ∀ c x, Canon c x → ¬ p (val c x))
theorem Tells.uniq {p : Int → Prop} {r r' : (Int × Int) × Int} (hp : ∀ a b, p a → p b → a = b) (h : Tells p r) (h' : Tells p r') : r = r' := by
  obtain ⟨⟨c, x⟩, e⟩ := r
  obtain ⟨⟨c', x'⟩, e'⟩ := r'
  rcases h with ⟨h1, h2, h3⟩ | ⟨h1, h2⟩
  · rcases h' with ⟨k1, k2, k3⟩ | ⟨k1, k2⟩
    · have := h2.uniq k2 (hp _ _ h3 k3)
      simp only at h1 k1 this
      rw [h1, k1, this.1, this.2]
    · exact absurd h3 (k2 _ _ h2)
  · rcases h' with ⟨k1, k2, k3⟩ | ⟨k1, k2⟩
    · exact absurd k3 (h2 _ _ k2)
    · rw [h1, k1]
theorem Tells.congr {p q : Int → Prop} {r : (Int × Int) × Int} (h : Tells p r) (hq : ∀ a, p a ↔ q a) : Tells q r := by
  rcases h with ⟨h1, h2, h3⟩ | ⟨h1, h2⟩
  · exact .inl ⟨h1, h2, (hq _).1 h3⟩
  · exact .inr ⟨h1, fun c x hc hn => h2 c x hc ((hq _).2 hn)⟩
/-- The Decs of a number whose last digit is not nought. -/
theorem canon_iff {m e c x : Int} (hm : m ≠ 0) (hd : ¬ (10 : Int) ∣ m) (he : -500000 ≤ e) : (Canon c x ∧ val c x = val m e) ↔ (x = (if e > 18 then 18 else e) ∧ c = m * 10 ^ (e - x).toNat ∧ -18 ≤ x ∧ -9223372036854775808 ≤ c ∧ c ≤ 9223372036854775807) := by
  constructor
  · rintro ⟨h, e1⟩
    have r := h.rng
    have hc : c ≠ 0 := by
      rintro rfl
      rw [val_zero] at e1
      exact hm (val_eq_zero e1.symm)
    by_cases hle : x ≤ e
    · have e2 := val_rep (by omega) hle e1
      refine ⟨?_, e2, by omega, by omega, by omega⟩
      by_cases hxe : x = e
      · rw [if_neg (by omega), hxe]
      · have h10 : (10 : Int) ∣ c := by rw [e2]; exact dvd_pow10 (by omega)
        rcases h with ⟨h0, _⟩ | ⟨_, _, _, _, _, h5 | h5⟩
        · exact absurd h0 hc
        · rw [if_pos (by omega), h5]
        · exact absurd h10 h5
    · have e2 := val_rep he (by omega) e1.symm
      exact absurd (by rw [e2]; exact dvd_pow10 (by omega)) hd
  · rintro ⟨h1, h2, h3, h4, h5⟩
    have hx : x ≤ e := by split at h1 <;> omega
    have e1 : val c x = val m e := by
      rw [h2, val_shift (by omega), show x + ((e - x).toNat : Int) = e by omega]
    refine ⟨?_, e1⟩
    have hc : c ≠ 0 := by
      rintro rfl
      rw [val_zero] at e1
      exact hm (val_eq_zero e1.symm)
    refine .inr ⟨hc, h3, by split at h1 <;> omega, h4, h5, ?_⟩
    split at h1
    · exact .inl h1
    · refine .inr ?_
      subst h1
      rw [h2]
      simpa using hd
theorem tells_some {m e c x : Int} (hm : m ≠ 0) (hd : ¬ (10 : Int) ∣ m) (he : -500000 ≤ e) (h : x = (if e > 18 then 18 else e) ∧ c = m * 10 ^ (e - x).toNat ∧ -18 ≤ x ∧ -9223372036854775808 ≤ c ∧ c ≤ 9223372036854775807) : Tells (· = val m e) ((c, x), 0) :=
  .inl ⟨rfl, (canon_iff hm hd he).2 h⟩
theorem tells_none {m e : Int} (hm : m ≠ 0) (hd : ¬ (10 : Int) ∣ m) (he : -500000 ≤ e) (h : e < -18 ∨ ¬ (-9223372036854775808 ≤ m * 10 ^ (e - 18).toNat ∧ m * 10 ^ (e - 18).toNat ≤ 9223372036854775807)) : Tells (· = val m e) ((0, 0), 30) := by
  refine .inr ⟨rfl, fun c x hc e1 => ?_⟩
  obtain ⟨h1, h2, h3, h4, h5⟩ := (canon_iff hm hd he).1 ⟨hc, e1⟩
  split at h1
  · subst h1
    rw [h2] at h4 h5
    omega
  · subst h1
    have : (x - 18).toNat = 0 := by omega
    rw [this] at h
    simp at h h2
    omega
theorem tells_zero {e : Int} : Tells (· = val 0 e) ((0, 0), 0) := .inl ⟨rfl, .inl ⟨rfl, rfl⟩, by simp [val_zero]⟩
/-- A whole number of sixty-four bits. -/
def I64 (c : Int) : Prop := -9223372036854775808 ≤ c ∧ c ≤ 9223372036854775807
/-- The exponents that may be. -/
def Rng (e : Int) : Prop := -18 ≤ e ∧ e ≤ 18
instance (e : Int) : Decidable (Rng e) := by unfold Rng; infer_instance
theorem Canon.i64 {c x : Int} (h : Canon c x) : I64 c := ⟨h.rng.2.2.1, h.rng.2.2.2⟩
theorem Canon.rg {c x : Int} (h : Canon c x) : Rng x := ⟨h.rng.1, h.rng.2.1⟩
end Go.Dz
namespace Go.Dz
theorem est_le {B y u d q r : Nat} (hB : 0 < B) (hy : 0 < y) (hq : q * (y / B) + r = u) (h : q * (y % B) ≤ B * r + d) : q ≤ (u * B + d) / y := by
  rw [Nat.le_div_iff_mul_le hy]
  have e : y = y / B * B + y % B := (Nat.div_add_mod' y B).symm
  have : q * y = q * (y / B) * B + q * (y % B) := by
    conv => lhs; rw [e]
    rw [Nat.mul_add, Nat.mul_assoc]
  rw [this, ← hq, Nat.add_mul, Nat.mul_comm r B]
  omega
theorem est_gt {B y u d q r : Nat} (hB : 0 < B) (hu : u < y) (hd : d < B) (hq : q * (y / B) + r = u) (h : B ≤ q ∨ B * r + d < q * (y % B)) : (u * B + d) / y < q := by
  rw [Nat.div_lt_iff_lt_mul (by omega)]
  rcases h with h | h
  · have h1 : (u + 1) * B ≤ y * B := Nat.mul_le_mul_right B hu
    have h2 : B * y ≤ q * y := Nat.mul_le_mul_right y h
    rw [Nat.add_mul, Nat.mul_comm y B] at h1
    omega
  · have e : y = y / B * B + y % B := (Nat.div_add_mod' y B).symm
    have : q * y = q * (y / B) * B + q * (y % B) := by
      conv => lhs; rw [e]
      rw [Nat.mul_add, Nat.mul_assoc]
    rw [this, ← hq, Nat.add_mul, Nat.mul_comm r B]
    omega
theorem est_stop {B y u d q r : Nat} (hB : 0 < B) (hy : 0 < y) (hq : q * (y / B) + r = u) (hqB : q ≤ B) (hr : B ≤ r) : q ≤ (u * B + d) / y := by
  refine est_le hB hy hq ?_
  have h1 : q * (y % B) ≤ B * (y % B) := Nat.mul_le_mul_right _ hqB
  have h2 : B * (y % B) ≤ B * r := Nat.mul_le_mul_left _ (by have := Nat.mod_lt y hB; omega)
  omega
theorem est_first {B y u : Nat} (hu : u < y) (hB : 2 ≤ B) (hn : B ≤ 2 * (y / B)) : u / (y / B) ≤ B + 1 := by
  have hp : 0 < y / B := by omega
  have : u / (y / B) < B + 2 := by
    rw [Nat.div_lt_iff_lt_mul hp]
    have e : y = y / B * B + y % B := (Nat.div_add_mod' y B).symm
    have hm := Nat.mod_lt y (show 0 < B by omega)
    have : (B + 2) * (y / B) = y / B * B + 2 * (y / B) := by rw [Nat.add_mul, Nat.mul_comm B]
    omega
  omega
theorem est_ge {B y u d : Nat} (hB : 0 < B) (hy : B ≤ y) (hd : d < B) : (u * B + d) / y ≤ u / (y / B) := by
  have hp : 0 < y / B := Nat.div_pos hy hB
  rw [Nat.le_div_iff_mul_le hp]
  have h1 : (u * B + d) / y * y ≤ u * B + d := Nat.div_mul_le_self _ _
  have h2 : (u * B + d) / y * (y / B * B) ≤ (u * B + d) / y * y := Nat.mul_le_mul_left _ (Nat.div_mul_le_self _ _)
  rw [← Nat.mul_assoc] at h2
  generalize (u * B + d) / y * (y / B) = z at *
  have : z * B < (u + 1) * B := by rw [Nat.add_mul]; omega
  exact Nat.le_of_lt_succ (Nat.lt_of_mul_lt_mul_right this)
/-- Two digits, one behind the other. -/
theorem two_digits {B y u d1 d0 : Nat} (hy : 0 < y) : ((u * B + d1) * B + d0) / y = (u * B + d1) / y * B + ((u * B + d1) % y * B + d0) / y ∧ ((u * B + d1) * B + d0) % y = ((u * B + d1) % y * B + d0) % y := by
  have e : (u * B + d1) * B + d0 = y * ((u * B + d1) / y * B) + ((u * B + d1) % y * B + d0) := by
    conv => lhs; rw [← Nat.div_add_mod (u * B + d1) y]
    rw [Nat.add_mul, Nat.mul_assoc]
    omega
  rw [e, Nat.mul_add_div hy, Nat.mul_add_mod]
  exact ⟨rfl, rfl⟩
end Go.Dz
set_option linter.unusedVariables false
set_option linter.unusedSimpArgs false
namespace Go.Dz
def digs (n : Nat) : List Int := if h : n = 0 then [] else ((n % 10 : Nat) : Int) :: digs (n / 10)
termination_by n
decreasing_by omega
theorem digs_zero : digs 0 = [] := by rw [digs]; rfl
theorem digs_pos {n : Nat} (h : n ≠ 0) : digs n = ((n % 10 : Nat) : Int) :: digs (n / 10) := by rw [digs]; simp [h]
def nval : List Int → Nat
  | [] => 0
  | d :: l => d.toNat + 10 * nval l
def Dig (l : List Int) : Prop := ∀ d ∈ l, 0 ≤ d ∧ d ≤ 9
theorem Dig.nil : Dig [] := by intro d h; simp at h
theorem Dig.cons {d : Int} {l : List Int} (h0 : 0 ≤ d) (h9 : d ≤ 9) (h : Dig l) : Dig (d :: l) := by
  intro x hx
  rcases List.mem_cons.1 hx with rfl | hx
  · exact ⟨h0, h9⟩
  · exact h x hx
theorem Dig.head {d : Int} {l : List Int} (h : Dig (d :: l)) : 0 ≤ d ∧ d ≤ 9 := h d (by simp)
theorem Dig.tail {d : Int} {l : List Int} (h : Dig (d :: l)) : Dig l := fun x hx => h x (List.mem_cons_of_mem _ hx)
theorem Dig.app {l r : List Int} (h : Dig l) (k : Dig r) : Dig (l ++ r) := by
  intro x hx
  rcases List.mem_append.1 hx with hx | hx
  · exact h x hx
  · exact k x hx
theorem digs_dig : ∀ n, Dig (digs n) := by
  intro n
  induction n using Nat.strongRecOn with
  | _ n ih =>
    by_cases h : n = 0
    · subst h; rw [digs_zero]; exact Dig.nil
    · rw [digs_pos h]; exact Dig.cons (by omega) (by omega) (ih _ (by omega))
theorem nval_digs : ∀ n, nval (digs n) = n := by
  intro n
  induction n using Nat.strongRecOn with
  | _ n ih =>
    by_cases h : n = 0
    · subst h; rw [digs_zero]; rfl
    · rw [digs_pos h, nval, ih _ (by omega)]; omega
theorem digs_nil {n : Nat} : digs n = [] ↔ n = 0 := by
  constructor
  · intro h; rw [← nval_digs n, h]; rfl
  · rintro rfl; exact digs_zero
theorem digs_len0 {n : Nat} : (digs n).length = 0 ↔ n = 0 := by rw [List.length_eq_zero_iff, digs_nil]
theorem digs_cons {d : Int} {n : Nat} (h0 : 0 ≤ d) (h9 : d ≤ 9) (h : d.toNat + 10 * n ≠ 0) : digs (d.toNat + 10 * n) = d :: digs n := by
  rw [digs_pos h, show (d.toNat + 10 * n) / 10 = n by omega, show (((d.toNat + 10 * n) % 10 : Nat) : Int) = d by omega]
/-- Without noughts at the end. -/
theorem digs_nval : ∀ {l : List Int}, Dig l → ∀ {n : Nat}, n ≤ l.length → (∀ i, n ≤ i → i < l.length → l.getD i 0 = 0) → (n ≠ 0 → l.getD (n - 1) 0 ≠ 0) → digs (nval l) = l.take n
  | [], _, n, hn, _, _ => by simp [nval, digs_zero]
  | d :: l, hd, n, hn, h0, h1 => by
    cases n with
    | zero =>
      have hz : d = 0 := by simpa using h0 0 (by omega) (by simp)
      have := digs_nval hd.tail (n := 0) (Nat.zero_le _) (fun i hi hl => by simpa using h0 (i + 1) (by omega) (by simpa using hl)) (by omega)
      have hv : nval l = 0 := by
        have := congrArg nval this
        rw [nval_digs] at this
        simpa [nval] using this
      rw [nval, hv, hz]; simp [digs_zero]
    | succ n =>
      have ih := digs_nval hd.tail (n := n) (by simpa using hn) (fun i hi hl => by simpa using h0 (i + 1) (by omega) (by simpa using hl)) (fun hn0 => by
        have := h1 (by omega)
        obtain ⟨m, rfl⟩ : ∃ m, n = m + 1 := ⟨n - 1, by omega⟩
        simpa using this)
      have hne : d.toNat + 10 * nval l ≠ 0 := by
        intro he
        have hv : nval l = 0 := by omega
        rw [hv, digs_zero] at ih
        cases n with
        | zero =>
          have := h1 (by omega)
          simp at this
          have := hd.head
          omega
        | succ n =>
          have := congrArg List.length ih
          simp at this hn
          omega
      rw [nval, digs_cons hd.head.1 hd.head.2 hne, ih, List.take_succ_cons]
theorem nval_app : ∀ (l r : List Int), nval (l ++ r) = nval l + 10 ^ l.length * nval r
  | [], r => by simp [nval]
  | d :: l, r => by
    rw [List.cons_append, nval, nval, nval_app l r, List.length_cons, Nat.pow_succ, Nat.mul_add, Nat.add_assoc, ← Nat.mul_assoc, Nat.mul_comm 10 (10 ^ l.length)]
theorem nval_lt : ∀ {l : List Int}, Dig l → nval l < 10 ^ l.length
  | [], _ => by simp [nval]
  | d :: l, h => by
    have := nval_lt h.tail
    have := h.head
    rw [nval, List.length_cons, Nat.pow_succ]
    omega
theorem digs_lt {n : Nat} : n < 10 ^ (digs n).length := by
  have := nval_lt (digs_dig n)
  rwa [nval_digs] at this
theorem digs_ge {n : Nat} (h : n ≠ 0) : 10 ^ ((digs n).length - 1) ≤ n := by
  induction n using Nat.strongRecOn with
  | _ n ih =>
    rw [digs_pos h, List.length_cons, Nat.add_sub_cancel]
    by_cases h1 : n / 10 = 0
    · rw [h1, digs_zero]; simp; omega
    · have := ih _ (by omega) h1
      have h2 : (digs (n / 10)).length ≠ 0 := by rw [Ne, digs_len0]; exact h1
      obtain ⟨m, hm⟩ : ∃ m, (digs (n / 10)).length = m + 1 := ⟨_, (Nat.succ_pred h2).symm⟩
      rw [hm] at this ⊢
      rw [Nat.add_sub_cancel] at this
      rw [Nat.pow_succ]
      omega
theorem digs_len_le {n m : Nat} (h : n < 10 ^ m) : (digs n).length ≤ m := by
  by_cases h0 : n = 0
  · subst h0; rw [digs_zero]; simp
  · have := digs_ge h0
    have h1 : (digs n).length - 1 < m := (Nat.pow_lt_pow_iff_right (by decide : 1 < 10)).1 (Nat.lt_of_le_of_lt this h)
    omega
theorem digs_at {n : Nat} : ∀ {i : Nat}, (digs n).getD i 0 = ((n / 10 ^ i % 10 : Nat) : Int) := by
  intro i
  induction i generalizing n with
  | zero =>
    by_cases h : n = 0
    · subst h; rw [digs_zero]; simp
    · rw [digs_pos h]; simp
  | succ i ih =>
    by_cases h : n = 0
    · subst h; rw [digs_zero]; simp
    · rw [digs_pos h]
      have := @ih (n / 10)
      rw [Nat.div_div_eq_div_mul, Nat.mul_comm] at this
      simpa [Nat.pow_succ] using this
end Go.Dz
namespace Go.Proofs.YtdbeblgfccjbgaaDoor.W
open Go Go.Q Go.Proofs Go.Dz
set_option linter.unusedVariables false
set_option linter.unusedSimpArgs false
theorem wU (n : Nat) : IntKind.wrap .u64 (n : Int) = ((n % 18446744073709551616 : Nat) : Int) := by
  simp [IntKind.wrap, IntKind.bits, IntKind.signed]
theorem wUi (n : Int) : IntKind.wrap .u64 n = n % 18446744073709551616 := by
  simp [IntKind.wrap, IntKind.bits, IntKind.signed]
theorem wUl {n : Nat} (h : n < 18446744073709551616) : IntKind.wrap .u64 (n : Int) = (n : Int) := by rw [wU, Nat.mod_eq_of_lt h]
theorem bvU {n : Nat} (h : n < 18446744073709551616) : (n : Int) = ((BitVec.ofNat 64 n).toNat : Int) := by
  rw [BitVec.toNat_ofNat, Nat.mod_eq_of_lt (by simpa using h)]
theorem and32 {n : Nat} (h : n < 18446744073709551616) : bits .and .u64 (n : Int) 4294967295 = ((n % 4294967296 : Nat) : Int) := by
  rw [bvU h, show (4294967295 : Int) = ((4294967295#64).toNat : Int) from rfl, u64_and, BitVec.toNat_and, BitVec.toNat_ofNat, Nat.mod_eq_of_lt (by simpa using h)]
  rw [show (4294967295#64).toNat = 2 ^ 32 - 1 from rfl, Nat.and_two_pow_sub_one_eq_mod]
theorem shrN (n : Nat) {s : Nat} (hs : s ≤ 64) : shrI .u64 (n : Int) (s : Int) = ((n / 2 ^ s : Nat) : Int) := by
  unfold shrI
  rw [Int.fdiv_eq_ediv_of_nonneg _ (Int.pow_nonneg (by decide))]
  simp [IntKind.bits, Nat.min_eq_left hs]
theorem shr32 (n : Nat) : shrI .u64 (n : Int) 32 = ((n / 4294967296 : Nat) : Int) := shrN n (s := 32) (by decide)
theorem shlN (n : Nat) {s : Nat} (hs : s ≤ 64) : shlI .u64 (n : Int) (s : Int) = ((n * 2 ^ s % 18446744073709551616 : Nat) : Int) := by
  unfold shlI
  rw [← wU]
  simp [IntKind.bits, Nat.min_eq_left hs]
theorem orN {a b s : Nat} (ha : a * 2 ^ s < 18446744073709551616) (hb : b < 2 ^ s) (hb' : b < 18446744073709551616) : bits .or .u64 ((a * 2 ^ s : Nat) : Int) (b : Int) = ((a * 2 ^ s + b : Nat) : Int) := by
  rw [bvU ha, bvU hb', u64_or, BitVec.toNat_or, BitVec.toNat_ofNat, BitVec.toNat_ofNat, Nat.mod_eq_of_lt (by simpa using ha), Nat.mod_eq_of_lt (by simpa using hb'), Nat.mul_comm, ← Nat.two_pow_add_eq_or_of_lt hb]
theorem or0 {a b : Nat} (ha : a < 18446744073709551616) (hb : b < 18446744073709551616) : bits .or .u64 (a : Int) (b : Int) = 0 ↔ a = 0 ∧ b = 0 := by
  rw [bvU ha, bvU hb, u64_or, BitVec.toNat_or, BitVec.toNat_ofNat, BitVec.toNat_ofNat, Nat.mod_eq_of_lt (by simpa using ha), Nat.mod_eq_of_lt (by simpa using hb)]
  constructor
  · intro h
    have h' : a ||| b = 0 := by exact_mod_cast h
    exact ⟨(Nat.or_eq_zero_iff.1 h').1, (Nat.or_eq_zero_iff.1 h').2⟩
  · rintro ⟨rfl, rfl⟩; rfl
/-- The upper half of a product. -/
theorem mul64 (k : Nat) {x y : Nat} (hx : x < 18446744073709551616) (hy : y < 18446744073709551616) : g_math_bits_Mul64 k (x : Int) (y : Int) = some ((x * y / 18446744073709551616 : Nat) : Int) := by
  unfold g_math_bits_Mul64
  have b0 := Nat.mod_lt x (show 0 < 4294967296 by decide)
  have c0 := Nat.mod_lt y (show 0 < 4294967296 by decide)
  have b1 : x / 4294967296 < 4294967296 := by omega
  have c1 : y / 4294967296 < 4294967296 := by omega
  have ex : x = x / 4294967296 * 4294967296 + x % 4294967296 := by omega
  have ey : y = y / 4294967296 * 4294967296 + y % 4294967296 := by omega
  simp only [and32 hx, and32 hy, shr32]
  generalize x % 4294967296 = x0 at *
  generalize y % 4294967296 = y0 at *
  generalize x / 4294967296 = x1 at *
  generalize y / 4294967296 = y1 at *
  have hp : x0 * y0 ≤ 4294967295 * 4294967295 := Nat.mul_le_mul (by omega) (by omega)
  have hq : x1 * y0 ≤ 4294967295 * 4294967295 := Nat.mul_le_mul (by omega) (by omega)
  have hr : x0 * y1 ≤ 4294967295 * 4294967295 := Nat.mul_le_mul (by omega) (by omega)
  have hs : x1 * y1 ≤ 4294967295 * 4294967295 := Nat.mul_le_mul (by omega) (by omega)
  have e : x * y = x1 * y1 * 18446744073709551616 + (x1 * y0 + x0 * y1) * 4294967296 + x0 * y0 := by
    rw [ex, ey]
    simp only [Nat.add_mul, Nat.mul_add]
    have : x1 * 4294967296 * (y1 * 4294967296) = x1 * y1 * 18446744073709551616 := by
      rw [Nat.mul_mul_mul_comm]
    have h2 : x1 * 4294967296 * y0 = x1 * y0 * 4294967296 := by rw [Nat.mul_right_comm]
    have h3 : x0 * (y1 * 4294967296) = x0 * y1 * 4294967296 := by rw [Nat.mul_assoc]
    omega
  simp only [← Int.natCast_mul]
  generalize x0 * y0 = p at *
  generalize x1 * y0 = q at *
  generalize x0 * y1 = r at *
  generalize x1 * y1 = s at *
  rw [e]
  have e1 : p % 18446744073709551616 = p := Nat.mod_eq_of_lt (by omega)
  have e2 : q % 18446744073709551616 = q := Nat.mod_eq_of_lt (by omega)
  have e3 : r % 18446744073709551616 = r := Nat.mod_eq_of_lt (by omega)
  have e4 : s % 18446744073709551616 = s := Nat.mod_eq_of_lt (by omega)
  simp only [Option.bind_some, wU, e1, e2, e3, e4, shr32, ← Int.natCast_add]
  rw [and32 (by omega)]
  simp only [← Int.natCast_add, wU, shr32]
  congr 2
  omega
end Go.Proofs.YtdbeblgfccjbgaaDoor.W
namespace Go.Proofs.YtdbeblgfccjbgaaDoor.W
open Go Go.Q Go.Proofs Go.Dz
set_option linter.unusedVariables false
set_option linter.unusedSimpArgs false
def lenTab : List Int := strInts (ByteArray.mk #[0, 1, 2, 2, 3, 3, 3, 3, 4, 4, 4, 4, 4, 4, 4, 4, 5, 5, 5, 5, 5, 5, 5, 5, 5, 5, 5, 5, 5, 5, 5, 5, 6, 6, 6, 6, 6, 6, 6, 6, 6, 6, 6, 6, 6, 6, 6, 6, 6, 6, 6, 6, 6, 6, 6, 6, 6, 6, 6, 6, 6, 6, 6, 6, 7, 7, 7, 7, 7, 7, 7, 7, 7, 7, 7, 7, 7, 7, 7, 7, 7, 7, 7, 7, 7, 7, 7, 7, 7, 7, 7, 7, 7, 7, 7, 7, 7, 7, 7, 7, 7, 7, 7, 7, 7, 7, 7, 7, 7, 7, 7, 7, 7, 7, 7, 7, 7, 7, 7, 7, 7, 7, 7, 7, 7, 7, 7, 7, 8, 8, 8, 8, 8, 8, 8, 8, 8, 8, 8, 8, 8, 8, 8, 8, 8, 8, 8, 8, 8, 8, 8, 8, 8, 8, 8, 8, 8, 8, 8, 8, 8, 8, 8, 8, 8, 8, 8, 8, 8, 8, 8, 8, 8, 8, 8, 8, 8, 8, 8, 8, 8, 8, 8, 8, 8, 8, 8, 8, 8, 8, 8, 8, 8, 8, 8, 8, 8, 8, 8, 8, 8, 8, 8, 8, 8, 8, 8, 8, 8, 8, 8, 8, 8, 8, 8, 8, 8, 8, 8, 8, 8, 8, 8, 8, 8, 8, 8, 8, 8, 8, 8, 8, 8, 8, 8, 8, 8, 8, 8, 8, 8, 8, 8, 8, 8, 8, 8, 8, 8, 8, 8, 8, 8, 8, 8, 8])
theorem lenTab_all : ((List.range 256).all fun i => match ix lenTab (i : Int) with
    | some v => decide (0 ≤ v ∧ v ≤ 8 ∧ i < 2 ^ v.toNat ∧ (i ≠ 0 → 2 ^ v.toNat ≤ 2 * i))
    | none => false) = true := by kernel_rfl
theorem lenTab_at {i : Nat} (h : i < 256) : ∃ v : Nat, ix lenTab (i : Int) = some (v : Int) ∧ v ≤ 8 ∧ i < 2 ^ v ∧ (i ≠ 0 → 2 ^ v ≤ 2 * i) := by
  have := List.all_eq_true.1 lenTab_all i (List.mem_range.2 h)
  cases hv : ix lenTab (i : Int) with
  | none => rw [hv] at this; cases this
  | some v =>
    rw [hv] at this
    simp only [decide_eq_true_eq] at this
    exact ⟨v.toNat, by rw [Int.toNat_of_nonneg this.1], by omega, this.2.2.1, this.2.2.2⟩
set_option maxRecDepth 100000 in
/-- How many bits a number has. -/
theorem len64 (k : Nat) {x : Nat} (hx : x < 18446744073709551616) (h0 : x ≠ 0) : ∃ n : Nat, g_math_bits_Len64 k (x : Int) = some (n : Int) ∧ n ≤ 64 ∧ x < 2 ^ n ∧ 2 ^ n ≤ 2 * x := by
  unfold g_math_bits_Len64
  have hl : ∀ z, ix (strInts (ByteArray.mk #[0, 1, 2, 2, 3, 3, 3, 3, 4, 4, 4, 4, 4, 4, 4, 4, 5, 5, 5, 5, 5, 5, 5, 5, 5, 5, 5, 5, 5, 5, 5, 5, 6, 6, 6, 6, 6, 6, 6, 6, 6, 6, 6, 6, 6, 6, 6, 6, 6, 6, 6, 6, 6, 6, 6, 6, 6, 6, 6, 6, 6, 6, 6, 6, 7, 7, 7, 7, 7, 7, 7, 7, 7, 7, 7, 7, 7, 7, 7, 7, 7, 7, 7, 7, 7, 7, 7, 7, 7, 7, 7, 7, 7, 7, 7, 7, 7, 7, 7, 7, 7, 7, 7, 7, 7, 7, 7, 7, 7, 7, 7, 7, 7, 7, 7, 7, 7, 7, 7, 7, 7, 7, 7, 7, 7, 7, 7, 7, 8, 8, 8, 8, 8, 8, 8, 8, 8, 8, 8, 8, 8, 8, 8, 8, 8, 8, 8, 8, 8, 8, 8, 8, 8, 8, 8, 8, 8, 8, 8, 8, 8, 8, 8, 8, 8, 8, 8, 8, 8, 8, 8, 8, 8, 8, 8, 8, 8, 8, 8, 8, 8, 8, 8, 8, 8, 8, 8, 8, 8, 8, 8, 8, 8, 8, 8, 8, 8, 8, 8, 8, 8, 8, 8, 8, 8, 8, 8, 8, 8, 8, 8, 8, 8, 8, 8, 8, 8, 8, 8, 8, 8, 8, 8, 8, 8, 8, 8, 8, 8, 8, 8, 8, 8, 8, 8, 8, 8, 8, 8, 8, 8, 8, 8, 8, 8, 8, 8, 8, 8, 8, 8, 8, 8, 8, 8, 8])) z = ix lenTab z := fun _ => rfl
  simp only [hl, bd]
  -- the three halvings
  obtain ⟨y, s, hy, hys, h1⟩ : ∃ y s : Nat, (if (4294967296 : Int) ≤ (x : Int) then some (shrI .u64 (x : Int) 32, (32 : Int)) else some ((x : Int), 0)) = some ((y : Int), (s : Int)) ∧ (s ≤ 32) ∧ y ≠ 0 ∧ y < 4294967296 ∧ y * 2 ^ s ≤ x ∧ x < (y + 1) * 2 ^ s := by
    by_cases h : (4294967296 : Int) ≤ (x : Int)
    · refine ⟨x / 4294967296, 32, ?_, by decide, ?_⟩
      · rw [if_pos h, shr32]; rfl
      · simp only [show (2 : Nat) ^ 32 = 4294967296 from rfl]; omega
    · exact ⟨x, 0, by rw [if_neg h]; rfl, by decide, by simp; omega⟩
  obtain ⟨z, t, hz, hzt, h2⟩ : ∃ z t : Nat, (if (65536 : Int) ≤ (y : Int) then some (shrI .u64 (y : Int) 16, IntKind.wrap .i64 ((s : Int) + 16)) else some ((y : Int), (s : Int))) = some ((z : Int), (t : Int)) ∧ (t ≤ 48) ∧ z ≠ 0 ∧ z < 65536 ∧ z * 2 ^ t ≤ x ∧ x < (z + 1) * 2 ^ t := by
    by_cases h : (65536 : Int) ≤ (y : Int)
    · refine ⟨y / 65536, s + 16, ?_, by omega, by omega, by omega, ?_, ?_⟩
      · rw [if_pos h, wi (by omega) (by omega), show (16 : Int) = ((16 : Nat) : Int) from rfl, shrN y (s := 16) (by decide)]; rfl
      · refine Nat.le_trans ?_ h1.2.2.1
        rw [Nat.pow_add, Nat.mul_comm (2 ^ s), ← Nat.mul_assoc]
        exact Nat.mul_le_mul_right _ (by simp only [show (2 : Nat) ^ 16 = 65536 from rfl]; omega)
      · refine Nat.lt_of_lt_of_le h1.2.2.2 ?_
        rw [Nat.pow_add, Nat.mul_comm (2 ^ s), ← Nat.mul_assoc]
        exact Nat.mul_le_mul_right _ (by simp only [show (2 : Nat) ^ 16 = 65536 from rfl]; omega)
    · exact ⟨y, s, by rw [if_neg h], by omega, by omega, by omega, h1.2.2⟩
  obtain ⟨u, v, hu, huv, h3⟩ : ∃ u v : Nat, (if (256 : Int) ≤ (z : Int) then some (shrI .u64 (z : Int) 8, IntKind.wrap .i64 ((t : Int) + 8)) else some ((z : Int), (t : Int))) = some ((u : Int), (v : Int)) ∧ (v ≤ 56) ∧ u ≠ 0 ∧ u < 256 ∧ u * 2 ^ v ≤ x ∧ x < (u + 1) * 2 ^ v := by
    by_cases h : (256 : Int) ≤ (z : Int)
    · refine ⟨z / 256, t + 8, ?_, by omega, by omega, by omega, ?_, ?_⟩
      · rw [if_pos h, wi (by omega) (by omega), show (8 : Int) = ((8 : Nat) : Int) from rfl, shrN z (s := 8) (by decide)]; rfl
      · refine Nat.le_trans ?_ h2.2.2.1
        rw [Nat.pow_add, Nat.mul_comm (2 ^ t), ← Nat.mul_assoc]
        exact Nat.mul_le_mul_right _ (by simp only [show (2 : Nat) ^ 8 = 256 from rfl]; omega)
      · refine Nat.lt_of_lt_of_le h2.2.2.2 ?_
        rw [Nat.pow_add, Nat.mul_comm (2 ^ t), ← Nat.mul_assoc]
        exact Nat.mul_le_mul_right _ (by simp only [show (2 : Nat) ^ 8 = 256 from rfl]; omega)
    · exact ⟨z, t, by rw [if_neg h], by omega, by omega, by omega, h2.2.2⟩
  obtain ⟨w, hw, hw8, hw1, hw2⟩ := lenTab_at h3.2.1
  refine ⟨v + w, ?_, by omega, ?_, ?_⟩
  · rw [hy, Option.bind_some, hz, Option.bind_some, hu, Option.bind_some, wu8 (by omega) (by omega), hw]
    simp only [Option.bind_some]
    rw [wi (n := (w : Int)) (by omega) (by omega), wi (by omega) (by omega)]
    simp
  · refine Nat.lt_of_lt_of_le h3.2.2.2 ?_
    rw [Nat.pow_add, Nat.mul_comm]
    exact Nat.mul_le_mul_left _ (by omega)
  · rw [Nat.pow_add, Nat.mul_comm]
    have := Nat.mul_le_mul_right (2 ^ v) (hw2 h3.1)
    have h4 := h3.2.2.1
    rw [Nat.mul_assoc] at this
    omega
theorem lz64 (k : Nat) {y : Nat} (hy : y < 18446744073709551616) (h0 : y ≠ 0) : ∃ s : Nat, g_math_bits_LeadingZeros64 k (y : Int) = some (s : Int) ∧ s ≤ 63 ∧ y * 2 ^ s < 18446744073709551616 ∧ 9223372036854775808 ≤ y * 2 ^ s := by
  obtain ⟨n, h1, h2, h3, h4⟩ := len64 k hy h0
  have hn : 1 ≤ n := by
    rcases Nat.eq_zero_or_pos n with rfl | h
    · simp at h3; omega
    · exact h
  refine ⟨64 - n, ?_, by omega, ?_, ?_⟩
  · unfold g_math_bits_LeadingZeros64
    rw [h1, Option.bind_some, wi (by omega) (by omega)]
    congr 1
    omega
  · have : y * 2 ^ (64 - n) < 2 ^ n * 2 ^ (64 - n) := Nat.mul_lt_mul_of_pos_right h3 (Nat.two_pow_pos _)
    rw [← Nat.pow_add, show n + (64 - n) = 64 by omega] at this
    exact this
  · have : 2 ^ n * 2 ^ (64 - n) ≤ 2 * y * 2 ^ (64 - n) := Nat.mul_le_mul_right _ h4
    rw [← Nat.pow_add, show n + (64 - n) = 64 by omega, Nat.mul_assoc] at this
    simp only [show (2 : Nat) ^ 64 = 18446744073709551616 from rfl] at this
    omega
end Go.Proofs.YtdbeblgfccjbgaaDoor.W
namespace Go.Proofs.YtdbeblgfccjbgaaDoor.W
open Go Go.Q Go.Proofs Go.Dz
set_option linter.unusedVariables false
set_option linter.unusedSimpArgs false
theorem div_l0 (k : Nat) {y e u : Nat} (hy : y < 18446744073709551616) (hn : 9223372036854775808 ≤ y) (he : e < 18446744073709551616) (hu : u < y) : ∀ (n q r : Nat), 4294967296 ≤ r + n * 2147483648 → r < 4294967296 → q * (y / 4294967296) + r = u → q ≤ 4294967297 → (u * 4294967296 + e / 4294967296) / y ≤ q →
    g_math_bits_Div64_l0 k (y : Int) (e : Int) n (q : Int) (r : Int) = some (((u * 4294967296 + e / 4294967296) / y : Nat) : Int) := by
  intro n
  induction n with
  | zero => intro q r h1 h2; omega
  | succ n ih =>
    intro q r h1 h2 h3 h4 h5
    rw [g_math_bits_Div64_l0.eq_2]
    have hyB : y / 4294967296 < 4294967296 := by omega
    have hd : e / 4294967296 < 4294967296 := by omega
    have hm : q * (y % 4294967296) ≤ 4294967297 * 4294967295 := Nat.mul_le_mul h4 (by omega)
    simp only [bd, and32 hy, shr32, Option.bind_some, ← Int.natCast_mul, ← Int.natCast_add]
    rw [wUl (n := q * (y % 4294967296)) (by omega), show (4294967296 : Int) * (r : Int) = ((4294967296 * r : Nat) : Int) from rfl, wUl (n := 4294967296 * r) (by omega), ← Int.natCast_add, wUl (n := 4294967296 * r + e / 4294967296) (by omega), wUl (n := r + y / 4294967296) (by omega)]
    have go : ∀ b : Bool, (b = decide (4294967296 ≤ q ∨ 4294967296 * r + e / 4294967296 < q * (y % 4294967296))) → ((some b).bind fun x437 => (bif x437 then (if (4294967296 : Int) ≤ ((r + y / 4294967296 : Nat) : Int) then some (IntKind.wrap .u64 ((q : Int) - 1)) else (g_math_bits_Div64_l0 k (y : Int) (e : Int) n (IntKind.wrap .u64 ((q : Int) - 1)) ((r + y / 4294967296 : Nat) : Int))) else some (q : Int))) = some (((u * 4294967296 + e / 4294967296) / y : Nat) : Int) := by
      rintro b rfl
      rw [Option.bind_some]
      by_cases hc : 4294967296 ≤ q ∨ 4294967296 * r + e / 4294967296 < q * (y % 4294967296)
      · rw [dt hc, bt]
        have hlt := est_gt (B := 4294967296) (by decide) hu hd h3 hc
        have hq : 1 ≤ q := Nat.lt_of_le_of_lt (Nat.zero_le _) hlt
        obtain ⟨q', rfl⟩ : ∃ q', q = q' + 1 := ⟨q - 1, by omega⟩
        have e3 : q' * (y / 4294967296) + (r + y / 4294967296) = u := by
          rw [Nat.add_mul] at h3; omega
        rw [show (((q' + 1 : Nat) : Int) - 1) = ((q' : Nat) : Int) by omega, wUl (n := q') (by omega)]
        by_cases hb : 4294967296 ≤ r + y / 4294967296
        · rw [if_pos (by omega)]
          have := est_stop (B := 4294967296) (y := y) (d := e / 4294967296) (by decide) (by omega) e3 (by omega) hb
          congr 1
          omega
        · rw [if_neg (by omega)]
          exact ih q' (r + y / 4294967296) (by omega) (by omega) e3 (by omega) (by omega)
      · rw [df hc, bf]
        have := est_le (B := 4294967296) (y := y) (u := u) (d := e / 4294967296) (q := q) (r := r) (by decide) (by omega) h3 (by omega)
        congr 1
        omega
    by_cases hq : 4294967296 ≤ q
    · rw [if_pos (by omega)]
      exact go true (by rw [dt (.inl hq)])
    · rw [if_neg (by omega)]
      refine go _ ?_
      congr 1
      exact propext ⟨fun h => .inr (by omega), fun h => by omega⟩
theorem div_l1 (k : Nat) {y e u : Nat} (hy : y < 18446744073709551616) (hn : 9223372036854775808 ≤ y) (he : e < 18446744073709551616) (hu : u < y) : ∀ (n q r : Nat), 4294967296 ≤ r + n * 2147483648 → r < 4294967296 → q * (y / 4294967296) + r = u → q ≤ 4294967297 → (u * 4294967296 + e % 4294967296) / y ≤ q →
    g_math_bits_Div64_l1 k (y : Int) (e : Int) n (r : Int) (q : Int) = some (((u * 4294967296 + e % 4294967296) / y : Nat) : Int) := by
  intro n
  induction n with
  | zero => intro q r h1 h2; omega
  | succ n ih =>
    intro q r h1 h2 h3 h4 h5
    rw [g_math_bits_Div64_l1.eq_2]
    have hyB : y / 4294967296 < 4294967296 := by omega
    have hd : e % 4294967296 < 4294967296 := by omega
    have hm : q * (y % 4294967296) ≤ 4294967297 * 4294967295 := Nat.mul_le_mul h4 (by omega)
    simp only [bd, and32 hy, and32 he, shr32, Option.bind_some, ← Int.natCast_mul, ← Int.natCast_add]
    rw [wUl (n := q * (y % 4294967296)) (by omega), show (4294967296 : Int) * (r : Int) = ((4294967296 * r : Nat) : Int) from rfl, wUl (n := 4294967296 * r) (by omega), ← Int.natCast_add, wUl (n := 4294967296 * r + e % 4294967296) (by omega), wUl (n := r + y / 4294967296) (by omega)]
    have go : ∀ b : Bool, (b = decide (4294967296 ≤ q ∨ 4294967296 * r + e % 4294967296 < q * (y % 4294967296))) → ((some b).bind fun x437 => (bif x437 then (if (4294967296 : Int) ≤ ((r + y / 4294967296 : Nat) : Int) then some (IntKind.wrap .u64 ((q : Int) - 1)) else (g_math_bits_Div64_l1 k (y : Int) (e : Int) n ((r + y / 4294967296 : Nat) : Int) (IntKind.wrap .u64 ((q : Int) - 1)))) else some (q : Int))) = some (((u * 4294967296 + e % 4294967296) / y : Nat) : Int) := by
      rintro b rfl
      rw [Option.bind_some]
      by_cases hc : 4294967296 ≤ q ∨ 4294967296 * r + e % 4294967296 < q * (y % 4294967296)
      · rw [dt hc, bt]
        have hlt := est_gt (B := 4294967296) (by decide) hu hd h3 hc
        have hq : 1 ≤ q := Nat.lt_of_le_of_lt (Nat.zero_le _) hlt
        obtain ⟨q', rfl⟩ : ∃ q', q = q' + 1 := ⟨q - 1, by omega⟩
        have e3 : q' * (y / 4294967296) + (r + y / 4294967296) = u := by
          rw [Nat.add_mul] at h3; omega
        rw [show (((q' + 1 : Nat) : Int) - 1) = ((q' : Nat) : Int) by omega, wUl (n := q') (by omega)]
        by_cases hb : 4294967296 ≤ r + y / 4294967296
        · rw [if_pos (by omega)]
          have := est_stop (B := 4294967296) (y := y) (d := e % 4294967296) (by decide) (by omega) e3 (by omega) hb
          congr 1
          omega
        · rw [if_neg (by omega)]
          exact ih q' (r + y / 4294967296) (by omega) (by omega) e3 (by omega) (by omega)
      · rw [df hc, bf]
        have := est_le (B := 4294967296) (y := y) (u := u) (d := e % 4294967296) (q := q) (r := r) (by decide) (by omega) h3 (by omega)
        congr 1
        omega
    by_cases hq : 4294967296 ≤ q
    · rw [if_pos (by omega)]
      exact go true (by rw [dt (.inl hq)])
    · rw [if_neg (by omega)]
      refine go _ ?_
      congr 1
      exact propext ⟨fun h => .inr (by omega), fun h => by omega⟩
theorem digit_lt {y u d : Nat} (hu : u < y) (hd : d < 4294967296) : (u * 4294967296 + d) / y < 4294967296 := by
  rw [Nat.div_lt_iff_lt_mul (by omega)]
  have : (u + 1) * 4294967296 ≤ y * 4294967296 := Nat.mul_le_mul_right _ hu
  omega
/-- A quotient of twice as many bits. -/
theorem div64 (k : Nat) (hk : 3 ≤ k) {hi lo y : Nat} (hlo : lo < 18446744073709551616) (hy : y < 18446744073709551616) (h : hi < y) : g_math_bits_Div64 k (hi : Int) (lo : Int) (y : Int) =
    some ((((hi * 18446744073709551616 + lo) / y : Nat) : Int), (((hi * 18446744073709551616 + lo) % y : Nat) : Int)) := by
  unfold g_math_bits_Div64
  simp only [bd]
  rw [if_neg (show ¬ ((y : Int) = 0) by omega), if_neg (show ¬ ((y : Int) ≤ (hi : Int)) by omega)]
  by_cases h0 : hi = 0
  · subst h0
    have e0 : ((y : Int) == 0) = false := by rw [beq_eq_false_iff_ne]; omega
    rw [if_pos (show ((0 : Nat) : Int) = 0 from rfl), e0]
    simp only [Bool.not_false, cond_true, td, tm, Nat.zero_mul, Nat.zero_add]
    have : lo / y ≤ lo := Nat.div_le_self _ _
    rw [wUl (by omega)]
  · rw [if_neg (by omega)]
    obtain ⟨s, h1, h2, h3, h4⟩ := lz64 k hy (by omega)
    rw [h1, Option.bind_some, wUl (n := s) (by omega)]
    simp only [if_pos (show (0 : Int) ≤ (s : Int) by omega), Option.bind_some, shlN _ (show s ≤ 64 by omega)]
    have e64 : IntKind.wrap .u64 (64 - (s : Int)) = ((64 - s : Nat) : Int) := by
      rw [show (64 - (s : Int)) = ((64 - s : Nat) : Int) by omega, wUl (by omega)]
    rw [e64]
    simp only [if_pos (show (0 : Int) ≤ ((64 - s : Nat) : Int) by omega), shrN _ (show 64 - s ≤ 64 by omega)]
    rw [Nat.mod_eq_of_lt h3]
    have hp : 2 ^ s * 2 ^ (64 - s) = 18446744073709551616 := by rw [← Nat.pow_add, show s + (64 - s) = 64 by omega]
    have hps := Nat.two_pow_pos s
    have hhi : hi * 2 ^ s < y * 2 ^ s := Nat.mul_lt_mul_of_pos_right h hps
    -- the number, moved to the left
    have hlos : lo * 2 ^ s = lo / 2 ^ (64 - s) * 18446744073709551616 + lo * 2 ^ s % 18446744073709551616 := by
      have e1 : lo * 2 ^ s / 18446744073709551616 = lo / 2 ^ (64 - s) := by
        rw [← hp, Nat.mul_comm lo, Nat.mul_div_mul_left _ _ hps]
      rw [← e1]; omega
    have hloq : lo / 2 ^ (64 - s) < 2 ^ s := by
      rw [Nat.div_lt_iff_lt_mul (Nat.two_pow_pos _), hp]; exact hlo
    rw [Nat.mod_eq_of_lt (show hi * 2 ^ s < 18446744073709551616 by omega), orN (show hi * 2 ^ s < 18446744073709551616 by omega) hloq (by have : lo / 2 ^ (64 - s) ≤ lo := Nat.div_le_self _ _; omega)]
    have hN : (hi * 18446744073709551616 + lo) * 2 ^ s = (hi * 2 ^ s + lo / 2 ^ (64 - s)) * 18446744073709551616 + lo * 2 ^ s % 18446744073709551616 := by
      rw [Nat.add_mul, Nat.mul_right_comm, Nat.add_mul]; omega
    have hu : hi * 2 ^ s + lo / 2 ^ (64 - s) < y * 2 ^ s := by
      have : (hi + 1) * 2 ^ s ≤ y * 2 ^ s := Nat.mul_le_mul_right _ h
      rw [Nat.add_mul] at this
      omega
    have hq : (hi * 18446744073709551616 + lo) / y = (hi * 18446744073709551616 + lo) * 2 ^ s / (y * 2 ^ s) := (Nat.mul_div_mul_right _ _ hps).symm
    have hr : (hi * 18446744073709551616 + lo) % y * 2 ^ s = (hi * 18446744073709551616 + lo) * 2 ^ s % (y * 2 ^ s) := (Nat.mul_mod_mul_right _ _ _).symm
    rw [hN] at hq hr
    have he : lo * 2 ^ s % 18446744073709551616 < 18446744073709551616 := Nat.mod_lt _ (by decide)
    have hrs : (hi * 18446744073709551616 + lo) % y = ((hi * 2 ^ s + lo / 2 ^ (64 - s)) * 18446744073709551616 + lo * 2 ^ s % 18446744073709551616) % (y * 2 ^ s) / 2 ^ s := by
      rw [← hr, Nat.mul_div_cancel _ hps]
    rw [hq, hrs]
    clear hq hr hrs hN hhi hlos hloq
    generalize hi * 2 ^ s + lo / 2 ^ (64 - s) = u at *
    generalize lo * 2 ^ s % 18446744073709551616 = e at *
    generalize y * 2 ^ s = z at *
    have hzB : z / 4294967296 < 4294967296 := by omega
    have hz1 : 2147483648 ≤ z / 4294967296 := by omega
    have ez : (((z / 4294967296 : Nat) : Int) == 0) = false := by rw [beq_eq_false_iff_ne]; omega
    -- one digit
    have dig : ∀ (v d : Nat), v < z → d < 4294967296 → (v / (z / 4294967296) ≤ 4294967297) ∧ (v * 4294967296 + d) / z ≤ v / (z / 4294967296) ∧ v / (z / 4294967296) * (z / 4294967296) + (v - v / (z / 4294967296) * (z / 4294967296)) = v ∧ v - v / (z / 4294967296) * (z / 4294967296) < 4294967296 ∧ v / (z / 4294967296) * (z / 4294967296) ≤ v := by
      intro v d hv hd
      have a1 := est_first (B := 4294967296) hv (by decide) (by omega)
      have a2 := est_ge (B := 4294967296) (y := z) (u := v) (d := d) (by decide) (by omega) hd
      have a3 := Nat.div_mul_le_self v (z / 4294967296)
      have a4 : v % (z / 4294967296) < z / 4294967296 := Nat.mod_lt _ (by omega)
      have a5 := Nat.div_add_mod v (z / 4294967296)
      rw [Nat.mul_comm] at a5
      exact ⟨a1, a2, by omega, by omega, a3⟩
    have step : ∀ (v d : Nat), v < z → d < 4294967296 → (v * 4294967296 + d) / z * z + (v * 4294967296 + d) % z = v * 4294967296 + d ∧ (v * 4294967296 + d) % z < z := by
      intro v d hv hd
      have := Nat.div_add_mod (v * 4294967296 + d) z
      rw [Nat.mul_comm] at this
      exact ⟨this, Nat.mod_lt _ (by omega)⟩
    have modU : ∀ (v d q : Nat), v < z → d < 4294967296 → q = (v * 4294967296 + d) / z → IntKind.wrap .u64 (IntKind.wrap .u64 ((IntKind.wrap .u64 ((v : Int) * 4294967296)) + (d : Int)) - IntKind.wrap .u64 (((q : Nat) : Int) * ((z : Nat) : Int))) = (((v * 4294967296 + d) % z : Nat) : Int) := by
      intro v d q hv hd hq
      obtain ⟨s1, s2⟩ := step v d hv hd
      rw [← hq] at s1
      rw [← Int.natCast_mul]
      simp only [wUi]
      generalize q * z = m at *
      generalize (v * 4294967296 + d) % z = w at *
      omega
    obtain ⟨d1, d2, d3, d4, d5⟩ := dig u (e / 4294967296) hu (by omega)
    rw [shr32, ez]
    simp only [Bool.not_false, cond_true, td]
    rw [wUl (n := u / (z / 4294967296)) (by omega)]
    simp only [Option.bind_some, ← Int.natCast_mul]
    rw [wUl (n := u / (z / 4294967296) * (z / 4294967296)) (by omega), show ((u : Int) - ((u / (z / 4294967296) * (z / 4294967296) : Nat) : Int)) = ((u - u / (z / 4294967296) * (z / 4294967296) : Nat) : Int) by omega, wUl (n := u - _) (by omega)]
    rw [div_l0 k h3 h4 he hu k _ _ (by omega) d4 d3 d1 d2]
    simp only [Option.bind_some, shr32]
    have m1 := modU u (e / 4294967296) _ hu (by omega) rfl
    rw [m1]
    obtain ⟨s1, s2⟩ := step u (e / 4294967296) hu (by omega)
    have g1 := digit_lt hu (show e / 4294967296 < 4294967296 by omega)
    have t := two_digits (B := 4294967296) (y := z) (u := u) (d1 := e / 4294967296) (d0 := e % 4294967296) (by omega)
    have eN : (u * 4294967296 + e / 4294967296) * 4294967296 + e % 4294967296 = u * 18446744073709551616 + e := by omega
    rw [eN] at t
    rw [t.1, t.2]
    clear t eN m1 s1
    obtain ⟨v, hv⟩ : ∃ v, v = (u * 4294967296 + e / 4294967296) % z := ⟨_, rfl⟩
    obtain ⟨q1, hq1⟩ : ∃ v, v = (u * 4294967296 + e / 4294967296) / z := ⟨_, rfl⟩
    rw [← hv] at s2
    rw [← hq1] at g1
    rw [← hv, ← hq1]
    clear d1 d2 d3 d4 d5 hv hq1
    obtain ⟨c1, c2, c3, c4, c5⟩ := dig v (e % 4294967296) s2 (by omega)
    simp only [td]
    rw [wUl (n := v / (z / 4294967296)) (by omega)]
    simp only [Option.bind_some, ← Int.natCast_mul]
    rw [wUl (n := v / (z / 4294967296) * (z / 4294967296)) (by omega), show ((v : Int) - ((v / (z / 4294967296) * (z / 4294967296) : Nat) : Int)) = ((v - v / (z / 4294967296) * (z / 4294967296) : Nat) : Int) by omega, wUl (n := v - _) (by omega)]
    rw [div_l1 k h3 h4 he s2 k _ _ (by omega) c4 c3 c1 c2]
    simp only [Option.bind_some, and32 he]
    have m2 := modU v (e % 4294967296) _ s2 (by omega) rfl
    have g2 := digit_lt s2 (show e % 4294967296 < 4294967296 by omega)
    rw [m2, shrN _ (by omega)]
    obtain ⟨q0, hq0⟩ : ∃ w, w = (v * 4294967296 + e % 4294967296) / z := ⟨_, rfl⟩
    rw [← hq0] at g2
    rw [← hq0]
    clear c1 c2 c3 c4 c5 m2
    have f1 : (q1 : Int) * 4294967296 = ((q1 * 4294967296 : Nat) : Int) := by simp
    have f2 : IntKind.wrap .u64 ((q1 : Int) * 4294967296) = ((q1 * 4294967296 : Nat) : Int) := by rw [f1]; exact wUl (by omega)
    have f3 : IntKind.wrap .u64 (IntKind.wrap .u64 ((q1 : Int) * 4294967296) + (q0 : Int)) = ((q1 * 4294967296 + q0 : Nat) : Int) := by rw [f2, ← Int.natCast_add]; exact wUl (by omega)
    rw [f3]
end Go.Proofs.YtdbeblgfccjbgaaDoor.W
namespace Go.Proofs.YtdbeblgfccjbgaaDoor.W
open Go Go.Q Go.Proofs Go.Dz
set_option linter.unusedVariables false
set_option linter.unusedSimpArgs false
/-- The halves of a number. -/
def wh (v : Nat) : Int := ((v / 18446744073709551616 : Nat) : Int)
def wl (v : Nat) : Int := ((v % 18446744073709551616 : Nat) : Int)
/-- Two to the 128. -/
abbrev UU : Nat := 340282366920938463463374607431768211456
theorem wh_small {v : Nat} (h : v < 18446744073709551616) : wh v = 0 := by unfold wh; rw [Nat.div_eq_of_lt h]; rfl
theorem wl_small {v : Nat} (h : v < 18446744073709551616) : wl v = (v : Int) := by unfold wl; rw [Nat.mod_eq_of_lt h]
theorem wh_lt {v : Nat} (h : v < UU) : v / 18446744073709551616 < 18446744073709551616 := by unfold UU at h; omega
theorem wide_zero (k : Nat) (a b : Int) : g_dec_wide_zero k a b = some () := rfl
theorem wide_or {v : Nat} (h : v < UU) : (bits .or .u64 (wh v) (wl v) = 0) ↔ v = 0 := by
  unfold wh wl
  rw [or0 (wh_lt h) (Nat.mod_lt _ (by decide))]
  omega
theorem add64_eq (a b c : Nat) : add64 (a : Int) (b : Int) (c : Int) = (((((a + b + c) % 18446744073709551616 : Nat)) : Int), (((a + b + c) / 18446744073709551616 : Nat) : Int)) := by
  simp [add64, Extern.MathBitsCarry.m64]
theorem wide_times (k : Nat) {v n : Nat} (hv : v < UU) (hn : n < 4294967296) : ∃ x : Int, g_dec_wide_times k (wh v) (wl v) (n : Int) = some (decide (v * n < UU), x) ∧ (v * n < UU → x = wh (v * n)) := by
  unfold g_dec_wide_times
  have h1 := wh_lt hv
  have h2 := Nat.mod_lt v (show 0 < 18446744073709551616 by decide)
  have e : v = v / 18446744073709551616 * 18446744073709551616 + v % 18446744073709551616 := by omega
  unfold wh wl
  rw [mul64 k h2 (by omega), Option.bind_some, mul64 k h1 (by omega), Option.bind_some, ← Int.natCast_mul, wU, show (0 : Int) = ((0 : Nat) : Int) from rfl, add64_eq]
  generalize hA : v / 18446744073709551616 = a at *
  generalize hB : v % 18446744073709551616 = b at *
  have hp : a * n ≤ 18446744073709551615 * n := Nat.mul_le_mul_right _ (by omega)
  have hq : b * n ≤ 18446744073709551615 * n := Nat.mul_le_mul_right _ (by omega)
  have ev : v * n = a * n * 18446744073709551616 + b * n := by rw [e, Nat.add_mul, Nat.mul_right_comm]
  rw [ev]
  simp only [Option.bind_some]
  have hov : a * n / 18446744073709551616 ≤ 4294967295 := by omega
  generalize a * n = p at *
  generalize b * n = q at *
  rw [← Int.natCast_add, wUl (by omega)]
  refine ⟨(((q / 18446744073709551616 + p % 18446744073709551616 + 0) % 18446744073709551616 : Nat) : Int), ?_, fun hlt => ?_⟩
  · refine congrArg some (Prod.ext ?_ rfl)
    simp only [decide_eq_decide]
    unfold UU
    omega
  · unfold UU at hlt
    congr 1
    omega
theorem wide_times_lo {v n : Nat} : IntKind.wrap .u64 (wl v * (n : Int)) = wl (v * n) := by
  unfold wl
  rw [← Int.natCast_mul, wU]
  congr 1
  simp [Nat.mul_mod]
/-- One digit off. -/
theorem wide_by (k : Nat) (hk : 3 ≤ k) {v : Nat} (hv : v < UU) : g_dec_wide_by k (wh v) (wl v) 10 = some (((v % 10 : Nat) : Int), wh (v / 10), wl (v / 10)) := by
  unfold g_dec_wide_by
  have h1 := wh_lt hv
  have h2 := Nat.mod_lt v (show 0 < 18446744073709551616 by decide)
  unfold wh wl
  have d1 := div64 k hk (hi := 0) (lo := v / 18446744073709551616) (y := 10) h1 (by decide) (by decide)
  rw [show ((0 : Nat) : Int) = 0 from rfl, show ((10 : Nat) : Int) = 10 from rfl] at d1
  rw [d1, Option.bind_some]
  simp only [Nat.zero_mul, Nat.zero_add]
  have d2 := div64 k hk (hi := v / 18446744073709551616 % 10) (lo := v % 18446744073709551616) (y := 10) h2 (by decide) (Nat.mod_lt _ (by decide))
  rw [show ((10 : Nat) : Int) = 10 from rfl] at d2
  rw [d2, Option.bind_some]
  congr 2
  · congr 1; omega
  · congr 2
    · omega
    · omega
/-- Times ten, so often. -/
theorem wide_tens_l0 (k : Nat) {m : Nat} : ∀ (n i v : Nat), i ≤ m → m - i + 1 < n → m < 1000000 → v < UU → ∃ (b : Bool) (x y : Int), g_dec_wide_tens_l0 k (m : Int) n true (i : Int) (wh v) (wl v) = some (b, x, y) ∧
    (b = true → v * 10 ^ (m - i) < UU ∧ x = wh (v * 10 ^ (m - i)) ∧ y = wl (v * 10 ^ (m - i))) ∧ (b = false → UU ≤ v * 10 ^ (m - i)) := by
  intro n
  induction n with
  | zero => intro i v _ h; omega
  | succ n ih =>
    intro i v hi hn hm hv
    rw [g_dec_wide_tens_l0.eq_2]
    simp only [bd, wide_zero, Option.bind_some, cond_true]
    by_cases him : i < m
    · rw [if_pos (by omega), Option.bind_some]
      by_cases h0 : v = 0
      · rw [dt ((wide_or hv).2 h0)]
        refine ⟨true, wh v, wl v, rfl, fun _ => ?_, fun h => by cases h⟩
        rw [h0]; simp
      · rw [df (fun h => h0 ((wide_or hv).1 h))]
        obtain ⟨x, h1, h2⟩ := wide_times k hv (n := 10) (by decide)
        simp only [Bool.not_false, cond_true]
        rw [show (10 : Int) = ((10 : Nat) : Int) from rfl, h1, Option.bind_some, wi (by omega) (by omega), wide_times_lo]
        by_cases hlt : v * 10 < UU
        · rw [dt hlt, h2 hlt, show ((i : Int) + 1) = ((i + 1 : Nat) : Int) by omega]
          have e : v * 10 ^ (m - i) = v * 10 * 10 ^ (m - (i + 1)) := by
            rw [show m - i = (m - (i + 1)) + 1 by omega, Nat.pow_succ, Nat.mul_assoc, Nat.mul_comm 10]
          rw [e]
          exact ih (i + 1) (v * 10) (by omega) (by omega) hm hlt
        · rw [df hlt]
          have hbig : UU ≤ v * 10 ^ (m - i) := by
            obtain ⟨j, hj⟩ : ∃ j, m - i = j + 1 := ⟨m - i - 1, by omega⟩
            rw [hj, Nat.pow_succ, Nat.mul_comm (10 ^ j), ← Nat.mul_assoc]
            exact Nat.le_trans (Nat.le_of_not_lt hlt) (Nat.le_mul_of_pos_right _ (Nat.pow_pos (by decide)))
          obtain ⟨n', rfl⟩ : ∃ n', n = n' + 1 := ⟨n - 1, by omega⟩
          rw [g_dec_wide_tens_l0.eq_2]
          refine ⟨false, x, wl (v * 10), ?_, (fun h => by cases h), fun _ => hbig⟩
          simp only [cond_false, bd]
          split <;> rfl
    · rw [if_neg (by omega)]
      refine ⟨true, wh v, wl v, rfl, fun _ => ?_, fun h => by cases h⟩
      rw [show m - i = 0 by omega]; simp [hv]
theorem wide_tens (k : Nat) {v m : Nat} (hv : v < UU) (hm : m < 1000000) (hk : m + 2 ≤ k) : ∃ (b : Bool) (x y : Int), g_dec_wide_tens k (wh v) (wl v) (m : Int) = some (b, x, y) ∧
    (b = true → v * 10 ^ m < UU ∧ x = wh (v * 10 ^ m) ∧ y = wl (v * 10 ^ m)) ∧ (b = false → UU ≤ v * 10 ^ m) := by
  unfold g_dec_wide_tens
  obtain ⟨b, x, y, h1, h2, h3⟩ := wide_tens_l0 k (m := m) k 0 v (Nat.zero_le _) (by omega) hm hv
  rw [show ((0 : Nat) : Int) = 0 from rfl] at h1
  rw [h1]
  exact ⟨b, x, y, rfl, h2, h3⟩
/-- Which is more. -/
def cmpN (v w : Nat) : Int := if v = w then 0 else if v < w then -1 else 1
theorem wide_cmp (k : Nat) {v w : Nat} (hv : v < UU) (hw : w < UU) : g_dec_wide_cmp k (wh v) (wl v) (wh w) (wl w) = some (cmpN v w) := by
  unfold g_dec_wide_cmp cmpN
  simp only [Option.bind_some, bd, Bool.and_true]
  unfold wh wl
  have h1 := wh_lt hv
  have h2 := wh_lt hw
  by_cases h : v = w
  · subst h; simp
  · rw [if_neg h]
    have hne : (decide (((v / 18446744073709551616 : Nat) : Int) = ((w / 18446744073709551616 : Nat) : Int)) && decide (((v % 18446744073709551616 : Nat) : Int) = ((w % 18446744073709551616 : Nat) : Int))) = false := by
      rw [Bool.and_eq_false_iff]
      by_cases h3 : v / 18446744073709551616 = w / 18446744073709551616
      · exact .inr (df (by omega))
      · exact .inl (df (by omega))
    rw [hne, bf]
    by_cases hlt : v < w
    · rw [if_pos hlt]
      by_cases h3 : v / 18446744073709551616 < w / 18446744073709551616
      · rw [if_pos (by omega)]; rfl
      · rw [if_neg (by omega), if_pos (by omega), Option.bind_some, dt (by omega)]; rfl
    · rw [if_neg hlt]
      by_cases h3 : v / 18446744073709551616 = w / 18446744073709551616
      · rw [if_neg (by omega), if_pos (by omega), Option.bind_some, df (by omega)]; rfl
      · rw [if_neg (by omega), if_neg (by omega)]; rfl
theorem wide_plus (k : Nat) {v w : Nat} (hv : v < UU) (hw : w < UU) : g_dec_wide_plus k (wh v) (wl v) (wh w) (wl w) = some (decide (v + w < UU)) := by
  unfold g_dec_wide_plus
  have h1 := wh_lt hv
  have h2 := wh_lt hw
  unfold wh wl
  rw [show (0 : Int) = ((0 : Nat) : Int) from rfl, add64_eq]
  simp only
  rw [add64_eq]
  simp only [Int.toNat_natCast, bd]
  rw [if_pos (by omega), Option.bind_some]
  congr 1
  rw [decide_eq_decide]
  unfold UU
  omega
theorem wide_plus_val {v w : Nat} (hv : v < UU) (hw : w < UU) (h : v + w < UU) : (add64 (wh v) (wh w) ((add64 (wl v) (wl w) 0).2)).1 = wh (v + w) ∧ (add64 (wl v) (wl w) 0).1 = wl (v + w) := by
  have h1 := wh_lt hv
  have h2 := wh_lt hw
  unfold wh wl
  rw [show (0 : Int) = ((0 : Nat) : Int) from rfl, add64_eq]
  simp only
  rw [add64_eq]
  simp only
  unfold UU at h
  constructor
  · congr 1; omega
  · congr 1; omega
end Go.Proofs.YtdbeblgfccjbgaaDoor.W
namespace Go.Proofs.YtdbeblgfccjbgaaDoor.W
open Go Go.Q Go.Proofs Go.Dz
set_option linter.unusedVariables false
set_option linter.unusedSimpArgs false
def sgn (neg : Bool) (v : Nat) : Int := if neg then -(v : Int) else (v : Int)
theorem sgn_mul {neg : Bool} {v w : Nat} : sgn neg (v * w) = sgn neg v * (w : Int) := by
  cases neg <;> simp [sgn, Int.neg_mul]
theorem sgn_zero {neg : Bool} : sgn neg 0 = 0 := by cases neg <;> simp [sgn]
theorem sgn_ne {neg : Bool} {v : Nat} (h : v ≠ 0) : sgn neg v ≠ 0 := by cases neg <;> simp [sgn] <;> omega
theorem sgn_dvd {neg : Bool} {v : Nat} : (10 : Int) ∣ sgn neg v ↔ v % 10 = 0 := by
  cases neg <;> simp [sgn] <;> omega
theorem sgn_abs {neg : Bool} {v : Nat} : (sgn neg v).natAbs = v := by cases neg <;> simp [sgn]
theorem tell_l0 (k : Nat) (hk : 3 ≤ k) : ∀ (d n v : Nat) (e : Int), d ≤ n → v ≠ 0 → v < UU → v < 10 ^ d → -4000 ≤ e → e + d ≤ 5000 → ∃ (w j : Nat), v = w * 10 ^ j ∧ w % 10 ≠ 0 ∧ j ≤ d ∧
    g_dec_num_tell_l0 k n ((v % 10 : Nat) : Int) (wh v) (wl v) e (wh (v / 10)) (wl (v / 10)) = some (wh w, wl w, e + j) := by
  intro d
  induction d with
  | zero => intro n v e _ h0 _ h; simp at h; omega
  | succ d ih =>
    intro n v e hdn h0 hU h he1 he2
    obtain ⟨n, rfl⟩ : ∃ n', n = n' + 1 := ⟨n - 1, by omega⟩
    rw [g_dec_num_tell_l0.eq_2]
    simp only [bd]
    by_cases hr : v % 10 = 0
    · rw [if_pos (by omega), wide_by k hk (v := v / 10) (by unfold UU at *; omega), Option.bind_some]
      rw [Nat.pow_succ] at h
      obtain ⟨w, j, h1, h2, h3, h4⟩ := ih n (v / 10) (e + 1) (by omega) (by omega) (by unfold UU at *; omega) (by omega) (by omega) (by omega)
      refine ⟨w, j + 1, ?_, h2, by omega, ?_⟩
      · rw [Nat.pow_succ, ← Nat.mul_assoc, ← h1]; omega
      · rw [wi (by omega) (by omega)]
        simp only
        rw [h4]
        congr 3
        omega
    · rw [if_neg (by omega)]
      exact ⟨v, 0, by simp, hr, by omega, by simp⟩
/-- The greatest size. -/
def topN (neg : Bool) : Nat := if neg then 9223372036854775808 else 9223372036854775807
theorem in_range {neg : Bool} {w : Nat} : (-9223372036854775808 ≤ sgn neg w ∧ sgn neg w ≤ 9223372036854775807) ↔ w ≤ topN neg := by
  cases neg <;> simp [sgn, topN] <;> omega
theorem neg_wrap {u : Nat} (h : u ≤ 9223372036854775808) : IntKind.wrap .i64 (0 - (IntKind.wrap .i64 (u : Int))) = -(u : Int) := by
  rw [IntKind.wrap_i64, IntKind.wrap_i64]; omega
theorem num_tell (k : Nat) (hk : 60 ≤ k) {neg : Bool} {v : Nat} {e : Int} (hv : v < UU) (he1 : -4000 ≤ e) (he2 : e ≤ 4000) : ∃ er c x : Int, g_dec_num_tell k neg (wh v) (wl v) e = some (er, c, x) ∧ Tells (· = val (sgn neg v) e) ((c, x), er) := by
  unfold g_dec_num_tell
  simp only [wide_zero, Option.bind_some, bd]
  by_cases h0 : v = 0
  · rw [if_pos ((wide_or hv).2 h0)]
    refine ⟨0, 0, 0, rfl, ?_⟩
    rw [h0, sgn_zero]
    exact tells_zero
  · rw [if_neg (fun h => h0 ((wide_or hv).1 h)), wide_by k (by omega) hv, Option.bind_some]
    obtain ⟨w, j, h1, h2, h3, h4⟩ := tell_l0 k (by omega) 39 k v e (by omega) h0 hv (Nat.lt_of_lt_of_le hv (by decide)) (by omega) (by omega)
    simp only
    rw [h4, Option.bind_some]
    have hwv : w ≤ v := by rw [h1]; exact Nat.le_mul_of_pos_right _ (Nat.pow_pos (by decide))
    have hw : w < UU := Nat.lt_of_le_of_lt hwv hv
    have hw0 : w ≠ 0 := by rintro rfl; simp at h2
    have hval : val (sgn neg v) e = val (sgn neg w) (e + j) := by
      rw [h1, sgn_mul]
      have : ((10 ^ j : Nat) : Int) = (10 : Int) ^ j := by simp
      rw [this, val_shift (by omega)]
    rw [hval]
    have hm : sgn neg w ≠ 0 := sgn_ne hw0
    have hd : ¬ (10 : Int) ∣ sgn neg w := fun h => h2 (sgn_dvd.1 h)
    clear hval h1 h4 h0 hv hwv
    generalize he' : e + (j : Int) = f at *
    have hf : -4000 ≤ f ∧ f ≤ 4039 := by omega
    clear he' he1 he2 h3
    -- what comes behind the size is known
    have top : ((bif neg then some (IntKind.wrap .u64 (9223372036854775807 + 1)) else some 9223372036854775807) : Option Int) = some ((topN neg : Nat) : Int) := by
      cases neg
      · rfl
      · simp only [cond_true]
        have : IntKind.wrap .u64 (9223372036854775807 + 1) = 9223372036854775808 := by decide
        rw [this]; rfl
    have fin : ∀ (u t : Nat) (x : Int), u = w * 10 ^ t → u < UU → x = (if f > 18 then 18 else f) → (t : Int) = f - x → ∃ er c x' : Int,
        (((bif (!true) then some true else if x < -18 then some true else if 0 < wh u then some true else some (decide (((topN neg : Nat) : Int) < wl u))) : Option Bool).bind fun x889 =>
          bif x889 then some (30, 0, 0) else (((bif neg then some (IntKind.wrap .i64 (0 - (IntKind.wrap .i64 (wl u)))) else some (IntKind.wrap .i64 (wl u))) : Option Int).bind fun x897 => some (0, x897, x))) = some (er, c, x') ∧ Tells (· = val (sgn neg w) f) ((c, x'), er) := by
      intro u t x hu huU hx ht
      have hsu : sgn neg u = sgn neg w * 10 ^ (f - x).toNat := by
        rw [hu, sgn_mul, show (f - x).toNat = t by omega]; simp
      rw [Bool.not_true, bf]
      by_cases hx18 : x < -18
      · rw [if_pos hx18, Option.bind_some, bt]
        refine ⟨30, 0, 0, rfl, tells_none hm hd (by omega) (.inl ?_)⟩
        split at hx <;> omega
      · rw [if_neg hx18]
        have hb : ((if 0 < wh u then some true else some (decide (((topN neg : Nat) : Int) < wl u))) : Option Bool) = some (decide (topN neg < u)) := by
          have htn : topN neg < 18446744073709551616 := by unfold topN; split <;> decide
          unfold wh wl
          by_cases hh : u / 18446744073709551616 = 0
          · rw [if_neg (by omega)]
            congr 1
            rw [decide_eq_decide]
            omega
          · rw [if_pos (by omega), dt (by omega)]
        rw [hb, Option.bind_some]
        by_cases hu2 : topN neg < u
        · rw [dt hu2, bt]
          refine ⟨30, 0, 0, rfl, ?_⟩
          have hnr : ¬ (-9223372036854775808 ≤ sgn neg u ∧ sgn neg u ≤ 9223372036854775807) := by rw [in_range]; omega
          by_cases hf18 : f > 18
          · rw [if_pos hf18] at hx
            subst hx
            rw [hsu] at hnr
            exact tells_none hm hd (by omega) (.inr hnr)
          · rw [if_neg hf18] at hx
            subst hx
            have ht0 : t = 0 := by omega
            subst ht0
            rw [hsu] at hnr
            refine tells_none hm hd (by omega) (.inr ?_)
            rw [show (x - 18).toNat = (x - x).toNat by omega]
            exact hnr
        · rw [df hu2, bf]
          have hr := in_range.2 (Nat.le_of_not_lt hu2)
          have ht2 : topN neg ≤ 9223372036854775808 := by unfold topN; split <;> decide
          rw [wl_small (show u < 18446744073709551616 by omega)]
          refine ⟨0, sgn neg u, x, ?_, tells_some hm hd (by omega) ⟨hx, hsu, by omega, hr.1, hr.2⟩⟩
          cases neg
          · simp only [sgn, Bool.false_eq_true, if_false] at hr ⊢
            rw [bf, wi (n := (u : Int)) (by omega) (by omega)]; rfl
          · simp only [sgn, if_true, cond_true, Option.bind_some] at hr ⊢
            rw [neg_wrap (Nat.le_trans (Nat.le_of_not_lt hu2) ht2)]
    by_cases hf18 : 18 < f
    · rw [if_pos hf18, wi (n := f - 18) (by omega) (by omega)]
      obtain ⟨m, hm40⟩ : ∃ m : Nat, (if (40 : Int) < f - 18 then (40 : Int) else f - 18) = (m : Int) := ⟨(if (40 : Int) < f - 18 then (40 : Int) else f - 18).toNat, by split <;> omega⟩
      have hm' : (f ≤ 58 ∧ (m : Int) = f - 18) ∨ (58 < f ∧ m = 40) := by split at hm40 <;> omega
      rw [hm40]
      simp only [Option.bind_some]
      obtain ⟨b, x, y, t1, t2, t3⟩ := wide_tens k (m := m) hw (by omega) (by omega)
      rw [t1]
      simp only [Option.bind_some]
      -- too great
      have big : UU ≤ w * 10 ^ (f - 18).toNat → Tells (· = val (sgn neg w) f) ((0, 0), 30) := by
        intro hb
        refine tells_none hm hd (by omega) (.inr ?_)
        have : sgn neg w * 10 ^ (f - 18).toNat = sgn neg (w * 10 ^ (f - 18).toNat) := by rw [sgn_mul]; simp
        rw [this, in_range]
        unfold UU at hb
        have ht2 : topN neg ≤ 9223372036854775808 := by unfold topN; split <;> decide
        omega
      by_cases hf58 : 58 < f
      · rw [if_pos hf58, Option.bind_some]
        simp only [top, Option.bind_some, Bool.not_false, cond_true]
        refine ⟨30, 0, 0, rfl, big ?_⟩
        have h41 : 10 ^ 41 ≤ 10 ^ (f - 18).toNat := Nat.pow_le_pow_right (by decide) (by omega)
        have : 1 * 10 ^ 41 ≤ w * 10 ^ (f - 18).toNat := Nat.mul_le_mul (by omega) h41
        exact Nat.le_trans (by decide) this
      · rw [if_neg hf58, Option.bind_some]
        have hmf : (f - 18).toNat = m := by omega
        cases b with
        | false =>
          simp only [top, Option.bind_some, Bool.not_false, cond_true]
          exact ⟨30, 0, 0, rfl, big (by rw [hmf]; exact t3 rfl)⟩
        | true =>
          obtain ⟨u1, u2, u3⟩ := t2 rfl
          simp only [top, Option.bind_some, u2, u3]
          exact fin _ m 18 rfl u1 (by rw [if_pos hf18]) (by omega)
    · rw [if_neg hf18, Option.bind_some]
      simp only [top, Option.bind_some]
      exact fin w 0 f (by simp) hw (by rw [if_neg (by omega)]) (by omega)
end Go.Proofs.YtdbeblgfccjbgaaDoor.W
namespace Go.Proofs.YtdbeblgfccjbgaaDoor.W
open Go Go.Q Go.Proofs Go.Dz
set_option linter.unusedVariables false
set_option linter.unusedSimpArgs false
theorem getD_ix {l : List Int} {i : Nat} (h : i < l.length) : ix l (i : Int) = some (l.getD i 0) := by
  rw [ix_nat h, List.getD_eq_getElem?_getD, List.getElem?_eq_getElem h]; rfl
theorem trim_l0 (k : Nat) {l : List Int} (hl : l.length ≤ 100000) : ∀ (n m : Nat), m < n → m ≤ l.length → (∀ i, m ≤ i → i < l.length → l.getD i 0 = 0) →
    ∃ r : Nat, g_quireref09_trim_l0 k l n (m : Int) = some (r : Int) ∧ r ≤ l.length ∧ (∀ i, r ≤ i → i < l.length → l.getD i 0 = 0) ∧ (r ≠ 0 → l.getD (r - 1) 0 ≠ 0) := by
  intro n
  induction n with
  | zero => intro m h; omega
  | succ n ih =>
    intro m h1 h2 h3
    rw [g_quireref09_trim_l0.eq_2]
    simp only [bd]
    by_cases hm : m = 0
    · subst hm
      exact ⟨0, by simp, by omega, h3, fun h => absurd rfl h⟩
    · obtain ⟨j, rfl⟩ : ∃ j, m = j + 1 := ⟨m - 1, by omega⟩
      rw [if_pos (by omega), show (((j + 1 : Nat) : Int) - 1) = (j : Int) by omega, wi (by omega) (by omega), getD_ix (by omega)]
      simp only [Option.bind_some]
      by_cases hz : l.getD j 0 = 0
      · rw [dt hz, bt]
        refine ih j (by omega) (by omega) fun i hi hl => ?_
        by_cases hij : i = j
        · subst hij; exact hz
        · exact h3 i (by omega) hl
      · rw [df hz, bf]
        exact ⟨j + 1, rfl, h2, h3, fun _ => hz⟩
theorem trim (k : Nat) {neg : Bool} {l : List Int} (hl : l.length ≤ 100000) (hd : Dig l) (hk : l.length < k) : g_quireref09_trim k neg l = some (neg && decide (nval l ≠ 0), digs (nval l)) := by
  unfold g_quireref09_trim
  obtain ⟨r, h1, h2, h3, h4⟩ := trim_l0 k hl k l.length (by omega) (Nat.le_refl _) (fun i hi hl => by omega)
  rw [h1, Option.bind_some]
  have hn := digs_nval hd h2 h3 h4
  simp only [bd]
  by_cases hr : r = 0
  · subst hr
    rw [if_pos (by simp)]
    have : nval l = 0 := by rw [← nval_digs (nval l), hn]; rfl
    rw [this, digs_zero]; simp
  · rw [if_neg (by omega), if_pos (by omega), if_pos (by simp; omega)]
    have hne : nval l ≠ 0 := by
      intro h0
      rw [h0, digs_zero] at hn
      have := congrArg List.length hn
      simp at this
      omega
    rw [hn]
    simp [hne]
theorem at_ (k : Nat) (neg : Bool) (l : List Int) (i : Nat) : g_quireref09_at k neg l (i : Int) = some (l.getD i 0) := by
  unfold g_quireref09_at
  simp only [bd]
  rw [if_pos (by omega)]
  simp only [Option.bind_some]
  by_cases h : i < l.length
  · rw [dt (by omega), bt, getD_ix h]; rfl
  · rw [df (by omega), bf, List.getD_eq_getElem?_getD, List.getElem?_eq_none (by omega)]; rfl
/-- A digit, in numbers. -/
theorem step10 (n i : Nat) : n / 10 ^ i = 10 * (n / 10 ^ (i + 1)) + n / 10 ^ i % 10 := by
  rw [Nat.pow_succ, ← Nat.div_div_eq_div_mul]; omega
theorem gone10 {n i : Nat} (h : (digs n).length ≤ i) : n / 10 ^ i = 0 := by
  rw [Nat.div_eq_of_lt]
  exact Nat.lt_of_lt_of_le digs_lt (Nat.pow_le_pow_right (by decide) h)
theorem more_l0 (k : Nat) (p q : Bool) {a b : Nat} (ha : (digs a).length ≤ 10000) (hb : (digs b).length ≤ 10000) : ∀ (n i : Nat), i < n → i ≤ 30000 → a / 10 ^ i = b / 10 ^ i →
    (cmpN a b = 0 → g_quireref09_more_l0 k p (digs a) q (digs b) n ((i : Int) - 1) = some (Sum.inr ())) ∧ (cmpN a b ≠ 0 → g_quireref09_more_l0 k p (digs a) q (digs b) n ((i : Int) - 1) = some (Sum.inl (cmpN a b))) := by
  intro n
  induction n with
  | zero => intro i h; omega
  | succ n ih =>
    intro i h1 h2 h3
    rw [g_quireref09_more_l0.eq_2]
    simp only [bd]
    by_cases h0 : i = 0
    · subst h0
      have : a = b := by simpa using h3
      subst this
      rw [if_neg (by omega)]
      simp [cmpN]
    · obtain ⟨j, rfl⟩ : ∃ j, i = j + 1 := ⟨i - 1, by omega⟩
      rw [show ((j + 1 : Nat) : Int) - 1 = (j : Int) by omega, if_pos (by omega)]
      simp only [at_, digs_at, Option.bind_some]
      have sa := step10 a j
      have sb := step10 b j
      have hgt : ∀ {x y : Nat}, y / 10 ^ j < x / 10 ^ j → y < x := fun h => by
        apply Nat.lt_of_not_le
        intro hle
        have := Nat.div_le_div_right (c := 10 ^ j) hle
        omega
      by_cases hlt : b / 10 ^ j % 10 < a / 10 ^ j % 10
      · rw [if_pos (by omega)]
        have := hgt (x := a) (y := b) (by omega)
        have hc : cmpN a b = 1 := by unfold cmpN; rw [if_neg (by omega), if_neg (by omega)]
        rw [hc]; simp
      · rw [if_neg (by omega)]
        by_cases hlt2 : a / 10 ^ j % 10 < b / 10 ^ j % 10
        · rw [if_pos (by omega)]
          have := hgt (x := b) (y := a) (by omega)
          have hc : cmpN a b = -1 := by unfold cmpN; rw [if_neg (by omega), if_pos (by omega)]
          rw [hc]; simp
        · rw [if_neg (by omega), wi (by omega) (by omega)]
          exact ih j (by omega) (by omega) (by omega)
theorem more (k : Nat) (p q : Bool) {a b : Nat} (ha : (digs a).length ≤ 10000) (hb : (digs b).length ≤ 10000) (hk : 30000 ≤ k) : g_quireref09_more k p (digs a) q (digs b) = some (cmpN a b) := by
  unfold g_quireref09_more
  rw [wi (by omega) (by omega), Option.bind_some]
  have z1 := gone10 (n := a) (i := (digs a).length + (digs b).length + 1) (by omega)
  have z2 := gone10 (n := b) (i := (digs a).length + (digs b).length + 1) (by omega)
  obtain ⟨h1, h2⟩ := more_l0 k p q ha hb k ((digs a).length + (digs b).length + 1) (by omega) (by omega) (by rw [z1, z2])
  rw [show (((digs a).length + (digs b).length + 1 : Nat) : Int) - 1 = (((digs a).length : Nat) : Int) + (((digs b).length : Nat) : Int) by omega] at h1 h2
  by_cases h : cmpN a b = 0
  · rw [h1 h, h]; rfl
  · rw [h2 h]; rfl
/-- How many digits a number has. -/
abbrev nd (x : Int) : Nat := (digs x.natAbs).length
theorem shift (k : Nat) {x : Int} {n : Nat} (hx : nd x ≤ 10000) (hn : n ≤ 10000) (hk : 30000 ≤ k) : g_quireref09_Shift k (decide (x < 0)) (digs x.natAbs) (n : Int) = some (decide (x * 10 ^ n < 0), digs (x * 10 ^ n).natAbs) := by
  unfold g_quireref09_Shift
  have hx' : (digs x.natAbs).length ≤ 10000 := hx
  simp only [bd]
  rw [if_pos (by omega), if_pos (by simp; omega)]
  have hd : Dig (List.replicate (Int.toNat (n : Int)) (0 : Int) ++ digs x.natAbs) := by
    refine Dig.app (fun d hd => ?_) (digs_dig _)
    rw [List.eq_of_mem_replicate hd]; omega
  have hv : nval (List.replicate (Int.toNat (n : Int)) (0 : Int) ++ digs x.natAbs) = (x * 10 ^ n).natAbs := by
    have h0 : ∀ m, nval (List.replicate m (0 : Int)) = 0 := by
      intro m
      induction m with
      | zero => rfl
      | succ m ih => rw [List.replicate_succ, nval, ih]; rfl
    rw [nval_app, h0, nval_digs, Int.natAbs_mul]
    simp [Int.natAbs_pow, Nat.mul_comm]
  rw [trim k (by simp; omega) hd (by simp; omega), hv]
  simp only [Option.bind_some]
  congr 2
  have hp := p10 n
  rw [Bool.eq_iff_iff]
  simp only [Bool.and_eq_true, decide_eq_true_eq]
  by_cases h0 : x < 0
  · have : x * 10 ^ n < 0 := Int.mul_neg_of_neg_of_pos h0 hp
    omega
  · have : 0 ≤ x * 10 ^ n := Int.mul_nonneg (show 0 ≤ x by omega) (Int.le_of_lt hp)
    omega
end Go.Proofs.YtdbeblgfccjbgaaDoor.W
namespace Go.Proofs.YtdbeblgfccjbgaaDoor.W
open Go Go.Q Go.Proofs Go.Dz
set_option linter.unusedVariables false
set_option linter.unusedSimpArgs false
end Go.Proofs.YtdbeblgfccjbgaaDoor.W
namespace Go.Proofs.YtdbeblgfccjbgaaDoor.W
open Go Go.Q Go.Proofs Go.Dz
set_option linter.unusedVariables false
set_option linter.unusedSimpArgs false
theorem len_pos {n : Nat} (h : n ≠ 0) : 0 < (digs n).length := by
  rw [digs_pos h]; simp
end Go.Proofs.YtdbeblgfccjbgaaDoor.W
namespace Go.Proofs.YtdbeblgfccjbgaaDoor.W
open Go Go.Q Go.Proofs Go.Dz
set_option linter.unusedVariables false
set_option linter.unusedSimpArgs false
theorem canon_exists {c : Int} (hc : I64 c) : ∀ (n : Nat) (e : Int), (18 - e).toNat = n → Rng e → ∀ c, I64 c → ∃ c' x', Canon c' x' ∧ val c' x' = val c e := by
  intro n
  induction n with
  | zero =>
    intro e h he c hc
    unfold Rng at he
    unfold I64 at hc
    by_cases h0 : c = 0
    · exact ⟨0, 0, .inl ⟨rfl, rfl⟩, by rw [h0, val_zero, val_zero]⟩
    · exact ⟨c, e, .inr ⟨h0, he.1, he.2, hc.1, hc.2, .inl (by omega)⟩, rfl⟩
  | succ n ih =>
    intro e h he c hc
    unfold Rng at he
    unfold I64 at hc
    by_cases h0 : c = 0
    · exact ⟨0, 0, .inl ⟨rfl, rfl⟩, by rw [h0, val_zero, val_zero]⟩
    · by_cases hd : (10 : Int) ∣ c
      · obtain ⟨c1, rfl⟩ := hd
        obtain ⟨c', x', h1, h2⟩ := ih (e + 1) (by omega) (by unfold Rng; omega) c1 (by unfold I64; omega)
        refine ⟨c', x', h1, ?_⟩
        have := val_shift (m := c1) (e := e) (j := 1) (by omega)
        rw [h2, Int.mul_comm 10 c1]
        exact this.symm
      · exact ⟨c, e, .inr ⟨h0, he.1, he.2, hc.1, hc.2, .inr hd⟩, rfl⟩
theorem size_eq (k : Nat) {c : Int} (hc : I64 c) : g_dec_size k c = some ((c.natAbs : Nat) : Int) := by
  unfold g_dec_size
  unfold I64 at hc
  simp only [bd, Option.bind_some]
  by_cases h : c < 0
  · rw [if_pos h]
    have : IntKind.wrap .u64 (0 - IntKind.wrap .u64 c) = ((c.natAbs : Nat) : Int) := by rw [wUi, wUi]; omega
    rw [this]
  · rw [if_neg h]
    have : IntKind.wrap .u64 c = ((c.natAbs : Nat) : Int) := by rw [wUi]; omega
    rw [this]
theorem of_eq (k : Nat) {c e : Int} (hc : I64 c) : g_dec_of k c e = some ((c.natAbs : Nat) : Int) := by
  unfold g_dec_of; rw [size_eq k hc]; rfl
theorem ranged_eq (k : Nat) (hk : 3 ≤ k) {c e : Int} : g_dec_ranged k ([(⟨c, e⟩ : S_api_Dec)] : List S_api_Dec) = some (decide (Rng e)) := by
  unfold g_dec_ranged
  obtain ⟨k, rfl⟩ : ∃ k', k = k' + 2 := ⟨k - 2, by omega⟩
  rw [g_dec_ranged_l0.eq_2]
  have e1 : ix ([(⟨c, e⟩ : S_api_Dec)] : List S_api_Dec) 0 = some ⟨c, e⟩ := rfl
  have e2 : IntKind.wrap .i64 (0 + 1) = 1 := by decide
  have e3 : decide ((0 : Int) < (([(⟨c, e⟩ : S_api_Dec)].length : Nat) : Int)) = true := rfl
  have e4 : decide ((1 : Int) < (([(⟨c, e⟩ : S_api_Dec)].length : Nat) : Int)) = false := rfl
  rw [Option.bind_some, e3, bt, e1, Option.bind_some, e2]
  simp only [bd]
  by_cases h1 : e < -18
  · rw [if_pos h1, df (show ¬ Rng e by unfold Rng; omega)]; rfl
  · rw [if_neg h1]
    by_cases h2 : 18 < e
    · rw [dt h2, df (show ¬ Rng e by unfold Rng; omega)]; rfl
    · rw [df h2, dt (show Rng e by unfold Rng; omega), Option.bind_some, bf, g_dec_ranged_l0.eq_2, Option.bind_some, e4]; rfl
theorem sgn_self (c : Int) : sgn (decide (c < 0)) c.natAbs = c := by
  unfold sgn; by_cases h : c < 0 <;> simp [h] <;> omega
theorem abs_lt {c : Int} (hc : I64 c) : c.natAbs < 18446744073709551616 := by unfold I64 at hc; omega
/-- A number of the program, from its sign and size. -/
theorem tell_abs (k : Nat) (hk : 60 ≤ k) {neg : Bool} {n : Nat} {e : Int} (hn : n < 18446744073709551616) (he : -4000 ≤ e ∧ e ≤ 4000) : ∃ er c x : Int, g_dec_num_tell k neg 0 (n : Int) e = some (er, c, x) ∧ Tells (· = val (sgn neg n) e) ((c, x), er) := by
  have := num_tell k hk (neg := neg) (v := n) (e := e) (by unfold UU; omega) he.1 he.2
  rwa [wh_small hn, wl_small hn] at this
theorem tell_ok (k : Nat) (hk : 60 ≤ k) {c e : Int} (hc : I64 c) (he : Rng e) : ∃ c' e' : Int, g_dec_num_tell k (decide (c < 0)) 0 ((c.natAbs : Nat) : Int) e = some (0, c', e') ∧ Canon c' e' ∧ val c' e' = val c e := by
  obtain ⟨er, c', x', h1, h2⟩ := tell_abs k hk (neg := decide (c < 0)) (n := c.natAbs) (e := e) (abs_lt hc) (by unfold Rng at he; omega)
  rw [sgn_self] at h2
  rcases h2 with ⟨h3, h4, h5⟩ | ⟨h3, h4⟩
  · simp only at h3 h4 h5
    exact ⟨c', x', by rw [h1, h3], h4, h5⟩
  · obtain ⟨c2, x2, h5, h6⟩ := canon_exists hc _ e rfl he c hc
    exact absurd h6 (h4 _ _ h5)
theorem clean1 (k : Nat) (hk : 60 ≤ k) {c e : Int} (hc : I64 c) : if Rng e then ∃ c' e' : Int, g_dec_clean__b k c e = some (true, c', e') ∧ Canon c' e' ∧ val c' e' = val c e else ∃ r, g_dec_clean__b k c e = some (false, r) := by
  unfold g_dec_clean__b
  rw [ranged_eq k (by omega), Option.bind_some]
  by_cases he : Rng e
  · rw [if_pos he, dt he]
    obtain ⟨c', e', h1, h2, h3⟩ := tell_ok k hk hc he
    rw [of_eq k hc]
    simp only [Bool.not_true, cond_false, Option.bind_some]
    rw [h1]
    exact ⟨c', e', rfl, h2, h3⟩
  · rw [if_neg he, df he]
    exact ⟨_, rfl⟩
end Go.Proofs.YtdbeblgfccjbgaaDoor.W
namespace Go.Proofs.YtdbeblgfccjbgaaDoor.W
open Go Go.Q Go.Proofs Go.Dz
set_option linter.unusedVariables false
set_option linter.unusedSimpArgs false
/-- An answer: the right Dec of a number, where the exponents may be so. -/
def Sp (R : Prop) [Decidable R] (p : Int → Prop) (g : Option (Int × Int × Int)) : Prop := if R then ∃ er c x : Int, g = some (er, c, x) ∧ Tells p ((c, x), er) else g = some (1, 0, 0)
theorem Sp.congr {R : Prop} [Decidable R] {p q : Int → Prop} {g : Option (Int × Int × Int)} (h : Sp R p g) (hq : R → ∀ a, p a ↔ q a) : Sp R q g := by
  unfold Sp at *
  by_cases hR : R
  · rw [if_pos hR] at *
    obtain ⟨er, c, x, h1, h2⟩ := h
    exact ⟨er, c, x, h1, h2.congr (hq hR)⟩
  · rwa [if_neg hR] at *
theorem Tells.none {p : Int → Prop} (h : ∀ c x, Canon c x → ¬ p (val c x)) : Tells p ((0, 0), 30) := .inr ⟨rfl, h⟩
/-- Products of numbers. -/
theorem val_mul {c e d f : Int} (he : -200000 ≤ e) (hf : -200000 ≤ f) : val c e * val d f = val (c * d) (e + f) * 10 ^ 500000 := by
  unfold val
  have e1 : ∀ p q : Int, c * p * (d * q) = c * d * (p * q) := fun p q => by rw [Int.mul_assoc, Int.mul_left_comm p, ← Int.mul_assoc]
  rw [e1, ← Int.pow_add, Int.mul_assoc (c * d), ← Int.pow_add, show (e + 500000).toNat + (f + 500000).toNat = (e + f + 500000).toNat + 500000 by omega]
theorem ten_pos : (0 : Int) < 10 ^ 500000 := p10 500000
end Go.Proofs.YtdbeblgfccjbgaaDoor.W
namespace Go.Proofs.YtdbeblgfccjbgaaDoor.W
open Go Go.Q Go.Proofs Go.Dz
set_option linter.unusedVariables false
set_option linter.unusedSimpArgs false
theorem alive {k : Nat} (hk : 64 ≤ k) : g_quirelaw09_alive k = some true := (g_quirelaw09_alive_mono hk).h _ (by kernel_rfl)
theorem i64_I {c : Int} (h : (Lit.int .i64 c).wf = true) : I64 c := i64_wf h
end Go.Proofs.YtdbeblgfccjbgaaDoor.W
namespace Go.Proofs.YtdbeblgfccjbgaaDoor.W
open Go Go.Q Go.Proofs Go.Dz
set_option linter.unusedVariables false
set_option linter.unusedSimpArgs false
end Go.Proofs.YtdbeblgfccjbgaaDoor.W
namespace Go.Proofs.YtdbeblgfccjbgaaDoor.W
open Go Go.Q Go.Proofs Go.Dz
set_option linter.unusedVariables false
set_option linter.unusedSimpArgs false
theorem val_abs {c e : Int} : (val c e).natAbs = c.natAbs * 10 ^ (e + 500000).toNat := by unfold val; rw [Int.natAbs_mul, Int.natAbs_pow]; rfl
end Go.Proofs.YtdbeblgfccjbgaaDoor.W
