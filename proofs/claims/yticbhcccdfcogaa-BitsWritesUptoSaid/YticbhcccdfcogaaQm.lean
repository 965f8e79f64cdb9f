/- Leaves of a walk, told in the words of what they must come to; states turned; cuts. -/
import Derived.Test.YticbhcccdfcogaaQl
namespace Go.Q
open Go
set_option linter.unusedVariables false
set_option linter.unusedSimpArgs false

/-- A state told otherwise. -/
def Cv (cx : Cx) (nt : Nat) (E : Env) (M : Mem) (E' : Env) (M' : Mem) : Prop :=
  ∀ a w e, Hold cx e M w → Emb nt e M E a → ∃ e', Hold cx e' M' w ∧ Emb nt e' M' E' a

def Ex.plain : Ex → Bool
  | .panic _ => false
  | _ => true

section
variable {P : Program} {cx : Cx} {fr : Fr} {nt : Nat} {E E' E'' : Env} {M M' M'' : Mem} {Q Q' : Ex → Env → Mem → Prop} {x : Ex} {c : Code} {ops : Array Oper} {os : List Oper}

theorem W.cv (k : Cv cx fr.nt E M E' M') (hx : x.plain = true) (h : W cx fr Q x E' M') : W cx fr Q x E M := fun a w e X hh he hX => by
  cases x with
  | panic v => cases hx
  | normal => obtain ⟨e', h1, h2⟩ := k a w e hh he; exact h a w e' X h1 h2 hX
  | exit id => obtain ⟨e', h1, h2⟩ := k a w e hh he; exact h a w e' X h1 h2 hX
  | goto l => obtain ⟨e', h1, h2⟩ := k a w e hh he; exact h a w e' X h1 h2 hX
  | ret => obtain ⟨e', h1, h2⟩ := k a w e hh he; exact h a w e' X h1 h2 hX
theorem WP.cv (k : Cv cx fr.nt E M E' M') (h : WP P cx fr c E' M' Q) : WP P cx fr c E M Q := fun a w e hh he => let ⟨e', h1, h2⟩ := k a w e hh he; h a w e' h1 h2
theorem WPL.cv (k : Cv cx fr.nt E M E' M') (h : WPL P cx fr ops os E' M' Q) : WPL P cx fr ops os E M Q := fun a w e hh he => let ⟨e', h1, h2⟩ := k a w e hh he; h a w e' h1 h2
theorem Cv.same : Cv cx nt E M E M := fun a w e hh he => ⟨e, hh, he⟩
theorem Cv.trans (h : Cv cx nt E M E' M') (k : Cv cx nt E' M' E'' M'') : Cv cx nt E M E'' M'' := fun a w e hh he => let ⟨e', h1, h2⟩ := h a w e hh he; k a w e' h1 h2

theorem WPL.nilW (h : W cx fr Q .normal E M) : WPL P cx fr ops [] E M Q := fun a w e hh he => h a w e _ hh he rfl
theorem WP.skipW (h : W cx fr Q .normal E M) : WP P cx fr .skip E M Q := fun a w e hh he => wpIn_skip (h a w e _ hh he rfl)
theorem WP.labelW {l : Nat} (h : W cx fr Q .normal E M) : WP P cx fr (.label l) E M Q := fun a w e hh he => wpIn_label (h a w e _ hh he rfl)
theorem WP.exitW {id : Nat} (h : W cx fr Q (.exit id) E M) : WP P cx fr (.exit id) E M Q := fun a w e hh he => wpIn_exit (h a w e _ hh he rfl)
theorem WP.gotoW {l : Nat} (h : W cx fr Q (.goto l) E M) : WP P cx fr (.goto l) E M Q := fun a w e hh he => wpIn_goto (h a w e _ hh he rfl)
theorem WP.retW (h : W cx fr Q .ret E M) : WP P cx fr .ret E M Q := fun a w e hh he => wpIn_ret (h a w e _ hh he rfl)
theorem WPD.doneW {st X : List Nat} {fuel : Nat} {listed : Array Bool} (hb : readyNo ops listed = true) (h : W cx fr Q .normal E M) : WPD P cx fr ops st X fuel listed E M Q := by
  intro a w e hh he
  have hready : Region.ready .any ops listed = [] := by simpa [readyNo, List.isEmpty_iff] using hb
  have hs : Sat cx fr Q .normal a w := h a w e _ hh he rfl
  cases fuel with
  | zero => exact ⟨hready, hs⟩
  | succ n => exact ⟨fun _ => hs, by rw [hready]; simp⟩
theorem WPD.split {st X : List Nat} {fuel : Nat} {listed : Array Bool} {t : Nat} {b : Bool} (hv : E.v t = .lit (.bool b)) (h1 : b = true → WPD P cx fr ops st X fuel listed E M Q) (h2 : b = false → WPD P cx fr ops st X fuel listed E M Q) : WPD P cx fr ops st X fuel listed E M Q := by
  cases b with
  | true => exact h1 rfl
  | false => exact h2 rfl
theorem WPD.sub {st X : List Nat} {fuel : Nat} {listed : Array Bool} (X' : List Nat) (hs : X'.all X.contains = true) (k : WPD P cx fr ops st X' fuel listed E M Q) : WPD P cx fr ops st X fuel listed E M Q :=
  fun a w e hh he => wpAnyF_mono (fun _ h => h) (fun i hi => List.all_eq_true.1 hs i (by simpa using hi)) _ _ _ _ (k a w e hh he)
theorem WP.regionD' (n : Nat) (st X : List Nat) {id : Nat} (hm : P.follows .mixedOrders = true) (hn : ops.size = n) (h : WPD P cx fr ops st X n (Array.replicate n false) E M Q) : WP P cx fr (.region id ops true) E M Q := by
  subst hn; exact WP.regionD st X hm h

/-- A cut. -/
theorem WP.monoW (h : WP P cx fr c E M Q) (hq : ∀ x E M, Q x E M → W cx fr Q' x E M) : WP P cx fr c E M Q' :=
  fun a w e hh he => Go.wpIn_mono (h a w e hh he) fun X a' w' k => by
    obtain ⟨y, E', M', e', q, h1, h2, h3⟩ := k
    exact hq y E' M' q a' w' e' X h1 h2 h3

theorem Cv.weak {np : Nat} (l : List Nat) (hnp : cx.np = np) (hM : LeM l np M M') (hE : LeE l M'.n E E') : Cv cx nt E M E' M' :=
  fun a w e hh he => ⟨_, hh.re hnp hM, he.re hM hE⟩
theorem Cv.vir {α : Type} (ct : TypeId) (R : Rd α) {N : Nat} (hN : M.n = N) (tt : Nat) (hv : E.v tt = .lit (.slice none 0 0)) : Cv cx nt E M (E.upd tt (.whole N)) (M.push (.row ct R [])) := by
  intro a w e hh he
  refine ⟨e.bump 0 0 0 true, hh.bindVir, ?_⟩
  have h1 : Emb nt (e.bump 0 0 0 true) (M.push (.row ct R [])) E a := he.mono (e.bump_le 0 0 0 true) (fun b => e.bump_mem 0 0 0 true b)
  refine ⟨h1.sz, fun u => ?_, h1.d, h1.o⟩
  rw [Env.upd_v]
  split
  · rename_i hu
    subst hu
    have := h1.v u
    rw [hv] at this
    simp only [Val] at this
    rw [this]
    simp only [Val, Nv.bump, ← hN, ← hh.n, if_true]
    exact ⟨Nat.lt_succ_self _, Nat.le_refl _, trivial, trivial⟩
  · exact h1.v u
theorem Cv.virC {α : Type} (ct : TypeId) (R : Rd α) {i off N : Nat} {t : TypeId} {l : List AVal} (hN : M.n = N) (hi : Nat.blt i N = true) (hc : M.at_ i = .cells t l) (hv : l[off]? = some (.lit (.slice none 0 0))) :
    Cv cx nt E M E ((M.push (.row ct R [])).set i (.cells t (l.set off (.whole N)))) :=
  fun a w e hh he => ⟨_, hh.virCell hN (by simpa using hi) hc hv, he.mono (e.bump_le 0 0 0 true) (fun b => e.bump_mem 0 0 0 true b)⟩
theorem Cv.frzRow {i np : Nat} {t : TypeId} {α : Type} {R : Rd α} {l : List α} (hi : Nat.blt i M.n = true) (hc : M.at_ i = .row t R l) (hnp : cx.np = np) (hni : Nat.ble np i = true) (hd : (E.d.all fun j => !Nat.beq j i) = true) :
    Cv cx nt E M (E.frz i (.ro (Rd.slice R) false l) .any) (M.frz i (.ro (Rd.slice R) false l) .any) :=
  fun a w e hh he => freeze_row hh he hi hc hnp hni hd
theorem Cv.frzCells {i np : Nat} {t : TypeId} {α : Type} {R : Rd α} {d : α} {l : List AVal} (hi : Nat.blt i M.n = true) (hc : M.at_ i = .cells t l) (hj : Joins R false d l) (hl : Nat.beq l.length R.sz = true) (hnp : cx.np = np) (hni : Nat.ble np i = true) (hd : (E.d.all fun j => !Nat.beq j i) = true) :
    Cv cx nt E M (E.frz i .any (.ro (Rd.ptr R) false d)) (M.frz i .any (.ro (Rd.ptr R) false d)) :=
  fun a w e hh he => freeze_cells hh he hi hc hj hl hnp hni hd

/-- Nil, as a slice that is only read. -/
theorem nil_ro {e : Nv} {α : Type} (R : Rd α) (b : Bool) {v : Value} (h : Val e (.lit (.slice none 0 0)) v) : Val e (.ro (Rd.slice R) b []) v := by
  simp only [Val] at h ⊢
  exact .inl ⟨rfl, none, 0, by rw [h]⟩
theorem Cv.nilRo {α : Type} (R : Rd α) (b : Bool) (tt : Nat) (hv : E.v tt = .lit (.slice none 0 0)) : Cv cx nt E M (E.upd tt (.ro (Rd.slice R) b [])) M := by
  intro a w e hh he
  refine ⟨e, hh, he.sz, fun u => ?_, he.d, he.o⟩
  rw [Env.upd_v]
  split
  · rename_i hu
    subst hu
    have := he.v u
    rw [hv] at this
    exact nil_ro R b this
  · exact he.v u
theorem Cv.nilRoC {α : Type} (R : Rd α) (b : Bool) {i off : Nat} {t : TypeId} {l : List AVal} (hi : Nat.blt i M.n = true) (hc : M.at_ i = .cells t l) (hv : l[off]? = some (.lit (.slice none 0 0))) :
    Cv cx nt E M E (M.set i (.cells t (l.set off (.ro (Rd.slice R) b [])))) :=
  fun a w e hh he => by
    have hin : i < e.n := by rw [hh.n]; simpa using hi
    have hlive : (M.at_ i).live e i := by rw [hc]; trivial
    refine ⟨e, hh.change hin hlive rfl rfl rfl rfl (fun _ _ => rfl) ?_, he.mem⟩
    have hk := hh.ch i hin
    rw [hc] at hk
    obtain ⟨g1, vs, g2, g3, g4⟩ := hk
    refine ⟨g1, vs, g2, ?_, g4⟩
    obtain ⟨u, hu, hval⟩ := g3.get hv
    have hset : vs = vs.set off u := by
      apply List.ext_getElem?
      intro j
      rw [List.getElem?_set]
      split
      · rename_i hj; subst hj; split
        · rename_i hlt; rw [hu]
        · rename_i hge; rw [List.getElem?_eq_none (by omega)]
      · rfl
    rw [hset]
    exact g3.set (nil_ro R b hval)

/-- Is a slice that is only read nil? If so it is empty. -/
theorem WPL.eqlNil {α : Type} {R : Rd α} {b : Bool} {l : List α} {t el yt ty : TypeId} {y : Operand} {dst : Nat} {pos : String} {after : Array Edge} (ht : P.underlying t = some (.slice el)) (hx : E.ev y = .ro (Rd.slice R) b l)
    (hd : Nat.blt dst fr.nt = true) (k : ∀ nb : Bool, (nb = true → l = []) → WPL P cx fr ops os (E.upd dst (.lit (.bool nb))) M Q) :
    WPL P cx fr ops ({ dst := some dst, op := .binOp .eql t y (.const (.slice none 0 0)) yt, type := ty, pos := pos, after := after, guard := Option.none } :: os) E M Q := by
  intro a w e hh he
  have hv := he.ev y
  rw [hx] at hv
  simp only [Val, Rd.slice] at hv
  have hrun : ∀ (ad : Option Addr) (n c : Nat), (binOp .eql t (.slice ad n c) (.slice none 0 0)).run P w = .ok (.bool ad.isNone) w := by
    intro ad n c
    have h1 : (Op.equal t (.slice ad n c) (.slice none 0 0)).run P w = .ok ad.isNone w := by
      rw [equal_eq, Op.equalIn]
      simp only [Sem.run_bind, run_underlying ht, Result.andThen, Sem.run_pure]
      cases ad <;> rfl
    simp only [binOp, Sem.run_bind, h1, Result.andThen, Sem.run_pure]
  have key : ∀ (ad : Option Addr) (n c : Nat), a.eval y = .slice ad n c → (ad.isNone = true → l = []) → wpListIn (fence fr.r) 0 P ops (Sat cx fr Q) ({ dst := some dst, op := .binOp .eql t y (.const (.slice none 0 0)) yt, type := ty, pos := pos, after := after, guard := Option.none } :: os) a w := by
    intro ad n c hy hn
    unfold wpListIn
    rw [if_pos (by rfl)]
    refine ⟨fun _ _ => trivial, ?_⟩
    rw [semAt_value (x := .bool ad.isNone) (w' := w)]
    · exact k _ hn _ w e hh (he.put hd (by simp [Val]))
    · simp only [exec1, execOp, hy, eval_const, g_slice, Sem.run_bind, Sem.run_pure, Result.andThen, hrun]
  rcases hv with ⟨h0, ad, c, h1⟩ | ⟨bk, o, c, tt, fr', cap, h1, _⟩
  · simp at h1
    exact key ad 0 c h1 (fun _ => h0)
  · simp at h1
    exact key _ _ _ h1 (fun h => by simp at h)

/-- A value told otherwise. -/
theorem q_nm {op : Op} {ty : TypeId} {st : List Nat} {v v' : AVal} (h : Quiet P op ty E M st v) (hv : v = v') : Quiet P op ty E M st v' := hv ▸ h
theorem nm_int {k : IntKind} {a b : Int} (h : some a = some b) : AVal.lit (.int k a) = AVal.lit (.int k b) := by cases h; rfl
theorem nm_bool {a b : Bool} (h : some a = some b) : AVal.lit (.bool a) = AVal.lit (.bool b) := by cases h; rfl
theorem nf {α : Type} {x : Option α} {r : α} {p : Prop} (e : x = none) (h : x = some r) : p := by rw [e] at h; cases h
end

/-- A truth value that is known. -/
theorem lb {a b : Bool} (h : a = b) : AVal.lit (.bool a) = AVal.lit (.bool b) := by rw [h]
theorem bnt {a : Bool} (h : a = true) : (!a) = false := by rw [h]; rfl
theorem bnf {a : Bool} (h : a = false) : (!a) = true := by rw [h]; rfl
theorem bnot {a : Bool} (h : (!a) = true) : a = false := by cases a <;> first | rfl | cases h
theorem ixs {α : Type} {l : List α} {i : Int} {d : α} (h : ix l i = some d) : (ix l i).isSome = true := by rw [h]; rfl
theorem ixj {α : Type} {l : List α} {i : Int} {d : α} (h : ix l i = some d) : l[i.toNat]? = some d := (ix_some h).2.1
theorem ixl {α : Type} {l : List α} {i : Int} {d : α} (h : ix l i = some d) : decide (i.toNat < l.length) = true := by
  have h1 := ix_some h
  exact decide_eq_true (by omega)
theorem Joins.nil {α : Type} {R : Rd α} {b : Bool} : Joins (Rd.slice R) b [] [.lit (.slice none 0 0)] := fun e cs hk ho => by
  simp only [Vals, Val] at hk
  obtain ⟨v, ws, rfl, rfl, rfl⟩ := hk
  exact .inl ⟨rfl, none, 0, rfl⟩

/-- What a body must come to, its memory told anew. -/
def BodyR (rs : List ResultVar) (np : Nat) (Q : Out → Mem → Prop) (x : Ex) (E : Env) (M : Mem) : Prop :=
  match x with
  | .normal | .ret => marksOk M E.d ∧ ∃ vs, resAll E (dropMarks M E.d) rs = some vs ∧ ∃ (l : List Nat) (v : AVal) (M2 : Mem), LeM l np (dropMarks M E.d) M2 ∧ resOut vs = v.ren (sub l) ∧ v.under M2.n = true ∧ Q (.ret v) M2
  | .panic u => marksOk M E.d ∧ ∃ (l : List Nat) (v : AVal) (M2 : Mem), LeM l np (dropMarks M E.d) M2 ∧ u = v.ren (sub l) ∧ v.under M2.n = true ∧ Q (.pan v) M2
  | _ => False

theorem Spec.of_bodyR {P : Program} {f : FuncId} {fn : Func} {c : Code} {np nt : Nat} {args : List AVal} {M : Mem} {Q : Out → Mem → Prop} {rs : List ResultVar} (hf : P.funcs[f]? = some fn) (hb : fn.body = some c) (hr : fn.results.toList = rs) (hsc : ∀ t T, ResultVar.cell t T ∈ rs → Sc P T)
    (hnt : fn.ntmps = nt) (ha : Nat.ble args.length nt = true) (h : ∀ cx, cx.np = np → WP P cx ⟨nt, none⟩ c (argsEnv args) M (BodyR rs np Q)) : Spec P f np args M Q := by
  have h1 : Spec P f np args M fun o M' => match o with
      | .ret u => ∃ (l : List Nat) (v : AVal) (M2 : Mem), LeM l np M' M2 ∧ u = v.ren (sub l) ∧ v.under M2.n = true ∧ Q (.ret v) M2
      | .pan u => ∃ (l : List Nat) (v : AVal) (M2 : Mem), LeM l np M' M2 ∧ u = v.ren (sub l) ∧ v.under M2.n = true ∧ Q (.pan v) M2 := by
    refine Spec.of_body hf hb hr hsc hnt ha fun cx hnp => (h cx hnp).mono fun x E M q => ?_
    cases x with
    | normal => obtain ⟨q1, vs, q2, q3⟩ := q; exact ⟨q1, vs, q2, q3⟩
    | ret => obtain ⟨q1, vs, q2, q3⟩ := q; exact ⟨q1, vs, q2, q3⟩
    | panic u => obtain ⟨q1, q2⟩ := q; exact ⟨q1, q2⟩
    | exit id => exact q
    | goto l => exact q
  intro cx e w vs k1 k2 k3
  refine (h1 cx e w vs k1 k2 k3).mono fun x w' ⟨o, M', e', q, g1, g2⟩ => ?_
  cases o with
  | ret u =>
    obtain ⟨l, v, M2, hM, rfl, hu, hq⟩ := q
    obtain ⟨y, rfl, hy⟩ := g2
    exact ⟨.ret v, M2, _, hq, g1.re k1.np hM, y, rfl, hy.re hu⟩
  | pan u =>
    obtain ⟨l, v, M2, hM, rfl, hu, hq⟩ := q
    obtain ⟨y, rfl, hy⟩ := g2
    exact ⟨.pan v, M2, _, hq, g1.re k1.np hM, y, rfl, hy.re hu⟩
end Go.Q
