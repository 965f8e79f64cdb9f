/- Leaves of a walk, told in the words of what they must come to; states turned; cuts. -/
import Derived.Test.YtnbjdgamindikaaDoorQl
namespace Go.Q
open Go
set_option linter.unusedVariables false
set_option linter.unusedSimpArgs false

/-- A state told otherwise. -/
def Cv (cx : Cx) (nt : Nat) (E : Env) (M : Mem) (E' : Env) (M' : Mem) : Prop :=
  ∀ a w e, Hold cx e M w → Emb nt e M E a → ∃ e', Hold cx e' M' w ∧ Emb nt e' M' E' a

def Ex.plain : Ex → Bool
  | .panic _ => false
  | _ => true

section
variable {P : Program} {cx : Cx} {fr : Fr} {nt : Nat} {E E' E'' : Env} {M M' M'' : Mem} {Q Q' : Ex → Env → Mem → Prop} {x : Ex} {c : Code} {ops : Array Oper} {os : List Oper}

theorem W.cv (k : Cv cx fr.nt E M E' M') (hx : x.plain = true) (h : W cx fr Q x E' M') : W cx fr Q x E M := fun a w e X hh he hX => by
  cases x with
  | panic v => cases hx
  | normal => obtain ⟨e', h1, h2⟩ := k a w e hh he; exact h a w e' X h1 h2 hX
  | exit id => obtain ⟨e', h1, h2⟩ := k a w e hh he; exact h a w e' X h1 h2 hX
  | goto l => obtain ⟨e', h1, h2⟩ := k a w e hh he; exact h a w e' X h1 h2 hX
  | ret => obtain ⟨e', h1, h2⟩ := k a w e hh he; exact h a w e' X h1 h2 hX
theorem WP.cv (k : Cv cx fr.nt E M E' M') (h : WP P cx fr c E' M' Q) : WP P cx fr c E M Q := fun a w e hh he => let ⟨e', h1, h2⟩ := k a w e hh he; h a w e' h1 h2
theorem WPL.cv (k : Cv cx fr.nt E M E' M') (h : WPL P cx fr ops os E' M' Q) : WPL P cx fr ops os E M Q := fun a w e hh he => let ⟨e', h1, h2⟩ := k a w e hh he; h a w e' h1 h2
theorem Cv.same : Cv cx nt E M E M := fun a w e hh he => ⟨e, hh, he⟩
theorem Cv.trans (h : Cv cx nt E M E' M') (k : Cv cx nt E' M' E'' M'') : Cv cx nt E M E'' M'' := fun a w e hh he => let ⟨e', h1, h2⟩ := h a w e hh he; k a w e' h1 h2

theorem WPL.nilW (h : W cx fr Q .normal E M) : WPL P cx fr ops [] E M Q := fun a w e hh he => h a w e _ hh he rfl
theorem WP.skipW (h : W cx fr Q .normal E M) : WP P cx fr .skip E M Q := fun a w e hh he => wpIn_skip (h a w e _ hh he rfl)
theorem WP.labelW {l : Nat} (h : W cx fr Q .normal E M) : WP P cx fr (.label l) E M Q := fun a w e hh he => wpIn_label (h a w e _ hh he rfl)
theorem WP.exitW {id : Nat} (h : W cx fr Q (.exit id) E M) : WP P cx fr (.exit id) E M Q := fun a w e hh he => wpIn_exit (h a w e _ hh he rfl)
theorem WP.gotoW {l : Nat} (h : W cx fr Q (.goto l) E M) : WP P cx fr (.goto l) E M Q := fun a w e hh he => wpIn_goto (h a w e _ hh he rfl)
theorem WP.retW (h : W cx fr Q .ret E M) : WP P cx fr .ret E M Q := fun a w e hh he => wpIn_ret (h a w e _ hh he rfl)
theorem WPD.doneW {st X : List Nat} {fuel : Nat} {listed : Array Bool} (hb : readyNo ops listed = true) (h : W cx fr Q .normal E M) : WPD P cx fr ops st X fuel listed E M Q := by
  intro a w e hh he
  have hready : Region.ready .any ops listed = [] := by simpa [readyNo, List.isEmpty_iff] using hb
  have hs : Sat cx fr Q .normal a w := h a w e _ hh he rfl
  cases fuel with
  | zero => exact ⟨hready, hs⟩
  | succ n => exact ⟨fun _ => hs, by rw [hready]; simp⟩
theorem WPD.split {st X : List Nat} {fuel : Nat} {listed : Array Bool} {t : Nat} {b : Bool} (hv : E.v t = .lit (.bool b)) (h1 : b = true → WPD P cx fr ops st X fuel listed E M Q) (h2 : b = false → WPD P cx fr ops st X fuel listed E M Q) : WPD P cx fr ops st X fuel listed E M Q := by
  cases b with
  | true => exact h1 rfl
  | false => exact h2 rfl
theorem WPD.sub {st X : List Nat} {fuel : Nat} {listed : Array Bool} (X' : List Nat) (hs : X'.all X.contains = true) (k : WPD P cx fr ops st X' fuel listed E M Q) : WPD P cx fr ops st X fuel listed E M Q :=
  fun a w e hh he => wpAnyF_mono (fun _ h => h) (fun _ h => h.nil_of) (fun _ h => h) (fun i hi => List.all_eq_true.1 hs i (by simpa using hi)) _ _ _ _ (k a w e hh he)
theorem WP.regionD' (n : Nat) (st X : List Nat) {id : Nat} (hm : P.follows .mixedOrders = true) (hn : ops.size = n) (h : WPD P cx fr ops st X n (Array.replicate n false) E M Q) : WP P cx fr (.region id ops true) E M Q := by
  subst hn; exact WP.regionD st X hm h

/-- A cut. -/
theorem WP.monoW (h : WP P cx fr c E M Q) (hq : ∀ x E M, Q x E M → W cx fr Q' x E M) : WP P cx fr c E M Q' :=
  fun a w e hh he => Go.wpIn_mono (h a w e hh he) fun X a' w' k => by
    obtain ⟨y, E', M', e', q, h1, h2, h3⟩ := k
    exact hq y E' M' q a' w' e' X h1 h2 h3

theorem Cv.weak {np : Nat} (l : List Nat) (hnp : cx.np = np) (hM : LeM l np M M') (hE : LeE l M'.n E E') : Cv cx nt E M E' M' :=
  fun a w e hh he => ⟨_, hh.re hnp hM, he.re hM hE⟩
/-- A state told otherwise, its naming going on. -/
def CvL (cx : Cx) (nt : Nat) (E : Env) (M : Mem) (E' : Env) (M' : Mem) : Prop :=
  ∀ a w e, Hold cx e M w → Emb nt e M E a → ∃ e', Hold cx e' M' w ∧ Emb nt e' M' E' a ∧ e.le e'
theorem CvL.cv (h : CvL cx nt E M E' M') : Cv cx nt E M E' M' := fun a w e hh he => let ⟨e', h1, h2, _⟩ := h a w e hh he; ⟨e', h1, h2⟩
theorem WPD.cvL {st X : List Nat} {fuel : Nat} {listed : Array Bool} (k : CvL cx fr.nt E M E' M') (hst : (st.all fun i => Nat.blt i M.n) = true) (h : WPD P cx fr ops st X fuel listed E' M' Q) : WPD P cx fr ops st X fuel listed E M Q := fun a w e hh he => by
  obtain ⟨e', h1, h2, hle⟩ := k a w e hh he
  have key : ∀ (l : List Nat), (l.all fun i => Nat.blt i M.n) = true → ∀ w1, Agree e' l w w1 → Agree e l w w1 := fun l hl w1 hw => ⟨fun b o hb => hw.ro b o (hle.m b o hb), fun b o hb => hw.bro b o (hle.bm b o hb), fun i hi hv => by
    have hin : i < e.n := by rw [hh.n]; simpa using List.all_eq_true.1 hl i hi
    have := hw.own i hi ((hle.vir i hin).trans hv)
    rw [hle.own i hin] at this
    exact this⟩
  exact wpAnyF_mono (key [] rfl) (fun w1 h => (key st hst w1 h).nil_of) (key st hst) (fun _ h => h) _ _ _ _ (h a w e' h1 h2)
theorem CvL.vir {α : Type} (ct : TypeId) (R : Rd α) {N : Nat} (hN : M.n = N) (tt : Nat) (hv : E.v tt = .lit (.slice none 0 0)) : CvL cx nt E M (E.upd tt (.whole N)) (M.push (.row ct R [])) := by
  intro a w e hh he
  refine ⟨e.bump 0 0 0 true, hh.bindVir, ?_, e.bump_le 0 0 0 true⟩
  have h1 : Emb nt (e.bump 0 0 0 true) (M.push (.row ct R [])) E a := he.mono (e.bump_le 0 0 0 true) (fun b => e.bump_mem 0 0 0 true b)
  refine ⟨h1.sz, fun u => ?_, h1.d, h1.o⟩
  rw [Env.upd_v]
  split
  · rename_i hu
    subst hu
    have := h1.v u
    rw [hv] at this
    simp only [Val] at this
    rw [this]
    simp only [Val, Nv.bump, ← hN, ← hh.n, if_true]
    exact ⟨Nat.lt_succ_self _, Nat.le_refl _, trivial, trivial⟩
  · exact h1.v u
theorem Cv.vir {α : Type} (ct : TypeId) (R : Rd α) {N : Nat} (hN : M.n = N) (tt : Nat) (hv : E.v tt = .lit (.slice none 0 0)) : Cv cx nt E M (E.upd tt (.whole N)) (M.push (.row ct R [])) := CvL.cv (CvL.vir ct R hN tt hv)
theorem CvL.virC {α : Type} (ct : TypeId) (R : Rd α) {i off N : Nat} {t : TypeId} {l : List AVal} (hN : M.n = N) (hi : Nat.blt i N = true) (hc : M.at_ i = .cells t l) (hv : l[off]? = some (.lit (.slice none 0 0))) :
    CvL cx nt E M E ((M.push (.row ct R [])).set i (.cells t (l.set off (.whole N)))) :=
  fun a w e hh he => ⟨_, hh.virCell hN (by simpa using hi) hc hv, he.mono (e.bump_le 0 0 0 true) (fun b => e.bump_mem 0 0 0 true b), e.bump_le 0 0 0 true⟩
theorem Cv.virC {α : Type} (ct : TypeId) (R : Rd α) {i off N : Nat} {t : TypeId} {l : List AVal} (hN : M.n = N) (hi : Nat.blt i N = true) (hc : M.at_ i = .cells t l) (hv : l[off]? = some (.lit (.slice none 0 0))) :
    Cv cx nt E M E ((M.push (.row ct R [])).set i (.cells t (l.set off (.whole N)))) := CvL.cv (CvL.virC ct R hN hi hc hv)
theorem Cv.frzRow {i np : Nat} {t : TypeId} {α : Type} {R : Rd α} {l : List α} (hi : Nat.blt i M.n = true) (hc : M.at_ i = .row t R l) (hnp : cx.np = np) (hni : Nat.ble np i = true) (hd : (E.d.all fun j => !Nat.beq j i) = true) :
    Cv cx nt E M (E.frz i (.ro (Rd.slice R) false l) .any) (M.frz i (.ro (Rd.slice R) false l) .any) :=
  fun a w e hh he => let ⟨e', h1, h2, _⟩ := freeze_row hh he hi hc hnp hni hd; ⟨e', h1, h2⟩
theorem Cv.frzCells {i np : Nat} {t : TypeId} {α : Type} {R : Rd α} {d : α} {l : List AVal} (hi : Nat.blt i M.n = true) (hc : M.at_ i = .cells t l) (hj : Joins R false d l) (hl : Nat.beq l.length R.sz = true) (hnp : cx.np = np) (hni : Nat.ble np i = true) (hd : (E.d.all fun j => !Nat.beq j i) = true) :
    Cv cx nt E M (E.frz i .any (.ro (Rd.ptr R) false d)) (M.frz i .any (.ro (Rd.ptr R) false d)) :=
  fun a w e hh he => let ⟨e', h1, h2, _⟩ := freeze_cells hh he hi hc hj hl hnp hni hd; ⟨e', h1, h2⟩
theorem CvL.frzRow {i np : Nat} {t : TypeId} {α : Type} {R : Rd α} {l : List α} (hi : Nat.blt i M.n = true) (hc : M.at_ i = .row t R l) (hnp : cx.np = np) (hni : Nat.ble np i = true) (hd : (E.d.all fun j => !Nat.beq j i) = true) :
    CvL cx nt E M (E.frz i (.ro (Rd.slice R) false l) .any) (M.frz i (.ro (Rd.slice R) false l) .any) :=
  fun a w e hh he => freeze_row hh he hi hc hnp hni hd
theorem CvL.frzCells {i np : Nat} {t : TypeId} {α : Type} {R : Rd α} {d : α} {l : List AVal} (hi : Nat.blt i M.n = true) (hc : M.at_ i = .cells t l) (hj : Joins R false d l) (hl : Nat.beq l.length R.sz = true) (hnp : cx.np = np) (hni : Nat.ble np i = true) (hd : (E.d.all fun j => !Nat.beq j i) = true) :
    CvL cx nt E M (E.frz i .any (.ro (Rd.ptr R) false d)) (M.frz i .any (.ro (Rd.ptr R) false d)) :=
  fun a w e hh he => freeze_cells hh he hi hc hj hl hnp hni hd

/-- Nil, as a slice that is only read. -/
theorem nil_ro {e : Nv} {α : Type} (R : Rd α) (b : Bool) {v : Value} (h : Val e (.lit (.slice none 0 0)) v) : Val e (.ro (Rd.slice R) b []) v := by
  simp only [Val] at h ⊢
  exact .inl ⟨rfl, none, 0, by rw [h]⟩
theorem Cv.nilRo {α : Type} (R : Rd α) (b : Bool) (tt : Nat) (hv : E.v tt = .lit (.slice none 0 0)) : Cv cx nt E M (E.upd tt (.ro (Rd.slice R) b [])) M := by
  intro a w e hh he
  refine ⟨e, hh, he.sz, fun u => ?_, he.d, he.o⟩
  rw [Env.upd_v]
  split
  · rename_i hu
    subst hu
    have := he.v u
    rw [hv] at this
    exact nil_ro R b this
  · exact he.v u
theorem Cv.nilRoC {α : Type} (R : Rd α) (b : Bool) {i off : Nat} {t : TypeId} {l : List AVal} (hi : Nat.blt i M.n = true) (hc : M.at_ i = .cells t l) (hv : l[off]? = some (.lit (.slice none 0 0))) :
    Cv cx nt E M E (M.set i (.cells t (l.set off (.ro (Rd.slice R) b [])))) :=
  fun a w e hh he => by
    have hin : i < e.n := by rw [hh.n]; simpa using hi
    have hlive : (M.at_ i).live e i := by rw [hc]; trivial
    refine ⟨e, hh.change hin hlive rfl rfl rfl rfl (fun _ _ => rfl) ?_, he.mem⟩
    have hk := hh.ch i hin
    rw [hc] at hk
    obtain ⟨g1, vs, g2, g3, g4⟩ := hk
    refine ⟨g1, vs, g2, ?_, g4⟩
    obtain ⟨u, hu, hval⟩ := g3.get hv
    have hset : vs = vs.set off u := by
      apply List.ext_getElem?
      intro j
      rw [List.getElem?_set]
      split
      · rename_i hj; subst hj; split
        · rename_i hlt; rw [hu]
        · rename_i hge; rw [List.getElem?_eq_none (by omega)]
      · rfl
    rw [hset]
    exact g3.set (nil_ro R b hval)

/-- Is a slice that is only read nil? If so it is empty. -/
theorem WPL.eqlNil {α : Type} {R : Rd α} {b : Bool} {l : List α} {t el yt ty : TypeId} {y : Operand} {dst : Nat} {pos : String} {after : Array Edge} (ht : P.underlying t = some (.slice el)) (hx : E.ev y = .ro (Rd.slice R) b l)
    (hd : Nat.blt dst fr.nt = true) (k : ∀ nb : Bool, (nb = true → l = []) → WPL P cx fr ops os (E.upd dst (.lit (.bool nb))) M Q) :
    WPL P cx fr ops ({ dst := some dst, op := .binOp .eql t y (.const (.slice none 0 0)) yt, type := ty, pos := pos, after := after, guard := Option.none } :: os) E M Q := by
  intro a w e hh he
  have hv := he.ev y
  rw [hx] at hv
  simp only [Val, Rd.slice] at hv
  have hrun : ∀ (ad : Option Addr) (n c : Nat), (binOp .eql t (.slice ad n c) (.slice none 0 0)).run P w = .ok (.bool ad.isNone) w := by
    intro ad n c
    have h1 : (Op.equal t (.slice ad n c) (.slice none 0 0)).run P w = .ok ad.isNone w := by
      rw [equal_eq, Op.equalIn]
      simp only [Sem.run_bind, run_underlying ht, Result.andThen, Sem.run_pure]
      cases ad <;> rfl
    simp only [binOp, Sem.run_bind, h1, Result.andThen, Sem.run_pure]
  have key : ∀ (ad : Option Addr) (n c : Nat), a.eval y = .slice ad n c → (ad.isNone = true → l = []) → wpListIn (fence fr.r) 0 P ops (Sat cx fr Q) ({ dst := some dst, op := .binOp .eql t y (.const (.slice none 0 0)) yt, type := ty, pos := pos, after := after, guard := Option.none } :: os) a w := by
    intro ad n c hy hn
    unfold wpListIn
    rw [if_pos (by rfl)]
    refine ⟨fun _ _ => trivial, ?_⟩
    rw [semAt_value (x := .bool ad.isNone) (w' := w)]
    · exact k _ hn _ w e hh (he.put hd (by simp [Val]))
    · simp only [exec1, execOp, hy, eval_const, g_slice, Sem.run_bind, Sem.run_pure, Result.andThen, hrun]
  rcases hv with ⟨h0, ad, c, h1⟩ | ⟨bk, o, c, tt, fr', cap, h1, _⟩
  · simp at h1
    exact key ad 0 c h1 (fun _ => h0)
  · simp at h1
    exact key _ _ _ h1 (fun h => by simp at h)

/-- A value told otherwise. -/
theorem q_nm {op : Op} {ty : TypeId} {st : List Nat} {v v' : AVal} (h : Quiet P op ty E M st v) (hv : v = v') : Quiet P op ty E M st v' := hv ▸ h
theorem nm_int {k : IntKind} {a b : Int} (h : some a = some b) : AVal.lit (.int k a) = AVal.lit (.int k b) := by cases h; rfl
theorem nm_bool {a b : Bool} (h : some a = some b) : AVal.lit (.bool a) = AVal.lit (.bool b) := by cases h; rfl
theorem nf {α : Type} {x : Option α} {r : α} {p : Prop} (e : x = none) (h : x = some r) : p := by rw [e] at h; cases h
end

/-- A truth value that is known. -/
theorem lb {a b : Bool} (h : a = b) : AVal.lit (.bool a) = AVal.lit (.bool b) := by rw [h]
theorem bnt {a : Bool} (h : a = true) : (!a) = false := by rw [h]; rfl
theorem bnf {a : Bool} (h : a = false) : (!a) = true := by rw [h]; rfl
theorem bnot {a : Bool} (h : (!a) = true) : a = false := by cases a <;> first | rfl | cases h
theorem ixs {α : Type} {l : List α} {i : Int} {d : α} (h : ix l i = some d) : (ix l i).isSome = true := by rw [h]; rfl
theorem ixj {α : Type} {l : List α} {i : Int} {d : α} (h : ix l i = some d) : l[i.toNat]? = some d := (ix_some h).2.1
theorem ixl {α : Type} {l : List α} {i : Int} {d : α} (h : ix l i = some d) : decide (i.toNat < l.length) = true := by
  have h1 := ix_some h
  exact decide_eq_true (by omega)
theorem Joins.nil {α : Type} {R : Rd α} {b : Bool} : Joins (Rd.slice R) b [] [.lit (.slice none 0 0)] := fun e cs hk ho => by
  simp only [Vals, Val] at hk
  obtain ⟨v, ws, rfl, rfl, rfl⟩ := hk
  exact .inl ⟨rfl, none, 0, rfl⟩

/-- What a body must come to, its memory told anew. -/
def BodyR (rs : List ResultVar) (np : Nat) (Q : Out → Mem → Prop) (x : Ex) (E : Env) (M : Mem) : Prop :=
  match x with
  | .normal | .ret => marksOk M E.d ∧ ∃ vs, resAll E (dropMarks M E.d) rs = some vs ∧ ∃ (l : List Nat) (v : AVal) (M2 : Mem), LeM l np (dropMarks M E.d) M2 ∧ resOut vs = v.ren (sub l) ∧ v.under M2.n = true ∧ Q (.ret v) M2
  | .panic u => marksOk M E.d ∧ ∃ (l : List Nat) (v : AVal) (M2 : Mem), LeM l np (dropMarks M E.d) M2 ∧ u = v.ren (sub l) ∧ v.under M2.n = true ∧ Q (.pan v) M2
  | _ => False

theorem Spec.of_bodyR {P : Program} {f : FuncId} {fn : Func} {c : Code} {np nt : Nat} {args : List AVal} {M : Mem} {Q : Out → Mem → Prop} {rs : List ResultVar} (hf : P.funcs[f]? = some fn) (hb : fn.body = some c) (hr : fn.results.toList = rs) (hsc : ∀ t T, ResultVar.cell t T ∈ rs → Sc P T)
    (hnt : fn.ntmps = nt) (ha : Nat.ble args.length nt = true) (h : ∀ cx, cx.np = np → WP P cx ⟨nt, none⟩ c (argsEnv args) M (BodyR rs np Q)) : Spec P f np args M Q := by
  have h1 : Spec P f np args M fun o M' => match o with
      | .ret u => ∃ (l : List Nat) (v : AVal) (M2 : Mem), LeM l np M' M2 ∧ u = v.ren (sub l) ∧ v.under M2.n = true ∧ Q (.ret v) M2
      | .pan u => ∃ (l : List Nat) (v : AVal) (M2 : Mem), LeM l np M' M2 ∧ u = v.ren (sub l) ∧ v.under M2.n = true ∧ Q (.pan v) M2 := by
    refine Spec.of_body hf hb hr hsc hnt ha fun cx hnp => (h cx hnp).mono fun x E M q => ?_
    cases x with
    | normal => obtain ⟨q1, vs, q2, q3⟩ := q; exact ⟨q1, vs, q2, q3⟩
    | ret => obtain ⟨q1, vs, q2, q3⟩ := q; exact ⟨q1, vs, q2, q3⟩
    | panic u => obtain ⟨q1, q2⟩ := q; exact ⟨q1, q2⟩
    | exit id => exact q
    | goto l => exact q
  intro cx e w vs k1 k2 k3
  refine (h1 cx e w vs k1 k2 k3).mono fun x w' ⟨o, M', e', q, g1, g2⟩ => ?_
  cases o with
  | ret u =>
    obtain ⟨l, v, M2, hM, rfl, hu, hq⟩ := q
    obtain ⟨y, rfl, hy⟩ := g2
    exact ⟨.ret v, M2, _, hq, g1.re k1.np hM, y, rfl, hy.re hu⟩
  | pan u =>
    obtain ⟨l, v, M2, hM, rfl, hu, hq⟩ := q
    obtain ⟨y, rfl, hy⟩ := g2
    exact ⟨.pan v, M2, _, hq, g1.re k1.np hM, y, rfl, hy.re hu⟩

/-! ### Scopes -/
section
variable {P : Program} {b : Frame} {a : Act} {k : List Item} {cs : List Frame} {w : World}
theorem stepR_scope {c : Code} : step P (lone (b.atR a (.code (.scope c) :: k)) cs w) = .next (lone (b.atR a (.code c :: .inScope c :: k)) cs w) :=
  step_lone_go (by simp [stepG, stepG.exec, Frame.atR])
theorem stepR_inScope {c : Code} : step P (lone (b.atR a (.inScope c :: k)) cs w) = .next (lone (b.atR a k) cs w) :=
  step_lone_go (by simp [stepG, stepG.exec, Frame.atR])
end
/-- A scope through which the walk goes without a goto. -/
theorem WP.scope {P : Program} {cx : Cx} {fr : Fr} {c : Code} {E : Env} {M : Mem} {Q : Ex → Env → Mem → Prop} (h : WP P cx fr c E M fun x E M => (match x with | .goto _ => False | _ => True) ∧ Q x E M) : WP P cx fr (.scope c) E M Q := by
  intro a w e hh he b k cs hro hb hr
  obtain ⟨x, a1, w1, hq, harr⟩ := h a w e hh he b (.inScope c :: k) cs hro hb hr
  have h0 : (lone (b.atR a (.code (.scope c) :: k)) cs w).fenced P (fence fr.r) := fenced_calm hb hr rfl
  obtain ⟨y, E', M', e', ⟨q1, q2⟩, g1, g2, g3⟩ := hq
  have hs : Sat cx fr Q x a1 w1 := ⟨y, E', M', e', q2, g1, g2, g3⟩
  cases y with
  | normal => cases g3; exact ⟨.normal, a1, w1, hs, .head h0 stepR_scope (StepsIn.trans harr (.one (fenced_calm hb hr rfl) stepR_inScope))⟩
  | exit id =>
    cases g3
    have hx : exitTo id (.inScope c :: k) = exitTo id k := by simp [exitTo]
    exact ⟨.exit id, a1, w1, hs, fun k' hk => .head h0 stepR_scope (harr.1 k' (by rw [hx]; exact hk)), fun hr' hk => let ⟨k1, h1, h2⟩ := harr.2 hr' (by rw [hx]; exact hk); ⟨k1, h1, .head h0 stepR_scope h2⟩⟩
  | goto l => exact q1.elim
  | ret => cases g3; exact ⟨_, a1, w1, hs, .of_steps (.one h0 stepR_scope) harr⟩
  | panic u =>
    obtain ⟨v, rfl, hv⟩ := g3
    exact ⟨_, a1, w1, hs, .of_steps (.one h0 stepR_scope) harr⟩
theorem Scope.n {Q : Ex → Env → Mem → Prop} {E : Env} {M : Mem} (h : Q .normal E M) : (match Ex.normal with | .goto _ => False | _ => True) ∧ Q .normal E M := ⟨trivial, h⟩
theorem Scope.r {Q : Ex → Env → Mem → Prop} {E : Env} {M : Mem} (h : Q .ret E M) : (match Ex.ret with | .goto _ => False | _ => True) ∧ Q .ret E M := ⟨trivial, h⟩
theorem Scope.x {Q : Ex → Env → Mem → Prop} {E : Env} {M : Mem} {id : Nat} (h : Q (.exit id) E M) : (match Ex.exit id with | .goto _ => False | _ => True) ∧ Q (.exit id) E M := ⟨trivial, h⟩

/-! ### Marks of ranges over functions, in a loop -/
section
variable {cx : Cx} {e : Nv} {M : Mem} {w : World} {E : Env} {nt : Nat}

/-- A mark that stands for nothing. -/
theorem Hold.bindBag (h : Hold cx e M w) : Hold cx (e.bump 0 0 0 true) (M.push .bag) w := by
  have h1 := h.bindVir (t := 0) (R := Rd.unit)
  have hat : ∀ i, ((M.push .bag).at_ i) = if i = M.n then .bag else (M.push (.row 0 Rd.unit [])).at_ i := by
    intro i; rw [Mem.push_at, Mem.push_at]; split <;> rfl
  have hatn : (M.push (.row 0 Rd.unit [])).at_ M.n = .row 0 Rd.unit [] := by rw [Mem.push_at, if_pos rfl]
  have hvn : (e.bump 0 0 0 true).vir M.n = true := by simp [Nv.bump, h.n]
  have hbn : (e.bump 0 0 0 true).bag M.n = [] := by simp [Nv.bump, h.n]
  have lv : ∀ i, ((M.push .bag).at_ i).live (e.bump 0 0 0 true) i → ((M.push (.row 0 Rd.unit [])).at_ i).live (e.bump 0 0 0 true) i := by
    intro i hl
    rw [hat] at hl
    split at hl
    · exact hl.elim
    · exact hl
  have mk : ∀ i, ((M.push .bag).at_ i).mark = true → i = M.n ∨ ((M.push (.row 0 Rd.unit [])).at_ i).mark = true := by
    intro i hm
    rw [hat] at hm
    split at hm
    · exact .inl (by assumption)
    · exact .inr hm
  refine ⟨h1.bm, h1.n, h1.size, h1.os, h1.tape, h1.output, h1.frame, h1.ro, h1.bro, h1.m0, h1.mnew, ?_, fun i hi hl => h1.live i hi (lv i hl), fun i j hi hj hli hlj => h1.dist i j hi hj (lv i hli) (lv j hlj), h1.np, h1.pin, ⟨?_, ?_, ?_, ?_⟩⟩
  · intro i hi
    rw [hat]
    split
    · rename_i hin; subst hin; exact hvn
    · exact h1.ch i hi
  · intro i hi hm
    rcases mk i hm with rfl | hm
    · rw [hbn]; exact List.nodup_nil
    · exact h1.bag.nodup i hi hm
  · intro i hi hm x hx
    rcases mk i hm with rfl | hm
    · rw [hbn] at hx; cases hx
    · exact h1.bag.at_ i hi hm x hx
  · intro i hi hm x hx j hj hlj
    rcases mk i hm with rfl | hm
    · rw [hbn] at hx; cases hx
    · exact h1.bag.own i hi hm x hx j hj (lv j hlj)
  · intro i j hi hj hmi hmj hij x hx
    rcases mk i hmi with rfl | hmi
    · rw [hbn] at hx; cases hx
    · rcases mk j hmj with rfl | hmj
      · rw [hbn]; simp
      · exact h1.bag.dist i j hi hj hmi hmj hij x hx

theorem Cv.nullMark {N : Nat} (hN : M.n = N) (hd : E.d = []) : Cv cx nt E M ⟨E.v, [N], E.o⟩ (M.push .bag) := by
  intro a w e hh he
  have h1 : Emb nt (e.bump 0 0 0 true) (M.push .bag) E a := he.mono (e.bump_le 0 0 0 true) (fun b => e.bump_mem 0 0 0 true b)
  refine ⟨_, hh.bindBag, h1.sz, h1.v, ?_, h1.o⟩
  have hd1 := h1.d
  rw [hd] at hd1
  refine ⟨[], ?_, by simp [Nv.bump, hh.n, hN], rfl⟩
  have : markBlocks (e.bump 0 0 0 true) N = [] := by simp [markBlocks, Nv.bump, hh.n, hN]
  rw [this]
  exact hd1
end

/-- One name more, for a bag of marks. -/
def Nv.bumpBag (e : Nv) (bs : List Nat) : Nv := { e.bump 0 0 0 true with bag := fun k => if k = e.n then bs else e.bag k }
theorem Nv.bumpBag_le (e : Nv) (bs : List Nat) : e.le (e.bumpBag bs) :=
  ⟨Ro.le.refl _, Ro.le.refl _, Nat.le_succ _, (e.bump_le 0 0 0 true).own, (e.bump_le 0 0 0 true).caps, (e.bump_le 0 0 0 true).lens, (e.bump_le 0 0 0 true).vir, fun i hi => by simp [Nv.bumpBag, Nat.ne_of_lt hi]⟩
theorem Nv.bumpBag_mem (e : Nv) (bs : List Nat) (x : Bool) : Ro.le (e.mem x) ((e.bumpBag bs).mem x) := Ro.le.refl _

section
variable {cx : Cx} {e : Nv} {M : Mem} {w : World} {E : Env} {nt : Nat}
theorem Hold.bindBagL (h : Hold cx e M w) {bs : List Nat} (hn : bs.Nodup) (hb : ∀ b ∈ bs, w.heap[b]? = some (.deferred (some [])) ∧ Trash cx e M b) : Hold cx (e.bumpBag bs) (M.push .bag) w := by
  have hle := e.bumpBag_le bs
  have hat : ∀ i, i < e.n → (M.push .bag).at_ i = M.at_ i := fun i hi => by rw [Mem.push_at, if_neg (by rw [← h.n]; omega)]
  have hatn : (M.push .bag).at_ e.n = .bag := by rw [Mem.push_at, if_pos h.n]
  have split : ∀ i, i < (e.bumpBag bs).n → i = e.n ∨ i < e.n := fun i hi => by simp only [Nv.bumpBag, Nv.bump] at hi; omega
  have bn : (e.bumpBag bs).bag e.n = bs := by simp [Nv.bumpBag]
  have bo : ∀ i, i < e.n → (e.bumpBag bs).bag i = e.bag i := hle.bag
  have hdead : ¬ ((M.push .bag).at_ e.n).live (e.bumpBag bs) e.n := by rw [hatn]; exact fun h => h
  refine ⟨h.bm, by simp [Nv.bumpBag, Nv.bump, Mem.push, h.n], h.size, h.os, h.tape, h.output, h.frame, h.ro, h.bro, h.m0, h.mnew, ?_, ?_, ?_, Nat.le_succ_of_le h.np, ?_, ?_⟩
  · intro i hi
    rcases split i hi with rfl | hi'
    · rw [hatn]; simp [Chunk.ok, Nv.bumpBag, Nv.bump]
    · rw [hat i hi']
      exact Chunk.ok_mono hle (fun x => e.bumpBag_mem bs x) hi' (h.ch i hi')
  · intro i hi hl
    rcases split i hi with rfl | hi'
    · exact absurd hl hdead
    · rw [hat i hi'] at hl
      have := h.live i hi' ((live_congr (hle.vir i hi')).1 hl)
      rw [hle.own i hi']
      exact this
  · intro i j hi hj hli hlj hij
    rcases split i hi with rfl | hi'
    · exact absurd hli hdead
    rcases split j hj with rfl | hj'
    · exact absurd hlj hdead
    rw [hat i hi'] at hli
    rw [hat j hj'] at hlj
    rw [hle.own i hi', hle.own j hj'] at hij
    exact h.dist i j hi' hj' ((live_congr (hle.vir i hi')).1 hli) ((live_congr (hle.vir j hj')).1 hlj) hij
  · intro i hi
    have hi' : i < e.n := by have := h.np; omega
    rw [hle.own i hi', hle.caps i hi', hle.lens i hi', hle.vir i hi']
    exact h.pin i hi
  · refine ⟨fun i hi hmk => ?_, fun i hi hmk x hx => ?_, fun i hi hmk x hx j hj hlj => ?_, fun i j hi hj hmi hmj hij x hx => ?_⟩
    · rcases split i hi with rfl | hi'
      · rw [bn]; exact hn
      · rw [hat i hi'] at hmk; rw [bo i hi']; exact h.bag.nodup i hi' hmk
    · rcases split i hi with rfl | hi'
      · rw [bn] at hx
        obtain ⟨h1, h2⟩ := hb x hx
        exact ⟨h1, h2.m, h2.bm, h2.F⟩
      · rw [hat i hi'] at hmk; rw [bo i hi'] at hx
        exact h.bag.at_ i hi' hmk x hx
    · rcases split j hj with rfl | hj'
      · exact absurd hlj hdead
      · rw [hat j hj'] at hlj
        rw [hle.own j hj']
        have hlj' := (live_congr (hle.vir j hj')).1 hlj
        rcases split i hi with rfl | hi'
        · rw [bn] at hx; exact (hb x hx).2.own j hj' hlj'
        · rw [hat i hi'] at hmk; rw [bo i hi'] at hx
          exact h.bag.own i hi' hmk x hx j hj' hlj'
    · rcases split i hi with rfl | hi'
      · rw [bn] at hx
        rcases split j hj with rfl | hj'
        · exact absurd rfl hij
        · rw [hat j hj'] at hmj; rw [bo j hj']
          exact (hb x hx).2.bag j hj' hmj
      · rw [hat i hi'] at hmi; rw [bo i hi'] at hx
        rcases split j hj with rfl | hj'
        · rw [bn]
          exact fun hxb => (hb x hxb).2.bag i hi' hmi hx
        · rw [hat j hj'] at hmj; rw [bo j hj']
          exact h.bag.dist i j hi' hj' hmi hmj hij x hx

/-- A finished mark and a bag, as one bag. -/
theorem Cv.absorb {N i j : Nat} {l : List Nat} (hN : M.n = N) (hd : E.d = j :: i :: l) (hj : M.at_ j = .obj (.deferred (some []))) (hi : M.at_ i = .bag) : Cv cx nt E M ⟨E.v, N :: l, E.o⟩ (((M.set j .gone).set i .gone).push .bag) := by
  intro a w e hh he
  have hdm := he.d
  rw [hd] at hdm
  obtain ⟨r1, hr1, hjn, i1, hi1, hin, hr2⟩ := hdm
  have hij : j ≠ i := by rintro rfl; rw [hj] at hi; cases hi
  have hjm : (M.at_ j).mark = true := by rw [hj]; rfl
  have him : (M.at_ i).mark = true := by rw [hi]; rfl
  have hjl : (M.at_ j).live e j := by rw [hj]; trivial
  have hcj := hh.ch j hjn
  rw [hj] at hcj
  obtain ⟨hvj, hbj⟩ := hcj
  have hci := hh.ch i hin
  rw [hi] at hci
  have hvi : e.vir i = true := hci
  have hlj := hh.live j hjn hjl
  let bs := e.own j :: (e.bag j ++ e.bag i)
  have hh2 : Hold cx e ((M.set j .gone).set i .gone) w := (hh.drop j).drop i
  have at2 : ∀ k, ((M.set j .gone).set i .gone).at_ k = if k = i then .gone else if k = j then .gone else M.at_ k := by
    intro k; rw [Mem.set_at]; split
    · rfl
    · rw [Mem.set_at]
  have lv : ∀ k, (((M.set j .gone).set i .gone).at_ k).live e k → k ≠ j ∧ (M.at_ k).live e k := by
    intro k hk
    rw [at2] at hk
    split at hk
    · exact hk.elim
    · split at hk
      · exact hk.elim
      · exact ⟨by assumption, hk⟩
  have mk : ∀ k, (((M.set j .gone).set i .gone).at_ k).mark = true → k ≠ j ∧ k ≠ i ∧ (M.at_ k).mark = true := by
    intro k hk
    rw [at2] at hk
    split at hk
    · cases hk
    · split at hk
      · cases hk
      · exact ⟨by assumption, by assumption, hk⟩
  have hnd : bs.Nodup := by
    refine List.nodup_cons.2 ⟨?_, List.nodup_append.2 ⟨hh.bag.nodup j hjn hjm, hh.bag.nodup i hin him, ?_⟩⟩
    · intro hm
      rcases List.mem_append.1 hm with hm | hm
      · exact hh.bag.own j hjn hjm _ hm j hjn hjl rfl
      · exact hh.bag.own i hin him _ hm j hjn hjl rfl
    · intro x hx y hy hxy
      subst hxy
      exact hh.bag.dist j i hjn hin hjm him hij x hx hy
  have htr : ∀ b ∈ bs, w.heap[b]? = some (.deferred (some [])) ∧ Trash cx e ((M.set j .gone).set i .gone) b := by
    intro b hb
    rcases List.mem_cons.1 hb with rfl | hb
    · refine ⟨hbj, hlj.2.1, hlj.2.2.1, hlj.2.2.2, fun k hk hl => ?_, fun k hk hm hx => ?_⟩
      · obtain ⟨h1, h2⟩ := lv k hl
        exact fun he => h1 (hh.dist k j hk hjn h2 hjl he)
      · exact hh.bag.own k hk (mk k hm).2.2 _ hx j hjn hjl rfl
    · have key : ∀ q, q < e.n → (M.at_ q).mark = true → (q = j ∨ q = i) → b ∈ e.bag q → w.heap[b]? = some (.deferred (some [])) ∧ Trash cx e ((M.set j .gone).set i .gone) b := by
        intro q hq hqm hqji hbq
        obtain ⟨g1, g2, g3, g4⟩ := hh.bag.at_ q hq hqm b hbq
        refine ⟨g1, g2, g3, g4, fun k hk hl => hh.bag.own q hq hqm b hbq k hk (lv k hl).2, fun k hk hm => ?_⟩
        obtain ⟨m1, m2, m3⟩ := mk k hm
        refine hh.bag.dist q k hq hk hqm m3 ?_ b hbq
        rcases hqji with rfl | rfl
        · exact fun h => m1 h.symm
        · exact fun h => m2 h.symm
      rcases List.mem_append.1 hb with hb | hb
      · exact key j hjn hjm (.inl rfl) hb
      · exact key i hin him (.inr rfl) hb
  have hle := e.bumpBag_le bs
  have h1 : Emb nt (e.bumpBag bs) (((M.set j .gone).set i .gone).push .bag) E a := he.mono hle (fun b => e.bumpBag_mem bs b)
  have hNe : N = e.n := by rw [← hN, hh.n]
  refine ⟨_, hh2.bindBagL hnd htr, h1.sz, h1.v, ?_, h1.o⟩
  refine ⟨i1, ?_, by rw [hNe]; simp [Nv.bumpBag, Nv.bump], hr2.mono hle⟩
  have e1 : markBlocks (e.bumpBag bs) N = bs := by
    subst hNe; simp [markBlocks, Nv.bumpBag, Nv.bump]
  have e2 : markBlocks e j = e.own j :: e.bag j := by simp [markBlocks, hvj]
  have e3 : markBlocks e i = e.bag i := by simp [markBlocks, hvi]
  show a.defers = _
  rw [hr1, hi1, e1, e2, e3]
  simp [bs]
end
end Go.Q
