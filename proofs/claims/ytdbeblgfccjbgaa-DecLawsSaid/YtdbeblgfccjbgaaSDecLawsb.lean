/- Texts joined: part 2 of what LDecLaws stands on. -/
import Derived.Test.YtdbeblgfccjbgaaSDecLawsa
import Derived.Laws.BytesString
import Derived.ChangeArms
import Derived.Carry
import Derived.Lib.ConvBytes
import Derived.Lib.MakeNoZero
import Derived.Lib.UnsafeStr
import Derived.Lib.Builder
import Derived.Laws.StructEq
namespace Go.Q
open Go
set_option linter.unusedVariables false
set_option linter.unusedSimpArgs false
/-- A loop's record. -/
def lp (r : Loop) (s : LoopState) (p : Option Code) : Obj := .loop { r with state := s, pending := p }
/-- How a piece is left, as a pending jump. -/
def jumpOf : Ex → Option (Option Code)
  | .normal => some none
  | .ret => some (some .ret)
  | .exit id => some (some (.exit id))
  | .goto l => some (some (.goto l))
  | .panic _ => none
/-- What the iterator's body must come to. -/
def RangeQ (P : Program) (cx : Cx) (fr : Fr) (aC : Act) (r : Loop) (l : Nat) (Q : Ex → Env → Mem → Prop) (x : Ex) (E : Env) (M : Mem) : Prop :=
  marksOk M E.d ∧ ∃ v d os lid, E.o = ⟨aC, v, d, some (lid, l)⟩ :: os ∧
    match x with
    | .normal | .ret => ∃ s j, (dropMarks M E.d).at_ lid = .obj (lp r s j) ∧ s ≠ .busy ∧
        (match j with
         | none => W cx fr Q .normal ⟨v, d, os⟩ ((dropMarks M E.d).set lid .gone)
         | some c => WP P cx fr c ⟨v, d, os⟩ ((dropMarks M E.d).set lid .gone) Q)
    | .panic u => Q (.panic u) ⟨v, d, os⟩ (dropMarks M E.d)
    | _ => False
theorem okO_mem {e : Nv} {M M' : Mem} {p : OEnv} (h : okO e M p) : okO e M' p := h.mono (Nv.le.refl e) fun _ => Ro.le.refl _
section
variable {P : Program} {cx : Cx} {fr : Fr} {E : Env} {M : Mem} {Q : Ex → Env → Mem → Prop}
/-- A RANGE OVER A FUNCTION, outermost in its frame. -/
theorem WP.range {g : Operand} {ps : Array Tmp} {assign body c : Code} {f : FuncId} {fn : Func} {cap : List AVal} {nti n : Nat} (hr : fr.r = none) (hg : E.ev g = .fn f cap) (hf : P.funcs[f]? = some fn) (hb : fn.body = some c)
    (hnm : (fn.name == "runtime.NumGoroutine") = false) (hres : fn.results = #[]) (hnt : fn.ntmps = nti) (ha : Nat.ble (cap.length + 1) nti = true) (hn : M.n = n)
    (h : ∀ (l : Nat) (r : Loop) (aC : Act), r.params = ps → r.assign = assign → r.body = body → r.tmps = aC.tmps → aC.tmps.size = fr.nt →
      WP P cx ⟨nti, none⟩ c ⟨fun t => (AVal.lit (.func (.yield l) #[] #[]) :: cap).getD t .any, [], ⟨aC, E.v, n :: E.d, some (n + 1, l)⟩ :: E.o⟩
        ((M.push (.obj (.deferred (some [])))).push (.obj (lp r .ready none))) (RangeQ P cx fr aC r l Q)) : WP P cx fr (.rangeFunc g ps assign body) E M Q := by
  intro a w e hh he
  have hgv := he.ev g
  rw [hg] at hgv
  simp only [Val] at hgv
  obtain ⟨us, hgv, hus⟩ := hgv
  have hul := hus.length
  refine wpIn_rangeFunc fun fnid _ => ?_
  rw [show (fence fr.r).round = none from hr]
  let w1 := w.alloc (.deferred (some []))
  let r : Loop := { state := .ready, pending := none, fn := fnid, tmps := a.tmps, params := ps, assign := assign, body := body, defers := w.heap.size }
  let w2 := w1.alloc (.loop r)
  let l := w.heap.size + 1
  let mark : List Deferred := [{ target := .collected w.heap.size, args := #[] }]
  have hres' : (resolve a.eval (rangeCall g l) 0).run P w2 = .ok { target := .fn (.func f) us.toArray, args := #[.func (.yield l) #[] #[]] } w2 := by
    simp [resolve, Deferred.ofValue, hgv, eval_const]
  have hinv : (invoke (.fn (.func f) us.toArray) #[Value.func (.yield l) #[] #[]]).run P w2 = .ok (.enter f (#[Value.func (.yield l) #[] #[]] ++ us.toArray)) w2 := by
    have h3' : ¬ fn.name = "runtime.NumGoroutine" := by simpa using hnm
    simp [invoke, callFunc, hf, h3', hb]
  refine ⟨l, mark, w2, _, w2, f, _, w2, run_enterLoop_outer fnid a.tmps ps assign body, hres', fun _ _ => trivial, hinv, fun h => by simp at h, ?_⟩
  -- the memory with the two blocks
  let e1 := e.bump w.heap.size 0 0
  let e2 := e1.bump (w.heap.size + 1) 0 0
  have hle1 := e.bump_le w.heap.size 0 0 false
  have hle2 := e1.bump_le (w.heap.size + 1) 0 0 false
  have hm1 := fun b => e.bump_mem w.heap.size 0 0 false b
  have hm2 := fun b => e1.bump_mem (w.heap.size + 1) 0 0 false b
  have hh1 : Hold cx e1 (M.push (.obj (.deferred (some [])))) w1 := by
    refine hh.bind rfl rfl rfl (by simp [w1]) (by simp [w1]) (fun k hk hlt => RowKit.Below.heap_alloc w _ k hlt) (fun i hi hl => Nat.ne_of_lt (hh.live i hi hl).1) hh.bag_new (hnone hh.ro) (hnone hh.bro) (.inr hh.size) ?_
    refine ⟨by simp [Nv.bump], ?_⟩
    simp only [Nv.bump, if_true]
    exact heap_alloc_new w _
  have hsz1 : w1.heap.size = w.heap.size + 1 := by simp [w1]
  have hh2 : Hold cx e2 ((M.push (.obj (.deferred (some [])))).push (.obj (lp r .ready none))) w2 := by
    have key : Hold cx (e1.bump w1.heap.size 0 0) ((M.push (.obj (.deferred (some [])))).push (.obj (lp r .ready none))) w2 := by
      refine hh1.bind rfl rfl rfl (by simp [w2]) (by simp [w2]) (fun k hk hlt => RowKit.Below.heap_alloc w1 _ k hlt) (fun i hi hl => Nat.ne_of_lt (hh1.live i hi hl).1) hh1.bag_new (hnone hh1.ro) (hnone hh1.bro) (.inr hh1.size) ?_
      refine ⟨by simp [Nv.bump], ?_⟩
      simp only [Nv.bump, if_true]
      exact heap_alloc_new w1 _
    rw [hsz1] at key
    exact key
  let aC : Act := { a with defers := mark ++ a.defers }
  have hownn : e2.own n = w.heap.size := by
    have h1 : n = e.n := by rw [← hn, hh.n]
    subst h1
    have h2 : e.n ≠ e1.n := by simp [e1, Nv.bump]
    simp only [e2, Nv.bump, if_neg h2]
    simp [e1, Nv.bump]
  have hmarkn : markBlocks e2 n = [w.heap.size] := by
    have h1 : n = e.n := by rw [← hn, hh.n]
    have h2 : n ≠ e1.n := by rw [h1]; simp [e1, Nv.bump]
    unfold markBlocks
    rw [hownn]
    have h3 : e2.vir n = false := by
      simp only [e2, Nv.bump, if_neg h2]; subst h1; simp [e1, Nv.bump]
    have h4 : e2.bag n = [] := by
      simp only [e2, Nv.bump, if_neg h2]; subst h1; simp [e1, Nv.bump]
    rw [h3, h4]; rfl
  have hownl : e2.own (n + 1) = l := by
    have h1 : n + 1 = e1.n := by rw [← hn]; simp [e1, Nv.bump, hh.n]
    simp only [e2, Nv.bump, if_pos h1]
    rfl
  have hn2 : e2.n = n + 2 := by rw [← hn]; simp [e2, e1, Nv.bump, hh.n]
  have hoC : okO e2 ((M.push (.obj (.deferred (some [])))).push (.obj (lp r .ready none))) ⟨aC, E.v, n :: E.d, some (n + 1, l)⟩ := by
    refine ⟨fun t => ((he.v t).mono hle1 hm1).mono hle2 hm2, ⟨a.defers, by rw [hmarkn]; rfl, by omega, (he.d.mono (M' := M) hle1).mono hle2⟩, ?_⟩
    rintro i l' hil
    cases hil
    exact ⟨by omega, hownl⟩
  refine callsIn_of_wp_marks (F := fence fr.r) hf hb trivial ?_ hr
  have hemb : Emb nti e2 ((M.push (.obj (.deferred (some [])))).push (.obj (lp r .ready none))) ⟨fun t => (AVal.lit (.func (.yield l) #[] #[]) :: cap).getD t .any, [], ⟨aC, E.v, n :: E.d, some (n + 1, l)⟩ :: E.o⟩
      { tmps := (#[Value.func (.yield l) #[] #[]] ++ us.toArray) ++ Array.replicate (fn.ntmps - (#[Value.func (.yield l) #[] #[]] ++ us.toArray).size) undef, defers := [] } := by
    have ha' : cap.length + 1 ≤ nti := by simpa using ha
    refine ⟨by simp [hnt, hul]; omega, fun t => ?_, rfl, fun p hp => ?_⟩
    · have hvals : Vals e2 (AVal.lit (.func (.yield l) #[] #[]) :: cap) (Value.func (.yield l) #[] #[] :: us) := by
        simp only [Vals]
        exact ⟨_, _, rfl, by simp [Val], (hus.mono hle1 hm1).mono hle2 hm2⟩
      have hlen := hvals.length
      have harr : (#[Value.func (.yield l) #[] #[]] ++ us.toArray) = (Value.func (.yield l) #[] #[] :: us).toArray := by simp
      rw [harr]
      simp only [List.getD_eq_getElem?_getD]
      by_cases ht : t < (AVal.lit (.func (.yield l) #[] #[]) :: cap).length
      · rw [List.getElem?_eq_getElem ht]
        obtain ⟨v, h1, h2⟩ := hvals.get (List.getElem?_eq_getElem ht)
        have hs : ((Value.func (.yield l) #[] #[] :: us).toArray ++ Array.replicate (fn.ntmps - (Value.func (.yield l) #[] #[] :: us).toArray.size) undef).getD t undef = v := by
          rw [Array.getD_eq_getD_getElem?, Array.getElem?_append_left (by simpa [hlen] using ht)]
          simp only [List.getElem?_toArray, h1, Option.getD_some]
        rw [hs]
        exact h2
      · rw [List.getElem?_eq_none (by omega)]
        simp [Val]
    · rcases List.mem_cons.1 hp with rfl | hp
      · exact hoC
      · exact ((he.o p hp).mono (M' := M) hle1 hm1).mono hle2 hm2
  have hwp := h l r aC rfl rfl rfl rfl he.sz _ w2 e2 hh2 hemb
  rw [show (fence (⟨nti, none⟩ : Fr).r) = fence fr.r by rw [hr]] at hwp
  refine Go.wpIn_mono hwp fun x a' w' k => ?_
  obtain ⟨y, E', M', e', q, g1, g2, g3⟩ := k
  obtain ⟨q1, v', d', os', lid, q2, q3⟩ := q
  have fin : Emb nti e' M' E' a' → (∃ s j, (dropMarks M' E'.d).at_ lid = .obj (lp r s j) ∧ s ≠ .busy ∧
        (match j with
         | none => W cx fr Q .normal ⟨v', d', os'⟩ ((dropMarks M' E'.d).set lid .gone)
         | some c => WP P cx fr c ⟨v', d', os'⟩ ((dropMarks M' E'.d).set lid .gone) Q)) →
      LeavesInM (fence fr.r) 0 P fn a'.tmps (rangePost (fence fr.r) 0 P l (Sat cx fr Q) aC) a'.defers .returning w' := by
    rintro g2 ⟨s, j, q4, q5, q6⟩
    have hfr : fence fr.r = fence none := by rw [hr]
    rw [hfr]
    refine leave_marks (by simp) E'.d M' w' a'.defers g1 g2.d q1 fun w'' hh'' => ?_
    have hp := g2.o ⟨aC, v', d', some (lid, l)⟩ (by rw [q2]; simp)
    obtain ⟨hlid, hownlid⟩ := hp.lk lid l rfl
    have hb' := hh''.ch lid hlid
    rw [q4] at hb'
    have hbl : w''.heap[l]? = some (.loop { r with state := s, pending := j }) := by rw [← hownlid]; exact hb'.2
    have hlive : ((dropMarks M' E'.d).at_ lid).live e' lid := by rw [q4]; trivial
    have hlt : l < w''.heap.size := (Array.getElem?_eq_some_iff.1 hbl).1
    refine ⟨.tuple #[], by simp [results, hres], ?_⟩
    refine ⟨j, _, run_endLoop (r := { r with state := s, pending := j }) hbl q5, ?_⟩
    have hh3 : Hold cx e' ((dropMarks M' E'.d).set lid .gone) (w''.putObj l (.loop { ({ r with state := s, pending := j } : Loop) with state := .exhausted })) :=
      hh''.change hlid hlive rfl rfl rfl (by simp [World.putObj]) (fun k hk => World.putObj_heap_other (by rw [hownlid] at hk; exact hk)) trivial
    have hemb3 : Emb fr.nt e' ((dropMarks M' E'.d).set lid .gone) ⟨v', d', os'⟩ aC :=
      ⟨he.sz, hp.v, hp.d.mono (Nv.le.refl e'), fun p hp' => okO_mem (g2.o p (by rw [q2]; simp [hp']))⟩
    cases j with
    | none => exact q6 _ _ e' _ hh3 hemb3 rfl
    | some c =>
      have := q6 aC _ e' hh3 hemb3
      rw [hr] at this
      simpa [hr] using this
  cases y with
  | normal => cases g3; exact fin g2 q3
  | ret => cases g3; exact fin g2 q3
  | exit id => exact q3.elim
  | goto l => exact q3.elim
  | panic v =>
    obtain ⟨u, rfl, hu⟩ := g3
    show LeavesInM (fence fr.r) 0 P fn a'.tmps (rangePost (fence fr.r) 0 P l (Sat cx fr Q) aC) a'.defers (.panicking [{ v := u, recovered := false }]) w'
    have hfr : fence fr.r = fence none := by rw [hr]
    rw [hfr]
    refine leave_marks (u := .panicking [{ v := u, recovered := false }]) (by simp) E'.d M' w' a'.defers g1 g2.1 q1 fun w'' hh'' => ?_
    have hp := g2.2 ⟨aC, v', d', some (lid, l)⟩ (by rw [q2]; simp)
    exact ⟨.panic v, _, _, e', q3, hh'', ⟨hp.d.mono (Nv.le.refl e'), fun p hp' => okO_mem (g2.2 p (by rw [q2]; simp [hp']))⟩, u, rfl, hu⟩
/-- Yield's arguments in the loop's variables. -/
def paramsV (f : Nat → AVal) : List Tmp → List AVal → (Nat → AVal)
  | t :: ts, a :: l => paramsV (fun u => if Nat.beq u t = true then a else f u) ts l
  | _, _ => f
theorem params_ok {e : Nv} : ∀ (ts : List Tmp) (as : List AVal) (vs : List Value) (f : Nat → AVal) (tm : Array Value), Vals e as vs → (∀ t ∈ ts, t < tm.size) → ts.length = as.length → (∀ t, Val e (f t) (tm.getD t undef)) →
    ∀ t, Val e (paramsV f ts as t) (((ts.zip vs).foldl (fun tmps (x : Tmp × Value) => tmps.setIfInBounds x.1 x.2) tm).getD t undef)
  | [], as, vs, f, tm, _, _, _, hf => by simpa [paramsV] using hf
  | t :: ts, [], vs, f, tm, _, _, hl, _ => by simp at hl
  | t :: ts, a :: as, vs, f, tm, h, hb, hl, hf => by
    simp only [Vals] at h
    obtain ⟨v, ws, rfl, h1, h2⟩ := h
    simp only [paramsV, List.zip_cons_cons, List.foldl_cons]
    refine params_ok ts as ws _ _ h2 (fun x hx => by simpa using hb x (by simp [hx])) (by simpa using hl) fun u => ?_
    have ht : t < tm.size := hb t (by simp)
    simp only [Array.getD_eq_getD_getElem?]
    by_cases hu : u = t
    · subst hu
      simp [ht, h1]
    · rw [if_neg (by simpa using hu), Array.getElem?_setIfInBounds_ne (Ne.symm hu)]
      have := hf u
      rwa [Array.getD_eq_getD_getElem?] at this
theorem foldl_size : ∀ (l : List (Tmp × Value)) (tm : Array Value), (l.foldl (fun tmps (x : Tmp × Value) => tmps.setIfInBounds x.1 x.2) tm).size = tm.size
  | [], _ => rfl
  | x :: l, tm => by rw [List.foldl_cons, foldl_size l]; simp
/-- What a round must come to. -/
def RoundQ (lid : Nat) (l : Nat) (r : Loop) (aI aC : Act) (K : Option Code → Env → Mem → Prop) (x : Ex) (E : Env) (M : Mem) : Prop :=
  E.d = [] ∧ ∃ v d v' d' os' lid', E.o = ⟨aI, v, d, none⟩ :: ⟨aC, v', d', some (lid', l)⟩ :: os' ∧ M.at_ lid' = .obj (lp r .busy none) ∧
    ∃ j, jumpOf x = some j ∧ K j ⟨v, d, ⟨aC, v', d', some (lid', l)⟩ :: os'⟩ (M.set lid' (.obj (lp r (if j.isNone then .ready else .done) j)))
/-- What the assignments to the loop's variables must come to. -/
def AssignQ (P : Program) (cx : Cx) (ntc l : Nat) (body : Code) (r : Loop) (aI aC : Act) (K : Option Code → Env → Mem → Prop) (x : Ex) (E : Env) (M : Mem) : Prop :=
  x = .normal ∧ E.d = [] ∧ ∃ v d v' d' os' lid', E.o = ⟨aI, v, d, none⟩ :: ⟨aC, v', d', some (lid', l)⟩ :: os' ∧ M.at_ lid' = .obj (lp r .ready none) ∧
    WP P cx ⟨ntc, some l⟩ body E (M.set lid' (.obj (lp r .busy none))) (RoundQ lid' l r aI aC K)
variable {ops : Array Oper} {os : List Oper} {ty : TypeId} {pos : String} {after : Array Edge} {dst : Nat}
theorem putObj_hold {e : Nv} {w : World} (hh : Hold cx e M w) {i l : Nat} {o o' : Obj} (hi : i < e.n) (hl : e.own i = l) (hc : M.at_ i = .obj o) (hmk : (Chunk.obj o').mark = true → (M.at_ i).mark = true) : Hold cx e (M.set i (.obj o')) (w.putObj l o') := by
  subst hl
  have hlive : (M.at_ i).live e i := by rw [hc]; trivial
  have hb := hh.ch i hi
  rw [hc] at hb
  have hlt : e.own i < w.heap.size := (hh.live i hi hlive).1
  exact hh.change hi hlive rfl rfl rfl (by simp [World.putObj]) (fun k hk => World.putObj_heap_other hk) ⟨hb.1, World.putObj_heap_same hlt⟩ hmk
/-- A CALL OF yield: a round of the loop. -/
theorem WPL.ycore {g : Option (Nat × Bool)} {fo : Operand} {args : Array Operand} {tys : Array TypeId} {l lid ntc : Nat} {r : Loop} {aC : Act} {vC : Nat → AVal} {dC : List Nat} {oC : List OEnv} {ps : Array Tmp} {assign body : Code} (hfr : fr.r = none) (hfo : E.ev fo = .lit (.func (.yield l) #[] #[]))
    (ho : E.o = ⟨aC, vC, dC, some (lid, l)⟩ :: oC) (hM : M.at_ lid = .obj (lp r .ready none)) (hrp : r.params = ps) (hra : r.assign = assign) (hrb : r.body = body) (hrt : r.tmps = aC.tmps) (hsz : aC.tmps.size = ntc)
    (hps : Nat.beq ps.size args.size = true) (hpl : (ps.toList.all fun t => Nat.blt t ntc) = true) (ht : Nat.blt dst fr.nt = true)
    (hg : ∀ nt a e, Emb nt e M E a → nt = fr.nt → Region.wanted { dst := some dst, op := .call { callee := .value fo, args := args, argTypes := tys }, type := ty, pos := pos, after := after, guard := g } (yielded ops a.tmps) = true)
    (hround : ∀ aI : Act, WP P cx ⟨ntc, some l⟩ assign ⟨paramsV vC ps.toList (args.toList.map E.ev), [], ⟨aI, E.v, E.d, none⟩ :: E.o⟩ M
      (AssignQ P cx ntc l body r aI aC fun j E M => WPL P cx fr ops os (E.upd dst (.lit (.bool j.isNone))) M Q)) :
    WPL P cx fr ops ({ dst := some dst, op := .call { callee := .value fo, args := args, argTypes := tys }, type := ty, pos := pos, after := after, guard := g } :: os) E M Q := by
  intro a w e hh he
  have hv := ev_lit he hfo
  have hpO := he.o ⟨aC, vC, dC, some (lid, l)⟩ (by rw [ho]; simp)
  obtain ⟨hlid, hown⟩ := hpO.lk lid l rfl
  have hb := hh.ch lid hlid
  rw [hM] at hb
  have hbl : w.heap[l]? = some (.loop { r with state := .ready, pending := none }) := by rw [← hown]; exact hb.2
  have hps' : ps.size = args.size := by simpa using hps
  unfold wpListIn
  rw [if_pos (hg _ _ _ he rfl)]
  refine ⟨fun _ _ => trivial, ?_⟩
  rw [Oper.semAt_eq _ _ _ (by intro c hc; cases hc), execOp_one]
  have hrun : (exec1 a.eval (.call { callee := .value fo, args := args, argTypes := tys }) ty).run P w = .ok (.round l r.fn ((ps.zip (args.map a.eval)).foldl (fun tmps (t, a) => tmps.setIfInBounds t a) r.tmps) assign body) w := by
    have hy := run_yield (P := P) (args := args.map a.eval) hbl (by simp [hrp, hps'])
    simp only [hrp, hra, hrb] at hy
    simp [exec1, execOp, resolve, Deferred.ofValue, hv, invoke, hy]
  rw [hrun]
  refine ⟨fun h => by simp at h, ?_⟩
  have hfold : (ps.zip (args.map a.eval)).foldl (fun tmps (t, a) => tmps.setIfInBounds t a) r.tmps = (ps.toList.zip (args.toList.map a.eval)).foldl (fun tmps (x : Tmp × Value) => tmps.setIfInBounds x.1 x.2) aC.tmps := by
    rw [hrt, ← Array.foldl_toList]
    simp [Array.toList_zip]
  rw [hfold, hfr]
  refine roundIn_of_wpIn trivial ?_
  let aR : Act := { tmps := (ps.toList.zip (args.toList.map a.eval)).foldl (fun tmps (x : Tmp × Value) => tmps.setIfInBounds x.1 x.2) aC.tmps, defers := [] }
  have hembR : Emb ntc e M ⟨paramsV vC ps.toList (args.toList.map E.ev), [], ⟨a, E.v, E.d, none⟩ :: E.o⟩ aR := by
    refine ⟨by simp only [aR]; rw [foldl_size, hsz], fun t => ?_, rfl, fun p hp => ?_⟩
    · exact params_ok ps.toList _ _ vC aC.tmps (evs he args.toList) (fun t ht' => by have := List.all_eq_true.1 hpl t ht'; rw [hsz]; simpa using this) (by simpa using hps') hpO.v t
    · rcases List.mem_cons.1 hp with rfl | hp
      · exact ⟨he.v, he.d, fun i l' hil => by cases hil⟩
      · exact he.o p hp
  refine Go.wpIn_mono (hround a aR w e hh hembR) fun x a1 w1 k => ?_
  obtain ⟨y, E1, M1, e1, q, g1, g2, g3⟩ := k
  obtain ⟨rfl, hd1, v1, d1, v1', d1', os1, lid1, ho1, hM1, hbody⟩ := q
  cases g3
  have hp1 := g2.o ⟨aC, v1', d1', some (lid1, l)⟩ (by rw [ho1]; simp)
  obtain ⟨hlid1, hown1⟩ := hp1.lk lid1 l rfl
  have hb1 := g1.ch lid1 hlid1
  rw [hM1] at hb1
  have hbl1 : w1.heap[l]? = some (.loop { r with state := .ready, pending := none }) := by rw [← hown1]; exact hb1.2
  refine ⟨_, run_beginRound hbl1 rfl, ?_⟩
  have hh1 : Hold cx e1 (M1.set lid1 (.obj (lp r .busy none))) (w1.putObj l (.loop { ({ r with state := .ready, pending := none } : Loop) with state := .busy })) := putObj_hold g1 hlid1 hown1 hM1 (fun h => by cases h)
  have hemb1 : Emb ntc e1 (M1.set lid1 (.obj (lp r .busy none))) E1 a1 := Emb.mono (E := E1) g2 (Nv.le.refl e1) fun _ => Ro.le.refl _
  refine Go.wpIn_mono (hbody a1 _ e1 hh1 hemb1) fun x2 a2 w2 k2 => ?_
  obtain ⟨y2, E2, M2, e2, q2, k1, k3, k4⟩ := k2
  obtain ⟨hd2, v2, d2, v2', d2', os2, lid2, ho2, hM2, j, hj, hK⟩ := q2
  have fin : Emb ntc e2 M2 E2 a2 → ∃ v w', (Instr.endRound l j).run P w2 = .ok v w' ∧ wpListIn (fence fr.r) 0 P ops (Sat cx fr Q) os (a.put (some dst) v) w' := by
    intro k3
    have hp2 := k3.o ⟨aC, v2', d2', some (lid2, l)⟩ (by rw [ho2]; simp)
    have hpI := k3.o ⟨a, v2, d2, none⟩ (by rw [ho2]; simp)
    obtain ⟨hlid2, hown2⟩ := hp2.lk lid2 l rfl
    have hb2 := k1.ch lid2 hlid2
    rw [hM2] at hb2
    have hbl2 : w2.heap[l]? = some (.loop { r with state := .busy, pending := none }) := by rw [← hown2]; exact hb2.2
    refine ⟨_, _, run_endRound j hbl2, ?_⟩
    have hh2 : Hold cx e2 (M2.set lid2 (.obj (lp r (if j.isNone then .ready else .done) j))) (w2.putObj l (.loop { ({ r with state := .busy, pending := none } : Loop) with state := if j.isNone then .ready else .done, pending := j })) := putObj_hold k1 hlid2 hown2 hM2 (fun h => by cases h)
    have hembI : Emb fr.nt e2 (M2.set lid2 (.obj (lp r (if j.isNone then .ready else .done) j))) ⟨v2, d2, ⟨aC, v2', d2', some (lid2, l)⟩ :: os2⟩ a :=
      ⟨he.sz, hpI.v, hpI.d.mono (Nv.le.refl e2), fun p hp => okO_mem (k3.o p (by rw [ho2]; simp at hp ⊢; exact .inr hp))⟩
    exact hK _ _ e2 hh2 (hembI.put ht (by simp [Val]))
  have conv : ∀ {v : Value} {w' : World}, wpListIn (fence fr.r) 0 P ops (Sat cx fr Q) os (a.put (some dst) v) w' → wpListIn (fence none) 0 P ops (Sat cx fr Q) os (a.put (some dst) v) w' := by
    intro v w' h; rw [hfr] at h; exact h
  cases y2 with
  | normal => cases k4; cases hj; obtain ⟨v, w', h1, h2⟩ := fin k3; exact ⟨v, w', h1, conv h2⟩
  | ret => cases k4; cases hj; obtain ⟨v, w', h1, h2⟩ := fin k3; exact ⟨v, w', h1, conv h2⟩
  | exit id => cases k4; cases hj; obtain ⟨v, w', h1, h2⟩ := fin k3; exact ⟨v, w', h1, conv h2⟩
  | goto t => cases k4; cases hj; obtain ⟨v, w', h1, h2⟩ := fin k3; exact ⟨v, w', h1, conv h2⟩
  | panic u => cases hj
/-- A round. -/
theorem WPL.y {fo : Operand} {args : Array Operand} {tys : Array TypeId} {l lid ntc : Nat} {r : Loop} {aC : Act} {vC : Nat → AVal} {dC : List Nat} {oC : List OEnv} {ps : Array Tmp} {assign body : Code} (hfr : fr.r = none) (hfo : E.ev fo = .lit (.func (.yield l) #[] #[]))
    (ho : E.o = ⟨aC, vC, dC, some (lid, l)⟩ :: oC) (hM : M.at_ lid = .obj (lp r .ready none)) (hrp : r.params = ps) (hra : r.assign = assign) (hrb : r.body = body) (hrt : r.tmps = aC.tmps) (hsz : aC.tmps.size = ntc)
    (hps : Nat.beq ps.size args.size = true) (hpl : (ps.toList.all fun t => Nat.blt t ntc) = true) (ht : Nat.blt dst fr.nt = true)
    (hround : ∀ aI : Act, WP P cx ⟨ntc, some l⟩ assign ⟨paramsV vC ps.toList (args.toList.map E.ev), [], ⟨aI, E.v, E.d, none⟩ :: E.o⟩ M
      (AssignQ P cx ntc l body r aI aC fun j E M => WPL P cx fr ops os (E.upd dst (.lit (.bool j.isNone))) M Q)) :
    WPL P cx fr ops ({ dst := some dst, op := .call { callee := .value fo, args := args, argTypes := tys }, type := ty, pos := pos, after := after, guard := Option.none } :: os) E M Q :=
  WPL.ycore hfr hfo ho hM hrp hra hrb hrt hsz hps hpl ht (fun _ _ _ _ _ => rfl) hround
end
end Go.Q
namespace Go.Q
open Go
set_option linter.unusedVariables false
set_option linter.unusedSimpArgs false
theorem grd {α : Type} {b : Bool} {x : Option α} {r : α} (h : (bif b then x else none) = some r) : b = true ∧ x = some r := by
  cases b with
  | true => exact ⟨rfl, h⟩
  | false => cases h
theorem bnd {α β : Type} {x : Option α} {f : α → Option β} {r : β} (h : x.bind f = some r) : ∃ a, x = some a ∧ f a = some r := Option.bind_eq_some_iff.1 h
theorem cnt {α : Type} {b : Bool} {x y : Option α} {r : α} (hb : b = true) (h : (bif b then x else y) = some r) : x = some r := by subst hb; exact h
theorem cnf {α : Type} {b : Bool} {x y : Option α} {r : α} (hb : b = false) (h : (bif b then x else y) = some r) : y = some r := by subst hb; exact h
theorem inj {α : Type} {x r : α} (h : some x = some r) : r = x := (Option.some.inj h).symm
section
variable {P : Program} {cx : Cx} {fr : Fr} {E : Env} {M : Mem} {Q : Ex → Env → Mem → Prop} {next : Env → Mem → Prop} {ty : TypeId}
theorem Then.n (h : next E M) : Then next Q .normal E M := h
theorem Then.r (h : Q .ret E M) : Then next Q .ret E M := h
theorem Then.x {id : Nat} (h : Q (.exit id) E M) : Then next Q (.exit id) E M := h
theorem Then.p {v : AVal} (h : Q (.panic v) E M) : Then next Q (.panic v) E M := h
theorem InBlock.n {id : Nat} (h : Q .normal E M) : InBlock id Q .normal E M := h
theorem InBlock.r {id : Nat} (h : Q .ret E M) : InBlock id Q .ret E M := h
theorem InBlock.p {id : Nat} {v : AVal} (h : Q (.panic v) E M) : InBlock id Q (.panic v) E M := h
theorem InBlock.x0 {id : Nat} (h : Q .normal E M) : InBlock id Q (.exit id) E M := by simp only [InBlock, Nat.beq_eq, if_true]; exact h
theorem InBlock.x {id id' : Nat} (hi : Nat.beq id' id = false) (h : Q (.exit id') E M) : InBlock id Q (.exit id') E M := by
  simp only [InBlock]
  rw [if_neg (by rw [hi]; simp)]
  exact h
theorem WP.condT {c : Operand} {x y : Code} (hc : E.ev c = .lit (.bool true)) (h : WP P cx fr x E M Q) : WP P cx fr (.cond c x y) E M Q := WP.cond hc (fun _ => h) (fun h => by cases h)
theorem WP.condF {c : Operand} {x y : Code} (hc : E.ev c = .lit (.bool false)) (h : WP P cx fr y E M Q) : WP P cx fr (.cond c x y) E M Q := WP.cond hc (fun h => by cases h) (fun _ => h)
theorem q_mv {x : Operand} {v : AVal} (h : E.ev x = v) : Quiet P (.move x) ty E M [] v := h ▸ q_move x
theorem q_as {x : Operand} {v : AVal} (h : E.ev x = v) : Quiet P (.assign x) ty E M [] v := h ▸ q_assign x
theorem q_pickT {c x y : Operand} {v : AVal} (hc : E.ev c = .lit (.bool true)) (h : E.ev x = v) : Quiet P (.pick c x y) ty E M [] v := by
  have := q_pick (P := P) (ty := ty) (M := M) (x := x) (y := y) hc
  simp only [cond_true] at this
  exact h ▸ this
theorem q_pickF {c x y : Operand} {v : AVal} (hc : E.ev c = .lit (.bool false)) (h : E.ev y = v) : Quiet P (.pick c x y) ty E M [] v := by
  have := q_pick (P := P) (ty := ty) (M := M) (x := x) (y := y) hc
  simp only [cond_false] at this
  exact h ▸ this
/-- A guard's case: both ways. -/
theorem WPL.split {ops : Array Oper} {os : List Oper} {t : Nat} {b : Bool} (hv : E.v t = .lit (.bool b)) (h1 : b = true → WPL P cx fr ops os E M Q) (h2 : b = false → WPL P cx fr ops os E M Q) : WPL P cx fr ops os E M Q := by
  cases b with
  | true => exact h1 rfl
  | false => exact h2 rfl
/-- A name for nil in a cell of our own. -/
theorem Hold.virCell {e : Nv} {w : World} (hh : Hold cx e M w) {α : Type} {ct R} {i off N : Nat} {t : TypeId} {l : List AVal} (hN : M.n = N) (hi : i < N) (hc : M.at_ i = .cells t l) (hv : l[off]? = some (.lit (.slice none 0 0))) :
    Hold cx (e.bump 0 0 0 true) ((M.push (.row ct (R : Rd α) [])).set i (.cells t (l.set off (.whole N)))) w := by
  have h1 := hh.bindVir (t := ct) (R := R)
  have hin : i < (e.bump 0 0 0 true).n := by simp only [Nv.bump, hh.n, hN]; omega
  have hat : (M.push (.row ct R [])).at_ i = .cells t l := by rw [Mem.push_at, if_neg (by omega)]; exact hc
  have hlive : ((M.push (.row ct R [])).at_ i).live (e.bump 0 0 0 true) i := by rw [hat]; trivial
  refine h1.change hin hlive rfl rfl rfl rfl (fun _ _ => rfl) ?_
  have hk := h1.ch i hin
  rw [hat] at hk
  obtain ⟨g1, vs, g2, g3, g4⟩ := hk
  refine ⟨g1, vs, g2, ?_, g4⟩
  obtain ⟨u, hu, hval⟩ := g3.get hv
  simp only [Val] at hval
  have hset : vs = vs.set off u := by
    apply List.ext_getElem?
    intro j
    rw [List.getElem?_set]
    split
    · rename_i hj; subst hj; split
      · rename_i hlt; rw [hu]
      · rename_i hge; rw [List.getElem?_eq_none (by omega)]
    · rfl
  rw [hset]
  refine g3.set ?_
  rw [hval]
  simp only [Val, Nv.bump, ← hN, ← hh.n, if_true]
  exact ⟨Nat.lt_succ_self _, Nat.le_refl _, trivial, trivial⟩
theorem WPL.virC {ops : Array Oper} {os : List Oper} {α : Type} (ct : TypeId) (R : Rd α) {i off N : Nat} {t : TypeId} {l : List AVal} (hN : M.n = N) (hi : Nat.blt i N = true) (hc : M.at_ i = .cells t l) (hv : l[off]? = some (.lit (.slice none 0 0)))
    (k : WPL P cx fr ops os E ((M.push (.row ct R [])).set i (.cells t (l.set off (.whole N)))) Q) : WPL P cx fr ops os E M Q :=
  fun a w e hh he => k a w _ (hh.virCell hN (by simpa using hi) hc hv) (he.mono (e.bump_le 0 0 0 true) (fun b => e.bump_mem 0 0 0 true b))
theorem WP.virC {c : Code} {α : Type} (ct : TypeId) (R : Rd α) {i off N : Nat} {t : TypeId} {l : List AVal} (hN : M.n = N) (hi : Nat.blt i N = true) (hc : M.at_ i = .cells t l) (hv : l[off]? = some (.lit (.slice none 0 0)))
    (k : WP P cx fr c E ((M.push (.row ct R [])).set i (.cells t (l.set off (.whole N)))) Q) : WP P cx fr c E M Q :=
  fun a w e hh he => k a w _ (hh.virCell hN (by simpa using hi) hc hv) (he.mono (e.bump_le 0 0 0 true) (fun b => e.bump_mem 0 0 0 true b))
theorem WP.vir {c : Code} {α : Type} (ct : TypeId) (R : Rd α) {N : Nat} (hN : M.n = N) (tt : Nat) (hv : E.v tt = .lit (.slice none 0 0)) (k : WP P cx fr c (E.upd tt (.whole N)) (M.push (.row ct R [])) Q) : WP P cx fr c E M Q := by
  intro a w e hh he
  refine k a w (e.bump 0 0 0 true) hh.bindVir ?_
  have h1 : Emb fr.nt (e.bump 0 0 0 true) (M.push (.row ct R [])) E a := he.mono (e.bump_le 0 0 0 true) (fun b => e.bump_mem 0 0 0 true b)
  refine ⟨h1.sz, fun u => ?_, h1.d, h1.o⟩
  rw [Env.upd_v]
  split
  · rename_i hu
    subst hu
    have := h1.v u
    rw [hv] at this
    simp only [Val] at this
    rw [this]
    simp only [Val, Nv.bump, ← hN, ← hh.n, if_true]
    exact ⟨Nat.lt_succ_self _, Nat.le_refl _, trivial, trivial⟩
  · exact h1.v u
end
section
variable {P : Program} {E : Env} {M : Mem} {ty : TypeId}
/-- Bytes of a slice as a string's own: []byte("..") and the like need Qm. A slice of a slice that is only read. -/
theorem run_slice_sl {t el : TypeId} {n : Nat} (h : SlIs P t el n) (a : Option Addr) (len cap : Nat) (lo hi : Option Value) (l r : Nat) (w : World)
    (hl : (match lo with | some v => ∃ k, v = .int k (l : Int) | none => l = 0)) (hr : (match hi with | some v => ∃ k, v = .int k (r : Int) | none => r = len)) (hlr : l ≤ r) (hrc : r ≤ cap) :
    (Instr.sliceAt t (.slice a len cap) lo hi none).run P w = .ok (.slice (if cap = l then a else a.map (·.add (l * n))) (r - l) (cap - l)) w := by
  have e1 : ∀ (y : Nat) (code : BoundsCode) (v : Value) (m : Nat), (∃ k, v = .int k (m : Int)) → m ≤ y → (Instr.sliceBound v y code).run P w = .ok m w := by
    rintro y code v m ⟨k, rfl⟩ hm
    have h1 : (0 : Int) ≤ (m : Int) ∧ (m : Int) ≤ (y : Int) := ⟨by omega, by omega⟩
    simp only [Instr.sliceBound, asIntOf, Sem.run_bind, Sem.run_pure, Result.andThen]
    rw [if_pos h1]
    simp
  cases lo with
  | none =>
    simp only at hl
    cases hi with
    | none =>
      simp only at hr
      subst hl hr
      simp [Instr.sliceAt, Instr.slice, run_underlying h.t, Instr.sliceBounds, h.e.run]
    | some v =>
      simp only at hr
      subst hl
      simp [Instr.sliceAt, Instr.slice, run_underlying h.t, Instr.sliceBounds, h.e.run, e1 cap _ v r hr hrc]
  | some u =>
    simp only at hl
    cases hi with
    | none =>
      simp only at hr
      subst hr
      simp [Instr.sliceAt, Instr.slice, run_underlying h.t, Instr.sliceBounds, h.e.run, e1 r _ u l hl hlr]
    | some v =>
      simp only at hr
      simp [Instr.sliceAt, Instr.slice, run_underlying h.t, Instr.sliceBounds, h.e.run, e1 cap _ v r hr hrc, e1 r _ u l hl hlr]
/-- The bounds of a slice expression. -/
def evOpt (E : Env) (x : Option Operand) (d : Int) (i : Int) : Prop := match x with | some o => ∃ k, E.ev o = .lit (.int k i) | none => i = d
/-- A byte of a string. -/
theorem q_index_str {t : TypeId} {x y : Operand} {s : ByteArray} {k : IntKind} {i c : Int} (h : P.underlying t = some .string) (hx : E.ev x = .lit (.string s)) (hy : E.ev y = .lit (.int k i)) (hc : ix (strInts s) i = some c) : Quiet P (.index t x y) ty E M [] (.lit (.int .u8 c)) :=
  fun _ _ a w e hh he => by
    obtain ⟨h0, h1, h2⟩ := ix_some hc
    refine ⟨.int .u8 c, by simp [Val], fun w1 hw => ?_⟩
    have hsz : (strInts s).length = s.size := by rw [strInts, List.length_map, Array.length_toList]; rfl
    have hlt : i.toNat < s.size := by omega
    have hget : c = ((s[i.toNat]'hlt).toNat : Int) := by
      simp only [strInts, List.getElem?_map] at h1
      have e2 : s.data.toList[i.toNat]? = some (s[i.toNat]'hlt) := by
        rw [Array.getElem?_toList]
        exact Array.getElem?_eq_getElem (by simpa using hlt)
      rw [e2] at h1
      simpa using h1.symm
    subst hget
    simp [exec1, execOp, ev_lit he hx, ev_lit he hy, Instr.index, run_underlying h, asIntOf, h0, hlt, getElem?_pos]
/-- Part of a string. -/
theorem q_slice_str {t : TypeId} {x : Operand} {s : ByteArray} {lo hi : Option Operand} {i j : Int} (h : P.underlying t = some .string) (hx : E.ev x = .lit (.string s))
    (hlo : evOpt E lo 0 i) (hhi : evOpt E hi s.size j) (hb : decide (0 ≤ i ∧ i ≤ j ∧ j ≤ s.size) = true) : Quiet P (.slice t x lo hi none) ty E M [] (.lit (.string (s.extract i.toNat j.toNat))) :=
  fun cx nt a w e hh he => by
    obtain ⟨b0, b1, b2⟩ := of_decide_eq_true hb
    refine ⟨.string (s.extract i.toNat j.toNat), by simp [Val], fun w1 hw => ?_⟩
    have e1 : ∀ (y : Nat) (code : BoundsCode) (k : IntKind) (m : Int), 0 ≤ m → m ≤ y → (Instr.sliceBound (.int k m) y code).run P w1 = .ok m.toNat w1 := by
      intro y code k m h0 hm
      simp only [Instr.sliceBound, asIntOf, Sem.run_bind, Sem.run_pure, Result.andThen]
      rw [if_pos ⟨h0, hm⟩]
      simp
    have hjs : j.toNat ≤ s.size := by omega
    cases lo with
    | none =>
      simp only [evOpt] at hlo
      subst hlo
      cases hi with
      | none =>
        simp only [evOpt] at hhi
        subst hhi
        simp [exec1, execOp, ev_lit he hx, Instr.sliceAt, Instr.slice, run_underlying h, Instr.sliceBounds]
      | some v =>
        obtain ⟨k, hk⟩ := hhi
        simp [exec1, execOp, ev_lit he hx, ev_lit he hk, Instr.sliceAt, Instr.slice, run_underlying h, Instr.sliceBounds, e1 s.size _ k j (by omega) b2]
    | some u =>
      obtain ⟨k', hk'⟩ := hlo
      cases hi with
      | none =>
        simp only [evOpt] at hhi
        subst hhi
        simp [exec1, execOp, ev_lit he hx, ev_lit he hk', Instr.sliceAt, Instr.slice, run_underlying h, Instr.sliceBounds, e1 s.size _ k' i b0 b1]
      | some v =>
        obtain ⟨k, hk⟩ := hhi
        simp [exec1, execOp, ev_lit he hx, ev_lit he hk, ev_lit he hk', Instr.sliceAt, Instr.slice, run_underlying h, Instr.sliceBounds, e1 s.size _ k j (by omega) b2, e1 j.toNat _ k' i b0 (by omega)]
end
end Go.Q
namespace Go.Q
open Go
set_option linter.unusedVariables false
set_option linter.unusedSimpArgs false
/-- A state told otherwise. -/
def Cv (cx : Cx) (nt : Nat) (E : Env) (M : Mem) (E' : Env) (M' : Mem) : Prop :=
  ∀ a w e, Hold cx e M w → Emb nt e M E a → ∃ e', Hold cx e' M' w ∧ Emb nt e' M' E' a
def Ex.plain : Ex → Bool
  | .panic _ => false
  | _ => true
section
variable {P : Program} {cx : Cx} {fr : Fr} {nt : Nat} {E E' E'' : Env} {M M' M'' : Mem} {Q Q' : Ex → Env → Mem → Prop} {x : Ex} {c : Code} {ops : Array Oper} {os : List Oper}
theorem W.cv (k : Cv cx fr.nt E M E' M') (hx : x.plain = true) (h : W cx fr Q x E' M') : W cx fr Q x E M := fun a w e X hh he hX => by
  cases x with
  | panic v => cases hx
  | normal => obtain ⟨e', h1, h2⟩ := k a w e hh he; exact h a w e' X h1 h2 hX
  | exit id => obtain ⟨e', h1, h2⟩ := k a w e hh he; exact h a w e' X h1 h2 hX
  | goto l => obtain ⟨e', h1, h2⟩ := k a w e hh he; exact h a w e' X h1 h2 hX
  | ret => obtain ⟨e', h1, h2⟩ := k a w e hh he; exact h a w e' X h1 h2 hX
theorem WP.cv (k : Cv cx fr.nt E M E' M') (h : WP P cx fr c E' M' Q) : WP P cx fr c E M Q := fun a w e hh he => let ⟨e', h1, h2⟩ := k a w e hh he; h a w e' h1 h2
theorem WPL.cv (k : Cv cx fr.nt E M E' M') (h : WPL P cx fr ops os E' M' Q) : WPL P cx fr ops os E M Q := fun a w e hh he => let ⟨e', h1, h2⟩ := k a w e hh he; h a w e' h1 h2
theorem Cv.same : Cv cx nt E M E M := fun a w e hh he => ⟨e, hh, he⟩
theorem Cv.trans (h : Cv cx nt E M E' M') (k : Cv cx nt E' M' E'' M'') : Cv cx nt E M E'' M'' := fun a w e hh he => let ⟨e', h1, h2⟩ := h a w e hh he; k a w e' h1 h2
theorem WPL.nilW (h : W cx fr Q .normal E M) : WPL P cx fr ops [] E M Q := fun a w e hh he => h a w e _ hh he rfl
theorem WP.skipW (h : W cx fr Q .normal E M) : WP P cx fr .skip E M Q := fun a w e hh he => wpIn_skip (h a w e _ hh he rfl)
theorem WP.exitW {id : Nat} (h : W cx fr Q (.exit id) E M) : WP P cx fr (.exit id) E M Q := fun a w e hh he => wpIn_exit (h a w e _ hh he rfl)
theorem WP.retW (h : W cx fr Q .ret E M) : WP P cx fr .ret E M Q := fun a w e hh he => wpIn_ret (h a w e _ hh he rfl)
theorem WPD.doneW {st X : List Nat} {fuel : Nat} {listed : Array Bool} (hb : readyNo ops listed = true) (h : W cx fr Q .normal E M) : WPD P cx fr ops st X fuel listed E M Q := by
  intro a w e hh he
  have hready : Region.ready .any ops listed = [] := by simpa [readyNo, List.isEmpty_iff] using hb
  have hs : Sat cx fr Q .normal a w := h a w e _ hh he rfl
  cases fuel with
  | zero => exact ⟨hready, hs⟩
  | succ n => exact ⟨fun _ => hs, by rw [hready]; simp⟩
theorem WPD.split {st X : List Nat} {fuel : Nat} {listed : Array Bool} {t : Nat} {b : Bool} (hv : E.v t = .lit (.bool b)) (h1 : b = true → WPD P cx fr ops st X fuel listed E M Q) (h2 : b = false → WPD P cx fr ops st X fuel listed E M Q) : WPD P cx fr ops st X fuel listed E M Q := by
  cases b with
  | true => exact h1 rfl
  | false => exact h2 rfl
theorem WPD.sub {st X : List Nat} {fuel : Nat} {listed : Array Bool} (X' : List Nat) (hs : X'.all X.contains = true) (k : WPD P cx fr ops st X' fuel listed E M Q) : WPD P cx fr ops st X fuel listed E M Q :=
  fun a w e hh he => wpAnyF_mono (fun _ h => h) (fun _ h => h.nil_of) (fun _ h => h) (fun i hi => List.all_eq_true.1 hs i (by simpa using hi)) _ _ _ _ (k a w e hh he)
theorem WP.regionD' (n : Nat) (st X : List Nat) {id : Nat} (hm : P.follows .mixedOrders = true) (hn : ops.size = n) (h : WPD P cx fr ops st X n (Array.replicate n false) E M Q) : WP P cx fr (.region id ops true) E M Q := by
  subst hn; exact WP.regionD st X hm h
/-- A cut. -/
theorem WP.monoW (h : WP P cx fr c E M Q) (hq : ∀ x E M, Q x E M → W cx fr Q' x E M) : WP P cx fr c E M Q' :=
  fun a w e hh he => Go.wpIn_mono (h a w e hh he) fun X a' w' k => by
    obtain ⟨y, E', M', e', q, h1, h2, h3⟩ := k
    exact hq y E' M' q a' w' e' X h1 h2 h3
theorem Cv.weak {np : Nat} (l : List Nat) (hnp : cx.np = np) (hM : LeM l np M M') (hE : LeE l M'.n E E') : Cv cx nt E M E' M' :=
  fun a w e hh he => ⟨_, hh.re hnp hM, he.re hM hE⟩
/-- A state told otherwise, its naming going on. -/
def CvL (cx : Cx) (nt : Nat) (E : Env) (M : Mem) (E' : Env) (M' : Mem) : Prop :=
  ∀ a w e, Hold cx e M w → Emb nt e M E a → ∃ e', Hold cx e' M' w ∧ Emb nt e' M' E' a ∧ e.le e'
theorem CvL.cv (h : CvL cx nt E M E' M') : Cv cx nt E M E' M' := fun a w e hh he => let ⟨e', h1, h2, _⟩ := h a w e hh he; ⟨e', h1, h2⟩
theorem CvL.vir {α : Type} (ct : TypeId) (R : Rd α) {N : Nat} (hN : M.n = N) (tt : Nat) (hv : E.v tt = .lit (.slice none 0 0)) : CvL cx nt E M (E.upd tt (.whole N)) (M.push (.row ct R [])) := by
  intro a w e hh he
  refine ⟨e.bump 0 0 0 true, hh.bindVir, ?_, e.bump_le 0 0 0 true⟩
  have h1 : Emb nt (e.bump 0 0 0 true) (M.push (.row ct R [])) E a := he.mono (e.bump_le 0 0 0 true) (fun b => e.bump_mem 0 0 0 true b)
  refine ⟨h1.sz, fun u => ?_, h1.d, h1.o⟩
  rw [Env.upd_v]
  split
  · rename_i hu
    subst hu
    have := h1.v u
    rw [hv] at this
    simp only [Val] at this
    rw [this]
    simp only [Val, Nv.bump, ← hN, ← hh.n, if_true]
    exact ⟨Nat.lt_succ_self _, Nat.le_refl _, trivial, trivial⟩
  · exact h1.v u
theorem Cv.vir {α : Type} (ct : TypeId) (R : Rd α) {N : Nat} (hN : M.n = N) (tt : Nat) (hv : E.v tt = .lit (.slice none 0 0)) : Cv cx nt E M (E.upd tt (.whole N)) (M.push (.row ct R [])) := CvL.cv (CvL.vir ct R hN tt hv)
theorem CvL.virC {α : Type} (ct : TypeId) (R : Rd α) {i off N : Nat} {t : TypeId} {l : List AVal} (hN : M.n = N) (hi : Nat.blt i N = true) (hc : M.at_ i = .cells t l) (hv : l[off]? = some (.lit (.slice none 0 0))) :
    CvL cx nt E M E ((M.push (.row ct R [])).set i (.cells t (l.set off (.whole N)))) :=
  fun a w e hh he => ⟨_, hh.virCell hN (by simpa using hi) hc hv, he.mono (e.bump_le 0 0 0 true) (fun b => e.bump_mem 0 0 0 true b), e.bump_le 0 0 0 true⟩
theorem Cv.virC {α : Type} (ct : TypeId) (R : Rd α) {i off N : Nat} {t : TypeId} {l : List AVal} (hN : M.n = N) (hi : Nat.blt i N = true) (hc : M.at_ i = .cells t l) (hv : l[off]? = some (.lit (.slice none 0 0))) :
    Cv cx nt E M E ((M.push (.row ct R [])).set i (.cells t (l.set off (.whole N)))) := CvL.cv (CvL.virC ct R hN hi hc hv)
/-- A value told otherwise. -/
theorem q_nm {op : Op} {ty : TypeId} {st : List Nat} {v v' : AVal} (h : Quiet P op ty E M st v) (hv : v = v') : Quiet P op ty E M st v' := hv ▸ h
theorem nm_int {k : IntKind} {a b : Int} (h : some a = some b) : AVal.lit (.int k a) = AVal.lit (.int k b) := by cases h; rfl
theorem nm_bool {a b : Bool} (h : some a = some b) : AVal.lit (.bool a) = AVal.lit (.bool b) := by cases h; rfl
theorem nf {α : Type} {x : Option α} {r : α} {p : Prop} (e : x = none) (h : x = some r) : p := by rw [e] at h; cases h
end
/-- A truth value that is known. -/
theorem lb {a b : Bool} (h : a = b) : AVal.lit (.bool a) = AVal.lit (.bool b) := by rw [h]
theorem bnot {a : Bool} (h : (!a) = true) : a = false := by cases a <;> first | rfl | cases h
theorem Joins.nil {α : Type} {R : Rd α} {b : Bool} : Joins (Rd.slice R) b [] [.lit (.slice none 0 0)] := fun e cs hk ho => by
  simp only [Vals, Val] at hk
  obtain ⟨v, ws, rfl, rfl, rfl⟩ := hk
  exact .inl ⟨rfl, none, 0, rfl⟩
/-- What a body must come to, its memory told anew. -/
def BodyR (az : List (Nat × Nat)) (rs : List ResultVar) (np : Nat) (Q : Out → Mem → Prop) (x : Ex) (E : Env) (M : Mem) : Prop :=
  match x with
  | .normal | .ret => marksOk M E.d ∧ ∃ vs, resAll az E (dropMarks M E.d) rs = some vs ∧ ∃ (l : List Nat) (v : AVal) (M2 : Mem), LeM l np (dropMarks M E.d) M2 ∧ resOut vs = v.ren (sub l) ∧ v.under M2.n = true ∧ Q (.ret v) M2
  | .panic u => marksOk M E.d ∧ ∃ (l : List Nat) (v : AVal) (M2 : Mem), LeM l np (dropMarks M E.d) M2 ∧ u = v.ren (sub l) ∧ v.under M2.n = true ∧ Q (.pan v) M2
  | _ => False
theorem Spec.of_bodyR {az : List (Nat × Nat)} {P : Program} {f : FuncId} {fn : Func} {c : Code} {np nt : Nat} {args : List AVal} {M : Mem} {Q : Out → Mem → Prop} {rs : List ResultVar} (hf : P.funcs[f]? = some fn) (hb : fn.body = some c) (hr : fn.results.toList = rs) (hsc : ∀ t T, ResultVar.cell t T ∈ rs → CellOk P az T)
    (hnt : fn.ntmps = nt) (ha : Nat.ble args.length nt = true) (h : ∀ cx, cx.np = np → WP P cx ⟨nt, none⟩ c (argsEnv args) M (BodyR az rs np Q)) : Spec P f np args M Q := by
  have h1 : Spec P f np args M fun o M' => match o with
      | .ret u => ∃ (l : List Nat) (v : AVal) (M2 : Mem), LeM l np M' M2 ∧ u = v.ren (sub l) ∧ v.under M2.n = true ∧ Q (.ret v) M2
      | .pan u => ∃ (l : List Nat) (v : AVal) (M2 : Mem), LeM l np M' M2 ∧ u = v.ren (sub l) ∧ v.under M2.n = true ∧ Q (.pan v) M2 := by
    refine Spec.of_body hf hb hr hsc hnt ha fun cx hnp => (h cx hnp).mono fun x E M q => ?_
    cases x with
    | normal => obtain ⟨q1, vs, q2, q3⟩ := q; exact ⟨q1, vs, q2, q3⟩
    | ret => obtain ⟨q1, vs, q2, q3⟩ := q; exact ⟨q1, vs, q2, q3⟩
    | panic u => obtain ⟨q1, q2⟩ := q; exact ⟨q1, q2⟩
    | exit id => exact q
    | goto l => exact q
  intro cx e w vs k1 k2 k3
  refine (h1 cx e w vs k1 k2 k3).mono fun x w' ⟨o, M', e', q, g1, g2⟩ => ?_
  cases o with
  | ret u =>
    obtain ⟨l, v, M2, hM, rfl, hu, hq⟩ := q
    obtain ⟨y, rfl, hy⟩ := g2
    exact ⟨.ret v, M2, _, hq, g1.re k1.np hM, y, rfl, hy.re hu⟩
  | pan u =>
    obtain ⟨l, v, M2, hM, rfl, hu, hq⟩ := q
    obtain ⟨y, rfl, hy⟩ := g2
    exact ⟨.pan v, M2, _, hq, g1.re k1.np hM, y, rfl, hy.re hu⟩
theorem Scope.n {Q : Ex → Env → Mem → Prop} {E : Env} {M : Mem} (h : Q .normal E M) : (match Ex.normal with | .goto _ => False | _ => True) ∧ Q .normal E M := ⟨trivial, h⟩
theorem Scope.r {Q : Ex → Env → Mem → Prop} {E : Env} {M : Mem} (h : Q .ret E M) : (match Ex.ret with | .goto _ => False | _ => True) ∧ Q .ret E M := ⟨trivial, h⟩
theorem Scope.x {Q : Ex → Env → Mem → Prop} {E : Env} {M : Mem} {id : Nat} (h : Q (.exit id) E M) : (match Ex.exit id with | .goto _ => False | _ => True) ∧ Q (.exit id) E M := ⟨trivial, h⟩
end Go.Q
namespace Go.Q
open Go
set_option linter.unusedVariables false
set_option linter.unusedSimpArgs false
def strOf (l : List Int) : ByteArray := l.foldl (fun r n => r.push (UInt8.ofNat n.toNat)) ByteArray.empty
theorem rows_u8 {m : Ro} : ∀ {l : List Int} {cs : List Value}, rows (Rd.int .u8) m l cs → cs.take l.length = l.map (Value.int .u8)
  | [], _, _ => by simp
  | d :: l, cs, h => by
    obtain ⟨h1, h2⟩ := h
    have h3 := rows_u8 h2
    simp only [Rd.int, Rd.sc] at h1 h3
    cases cs with
    | nil => simp at h1
    | cons c cs =>
      simp at h1 h3
      simp [h1, h3]
section
variable {P : Program} {E : Env} {M : Mem} {ty : TypeId}
theorem run_firstBytes (w : World) (bk o len : Nat) {c : Array Value} {tt : TypeId} {fr : Nat × Nat} {m : Ro} {l : List Int} (hb : w.heap[bk]? = some (.cells c tt fr)) (hr : rows (Rd.int .u8) m l (c.toList.drop o)) (hl : len = l.length) :
    (loadCells ⟨bk, o, none⟩ len).run P w = .ok (l.map (Value.int .u8)).toArray w := by
  have h1 := rows_u8 hr
  have h2 := rows_len hr
  simp only [Rd.int, Rd.sc, Nat.mul_one] at h2
  have := run_loadCells_list (P := P) w ⟨bk, o, none⟩ (l.map (Value.int .u8)) (by
    intro j v hj
    rw [add_at, cell_of hb]
    rw [← h1] at hj
    have hjl : j < l.length := by
      have := (List.getElem?_eq_some_iff.1 hj).1
      simp at this; omega
    rw [List.getElem?_take_of_lt hjl, List.getElem?_drop] at hj
    simpa using hj)
  rw [List.length_map] at this
  rw [hl]; exact this
/-- A string of the bytes of a row of our own. -/
theorem q_bytes_str_row {src dst e ct : TypeId} {x : Operand} {i : Nat} {l : List Int} (hs : P.underlying src = some (.slice e)) (he : P.underlying e = some (.int .u8)) (hd : P.underlying dst = some .string) (hx : E.ev x = .whole i) (hc : M.at_ i = .row ct (Rd.int .u8) l) :
    Quiet P (.convert src dst x) ty E M [i] (.lit (.string (strOf l))) :=
  fun cx nt a w e' hh hem => ⟨.string (strOf l), by simp [Val], fun w1 hw => by
    have hv := hem.ev x; rw [hx] at hv; simp only [Val] at hv
    have hk := hh.ch i hv.1
    rw [hc] at hk
    obtain ⟨g1, g2, g3, g4⟩ := hk
    have hv3 := hv.2.2
    cases hvir : e'.vir i with
    | true =>
      rw [hvir] at hv3 g4
      simp only [if_true] at hv3 g4
      subst g4
      have : (Conv.bytesToString (.slice none 0 0)).run P w1 = .ok (.string ByteArray.empty) w1 := by simp [Conv.bytesToString]
      simp only [exec1, execOp, hv3.1, Sem.run_bind, run_convert_bytes_string w1 src dst e none 0 0 hs he hd, this, Result.andThen, Sem.run_pure]
      rfl
    | false =>
      rw [hvir] at hv3 g4
      simp only [Bool.false_eq_true, if_false] at hv3 g4
      obtain ⟨c, z, hb, _, hcs, hrow⟩ := g4
      have := run_bytesToString (P := P) w1 ⟨e'.own i, 0, none⟩ l.length (e'.caps i) l (run_firstBytes w1 (e'.own i) 0 l.length ((hw.own i (by simp) hvir).trans hb) (by simpa using hrow) rfl)
      simp only [exec1, execOp, hv3, g1, Sem.run_bind, run_convert_bytes_string w1 src dst e _ _ _ hs he hd, this, Result.andThen, Sem.run_pure]
      rfl⟩
end
end Go.Q
namespace Go.Q
open Go
set_option linter.unusedVariables false
set_option linter.unusedSimpArgs false
def heapRo (W : World) : Ro := fun b => W.heap[b]?
def nvAll (W : World) : Nv := ⟨heapRo W, fun _ => none, fun _ => 0, fun _ => 0, fun _ => 0, fun _ => false, 0, fun _ => []⟩
theorem Spec.law {P : Program} {f : FuncId} {args : List AVal} {x : Value} (h : Spec P f 0 args Mem.nil fun o M => o = .ret (.lit x) ∧ M = Mem.nil) {W : World} {vs : List Value} (hv : Vals (nvAll W) args vs)
    (htb : ∀ g l, tabs g = some l → ∃ c t z, heapRo W g = some (.cells c t z) ∧ c.toList.take l.length = l := by exact tabs_none) :
    Calls P f vs.toArray W fun e W' => e = .returned x ∧ RowKit.Below W.heap.size W W' := by
  have hent : Entry ⟨W, fun _ => False, heapRo W, fun _ => none, 0, nvAll W, htb⟩ 0 (nvAll W) Mem.nil W :=
    ⟨rfl, rfl, rfl, rfl, fun b => ⟨fun h => h.elim, fun ⟨i, hi, _⟩ => absurd hi (Nat.not_lt_zero _)⟩⟩
  have hh : Hold ⟨W, fun _ => False, heapRo W, fun _ => none, 0, nvAll W, htb⟩ (nvAll W) Mem.nil W :=
    ⟨rfl, rfl, Nat.le_refl _, rfl, rfl, rfl, fun _ _ _ => rfl, fun _ _ h => h, fun _ _ h => (by cases h), Ro.le.refl _, fun _ _ h => .inl h, fun i hi => absurd hi (Nat.not_lt_zero _), fun i hi => absurd hi (Nat.not_lt_zero _),
     fun i j hi => absurd hi (Nat.not_lt_zero _), Nat.le_refl _, fun i hi => absurd hi (Nat.not_lt_zero _),
     ⟨fun i hi => absurd hi (Nat.not_lt_zero _), fun i hi => absurd hi (Nat.not_lt_zero _), fun i hi => absurd hi (Nat.not_lt_zero _), fun i j hi => absurd hi (Nat.not_lt_zero _)⟩⟩
  refine Calls.mono (CallsIn.calls (h _ _ W vs hent hh hv) (fence_room _)) ?_
  rintro e W' ⟨o, M', e', ⟨rfl, rfl⟩, k1, u, rfl, k2⟩
  simp only [Val] at k2
  subst k2
  exact ⟨rfl, k1.os, k1.tape, k1.output, k1.size, fun k hk => k1.frame k hk (fun h => h)⟩
theorem add_at' {a : Addr} {b off : Nat} : (a.add 0 = ⟨b, off, none⟩) = (a = ⟨b, off, none⟩) := by
  obtain ⟨b', o', sp⟩ := a
  cases sp <;> simp [Addr.add]
/-- A measure of readings. -/
structure Meas (H : Type) where
  u : DataW H → Nat
  ua : List (DataW H) → Nat
  nil : 1 ≤ u .nil
  lit : ∀ l, 1 ≤ u (.lit l)
  str : ∀ b, b.length + 1 ≤ u (.lit (.string b))
  ptr : ∀ d, u d + 1 ≤ u (.ptr d)
  slice : ∀ e s, ua e + 1 ≤ u (.slice e s)
  agg : ∀ l, ua l + 1 ≤ u (.agg l)
  cons : ∀ d r, u d + ua r ≤ ua (d :: r)
/-- A type whose readings are data of a reader: right ones, of a bulk. -/
def Opn (P : Program) (t : TypeId) {α : Type} (R : Rd α) (wf : α → Prop) (ms : α → Nat) : Prop :=
  R.sz = P.cellsOf t ∧ ∀ (H : Type) (enc : TypeId × Value → H) (W : World) (fuel : Nat) (cs : List Value) (x : DataW H × List MemPlace),
    DataW.trod enc P W 0 (fun _ => true) true fuel t cs = some x → ∃ d, R.ok (heapRo W) d cs ∧ wf d ∧ ∀ μ : Meas H, ms d ≤ μ.u x.1
section
variable {P : Program} {t e : TypeId}
theorem Opn.int {k : IntKind} (ht : P.underlying t = some (.int k)) (hc : P.cellsOf t = 1) : Opn P t (Rd.int k) (fun n => (Lit.int k n).wf = true) (fun _ => 1) :=
  ⟨hc.symm, fun H enc W fuel cs x h => by
    obtain ⟨n, rfl, rfl, hw⟩ := DataW.trod_int ht h
    exact ⟨n, rfl, hw, fun μ => μ.lit _⟩⟩
theorem Opn.bool (ht : P.underlying t = some .bool) (hc : P.cellsOf t = 1) : Opn P t Rd.bool (fun _ => True) (fun _ => 1) :=
  ⟨hc.symm, fun H enc W fuel cs x h => by
    obtain ⟨n, rfl, rfl⟩ := DataW.trod_bool ht h
    exact ⟨n, rfl, trivial, fun μ => μ.lit _⟩⟩
theorem Opn.str (ht : P.underlying t = some .string) (hc : P.cellsOf t = 1) : Opn P t Rd.str (fun s => s.size ≤ maxLen) (fun s => s.size + 1) :=
  ⟨hc.symm, fun H enc W fuel cs x h => by
    obtain ⟨s, rfl, rfl, hs⟩ := DataW.trod_string ht h
    refine ⟨s, rfl, hs, fun μ => ?_⟩
    have := μ.str s.data.toList
    rw [Array.length_toList] at this
    exact this⟩
def msum {α : Type} (ms : α → Nat) : List α → Nat
  | [] => 0
  | x :: l => ms x + msum ms l
theorem rows_mk {H : Type} {α : Type} {R : Rd α} {m : Ro} {wf : α → Prop} {ms : α → Nat} : ∀ (xs : List (DataW H × List MemPlace)) (cs : List Value), (∀ i x, xs[i]? = some x → ∃ d, R.ok m d ((cs.drop (i * R.sz)).take R.sz) ∧ wf d ∧ ∀ μ : Meas H, ms d ≤ μ.u x.1) →
    ∃ l : List α, l.length = xs.length ∧ rows R m l cs ∧ (∀ x ∈ l, wf x) ∧ ∀ μ : Meas H, msum ms l ≤ μ.ua (xs.map (·.1))
  | [], _, _ => ⟨[], rfl, trivial, by simp, fun μ => Nat.zero_le _⟩
  | x :: xs, cs, h => by
    obtain ⟨d, h1, h2, h0⟩ := h 0 x rfl
    obtain ⟨l, h3, h4, h5, h6⟩ := rows_mk xs (cs.drop R.sz) (fun i y hi => by
      obtain ⟨d, h1, h2, h0⟩ := h (i + 1) y (by simpa using hi)
      refine ⟨d, ?_, h2, h0⟩
      rw [List.drop_drop]
      rw [Nat.add_mul, Nat.one_mul, Nat.add_comm] at h1
      exact h1)
    refine ⟨d :: l, by simp [h3], ⟨by simpa using h1, h4⟩, ?_, fun μ => ?_⟩
    · intro x hx
      rcases List.mem_cons.1 hx with rfl | hx
      · exact h2
      · exact h5 x hx
    · exact Nat.le_trans (Nat.add_le_add (h0 μ) (h6 μ)) (μ.cons _ _)
theorem cells?_block {W : World} {a : Addr} {n : Nat} {cs : List Value} (h : W.cells? 0 a n = some cs) (hn : 0 < n) : ∃ b off c tt fr, a = ⟨b, off, none⟩ ∧ W.heap[b]? = some (.cells c tt fr) ∧ cs = (c.toList.drop off).take n := by
  obtain ⟨_, hlen, hget⟩ := World.cells?_some h
  obtain ⟨b, off, spot⟩ := a
  have h0 := hget 0 hn
  rw [List.getElem?_eq_getElem (by omega)] at h0
  have hspot : spot = none := by simpa [Addr.add] using World.cell?_spot h0
  subst hspot
  rw [add_at] at h0
  cases hb : W.heap[b]? with
  | none => simp [World.cell?, hb] at h0
  | some o =>
    cases o with
    | cells c tt fr =>
      refine ⟨b, off, c, tt, fr, rfl, hb, ?_⟩
      apply List.ext_getElem?
      intro i
      by_cases hi : i < n
      · rw [← hget i hi, add_at, cell_of hb, List.getElem?_take_of_lt hi, List.getElem?_drop]; simp
      · rw [List.getElem?_eq_none (by omega), List.getElem?_eq_none (by simp; omega)]
    | _ => simp [World.cell?, hb] at h0
theorem Opn.slice {α : Type} {R : Rd α} {wf : α → Prop} {ms : α → Nat} (ht : P.underlying t = some (.slice e)) (hc : P.cellsOf t = 1) (he : Opn P e R wf ms) (hpos : Nat.blt 0 R.sz = true) : Opn P t (Rd.slice R) (fun l => l.length ≤ maxLen ∧ ∀ x ∈ l, wf x) (fun l => msum ms l + 1) :=
  ⟨hc.symm, fun H enc W fuel cs x h => by
    have hpos' : 0 < R.sz := by simpa using hpos
    rcases DataW.trod_slice ht h with ⟨rfl, rfl⟩ | ⟨a, len, cap, elems, rest, n, _, rfl, rfl, _, hl, hm, hlen, hel, _⟩
    · exact ⟨[], .inl ⟨rfl, none, 0, rfl⟩, ⟨Nat.zero_le _, by simp⟩, fun μ => μ.nil⟩
    · have each : ∀ i x, elems[i]? = some x → ∃ cs', W.cells? 0 (a.add (i * R.sz)) R.sz = some cs' ∧ ∃ d, R.ok (heapRo W) d cs' ∧ wf d ∧ ∀ μ : Meas H, ms d ≤ μ.u x.1 := by
        intro i x hi
        have hil : i < len := by rw [← hlen]; exact (List.getElem?_eq_some_iff.1 hi).1
        have h1 := hel i hil
        rw [← he.1, hi, Option.bind_eq_some_iff] at h1
        obtain ⟨cs', h2, h3⟩ := h1
        exact ⟨cs', h2, he.2 H enc W n cs' _ h3⟩
      rcases Nat.eq_zero_or_pos len with h0 | h0
      · subst h0
        refine ⟨[], .inl ⟨rfl, some a, cap, rfl⟩, ⟨Nat.zero_le _, by simp⟩, fun μ => ?_⟩
        have := μ.slice (elems.map (·.1)) (rest.map (·.1))
        simp only [msum]; omega
      · obtain ⟨cs0, h2, _⟩ := each 0 elems[0] (List.getElem?_eq_getElem (by omega))
        rw [Nat.zero_mul] at h2
        obtain ⟨b, off, c, tt, fr, ha, hb, _⟩ := cells?_block h2 hpos'
        rw [add_at'] at ha
        subst ha
        obtain ⟨l, k1, k2, k3, k4⟩ := rows_mk (R := R) (m := heapRo W) (wf := wf) (ms := ms) elems (c.toList.drop off) (fun i x hi => by
          obtain ⟨cs', h2, d, h3, h4⟩ := each i x hi
          rw [add_at] at h2
          obtain ⟨b', off', c', tt', fr', ha', hb', hcs⟩ := cells?_block h2 hpos'
          simp only [Addr.mk.injEq, and_true] at ha'
          obtain ⟨rfl, rfl⟩ := ha'
          rw [hb] at hb'
          cases hb'
          refine ⟨d, ?_, h4⟩
          rw [List.drop_drop, ← hcs]
          exact h3)
        exact ⟨l, .inr ⟨b, off, c, tt, fr, cap, by rw [k1, hlen], by omega, hb, k2⟩, ⟨by omega, k3⟩, fun μ => Nat.le_trans (Nat.succ_le_succ (k4 μ)) (μ.slice _ _)⟩⟩
/-- The fields of a struct, from a place on. -/
def OpnP (P : Program) (l : List (Nat × TypeId)) (o : Nat) {α : Type} (R : Rd α) (wf : α → Prop) (ms : α → Nat) : Prop :=
  ∀ (H : Type) (enc : TypeId × Value → H) (W : World) (fuel : Nat) (cs : List Value) (xs : List (DataW H × List MemPlace)), xs.length = l.length → (∀ (i : Nat) (p : Nat × TypeId), l[i]? = some p → DataW.trod enc P W 0 (fun _ => true) true fuel p.2 ((cs.drop p.1).take (P.cellsOf p.2)) = xs[i]?) → cs.length = o + R.sz →
    ∃ d, R.ok (heapRo W) d (cs.drop o) ∧ wf d ∧ ∀ μ : Meas H, ms d ≤ μ.ua (xs.map (·.1))
theorem OpnP.nil {o : Nat} : OpnP P [] o Rd.unit (fun _ => True) (fun _ => 0) := fun H enc W fuel cs xs _ _ hl => ⟨(), by
  show cs.drop o = []
  exact List.drop_of_length_le (by simp [Rd.unit] at hl; omega), trivial, fun μ => Nat.zero_le _⟩
theorem OpnP.cons {o o' : Nat} {l : List (Nat × TypeId)} {α β : Type} {R : Rd α} {S : Rd β} {wf : α → Prop} {wf' : β → Prop} {ms : α → Nat} {ms' : β → Nat} (h : Opn P t R wf ms) (ho : o + R.sz = o') (k : OpnP P l o' S wf' ms') :
    OpnP P ((o, t) :: l) o (Rd.pair R S) (fun d => wf d.1 ∧ wf' d.2) (fun d => ms d.1 + ms' d.2) := fun H enc W fuel cs xs hx ha hl => by
  subst ho
  cases xs with
  | nil => simp at hx
  | cons x xs =>
    have hx1 := ha 0 (o, t) rfl
    obtain ⟨d, h1, h2, h5⟩ := h.2 H enc W fuel _ x hx1
    obtain ⟨d', h3, h4, h6⟩ := k H enc W fuel cs xs (by simpa using hx) (fun i p hp => ha (i + 1) p (by simpa using hp)) (by simp only [Rd.pair] at hl; omega)
    refine ⟨(d, d'), ⟨(cs.drop o).take R.sz, cs.drop (o + R.sz), ?_, by rw [h.1]; exact h1, h3⟩, ⟨h2, h4⟩, fun μ => Nat.le_trans (Nat.add_le_add (h5 μ) (h6 μ)) (μ.cons _ _)⟩
    rw [← List.drop_drop]
    exact (List.take_append_drop _ _).symm
theorem Opn.struct {α β : Type} {R : Rd α} {wf : α → Prop} {ms : α → Nat} {fs : Array Field} {l : List (Nat × TypeId)} {g : β → α} (mk : α → β) (hg : ∀ d, g (mk d) = d) (ht : P.underlying t = some (.struct fs)) (hl : fs.toList.map (fun f => (f.offset, f.type)) = l) (hc : R.sz = P.cellsOf t)
    (h : OpnP P l 0 R wf ms) : Opn P t (Rd.via R g) (fun s => wf (g s)) (fun s => ms (g s) + 1) :=
  ⟨hc, fun H enc W fuel cs x hx => by
    obtain ⟨xs, n, _, rfl, hlen, hxl, hf⟩ := DataW.trod_struct ht hx
    obtain ⟨d, h1, h2, h3⟩ := h H enc W n cs xs (by rw [hxl, ← hl]; simp) (fun i p hp => by
      rw [← hl, List.getElem?_map] at hp
      obtain ⟨f, hf', rfl⟩ := Option.map_eq_some_iff.1 hp
      exact hf i f (by simpa using hf')) (by rw [hlen, hc]; omega)
    refine ⟨mk d, ?_, by show wf (g (mk d)); rw [hg]; exact h2, fun μ => ?_⟩
    · show R.ok _ (g (mk d)) cs
      rw [hg]
      simpa using h1
    · show ms (g (mk d)) + 1 ≤ _
      rw [hg]
      exact Nat.le_trans (Nat.succ_le_succ (h3 μ)) (μ.agg _)⟩
end
/-- More rounds tell the same. -/
structure Le {α : Type} (x y : Option α) : Prop where
  h : ∀ r, x = some r → y = some r
theorem Le.rfl {α : Type} {x : Option α} : Le x x := ⟨fun _ h => h⟩
theorem Le.none {α : Type} {x y : Option α} (h : x = Option.none) : Le x y := ⟨fun r hr => by rw [h] at hr; cases hr⟩
theorem Le.bind {α β : Type} {x y : Option α} {f g : α → Option β} (h : Le x y) (k : ∀ a, Le (f a) (g a)) : Le (x.bind f) (y.bind g) := ⟨fun r hr => by
  obtain ⟨a, h1, h2⟩ := Option.bind_eq_some_iff.1 hr
  exact Option.bind_eq_some_iff.2 ⟨a, h.h a h1, (k a).h r h2⟩⟩
theorem Le.cond {α : Type} {b : Bool} {x x' y y' : Option α} (h : Le x x') (k : Le y y') : Le (bif b then x else y) (bif b then x' else y') := by
  cases b <;> assumption
end Go.Q
namespace Go.Q
open Go
set_option linter.unusedVariables false
set_option linter.unusedSimpArgs false
section
variable {k : IntKind}
theorem wrap_ofInt (hs : k.signed = false) (n : Int) : k.wrap n = ((BitVec.ofInt k.bits n).toNat : Int) := by
  have h2 : (0 : Int) < 2 ^ k.bits := Int.pow_pos (by decide)
  simp only [IntKind.wrap, hs, Bool.false_and, Bool.false_eq_true, if_false, BitVec.toNat_ofInt]
  rw [Int.toNat_of_nonneg]
  · simp
  · exact Int.emod_nonneg _ (by simp; omega)
theorem wrap_nat (hs : k.signed = false) (b : BitVec k.bits) : k.wrap (b.toNat : Int) = (b.toNat : Int) := by
  rw [wrap_ofInt hs, BitVec.ofInt_natCast, BitVec.ofNat_toNat]
  simp
theorem ofInt_toNat (b : BitVec k.bits) : BitVec.ofInt k.bits (b.toNat : Int) = b := by
  rw [BitVec.ofInt_natCast, BitVec.ofNat_toNat]; simp
theorem bv_and (hs : k.signed = false) (a b : BitVec k.bits) : bits .and k (a.toNat : Int) (b.toNat : Int) = ((a &&& b).toNat : Int) := by
  simp only [bits, ofInt_toNat, wrap_nat hs]
theorem bv_or (hs : k.signed = false) (a b : BitVec k.bits) : bits .or k (a.toNat : Int) (b.toNat : Int) = ((a ||| b).toNat : Int) := by
  simp only [bits, ofInt_toNat, wrap_nat hs]
end
theorem u64_and (a b : BitVec 64) : bits .and .u64 (a.toNat : Int) (b.toNat : Int) = ((a &&& b).toNat : Int) := bv_and (k := .u64) rfl a b
theorem u64_or (a b : BitVec 64) : bits .or .u64 (a.toNat : Int) (b.toNat : Int) = ((a ||| b).toNat : Int) := bv_or (k := .u64) rfl a b
theorem wi {n : Int} (h1 : -9223372036854775808 ≤ n) (h2 : n ≤ 9223372036854775807) : IntKind.wrap .i64 n = n := by
  rw [IntKind.wrap_i64]; omega
theorem wu8 {n : Int} (h1 : 0 ≤ n) (h2 : n ≤ 255) : IntKind.wrap .u8 n = n := by
  have : IntKind.wrap .u8 n = n % 256 := by simp [IntKind.wrap, IntKind.bits, IntKind.signed]
  rw [this]; omega
theorem i64_wf {n : Int} (h : (Lit.int .i64 n).wf = true) : -9223372036854775808 ≤ n ∧ n ≤ 9223372036854775807 := by
  simp only [Lit.wf, IntKind.min, IntKind.max, IntKind.signed, IntKind.bits, if_true, Bool.and_eq_true, decide_eq_true_eq] at h
  simpa using h
theorem ix_nat {α : Type} {l : List α} {i : Nat} (h : i < l.length) : ix l (i : Int) = some l[i] := by
  simp [ix, h]
theorem dt {p : Prop} [Decidable p] (h : p) : decide p = true := decide_eq_true h
theorem df {p : Prop} [Decidable p] (h : ¬ p) : decide p = false := decide_eq_false h
end Go.Q
namespace Go.Q
open Go
set_option linter.unusedVariables false
set_option linter.unusedSimpArgs false
end Go.Q
namespace Go.Q
open Go
set_option linter.unusedVariables false
set_option linter.unusedSimpArgs false
section
variable {P : Program} {ty : TypeId} {E : Env} {M : Mem}
/-- An array that is only read. -/
def Rd.array {α : Type} (n : Nat) (A : Rd α) (d0 : α) : Rd (List α) where
  sz := n * A.sz
  ok m l cs := cs.length = n * A.sz ∧ ∀ j, j < n → A.ok m (l.getD j d0) ((cs.drop (j * A.sz)).take A.sz)
  mono hm h := ⟨h.1, fun j hj => A.mono hm (h.2 j hj)⟩
  len h := h.1
  one := by
    rintro m d cs ⟨h1, h2⟩ v hv
    obtain ⟨k, hk, rfl⟩ := List.mem_iff_getElem.1 hv
    have hz : 0 < A.sz := by
      rcases Nat.eq_zero_or_pos A.sz with h | h
      · rw [h1, h] at hk; simp at hk
      · exact h
    have hkn : k / A.sz < n := Nat.div_lt_of_lt_mul (by rw [Nat.mul_comm, ← h1]; exact hk)
    refine A.one (h2 (k / A.sz) hkn) _ ?_
    have hkm := Nat.mod_lt k hz
    have e1 : k / A.sz * A.sz + k % A.sz = k := by rw [Nat.mul_comm]; exact Nat.div_add_mod k A.sz
    refine List.mem_iff_getElem?.2 ⟨k % A.sz, ?_⟩
    rw [List.getElem?_take_of_lt hkm, List.getElem?_drop, e1, List.getElem?_eq_getElem hk]
/-- A value put into an interface. -/
structure Conc (P : Program) (t : TypeId) : Prop where
  h : ∃ d, P.underlying t = some d ∧ (match d with | .interface _ => False | _ => True)
theorem q_mki {t : TypeId} {x : Operand} (h : Conc P t) : Quiet P (.makeInterface t x) ty E M [] (.ifc t (E.ev x)) :=
  fun _ _ a w e hh he => by
    obtain ⟨d, h1, h2⟩ := h.h
    refine ⟨.iface t (a.eval x), by simp only [Val]; exact ⟨_, rfl, he.ev x⟩, fun w1 _ => ?_⟩
    cases d <;> first | exact h2.elim | simp [exec1, execOp, Instr.makeInterface, run_underlying h1]
theorem q_cap_nil {t el : TypeId} {x : Operand} (h : P.underlying t = some (.slice el)) (hx : E.ev x = .lit (.slice none 0 0)) : Quiet P (.call { callee := .builtin .cap, args := #[x], argTypes := #[t] }) ty E M [] (.lit (.int .i64 0)) :=
  fun _ _ a w e hh he => ⟨.int .i64 0, by simp [Val], fun w1 _ => by
    simp [exec1, execOp, resolve, invoke, builtin, Builtin.cap_, ev_lit he hx, run_underlying h, goInt]⟩
/-- A row of our own cut behind a place: its room stays. -/
theorem d_cut {α : Type} {R : Rd α} {l : List α} {t el ct : TypeId} {n i N : Nat} {x y : Operand} {k : IntKind} {j : Int} (h : SlIs P t el n) (hx : E.ev x = .whole i) (hc : M.at_ i = .row ct R l) (hy : E.ev y = .lit (.int k j)) (hb : decide (0 ≤ j ∧ j ≤ l.length) = true) (hN : M.n = N) :
    Does P (.slice t x none (some y) none) ty E M [i] (.whole N) ((M.set i .gone).push (.row ct R (l.take j.toNat))) :=
  fun cx nt a w e hh he => by
    obtain ⟨b0, b1⟩ := of_decide_eq_true hb
    have hv := he.ev x; rw [hx] at hv; simp only [Val] at hv
    have hk := hh.ch i hv.1
    rw [hc] at hk
    obtain ⟨g1, g2, g3, g4⟩ := hk
    have hv3 := hv.2.2
    have hll : (l.take j.toNat).length = j.toNat := by simp; omega
    have hdrop := hh.drop i
    cases hvir : e.vir i with
    | true =>
      rw [hvir] at hv3 g4
      simp only [if_true] at hv3 g4
      subst g4
      have hj0 : j = 0 := by simp at b1; omega
      subst hj0
      refine ⟨.slice none 0 0, w, e.bump 0 0 0 true, ?_, hdrop.bindVir, ⟨e.bump_le 0 0 0 true, fun b => e.bump_mem 0 0 0 true b⟩, ?_, fun _ _ _ => rfl, Nat.le_refl _⟩
      · have h0 : e.lens i = 0 := hv3.2
        rw [h0] at hv3
        have hcap : ∃ c, a.eval x = .slice none 0 c := ⟨0, by rw [hv3.1]⟩
        have := run_slice_sl h none 0 0 none (some (.int k 0)) 0 0 w rfl ⟨k, rfl⟩ (Nat.le_refl _) (Nat.le_refl _)
        simp [exec1, execOp, hv3.1, ev_lit he hy, this]
      · simp only [Val, Nv.bump, ← hN, ← hh.n, if_true]
        exact ⟨Nat.lt_succ_self _, Nat.le_refl _, trivial, trivial⟩
    | false =>
      rw [hvir] at hv3 g4
      simp only [Bool.false_eq_true, if_false] at hv3 g4
      obtain ⟨c, z, hbk, hz, hcs, hrow⟩ := g4
      have hlive : (M.at_ i).live e i := by rw [hc]; exact hvir
      have hli := hh.live i hv.1 hlive
      refine ⟨.slice (some ⟨e.own i, 0, none⟩) j.toNat (e.caps i), w, e.bump (e.own i) (e.caps i) j.toNat, ?_, ?_, ⟨e.bump_le _ _ _ false, fun b => e.bump_mem _ _ _ false b⟩, ?_, fun _ _ _ => rfl, Nat.le_refl _⟩
      · have := run_slice_sl h (some ⟨e.own i, 0, none⟩) (e.lens i) (e.caps i) none (some (.int k j)) 0 j.toNat w rfl ⟨k, by rw [Int.toNat_of_nonneg b0]⟩ (Nat.zero_le _) (by omega)
        simp [exec1, execOp, hv3, ev_lit he hy, this, add_at]
      · refine hdrop.bind rfl rfl rfl (Nat.le_refl _) hli.1 (fun _ _ _ => rfl) (fun q hq hl hqi => ?_) (fun q hq hm hbq => ?_) hli.2.1 hli.2.2.1 hli.2.2.2 ?_
        · rw [Mem.set_at] at hl
          split at hl
          · exact hl.elim
          · rename_i hqi'; exact hqi' (hh.dist q i hq hv.1 hl hlive hqi)
        · rw [Mem.set_at] at hm
          split at hm
          · cases hm
          · exact hh.bag.own q hq hm _ hbq i hv.1 hlive rfl
        · refine ⟨by simp only [Nv.bump, if_true]; exact hll.symm, by simp only [Nv.bump, if_true, hll]; omega, by simpa [Nv.bump] using g3, ?_⟩
          simp only [Nv.bump, if_true, Bool.false_eq_true, if_false]
          exact ⟨c, z, hbk, hz, hcs, rows_take _ hrow⟩
      · simp only [Val, Nv.bump, ← hN, ← hh.n, if_true, Bool.false_eq_true, if_false]
        exact ⟨Nat.lt_succ_self _, by omega, trivial⟩
end
theorem PartIs.self {α : Type} {R : Rd α} {d : α} : PartIs R d 0 R d := fun m cs h => by
  rw [List.drop_zero, List.take_of_length_le (by rw [R.len h]; exact Nat.le_refl _)]; exact h
end Go.Q
namespace Go.Q
open Go
set_option linter.unusedVariables false
set_option linter.unusedSimpArgs false
/-- There is a result, of which something holds. -/
def Ret.{u} {α : Type u} (x : Option α) (p : α → Prop) : Prop := ∃ r, x = some r ∧ p r
section
universe u v
variable {α : Type u} {β : Type v} {x y : Option α} {p q : α → Prop} {r : α}
theorem Ret.pure (h : p r) : Ret (some r) p := ⟨r, rfl, h⟩
theorem Ret.bind {f : α → Option β} {q : β → Prop} (h : Ret x p) (k : ∀ a, p a → Ret (f a) q) : Ret (x.bind f) q := by
  obtain ⟨a, rfl, ha⟩ := h
  exact k a ha
theorem Ret.cond {b : Bool} (h : b = true → Ret x p) (k : b = false → Ret y p) : Ret (bif b then x else y) p := by
  cases b with
  | true => exact h rfl
  | false => exact k rfl
theorem Ret.mono (h : Ret x p) (k : ∀ a, p a → q a) : Ret x q := let ⟨r, h1, h2⟩ := h; ⟨r, h1, k r h2⟩
theorem Ret.eq (h : x = some r) (k : p r) : Ret x p := ⟨r, h, k⟩
theorem Ret.some (h : Ret x p) : ∃ r, x = Option.some r := let ⟨r, h1, _⟩ := h; ⟨r, h1⟩
end
theorem bd {α : Type} {c : Prop} [Decidable c] {x y : α} : (bif decide c then x else y) = if c then x else y := by
  by_cases h : c <;> simp [h]
theorem bt {α : Type} {x y : α} : (bif true then x else y) = x := rfl
theorem bf {α : Type} {x y : α} : (bif false then x else y) = y := rfl
theorem tm (a b : Nat) : Int.tmod (a : Int) (b : Int) = ((a % b : Nat) : Int) := rfl
theorem td (a b : Nat) : Int.tdiv (a : Int) (b : Int) = ((a / b : Nat) : Int) := rfl
end Go.Q
namespace Go.Q
open Go
set_option linter.unusedVariables false
set_option linter.unusedSimpArgs false
section
variable {P : Program} {cx : Cx} {fr : Fr} {ops : Array Oper} {os : List Oper} {E : Env} {M M' : Mem} {Q : Ex → Env → Mem → Prop} {op : Op} {ty : TypeId} {pos : String} {after : Array Edge} {dst : Nat} {v : AVal} {tc : List Nat}
variable {st st' X X' : List Nat} {fuel : Nat} {listed : Array Bool} {i : Nat}
/-- The walk, when operation i comes up next. -/
def WPD1 (P : Program) (cx : Cx) (fr : Fr) (ops : Array Oper) (st X : List Nat) (fuel : Nat) (listed : Array Bool) (i : Nat) (E : Env) (M : Mem) (Q : Ex → Env → Mem → Prop) : Prop :=
  ∀ a w e, Hold cx e M w → Emb fr.nt e M E a → wpOpIn (fence fr.r) 0 P ops (Sat cx fr Q) i
    (fun a' w' => (X.contains i = true ∧ Agree e [] w w' ∧ wpAnyG P fr.r .any ops (Sat cx fr Q) (Agree e [] w) fuel (listed.setIfInBounds i true) a' w') ∨
      (X.contains i = false ∧ Agree e st w w' ∧ wpAnyF P fr.r .any ops (Sat cx fr Q) (Agree e [] w) (Agree e st w) X fuel (listed.setIfInBounds i true) a' w')) a w
def readyAre (ops : Array Oper) (listed : Array Bool) (l : List Nat) : Bool := Region.ready .any ops listed == l && !l.isEmpty
theorem WPD.ofL (l : List Nat) (hb : readyAre ops listed l = true) (h : ∀ i ∈ l, WPD1 P cx fr ops st X fuel listed i E M Q) : WPD P cx fr ops st X (fuel + 1) listed E M Q := by
  intro a w e hh he
  simp only [readyAre, Bool.and_eq_true, beq_iff_eq, Bool.not_eq_true'] at hb
  refine ⟨fun h0 => ?_, fun j hj => ?_⟩
  · rw [hb.1] at h0; subst h0; simp at hb
  · rw [hb.1] at hj
    exact h j hj a w e hh he
theorem WPD.of2 (i j : Nat) (hb : readyAre ops listed [i, j] = true) (h1 : WPD1 P cx fr ops st X fuel listed i E M Q) (h2 : WPD1 P cx fr ops st X fuel listed j E M Q) : WPD P cx fr ops st X (fuel + 1) listed E M Q :=
  WPD.ofL [i, j] hb fun k hk => by
    simp only [List.mem_cons, List.not_mem_nil, or_false] at hk
    rcases hk with rfl | rfl
    · exact h1
    · exact h2
theorem WPD.of3 (i j k : Nat) (hb : readyAre ops listed [i, j, k] = true) (h1 : WPD1 P cx fr ops st X fuel listed i E M Q) (h2 : WPD1 P cx fr ops st X fuel listed j E M Q) (h3 : WPD1 P cx fr ops st X fuel listed k E M Q) : WPD P cx fr ops st X (fuel + 1) listed E M Q :=
  WPD.ofL [i, j, k] hb fun m hk => by
    simp only [List.mem_cons, List.not_mem_nil, or_false] at hk
    rcases hk with rfl | rfl | rfl
    · exact h1
    · exact h2
    · exact h3
theorem WPD1.eff_core (i : Nat) (st' X' : List Nat) {o : Oper} {E' : Env} (ho : ops[i]? = some o)
    (hg : ∀ a e, Emb fr.nt e M E a → Region.wanted o (yielded ops a.tmps) = true)
    (hs : (X.contains i || (X'.all X.contains && st.all fun j => st'.contains j && Nat.blt j M.n && (M.at_ j).isOwn && !(tc.contains j))) = true)
    (hstep : ∀ a w e, Hold cx e M w → Emb fr.nt e M E a → ∀ (next : Act → World → Prop) (Q : Exit → Act → World → Prop),
      (∀ a' w' e', Hold cx e' M' w' → e.le e' → Emb fr.nt e' M' E' a' → (∀ b, b < w.heap.size → (∀ i ∈ tc, i < e.n → (M.at_ i).live e i → e.own i ≠ b) → w'.heap[b]? = w.heap[b]?) → next a' w') →
      o.wpIn (fence fr.r) 0 P a w next Q)
    (k : WPD P cx fr ops st' X' fuel (listed.setIfInBounds i true) E' M' Q) : WPD1 P cx fr ops st X fuel listed i E M Q := by
  intro a w e hh he
  unfold wpOpIn
  simp only [ho]
  rw [if_pos (hg _ _ he)]
  refine hstep a w e hh he _ _ fun a' w' e' hh' hle he' hfr => ?_
  have hk := k a' w' e' hh' he'
  have hag : ∀ {st'' : List Nat} w1, Agree e' st'' w' w1 → Agree e [] w w1 := fun w1 hw => ⟨fun b o hb => hw.ro b o (hle.m b o hb), fun b o hb => hw.bro b o (hle.bm b o hb), fun _ hi => by cases hi⟩
  cases hx : X.contains i with
  | true => exact .inl ⟨rfl, hag _ (Agree.of_hold hh' st'), wpAnyG_of_F (fun w1 h => hag w1 h) (fun w1 h => hag w1 h) _ _ _ _ hk⟩
  | false =>
    rw [hx, Bool.false_or, Bool.and_eq_true] at hs
    have hst : ∀ x ∈ st, e.vir x = false → x < e.n ∧ w'.heap[e.own x]? = w.heap[e.own x]? ∧ x ∈ st' := by
      intro x hx hvx
      have h := List.all_eq_true.1 hs.2 x hx
      simp only [Bool.and_eq_true, Nat.blt_eq, Bool.not_eq_true'] at h
      obtain ⟨⟨⟨h1, h2⟩, h3⟩, h4⟩ := h
      have hxn : x < e.n := by rw [hh.n]; exact h2
      have hlx : (M.at_ x).live e x := by
        cases hc : M.at_ x with
        | cells t l => trivial
        | row t R l => exact hvx
        | gone => rw [hc] at h3; simp [Chunk.isOwn] at h3
        | obj o => rw [hc] at h3; simp [Chunk.isOwn] at h3
        | bag => rw [hc] at h3; simp [Chunk.isOwn] at h3
      refine ⟨hxn, hfr _ (hh.live x hxn hlx).1 fun y hy hyn hly hxy => ?_, by simpa using h1⟩
      have := hh.dist y x hyn hxn hly hlx hxy
      subst this
      rw [List.contains_eq_mem] at h4
      simp [hy] at h4
    have hmono : ∀ w1, Agree e' st' w' w1 → Agree e st w w1 := by
      intro w1 hw
      refine ⟨fun b o hb => hw.ro b o (hle.m b o hb), fun b o hb => hw.bro b o (hle.bm b o hb), fun x hx hvx => ?_⟩
      obtain ⟨h1, h2, h3⟩ := hst x hx hvx
      have := hw.own x h3 ((hle.vir x h1).trans hvx)
      rw [hle.own x h1] at this
      exact this.trans h2
    refine .inr ⟨rfl, hmono _ (Agree.of_hold hh' st'), wpAnyF_mono (fun w1 h => hag w1 h) (fun w1 h => hag w1 h) hmono (fun y hy => ?_) _ _ _ _ hk⟩
    exact List.all_eq_true.1 hs.1 y (by simpa using hy)
theorem WPD1.eff (i : Nat) (st' X' : List Nat) (ho : ops[i]? = some { dst := some dst, op := op, type := ty, pos := pos, after := after, guard := Option.none })
    (h : Runs P op ty E M tc v M') (hs : (X.contains i || (X'.all X.contains && st.all fun j => st'.contains j && Nat.blt j M.n && (M.at_ j).isOwn && !(tc.contains j))) = true) (ht : Nat.blt dst fr.nt = true)
    (k : WPD P cx fr ops st' X' fuel (listed.setIfInBounds i true) (E.upd dst v) M' Q) : WPD1 P cx fr ops st X fuel listed i E M Q :=
  WPD1.eff_core (tc := tc) (M' := M') i st' X' ho (fun _ _ _ => rfl) hs (fun a w e hh he next Q' hk => h cx fr a w e hh he _ rfl rfl _ _ fun x w' e' hh' hle hv hfr _ =>
    hk _ w' e' hh' hle.1 ((he.mono hle.1 hle.2).put ht hv) hfr) k
theorem WPD1.effS (i : Nat) (st' X' : List Nat) (ho : ops[i]? = some { dst := Option.none, op := op, type := ty, pos := pos, after := after, guard := Option.none })
    (h : DoesS P op ty E M tc M') (hs : (X.contains i || (X'.all X.contains && st.all fun j => st'.contains j && Nat.blt j M.n && (M.at_ j).isOwn && !(tc.contains j))) = true)
    (k : WPD P cx fr ops st' X' fuel (listed.setIfInBounds i true) E M' Q) : WPD1 P cx fr ops st X fuel listed i E M Q :=
  WPD1.eff_core (tc := tc) (M' := M') i st' X' ho (fun _ _ _ => rfl) hs (fun a w e hh he next Q' hk => by
    obtain ⟨w', e', hr, hh', hle, hfr, _⟩ := h cx fr.nt a w e hh he
    refine ⟨fun _ _ => trivial, ?_⟩
    rw [semAt_skip hr]
    exact hk _ w' e' hh' hle.1 (he.mono hle.1 hle.2) hfr) k
end
end Go.Q
namespace Go.Q
open Go
set_option linter.unusedVariables false
set_option linter.unusedSimpArgs false
section
variable {P : Program} {E : Env} {M : Mem} {ty : TypeId}
theorem alloc_old4 (w : World) (o : Obj) (i : Nat) (h : i < w.heap.size) : (w.alloc o).heap[i]? = w.heap[i]? := by
  simp [World.alloc, Array.getElem?_push, -World.alloc_eq]
  omega
/-- Two strings, one behind the other. -/
theorem q_concat {t yt : TypeId} {x y : Operand} {p s : ByteArray} (hx : E.ev x = .lit (.string p)) (hy : E.ev y = .lit (.string s)) (hlim : decide (p.size + s.size ≤ 9223372036854775807) = true) :
    Quiet P (.binOp .add t x y yt) ty E M [] (.lit (.string (p ++ s))) :=
  q_bin hx hy g_str fun w => by
    have h := of_decide_eq_true hlim
    have hmax : IntKind.i64.max = 9223372036854775807 := rfl
    have h' : ¬ (9223372036854775807 : Int) < (p.size : Int) + (s.size : Int) := by omega
    simp [binOp, Op.stringOp, hmax, h']
end
end Go.Q
namespace Go.Q
open Go
set_option linter.unusedVariables false
set_option linter.unusedSimpArgs false
/-- A function that the model stands in for. -/
structure ExtIs (P : Program) (f : FuncId) (g : Array Value → Sem Value) : Prop where
  h : ∃ fn, P.funcs[f]? = some fn ∧ fn.body.isNone = true ∧ (fn.name == "runtime.NumGoroutine") = false ∧ (Extern.findNext fn).isNone = true ∧ Extern.find fn = some g
section
variable {P : Program} {E : Env} {M : Mem} {ty : TypeId} {fo : Operand} {f : FuncId} {g : Array Value → Sem Value} {args : Array Operand} {tys : Array TypeId}
theorem run_ext {ρ : Operand → Value} {w w' : World} {r : Value} (hfn : ExtIs P f g) (hf : ρ fo = .func (.func f) #[] #[]) (hr : (g (args.map ρ)).run P w = .ok r w') :
    (exec1 ρ (.call { callee := .value fo, args := args, argTypes := tys }) ty).run P w = .ok (.value r) w' := by
  obtain ⟨fn, h1, h2, h3, h4, h5⟩ := hfn.h
  have h3' : ¬ fn.name = "runtime.NumGoroutine" := by simpa using h3
  have h4' : Extern.findNext fn = none := by simpa using h4
  have h2' : fn.body = none := by simpa using h2
  simp [exec1, execOp, resolve, Deferred.ofValue, hf, invoke, callFunc, h1, h2', h3', h4', h5, hr]
theorem fn_eval {nt : Nat} {e : Nv} {a : Act} (he : Emb nt e M E a) (hcal : E.ev fo = .fn f []) : a.eval fo = .func (.func f) #[] #[] := by
  have hv := he.ev fo
  rw [hcal] at hv
  simp only [Val, Vals] at hv
  obtain ⟨us, h1, rfl⟩ := hv
  exact h1
/-- abi.NoEscape. -/
theorem q_noEscape {x : Operand} {v : AVal} (hfn : ExtIs P f Extern.AbiNoEscape.same) (hcal : E.ev fo = .fn f []) (hx : E.ev x = v) :
    Quiet P (.call { callee := .value fo, args := #[x], argTypes := tys }) ty E M [] v :=
  fun cx nt a w e hh he => ⟨a.eval x, hx ▸ he.ev x, fun w1 hw => run_ext hfn (fn_eval he hcal) (by simp only [List.map_toArray, List.map_cons, List.map_nil]; rfl)⟩
/-- One byte, whichever. -/
def Rd.junk : Rd Unit where
  sz := 1
  ok _ _ cs := ∃ v : Int, cs = [.int .u8 v]
  mono _ h := h
  len := by rintro m d cs ⟨v, rfl⟩; rfl
  one := by rintro m d cs ⟨v, rfl⟩ u hu; simp at hu; subst hu; rfl
theorem digits_all : ∀ (n t : Nat) (acc : Array Value), (∀ v ∈ acc.toList, ∃ z : Int, v = .int .u8 z) → ∀ v ∈ (Extern.BytealgMakeNoZero.digits n t acc).toList, ∃ z : Int, v = .int .u8 z
  | 0, _, _, h => h
  | n + 1, t, acc, h => by
    rw [Extern.BytealgMakeNoZero.digits]
    refine digits_all n _ _ fun v hv => ?_
    simp at hv
    rcases hv with hv | rfl
    · exact h v (by simpa using hv)
    · exact ⟨_, rfl⟩
theorem rows_junk {m : Ro} : ∀ (n : Nat) {cs : List Value}, n ≤ cs.length → (∀ v ∈ cs, ∃ z : Int, v = .int .u8 z) → rows Rd.junk m (List.replicate n ()) cs
  | 0, _, _, _ => trivial
  | n + 1, [], h, _ => by simp at h
  | n + 1, c :: cs, h, hc => by
    rw [List.replicate_succ]
    obtain ⟨z, rfl⟩ := hc c (by simp)
    have := rows_junk (m := m) n (cs := cs) (by simpa using h) fun v hv => hc v (by simp [hv])
    exact ⟨⟨z, rfl⟩, this⟩
/-- bytealg.MakeNoZero: so many bytes, whichever. -/
theorem d_makeNoZero {ps : Array TypeId} {t el : TypeId} {x : Operand} {n : Int} {N : Nat} (hfn : ExtIs P f (Extern.BytealgMakeNoZero.makeNoZero ps #[t])) (ht : P.underlying t = some (.slice el)) (hcal : E.ev fo = .fn f []) (hx : E.ev x = .lit (.int .i64 n))
    (hlim : decide (0 ≤ n ∧ n ≤ 140737488355328) = true) (hN : M.n = N) :
    Does P (.call { callee := .value fo, args := #[x], argTypes := tys }) ty E M [] (.whole N) (M.push (.row el Rd.junk (List.replicate n.toNat ()))) :=
  fun cx nt a w e hh he => by
    obtain ⟨l0, l1⟩ := of_decide_eq_true hlim
    obtain ⟨k, rfl⟩ : ∃ k : Nat, n = (k : Int) := ⟨n.toNat, by omega⟩
    have hdef : Extern.BytealgMakeNoZero.makeNoZero ps #[t] #[.int .i64 (k : Int)] =
      (do
        let .slice elem ← underlying t | stuck "bytealg.MakeNoZero: slice type expected"
        if (k : Int) < 0 || (k : Int) > 2 ^ 48 then runtimePanic (.error "makeslice: len out of range")
        let cap ← choose (.appendCap (k : Int).toNat 0 elem)
        askRoom cap
        let bytes ← choose (.extern "internal/bytealg.MakeNoZero.bytes" 0)
        let a ← newRow elem (Extern.BytealgMakeNoZero.digits cap bytes #[])
        pure (.slice (some a) (k : Int).toNat cap)) := rfl
    have h1 : ¬ (k : Int) < 0 := by omega
    have h2 : ¬ (281474976710656 : Int) < (k : Int) := by omega
    obtain ⟨cs, hcs⟩ : ∃ cs, cs = Extern.BytealgMakeNoZero.digits (grownCap w k 0 el) ((Question.extern "internal/bytealg.MakeNoZero.bytes" 0).cut (w.tape (w.drawn + 1) (.extern "internal/bytealg.MakeNoZero.bytes" 0))) #[] := ⟨_, rfl⟩
    have hsz : cs.size = grownCap w k 0 el := by rw [hcs, Lib.size_digits]; simp
    have hrun : (Extern.BytealgMakeNoZero.makeNoZero ps #[t] #[.int .i64 (k : Int)]).run P w = .ok (.slice (some ⟨w.heap.size, 0, none⟩) k (grownCap w k 0 el)) (w.drew.drew.alloc (.cells cs el)) := by
      rw [hdef, hcs]
      simp [run_underlying ht, h1, h2, Question.forced, newRow, grownCap]
    have hall : ∀ v ∈ cs.toList, ∃ z : Int, v = .int .u8 z := by rw [hcs]; exact digits_all _ _ _ (by simp)
    have hge := grownCap_ge w k 0 el
    have hcm := grownCap_le_maxLen w k 0 el (by simp only [maxLen]; omega)
    refine ⟨.slice (some ⟨w.heap.size, 0, none⟩) k (grownCap w k 0 el), w.drew.drew.alloc (.cells cs el), e.bump w.heap.size (grownCap w k 0 el) k, ?_, ?_, ⟨e.bump_le _ _ _ false, fun b => e.bump_mem _ _ _ false b⟩, ?_, fun b hb _ => alloc_old4 w.drew.drew _ b hb, by simp⟩
    · refine run_ext hfn (fn_eval he hcal) ?_
      simp only [List.map_toArray, List.map_cons, List.map_nil, ev_lit he hx]
      exact hrun
    · refine hh.bind rfl rfl rfl (by simp) (by simp) (fun k hk hlt => alloc_old4 w.drew.drew _ k hlt) (fun i hi hl => Nat.ne_of_lt (hh.live i hi hl).1) hh.bag_new (hnone hh.ro) (hnone hh.bro) (.inr hh.size) ?_
      refine ⟨by simp [Nv.bump], by simp only [Nv.bump, if_true, List.length_replicate]; exact hge, by simpa [Nv.bump] using hcm, ?_⟩
      simp only [Nv.bump, if_true, Bool.false_eq_true, if_false]
      have hnew : (w.drew.drew.alloc (.cells cs el)).heap[w.heap.size]? = some (.cells cs el) := by
        exact heap_alloc_new w.drew.drew _
      refine ⟨cs, _, hnew, .inl rfl, by rw [hsz]; simp [Rd.junk], ?_⟩
      exact rows_junk _ (by simp [hsz]; exact hge) hall
    · simp only [Val, Nv.bump, ← hN, ← hh.n, if_true, Bool.false_eq_true, if_false]
      exact ⟨Nat.lt_succ_self _, hge, trivial⟩
theorem Hold.reset {cx : Cx} {e : Nv} {w : World} (h : Hold cx e M w) {i : Nat} {c : Chunk} (hc : c.ok e w i) (hl : c.live e i → (M.at_ i).live e i) (hm : c.mark = true → (M.at_ i).mark = true) : Hold cx e (M.set i c) w := by
  refine ⟨h.bm, h.n, h.size, h.os, h.tape, h.output, h.frame, h.ro, h.bro, h.m0, h.mnew, ?_, ?_, ?_, h.np, h.pin, ?_⟩
  · intro j hj
    rw [Mem.set_at]
    split
    · rename_i hji; subst hji; exact hc
    · exact h.ch j hj
  · intro j hj hlj
    rw [Mem.set_at] at hlj
    split at hlj
    · rename_i hji; subst hji; exact h.live j hj (hl hlj)
    · exact h.live j hj hlj
  · intro j k hj hk hlj hlk hjk
    have lv : ∀ j, ((M.set i c).at_ j).live e j → (M.at_ j).live e j := by
      intro j hj
      rw [Mem.set_at] at hj
      split at hj
      · rename_i hji; subst hji; exact hl hj
      · exact hj
    exact h.dist j k hj hk (lv j hlj) (lv k hlk) hjk
  · have mk : ∀ j, ((M.set i c).at_ j).mark = true → (M.at_ j).mark = true := by
      intro j hj
      rw [Mem.set_at] at hj
      split at hj
      · rename_i hji; subst hji; exact hm hj
      · exact hj
    have lv : ∀ j, ((M.set i c).at_ j).live e j → (M.at_ j).live e j := by
      intro j hj
      rw [Mem.set_at] at hj
      split at hj
      · rename_i hji; subst hji; exact hl hj
      · exact hj
    exact ⟨fun j hj hm => h.bag.nodup j hj (mk j hm), fun j hj hm x hx => h.bag.at_ j hj (mk j hm) x hx, fun j hj hm x hx k hk hlk => h.bag.own j hj (mk j hm) x hx k hk (lv k hlk), fun j k hj hk hmj hmk' hjk x hx => h.bag.dist j k hj hk (mk j hmj) (mk k hmk') hjk x hx⟩
/-- A further block that nobody looks at. -/
theorem Hold.extra {cx : Cx} {e : Nv} {w : World} (h : Hold cx e M w) (o : Obj) : Hold cx e M (w.alloc o) := by
  have hold : ∀ {k : Nat} {x : Obj}, w.heap[k]? = some x → (w.alloc o).heap[k]? = some x := fun {k x} hk => by
    rw [alloc_old4 w o k (Array.getElem?_eq_some_iff.1 hk).1]; exact hk
  refine ⟨h.bm, h.n, Nat.le_trans h.size (by simp), h.os, h.tape, h.output, fun b hb hF => ?_, fun b x hx => hold (h.ro b x hx), fun b x hx => hold (h.bro b x hx), h.m0, h.mnew, fun i hi => ?_, fun i hi hl => ?_, h.dist, h.np, h.pin, ⟨h.bag.nodup, fun i hi hm b hb => ?_, h.bag.own, h.bag.dist⟩⟩
  · rw [alloc_old4 w o b (Nat.lt_of_lt_of_le hb h.size)]; exact h.frame b hb hF
  · exact Chunk.ok_congr (h.ch i hi) fun hl => alloc_old4 w o _ (h.live i hi hl).1
  · obtain ⟨h1, h2⟩ := h.live i hi hl
    exact ⟨Nat.lt_of_lt_of_le h1 (by simp), h2⟩
  · obtain ⟨h1, h2⟩ := h.bag.at_ i hi hm b hb
    exact ⟨hold h1, h2⟩
/-- A row is overwritten, all of it. -/
theorem d_copyAll {α β : Type} {R0 : Rd β} {R : Rd α} {l0 : List β} {xs : List α} {t tx el ct : TypeId} {n i : Nat} {s x : Operand} (h : SlIs P t el n) (hn : R.sz = n) (hn0 : R0.sz = n) (hs : E.ev s = .whole i) (hc : M.at_ i = .row ct R0 l0) (hx : SrcOf P E M x tx R xs)
    (hlim : decide (l0.length = xs.length) = true) :
    Does P (.call { callee := .builtin .copy, args := #[s, x], argTypes := #[t, tx] }) ty E M [i] (.lit (.int .i64 (xs.length : Int))) (M.set i (.row ct R xs)) :=
  fun cx nt a w e hh he => by
    subst hn
    have hl0 := of_decide_eq_true hlim
    have hv := he.ev s; rw [hs] at hv; simp only [Val] at hv
    have hk := hh.ch i hv.1
    rw [hc] at hk
    obtain ⟨g1, g2, g3, g4⟩ := hk
    obtain ⟨news, hsrc, hnews⟩ := hx cx nt a w e hh he
    have hnl : news.length = xs.length * R.sz := hsrc.newsLen
    have hv3 := hv.2.2
    have hrun0 : ∀ (r : Value) (w' : World), (Builtin.copy_ #[t, tx] ty #[a.eval s, a.eval x]).run P w = .ok r w' → (exec1 a.eval (.call { callee := .builtin .copy, args := #[s, x], argTypes := #[t, tx] }) ty).run P w = .ok (.value r) w' := by
      intro r w' hr
      simp [exec1, execOp, resolve, invoke, builtin, hr]
    cases hvir : e.vir i with
    | true =>
      rw [hvir] at hv3 g4
      simp only [if_true] at hv3 g4
      subst g4
      have hxs : xs = [] := by simpa using hl0.symm
      subst hxs
      refine ⟨.int .i64 0, w, e, hrun0 _ _ ?_, ?_, ⟨Nv.le.refl e, fun _ => Ro.le.refl _⟩, by simp [Val], fun _ _ _ => rfl, Nat.le_refl _⟩
      · have hcl := hsrc.cells
        simp at hcl
        rw [hv3.1]
        simp [Builtin.copy_, run_underlying h.t, hsrc.len, h.e.run, hcl, goInt]
      · refine hh.reset ⟨g1, g2, g3, by rw [hvir]; rfl⟩ (fun hl => ?_) (fun h => by cases h)
        rw [hc]; exact hl
    | false =>
      rw [hvir] at hv3 g4
      simp only [Bool.false_eq_true, if_false] at hv3 g4
      rw [g1] at hv3
      obtain ⟨c, z, hb, hz, hcs, hrow⟩ := g4
      have hfit : 0 + 0 + news.length ≤ c.toList.length := by
        have h1 : c.toList.length = c.size := Array.length_toList
        rw [h1, hcs, hnl, hn0, ← hl0]
        simpa using Nat.mul_le_mul_right R.sz g2
      obtain ⟨w', hst, k1, k2, k3, k4, k5, k6⟩ := run_storeCells_row (P := P) news 0 0 c.toList w (by simpa using hb) (by simpa [thaw] using hz) hfit hsrc.one
      have hlive : (M.at_ i).live e i := by rw [hc]; exact hvir
      refine ⟨.int .i64 (xs.length : Int), w', e, hrun0 _ _ ?_, ?_, ⟨Nv.le.refl e, fun _ => Ro.le.refl _⟩, by simp [Val], fun b _ hne => k6 b (fun hbb => hne i (by simp) hv.1 hlive hbb.symm), by rw [k2]; exact Nat.le_refl _⟩
      · have hcl := hsrc.cells
        rw [hv3]
        simp [Builtin.copy_, run_underlying h.t, hsrc.len, h.e.run, hl0, hcl, goInt, hst]
      · refine hh.change hv.1 hlive k3 k4 k5 k2 k6 ⟨g1.trans hl0, by rw [← hl0]; exact g2, g3, ?_⟩
        rw [hvir]
        simp only [Bool.false_eq_true, if_false]
        refine ⟨_, _, k1, by simpa [thaw, setAt_length] using hz, by simp [setAt_length, hcs, hn0], ?_⟩
        rw [Nat.add_zero, setAt_list news c.toList 0 (by simpa using hfit)]
        refine rows_cut (cs := news) hnews ?_
        simp [hnl]
        exact List.take_of_length_le (by omega)
/-- *T as an unsafe.Pointer .. -/
theorem q_toUnsafe {src dst t ct : TypeId} {x : Operand} {i : Nat} {l : List AVal} (hs : P.underlying src = some (.pointer t)) (hd : P.underlying dst = some .unsafePointer) (ht : ∃ j, P.info? t = some j ∧ (j.size == 0) = false) (hx : E.ev x = .ptr i 0) (hc : M.at_ i = .cells ct l) (hl : Nat.blt 0 l.length = true) :
    Quiet P (.convert src dst x) ty E M [i] (.ptr i 0) :=
  fun cx nt a w e hh he => by
    have hp := he.ev x; rw [hx] at hp
    have hp0 := hp
    simp only [Val] at hp
    have hk := hh.ch i hp.1
    rw [hc] at hk
    obtain ⟨hvir, vs, hb, hvs, ho⟩ := hk
    obtain ⟨j, hj1, hj2⟩ := ht
    refine ⟨a.eval x, hp0, fun w1 hw => ?_⟩
    have hb1 := (hw.own i (by simp) hvir).trans hb
    have hsh : w1.shape? (⟨e.own i, 0, none⟩ : Addr).block = some (ct, vs.length) := by simp [World.shape?, hb1]
    have hlen : 0 < vs.length := by rw [hvs.length]; simpa using hl
    have := Lib.run_to_unsafe (P := P) w1 ⟨e.own i, 0, none⟩ hs hd hj1 (by simpa using hj2) hsh hlen
    rw [hp.2.2]
    simp [exec1, execOp, hp.2.2, this]
/-- .. and back. -/
theorem q_fromUnsafe {src dst u ct : TypeId} {x : Operand} {i : Nat} {l : List AVal} (hs : P.underlying src = some .unsafePointer) (hd : P.underlying dst = some (.pointer u)) (hu : ∃ j, P.info? u = some j) (hx : E.ev x = .ptr i 0) (hc : M.at_ i = .cells ct l) (hlies : liesAt P P.depth ct (l.length / P.cellsOf ct) 0 u 1 = true) :
    Quiet P (.convert src dst x) ty E M [i] (.ptr i 0) :=
  fun cx nt a w e hh he => by
    have hp := he.ev x; rw [hx] at hp
    have hp0 := hp
    simp only [Val] at hp
    have hk := hh.ch i hp.1
    rw [hc] at hk
    obtain ⟨hvir, vs, hb, hvs, ho⟩ := hk
    obtain ⟨j, hj1⟩ := hu
    refine ⟨a.eval x, hp0, fun w1 hw => ?_⟩
    have hb1 := (hw.own i (by simp) hvir).trans hb
    have hsh : w1.shape? (⟨e.own i, 0, none⟩ : Addr).block = some (ct, vs.length) := by simp [World.shape?, hb1]
    have := Lib.run_from_unsafe (P := P) w1 ⟨e.own i, 0, none⟩ hs hd hj1 hsh (by rw [hvs.length]; exact hlies)
    rw [hp.2.2]
    simp [exec1, execOp, hp.2.2, this]
/-- A pointer of our own and itself. -/
theorem q_neqpSelf {t te yt : TypeId} {x y : Operand} {i o : Nat} (ht : P.underlying t = some (.pointer te)) (hte : ∃ j, P.info? te = some j) (hx : E.ev x = .ptr i o) (hy : E.ev y = .ptr i o) : Quiet P (.binOp .neq t x y yt) ty E M [] (.lit (.bool false)) :=
  fun cx nt a w e hh he => by
    have hp := he.ev x; rw [hx] at hp; simp only [Val] at hp
    have hq := he.ev y; rw [hy] at hq; simp only [Val] at hq
    obtain ⟨j, hj⟩ := hte
    refine ⟨.bool false, by simp [Val], fun w1 hw => ?_⟩
    have := Lib.run_neq_ptr_same (P := P) w1 (⟨e.own i, o, none⟩ : Addr) ht hj
    simp only [exec1, execOp, hp.2.2, hq.2.2, g_ptr, Sem.run_bind, Sem.run_pure, Result.andThen, this]
/-- Some pointer. -/
def Rd.anyPtr : Rd Unit where
  sz := 1
  ok _ _ cs := ∃ p, cs = [.pointer p]
  mono _ h := h
  len := by rintro m d cs ⟨v, rfl⟩; rfl
  one := by rintro m d cs ⟨v, rfl⟩ u hu; simp at hu; subst hu; rfl
/-- The address of a row's first byte .. -/
theorem q_sliceData {α : Type} {R : Rd α} {t ct : TypeId} {x : Operand} {i : Nat} {l : List α} (hx : E.ev x = .whole i) (hc : M.at_ i = .row ct R l) (h : decide (l.length = 0) = false) :
    Quiet P (.call { callee := .builtin .unsafeSliceData, args := #[x], argTypes := #[t] }) ty E M [] (.ptr i 0) :=
  fun cx nt a w e hh he => by
    have hl : l.length ≠ 0 := of_decide_eq_false h
    have hv := he.ev x; rw [hx] at hv; simp only [Val] at hv
    have hk := hh.ch i hv.1
    rw [hc] at hk
    obtain ⟨g1, g2, g3, g4⟩ := hk
    have hv3 := hv.2.2
    have hvir : e.vir i = false := by
      cases hvir : e.vir i with
      | false => rfl
      | true => rw [hvir] at g4; simp only [if_true] at g4; subst g4; exact absurd rfl hl
    rw [hvir] at hv3
    simp only [Bool.false_eq_true, if_false] at hv3
    refine ⟨.pointer (some ⟨e.own i, 0, none⟩), by simp only [Val]; exact ⟨hv.1, hvir, trivial⟩, fun w1 hw => ?_⟩
    have := Lib.run_unsafeSliceData_row (P := P) w1 #[t] ty ⟨e.own i, 0, none⟩ (e.lens i) (e.caps i) (by omega)
    simp [exec1, execOp, resolve, invoke, builtin, hv3, this]
/-- .. some address, where there is none .. -/
theorem d_sliceData0 {α : Type} {R : Rd α} {t ct te : TypeId} {x : Operand} {i : Nat} {l : List α} (ht : P.underlying ty = some (.pointer te)) (hx : E.ev x = .whole i) (hc : M.at_ i = .row ct R l) (h : decide (l.length = 0) = true) :
    Does P (.call { callee := .builtin .unsafeSliceData, args := #[x], argTypes := #[t] }) ty E M [] (.ro Rd.anyPtr false ()) M :=
  fun cx nt a w e hh he => by
    have hl : l.length = 0 := of_decide_eq_true h
    have hv := he.ev x; rw [hx] at hv; simp only [Val] at hv
    have hk := hh.ch i hv.1
    rw [hc] at hk
    obtain ⟨g1, g2, g3, g4⟩ := hk
    have hv3 := hv.2.2
    have hrun0 : ∀ (r : Value) (w' : World), (Builtin.unsafeSliceData_ #[t] ty #[a.eval x]).run P w = .ok r w' → (exec1 a.eval (.call { callee := .builtin .unsafeSliceData, args := #[x], argTypes := #[t] }) ty).run P w = .ok (.value r) w' := by
      intro r w' hr
      simp [exec1, execOp, resolve, invoke, builtin, hr]
    cases hvir : e.vir i with
    | true =>
      rw [hvir] at hv3
      simp only [if_true] at hv3
      refine ⟨.pointer none, w, e, hrun0 _ _ ?_, hh, ⟨Nv.le.refl e, fun _ => Ro.le.refl _⟩, by simp only [Val, Rd.anyPtr]; exact ⟨none, rfl⟩, fun _ _ _ => rfl, Nat.le_refl _⟩
      rw [hv3.1]; exact Lib.run_unsafeSliceData_nil w _ _ _ _
    | false =>
      rw [hvir] at hv3 g4
      simp only [Bool.false_eq_true, if_false] at hv3 g4
      obtain ⟨c, z, hb, hz, hcs, hrow⟩ := g4
      by_cases hcap : e.caps i = 0
      · refine ⟨.pointer (some ⟨w.heap.size, 0, none⟩), w.alloc (.view ⟨e.own i, 0, none⟩ te), e, hrun0 _ _ ?_, hh.extra _, ⟨Nv.le.refl e, fun _ => Ro.le.refl _⟩, by simp only [Val, Rd.anyPtr]; exact ⟨_, rfl⟩, fun b hb' _ => alloc_old4 w _ b hb', by simp⟩
        rw [hv3, hcap]
        exact Lib.run_unsafeSliceData_zero w _ _ te ht _ _ (ct, c.size) (by simp [World.shape?, hb])
      · refine ⟨.pointer (some ⟨e.own i, 0, none⟩), w, e, hrun0 _ _ ?_, hh, ⟨Nv.le.refl e, fun _ => Ro.le.refl _⟩, by simp only [Val, Rd.anyPtr]; exact ⟨_, rfl⟩, fun _ _ _ => rfl, Nat.le_refl _⟩
        rw [hv3]; exact Lib.run_unsafeSliceData_row w _ _ _ _ _ hcap
/-- .. and the string of so many bytes there. -/
theorem q_unsafeStr0 {t t' : TypeId} {x y : Operand} {n : Int} (hx : E.ev x = .ro Rd.anyPtr false ()) (hy : E.ev y = .lit (.int .i64 n)) (hn : n = 0) :
    Quiet P (.call { callee := .builtin .unsafeString, args := #[x, y], argTypes := #[t, t'] }) ty E M [] (.lit (.string ByteArray.empty)) :=
  fun cx nt a w e hh he => ⟨.string ByteArray.empty, by simp [Val], fun w1 hw => by
    have hv := he.ev x; rw [hx] at hv; simp only [Val, Rd.anyPtr] at hv
    obtain ⟨p, hp⟩ := hv
    simp at hp
    subst hn
    have := Lib.run_unsafeString_none (P := P) w1 t t' ty p
    simp [exec1, execOp, resolve, invoke, builtin, hp, ev_lit he hy, this]⟩
theorem run_loadBytesI (w : World) : ∀ (l : List Int) (a : Addr) (acc : ByteArray), (∀ j x, l[j]? = some x → w.cell? (a.add j) = some (.int .u8 x)) →
    (loadBytes a acc l.length).run P w = .ok (l.foldl (fun r n => r.push (UInt8.ofNat n.toNat)) acc) w
  | [], a, acc, _ => by simp [loadBytes]
  | x :: l, a, acc, h => by
    have h0 : w.cell? a = some (.int .u8 x) := by
      have := h 0 x rfl
      simpa [Addr.add] using this
    have ih := run_loadBytesI w l (a.add 1) (acc.push x.toNat.toUInt8) (fun j y hy => by
      have := h (j + 1) y (by simpa using hy)
      have e : (a.add 1).add j = a.add (j + 1) := by
        unfold Addr.add
        by_cases hj : j = 0
        · subst hj; simp
        · simp [hj]; omega
      rw [e]; exact this)
    simp only [List.length_cons, loadBytes, Sem.run_bind, run_load, h0, Result.andThen, List.foldl_cons]
    exact ih
theorem d_unsafeStr {t t' te : TypeId} {x y : Operand} {n : Int} {i : Nat} {l : List Int} (ht : P.underlying t = some (.pointer te)) (hcs : P.cellsOf te = 1) (hx : E.ev x = .ptr i 0) (hy : E.ev y = .lit (.int .i64 n)) (hc : M.at_ i = .row te (Rd.int .u8) l) (h0 : decide (l.length = 0) = false) (hn : n = (l.length : Int)) :
    Does P (.call { callee := .builtin .unsafeString, args := #[x, y], argTypes := #[t, t'] }) ty E M [i] (.lit (.string (strOf l))) (M.set i .gone) :=
  fun cx nt a w e hh he => by
    subst hn
    have hl : l.length ≠ 0 := of_decide_eq_false h0
    have hp := he.ev x; rw [hx] at hp; simp only [Val] at hp
    have hk := hh.ch i hp.1
    rw [hc] at hk
    obtain ⟨g1, g2, g3, g4⟩ := hk
    rw [hp.2.1] at g4
    simp only [Bool.false_eq_true, if_false] at g4
    obtain ⟨c, z, hb, hz, hsz, hrow⟩ := g4
    have hlive : (M.at_ i).live e i := by rw [hc]; exact hp.2.1
    have hsh : w.shape? (e.own i) = some (te, c.size) := by simp [World.shape?, hb]
    have hcsz : l.length ≤ c.size := by rw [hsz]; simpa [Rd.int, Rd.sc] using g2
    have hcell : ∀ j x, l[j]? = some x → w.cell? ((⟨e.own i, 0, none⟩ : Addr).add j) = some (.int .u8 x) := by
      intro j x hj
      have hg := rows_get hrow hj
      rw [add_at, Nat.zero_add, cell_of hb]
      simp only [Rd.int, Rd.sc, Nat.mul_one] at hg
      have := congrArg (·[0]?) hg
      simpa [List.getElem?_take, List.getElem?_drop] using this
    have hlb := run_loadBytesI (P := P) w l ⟨e.own i, 0, none⟩ .empty hcell
    have hlies := Lib.liesAt_bytes (P := P) hcs (c.size / P.cellsOf te) l.length (by rw [hcs]; simpa using hcsz)
    have hmax : IntKind.i64.max = 9223372036854775807 := rfl
    have h63' : ¬ (9223372036854775807 : Int) < (l.length : Int) := by simp only [maxLen] at g3; omega
    have hneg : ¬ (l.length : Int) < 0 := by omega
    have hdef : Builtin.unsafeString_ #[t, t'] ty #[.pointer (some ⟨e.own i, 0, none⟩), .int .i64 l.length] =
      (do
        let n ← asInt (.int .i64 l.length)
        if n < 0 then runtimePanic (.error "unsafe.String: len out of range")
        if n > IntKind.i64.max then unsupported (.unsafePointer "String: a length above the largest int")
        if n = 0 then pure (.string .empty)
        else if ← variablesAt ⟨e.own i, 0, none⟩ (← elemOf t) n.toNat then do
          let s ← loadBytes ⟨e.own i, 0, none⟩ .empty n.toNat
          freeze ⟨e.own i, 0, none⟩ n.toNat
          pure (.string s)
        else unsupported (.unsafePointer "String: not so many bytes at ptr")) := rfl
    have hrun : (Builtin.unsafeString_ #[t, t'] ty #[.pointer (some ⟨e.own i, 0, none⟩), .int .i64 l.length]).run P w = .ok (.string (strOf l)) (w.freeze ⟨e.own i, 0, none⟩ l.length) := by
      rw [hdef]
      simp [asInt, asIntOf, hmax, h63', hneg, hl, variablesAt, hsh, elemOf, run_underlying ht, hlies, hlb, strOf]
    have hfsame : ∀ k, k ≠ e.own i → (w.freeze ⟨e.own i, 0, none⟩ l.length).heap[k]? = w.heap[k]? := by
      intro k hk
      unfold World.freeze
      rw [if_neg hl]
      simp only [Array.getElem?_modify]
      rw [if_neg (Ne.symm hk)]
    have hfsz : (w.freeze ⟨e.own i, 0, none⟩ l.length).heap.size = w.heap.size := by
      unfold World.freeze
      rw [if_neg hl]
      simp
    refine ⟨.string (strOf l), w.freeze ⟨e.own i, 0, none⟩ l.length, e, ?_, ?_, ⟨Nv.le.refl e, fun _ => Ro.le.refl _⟩, by simp [Val], fun b _ hne => hfsame b (fun hbb => hne i (by simp) hp.1 hlive hbb.symm), by rw [hfsz]; exact Nat.le_refl _⟩
    · simp [exec1, execOp, resolve, invoke, builtin, hp.2.2, ev_lit he hy, hrun]
    · have := hh.change hp.1 hlive (c := .gone) (w' := w.freeze ⟨e.own i, 0, none⟩ l.length) (by unfold World.freeze; split <;> rfl) (by unfold World.freeze; split <;> rfl) (by unfold World.freeze; split <;> rfl) hfsz hfsame trivial
      exact this
end
end Go.Q
namespace Go.Q
open Go
set_option linter.unusedVariables false
set_option linter.unusedSimpArgs false
section
variable {P : Program} {cx : Cx} {fr : Fr} {nt : Nat} {E E' : Env} {M M' : Mem} {Q : Ex → Env → Mem → Prop} {ty : TypeId}
/-- Both ways of a truth value. -/
theorem WPL.splitB {ops : Array Oper} {os : List Oper} (b : Bool) (h1 : b = true → WPL P cx fr ops os E M Q) (h2 : b = false → WPL P cx fr ops os E M Q) : WPL P cx fr ops os E M Q := by
  cases b with
  | true => exact h1 rfl
  | false => exact h2 rfl
theorem WPD.splitB {ops : Array Oper} {st X : List Nat} {fuel : Nat} {listed : Array Bool} (b : Bool) (h1 : b = true → WPD P cx fr ops st X fuel listed E M Q) (h2 : b = false → WPD P cx fr ops st X fuel listed E M Q) : WPD P cx fr ops st X fuel listed E M Q := by
  cases b with
  | true => exact h1 rfl
  | false => exact h2 rfl
theorem len0 {α : Type} {l : List α} (h : decide (l.length = 0) = true) : ((l.length : Nat) : Int) = 0 := by
  have := of_decide_eq_true h
  omega
end
end Go.Q
namespace Go.Q
open Go
set_option linter.unusedVariables false
set_option linter.unusedSimpArgs false
section
variable {P : Program} {cx : Cx} {fr : Fr} {E : Env} {M M' : Mem} {Q : Ex → Env → Mem → Prop} {ty : TypeId}
theorem nm_str {a b : ByteArray} (h : some a = some b) : AVal.lit (.string a) = AVal.lit (.string b) := by cases h; rfl
end
end Go.Q
namespace Go.Q
open Go
set_option linter.unusedVariables false
set_option linter.unusedSimpArgs false
section
variable {P : Program} {E : Env} {M : Mem} {ty : TypeId}
/-- A slice literal of values that are kept one by one. -/
theorem d_buildCells {t el : TypeId} {n len N : Nat} {zs : List Value} {ps : Array (Nat × Operand)} {l : List AVal} (h : LitIs P t el n zs) (hn0 : Nat.blt 0 n = true) (hsmall : Nat.ble (len * n) 16777216 = true) (hzl : Nat.beq zs.length n = true)
    (hf : fillA (placeAt n) E (zerosA zs len) ps.toList = some l) (hN : M.n = N) :
    Does P (.buildSlice t len ps) ty E M [] (.sl N n 0 len) (M.push (.cells el l)) :=
  fun cx nt a w e hh he => by
    obtain ⟨i, z, h1, h2, h3, h4⟩ := h.h
    have hn0' : 0 < n := by simpa using hn0
    have hzl' : zs.length = n := by simpa using hzl
    have hsm' : len * n ≤ 16777216 := by simpa using hsmall
    have hmade := made_list zs n hzl' hn0' len
    have hone : ∀ v ∈ (List.replicate len zs).flatten, v.oneCell' = true := by
      intro v hv
      obtain ⟨l1, hl1, hv1⟩ := List.mem_flatten.1 hv
      rw [List.eq_of_mem_replicate hl1] at hv1
      exact h.one v hv1
    obtain ⟨cs, g1, g2, g3⟩ := fill_ok (P := P) he ps.toList _ l _ (zerosA_vals e zs len) hone hf
    have hle := e.bump_le w.heap.size len len false
    have hm := fun b => e.bump_mem w.heap.size len len false b
    have hnone : ∀ {m : Ro}, (∀ b o, m b = some o → w.heap[b]? = some o) → m w.heap.size = none := by
      intro m hm
      cases hx : m w.heap.size with
      | none => rfl
      | some o => have := (Array.getElem?_eq_some_iff.1 (hm _ _ hx)).1; omega
    have hnew : Hold cx (e.bump w.heap.size len len) (M.push (.cells el l)) (w.alloc (.cells cs.toArray el)) := by
      refine hh.bind rfl rfl rfl (by simp) (by simp) (fun k hk hlt => q_alloc_old w _ _ hlt) (fun i hi hl => Nat.ne_of_lt (hh.live i hi hl).1) hh.bag_new (hnone hh.ro) (hnone hh.bro) (.inr hh.size) ?_
      refine ⟨by simp [Nv.bump], cs, ?_, g2.mono hle hm, g3⟩
      simp only [Nv.bump, if_true]
      exact heap_alloc_new w _
    have g1' : Instr.fill (fun j => some (j * i.size, i.size)) ((Array.range (len * i.size)).map (z.cells[· % z.cells.size]!)) (ps.map fun (j, x) => (j, a.eval x)).toList = some cs.toArray := by
      rw [h3, h4]
      rw [← hmade] at g1
      have e1 : (ps.map fun (j, x) => (j, a.eval x)).toList = ps.toList.map fun p => (p.1, a.eval p.2) := by simp
      rw [e1]
      exact g1
    refine ⟨.slice (some ⟨w.heap.size, 0, none⟩) len len, w.alloc (.cells cs.toArray el), e.bump w.heap.size len len, ?_, hnew, ⟨hle, hm⟩, ?_, fun b hb _ => q_alloc_old w _ _ hb, by simp⟩
    · have hsm : ¬ (len * i.size > 2 ^ 24) := by rw [h3]; omega
      by_cases h0 : len * i.size = 0
      · have hl0 : len = 0 := by
          rcases Nat.eq_zero_or_pos len with h | h
          · exact h
          · have := Nat.mul_pos h hn0'; rw [h3] at h0; omega
        subst hl0
        simp only [Nat.zero_mul] at g1'
        have e0 : Array.range 0 = #[] := rfl
        rw [e0, Array.map_empty, Array.toList_map] at g1'
        simp only [exec1, execOp, Instr.buildSlice, Sem.run_bind, run_underlying h.t, Result.andThen, sizeOf, typeInfo, run_program, h1, Sem.run_pure, Nat.zero_mul]
        simp [e0, g1', Go.newRow]
      · have := run_buildSlice (P := P) w t el len (ps.map fun (j, x) => (j, a.eval x)) cs.toArray i z h.t h1 h2 hsm h0 g1'
        simp [exec1, execOp, this]
    · simp only [Val, Nv.bump, ← hN, ← hh.n, if_true, Bool.false_eq_true, if_false]
      exact ⟨Nat.lt_succ_self _, by omega, trivial, 0, by simp, fun _ => by simp⟩
theorem q_len_sl {t el : TypeId} {n i sz off len : Nat} {x : Operand} {k : Int} (h : SlIs P t el n) (hx : E.ev x = .sl i sz off len) (hk : (len : Int) = k) :
    Quiet P (.call { callee := .builtin .len, args := #[x], argTypes := #[t] }) ty E M [] (.lit (.int .i64 k)) :=
  fun _ _ a w e hh he => by
    have hv := he.ev x; rw [hx] at hv; simp only [Val] at hv
    obtain ⟨_, _, _, o, h1, _⟩ := hv
    refine ⟨.int .i64 (len : Int), by simp [Val, hk], fun w1 hw => ?_⟩
    simp [exec1, execOp, resolve, invoke, builtin, Builtin.len_, h1, run_underlying h.t, goInt]
theorem q_index_sl {t el : TypeId} {n i off len j o : Nat} {x y : Operand} {k : IntKind} (h : SlIs P t el n) (hx : E.ev x = .sl i n off len) (hy : E.ev y = .lit (.int k (j : Int))) (hj : Nat.blt j len = true) (ho : (off + j) * n = o) :
    Quiet P (.indexAddr t x y) ty E M [] (.ptr i o) :=
  fun _ _ a w e hh he => by
    have hv := he.ev x; rw [hx] at hv; simp only [Val] at hv
    obtain ⟨h1, h2, h3, o', h4, h5⟩ := hv
    have hj' : j < len := by simpa using hj
    have h6 := h5 (by omega)
    subst h6
    refine ⟨.pointer (some ⟨e.own i, o, none⟩), by simp [Val, h1, h3], fun w1 hw => ?_⟩
    have := run_indexAt_sl h (e.own i) (off * n) len (e.caps i - off) k (j : Int) (by omega) (by omega) w1
    rw [Int.toNat_natCast, ← Nat.add_mul, ho] at this
    simp [exec1, execOp, h4, ev_lit he hy, this]
end
section
variable {P : Program} {cx : Cx} {fr : Fr} {E : Env} {M : Mem} {Q : Ex → Env → Mem → Prop}
/-- The rest of a loop, from the beginning of a round. -/
def WPI (P : Program) (cx : Cx) (fr : Fr) (c : Code) (E : Env) (M : Mem) (Q : Ex → Env → Mem → Prop) : Prop :=
  ∀ a w e, Hold cx e M w → Emb fr.nt e M E a → ∀ (b : Frame) (k : List Item) (cs : List Frame), b.roundOf = (fence fr.r).round → (fence fr.r).fn b.fn → (fence fr.r).room (cs.length + 1 + 0) →
    ∃ x a' w', Sat cx fr Q x a' w' ∧ ArrivesIn (Machine.fenced P (fence fr.r)) P (lone (b.atR a (.code c :: .inLoop c :: k)) cs w) b k cs x a' w'
theorem WP.loopU {c : Code} (h : WPI P cx fr c E M Q) : WP P cx fr (.loop c) E M Q := by
  intro a w e hh he b k cs hro hb hr
  obtain ⟨x, a', w', hq, harr⟩ := h a w e hh he b k cs hro hb hr
  exact ⟨x, a', w', hq, .of_steps (.one (fenced_calm hb hr rfl) stepR_loop) harr⟩
theorem WPI.round {c : Code} (h : WP P cx fr c E M (Then (fun E M => WPI P cx fr c E M Q) Q)) : WPI P cx fr c E M Q := by
  intro a w e hh he b k cs hro hb hr
  obtain ⟨x, a1, w1, hq, harr⟩ := h a w e hh he b (.inLoop c :: k) cs hro hb hr
  obtain ⟨y, E', M', e', q, h1, h2, h3⟩ := hq
  cases y with
  | normal =>
    cases h3
    obtain ⟨x2, a2, w2, hq2, harr2⟩ := q a1 w1 e' h1 h2 b k cs hro hb hr
    exact ⟨x2, a2, w2, hq2, .of_steps (StepsIn.trans harr (.one (fenced_calm hb hr rfl) stepR_inLoop)) harr2⟩
  | exit id => cases h3; exact ⟨_, a1, w1, ⟨_, E', M', e', q, h1, h2, rfl⟩, .pass (x := .inLoop c) rfl (fun _ _ => .inl (by simp)) harr⟩
  | goto l => cases h3; exact ⟨_, a1, w1, ⟨_, E', M', e', q, h1, h2, rfl⟩, .pass (x := .inLoop c) rfl (fun _ _ => .inl (by simp)) harr⟩
  | ret => cases h3; exact ⟨_, a1, w1, ⟨_, E', M', e', q, h1, h2, rfl⟩, .pass (x := .inLoop c) rfl (fun _ _ => .inl (by simp)) harr⟩
  | panic v =>
    obtain ⟨u, rfl, hv⟩ := h3
    exact ⟨_, a1, w1, ⟨_, E', M', e', q, h1, h2, u, rfl, hv⟩, .pass (x := .inLoop c) rfl (fun _ _ => .inl (by simp)) harr⟩
end
def add64S : Array Value → Sem Value := fun args => do
  let (x, y, c) ← Extern.MathBitsCarry.three "Add64" args
  pure (Extern.MathBitsCarry.pair ((x + y + c) % Extern.MathBitsCarry.m64) ((x + y + c) / Extern.MathBitsCarry.m64))
def sub64S : Array Value → Sem Value := fun args => do
  let (x, y, b) ← Extern.MathBitsCarry.three "Sub64" args
  pure (Extern.MathBitsCarry.pair ((x + Extern.MathBitsCarry.m64 - y - b) % Extern.MathBitsCarry.m64) (if x < y + b then 1 else 0))
theorem three_eq (name : String) (x y c : Value) : Extern.MathBitsCarry.three name #[x, y, c] = (do
    let c := (← asInt c).toNat
    if c > 1 then unsupported (.noEntry ("extern/math/bits." ++ name ++ ": a carry that is neither 0 nor 1"))
    pure ((← asInt x).toNat, (← asInt y).toNat, c)) := rfl
/-- A sum and its carry; a difference and what is borrowed. -/
def add64 (a b c : Int) : Int × Int := (Int.ofNat ((a.toNat + b.toNat + c.toNat) % Extern.MathBitsCarry.m64), Int.ofNat ((a.toNat + b.toNat + c.toNat) / Extern.MathBitsCarry.m64))
def sub64 (a b c : Int) : Int × Int := (Int.ofNat ((a.toNat + Extern.MathBitsCarry.m64 - b.toNat - c.toNat) % Extern.MathBitsCarry.m64), Int.ofNat (if a.toNat < b.toNat + c.toNat then 1 else 0))
theorem three_run {P : Program} {w : World} {name : String} {k k' k'' : IntKind} {a b c : Int} (h : decide (Int.toNat c ≤ 1) = true) : (Extern.MathBitsCarry.three name #[.int k a, .int k' b, .int k'' c]).run P w = .ok (a.toNat, b.toNat, c.toNat) w := by
  have h' : ¬ (c.toNat > 1) := by have := of_decide_eq_true h; omega
  rw [three_eq]
  simp only [asInt, asIntOf, pure_bind, if_neg h']
  rfl
section
variable {P : Program} {E : Env} {M : Mem} {ty : TypeId} {fo : Operand} {f : FuncId} {tys : Array TypeId} {x y z : Operand} {a b c : Int}
theorem q_add64 (hfn : ExtIs P f add64S) (hcal : E.ev fo = .fn f []) (hx : E.ev x = .lit (.int .u64 a)) (hy : E.ev y = .lit (.int .u64 b)) (hz : E.ev z = .lit (.int .u64 c)) (h : decide (Int.toNat c ≤ 1) = true) :
    Quiet P (.call { callee := .value fo, args := #[x, y, z], argTypes := tys }) ty E M [] (.tup [.lit (.int .u64 (add64 a b c).1), .lit (.int .u64 (add64 a b c).2)]) :=
  fun cx nt ac w e hh he => ⟨.tuple #[.int .u64 (add64 a b c).1, .int .u64 (add64 a b c).2], by simp [Val, Vals], fun w1 hw => run_ext hfn (fn_eval he hcal) (by
    simp only [List.map_toArray, List.map_cons, List.map_nil, ev_lit he hx, ev_lit he hy, ev_lit he hz]
    unfold add64S
    rw [Sem.run_bind, three_run h]
    rfl)⟩
theorem q_sub64 (hfn : ExtIs P f sub64S) (hcal : E.ev fo = .fn f []) (hx : E.ev x = .lit (.int .u64 a)) (hy : E.ev y = .lit (.int .u64 b)) (hz : E.ev z = .lit (.int .u64 c)) (h : decide (Int.toNat c ≤ 1) = true) :
    Quiet P (.call { callee := .value fo, args := #[x, y, z], argTypes := tys }) ty E M [] (.tup [.lit (.int .u64 (sub64 a b c).1), .lit (.int .u64 (sub64 a b c).2)]) :=
  fun cx nt ac w e hh he => ⟨.tuple #[.int .u64 (sub64 a b c).1, .int .u64 (sub64 a b c).2], by simp [Val, Vals], fun w1 hw => run_ext hfn (fn_eval he hcal) (by
    simp only [List.map_toArray, List.map_cons, List.map_nil, ev_lit he hx, ev_lit he hy, ev_lit he hz]
    unfold sub64S
    rw [Sem.run_bind, three_run h]
    rfl)⟩
end
def EqV (P : Program) (n : Nat) (t : TypeId) (x y : Value) (b : Bool) : Prop := ∀ d w, n ≤ d → (Op.equalIn d t x y).run P w = .ok b w
def EqF (P : Program) (n : Nat) (xs ys : List Value) (fs : List Field) (b : Bool) : Prop := ∀ d w, n ≤ d → (Op.eqFields d xs.toArray ys.toArray fs).run P w = .ok b w
section
variable {P : Program} {n : Nat} {t : TypeId} {xs ys : List Value} {f : Field} {fs : List Field}
theorem EqV.int {k k' : IntKind} {a b : Int} (h : P.underlying t = some (.int k')) : EqV P (n + 1) t (.int k a) (.int k b) (decide (a = b)) := fun d w hd => by
  obtain ⟨m, rfl⟩ : ∃ m, d = m + 1 := ⟨d - 1, by omega⟩
  rw [run_equalIn_int w m t k k' a b h]; rfl
theorem EqV.bool {a b : Bool} (h : P.underlying t = some .bool) : EqV P (n + 1) t (.bool a) (.bool b) (a == b) := fun d w hd => by
  obtain ⟨m, rfl⟩ : ∃ m, d = m + 1 := ⟨d - 1, by omega⟩
  exact run_equalIn_bool' w m t a b h
theorem EqV.str {a b : ByteArray} (h : P.underlying t = some .string) : EqV P (n + 1) t (.string a) (.string b) (a.toList == b.toList) := fun d w hd => by
  obtain ⟨m, rfl⟩ : ∃ m, d = m + 1 := ⟨d - 1, by omega⟩
  exact run_equalIn_string w m t a b h
theorem EqF.nil : EqF P n xs ys [] true := fun d w _ => rfl
theorem part_sc {w : World} {u : Value} {o : Nat} (ht : Sc P t) (h : xs[o]? = some u) : (part t xs.toArray o).run P w = .ok u w := by
  simp [part, ht.isAgg w, h]
theorem EqF.sc {u v : Value} {b c : Bool} (hn : (f.name == "_") = false) (ht : Sc P f.type) (hx : xs[f.offset]? = some u) (hy : ys[f.offset]? = some v) (h : EqV P n f.type u v b) (k : EqF P n xs ys fs c) : EqF P n xs ys (f :: fs) (b && c) := fun d w hd => by
  have hn' : f.name ≠ "_" := by simpa using hn
  rw [Op.eqFields, if_pos hn']
  simp only [Sem.run_bind, part_sc ht hx, part_sc ht hy, Result.andThen_ok, h d w hd]
  cases b with
  | true => simpa using k d w hd
  | false => simp
theorem EqV.struct {b : Bool} {fa : Array Field} (ht : P.underlying t = some (.struct fa)) (hp : P.stoodInHeld t = false) (h : EqF P n xs ys fa.toList b) : EqV P (n + 1) t (.agg xs.toArray) (.agg ys.toArray) b := fun d w hd => by
  obtain ⟨m, rfl⟩ : ∃ m, d = m + 1 := ⟨d - 1, by omega⟩
  have hf : P.fieldsOf t = fa := by simp [Program.fieldsOf, ht]
  rw [run_equalIn_agg w m t _ _ (by rw [hf]; exact ht) hp, hf]
  exact h m w (by omega)
end
section
variable {P : Program} {E : Env} {M : Mem} {ty t yt : TypeId} {x y : Operand} {xs ys : List Value} {b : Bool} {n : Nat}
theorem agg_lits {nt : Nat} {e : Nv} {a : Act} (he : Emb nt e M E a) (hx : E.ev x = .agg (xs.map AVal.lit)) : a.eval x = .agg xs.toArray := by
  have hv := he.ev x
  rw [hx] at hv
  simp only [Val] at hv
  obtain ⟨vs, h1, h2, _⟩ := hv
  have : ∀ {l us : List Value}, Vals e (l.map AVal.lit) us → us = l := by
    intro l
    induction l with
    | nil => intro us h; simpa [Vals] using h
    | cons v l ih =>
      intro us h
      simp only [List.map_cons, Vals, Val] at h
      obtain ⟨u, ws, rfl, rfl, h⟩ := h
      rw [ih h]
  rw [h1, this h2]
theorem q_eqlAg (hn : Nat.ble n 10000 = true) (hg : P.eqGuardType P.depth t = false) (hx : E.ev x = .agg (xs.map AVal.lit)) (hy : E.ev y = .agg (ys.map AVal.lit)) (h : EqV P n t (.agg xs.toArray) (.agg ys.toArray) b) :
    Quiet P (.binOp .eql t x y yt) ty E M [] (.lit (.bool b)) :=
  fun _ _ a w e hh he => ⟨.bool b, by simp [Val], fun w1 hw => by
    have h1 := run_eqGuard_agg (P := P) w1 .eql t x y xs.toArray ys.toArray hg
    have h2 := run_eql_struct (P := P) w1 t xs.toArray ys.toArray
    rw [h 10000 w1 (Nat.le_of_ble_eq_true hn)] at h2
    simp [exec1, execOp, agg_lits he hx, agg_lits he hy, h1, h2]⟩
theorem q_neqAg (hn : Nat.ble n 10000 = true) (hg : P.eqGuardType P.depth t = false) (hx : E.ev x = .agg (xs.map AVal.lit)) (hy : E.ev y = .agg (ys.map AVal.lit)) (h : EqV P n t (.agg xs.toArray) (.agg ys.toArray) b) :
    Quiet P (.binOp .neq t x y yt) ty E M [] (.lit (.bool (!b))) :=
  fun _ _ a w e hh he => ⟨.bool (!b), by simp [Val], fun w1 hw => by
    have h1 := run_eqGuard_agg (P := P) w1 .neq t x y xs.toArray ys.toArray hg
    have h2 := run_neq_struct (P := P) w1 t xs.toArray ys.toArray
    rw [h 10000 w1 (Nat.le_of_ble_eq_true hn)] at h2
    simp [exec1, execOp, agg_lits he hx, agg_lits he hy, h1, h2]⟩
end
section
variable {P : Program} {E : Env} {M : Mem} {ty : TypeId} {x y z : Operand} {k : IntKind} {a b c m : Int} {tys : Array TypeId}
theorem min2_int : Builtin.min2 (.int k a) (.int k b) = pure (.int k (if b < a then b else a)) := rfl
theorem q_min3 (hx : E.ev x = .lit (.int k a)) (hy : E.ev y = .lit (.int k b)) (hz : E.ev z = .lit (.int k c)) (hm : (if b < a then b else a) = m) :
    Quiet P (.call { callee := .builtin .min, args := #[x, y, z], argTypes := tys }) ty E M [] (.lit (.int k (if c < m then c else m))) :=
  fun _ _ _ _ _ _ he => ⟨.int k (if c < m then c else m), by simp [Val], fun w _ => by
    simp only [exec1, execOp, resolve, invoke, builtin, Builtin.min_, List.map_toArray, List.map_cons, List.map_nil, ev_lit he hx, ev_lit he hy, ev_lit he hz, List.foldlM_cons, List.foldlM_nil, min2_int, hm, pure_bind, bind_pure]
    rfl⟩
end
theorem W.wk {cx : Cx} {fr : Fr} {Q : Ex → Env → Mem → Prop} {x : Ex} {E E' : Env} {M M' : Mem} {np : Nat} (l : List Nat) (hnp : cx.np = np) (hq : Q x E' M') (hM : LeM l np M M') (hE : LeE l M'.n E E') (hx : x.plain = true) : W cx fr Q x E M :=
  W.cv (Cv.weak l hnp hM hE) hx (W.now hq)
theorem BodyR.mkR {az : List (Nat × Nat)} {rs : List ResultVar} {np : Nat} {Q : Out → Mem → Prop} {E : Env} {M M2 : Mem} {vs : List AVal} {v : AVal} (hm : marksOk M E.d) (hvs : resAll az E (dropMarks M E.d) rs = some vs) (l : List Nat) (hq : Q (.ret v) M2)
    (hl : LeM l np (dropMarks M E.d) M2) (h1 : resOut vs = v.ren (sub l)) (h2 : v.under M2.n = true) : BodyR az rs np Q .ret E M := ⟨hm, vs, hvs, l, v, M2, hl, h1, h2, hq⟩
theorem BodyR.mkN {az : List (Nat × Nat)} {rs : List ResultVar} {np : Nat} {Q : Out → Mem → Prop} {E : Env} {M M2 : Mem} {vs : List AVal} {v : AVal} (hm : marksOk M E.d) (hvs : resAll az E (dropMarks M E.d) rs = some vs) (l : List Nat) (hq : Q (.ret v) M2)
    (hl : LeM l np (dropMarks M E.d) M2) (h1 : resOut vs = v.ren (sub l)) (h2 : v.under M2.n = true) : BodyR az rs np Q .normal E M := ⟨hm, vs, hvs, l, v, M2, hl, h1, h2, hq⟩
theorem fold_int {k : IntKind} {a b : Int} (h : a = b) : AVal.lit (.int k a) = .lit (.int k b) := by rw [h]
end Go.Q
namespace Go.Proofs.Ytdbeblgfccjbgaa.W
open Go Go.Q Go.Proofs
set_option linter.unusedVariables false
set_option linter.unusedSimpArgs false
structure S_api_Dec where
  fC : Int
  fE : Int
  deriving Inhabited, DecidableEq
def rdS_api_Dec : Rd S_api_Dec := Rd.via (Rd.pair (Rd.int .i64) (Rd.pair (Rd.int .i64) Rd.unit)) fun x => (x.fC, (x.fE, ()))
theorem S_api_Dec.p0 {d : S_api_Dec} : PartIs rdS_api_Dec d 0 (Rd.int .i64) d.fC := PartIs.via PartIs.here
theorem S_api_Dec.p1 {d : S_api_Dec} : PartIs rdS_api_Dec d 1 (Rd.int .i64) d.fE := PartIs.via (PartIs.there PartIs.here)
theorem S_api_Dec.sp {b : Bool} {d : S_api_Dec} : Splits rdS_api_Dec b d [.lit (.int .i64 d.fC), .lit (.int .i64 d.fE)] := Splits.via (Splits.pair Splits.sc (Splits.pair Splits.sc Splits.unit))
def g_dec_ranged_l0 (k : Nat) (x18 : (List S_api_Dec)) : Nat → Int → Option (Unit ⊕ Unit)
  | 0, _ => none
  | n + 1, x69 => ((some (decide (x69 < ((List.length x18 : Nat) : Int)))).bind fun x85 => (bif x85 then ((ix x18 x69).bind fun x94 => (((bif (decide (x94.fE < (-18))) then some true else some (decide (18 < x94.fE))) : Option Bool).bind fun x96 => (bif x96 then some (Sum.inl ()) else (g_dec_ranged_l0 k x18 n (IntKind.wrap .i64 (x69 + 1)))))) else some (Sum.inr ())))
theorem g_dec_ranged_l0_eqs : True := by have := @g_dec_ranged_l0.eq_2; trivial
def g_dec_ranged (k : Nat) (x18 : (List S_api_Dec)) : Option Bool := (((g_dec_ranged_l0 k x18 k 0) : Option (Unit ⊕ Unit)).bind fun y101 => match y101 with | (Sum.inl _) => some false | (Sum.inr _) => some true)
def g_dec_size (k : Nat) (x111 : Int) : Option Int := (bif (decide (x111 < 0)) then ((some (IntKind.wrap .u64 (0 - (IntKind.wrap .u64 x111)))).bind fun x121 => some x121) else some (IntKind.wrap .u64 x111))
def g_dec_of (k : Nat) (x108 : Int) (x109 : Int) : Option Int := ((g_dec_size k x108).bind fun x130 => some x130)
def g_dec_wide_zero (k : Nat) (x138 : Int) (x139 : Int) : Option Unit := some ()
def g_math_bits_Len64 (k : Nat) (x169 : Int) : Option Int := (((bif (decide (4294967296 ≤ x169)) then some ((shrI .u64 x169 32), 32) else some (x169, 0)) : Option (Int × Int)).bind fun (x190, x191) => (((bif (decide (65536 ≤ x190)) then some ((shrI .u64 x190 16), (IntKind.wrap .i64 (x191 + 16))) else some (x190, x191)) : Option (Int × Int)).bind fun (x195, x196) => (((bif (decide (256 ≤ x195)) then some ((shrI .u64 x195 8), (IntKind.wrap .i64 (x196 + 8))) else some (x195, x196)) : Option (Int × Int)).bind fun (x200, x201) => ((ix (strInts (ByteArray.mk #[0, 1, 2, 2, 3, 3, 3, 3, 4, 4, 4, 4, 4, 4, 4, 4, 5, 5, 5, 5, 5, 5, 5, 5, 5, 5, 5, 5, 5, 5, 5, 5, 6, 6, 6, 6, 6, 6, 6, 6, 6, 6, 6, 6, 6, 6, 6, 6, 6, 6, 6, 6, 6, 6, 6, 6, 6, 6, 6, 6, 6, 6, 6, 6, 7, 7, 7, 7, 7, 7, 7, 7, 7, 7, 7, 7, 7, 7, 7, 7, 7, 7, 7, 7, 7, 7, 7, 7, 7, 7, 7, 7, 7, 7, 7, 7, 7, 7, 7, 7, 7, 7, 7, 7, 7, 7, 7, 7, 7, 7, 7, 7, 7, 7, 7, 7, 7, 7, 7, 7, 7, 7, 7, 7, 7, 7, 7, 7, 8, 8, 8, 8, 8, 8, 8, 8, 8, 8, 8, 8, 8, 8, 8, 8, 8, 8, 8, 8, 8, 8, 8, 8, 8, 8, 8, 8, 8, 8, 8, 8, 8, 8, 8, 8, 8, 8, 8, 8, 8, 8, 8, 8, 8, 8, 8, 8, 8, 8, 8, 8, 8, 8, 8, 8, 8, 8, 8, 8, 8, 8, 8, 8, 8, 8, 8, 8, 8, 8, 8, 8, 8, 8, 8, 8, 8, 8, 8, 8, 8, 8, 8, 8, 8, 8, 8, 8, 8, 8, 8, 8, 8, 8, 8, 8, 8, 8, 8, 8, 8, 8, 8, 8, 8, 8, 8, 8, 8, 8, 8, 8, 8, 8, 8, 8, 8, 8, 8, 8, 8, 8, 8, 8, 8, 8, 8, 8])) (IntKind.wrap .u8 x200)).bind fun x204 => ((some (IntKind.wrap .i64 (x201 + (IntKind.wrap .i64 x204)))).bind fun x205 => some x205)))))
def g_math_bits_LeadingZeros64 (k : Nat) (x167 : Int) : Option Int := ((g_math_bits_Len64 k x167).bind fun x210 => some (IntKind.wrap .i64 (64 - x210)))
def g_math_bits_Div64_l0 (k : Nat) (x360 : Int) (x366 : Int) : Nat → Int → Int → Option Int
  | 0, _, _ => none
  | n + 1, x395, x396 => (((bif (decide (4294967296 ≤ x395)) then some true else ((some (IntKind.wrap .u64 (x395 * (bits .and .u64 x360 4294967295)))).bind fun x439 => ((some (IntKind.wrap .u64 (4294967296 * x396))).bind fun x440 => ((some (IntKind.wrap .u64 (x440 + (shrI .u64 x366 32)))).bind fun x441 => some (decide (x441 < x439)))))) : Option Bool).bind fun x437 => (bif x437 then ((some (IntKind.wrap .u64 (x396 + (shrI .u64 x360 32)))).bind fun x444 => (bif (decide (4294967296 ≤ x444)) then some (IntKind.wrap .u64 (x395 - 1)) else (g_math_bits_Div64_l0 k x360 x366 n (IntKind.wrap .u64 (x395 - 1)) x444))) else some x395))
theorem g_math_bits_Div64_l0_eqs : True := by have := @g_math_bits_Div64_l0.eq_2; trivial
def g_math_bits_Div64_l1 (k : Nat) (x360 : Int) (x366 : Int) : Nat → Int → Int → Option Int
  | 0, _, _ => none
  | n + 1, x477, x478 => (((bif (decide (4294967296 ≤ x478)) then some true else ((some (IntKind.wrap .u64 (x478 * (bits .and .u64 x360 4294967295)))).bind fun x521 => ((some (IntKind.wrap .u64 (4294967296 * x477))).bind fun x522 => ((some (IntKind.wrap .u64 (x522 + (bits .and .u64 x366 4294967295)))).bind fun x523 => some (decide (x523 < x521)))))) : Option Bool).bind fun x519 => (bif x519 then ((some (IntKind.wrap .u64 (x477 + (shrI .u64 x360 32)))).bind fun x526 => (bif (decide (4294967296 ≤ x526)) then some (IntKind.wrap .u64 (x478 - 1)) else (g_math_bits_Div64_l1 k x360 x366 n x526 (IntKind.wrap .u64 (x478 - 1))))) else some x478))
theorem g_math_bits_Div64_l1_eqs : True := by have := @g_math_bits_Div64_l1.eq_2; trivial
def g_math_bits_Div64 (k : Nat) (x149 : Int) (x150 : Int) (x151 : Int) : Option (Int × Int) := (bif (decide (x151 = 0)) then none else (bif (decide (x151 ≤ x149)) then none else (bif (decide (x149 = 0)) then (bif (!(x151 == 0)) then (bif (!(x151 == 0)) then some ((IntKind.wrap .u64 (Int.tdiv x150 x151)), (Int.tmod x150 x151)) else none) else none) else ((g_math_bits_LeadingZeros64 k x151).bind fun x358 => (bif (decide (0 ≤ (IntKind.wrap .u64 x358))) then ((some (shlI .u64 x151 (IntKind.wrap .u64 x358))).bind fun x360 => (bif (decide (0 ≤ (IntKind.wrap .u64 x358))) then ((some (shlI .u64 x149 (IntKind.wrap .u64 x358))).bind fun x362 => ((some (IntKind.wrap .u64 (64 - (IntKind.wrap .u64 x358)))).bind fun x363 => (bif (decide (0 ≤ x363)) then (bif (decide (0 ≤ (IntKind.wrap .u64 x358))) then ((some (shlI .u64 x150 (IntKind.wrap .u64 x358))).bind fun x366 => (bif (!((shrI .u64 x360 32) == 0)) then ((some (IntKind.wrap .u64 (Int.tdiv (bits .or .u64 x362 (shrI .u64 x150 x363)) (shrI .u64 x360 32)))).bind fun x368 => ((some (IntKind.wrap .u64 (x368 * (shrI .u64 x360 32)))).bind fun x369 => ((some (IntKind.wrap .u64 ((bits .or .u64 x362 (shrI .u64 x150 x363)) - x369))).bind fun x370 => ((g_math_bits_Div64_l0 k x360 x366 k x368 x370).bind fun x421 => ((some (IntKind.wrap .u64 ((bits .or .u64 x362 (shrI .u64 x150 x363)) * 4294967296))).bind fun x447 => ((some (IntKind.wrap .u64 (x447 + (shrI .u64 x366 32)))).bind fun x448 => ((some (IntKind.wrap .u64 (x448 - (IntKind.wrap .u64 (x421 * x360))))).bind fun x449 => (bif (!((shrI .u64 x360 32) == 0)) then ((some (IntKind.wrap .u64 (Int.tdiv x449 (shrI .u64 x360 32)))).bind fun x451 => ((some (IntKind.wrap .u64 (x451 * (shrI .u64 x360 32)))).bind fun x452 => ((g_math_bits_Div64_l1 k x360 x366 k (IntKind.wrap .u64 (x449 - x452)) x451).bind fun x503 => ((some (IntKind.wrap .u64 (x421 * 4294967296))).bind fun x529 => ((some (IntKind.wrap .u64 (x449 * 4294967296))).bind fun x530 => ((some (IntKind.wrap .u64 (x530 + (bits .and .u64 x366 4294967295)))).bind fun x531 => ((some (IntKind.wrap .u64 (x531 - (IntKind.wrap .u64 (x503 * x360))))).bind fun x532 => (bif (decide (0 ≤ (IntKind.wrap .u64 x358))) then ((some (shrI .u64 x532 (IntKind.wrap .u64 x358))).bind fun x534 => some ((IntKind.wrap .u64 (x529 + x503)), x534)) else none)))))))) else none)))))))) else none)) else none) else none))) else none)) else none)))))
def g_dec_wide_by (k : Nat) (x145 : Int) (x146 : Int) (x147 : Int) : Option (Int × Int × Int) := ((g_math_bits_Div64 k 0 x145 x147).bind fun (x545, x546) => ((g_math_bits_Div64 k x546 x146 x147).bind fun (x548, x549) => some (x549, x545, x548)))
def g_math_bits_Mul64 (k : Nat) (x604 : Int) (x605 : Int) : Option Int := ((some (IntKind.wrap .u64 ((bits .and .u64 x604 4294967295) * (bits .and .u64 x605 4294967295)))).bind fun x616 => ((some (IntKind.wrap .u64 ((shrI .u64 x604 32) * (bits .and .u64 x605 4294967295)))).bind fun x617 => ((some (IntKind.wrap .u64 (x617 + (shrI .u64 x616 32)))).bind fun x618 => ((some (IntKind.wrap .u64 ((bits .and .u64 x604 4294967295) * (shrI .u64 x605 32)))).bind fun x619 => ((some (IntKind.wrap .u64 ((bits .and .u64 x618 4294967295) + x619))).bind fun x620 => ((some (IntKind.wrap .u64 ((shrI .u64 x604 32) * (shrI .u64 x605 32)))).bind fun x621 => ((some (IntKind.wrap .u64 (x621 + (shrI .u64 x618 32)))).bind fun x622 => ((some (IntKind.wrap .u64 (x622 + (shrI .u64 x620 32)))).bind fun x623 => some x623))))))))
def g_dec_wide_times (k : Nat) (x600 : Int) (x601 : Int) (x602 : Int) : Option (Bool × Int) := ((g_math_bits_Mul64 k x601 x602).bind fun x632 => ((g_math_bits_Mul64 k x600 x602).bind fun x634 => ((some (IntKind.wrap .u64 (x634 + (add64 x632 (IntKind.wrap .u64 (x600 * x602)) 0).2))).bind fun x635 => some ((decide (x635 = 0)), (add64 x632 (IntKind.wrap .u64 (x600 * x602)) 0).1))))
def g_dec_wide_tens_l0 (k : Nat) (x580 : Int) : Nat → Bool → Int → Int → Int → Option (Bool × Int × Int)
  | 0, _, _, _, _ => none
  | n + 1, x696, x697, x698, x699 => (((bif (decide (x697 < x580)) then (bif x696 then ((g_dec_wide_zero k x698 x699).bind fun _ => ((some (!(decide ((bits .or .u64 x698 x699) = 0)))).bind fun x747 => some x747)) else some false) else some false) : Option Bool).bind fun x743 => (bif x743 then ((g_dec_wide_times k x698 x699 10).bind fun (x751, x752) => (g_dec_wide_tens_l0 k x580 n x751 (IntKind.wrap .i64 (x697 + 1)) x752 (IntKind.wrap .u64 (x699 * 10)))) else some (x696, x698, x699)))
theorem g_dec_wide_tens_l0_eqs : True := by have := @g_dec_wide_tens_l0.eq_2; trivial
def g_dec_wide_tens (k : Nat) (x578 : Int) (x579 : Int) (x580 : Int) : Option (Bool × Int × Int) := ((g_dec_wide_tens_l0 k x580 k true 0 x578 x579).bind fun (x725, x726, x727) => some (x725, x726, x727))
def g_dec_num_tell_l0 (k : Nat) : Nat → Int → Int → Int → Int → Int → Int → Option (Int × Int × Int)
  | 0, _, _, _, _, _, _ => none
  | n + 1, x824, x825, x826, x827, x828, x829 => (bif (decide (x824 = 0)) then ((g_dec_wide_by k x828 x829 10).bind fun (x842, x843, x844) => (g_dec_num_tell_l0 k n x842 x828 x829 (IntKind.wrap .i64 (x827 + 1)) x843 x844)) else some (x825, x826, x827))
theorem g_dec_num_tell_l0_eqs : True := by have := @g_dec_num_tell_l0.eq_2; trivial
def g_dec_num_tell (k : Nat) (x133 : Bool) (x134 : Int) (x135 : Int) (x136 : Int) : Option (Int × Int × Int) := ((g_dec_wide_zero k x134 x135).bind fun _ => (bif (decide ((bits .or .u64 x134 x135) = 0)) then some (0, 0, 0) else ((g_dec_wide_by k x134 x135 10).bind fun (x815, x816, x817) => ((g_dec_num_tell_l0 k k x815 x134 x135 x136 x816 x817).bind fun (x836, x837, x838) => (((bif (decide (18 < x838)) then ((some (if (40 : Int) < (IntKind.wrap .i64 (x838 - 18)) then (40 : Int) else (IntKind.wrap .i64 (x838 - 18)))).bind fun x861 => ((g_dec_wide_tens k x836 x837 x861).bind fun (x863, x864, x865) => (((bif (decide (58 < x838)) then some false else some x863) : Option Bool).bind fun x867 => some (x867, x864, x865, 18)))) else some (true, x836, x837, x838)) : Option (Bool × Int × Int × Int)).bind fun (x856, x857, x858, x859) => (((bif x133 then ((some (IntKind.wrap .u64 (9223372036854775807 + 1))).bind fun x875 => some x875) else some 9223372036854775807) : Option Int).bind fun x873 => (((bif (!x856) then some true else (bif (decide (x859 < (-18))) then some true else (bif (decide (0 < x857)) then some true else some (decide (x873 < x858))))) : Option Bool).bind fun x889 => (bif x889 then some (30, 0, 0) else (((bif x133 then ((some (IntKind.wrap .i64 (0 - (IntKind.wrap .i64 x858)))).bind fun x899 => some x899) else some (IntKind.wrap .i64 x858)) : Option Int).bind fun x897 => some (0, x897, x859))))))))))
def g_dec_clean (k : Nat) (x13 : Int) (x14 : Int) (x15 : Int) (x16 : Int) : Option (Bool × Int × Int × Int × Int) := ((g_dec_ranged k ([(⟨x13, x14⟩ : S_api_Dec)] : List S_api_Dec)).bind fun x962 => (bif (!x962) then some (false, x13, x14, x15, x16) else ((g_dec_of k x13 x14).bind fun x965 => ((g_dec_num_tell k (decide (x13 < 0)) 0 x965 x14).bind fun (x967, x968, x969) => ((g_dec_ranged k ([(⟨x15, x16⟩ : S_api_Dec)] : List S_api_Dec)).bind fun x986 => (bif (!x986) then some (false, x968, x969, x15, x16) else ((g_dec_of k x15 x16).bind fun x989 => ((g_dec_num_tell k (decide (x15 < 0)) 0 x989 x16).bind fun (x991, x992, x993) => some (true, x968, x969, x992, x993)))))))))
def g_dec_factors_l0 (k : Nat) (x1034 : Int) : Nat → Int → Int → Option (Int × Int)
  | 0, _, _ => none
  | n + 1, x1058, x1059 => (bif (!(x1034 == 0)) then (bif (decide ((Int.tmod x1058 x1034) = 0)) then (bif (!(x1034 == 0)) then (g_dec_factors_l0 k x1034 n (IntKind.wrap .u64 (Int.tdiv x1058 x1034)) (IntKind.wrap .i64 (x1059 + 1))) else none) else some (x1058, x1059)) else none)
theorem g_dec_factors_l0_eqs : True := by have := @g_dec_factors_l0.eq_2; trivial
def g_dec_factors (k : Nat) (x1033 : Int) (x1034 : Int) : Option (Int × Int) := ((g_dec_factors_l0 k x1034 k x1033 0).bind fun (x1065, x1066) => some (x1066, x1065))
def g_dec_Div_l0 (k : Nat) : Nat → Int → Int → Option Int
  | 0, _, _ => none
  | n + 1, x1208, x1209 => (bif (!decide (x1209 = 0)) then (bif (!(x1209 == 0)) then (g_dec_Div_l0 k n x1209 (Int.tmod x1208 x1209)) else none) else some x1208)
theorem g_dec_Div_l0_eqs : True := by have := @g_dec_Div_l0.eq_2; trivial
def g_dec_Div_l1 (k : Nat) (x1222 : Int) (x1229 : Int) : Nat → Bool → Int → Int → Int → Option (Bool × Int × Int)
  | 0, _, _, _, _ => none
  | n + 1, x1248, x1249, x1250, x1251 => ((((some (decide (x1249 < (IntKind.wrap .i64 (x1229 - x1222))))).bind fun x1282 => (bif x1282 then some x1248 else some false)) : Option Bool).bind fun x1281 => (bif x1281 then ((g_dec_wide_times k x1250 x1251 2).bind fun (x1287, x1288) => (g_dec_Div_l1 k x1222 x1229 n x1287 (IntKind.wrap .i64 (x1249 + 1)) x1288 (IntKind.wrap .u64 (x1251 * 2)))) else some (x1248, x1250, x1251)))
theorem g_dec_Div_l1_eqs : True := by have := @g_dec_Div_l1.eq_2; trivial
def g_dec_Div_l2 (k : Nat) (x1225 : Int) (x1229 : Int) : Nat → Bool → Int → Int → Int → Option (Bool × Int × Int)
  | 0, _, _, _, _ => none
  | n + 1, x1307, x1308, x1309, x1310 => ((((some (decide (x1308 < (IntKind.wrap .i64 (x1229 - x1225))))).bind fun x1341 => (bif x1341 then some x1307 else some false)) : Option Bool).bind fun x1340 => (bif x1340 then ((g_dec_wide_times k x1309 x1310 5).bind fun (x1346, x1347) => (g_dec_Div_l2 k x1225 x1229 n x1346 (IntKind.wrap .i64 (x1308 + 1)) x1347 (IntKind.wrap .u64 (x1310 * 5)))) else some (x1307, x1309, x1310)))
theorem g_dec_Div_l2_eqs : True := by have := @g_dec_Div_l2.eq_2; trivial
def g_dec_Div (k : Nat) (x8 : Int) (x9 : Int) (x10 : Int) (x11 : Int) : Option (Int × Int × Int) := ((g_dec_clean k x8 x9 x10 x11).bind fun (x1186, x1187, x1188, x1189, x1190) => (bif (!x1186) then some (1, 0, 0) else (bif (decide (x1189 = 0)) then some (31, 0, 0) else (bif (decide (x1187 = 0)) then some (0, 0, 0) else ((g_dec_size k x1187).bind fun x1201 => ((g_dec_size k x1189).bind fun x1203 => ((g_dec_Div_l0 k k x1201 x1203).bind fun x1214 => (bif (!(x1214 == 0)) then ((g_dec_factors k (IntKind.wrap .u64 (Int.tdiv x1203 x1214)) 2).bind fun (x1222, x1223) => ((g_dec_factors k x1223 5).bind fun (x1225, x1226) => (bif (!decide (x1226 = 1)) then some (30, 0, 0) else ((some (if (x1225 : Int) > x1222 then (x1225 : Int) else x1222)).bind fun x1229 => (bif (!(x1214 == 0)) then ((g_dec_Div_l1 k x1222 x1229 k true 0 0 (IntKind.wrap .u64 (Int.tdiv x1201 x1214))).bind fun (x1269, x1270, x1271) => ((g_dec_Div_l2 k x1225 x1229 k x1269 0 x1270 x1271).bind fun (x1328, x1329, x1330) => (bif (!x1328) then some (30, 0, 0) else ((some (!((decide (x1187 < 0)) == (decide (x1189 < 0))))).bind fun x1351 => ((some (IntKind.wrap .i64 ((IntKind.wrap .i64 (x1188 - x1190)) - x1229))).bind fun x1352 => ((g_dec_num_tell k x1351 x1329 x1330 x1352).bind fun (x1354, x1355, x1356) => some (x1354, x1355, x1356))))))) else none))))) else none))))))))
def g_quireref09_Of_l0 (k : Nat) : Nat → Int → (List Int) → Option (List Int)
  | 0, _, _ => none
  | n + 1, x1421, x1422 => (bif (!decide (x1421 = 0)) then (((bif (decide ((Int.tmod x1421 10) < 0)) then ((some (IntKind.wrap .i64 (0 - (Int.tmod x1421 10)))).bind fun x1439 => some x1439) else some (Int.tmod x1421 10)) : Option Int).bind fun x1437 => (bif (decide (((List.length x1422) + (List.length ([x1437] : List Int))) * 8 ≤ 140737488355328)) then (g_quireref09_Of_l0 k n (IntKind.wrap .i64 (Int.tdiv x1421 10)) (x1422 ++ ([x1437] : List Int))) else none)) else some x1422)
theorem g_quireref09_Of_l0_eqs : True := by have := @g_quireref09_Of_l0.eq_2; trivial
def g_quireref09_Of (k : Nat) (x1369 : Int) : Option (List Int) := ((g_quireref09_Of_l0 k k x1369 ([] : List Int)).bind fun x1432 => some x1432)
def g_quireref09_num (k : Nat) (x1366 : Int) (x1367 : Int) : Option (Bool × (List Int)) := ((((g_quireref09_Of k x1366).bind fun x1472 => (bif (decide ((-18) ≤ x1367)) then some ((decide (x1367 ≤ 18)), x1472) else some (false, x1472))) : Option (Bool × (List Int))).bind fun (x1466, x1467) => some (x1466, x1467))
def g_quireref09_trim_l0 (k : Nat) (x1502 : (List Int)) : Nat → Int → Option Int
  | 0, _ => none
  | n + 1, x1575 => (((bif (decide (0 < x1575)) then ((ix x1502 (IntKind.wrap .i64 (x1575 - 1))).bind fun x1602 => some (decide (x1602 = 0))) else some false) : Option Bool).bind fun x1600 => (bif x1600 then (g_quireref09_trim_l0 k x1502 n (IntKind.wrap .i64 (x1575 - 1))) else some x1575))
theorem g_quireref09_trim_l0_eqs : True := by have := @g_quireref09_trim_l0.eq_2; trivial
def g_quireref09_trim (k : Nat) (x1501 : Bool) (x1502 : (List Int)) : Option (Bool × (List Int)) := ((g_quireref09_trim_l0 k x1502 k ((List.length x1502 : Nat) : Int)).bind fun x1590 => (bif (decide (x1590 = 0)) then some (false, ([] : List Int)) else (bif (decide (0 ≤ (0 : Int) ∧ (0 : Int) ≤ x1590 ∧ x1590 ≤ ((List.length x1502 : Nat) : Int))) then (bif (decide (((List.length ([] : List Int)) + (List.length (List.drop (Int.toNat 0) (List.take (Int.toNat x1590) x1502)))) * 8 ≤ 140737488355328)) then some (x1501, (([] : List Int) ++ (List.drop (Int.toNat 0) (List.take (Int.toNat x1590) x1502)))) else none) else none)))
def g_quireref09_Shift (k : Nat) (x1495 : Bool) (x1496 : (List Int)) (x1497 : Int) : Option (Bool × (List Int)) := (bif (decide (0 ≤ (x1497 : Int) ∧ (x1497 : Int) ≤ x1497 ∧ (8 : Int) * x1497 ≤ 281474976710656 ∧ (x1497 : Int) ≤ 9223372036854775807)) then (bif (decide (((List.length (List.replicate (Int.toNat x1497) (0 : Int))) + (List.length x1496)) * 8 ≤ 140737488355328)) then ((g_quireref09_trim k x1495 ((List.replicate (Int.toNat x1497) (0 : Int)) ++ x1496)).bind fun (x1630, x1631) => some (x1630, x1631)) else none) else none)
def g_quireref09_at (k : Nat) (x1704 : Bool) (x1705 : (List Int)) (x1706 : Int) : Option Int := (((bif (decide (0 ≤ x1706)) then ((some (decide (x1706 < ((List.length x1705 : Nat) : Int)))).bind fun x1737 => some x1737) else some false) : Option Bool).bind fun x1735 => (bif x1735 then ((ix x1705 x1706).bind fun x1740 => some x1740) else some 0))
def g_quireref09_sum_l0 (k : Nat) (x1681 : Bool) (x1682 : (List Int)) (x1683 : Bool) (x1684 : (List Int)) : Nat → Int → Int → (List Int) → Option (List Int)
  | 0, _, _, _ => none
  | n + 1, x1874, x1875, x1876 => ((((some (decide (x1875 ≤ ((List.length x1682 : Nat) : Int)))).bind fun x1920 => (bif x1920 then some true else ((some (decide (x1875 ≤ ((List.length x1684 : Nat) : Int)))).bind fun x1922 => some x1922))) : Option Bool).bind fun x1919 => (bif x1919 then ((g_quireref09_at k x1681 x1682 x1875).bind fun x1931 => ((g_quireref09_at k x1683 x1684 x1875).bind fun x1933 => ((some (IntKind.wrap .i64 ((IntKind.wrap .i64 (x1931 + x1933)) + x1874))).bind fun x1934 => (bif (decide (((List.length x1876) + (List.length ([(Int.tmod x1934 10)] : List Int))) * 8 ≤ 140737488355328)) then (g_quireref09_sum_l0 k x1681 x1682 x1683 x1684 n (IntKind.wrap .i64 (Int.tdiv x1934 10)) (IntKind.wrap .i64 (x1875 + 1)) (x1876 ++ ([(Int.tmod x1934 10)] : List Int))) else none)))) else some x1876))
theorem g_quireref09_sum_l0_eqs : True := by have := @g_quireref09_sum_l0.eq_2; trivial
def g_quireref09_sum (k : Nat) (x1681 : Bool) (x1682 : (List Int)) (x1683 : Bool) (x1684 : (List Int)) : Option (List Int) := ((g_quireref09_sum_l0 k x1681 x1682 x1683 x1684 k 0 0 ([] : List Int)).bind fun x1906 => some x1906)
def g_quireref09_more_l0 (k : Nat) (x2069 : Bool) (x2070 : (List Int)) (x2071 : Bool) (x2072 : (List Int)) : Nat → Int → Option (Int ⊕ Unit)
  | 0, _ => none
  | n + 1, x2249 => (bif (decide (0 ≤ x2249)) then ((g_quireref09_at k x2069 x2070 x2249).bind fun x2350 => ((g_quireref09_at k x2071 x2072 x2249).bind fun x2352 => (bif (decide (x2352 < x2350)) then some (Sum.inl 1) else ((g_quireref09_at k x2069 x2070 x2249).bind fun x2359 => ((g_quireref09_at k x2071 x2072 x2249).bind fun x2361 => (bif (decide (x2359 < x2361)) then some (Sum.inl (-1)) else (g_quireref09_more_l0 k x2069 x2070 x2071 x2072 n (IntKind.wrap .i64 (x2249 - 1))))))))) else some (Sum.inr ()))
theorem g_quireref09_more_l0_eqs : True := by have := @g_quireref09_more_l0.eq_2; trivial
def g_quireref09_more (k : Nat) (x2069 : Bool) (x2070 : (List Int)) (x2071 : Bool) (x2072 : (List Int)) : Option Int := ((some (IntKind.wrap .i64 (((List.length x2070 : Nat) : Int) + ((List.length x2072 : Nat) : Int)))).bind fun x2192 => (((g_quireref09_more_l0 k x2069 x2070 x2071 x2072 k x2192) : Option (Int ⊕ Unit)).bind fun y2364 => match y2364 with | (Sum.inl x2306) => some x2306 | (Sum.inr _) => some 0))
def g_quireref09_less_l0 (k : Nat) (x2368 : Bool) (x2369 : (List Int)) (x2370 : Bool) (x2371 : (List Int)) : Nat → Int → Int → (List Int) → Option (List Int)
  | 0, _, _, _ => none
  | n + 1, x2559, x2560, x2561 => ((some (decide (x2560 < ((List.length x2369 : Nat) : Int)))).bind fun x2601 => (bif x2601 then ((g_quireref09_at k x2368 x2369 x2560).bind fun x2625 => ((g_quireref09_at k x2370 x2371 x2560).bind fun x2627 => ((some (IntKind.wrap .i64 ((IntKind.wrap .i64 (x2625 - x2627)) - x2559))).bind fun x2628 => (((bif (decide (x2628 < 0)) then some (1, (IntKind.wrap .i64 (x2628 + 10))) else some (0, x2628)) : Option (Int × Int)).bind fun (x2630, x2631) => (bif (decide (((List.length x2561) + (List.length ([x2631] : List Int))) * 8 ≤ 140737488355328)) then (g_quireref09_less_l0 k x2368 x2369 x2370 x2371 n x2630 (IntKind.wrap .i64 (x2560 + 1)) (x2561 ++ ([x2631] : List Int))) else none))))) else some x2561))
theorem g_quireref09_less_l0_eqs : True := by have := @g_quireref09_less_l0.eq_2; trivial
def g_quireref09_less (k : Nat) (x2368 : Bool) (x2369 : (List Int)) (x2370 : Bool) (x2371 : (List Int)) : Option (List Int) := ((g_quireref09_less_l0 k x2368 x2369 x2370 x2371 k 0 0 ([] : List Int)).bind fun x2598 => some x2598)
def g_quireref09_Plus (k : Nat) (x1675 : Bool) (x1676 : (List Int)) (x1677 : Bool) (x1678 : (List Int)) : Option (Bool × (List Int)) := (bif (x1675 == x1677) then ((g_quireref09_sum k x1675 x1676 x1677 x1678).bind fun x2689 => ((g_quireref09_trim k x1675 x2689).bind fun (x2691, x2692) => some (x2691, x2692))) else ((g_quireref09_more k x1675 x1676 x1677 x1678).bind fun x2707 => (bif (decide (0 ≤ x2707)) then ((g_quireref09_less k x1675 x1676 x1677 x1678).bind fun x2715 => ((g_quireref09_trim k x1675 x2715).bind fun (x2717, x2718) => some (x2717, x2718))) else ((g_quireref09_less k x1677 x1678 x1675 x1676).bind fun x2725 => ((g_quireref09_trim k x1677 x2725).bind fun (x2727, x2728) => some (x2727, x2728))))))
def g_quireref09_Quo_l1 (k : Nat) (x1638 : (List Int)) (x3051 : Int) : Nat → (List Int) → Bool → (List Int) → Option ((List Int) × Bool × (List Int))
  | 0, _, _, _ => none
  | n + 1, x3162, x3163, x3164 => ((g_quireref09_more k x3163 x3164 false x1638).bind fun x3185 => (bif (decide (0 ≤ x3185)) then ((g_quireref09_less k x3163 x3164 false x1638).bind fun x3188 => ((g_quireref09_trim k false x3188).bind fun (x3190, x3191) => ((ix x3162 x3051).bind fun x3192 => ((ix x3162 x3051).bind fun x3193 => (g_quireref09_Quo_l1 k x1638 x3051 n (List.set x3162 (Int.toNat x3051) (IntKind.wrap .i64 (x3192 + 1))) x3190 x3191))))) else some (x3162, x3163, x3164)))
theorem g_quireref09_Quo_l1_eqs : True := by have := @g_quireref09_Quo_l1.eq_2; trivial
def g_quireref09_Quo_l0 (k : Nat) (x1636 : (List Int)) (x1638 : (List Int)) : Nat → Int → (List Int) → Bool → (List Int) → Option ((List Int) × Bool × (List Int))
  | 0, _, _, _, _ => none
  | n + 1, x3051, x3052, x3053, x3054 => (bif (decide (0 ≤ x3051)) then ((ix x1636 x3051).bind fun x3140 => ((g_quireref09_Shift k x3053 x3054 1).bind fun (x3142, x3143) => ((g_quireref09_Of k x3140).bind fun x3145 => ((g_quireref09_Plus k x3142 x3143 (decide (x3140 < 0)) x3145).bind fun (x3147, x3148) => ((g_quireref09_Quo_l1 k x1638 x3051 k x3052 x3147 x3148).bind fun (x3178, x3179, x3180) => (g_quireref09_Quo_l0 k x1636 x1638 n (IntKind.wrap .i64 (x3051 - 1)) x3178 x3179 x3180)))))) else some (x3052, x3053, x3054))
theorem g_quireref09_Quo_l0_eqs : True := by have := @g_quireref09_Quo_l0.eq_2; trivial
def g_quireref09_Quo (k : Nat) (x1635 : Bool) (x1636 : (List Int)) (x1637 : Bool) (x1638 : (List Int)) : Option (Bool × (List Int) × Bool × (List Int)) := (bif (decide (0 ≤ (((List.length x1636 : Nat) : Int) : Int) ∧ (((List.length x1636 : Nat) : Int) : Int) ≤ ((List.length x1636 : Nat) : Int) ∧ (8 : Int) * ((List.length x1636 : Nat) : Int) ≤ 281474976710656 ∧ (((List.length x1636 : Nat) : Int) : Int) ≤ 9223372036854775807)) then ((some (IntKind.wrap .i64 (((List.length x1636 : Nat) : Int) - 1))).bind fun x2926 => ((g_quireref09_Quo_l0 k x1636 x1638 k x2926 (List.replicate (Int.toNat ((List.length x1636 : Nat) : Int)) (0 : Int)) false ([] : List Int)).bind fun (x3117, x3118, x3119) => ((g_quireref09_trim k false x3117).bind fun (x3200, x3201) => some (x3200, x3201, x3118, x3119)))) else none)
def g_dec_wide_cmp (k : Nat) (x4385 : Int) (x4386 : Int) (x4387 : Int) (x4388 : Int) : Option Int := ((some ((decide (x4385 = x4387)) && ((decide (x4386 = x4388)) && true))).bind fun x4418 => (bif x4418 then some 0 else (((bif (decide (x4385 < x4387)) then some true else (bif (decide (x4385 = x4387)) then some (decide (x4386 < x4388)) else some false)) : Option Bool).bind fun x4422 => (bif x4422 then some (-1) else some 1))))
def g_dec_left_l0 (k : Nat) (x4310 : Int) (x4313 : Int) (x4314 : Int) : Nat → Int → Int → Option Int
  | 0, _, _ => none
  | n + 1, x4496, x4497 => ((some (decide (x4497 < (IntKind.wrap .i64 (x4310 - x4314))))).bind fun x4512 => (bif x4512 then ((g_math_bits_Mul64 k x4496 10).bind fun x4516 => (bif (!(x4313 == 0)) then ((g_math_bits_Div64 k (Int.tmod x4516 x4313) (IntKind.wrap .u64 (x4496 * 10)) x4313).bind fun (x4523, x4524) => (g_dec_left_l0 k x4310 x4313 x4314 n x4524 (IntKind.wrap .i64 (x4497 + 1)))) else none)) else some x4496))
theorem g_dec_left_l0_eqs : True := by have := @g_dec_left_l0.eq_2; trivial
def g_dec_left (k : Nat) (x4307 : Bool) (x4308 : Int) (x4309 : Int) (x4310 : Int) (x4311 : Bool) (x4312 : Int) (x4313 : Int) (x4314 : Int) : Option (Int × Int × Int) := (bif (decide (x4314 ≤ x4310)) then (bif (!(x4313 == 0)) then ((g_dec_left_l0 k x4310 x4313 x4314 k (Int.tmod x4309 x4313) 0).bind fun x4511 => some (0, x4511, x4314)) else none) else ((g_dec_wide_tens k x4312 x4313 (IntKind.wrap .i64 (x4314 - x4310))).bind fun (x4527, x4528, x4529) => (((bif (!x4527) then some true else ((g_dec_wide_cmp k x4528 x4529 x4308 x4309).bind fun x4545 => some (decide (0 < x4545)))) : Option Bool).bind fun x4542 => (bif x4542 then some (x4308, x4309, x4310) else (bif (!(x4529 == 0)) then some (0, (Int.tmod x4309 x4529), x4310) else none)))))
def g_dec_even (k : Nat) (x4695 : Int) (x4696 : Int) (x4697 : Int) (x4698 : Int) : Option (Bool × Int × Int × Int × Int × Int × Int) := ((((g_dec_of k x4695 x4696).bind fun x4973 => ((g_dec_of k x4697 x4698).bind fun x4975 => some (x4973, x4975))) : Option (Int × Int)).bind fun (x4938, x4939) => ((((g_dec_wide_zero k 0 x4938).bind fun _ => (bif (decide ((bits .or .u64 0 x4938) = 0)) then some (true, 0, x4938, x4698, 0, x4939, x4698) else ((g_dec_wide_zero k 0 x4939).bind fun _ => (bif (decide ((bits .or .u64 0 x4939) = 0)) then some (true, 0, x4938, x4696, 0, x4939, x4696) else (bif (decide (x4698 < x4696)) then ((g_dec_wide_tens k 0 x4938 (IntKind.wrap .i64 (x4696 - x4698))).bind fun (x5032, x5033, x5034) => some (x5032, x5033, x5034, x4698, 0, x4939, x4698)) else (bif (decide (x4696 < x4698)) then ((g_dec_wide_tens k 0 x4939 (IntKind.wrap .i64 (x4698 - x4696))).bind fun (x5037, x5038, x5039) => some (x5037, 0, x4938, x4696, x5038, x5039, x4696)) else some (true, 0, x4938, x4696, 0, x4939, x4698))))))) : Option (Bool × Int × Int × Int × Int × Int × Int)).bind fun (x5019, x5020, x5021, x5022, x5023, x5024, x5025) => some (x5019, x5020, x5021, x5022, x5023, x5024, x5025)))
def g_dec_wide_plus (k : Nat) (x5052 : Int) (x5053 : Int) (x5054 : Int) (x5055 : Int) : Option Bool := (bif (decide (Int.toNat ((add64 x5053 x5055 0).2) ≤ 1)) then ((some (decide ((add64 x5052 x5054 ((add64 x5053 x5055 0).2)).2 = 0))).bind fun x5061 => some x5061) else none)
def g_dec_wide_less (k : Nat) (x5067 : Int) (x5068 : Int) (x5069 : Int) (x5070 : Int) : Option Unit := (bif (decide (Int.toNat ((sub64 x5068 x5070 0).2) ≤ 1)) then some () else none)
def g_dec_Add (k : Nat) (x4676 : Int) (x4677 : Int) (x4678 : Int) (x4679 : Int) : Option (Int × Int × Int) := ((g_dec_clean k x4676 x4677 x4678 x4679).bind fun (x5113, x5114, x5115, x5116, x5117) => (bif (!x5113) then some (1, 0, 0) else ((g_dec_even k x5114 x5115 x5116 x5117).bind fun (x5120, x5121, x5122, x5123, x5124, x5125, x5126) => (((bif (!x5120) then some (Sum.inl ()) else ((some ((decide (x5114 < 0)) == (decide (x5116 < 0)))).bind fun x5144 => (bif x5144 then ((g_dec_wide_plus k x5121 x5122 x5124 x5125).bind fun x5147 => some (Sum.inr (x5147, (decide (x5114 < 0)), (add64 x5121 x5124 ((add64 x5122 x5125 0).2)).1, (add64 x5122 x5125 0).1))) else ((g_dec_wide_cmp k x5121 x5122 x5124 x5125).bind fun x5149 => (bif (decide (0 ≤ x5149)) then ((g_dec_wide_less k x5121 x5122 x5124 x5125).bind fun _ => some (Sum.inr (x5120, (decide (x5114 < 0)), (sub64 x5121 x5124 ((sub64 x5122 x5125 0).2)).1, (sub64 x5122 x5125 0).1))) else ((g_dec_wide_less k x5124 x5125 x5121 x5122).bind fun _ => some (Sum.inr (x5120, (decide (x5116 < 0)), (sub64 x5124 x5121 ((sub64 x5125 x5122 0).2)).1, (sub64 x5125 x5122 0).1)))))))) : Option (Unit ⊕ (Bool × Bool × Int × Int))).bind fun y5156 => match y5156 with | (Sum.inl _) => some (30, 0, 0) | (Sum.inr (x5139, x5140, x5141, x5142)) => (bif (!x5139) then some (30, 0, 0) else ((g_dec_num_tell k x5140 x5141 x5142 x5123).bind fun (x5160, x5161, x5162) => some (x5160, x5161, x5162)))))))
def g_dec_Mod (k : Nat) (x4282 : Int) (x4283 : Int) (x4284 : Int) (x4285 : Int) : Option (Int × Int × Int) := ((g_dec_clean k x4282 x4283 x4284 x4285).bind fun (x5178, x5179, x5180, x5181, x5182) => (bif (!x5178) then some (1, 0, 0) else (bif (decide (x5181 = 0)) then some (31, 0, 0) else ((((g_dec_of k x5179 x5180).bind fun x5268 => ((g_dec_of k x5181 x5182).bind fun x5270 => ((g_dec_left k (decide (x5179 < 0)) 0 x5268 x5180 (decide (x5181 < 0)) 0 x5270 x5182).bind fun (x5272, x5273, x5274) => some (x5272, x5273, x5274)))) : Option (Int × Int × Int)).bind fun (x5238, x5239, x5240) => ((g_dec_num_tell k (decide (x5179 < 0)) x5238 x5239 x5240).bind fun (x5295, x5296, x5297) => (((bif (!decide (x5295 = 0)) then some true else (bif (decide (x5296 = 0)) then some true else ((some ((decide (x5179 < 0)) == (decide (x5181 < 0)))).bind fun x5313 => some x5313))) : Option Bool).bind fun x5310 => (bif x5310 then some (x5295, x5296, x5297) else ((g_dec_Add k x5296 x5297 x5181 x5182).bind fun (x5317, x5318, x5319) => some (x5317, x5318, x5319)))))))))
def g_quireref09_two_l0 (k : Nat) (x5332 : Int) : Nat → Bool → (List Int) → Int → Option (Bool × (List Int) × Int)
  | 0, _, _, _ => none
  | n + 1, x5442, x5443, x5444 => (bif (decide (x5332 < x5444)) then ((g_quireref09_Shift k x5442 x5443 1).bind fun (x5468, x5469) => (g_quireref09_two_l0 k x5332 n x5468 x5469 (IntKind.wrap .i64 (x5444 - 1)))) else some (x5442, x5443, x5444))
theorem g_quireref09_two_l0_eqs : True := by have := @g_quireref09_two_l0.eq_2; trivial
def g_quireref09_two_l1 (k : Nat) (x5458 : Int) : Nat → Bool → (List Int) → Int → Option (Bool × (List Int) × Int)
  | 0, _, _, _ => none
  | n + 1, x5482, x5483, x5484 => (bif (decide (x5458 < x5484)) then ((g_quireref09_Shift k x5482 x5483 1).bind fun (x5508, x5509) => (g_quireref09_two_l1 k x5458 n x5508 x5509 (IntKind.wrap .i64 (x5484 - 1)))) else some (x5482, x5483, x5484))
theorem g_quireref09_two_l1_eqs : True := by have := @g_quireref09_two_l1.eq_2; trivial
def g_quireref09_two (k : Nat) (x5329 : Int) (x5330 : Int) (x5331 : Int) (x5332 : Int) : Option (Bool × Bool × (List Int) × Int × Bool × (List Int) × Int) := ((g_quireref09_num k x5329 x5330).bind fun (x5416, x5417) => ((g_quireref09_num k x5331 x5332).bind fun (x5419, x5420) => (((bif (!x5416) then some true else some (!x5419)) : Option Bool).bind fun x5427 => (bif x5427 then some (false, false, ([] : List Int), 0, false, ([] : List Int), 0) else ((g_quireref09_two_l0 k x5332 k (decide (x5329 < 0)) x5417 x5330).bind fun (x5456, x5457, x5458) => ((g_quireref09_two_l1 k x5458 k (decide (x5331 < 0)) x5420 x5332).bind fun (x5496, x5497, x5498) => some (true, x5456, x5457, x5458, x5496, x5497, x5498)))))))
def g_dec_clean__b (k : Nat) (x5652 : Int) (x5653 : Int) : Option (Bool × Int × Int) := ((g_dec_ranged k ([(⟨x5652, x5653⟩ : S_api_Dec)] : List S_api_Dec)).bind fun x5698 => (bif (!x5698) then some (false, x5652, x5653) else ((g_dec_of k x5652 x5653).bind fun x5701 => ((g_dec_num_tell k (decide (x5652 < 0)) 0 x5701 x5653).bind fun (x5703, x5704, x5705) => some (true, x5704, x5705)))))
def g_dec_Mul (k : Nat) (x5987 : Int) (x5988 : Int) (x5989 : Int) (x5990 : Int) : Option (Int × Int × Int) := ((g_dec_clean k x5987 x5988 x5989 x5990).bind fun (x6034, x6035, x6036, x6037, x6038) => (bif (!x6034) then some (1, 0, 0) else ((g_dec_size k x6035).bind fun x6047 => ((g_dec_size k x6037).bind fun x6049 => ((g_math_bits_Mul64 k x6047 x6049).bind fun x6051 => ((some (!((decide (x6035 < 0)) == (decide (x6037 < 0))))).bind fun x6052 => ((g_dec_num_tell k x6052 x6051 (IntKind.wrap .u64 (x6047 * x6049)) (IntKind.wrap .i64 (x6036 + x6038))).bind fun (x6054, x6055, x6056) => some (x6054, x6055, x6056))))))))
def g_quireref09_Times_l1 (k : Nat) (x6706 : (List Int)) (x6708 : (List Int)) (x7017 : Int) : Nat → Int → (List Int) → Option (List Int)
  | 0, _, _ => none
  | n + 1, x7145, x7146 => ((some (decide (x7145 < ((List.length x6708 : Nat) : Int)))).bind fun x7173 => (bif x7173 then ((ix x7146 (IntKind.wrap .i64 (x7017 + x7145))).bind fun x7189 => ((ix x6706 x7017).bind fun x7190 => ((ix x6708 x7145).bind fun x7191 => ((some (IntKind.wrap .i64 (x7189 + (IntKind.wrap .i64 (x7190 * x7191))))).bind fun x7192 => ((ix x7146 (IntKind.wrap .i64 (x7017 + x7145))).bind fun x7193 => (g_quireref09_Times_l1 k x6706 x6708 x7017 n (IntKind.wrap .i64 (x7145 + 1)) (List.set x7146 (Int.toNat (IntKind.wrap .i64 (x7017 + x7145))) x7192))))))) else some x7146))
theorem g_quireref09_Times_l1_eqs : True := by have := @g_quireref09_Times_l1.eq_2; trivial
def g_quireref09_Times_l2 (k : Nat) : Nat → Int → (List Int) → Option (List Int)
  | 0, _, _ => none
  | n + 1, x7215, x7216 => ((some (decide ((IntKind.wrap .i64 (x7215 + 1)) < ((List.length x7216 : Nat) : Int)))).bind fun x7240 => (bif x7240 then ((ix x7216 (IntKind.wrap .i64 (x7215 + 1))).bind fun x7252 => ((ix x7216 x7215).bind fun x7253 => ((some (IntKind.wrap .i64 (x7252 + (IntKind.wrap .i64 (Int.tdiv x7253 10))))).bind fun x7254 => ((ix x7216 (IntKind.wrap .i64 (x7215 + 1))).bind fun x7255 => ((ix (List.set x7216 (Int.toNat (IntKind.wrap .i64 (x7215 + 1))) x7254) x7215).bind fun x7256 => ((ix (List.set x7216 (Int.toNat (IntKind.wrap .i64 (x7215 + 1))) x7254) x7215).bind fun x7257 => (g_quireref09_Times_l2 k n (IntKind.wrap .i64 (x7215 + 1)) (List.set (List.set x7216 (Int.toNat (IntKind.wrap .i64 (x7215 + 1))) x7254) (Int.toNat x7215) (Int.tmod x7256 10))))))))) else some x7216))
theorem g_quireref09_Times_l2_eqs : True := by have := @g_quireref09_Times_l2.eq_2; trivial
def g_quireref09_Times_l0 (k : Nat) (x6706 : (List Int)) (x6708 : (List Int)) : Nat → Int → (List Int) → Option (List Int)
  | 0, _, _ => none
  | n + 1, x7017, x7018 => ((some (decide (x7017 < ((List.length x6706 : Nat) : Int)))).bind fun x7120 => (bif x7120 then ((g_quireref09_Times_l1 k x6706 x6708 x7017 k 0 x7018).bind fun x7170 => ((g_quireref09_Times_l2 k k 0 x7170).bind fun x7237 => (g_quireref09_Times_l0 k x6706 x6708 n (IntKind.wrap .i64 (x7017 + 1)) x7237))) else some x7018))
theorem g_quireref09_Times_l0_eqs : True := by have := @g_quireref09_Times_l0.eq_2; trivial
def g_quireref09_Times (k : Nat) (x6705 : Bool) (x6706 : (List Int)) (x6707 : Bool) (x6708 : (List Int)) : Option (Bool × (List Int)) := ((some (IntKind.wrap .i64 (((List.length x6706 : Nat) : Int) + ((List.length x6708 : Nat) : Int)))).bind fun x6917 => (bif (decide (0 ≤ ((IntKind.wrap .i64 (x6917 + 1)) : Int) ∧ ((IntKind.wrap .i64 (x6917 + 1)) : Int) ≤ (IntKind.wrap .i64 (x6917 + 1)) ∧ (8 : Int) * (IntKind.wrap .i64 (x6917 + 1)) ≤ 281474976710656 ∧ ((IntKind.wrap .i64 (x6917 + 1)) : Int) ≤ 9223372036854775807)) then ((g_quireref09_Times_l0 k x6706 x6708 k 0 (List.replicate (Int.toNat (IntKind.wrap .i64 (x6917 + 1))) (0 : Int))).bind fun x7117 => ((g_quireref09_trim k (!(x6705 == x6707)) x7117).bind fun (x7261, x7262) => some (x7261, x7262))) else none))
def g_dec_Make (k : Nat) (x8742 : Int) (x8743 : Int) : Option (Int × Int × Int) := (((bif (!decide (x8742 = 0)) then (bif (decide (x8743 < (-100))) then some true else some (decide (100 < x8743))) else some false) : Option Bool).bind fun x8777 => (bif x8777 then some (30, 0, 0) else ((g_dec_size k x8742).bind fun x8783 => ((g_dec_num_tell k (decide (x8742 < 0)) 0 x8783 x8743).bind fun (x8785, x8786, x8787) => some (x8785, x8786, x8787)))))
def g_math_bits_Mul (k : Nat) (x8866 : Int) (x8867 : Int) : Option Int := ((g_math_bits_Mul64 k x8866 x8867).bind fun x8873 => some x8873)
def g_internal_stringslite_HasPrefix (k : Nat) (x8911 : ByteArray) (x8912 : ByteArray) : Option Bool := ((((some (decide (((ByteArray.size x8912 : Nat) : Int) ≤ ((ByteArray.size x8911 : Nat) : Int)))).bind fun x8930 => (bif x8930 then (bif (decide (0 ≤ (0 : Int) ∧ (0 : Int) ≤ ((ByteArray.size x8912 : Nat) : Int) ∧ ((ByteArray.size x8912 : Nat) : Int) ≤ ((ByteArray.size x8911 : Nat) : Int))) then ((some (ByteArray.extract x8911 (Int.toNat 0) (Int.toNat ((ByteArray.size x8912 : Nat) : Int)))).bind fun x8933 => some (x8933.toList == x8912.toList)) else none) else some false)) : Option Bool).bind fun x8929 => some x8929)
def g_strings_HasPrefix (k : Nat) (x8908 : ByteArray) (x8909 : ByteArray) : Option Bool := ((g_internal_stringslite_HasPrefix k x8908 x8909).bind fun x8939 => some x8939)
def g_strings_Builder_copyCheck (k : Nat) : Option Unit := some ()
def g_strings_Builder_grow (k : Nat) (x9085 : Int) : Option Unit := ((some (IntKind.wrap .i64 ((IntKind.wrap .i64 (2 * 0)) + x9085))).bind fun x9100 => (bif (decide (0 ≤ (x9100 : Int) ∧ (x9100 : Int) ≤ 140737488355328)) then (bif (decide (0 ≤ (0 : Int) ∧ (0 : Int) ≤ ((List.length (List.replicate (Int.toNat x9100) ()) : Nat) : Int))) then (bif (decide ((List.length (List.take (Int.toNat 0) (List.replicate (Int.toNat x9100) ()))) = (List.length ([] : List Int)))) then some () else none) else none) else none))
def g_strings_Builder_Grow (k : Nat) (x9076 : Int) : Option Unit := ((g_strings_Builder_copyCheck k).bind fun _ => (bif (decide (x9076 < 0)) then none else ((some (decide ((IntKind.wrap .i64 (0 - 0)) < x9076))).bind fun x9110 => (bif x9110 then ((g_strings_Builder_grow k x9076).bind fun _ => some ()) else some ()))))
def g_strings_Builder_copyCheck__b (k : Nat) (x9117 : (List Int)) : Option Unit := some ()
def g_strings_Builder_WriteString (k : Nat) (x9114 : ByteArray) (x9115 : (List Int)) : Option Unit := ((g_strings_Builder_copyCheck__b k x9115).bind fun _ => (bif (decide (((List.length x9115) + (List.length (strInts x9114))) * 1 ≤ 140737488355328)) then some () else none))
def g_strings_Builder_Len (k : Nat) (x9124 : (List Int)) : Option Unit := some ()
def g_strings_Builder_String (k : Nat) (x9137 : (List Int)) : Option (Unit ⊕ Unit) := (bif (decide (List.length x9137 = 0)) then some (Sum.inl ()) else some (Sum.inr ()))
def g_strings_Repeat_l0 (k : Nat) (x9196 : Int) (x9343 : Int) : Nat → (List Int) → Option (List Int)
  | 0, _ => none
  | n + 1, x9370 => ((g_strings_Builder_Len k x9370).bind fun _ => ((some (decide (((List.length x9370 : Nat) : Int) < x9196))).bind fun x9393 => (bif x9393 then ((g_strings_Builder_Len k x9370).bind fun _ => ((some (IntKind.wrap .i64 (x9196 - ((List.length x9370 : Nat) : Int)))).bind fun x9396 => ((g_strings_Builder_Len k x9370).bind fun _ => ((some (if (((List.length x9370 : Nat) : Int) : Int) < x9396 then (((List.length x9370 : Nat) : Int) : Int) else x9396)).bind fun x9398 => ((some (if (x9343 : Int) < x9398 then (x9343 : Int) else x9398)).bind fun x9399 => ((g_strings_Builder_String k x9370).bind fun y9401 => match y9401 with | (Sum.inl _) => (bif (decide (0 ≤ (0 : Int) ∧ (0 : Int) ≤ x9399 ∧ x9399 ≤ ((ByteArray.size ByteArray.empty : Nat) : Int))) then ((some (ByteArray.extract ByteArray.empty (Int.toNat 0) (Int.toNat x9399))).bind fun x9403 => ((g_strings_Builder_WriteString k x9403 x9370).bind fun _ => (g_strings_Repeat_l0 k x9196 x9343 n (x9370 ++ (strInts x9403))))) else none) | (Sum.inr _) => (bif (decide (0 ≤ (0 : Int) ∧ (0 : Int) ≤ x9399 ∧ x9399 ≤ ((ByteArray.size (strOf x9370) : Nat) : Int))) then none else none))))))) else some x9370)))
theorem g_strings_Repeat_l0_eqs : True := by have := @g_strings_Repeat_l0.eq_2; trivial
def g_strings_Repeat (k : Nat) (x8856 : ByteArray) (x8857 : Int) : Option ByteArray := (bif (decide (x8857 = 0)) then some (ByteArray.mk #[]) else (bif (decide (x8857 = 1)) then some x8856 else (bif (decide (x8857 < 0)) then none else ((some (IntKind.wrap .u64 ((ByteArray.size x8856 : Nat) : Int))).bind fun x9179 => ((g_math_bits_Mul k x9179 (IntKind.wrap .u64 x8857)).bind fun x9181 => (((bif (decide (0 < x9181)) then some true else ((some (decide (9223372036854775807 < (IntKind.wrap .u64 (x9179 * (IntKind.wrap .u64 x8857)))))).bind fun x9193 => some x9193)) : Option Bool).bind fun x9191 => (bif x9191 then none else ((some (IntKind.wrap .i64 (IntKind.wrap .u64 (x9179 * (IntKind.wrap .u64 x8857))))).bind fun x9196 => ((some (decide (((ByteArray.size x8856 : Nat) : Int) = 0))).bind fun x9199 => (bif x9199 then some (ByteArray.mk #[]) else ((((ix (strInts x8856) 0).bind fun x9269 => (((bif (decide (x9269 = 32)) then some (decide (x9269 = 32)) else (bif (decide (x9269 = 45)) then some (decide (x9269 = 45)) else (bif (decide (x9269 = 48)) then some (decide (x9269 = 48)) else (bif (decide (x9269 = 61)) then some (decide (x9269 = 61)) else some (decide (x9269 = 9)))))) : Option Bool).bind fun x9274 => (bif x9274 then (((bif (decide (x9196 ≤ 128)) then ((g_strings_HasPrefix k (ByteArray.mk #[32, 32, 32, 32, 32, 32, 32, 32, 32, 32, 32, 32, 32, 32, 32, 32, 32, 32, 32, 32, 32, 32, 32, 32, 32, 32, 32, 32, 32, 32, 32, 32, 32, 32, 32, 32, 32, 32, 32, 32, 32, 32, 32, 32, 32, 32, 32, 32, 32, 32, 32, 32, 32, 32, 32, 32, 32, 32, 32, 32, 32, 32, 32, 32, 32, 32, 32, 32, 32, 32, 32, 32, 32, 32, 32, 32, 32, 32, 32, 32, 32, 32, 32, 32, 32, 32, 32, 32, 32, 32, 32, 32, 32, 32, 32, 32, 32, 32, 32, 32, 32, 32, 32, 32, 32, 32, 32, 32, 32, 32, 32, 32, 32, 32, 32, 32, 32, 32, 32, 32, 32, 32, 32, 32, 32, 32, 32, 32]) x8856).bind fun x9287 => some x9287) else some false) : Option Bool).bind fun x9284 => (bif x9284 then (bif (decide (0 ≤ (0 : Int) ∧ (0 : Int) ≤ x9196 ∧ x9196 ≤ ((ByteArray.size (ByteArray.mk #[32, 32, 32, 32, 32, 32, 32, 32, 32, 32, 32, 32, 32, 32, 32, 32, 32, 32, 32, 32, 32, 32, 32, 32, 32, 32, 32, 32, 32, 32, 32, 32, 32, 32, 32, 32, 32, 32, 32, 32, 32, 32, 32, 32, 32, 32, 32, 32, 32, 32, 32, 32, 32, 32, 32, 32, 32, 32, 32, 32, 32, 32, 32, 32, 32, 32, 32, 32, 32, 32, 32, 32, 32, 32, 32, 32, 32, 32, 32, 32, 32, 32, 32, 32, 32, 32, 32, 32, 32, 32, 32, 32, 32, 32, 32, 32, 32, 32, 32, 32, 32, 32, 32, 32, 32, 32, 32, 32, 32, 32, 32, 32, 32, 32, 32, 32, 32, 32, 32, 32, 32, 32, 32, 32, 32, 32, 32, 32]) : Nat) : Int))) then ((some (ByteArray.extract (ByteArray.mk #[32, 32, 32, 32, 32, 32, 32, 32, 32, 32, 32, 32, 32, 32, 32, 32, 32, 32, 32, 32, 32, 32, 32, 32, 32, 32, 32, 32, 32, 32, 32, 32, 32, 32, 32, 32, 32, 32, 32, 32, 32, 32, 32, 32, 32, 32, 32, 32, 32, 32, 32, 32, 32, 32, 32, 32, 32, 32, 32, 32, 32, 32, 32, 32, 32, 32, 32, 32, 32, 32, 32, 32, 32, 32, 32, 32, 32, 32, 32, 32, 32, 32, 32, 32, 32, 32, 32, 32, 32, 32, 32, 32, 32, 32, 32, 32, 32, 32, 32, 32, 32, 32, 32, 32, 32, 32, 32, 32, 32, 32, 32, 32, 32, 32, 32, 32, 32, 32, 32, 32, 32, 32, 32, 32, 32, 32, 32, 32]) (Int.toNat 0) (Int.toNat x9196))).bind fun x9291 => some (Sum.inl x9291)) else none) else (((bif (decide (x9196 ≤ 128)) then ((g_strings_HasPrefix k (ByteArray.mk #[45, 45, 45, 45, 45, 45, 45, 45, 45, 45, 45, 45, 45, 45, 45, 45, 45, 45, 45, 45, 45, 45, 45, 45, 45, 45, 45, 45, 45, 45, 45, 45, 45, 45, 45, 45, 45, 45, 45, 45, 45, 45, 45, 45, 45, 45, 45, 45, 45, 45, 45, 45, 45, 45, 45, 45, 45, 45, 45, 45, 45, 45, 45, 45, 45, 45, 45, 45, 45, 45, 45, 45, 45, 45, 45, 45, 45, 45, 45, 45, 45, 45, 45, 45, 45, 45, 45, 45, 45, 45, 45, 45, 45, 45, 45, 45, 45, 45, 45, 45, 45, 45, 45, 45, 45, 45, 45, 45, 45, 45, 45, 45, 45, 45, 45, 45, 45, 45, 45, 45, 45, 45, 45, 45, 45, 45, 45, 45]) x8856).bind fun x9298 => some x9298) else some false) : Option Bool).bind fun x9295 => (bif x9295 then (bif (decide (0 ≤ (0 : Int) ∧ (0 : Int) ≤ x9196 ∧ x9196 ≤ ((ByteArray.size (ByteArray.mk #[45, 45, 45, 45, 45, 45, 45, 45, 45, 45, 45, 45, 45, 45, 45, 45, 45, 45, 45, 45, 45, 45, 45, 45, 45, 45, 45, 45, 45, 45, 45, 45, 45, 45, 45, 45, 45, 45, 45, 45, 45, 45, 45, 45, 45, 45, 45, 45, 45, 45, 45, 45, 45, 45, 45, 45, 45, 45, 45, 45, 45, 45, 45, 45, 45, 45, 45, 45, 45, 45, 45, 45, 45, 45, 45, 45, 45, 45, 45, 45, 45, 45, 45, 45, 45, 45, 45, 45, 45, 45, 45, 45, 45, 45, 45, 45, 45, 45, 45, 45, 45, 45, 45, 45, 45, 45, 45, 45, 45, 45, 45, 45, 45, 45, 45, 45, 45, 45, 45, 45, 45, 45, 45, 45, 45, 45, 45, 45]) : Nat) : Int))) then ((some (ByteArray.extract (ByteArray.mk #[45, 45, 45, 45, 45, 45, 45, 45, 45, 45, 45, 45, 45, 45, 45, 45, 45, 45, 45, 45, 45, 45, 45, 45, 45, 45, 45, 45, 45, 45, 45, 45, 45, 45, 45, 45, 45, 45, 45, 45, 45, 45, 45, 45, 45, 45, 45, 45, 45, 45, 45, 45, 45, 45, 45, 45, 45, 45, 45, 45, 45, 45, 45, 45, 45, 45, 45, 45, 45, 45, 45, 45, 45, 45, 45, 45, 45, 45, 45, 45, 45, 45, 45, 45, 45, 45, 45, 45, 45, 45, 45, 45, 45, 45, 45, 45, 45, 45, 45, 45, 45, 45, 45, 45, 45, 45, 45, 45, 45, 45, 45, 45, 45, 45, 45, 45, 45, 45, 45, 45, 45, 45, 45, 45, 45, 45, 45, 45]) (Int.toNat 0) (Int.toNat x9196))).bind fun x9302 => some (Sum.inl x9302)) else none) else (((bif (decide (x9196 ≤ 64)) then ((g_strings_HasPrefix k (ByteArray.mk #[48, 48, 48, 48, 48, 48, 48, 48, 48, 48, 48, 48, 48, 48, 48, 48, 48, 48, 48, 48, 48, 48, 48, 48, 48, 48, 48, 48, 48, 48, 48, 48, 48, 48, 48, 48, 48, 48, 48, 48, 48, 48, 48, 48, 48, 48, 48, 48, 48, 48, 48, 48, 48, 48, 48, 48, 48, 48, 48, 48, 48, 48, 48, 48]) x8856).bind fun x9309 => some x9309) else some false) : Option Bool).bind fun x9306 => (bif x9306 then (bif (decide (0 ≤ (0 : Int) ∧ (0 : Int) ≤ x9196 ∧ x9196 ≤ ((ByteArray.size (ByteArray.mk #[48, 48, 48, 48, 48, 48, 48, 48, 48, 48, 48, 48, 48, 48, 48, 48, 48, 48, 48, 48, 48, 48, 48, 48, 48, 48, 48, 48, 48, 48, 48, 48, 48, 48, 48, 48, 48, 48, 48, 48, 48, 48, 48, 48, 48, 48, 48, 48, 48, 48, 48, 48, 48, 48, 48, 48, 48, 48, 48, 48, 48, 48, 48, 48]) : Nat) : Int))) then ((some (ByteArray.extract (ByteArray.mk #[48, 48, 48, 48, 48, 48, 48, 48, 48, 48, 48, 48, 48, 48, 48, 48, 48, 48, 48, 48, 48, 48, 48, 48, 48, 48, 48, 48, 48, 48, 48, 48, 48, 48, 48, 48, 48, 48, 48, 48, 48, 48, 48, 48, 48, 48, 48, 48, 48, 48, 48, 48, 48, 48, 48, 48, 48, 48, 48, 48, 48, 48, 48, 48]) (Int.toNat 0) (Int.toNat x9196))).bind fun x9313 => some (Sum.inl x9313)) else none) else (((bif (decide (x9196 ≤ 128)) then ((g_strings_HasPrefix k (ByteArray.mk #[61, 61, 61, 61, 61, 61, 61, 61, 61, 61, 61, 61, 61, 61, 61, 61, 61, 61, 61, 61, 61, 61, 61, 61, 61, 61, 61, 61, 61, 61, 61, 61, 61, 61, 61, 61, 61, 61, 61, 61, 61, 61, 61, 61, 61, 61, 61, 61, 61, 61, 61, 61, 61, 61, 61, 61, 61, 61, 61, 61, 61, 61, 61, 61, 61, 61, 61, 61, 61, 61, 61, 61, 61, 61, 61, 61, 61, 61, 61, 61, 61, 61, 61, 61, 61, 61, 61, 61, 61, 61, 61, 61, 61, 61, 61, 61, 61, 61, 61, 61, 61, 61, 61, 61, 61, 61, 61, 61, 61, 61, 61, 61, 61, 61, 61, 61, 61, 61, 61, 61, 61, 61, 61, 61, 61, 61, 61, 61]) x8856).bind fun x9320 => some x9320) else some false) : Option Bool).bind fun x9317 => (bif x9317 then (bif (decide (0 ≤ (0 : Int) ∧ (0 : Int) ≤ x9196 ∧ x9196 ≤ ((ByteArray.size (ByteArray.mk #[61, 61, 61, 61, 61, 61, 61, 61, 61, 61, 61, 61, 61, 61, 61, 61, 61, 61, 61, 61, 61, 61, 61, 61, 61, 61, 61, 61, 61, 61, 61, 61, 61, 61, 61, 61, 61, 61, 61, 61, 61, 61, 61, 61, 61, 61, 61, 61, 61, 61, 61, 61, 61, 61, 61, 61, 61, 61, 61, 61, 61, 61, 61, 61, 61, 61, 61, 61, 61, 61, 61, 61, 61, 61, 61, 61, 61, 61, 61, 61, 61, 61, 61, 61, 61, 61, 61, 61, 61, 61, 61, 61, 61, 61, 61, 61, 61, 61, 61, 61, 61, 61, 61, 61, 61, 61, 61, 61, 61, 61, 61, 61, 61, 61, 61, 61, 61, 61, 61, 61, 61, 61, 61, 61, 61, 61, 61, 61]) : Nat) : Int))) then ((some (ByteArray.extract (ByteArray.mk #[61, 61, 61, 61, 61, 61, 61, 61, 61, 61, 61, 61, 61, 61, 61, 61, 61, 61, 61, 61, 61, 61, 61, 61, 61, 61, 61, 61, 61, 61, 61, 61, 61, 61, 61, 61, 61, 61, 61, 61, 61, 61, 61, 61, 61, 61, 61, 61, 61, 61, 61, 61, 61, 61, 61, 61, 61, 61, 61, 61, 61, 61, 61, 61, 61, 61, 61, 61, 61, 61, 61, 61, 61, 61, 61, 61, 61, 61, 61, 61, 61, 61, 61, 61, 61, 61, 61, 61, 61, 61, 61, 61, 61, 61, 61, 61, 61, 61, 61, 61, 61, 61, 61, 61, 61, 61, 61, 61, 61, 61, 61, 61, 61, 61, 61, 61, 61, 61, 61, 61, 61, 61, 61, 61, 61, 61, 61, 61]) (Int.toNat 0) (Int.toNat x9196))).bind fun x9324 => some (Sum.inl x9324)) else none) else (((bif (decide (x9196 ≤ 64)) then ((g_strings_HasPrefix k (ByteArray.mk #[9, 9, 9, 9, 9, 9, 9, 9, 9, 9, 9, 9, 9, 9, 9, 9, 9, 9, 9, 9, 9, 9, 9, 9, 9, 9, 9, 9, 9, 9, 9, 9, 9, 9, 9, 9, 9, 9, 9, 9, 9, 9, 9, 9, 9, 9, 9, 9, 9, 9, 9, 9, 9, 9, 9, 9, 9, 9, 9, 9, 9, 9, 9, 9]) x8856).bind fun x9331 => some x9331) else some false) : Option Bool).bind fun x9328 => (bif x9328 then (bif (decide (0 ≤ (0 : Int) ∧ (0 : Int) ≤ x9196 ∧ x9196 ≤ ((ByteArray.size (ByteArray.mk #[9, 9, 9, 9, 9, 9, 9, 9, 9, 9, 9, 9, 9, 9, 9, 9, 9, 9, 9, 9, 9, 9, 9, 9, 9, 9, 9, 9, 9, 9, 9, 9, 9, 9, 9, 9, 9, 9, 9, 9, 9, 9, 9, 9, 9, 9, 9, 9, 9, 9, 9, 9, 9, 9, 9, 9, 9, 9, 9, 9, 9, 9, 9, 9]) : Nat) : Int))) then ((some (ByteArray.extract (ByteArray.mk #[9, 9, 9, 9, 9, 9, 9, 9, 9, 9, 9, 9, 9, 9, 9, 9, 9, 9, 9, 9, 9, 9, 9, 9, 9, 9, 9, 9, 9, 9, 9, 9, 9, 9, 9, 9, 9, 9, 9, 9, 9, 9, 9, 9, 9, 9, 9, 9, 9, 9, 9, 9, 9, 9, 9, 9, 9, 9, 9, 9, 9, 9, 9, 9]) (Int.toNat 0) (Int.toNat x9196))).bind fun x9335 => some (Sum.inl x9335)) else none) else some (Sum.inr ()))))))))))) else some (Sum.inr ())))) : Option (ByteArray ⊕ Unit)).bind fun y9337 => match y9337 with | (Sum.inl x9268) => some x9268 | (Sum.inr _) => (((bif (decide (8192 < x9196)) then (bif (!(((ByteArray.size x8856 : Nat) : Int) == 0)) then ((some (IntKind.wrap .i64 (Int.tdiv 8192 ((ByteArray.size x8856 : Nat) : Int)))).bind fun x9346 => ((some (IntKind.wrap .i64 (x9346 * ((ByteArray.size x8856 : Nat) : Int)))).bind fun x9347 => (bif (decide (x9347 = 0)) then some ((ByteArray.size x8856 : Nat) : Int) else some x9347))) else none) else some x9196) : Option Int).bind fun x9343 => ((g_strings_Builder_Grow k x9196).bind fun _ => ((g_strings_Builder_WriteString k x8856 ([] : List Int)).bind fun _ => ((g_strings_Repeat_l0 k x9196 x9343 k (([] : List Int) ++ (strInts x8856))).bind fun x9388 => ((g_strings_Builder_String k x9388).bind fun y9408 => match y9408 with | (Sum.inl _) => some ByteArray.empty | (Sum.inr _) => some (strOf x9388)))))))))))))))))
def g_dec_Print_l0 (k : Nat) : Nat → ByteArray → Int → Option ByteArray
  | 0, _, _ => none
  | n + 1, x9491, x9492 => (bif (decide (0 < x9492)) then ((some (IntKind.wrap .u64 (48 + (Int.tmod x9492 10)))).bind fun x9500 => (bif (decide (ByteArray.size (strOf ([(IntKind.wrap .u8 x9500)] : List Int)) + ByteArray.size x9491 ≤ 9223372036854775807)) then (g_dec_Print_l0 k n ((strOf ([(IntKind.wrap .u8 x9500)] : List Int)) ++ x9491) (IntKind.wrap .u64 (Int.tdiv x9492 10))) else none)) else some x9491)
theorem g_dec_Print_l0_eqs : True := by have := @g_dec_Print_l0.eq_2; trivial
def g_dec_Print (k : Nat) (x8826 : Int) (x8827 : Int) : Option ByteArray := ((g_dec_clean__b k x8826 x8827).bind fun (x9480, x9481, x9482) => (bif (!x9480) then some (ByteArray.mk #[63]) else ((g_dec_size k x9481).bind fun x9485 => ((g_dec_Print_l0 k k (ByteArray.mk #[]) x9485).bind fun x9497 => (((bif (decide (x9481 = 0)) then some (ByteArray.mk #[48]) else (bif (decide (0 < x9482)) then ((g_strings_Repeat k (ByteArray.mk #[48]) x9482).bind fun x9536 => (bif (decide (ByteArray.size x9497 + ByteArray.size x9536 ≤ 9223372036854775807)) then some (x9497 ++ x9536) else none)) else (bif (decide (x9482 < 0)) then ((some (IntKind.wrap .i64 ((IntKind.wrap .i64 (1 - x9482)) - ((ByteArray.size x9497 : Nat) : Int)))).bind fun x9539 => ((some (if (0 : Int) > x9539 then (0 : Int) else x9539)).bind fun x9540 => ((g_strings_Repeat k (ByteArray.mk #[48]) x9540).bind fun x9542 => (bif (decide (ByteArray.size x9542 + ByteArray.size x9497 ≤ 9223372036854775807)) then ((some ((ByteArray.size (x9542 ++ x9497) : Nat) : Int)).bind fun x9554 => ((some ((ByteArray.size (x9542 ++ x9497) : Nat) : Int)).bind fun x9555 => (bif (decide (0 ≤ (0 : Int) ∧ (0 : Int) ≤ (IntKind.wrap .i64 (x9554 + x9482)) ∧ (IntKind.wrap .i64 (x9554 + x9482)) ≤ ((ByteArray.size (x9542 ++ x9497) : Nat) : Int))) then ((some (ByteArray.extract (x9542 ++ x9497) (Int.toNat 0) (Int.toNat (IntKind.wrap .i64 (x9554 + x9482))))).bind fun x9557 => (bif (decide (ByteArray.size x9557 + ByteArray.size (ByteArray.mk #[46]) ≤ 9223372036854775807)) then (bif (decide (0 ≤ ((IntKind.wrap .i64 (x9555 + x9482)) : Int) ∧ ((IntKind.wrap .i64 (x9555 + x9482)) : Int) ≤ ((ByteArray.size (x9542 ++ x9497) : Nat) : Int) ∧ ((ByteArray.size (x9542 ++ x9497) : Nat) : Int) ≤ ((ByteArray.size (x9542 ++ x9497) : Nat) : Int))) then ((some (ByteArray.extract (x9542 ++ x9497) (Int.toNat (IntKind.wrap .i64 (x9555 + x9482))) (Int.toNat ((ByteArray.size (x9542 ++ x9497) : Nat) : Int)))).bind fun x9560 => (bif (decide (ByteArray.size (x9557 ++ (ByteArray.mk #[46])) + ByteArray.size x9560 ≤ 9223372036854775807)) then some ((x9557 ++ (ByteArray.mk #[46])) ++ x9560) else none)) else none) else none)) else none))) else none)))) else some x9497))) : Option ByteArray).bind fun x9532 => (((bif (decide (x9481 < 0)) then (bif (decide (ByteArray.size (ByteArray.mk #[45]) + ByteArray.size x9532 ≤ 9223372036854775807)) then some ((ByteArray.mk #[45]) ++ x9532) else none) else some x9532) : Option ByteArray).bind fun x9565 => some x9565))))))
def g_quirelaw09_alive (k : Nat) : Option Bool := ((g_dec_Make k 120 0).bind fun (x9593, x9594, x9595) => ((g_dec_Add k 1 (-1) 2 (-1)).bind fun (x9597, x9598, x9599) => ((g_dec_Div k 1 0 4 0).bind fun (x9601, x9602, x9603) => ((g_dec_Div k 1 0 3 0).bind fun (x9605, x9606, x9607) => ((g_dec_Div k 1 0 0 0).bind fun (x9609, x9610, x9611) => ((g_dec_Mod k (-7) 0 3 0).bind fun (x9613, x9614, x9615) => ((((some ((decide (x9594 = 12)) && ((decide (x9595 = 1)) && true))).bind fun x9634 => (bif x9634 then (bif (decide (x9593 = 0)) then ((some ((decide (x9598 = 3)) && ((decide (x9599 = (-1))) && true))).bind fun x9637 => (bif x9637 then (bif (decide (x9597 = 0)) then ((some ((decide (x9602 = 25)) && ((decide (x9603 = (-2))) && true))).bind fun x9640 => (bif x9640 then (bif (decide (x9601 = 0)) then (bif (decide (x9605 = 30)) then (bif (decide (x9609 = 31)) then ((some ((decide (x9614 = 2)) && ((decide (x9615 = 0)) && true))).bind fun x9645 => (bif x9645 then (bif (decide (x9613 = 0)) then ((g_dec_Print k 5 (-3)).bind fun x9649 => ((some (x9649.toList == (ByteArray.mk #[48, 46, 48, 48, 53]).toList)).bind fun x9650 => some x9650)) else some false) else some false)) else some false) else some false) else some false) else some false)) else some false) else some false)) else some false) else some false)) : Option Bool).bind fun x9633 => some x9633)))))))
def g_dec_lowest (k : Nat) (x9832 : Int) (x9833 : Int) (x9834 : Int) (x9835 : Int) : Option (Int × Int × Int) := ((g_dec_even k x9832 x9833 x9834 x9835).bind fun (x9899, x9900, x9901, x9902, x9903, x9904, x9905) => (bif (!x9899) then some (30, 0, 0) else (bif (decide (x9832 < 0)) then ((((g_dec_wide_cmp k x9900 x9901 x9903 x9904).bind fun x9937 => (bif (decide (0 ≤ x9937)) then ((g_dec_wide_less k x9900 x9901 x9903 x9904).bind fun _ => some ((decide (x9832 < 0)), (sub64 x9900 x9903 ((sub64 x9901 x9904 0).2)).1, (sub64 x9901 x9904 0).1)) else ((g_dec_wide_less k x9903 x9904 x9900 x9901).bind fun _ => some (false, (sub64 x9903 x9900 ((sub64 x9904 x9901 0).2)).1, (sub64 x9904 x9901 0).1)))) : Option (Bool × Int × Int)).bind fun (x9933, x9934, x9935) => ((g_dec_num_tell k x9933 x9934 x9935 x9902).bind fun (x9943, x9944, x9945) => some (x9943, x9944, x9945))) else ((g_dec_wide_plus k x9900 x9901 x9903 x9904).bind fun x9950 => (bif (!x9950) then some (30, 0, 0) else ((g_dec_num_tell k (decide (x9832 < 0)) ((add64 x9900 x9903 ((add64 x9901 x9904 0).2)).1) ((add64 x9901 x9904 0).1) x9902).bind fun (x9953, x9954, x9955) => some (x9953, x9954, x9955)))))))
def g_dec_Sub (k : Nat) (x9811 : Int) (x9812 : Int) (x9813 : Int) (x9814 : Int) : Option (Int × Int × Int) := ((g_dec_clean k x9811 x9812 x9813 x9814).bind fun (x9981, x9982, x9983, x9984, x9985) => (bif (!x9981) then some (1, 0, 0) else ((some (decide (x9984 = (-9223372036854775808)))).bind fun x9993 => (bif x9993 then ((g_dec_lowest k x9982 x9983 x9984 x9985).bind fun (x9996, x9997, x9998) => some (x9996, x9997, x9998)) else ((g_dec_Add k x9982 x9983 (IntKind.wrap .i64 (0 - x9984)) x9985).bind fun (x10000, x10001, x10002) => some (x10000, x10001, x10002))))))
def g_dec_sign (k : Nat) (x10406 : Int) (x10407 : Int) : Option Int := (bif (decide (x10406 < 0)) then some (-1) else (bif (decide (0 < x10406)) then some 1 else some 0))
def g_dec_digits_l0 (k : Nat) : Nat → Int → Int → Option Int
  | 0, _, _ => none
  | n + 1, x10455, x10456 => (bif (decide (0 < x10455)) then (g_dec_digits_l0 k n (IntKind.wrap .u64 (Int.tdiv x10455 10)) (IntKind.wrap .i64 (x10456 + 1))) else some x10456)
theorem g_dec_digits_l0_eqs : True := by have := @g_dec_digits_l0.eq_2; trivial
def g_dec_digits (k : Nat) (x10442 : Int) : Option Int := ((g_dec_digits_l0 k k x10442 0).bind fun x10459 => some x10459)
def g_dec_Cmp (k : Nat) (x10387 : Int) (x10388 : Int) (x10389 : Int) (x10390 : Int) : Option Int := ((g_dec_clean k x10387 x10388 x10389 x10390).bind fun (x10506, x10507, x10508, x10509, x10510) => (bif (!x10506) then some 0 else ((g_dec_sign k x10507 x10508).bind fun x10517 => ((g_dec_sign k x10509 x10510).bind fun x10519 => (((bif (!decide (x10517 = x10519)) then some true else some (decide (x10517 = 0))) : Option Bool).bind fun x10528 => (bif x10528 then ((some (if ((-1) : Int) > (IntKind.wrap .i64 (x10517 - x10519)) then ((-1) : Int) else (IntKind.wrap .i64 (x10517 - x10519)))).bind fun x10532 => ((some (if (1 : Int) < x10532 then (1 : Int) else x10532)).bind fun x10533 => some x10533)) else ((g_dec_size k x10507).bind fun x10543 => ((g_dec_digits k x10543).bind fun x10545 => ((g_dec_size k x10509).bind fun x10547 => ((g_dec_digits k x10547).bind fun x10549 => ((some (!decide ((IntKind.wrap .i64 (x10545 + x10508)) = (IntKind.wrap .i64 (x10549 + x10510))))).bind fun x10555 => (bif x10555 then ((some (IntKind.wrap .i64 ((IntKind.wrap .i64 (x10545 + x10508)) - (IntKind.wrap .i64 (x10549 + x10510))))).bind fun x10557 => ((some (if ((-1) : Int) > x10557 then ((-1) : Int) else x10557)).bind fun x10558 => ((some (if (1 : Int) < x10558 then (1 : Int) else x10558)).bind fun x10559 => some (IntKind.wrap .i64 (x10517 * x10559))))) else ((g_dec_even k x10507 x10508 x10509 x10510).bind fun (x10561, x10562, x10563, x10564, x10565, x10566, x10567) => ((g_dec_wide_cmp k x10562 x10563 x10565 x10566).bind fun x10569 => some (IntKind.wrap .i64 (x10517 * x10569))))))))))))))))
def g_dec_cut (k : Nat) (x10693 : Int) (x10694 : Int) : Option (Int × Int × Int) := ((g_dec_wide_tens k 0 1 x10694).bind fun (x10730, x10731, x10732) => (((bif (!x10730) then some true else some (decide (0 < x10731))) : Option Bool).bind fun x10741 => (bif x10741 then ((g_dec_size k x10693).bind fun x10746 => some (0, x10746, 0)) else ((g_dec_size k x10693).bind fun x10754 => (bif (!(x10732 == 0)) then ((g_dec_size k x10693).bind fun x10757 => (bif (!(x10732 == 0)) then some ((IntKind.wrap .u64 (Int.tdiv x10754 x10732)), (Int.tmod x10757 x10732), x10732) else none)) else none)))))
def g_dec_Right (k : Nat) (x11126 : Int) (x11127 : Int) : Option Bool := ((g_dec_of k x11126 x11127).bind fun x11149 => ((g_dec_num_tell k (decide (x11126 < 0)) 0 x11149 x11127).bind fun (x11151, x11152, x11153) => ((((g_dec_ranged k ([(⟨x11126, x11127⟩ : S_api_Dec)] : List S_api_Dec)).bind fun x11161 => (bif x11161 then (bif (decide (x11151 = 0)) then ((some ((decide (x11152 = x11126)) && ((decide (x11153 = x11127)) && true))).bind fun x11164 => some x11164) else some false) else some false)) : Option Bool).bind fun x11159 => some x11159)))
def g_dec_Sign (k : Nat) (x11216 : Int) (x11217 : Int) : Option Int := ((g_dec_Cmp k x11216 x11217 0 0).bind fun x11223 => some x11223)
def g_quirelaw09_DecLaws (k : Nat) (x11066 : Int) (x11067 : Int) (x11068 : Int) (x11069 : Int) : Option Bool := ((g_dec_Add k x11066 x11067 x11068 x11069).bind fun (x11283, x11284, x11285) => ((g_dec_Add k x11068 x11069 x11066 x11067).bind fun (x11287, x11288, x11289) => ((g_dec_Mul k x11066 x11067 x11068 x11069).bind fun (x11291, x11292, x11293) => ((g_dec_Mul k x11068 x11069 x11066 x11067).bind fun (x11295, x11296, x11297) => ((((some (!((decide (x11284 = x11288)) && ((decide (x11285 = x11289)) && true)))).bind fun x11326 => (bif x11326 then some true else (bif (!decide (x11283 = x11287)) then some true else ((some (!((decide (x11292 = x11296)) && ((decide (x11293 = x11297)) && true)))).bind fun x11329 => (bif x11329 then some true else (bif (!decide (x11291 = x11295)) then some true else ((g_quirelaw09_alive k).bind fun x11333 => some (!x11333)))))))) : Option Bool).bind fun x11325 => (bif x11325 then some false else (((bif (decide (x11283 = 0)) then ((g_dec_Right k x11284 x11285).bind fun x11365 => (bif (!x11365) then some (Sum.inl ()) else ((g_dec_Sub k x11284 x11285 x11068 x11069).bind fun (x11368, x11369, x11370) => ((g_dec_Make k x11066 x11067).bind fun (x11372, x11373, x11374) => (((bif (!decide (x11368 = 0)) then some true else (bif (!decide (x11372 = 0)) then some true else ((some (!((decide (x11369 = x11373)) && ((decide (x11370 = x11374)) && true)))).bind fun x11381 => some x11381))) : Option Bool).bind fun x11378 => (bif x11378 then some (Sum.inl ()) else some (Sum.inr ()))))))) else some (Sum.inr ())) : Option (Unit ⊕ Unit)).bind fun y11385 => match y11385 with | (Sum.inl _) => some false | (Sum.inr _) => (((bif (decide (x11291 = 0)) then ((g_dec_Sign k x11068 x11069).bind fun x11421 => some (!decide (x11421 = 0))) else some false) : Option Bool).bind fun x11418 => (bif x11418 then ((g_dec_Div k x11292 x11293 x11068 x11069).bind fun (x11425, x11426, x11427) => ((g_dec_Make k x11066 x11067).bind fun (x11429, x11430, x11431) => (((bif (decide (x11425 = 0)) then ((some ((decide (x11426 = x11430)) && ((decide (x11427 = x11431)) && true))).bind fun x11439 => (bif x11439 then ((g_dec_Right k x11292 x11293).bind fun x11442 => some x11442) else some false)) else some false) : Option Bool).bind fun x11437 => some x11437))) else some true)))))))))
end Go.Proofs.Ytdbeblgfccjbgaa.W
namespace Go.Proofs.Ytdbeblgfccjbgaa.W
open Go Go.Q Go.Proofs
set_option linter.unusedVariables false
set_option linter.unusedSimpArgs false
theorem g_dec_ranged_l0_mono {k k' : Nat} (hk : k ≤ k') {x18 : (List S_api_Dec)} : ∀ {n n' : Nat} (hn : n ≤ n') {y0 : Int}, Le (g_dec_ranged_l0 k x18 n y0) (g_dec_ranged_l0 k' x18 n' y0)
  | 0, _, _ => Le.none rfl
  | n + 1, 0, h => absurd h (Nat.not_succ_le_zero n)
  | n + 1, n' + 1, hn => by
    rw [g_dec_ranged_l0.eq_2, g_dec_ranged_l0.eq_2]
    repeat' first | (with_reducible exact Le.rfl) | (with_reducible exact g_dec_ranged_l0_eqs_mono hk) | (with_reducible exact g_dec_ranged_l0_mono hk (Nat.le_of_succ_le_succ hn)) | (with_reducible refine Le.bind ?_ ?_) | (with_reducible refine Le.cond ?_ ?_) | intro _ | split
theorem g_dec_ranged_mono {k k' : Nat} (hk : k ≤ k') {x18 : (List S_api_Dec)} : Le (g_dec_ranged k x18) (g_dec_ranged k' x18) := by
  unfold g_dec_ranged
  repeat' first | (with_reducible exact Le.rfl) | (with_reducible exact g_dec_ranged_l0_mono hk hk) | (with_reducible refine Le.bind ?_ ?_) | (with_reducible refine Le.cond ?_ ?_) | intro _ | split
theorem g_dec_size_mono {k k' : Nat} (hk : k ≤ k') {x111 : Int} : Le (g_dec_size k x111) (g_dec_size k' x111) := by
  unfold g_dec_size
  repeat' first | (with_reducible exact Le.rfl) | (with_reducible refine Le.bind ?_ ?_) | (with_reducible refine Le.cond ?_ ?_) | intro _ | split
theorem g_dec_of_mono {k k' : Nat} (hk : k ≤ k') {x108 : Int} {x109 : Int} : Le (g_dec_of k x108 x109) (g_dec_of k' x108 x109) := by
  unfold g_dec_of
  repeat' first | (with_reducible exact Le.rfl) | (with_reducible exact g_dec_size_mono hk) | (with_reducible refine Le.bind ?_ ?_) | (with_reducible refine Le.cond ?_ ?_) | intro _ | split
theorem g_dec_wide_zero_mono {k k' : Nat} (hk : k ≤ k') {x138 : Int} {x139 : Int} : Le (g_dec_wide_zero k x138 x139) (g_dec_wide_zero k' x138 x139) := by
  unfold g_dec_wide_zero
  repeat' first | (with_reducible exact Le.rfl) | (with_reducible refine Le.bind ?_ ?_) | (with_reducible refine Le.cond ?_ ?_) | intro _ | split
theorem g_math_bits_Len64_mono {k k' : Nat} (hk : k ≤ k') {x169 : Int} : Le (g_math_bits_Len64 k x169) (g_math_bits_Len64 k' x169) := by
  unfold g_math_bits_Len64
  repeat' first | (with_reducible exact Le.rfl) | (with_reducible refine Le.bind ?_ ?_) | (with_reducible refine Le.cond ?_ ?_) | intro _ | split
theorem g_math_bits_LeadingZeros64_mono {k k' : Nat} (hk : k ≤ k') {x167 : Int} : Le (g_math_bits_LeadingZeros64 k x167) (g_math_bits_LeadingZeros64 k' x167) := by
  unfold g_math_bits_LeadingZeros64
  repeat' first | (with_reducible exact Le.rfl) | (with_reducible exact g_math_bits_Len64_mono hk) | (with_reducible refine Le.bind ?_ ?_) | (with_reducible refine Le.cond ?_ ?_) | intro _ | split
theorem g_math_bits_Div64_l0_mono {k k' : Nat} (hk : k ≤ k') {x360 : Int} {x366 : Int} : ∀ {n n' : Nat} (hn : n ≤ n') {y0 : Int} {y1 : Int}, Le (g_math_bits_Div64_l0 k x360 x366 n y0 y1) (g_math_bits_Div64_l0 k' x360 x366 n' y0 y1)
  | 0, _, _ => Le.none rfl
  | n + 1, 0, h => absurd h (Nat.not_succ_le_zero n)
  | n + 1, n' + 1, hn => by
    rw [g_math_bits_Div64_l0.eq_2, g_math_bits_Div64_l0.eq_2]
    repeat' first | (with_reducible exact Le.rfl) | (with_reducible exact g_math_bits_Div64_l0_eqs_mono hk) | (with_reducible exact g_math_bits_Div64_l0_mono hk (Nat.le_of_succ_le_succ hn)) | (with_reducible refine Le.bind ?_ ?_) | (with_reducible refine Le.cond ?_ ?_) | intro _ | split
theorem g_math_bits_Div64_l1_mono {k k' : Nat} (hk : k ≤ k') {x360 : Int} {x366 : Int} : ∀ {n n' : Nat} (hn : n ≤ n') {y0 : Int} {y1 : Int}, Le (g_math_bits_Div64_l1 k x360 x366 n y0 y1) (g_math_bits_Div64_l1 k' x360 x366 n' y0 y1)
  | 0, _, _ => Le.none rfl
  | n + 1, 0, h => absurd h (Nat.not_succ_le_zero n)
  | n + 1, n' + 1, hn => by
    rw [g_math_bits_Div64_l1.eq_2, g_math_bits_Div64_l1.eq_2]
    repeat' first | (with_reducible exact Le.rfl) | (with_reducible exact g_math_bits_Div64_l1_eqs_mono hk) | (with_reducible exact g_math_bits_Div64_l1_mono hk (Nat.le_of_succ_le_succ hn)) | (with_reducible refine Le.bind ?_ ?_) | (with_reducible refine Le.cond ?_ ?_) | intro _ | split
theorem g_math_bits_Div64_mono {k k' : Nat} (hk : k ≤ k') {x149 : Int} {x150 : Int} {x151 : Int} : Le (g_math_bits_Div64 k x149 x150 x151) (g_math_bits_Div64 k' x149 x150 x151) := by
  unfold g_math_bits_Div64
  repeat' first | (with_reducible exact Le.rfl) | (with_reducible exact g_math_bits_LeadingZeros64_mono hk) | (with_reducible exact g_math_bits_Div64_l0_mono hk hk) | (with_reducible exact g_math_bits_Div64_l1_mono hk hk) | (with_reducible refine Le.bind ?_ ?_) | (with_reducible refine Le.cond ?_ ?_) | intro _ | split
theorem g_dec_wide_by_mono {k k' : Nat} (hk : k ≤ k') {x145 : Int} {x146 : Int} {x147 : Int} : Le (g_dec_wide_by k x145 x146 x147) (g_dec_wide_by k' x145 x146 x147) := by
  unfold g_dec_wide_by
  repeat' first | (with_reducible exact Le.rfl) | (with_reducible exact g_math_bits_Div64_mono hk) | (with_reducible refine Le.bind ?_ ?_) | (with_reducible refine Le.cond ?_ ?_) | intro _ | split
theorem g_math_bits_Mul64_mono {k k' : Nat} (hk : k ≤ k') {x604 : Int} {x605 : Int} : Le (g_math_bits_Mul64 k x604 x605) (g_math_bits_Mul64 k' x604 x605) := by
  unfold g_math_bits_Mul64
  repeat' first | (with_reducible exact Le.rfl) | (with_reducible refine Le.bind ?_ ?_) | (with_reducible refine Le.cond ?_ ?_) | intro _ | split
theorem g_dec_wide_times_mono {k k' : Nat} (hk : k ≤ k') {x600 : Int} {x601 : Int} {x602 : Int} : Le (g_dec_wide_times k x600 x601 x602) (g_dec_wide_times k' x600 x601 x602) := by
  unfold g_dec_wide_times
  repeat' first | (with_reducible exact Le.rfl) | (with_reducible exact g_math_bits_Mul64_mono hk) | (with_reducible refine Le.bind ?_ ?_) | (with_reducible refine Le.cond ?_ ?_) | intro _ | split
theorem g_dec_wide_tens_l0_mono {k k' : Nat} (hk : k ≤ k') {x580 : Int} : ∀ {n n' : Nat} (hn : n ≤ n') {y0 : Bool} {y1 : Int} {y2 : Int} {y3 : Int}, Le (g_dec_wide_tens_l0 k x580 n y0 y1 y2 y3) (g_dec_wide_tens_l0 k' x580 n' y0 y1 y2 y3)
  | 0, _, _ => Le.none rfl
  | n + 1, 0, h => absurd h (Nat.not_succ_le_zero n)
  | n + 1, n' + 1, hn => by
    rw [g_dec_wide_tens_l0.eq_2, g_dec_wide_tens_l0.eq_2]
    repeat' first | (with_reducible exact Le.rfl) | (with_reducible exact g_dec_wide_zero_mono hk) | (with_reducible exact g_dec_wide_times_mono hk) | (with_reducible exact g_dec_wide_tens_l0_eqs_mono hk) | (with_reducible exact g_dec_wide_tens_l0_mono hk (Nat.le_of_succ_le_succ hn)) | (with_reducible refine Le.bind ?_ ?_) | (with_reducible refine Le.cond ?_ ?_) | intro _ | split
theorem g_dec_wide_tens_mono {k k' : Nat} (hk : k ≤ k') {x578 : Int} {x579 : Int} {x580 : Int} : Le (g_dec_wide_tens k x578 x579 x580) (g_dec_wide_tens k' x578 x579 x580) := by
  unfold g_dec_wide_tens
  repeat' first | (with_reducible exact Le.rfl) | (with_reducible exact g_dec_wide_tens_l0_mono hk hk) | (with_reducible refine Le.bind ?_ ?_) | (with_reducible refine Le.cond ?_ ?_) | intro _ | split
theorem g_dec_num_tell_l0_mono {k k' : Nat} (hk : k ≤ k') : ∀ {n n' : Nat} (hn : n ≤ n') {y0 : Int} {y1 : Int} {y2 : Int} {y3 : Int} {y4 : Int} {y5 : Int}, Le (g_dec_num_tell_l0 k n y0 y1 y2 y3 y4 y5) (g_dec_num_tell_l0 k' n' y0 y1 y2 y3 y4 y5)
  | 0, _, _ => Le.none rfl
  | n + 1, 0, h => absurd h (Nat.not_succ_le_zero n)
  | n + 1, n' + 1, hn => by
    rw [g_dec_num_tell_l0.eq_2, g_dec_num_tell_l0.eq_2]
    repeat' first | (with_reducible exact Le.rfl) | (with_reducible exact g_dec_wide_by_mono hk) | (with_reducible exact g_dec_num_tell_l0_eqs_mono hk) | (with_reducible exact g_dec_num_tell_l0_mono hk (Nat.le_of_succ_le_succ hn)) | (with_reducible refine Le.bind ?_ ?_) | (with_reducible refine Le.cond ?_ ?_) | intro _ | split
theorem g_dec_num_tell_mono {k k' : Nat} (hk : k ≤ k') {x133 : Bool} {x134 : Int} {x135 : Int} {x136 : Int} : Le (g_dec_num_tell k x133 x134 x135 x136) (g_dec_num_tell k' x133 x134 x135 x136) := by
  unfold g_dec_num_tell
  repeat' first | (with_reducible exact Le.rfl) | (with_reducible exact g_dec_wide_zero_mono hk) | (with_reducible exact g_dec_wide_by_mono hk) | (with_reducible exact g_dec_num_tell_l0_mono hk hk) | (with_reducible exact g_dec_wide_tens_mono hk) | (with_reducible refine Le.bind ?_ ?_) | (with_reducible refine Le.cond ?_ ?_) | intro _ | split
theorem g_dec_clean_mono {k k' : Nat} (hk : k ≤ k') {x13 : Int} {x14 : Int} {x15 : Int} {x16 : Int} : Le (g_dec_clean k x13 x14 x15 x16) (g_dec_clean k' x13 x14 x15 x16) := by
  unfold g_dec_clean
  repeat' first | (with_reducible exact Le.rfl) | (with_reducible exact g_dec_ranged_mono hk) | (with_reducible exact g_dec_of_mono hk) | (with_reducible exact g_dec_num_tell_mono hk) | (with_reducible refine Le.bind ?_ ?_) | (with_reducible refine Le.cond ?_ ?_) | intro _ | split
theorem g_dec_factors_l0_mono {k k' : Nat} (hk : k ≤ k') {x1034 : Int} : ∀ {n n' : Nat} (hn : n ≤ n') {y0 : Int} {y1 : Int}, Le (g_dec_factors_l0 k x1034 n y0 y1) (g_dec_factors_l0 k' x1034 n' y0 y1)
  | 0, _, _ => Le.none rfl
  | n + 1, 0, h => absurd h (Nat.not_succ_le_zero n)
  | n + 1, n' + 1, hn => by
    rw [g_dec_factors_l0.eq_2, g_dec_factors_l0.eq_2]
    repeat' first | (with_reducible exact Le.rfl) | (with_reducible exact g_dec_factors_l0_eqs_mono hk) | (with_reducible exact g_dec_factors_l0_mono hk (Nat.le_of_succ_le_succ hn)) | (with_reducible refine Le.bind ?_ ?_) | (with_reducible refine Le.cond ?_ ?_) | intro _ | split
theorem g_dec_factors_mono {k k' : Nat} (hk : k ≤ k') {x1033 : Int} {x1034 : Int} : Le (g_dec_factors k x1033 x1034) (g_dec_factors k' x1033 x1034) := by
  unfold g_dec_factors
  repeat' first | (with_reducible exact Le.rfl) | (with_reducible exact g_dec_factors_l0_mono hk hk) | (with_reducible refine Le.bind ?_ ?_) | (with_reducible refine Le.cond ?_ ?_) | intro _ | split
theorem g_dec_Div_l0_mono {k k' : Nat} (hk : k ≤ k') : ∀ {n n' : Nat} (hn : n ≤ n') {y0 : Int} {y1 : Int}, Le (g_dec_Div_l0 k n y0 y1) (g_dec_Div_l0 k' n' y0 y1)
  | 0, _, _ => Le.none rfl
  | n + 1, 0, h => absurd h (Nat.not_succ_le_zero n)
  | n + 1, n' + 1, hn => by
    rw [g_dec_Div_l0.eq_2, g_dec_Div_l0.eq_2]
    repeat' first | (with_reducible exact Le.rfl) | (with_reducible exact g_dec_Div_l0_eqs_mono hk) | (with_reducible exact g_dec_Div_l0_mono hk (Nat.le_of_succ_le_succ hn)) | (with_reducible refine Le.bind ?_ ?_) | (with_reducible refine Le.cond ?_ ?_) | intro _ | split
theorem g_dec_Div_l1_mono {k k' : Nat} (hk : k ≤ k') {x1222 : Int} {x1229 : Int} : ∀ {n n' : Nat} (hn : n ≤ n') {y0 : Bool} {y1 : Int} {y2 : Int} {y3 : Int}, Le (g_dec_Div_l1 k x1222 x1229 n y0 y1 y2 y3) (g_dec_Div_l1 k' x1222 x1229 n' y0 y1 y2 y3)
  | 0, _, _ => Le.none rfl
  | n + 1, 0, h => absurd h (Nat.not_succ_le_zero n)
  | n + 1, n' + 1, hn => by
    rw [g_dec_Div_l1.eq_2, g_dec_Div_l1.eq_2]
    repeat' first | (with_reducible exact Le.rfl) | (with_reducible exact g_dec_wide_times_mono hk) | (with_reducible exact g_dec_Div_l1_eqs_mono hk) | (with_reducible exact g_dec_Div_l1_mono hk (Nat.le_of_succ_le_succ hn)) | (with_reducible refine Le.bind ?_ ?_) | (with_reducible refine Le.cond ?_ ?_) | intro _ | split
theorem g_dec_Div_l2_mono {k k' : Nat} (hk : k ≤ k') {x1225 : Int} {x1229 : Int} : ∀ {n n' : Nat} (hn : n ≤ n') {y0 : Bool} {y1 : Int} {y2 : Int} {y3 : Int}, Le (g_dec_Div_l2 k x1225 x1229 n y0 y1 y2 y3) (g_dec_Div_l2 k' x1225 x1229 n' y0 y1 y2 y3)
  | 0, _, _ => Le.none rfl
  | n + 1, 0, h => absurd h (Nat.not_succ_le_zero n)
  | n + 1, n' + 1, hn => by
    rw [g_dec_Div_l2.eq_2, g_dec_Div_l2.eq_2]
    repeat' first | (with_reducible exact Le.rfl) | (with_reducible exact g_dec_wide_times_mono hk) | (with_reducible exact g_dec_Div_l2_eqs_mono hk) | (with_reducible exact g_dec_Div_l2_mono hk (Nat.le_of_succ_le_succ hn)) | (with_reducible refine Le.bind ?_ ?_) | (with_reducible refine Le.cond ?_ ?_) | intro _ | split
theorem g_dec_Div_mono {k k' : Nat} (hk : k ≤ k') {x8 : Int} {x9 : Int} {x10 : Int} {x11 : Int} : Le (g_dec_Div k x8 x9 x10 x11) (g_dec_Div k' x8 x9 x10 x11) := by
  unfold g_dec_Div
  repeat' first | (with_reducible exact Le.rfl) | (with_reducible exact g_dec_clean_mono hk) | (with_reducible exact g_dec_size_mono hk) | (with_reducible exact g_dec_Div_l0_mono hk hk) | (with_reducible exact g_dec_factors_mono hk) | (with_reducible exact g_dec_Div_l1_mono hk hk) | (with_reducible exact g_dec_Div_l2_mono hk hk) | (with_reducible exact g_dec_num_tell_mono hk) | (with_reducible refine Le.bind ?_ ?_) | (with_reducible refine Le.cond ?_ ?_) | intro _ | split
theorem g_dec_wide_cmp_mono {k k' : Nat} (hk : k ≤ k') {x4385 : Int} {x4386 : Int} {x4387 : Int} {x4388 : Int} : Le (g_dec_wide_cmp k x4385 x4386 x4387 x4388) (g_dec_wide_cmp k' x4385 x4386 x4387 x4388) := by
  unfold g_dec_wide_cmp
  repeat' first | (with_reducible exact Le.rfl) | (with_reducible refine Le.bind ?_ ?_) | (with_reducible refine Le.cond ?_ ?_) | intro _ | split
theorem g_dec_left_l0_mono {k k' : Nat} (hk : k ≤ k') {x4310 : Int} {x4313 : Int} {x4314 : Int} : ∀ {n n' : Nat} (hn : n ≤ n') {y0 : Int} {y1 : Int}, Le (g_dec_left_l0 k x4310 x4313 x4314 n y0 y1) (g_dec_left_l0 k' x4310 x4313 x4314 n' y0 y1)
  | 0, _, _ => Le.none rfl
  | n + 1, 0, h => absurd h (Nat.not_succ_le_zero n)
  | n + 1, n' + 1, hn => by
    rw [g_dec_left_l0.eq_2, g_dec_left_l0.eq_2]
    repeat' first | (with_reducible exact Le.rfl) | (with_reducible exact g_math_bits_Mul64_mono hk) | (with_reducible exact g_math_bits_Div64_mono hk) | (with_reducible exact g_dec_left_l0_eqs_mono hk) | (with_reducible exact g_dec_left_l0_mono hk (Nat.le_of_succ_le_succ hn)) | (with_reducible refine Le.bind ?_ ?_) | (with_reducible refine Le.cond ?_ ?_) | intro _ | split
theorem g_dec_left_mono {k k' : Nat} (hk : k ≤ k') {x4307 : Bool} {x4308 : Int} {x4309 : Int} {x4310 : Int} {x4311 : Bool} {x4312 : Int} {x4313 : Int} {x4314 : Int} : Le (g_dec_left k x4307 x4308 x4309 x4310 x4311 x4312 x4313 x4314) (g_dec_left k' x4307 x4308 x4309 x4310 x4311 x4312 x4313 x4314) := by
  unfold g_dec_left
  repeat' first | (with_reducible exact Le.rfl) | (with_reducible exact g_dec_left_l0_mono hk hk) | (with_reducible exact g_dec_wide_tens_mono hk) | (with_reducible exact g_dec_wide_cmp_mono hk) | (with_reducible refine Le.bind ?_ ?_) | (with_reducible refine Le.cond ?_ ?_) | intro _ | split
theorem g_dec_even_mono {k k' : Nat} (hk : k ≤ k') {x4695 : Int} {x4696 : Int} {x4697 : Int} {x4698 : Int} : Le (g_dec_even k x4695 x4696 x4697 x4698) (g_dec_even k' x4695 x4696 x4697 x4698) := by
  unfold g_dec_even
  repeat' first | (with_reducible exact Le.rfl) | (with_reducible exact g_dec_of_mono hk) | (with_reducible exact g_dec_wide_zero_mono hk) | (with_reducible exact g_dec_wide_tens_mono hk) | (with_reducible refine Le.bind ?_ ?_) | (with_reducible refine Le.cond ?_ ?_) | intro _ | split
theorem g_dec_wide_plus_mono {k k' : Nat} (hk : k ≤ k') {x5052 : Int} {x5053 : Int} {x5054 : Int} {x5055 : Int} : Le (g_dec_wide_plus k x5052 x5053 x5054 x5055) (g_dec_wide_plus k' x5052 x5053 x5054 x5055) := by
  unfold g_dec_wide_plus
  repeat' first | (with_reducible exact Le.rfl) | (with_reducible refine Le.bind ?_ ?_) | (with_reducible refine Le.cond ?_ ?_) | intro _ | split
theorem g_dec_wide_less_mono {k k' : Nat} (hk : k ≤ k') {x5067 : Int} {x5068 : Int} {x5069 : Int} {x5070 : Int} : Le (g_dec_wide_less k x5067 x5068 x5069 x5070) (g_dec_wide_less k' x5067 x5068 x5069 x5070) := by
  unfold g_dec_wide_less
  repeat' first | (with_reducible exact Le.rfl) | (with_reducible refine Le.bind ?_ ?_) | (with_reducible refine Le.cond ?_ ?_) | intro _ | split
theorem g_dec_Add_mono {k k' : Nat} (hk : k ≤ k') {x4676 : Int} {x4677 : Int} {x4678 : Int} {x4679 : Int} : Le (g_dec_Add k x4676 x4677 x4678 x4679) (g_dec_Add k' x4676 x4677 x4678 x4679) := by
  unfold g_dec_Add
  repeat' first | (with_reducible exact Le.rfl) | (with_reducible exact g_dec_clean_mono hk) | (with_reducible exact g_dec_even_mono hk) | (with_reducible exact g_dec_wide_plus_mono hk) | (with_reducible exact g_dec_wide_cmp_mono hk) | (with_reducible exact g_dec_wide_less_mono hk) | (with_reducible exact g_dec_num_tell_mono hk) | (with_reducible refine Le.bind ?_ ?_) | (with_reducible refine Le.cond ?_ ?_) | intro _ | split
theorem g_dec_Mod_mono {k k' : Nat} (hk : k ≤ k') {x4282 : Int} {x4283 : Int} {x4284 : Int} {x4285 : Int} : Le (g_dec_Mod k x4282 x4283 x4284 x4285) (g_dec_Mod k' x4282 x4283 x4284 x4285) := by
  unfold g_dec_Mod
  repeat' first | (with_reducible exact Le.rfl) | (with_reducible exact g_dec_clean_mono hk) | (with_reducible exact g_dec_of_mono hk) | (with_reducible exact g_dec_left_mono hk) | (with_reducible exact g_dec_num_tell_mono hk) | (with_reducible exact g_dec_Add_mono hk) | (with_reducible refine Le.bind ?_ ?_) | (with_reducible refine Le.cond ?_ ?_) | intro _ | split
theorem g_dec_clean__b_mono {k k' : Nat} (hk : k ≤ k') {x5652 : Int} {x5653 : Int} : Le (g_dec_clean__b k x5652 x5653) (g_dec_clean__b k' x5652 x5653) := by
  unfold g_dec_clean__b
  repeat' first | (with_reducible exact Le.rfl) | (with_reducible exact g_dec_ranged_mono hk) | (with_reducible exact g_dec_of_mono hk) | (with_reducible exact g_dec_num_tell_mono hk) | (with_reducible refine Le.bind ?_ ?_) | (with_reducible refine Le.cond ?_ ?_) | intro _ | split
theorem g_dec_Make_mono {k k' : Nat} (hk : k ≤ k') {x8742 : Int} {x8743 : Int} : Le (g_dec_Make k x8742 x8743) (g_dec_Make k' x8742 x8743) := by
  unfold g_dec_Make
  repeat' first | (with_reducible exact Le.rfl) | (with_reducible exact g_dec_size_mono hk) | (with_reducible exact g_dec_num_tell_mono hk) | (with_reducible refine Le.bind ?_ ?_) | (with_reducible refine Le.cond ?_ ?_) | intro _ | split
theorem g_math_bits_Mul_mono {k k' : Nat} (hk : k ≤ k') {x8866 : Int} {x8867 : Int} : Le (g_math_bits_Mul k x8866 x8867) (g_math_bits_Mul k' x8866 x8867) := by
  unfold g_math_bits_Mul
  repeat' first | (with_reducible exact Le.rfl) | (with_reducible exact g_math_bits_Mul64_mono hk) | (with_reducible refine Le.bind ?_ ?_) | (with_reducible refine Le.cond ?_ ?_) | intro _ | split
theorem g_internal_stringslite_HasPrefix_mono {k k' : Nat} (hk : k ≤ k') {x8911 : ByteArray} {x8912 : ByteArray} : Le (g_internal_stringslite_HasPrefix k x8911 x8912) (g_internal_stringslite_HasPrefix k' x8911 x8912) := by
  unfold g_internal_stringslite_HasPrefix
  repeat' first | (with_reducible exact Le.rfl) | (with_reducible refine Le.bind ?_ ?_) | (with_reducible refine Le.cond ?_ ?_) | intro _ | split
theorem g_strings_HasPrefix_mono {k k' : Nat} (hk : k ≤ k') {x8908 : ByteArray} {x8909 : ByteArray} : Le (g_strings_HasPrefix k x8908 x8909) (g_strings_HasPrefix k' x8908 x8909) := by
  unfold g_strings_HasPrefix
  repeat' first | (with_reducible exact Le.rfl) | (with_reducible exact g_internal_stringslite_HasPrefix_mono hk) | (with_reducible refine Le.bind ?_ ?_) | (with_reducible refine Le.cond ?_ ?_) | intro _ | split
theorem g_strings_Builder_copyCheck_mono {k k' : Nat} (hk : k ≤ k') : Le (g_strings_Builder_copyCheck k) (g_strings_Builder_copyCheck k') := by
  unfold g_strings_Builder_copyCheck
  repeat' first | (with_reducible exact Le.rfl) | (with_reducible refine Le.bind ?_ ?_) | (with_reducible refine Le.cond ?_ ?_) | intro _ | split
theorem g_strings_Builder_grow_mono {k k' : Nat} (hk : k ≤ k') {x9085 : Int} : Le (g_strings_Builder_grow k x9085) (g_strings_Builder_grow k' x9085) := by
  unfold g_strings_Builder_grow
  repeat' first | (with_reducible exact Le.rfl) | (with_reducible refine Le.bind ?_ ?_) | (with_reducible refine Le.cond ?_ ?_) | intro _ | split
theorem g_strings_Builder_Grow_mono {k k' : Nat} (hk : k ≤ k') {x9076 : Int} : Le (g_strings_Builder_Grow k x9076) (g_strings_Builder_Grow k' x9076) := by
  unfold g_strings_Builder_Grow
  repeat' first | (with_reducible exact Le.rfl) | (with_reducible exact g_strings_Builder_copyCheck_mono hk) | (with_reducible exact g_strings_Builder_grow_mono hk) | (with_reducible refine Le.bind ?_ ?_) | (with_reducible refine Le.cond ?_ ?_) | intro _ | split
theorem g_strings_Builder_copyCheck__b_mono {k k' : Nat} (hk : k ≤ k') {x9117 : (List Int)} : Le (g_strings_Builder_copyCheck__b k x9117) (g_strings_Builder_copyCheck__b k' x9117) := by
  unfold g_strings_Builder_copyCheck__b
  repeat' first | (with_reducible exact Le.rfl) | (with_reducible refine Le.bind ?_ ?_) | (with_reducible refine Le.cond ?_ ?_) | intro _ | split
theorem g_strings_Builder_WriteString_mono {k k' : Nat} (hk : k ≤ k') {x9114 : ByteArray} {x9115 : (List Int)} : Le (g_strings_Builder_WriteString k x9114 x9115) (g_strings_Builder_WriteString k' x9114 x9115) := by
  unfold g_strings_Builder_WriteString
  repeat' first | (with_reducible exact Le.rfl) | (with_reducible exact g_strings_Builder_copyCheck__b_mono hk) | (with_reducible refine Le.bind ?_ ?_) | (with_reducible refine Le.cond ?_ ?_) | intro _ | split
theorem g_strings_Builder_Len_mono {k k' : Nat} (hk : k ≤ k') {x9124 : (List Int)} : Le (g_strings_Builder_Len k x9124) (g_strings_Builder_Len k' x9124) := by
  unfold g_strings_Builder_Len
  repeat' first | (with_reducible exact Le.rfl) | (with_reducible refine Le.bind ?_ ?_) | (with_reducible refine Le.cond ?_ ?_) | intro _ | split
theorem g_strings_Builder_String_mono {k k' : Nat} (hk : k ≤ k') {x9137 : (List Int)} : Le (g_strings_Builder_String k x9137) (g_strings_Builder_String k' x9137) := by
  unfold g_strings_Builder_String
  repeat' first | (with_reducible exact Le.rfl) | (with_reducible refine Le.bind ?_ ?_) | (with_reducible refine Le.cond ?_ ?_) | intro _ | split
theorem g_strings_Repeat_l0_mono {k k' : Nat} (hk : k ≤ k') {x9196 : Int} {x9343 : Int} : ∀ {n n' : Nat} (hn : n ≤ n') {y0 : (List Int)}, Le (g_strings_Repeat_l0 k x9196 x9343 n y0) (g_strings_Repeat_l0 k' x9196 x9343 n' y0)
  | 0, _, _ => Le.none rfl
  | n + 1, 0, h => absurd h (Nat.not_succ_le_zero n)
  | n + 1, n' + 1, hn => by
    rw [g_strings_Repeat_l0.eq_2, g_strings_Repeat_l0.eq_2]
    repeat' first | (with_reducible exact Le.rfl) | (with_reducible exact g_strings_Builder_Len_mono hk) | (with_reducible exact g_strings_Builder_String_mono hk) | (with_reducible exact g_strings_Builder_WriteString_mono hk) | (with_reducible exact g_strings_Repeat_l0_eqs_mono hk) | (with_reducible exact g_strings_Repeat_l0_mono hk (Nat.le_of_succ_le_succ hn)) | (with_reducible refine Le.bind ?_ ?_) | (with_reducible refine Le.cond ?_ ?_) | intro _ | split
theorem g_strings_Repeat_mono {k k' : Nat} (hk : k ≤ k') {x8856 : ByteArray} {x8857 : Int} : Le (g_strings_Repeat k x8856 x8857) (g_strings_Repeat k' x8856 x8857) := by
  unfold g_strings_Repeat
  repeat' first | (with_reducible exact Le.rfl) | (with_reducible exact g_math_bits_Mul_mono hk) | (with_reducible exact g_strings_HasPrefix_mono hk) | (with_reducible exact g_strings_Builder_Grow_mono hk) | (with_reducible exact g_strings_Builder_WriteString_mono hk) | (with_reducible exact g_strings_Repeat_l0_mono hk hk) | (with_reducible exact g_strings_Builder_String_mono hk) | (with_reducible refine Le.bind ?_ ?_) | (with_reducible refine Le.cond ?_ ?_) | intro _ | split
theorem g_dec_Print_l0_mono {k k' : Nat} (hk : k ≤ k') : ∀ {n n' : Nat} (hn : n ≤ n') {y0 : ByteArray} {y1 : Int}, Le (g_dec_Print_l0 k n y0 y1) (g_dec_Print_l0 k' n' y0 y1)
  | 0, _, _ => Le.none rfl
  | n + 1, 0, h => absurd h (Nat.not_succ_le_zero n)
  | n + 1, n' + 1, hn => by
    rw [g_dec_Print_l0.eq_2, g_dec_Print_l0.eq_2]
    repeat' first | (with_reducible exact Le.rfl) | (with_reducible exact g_dec_Print_l0_eqs_mono hk) | (with_reducible exact g_dec_Print_l0_mono hk (Nat.le_of_succ_le_succ hn)) | (with_reducible refine Le.bind ?_ ?_) | (with_reducible refine Le.cond ?_ ?_) | intro _ | split
theorem g_dec_Print_mono {k k' : Nat} (hk : k ≤ k') {x8826 : Int} {x8827 : Int} : Le (g_dec_Print k x8826 x8827) (g_dec_Print k' x8826 x8827) := by
  unfold g_dec_Print
  repeat' first | (with_reducible exact Le.rfl) | (with_reducible exact g_dec_clean__b_mono hk) | (with_reducible exact g_dec_size_mono hk) | (with_reducible exact g_dec_Print_l0_mono hk hk) | (with_reducible exact g_strings_Repeat_mono hk) | (with_reducible refine Le.bind ?_ ?_) | (with_reducible refine Le.cond ?_ ?_) | intro _ | split
theorem g_quirelaw09_alive_mono {k k' : Nat} (hk : k ≤ k') : Le (g_quirelaw09_alive k) (g_quirelaw09_alive k') := by
  unfold g_quirelaw09_alive
  repeat' first | (with_reducible exact Le.rfl) | (with_reducible exact g_dec_Make_mono hk) | (with_reducible exact g_dec_Add_mono hk) | (with_reducible exact g_dec_Div_mono hk) | (with_reducible exact g_dec_Mod_mono hk) | (with_reducible exact g_dec_Print_mono hk) | (with_reducible refine Le.bind ?_ ?_) | (with_reducible refine Le.cond ?_ ?_) | intro _ | split
end Go.Proofs.Ytdbeblgfccjbgaa.W
set_option linter.unusedVariables false
set_option linter.unusedSimpArgs false
namespace Go.Dz
/-- A number, 10 to the 500000 times it. -/
def val (m e : Int) : Int := m * 10 ^ (e + 500000).toNat
theorem p10 (n : Nat) : (0 : Int) < 10 ^ n := Int.pow_pos (by decide)
theorem val_shift {m e : Int} {j : Nat} (he : -500000 ≤ e) : val (m * 10 ^ j) e = val m (e + j) := by
  unfold val
  rw [Int.mul_assoc, ← Int.pow_add, show j + (e + 500000).toNat = (e + j + 500000).toNat by omega]
theorem val_inj {m m' e : Int} (h : val m e = val m' e) : m = m' := by
  unfold val at h
  exact Int.eq_of_mul_eq_mul_right (Int.ne_of_gt (p10 _)) h
theorem val_zero {e : Int} : val 0 e = 0 := by simp [val]
theorem val_eq_zero {m e : Int} (h : val m e = 0) : m = 0 := by
  unfold val at h
  rcases Int.mul_eq_zero.1 h with h | h
  · exact h
  · exact absurd h (Int.ne_of_gt (p10 _))
theorem val_neg {m e : Int} : val (-m) e = - val m e := by simp [val, Int.neg_mul]
theorem val_add {m m' e : Int} : val (m + m') e = val m e + val m' e := by simp [val, Int.add_mul]
theorem val_sub {m m' e : Int} : val (m - m') e = val m e - val m' e := by simp [val, Int.sub_mul]
theorem val_lt {m m' e : Int} : val m e < val m' e ↔ m < m' := by
  unfold val
  exact ⟨fun h => Int.lt_of_mul_lt_mul_right h (Int.le_of_lt (p10 _)), fun h => Int.mul_lt_mul_of_pos_right h (p10 _)⟩
/-- Two numbers that are equal: one has noughts more. -/
theorem val_rep {m m' e e' : Int} (he : -500000 ≤ e) (hle : e ≤ e') (h : val m e = val m' e') : m = m' * 10 ^ (e' - e).toNat := by
  have h1 := val_shift (m := m') (e := e) (j := (e' - e).toNat) he
  rw [show e + ((e' - e).toNat : Int) = e' by omega, ← h] at h1
  exact (val_inj h1).symm
/-- What a Dec may be. -/
def Canon (c x : Int) : Prop := (c = 0 ∧ x = 0) ∨ (c ≠ 0 ∧ -18 ≤ x ∧ x ≤ 18 ∧ -9223372036854775808 ≤ c ∧ c ≤ 9223372036854775807 ∧ (x = 18 ∨ ¬ (10 : Int) ∣ c))
theorem Canon.rng {c x : Int} (h : Canon c x) : -18 ≤ x ∧ x ≤ 18 ∧ -9223372036854775808 ≤ c ∧ c ≤ 9223372036854775807 := by
  rcases h with ⟨rfl, rfl⟩ | ⟨_, h1, h2, h3, h4, _⟩ <;> omega
theorem dvd_pow10 {m : Int} {n : Nat} (h : n ≠ 0) : (10 : Int) ∣ m * 10 ^ n := by
  obtain ⟨k, rfl⟩ : ∃ k, n = k + 1 := ⟨n - 1, by omega⟩
  exact ⟨m * 10 ^ k, by rw [Int.pow_succ]; rw [← Int.mul_assoc, Int.mul_comm]⟩
theorem Canon.uniq' {c x c' x' : Int} (h : Canon c x) (h' : Canon c' x') (hle : x ≤ x') (e : val c x = val c' x') : c = c' ∧ x = x' := by
  have r := h.rng
  have e1 := val_rep (by omega) hle e
  by_cases hc : c = 0
  · subst hc
    rw [val_zero] at e
    have hc' := val_eq_zero e.symm
    subst hc'
    rcases h with ⟨_, hx⟩ | ⟨h0, _⟩
    · rcases h' with ⟨_, hx'⟩ | ⟨h0, _⟩
      · exact ⟨rfl, by omega⟩
      · exact absurd rfl h0
    · exact absurd rfl h0
  · have hc' : c' ≠ 0 := by rintro rfl; simp at e1; exact hc e1
    by_cases hx : x = x'
    · subst hx
      exact ⟨val_inj e, rfl⟩
    · have h10 : (10 : Int) ∣ c := by rw [e1]; exact dvd_pow10 (by omega)
      have r' := h'.rng
      rcases h with ⟨h0, _⟩ | ⟨_, _, _, _, _, h5 | h5⟩
      · exact absurd h0 hc
      · omega
      · exact absurd h10 h5
theorem Canon.uniq {c x c' x' : Int} (h : Canon c x) (h' : Canon c' x') (e : val c x = val c' x') : c = c' ∧ x = x' := by
  by_cases hle : x ≤ x'
  · exact h.uniq' h' hle e
  · obtain ⟨h1, h2⟩ := h'.uniq' h (by omega) e.symm
    exact ⟨h1.symm, h2.symm⟩
/-- The right Dec of a number, or that there is none. -/
def Tells (p : Int → Prop) (r : (Int × Int) × Int) : Prop :=
  (r.2 = 0 ∧ Canon r.1.1 r.1.2 ∧ p (val r.1.1 r.1.2)) ∨ (r = ((0, 0), 30) ∧ ∀ c x, Canon c x → ¬ p (val c x))
theorem Tells.uniq {p : Int → Prop} {r r' : (Int × Int) × Int} (hp : ∀ a b, p a → p b → a = b) (h : Tells p r) (h' : Tells p r') : r = r' := by
  obtain ⟨⟨c, x⟩, e⟩ := r
  obtain ⟨⟨c', x'⟩, e'⟩ := r'
  rcases h with ⟨h1, h2, h3⟩ | ⟨h1, h2⟩
  · rcases h' with ⟨k1, k2, k3⟩ | ⟨k1, k2⟩
    · have := h2.uniq k2 (hp _ _ h3 k3)
      simp only at h1 k1 this
      rw [h1, k1, this.1, this.2]
    · exact absurd h3 (k2 _ _ h2)
  · rcases h' with ⟨k1, k2, k3⟩ | ⟨k1, k2⟩
    · exact absurd k3 (h2 _ _ k2)
    · rw [h1, k1]
theorem Tells.congr {p q : Int → Prop} {r : (Int × Int) × Int} (h : Tells p r) (hq : ∀ a, p a ↔ q a) : Tells q r := by
  rcases h with ⟨h1, h2, h3⟩ | ⟨h1, h2⟩
  · exact .inl ⟨h1, h2, (hq _).1 h3⟩
  · exact .inr ⟨h1, fun c x hc hn => h2 c x hc ((hq _).2 hn)⟩
/-- The Decs of a number whose last digit is not nought. -/
theorem canon_iff {m e c x : Int} (hm : m ≠ 0) (hd : ¬ (10 : Int) ∣ m) (he : -500000 ≤ e) : (Canon c x ∧ val c x = val m e) ↔ (x = (if e > 18 then 18 else e) ∧ c = m * 10 ^ (e - x).toNat ∧ -18 ≤ x ∧ -9223372036854775808 ≤ c ∧ c ≤ 9223372036854775807) := by
  constructor
  · rintro ⟨h, e1⟩
    have r := h.rng
    have hc : c ≠ 0 := by
      rintro rfl
      rw [val_zero] at e1
      exact hm (val_eq_zero e1.symm)
    by_cases hle : x ≤ e
    · have e2 := val_rep (by omega) hle e1
      refine ⟨?_, e2, by omega, by omega, by omega⟩
      by_cases hxe : x = e
      · rw [if_neg (by omega), hxe]
      · have h10 : (10 : Int) ∣ c := by rw [e2]; exact dvd_pow10 (by omega)
        rcases h with ⟨h0, _⟩ | ⟨_, _, _, _, _, h5 | h5⟩
        · exact absurd h0 hc
        · rw [if_pos (by omega), h5]
        · exact absurd h10 h5
    · have e2 := val_rep he (by omega) e1.symm
      exact absurd (by rw [e2]; exact dvd_pow10 (by omega)) hd
  · rintro ⟨h1, h2, h3, h4, h5⟩
    have hx : x ≤ e := by split at h1 <;> omega
    have e1 : val c x = val m e := by
      rw [h2, val_shift (by omega), show x + ((e - x).toNat : Int) = e by omega]
    refine ⟨?_, e1⟩
    have hc : c ≠ 0 := by
      rintro rfl
      rw [val_zero] at e1
      exact hm (val_eq_zero e1.symm)
    refine .inr ⟨hc, h3, by split at h1 <;> omega, h4, h5, ?_⟩
    split at h1
    · exact .inl h1
    · refine .inr ?_
      subst h1
      rw [h2]
      simpa using hd
theorem tells_some {m e c x : Int} (hm : m ≠ 0) (hd : ¬ (10 : Int) ∣ m) (he : -500000 ≤ e) (h : x = (if e > 18 then 18 else e) ∧ c = m * 10 ^ (e - x).toNat ∧ -18 ≤ x ∧ -9223372036854775808 ≤ c ∧ c ≤ 9223372036854775807) : Tells (· = val m e) ((c, x), 0) :=
  .inl ⟨rfl, (canon_iff hm hd he).2 h⟩
theorem tells_none {m e : Int} (hm : m ≠ 0) (hd : ¬ (10 : Int) ∣ m) (he : -500000 ≤ e) (h : e < -18 ∨ ¬ (-9223372036854775808 ≤ m * 10 ^ (e - 18).toNat ∧ m * 10 ^ (e - 18).toNat ≤ 9223372036854775807)) : Tells (· = val m e) ((0, 0), 30) := by
  refine .inr ⟨rfl, fun c x hc e1 => ?_⟩
  obtain ⟨h1, h2, h3, h4, h5⟩ := (canon_iff hm hd he).1 ⟨hc, e1⟩
  split at h1
  · subst h1
    rw [h2] at h4 h5
    omega
  · subst h1
    have : (x - 18).toNat = 0 := by omega
    rw [this] at h
    simp at h h2
    omega
theorem tells_zero {e : Int} : Tells (· = val 0 e) ((0, 0), 0) := .inl ⟨rfl, .inl ⟨rfl, rfl⟩, by simp [val_zero]⟩
/-- A whole number of sixty-four bits. -/
def I64 (c : Int) : Prop := -9223372036854775808 ≤ c ∧ c ≤ 9223372036854775807
/-- The exponents that may be. -/
def Rng (e : Int) : Prop := -18 ≤ e ∧ e ≤ 18
instance (e : Int) : Decidable (Rng e) := by unfold Rng; infer_instance
theorem Canon.i64 {c x : Int} (h : Canon c x) : I64 c := ⟨h.rng.2.2.1, h.rng.2.2.2⟩
theorem Canon.rg {c x : Int} (h : Canon c x) : Rng x := ⟨h.rng.1, h.rng.2.1⟩
end Go.Dz
namespace Go.Dz
theorem est_le {B y u d q r : Nat} (hB : 0 < B) (hy : 0 < y) (hq : q * (y / B) + r = u) (h : q * (y % B) ≤ B * r + d) : q ≤ (u * B + d) / y := by
  rw [Nat.le_div_iff_mul_le hy]
  have e : y = y / B * B + y % B := (Nat.div_add_mod' y B).symm
  have : q * y = q * (y / B) * B + q * (y % B) := by
    conv => lhs; rw [e]
    rw [Nat.mul_add, Nat.mul_assoc]
  rw [this, ← hq, Nat.add_mul, Nat.mul_comm r B]
  omega
theorem est_gt {B y u d q r : Nat} (hB : 0 < B) (hu : u < y) (hd : d < B) (hq : q * (y / B) + r = u) (h : B ≤ q ∨ B * r + d < q * (y % B)) : (u * B + d) / y < q := by
  rw [Nat.div_lt_iff_lt_mul (by omega)]
  rcases h with h | h
  · have h1 : (u + 1) * B ≤ y * B := Nat.mul_le_mul_right B hu
    have h2 : B * y ≤ q * y := Nat.mul_le_mul_right y h
    rw [Nat.add_mul, Nat.mul_comm y B] at h1
    omega
  · have e : y = y / B * B + y % B := (Nat.div_add_mod' y B).symm
    have : q * y = q * (y / B) * B + q * (y % B) := by
      conv => lhs; rw [e]
      rw [Nat.mul_add, Nat.mul_assoc]
    rw [this, ← hq, Nat.add_mul, Nat.mul_comm r B]
    omega
theorem est_stop {B y u d q r : Nat} (hB : 0 < B) (hy : 0 < y) (hq : q * (y / B) + r = u) (hqB : q ≤ B) (hr : B ≤ r) : q ≤ (u * B + d) / y := by
  refine est_le hB hy hq ?_
  have h1 : q * (y % B) ≤ B * (y % B) := Nat.mul_le_mul_right _ hqB
  have h2 : B * (y % B) ≤ B * r := Nat.mul_le_mul_left _ (by have := Nat.mod_lt y hB; omega)
  omega
theorem est_first {B y u : Nat} (hu : u < y) (hB : 2 ≤ B) (hn : B ≤ 2 * (y / B)) : u / (y / B) ≤ B + 1 := by
  have hp : 0 < y / B := by omega
  have : u / (y / B) < B + 2 := by
    rw [Nat.div_lt_iff_lt_mul hp]
    have e : y = y / B * B + y % B := (Nat.div_add_mod' y B).symm
    have hm := Nat.mod_lt y (show 0 < B by omega)
    have : (B + 2) * (y / B) = y / B * B + 2 * (y / B) := by rw [Nat.add_mul, Nat.mul_comm B]
    omega
  omega
theorem est_ge {B y u d : Nat} (hB : 0 < B) (hy : B ≤ y) (hd : d < B) : (u * B + d) / y ≤ u / (y / B) := by
  have hp : 0 < y / B := Nat.div_pos hy hB
  rw [Nat.le_div_iff_mul_le hp]
  have h1 : (u * B + d) / y * y ≤ u * B + d := Nat.div_mul_le_self _ _
  have h2 : (u * B + d) / y * (y / B * B) ≤ (u * B + d) / y * y := Nat.mul_le_mul_left _ (Nat.div_mul_le_self _ _)
  rw [← Nat.mul_assoc] at h2
  generalize (u * B + d) / y * (y / B) = z at *
  have : z * B < (u + 1) * B := by rw [Nat.add_mul]; omega
  exact Nat.le_of_lt_succ (Nat.lt_of_mul_lt_mul_right this)
/-- Two digits, one behind the other. -/
theorem two_digits {B y u d1 d0 : Nat} (hy : 0 < y) : ((u * B + d1) * B + d0) / y = (u * B + d1) / y * B + ((u * B + d1) % y * B + d0) / y ∧ ((u * B + d1) * B + d0) % y = ((u * B + d1) % y * B + d0) % y := by
  have e : (u * B + d1) * B + d0 = y * ((u * B + d1) / y * B) + ((u * B + d1) % y * B + d0) := by
    conv => lhs; rw [← Nat.div_add_mod (u * B + d1) y]
    rw [Nat.add_mul, Nat.mul_assoc]
    omega
  rw [e, Nat.mul_add_div hy, Nat.mul_add_mod]
  exact ⟨rfl, rfl⟩
end Go.Dz
set_option linter.unusedVariables false
set_option linter.unusedSimpArgs false
namespace Go.Dz
def digs (n : Nat) : List Int := if h : n = 0 then [] else ((n % 10 : Nat) : Int) :: digs (n / 10)
termination_by n
decreasing_by omega
theorem digs_zero : digs 0 = [] := by rw [digs]; rfl
theorem digs_pos {n : Nat} (h : n ≠ 0) : digs n = ((n % 10 : Nat) : Int) :: digs (n / 10) := by rw [digs]; simp [h]
def nval : List Int → Nat
  | [] => 0
  | d :: l => d.toNat + 10 * nval l
def Dig (l : List Int) : Prop := ∀ d ∈ l, 0 ≤ d ∧ d ≤ 9
theorem Dig.nil : Dig [] := by intro d h; simp at h
theorem Dig.cons {d : Int} {l : List Int} (h0 : 0 ≤ d) (h9 : d ≤ 9) (h : Dig l) : Dig (d :: l) := by
  intro x hx
  rcases List.mem_cons.1 hx with rfl | hx
  · exact ⟨h0, h9⟩
  · exact h x hx
theorem Dig.head {d : Int} {l : List Int} (h : Dig (d :: l)) : 0 ≤ d ∧ d ≤ 9 := h d (by simp)
theorem Dig.tail {d : Int} {l : List Int} (h : Dig (d :: l)) : Dig l := fun x hx => h x (List.mem_cons_of_mem _ hx)
theorem Dig.app {l r : List Int} (h : Dig l) (k : Dig r) : Dig (l ++ r) := by
  intro x hx
  rcases List.mem_append.1 hx with hx | hx
  · exact h x hx
  · exact k x hx
theorem digs_dig : ∀ n, Dig (digs n) := by
  intro n
  induction n using Nat.strongRecOn with
  | _ n ih =>
    by_cases h : n = 0
    · subst h; rw [digs_zero]; exact Dig.nil
    · rw [digs_pos h]; exact Dig.cons (by omega) (by omega) (ih _ (by omega))
theorem nval_digs : ∀ n, nval (digs n) = n := by
  intro n
  induction n using Nat.strongRecOn with
  | _ n ih =>
    by_cases h : n = 0
    · subst h; rw [digs_zero]; rfl
    · rw [digs_pos h, nval, ih _ (by omega)]; omega
theorem digs_nil {n : Nat} : digs n = [] ↔ n = 0 := by
  constructor
  · intro h; rw [← nval_digs n, h]; rfl
  · rintro rfl; exact digs_zero
theorem digs_len0 {n : Nat} : (digs n).length = 0 ↔ n = 0 := by rw [List.length_eq_zero_iff, digs_nil]
theorem digs_cons {d : Int} {n : Nat} (h0 : 0 ≤ d) (h9 : d ≤ 9) (h : d.toNat + 10 * n ≠ 0) : digs (d.toNat + 10 * n) = d :: digs n := by
  rw [digs_pos h, show (d.toNat + 10 * n) / 10 = n by omega, show (((d.toNat + 10 * n) % 10 : Nat) : Int) = d by omega]
/-- Without noughts at the end. -/
theorem digs_nval : ∀ {l : List Int}, Dig l → ∀ {n : Nat}, n ≤ l.length → (∀ i, n ≤ i → i < l.length → l.getD i 0 = 0) → (n ≠ 0 → l.getD (n - 1) 0 ≠ 0) → digs (nval l) = l.take n
  | [], _, n, hn, _, _ => by simp [nval, digs_zero]
  | d :: l, hd, n, hn, h0, h1 => by
    cases n with
    | zero =>
      have hz : d = 0 := by simpa using h0 0 (by omega) (by simp)
      have := digs_nval hd.tail (n := 0) (Nat.zero_le _) (fun i hi hl => by simpa using h0 (i + 1) (by omega) (by simpa using hl)) (by omega)
      have hv : nval l = 0 := by
        have := congrArg nval this
        rw [nval_digs] at this
        simpa [nval] using this
      rw [nval, hv, hz]; simp [digs_zero]
    | succ n =>
      have ih := digs_nval hd.tail (n := n) (by simpa using hn) (fun i hi hl => by simpa using h0 (i + 1) (by omega) (by simpa using hl)) (fun hn0 => by
        have := h1 (by omega)
        obtain ⟨m, rfl⟩ : ∃ m, n = m + 1 := ⟨n - 1, by omega⟩
        simpa using this)
      have hne : d.toNat + 10 * nval l ≠ 0 := by
        intro he
        have hv : nval l = 0 := by omega
        rw [hv, digs_zero] at ih
        cases n with
        | zero =>
          have := h1 (by omega)
          simp at this
          have := hd.head
          omega
        | succ n =>
          have := congrArg List.length ih
          simp at this hn
          omega
      rw [nval, digs_cons hd.head.1 hd.head.2 hne, ih, List.take_succ_cons]
theorem nval_app : ∀ (l r : List Int), nval (l ++ r) = nval l + 10 ^ l.length * nval r
  | [], r => by simp [nval]
  | d :: l, r => by
    rw [List.cons_append, nval, nval, nval_app l r, List.length_cons, Nat.pow_succ, Nat.mul_add, Nat.add_assoc, ← Nat.mul_assoc, Nat.mul_comm 10 (10 ^ l.length)]
theorem nval_lt : ∀ {l : List Int}, Dig l → nval l < 10 ^ l.length
  | [], _ => by simp [nval]
  | d :: l, h => by
    have := nval_lt h.tail
    have := h.head
    rw [nval, List.length_cons, Nat.pow_succ]
    omega
theorem digs_lt {n : Nat} : n < 10 ^ (digs n).length := by
  have := nval_lt (digs_dig n)
  rwa [nval_digs] at this
theorem digs_ge {n : Nat} (h : n ≠ 0) : 10 ^ ((digs n).length - 1) ≤ n := by
  induction n using Nat.strongRecOn with
  | _ n ih =>
    rw [digs_pos h, List.length_cons, Nat.add_sub_cancel]
    by_cases h1 : n / 10 = 0
    · rw [h1, digs_zero]; simp; omega
    · have := ih _ (by omega) h1
      have h2 : (digs (n / 10)).length ≠ 0 := by rw [Ne, digs_len0]; exact h1
      obtain ⟨m, hm⟩ : ∃ m, (digs (n / 10)).length = m + 1 := ⟨_, (Nat.succ_pred h2).symm⟩
      rw [hm] at this ⊢
      rw [Nat.add_sub_cancel] at this
      rw [Nat.pow_succ]
      omega
theorem digs_len_le {n m : Nat} (h : n < 10 ^ m) : (digs n).length ≤ m := by
  by_cases h0 : n = 0
  · subst h0; rw [digs_zero]; simp
  · have := digs_ge h0
    have h1 : (digs n).length - 1 < m := (Nat.pow_lt_pow_iff_right (by decide : 1 < 10)).1 (Nat.lt_of_le_of_lt this h)
    omega
theorem digs_at {n : Nat} : ∀ {i : Nat}, (digs n).getD i 0 = ((n / 10 ^ i % 10 : Nat) : Int) := by
  intro i
  induction i generalizing n with
  | zero =>
    by_cases h : n = 0
    · subst h; rw [digs_zero]; simp
    · rw [digs_pos h]; simp
  | succ i ih =>
    by_cases h : n = 0
    · subst h; rw [digs_zero]; simp
    · rw [digs_pos h]
      have := @ih (n / 10)
      rw [Nat.div_div_eq_div_mul, Nat.mul_comm] at this
      simpa [Nat.pow_succ] using this
end Go.Dz
namespace Go.Proofs.Ytdbeblgfccjbgaa.W
open Go Go.Q Go.Proofs Go.Dz
set_option linter.unusedVariables false
set_option linter.unusedSimpArgs false
theorem wU (n : Nat) : IntKind.wrap .u64 (n : Int) = ((n % 18446744073709551616 : Nat) : Int) := by
  simp [IntKind.wrap, IntKind.bits, IntKind.signed]
theorem wUi (n : Int) : IntKind.wrap .u64 n = n % 18446744073709551616 := by
  simp [IntKind.wrap, IntKind.bits, IntKind.signed]
theorem wUl {n : Nat} (h : n < 18446744073709551616) : IntKind.wrap .u64 (n : Int) = (n : Int) := by rw [wU, Nat.mod_eq_of_lt h]
theorem bvU {n : Nat} (h : n < 18446744073709551616) : (n : Int) = ((BitVec.ofNat 64 n).toNat : Int) := by
  rw [BitVec.toNat_ofNat, Nat.mod_eq_of_lt (by simpa using h)]
theorem and32 {n : Nat} (h : n < 18446744073709551616) : bits .and .u64 (n : Int) 4294967295 = ((n % 4294967296 : Nat) : Int) := by
  rw [bvU h, show (4294967295 : Int) = ((4294967295#64).toNat : Int) from rfl, u64_and, BitVec.toNat_and, BitVec.toNat_ofNat, Nat.mod_eq_of_lt (by simpa using h)]
  rw [show (4294967295#64).toNat = 2 ^ 32 - 1 from rfl, Nat.and_two_pow_sub_one_eq_mod]
theorem shrN (n : Nat) {s : Nat} (hs : s ≤ 64) : shrI .u64 (n : Int) (s : Int) = ((n / 2 ^ s : Nat) : Int) := by
  unfold shrI
  rw [Int.fdiv_eq_ediv_of_nonneg _ (Int.pow_nonneg (by decide))]
  simp [IntKind.bits, Nat.min_eq_left hs]
theorem shr32 (n : Nat) : shrI .u64 (n : Int) 32 = ((n / 4294967296 : Nat) : Int) := shrN n (s := 32) (by decide)
theorem shlN (n : Nat) {s : Nat} (hs : s ≤ 64) : shlI .u64 (n : Int) (s : Int) = ((n * 2 ^ s % 18446744073709551616 : Nat) : Int) := by
  unfold shlI
  rw [← wU]
  simp [IntKind.bits, Nat.min_eq_left hs]
theorem orN {a b s : Nat} (ha : a * 2 ^ s < 18446744073709551616) (hb : b < 2 ^ s) (hb' : b < 18446744073709551616) : bits .or .u64 ((a * 2 ^ s : Nat) : Int) (b : Int) = ((a * 2 ^ s + b : Nat) : Int) := by
  rw [bvU ha, bvU hb', u64_or, BitVec.toNat_or, BitVec.toNat_ofNat, BitVec.toNat_ofNat, Nat.mod_eq_of_lt (by simpa using ha), Nat.mod_eq_of_lt (by simpa using hb'), Nat.mul_comm, ← Nat.two_pow_add_eq_or_of_lt hb]
theorem or0 {a b : Nat} (ha : a < 18446744073709551616) (hb : b < 18446744073709551616) : bits .or .u64 (a : Int) (b : Int) = 0 ↔ a = 0 ∧ b = 0 := by
  rw [bvU ha, bvU hb, u64_or, BitVec.toNat_or, BitVec.toNat_ofNat, BitVec.toNat_ofNat, Nat.mod_eq_of_lt (by simpa using ha), Nat.mod_eq_of_lt (by simpa using hb)]
  constructor
  · intro h
    have h' : a ||| b = 0 := by exact_mod_cast h
    exact ⟨(Nat.or_eq_zero_iff.1 h').1, (Nat.or_eq_zero_iff.1 h').2⟩
  · rintro ⟨rfl, rfl⟩; rfl
/-- The upper half of a product. -/
theorem mul64 (k : Nat) {x y : Nat} (hx : x < 18446744073709551616) (hy : y < 18446744073709551616) : g_math_bits_Mul64 k (x : Int) (y : Int) = some ((x * y / 18446744073709551616 : Nat) : Int) := by
  unfold g_math_bits_Mul64
  have b0 := Nat.mod_lt x (show 0 < 4294967296 by decide)
  have c0 := Nat.mod_lt y (show 0 < 4294967296 by decide)
  have b1 : x / 4294967296 < 4294967296 := by omega
  have c1 : y / 4294967296 < 4294967296 := by omega
  have ex : x = x / 4294967296 * 4294967296 + x % 4294967296 := by omega
  have ey : y = y / 4294967296 * 4294967296 + y % 4294967296 := by omega
  simp only [and32 hx, and32 hy, shr32]
  generalize x % 4294967296 = x0 at *
  generalize y % 4294967296 = y0 at *
  generalize x / 4294967296 = x1 at *
  generalize y / 4294967296 = y1 at *
  have hp : x0 * y0 ≤ 4294967295 * 4294967295 := Nat.mul_le_mul (by omega) (by omega)
  have hq : x1 * y0 ≤ 4294967295 * 4294967295 := Nat.mul_le_mul (by omega) (by omega)
  have hr : x0 * y1 ≤ 4294967295 * 4294967295 := Nat.mul_le_mul (by omega) (by omega)
  have hs : x1 * y1 ≤ 4294967295 * 4294967295 := Nat.mul_le_mul (by omega) (by omega)
  have e : x * y = x1 * y1 * 18446744073709551616 + (x1 * y0 + x0 * y1) * 4294967296 + x0 * y0 := by
    rw [ex, ey]
    simp only [Nat.add_mul, Nat.mul_add]
    have : x1 * 4294967296 * (y1 * 4294967296) = x1 * y1 * 18446744073709551616 := by
      rw [Nat.mul_mul_mul_comm]
    have h2 : x1 * 4294967296 * y0 = x1 * y0 * 4294967296 := by rw [Nat.mul_right_comm]
    have h3 : x0 * (y1 * 4294967296) = x0 * y1 * 4294967296 := by rw [Nat.mul_assoc]
    omega
  simp only [← Int.natCast_mul]
  generalize x0 * y0 = p at *
  generalize x1 * y0 = q at *
  generalize x0 * y1 = r at *
  generalize x1 * y1 = s at *
  rw [e]
  have e1 : p % 18446744073709551616 = p := Nat.mod_eq_of_lt (by omega)
  have e2 : q % 18446744073709551616 = q := Nat.mod_eq_of_lt (by omega)
  have e3 : r % 18446744073709551616 = r := Nat.mod_eq_of_lt (by omega)
  have e4 : s % 18446744073709551616 = s := Nat.mod_eq_of_lt (by omega)
  simp only [Option.bind_some, wU, e1, e2, e3, e4, shr32, ← Int.natCast_add]
  rw [and32 (by omega)]
  simp only [← Int.natCast_add, wU, shr32]
  congr 2
  omega
end Go.Proofs.Ytdbeblgfccjbgaa.W
