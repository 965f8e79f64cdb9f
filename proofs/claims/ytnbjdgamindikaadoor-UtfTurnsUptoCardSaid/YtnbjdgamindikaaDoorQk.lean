/- Ranges over functions: the iterator's body is walked in place, with the loop's body at each call of yield. -/
import Derived.Test.YtnbjdgamindikaaDoorQj
namespace Go.Q
open Go
set_option linter.unusedVariables false
set_option linter.unusedSimpArgs false

/-- A loop's record. -/
def lp (r : Loop) (s : LoopState) (p : Option Code) : Obj := .loop { r with state := s, pending := p }

/-- How a piece is left, as a pending jump. -/
def jumpOf : Ex → Option (Option Code)
  | .normal => some none
  | .ret => some (some .ret)
  | .exit id => some (some (.exit id))
  | .goto l => some (some (.goto l))
  | .panic _ => none

/-- What the iterator's body must come to. -/
def RangeQ (P : Program) (cx : Cx) (fr : Fr) (aC : Act) (r : Loop) (l : Nat) (Q : Ex → Env → Mem → Prop) (x : Ex) (E : Env) (M : Mem) : Prop :=
  marksOk M E.d ∧ ∃ v d os lid, E.o = ⟨aC, v, d, some (lid, l)⟩ :: os ∧
    match x with
    | .normal | .ret => ∃ s j, (dropMarks M E.d).at_ lid = .obj (lp r s j) ∧ s ≠ .busy ∧
        (match j with
         | none => W cx fr Q .normal ⟨v, d, os⟩ ((dropMarks M E.d).set lid .gone)
         | some c => WP P cx fr c ⟨v, d, os⟩ ((dropMarks M E.d).set lid .gone) Q)
    | .panic u => Q (.panic u) ⟨v, d, os⟩ (dropMarks M E.d)
    | _ => False

theorem okO_mem {e : Nv} {M M' : Mem} {p : OEnv} (h : okO e M p) : okO e M' p := h.mono (Nv.le.refl e) fun _ => Ro.le.refl _

section
variable {P : Program} {cx : Cx} {fr : Fr} {E : Env} {M : Mem} {Q : Ex → Env → Mem → Prop}

/-- A RANGE OVER A FUNCTION, outermost in its frame. -/
theorem WP.range {g : Operand} {ps : Array Tmp} {assign body c : Code} {f : FuncId} {fn : Func} {cap : List AVal} {nti n : Nat} (hr : fr.r = none) (hg : E.ev g = .fn f cap) (hf : P.funcs[f]? = some fn) (hb : fn.body = some c)
    (hnm : (fn.name == "runtime.NumGoroutine") = false) (hres : fn.results = #[]) (hnt : fn.ntmps = nti) (ha : Nat.ble (cap.length + 1) nti = true) (hn : M.n = n)
    (h : ∀ (l : Nat) (r : Loop) (aC : Act), r.params = ps → r.assign = assign → r.body = body → r.tmps = aC.tmps → aC.tmps.size = fr.nt →
      WP P cx ⟨nti, none⟩ c ⟨fun t => (AVal.lit (.func (.yield l) #[] #[]) :: cap).getD t .any, [], ⟨aC, E.v, n :: E.d, some (n + 1, l)⟩ :: E.o⟩
        ((M.push (.obj (.deferred (some [])))).push (.obj (lp r .ready none))) (RangeQ P cx fr aC r l Q)) : WP P cx fr (.rangeFunc g ps assign body) E M Q := by
  intro a w e hh he
  have hgv := he.ev g
  rw [hg] at hgv
  simp only [Val] at hgv
  obtain ⟨us, hgv, hus⟩ := hgv
  have hul := hus.length
  refine wpIn_rangeFunc fun fnid _ => ?_
  rw [show (fence fr.r).round = none from hr]
  let w1 := w.alloc (.deferred (some []))
  let r : Loop := { state := .ready, pending := none, fn := fnid, tmps := a.tmps, params := ps, assign := assign, body := body, defers := w.heap.size }
  let w2 := w1.alloc (.loop r)
  let l := w.heap.size + 1
  let mark : List Deferred := [{ target := .collected w.heap.size, args := #[] }]
  have hres' : (resolve a.eval (rangeCall g l) 0).run P w2 = .ok { target := .fn (.func f) us.toArray, args := #[.func (.yield l) #[] #[]] } w2 := by
    simp [resolve, Deferred.ofValue, hgv, eval_const]
  have hinv : (invoke (.fn (.func f) us.toArray) #[Value.func (.yield l) #[] #[]]).run P w2 = .ok (.enter f (#[Value.func (.yield l) #[] #[]] ++ us.toArray)) w2 := by
    have h3' : ¬ fn.name = "runtime.NumGoroutine" := by simpa using hnm
    simp [invoke, callFunc, hf, h3', hb]
  refine ⟨l, mark, w2, _, w2, f, _, w2, run_enterLoop_outer fnid a.tmps ps assign body, hres', fun _ _ => trivial, hinv, fun h => by simp at h, ?_⟩
  -- the memory with the two blocks
  let e1 := e.bump w.heap.size 0 0
  let e2 := e1.bump (w.heap.size + 1) 0 0
  have hle1 := e.bump_le w.heap.size 0 0 false
  have hle2 := e1.bump_le (w.heap.size + 1) 0 0 false
  have hm1 := fun b => e.bump_mem w.heap.size 0 0 false b
  have hm2 := fun b => e1.bump_mem (w.heap.size + 1) 0 0 false b
  have hh1 : Hold cx e1 (M.push (.obj (.deferred (some [])))) w1 := by
    refine hh.bind rfl rfl rfl (by simp [w1]) (by simp [w1]) (fun k hk hlt => RowKit.Below.heap_alloc w _ k hlt) (fun i hi hl => Nat.ne_of_lt (hh.live i hi hl).1) hh.bag_new (hnone hh.ro) (hnone hh.bro) (.inr hh.size) ?_
    refine ⟨by simp [Nv.bump], ?_⟩
    simp only [Nv.bump, if_true]
    exact heap_alloc_new w _
  have hsz1 : w1.heap.size = w.heap.size + 1 := by simp [w1]
  have hh2 : Hold cx e2 ((M.push (.obj (.deferred (some [])))).push (.obj (lp r .ready none))) w2 := by
    have key : Hold cx (e1.bump w1.heap.size 0 0) ((M.push (.obj (.deferred (some [])))).push (.obj (lp r .ready none))) w2 := by
      refine hh1.bind rfl rfl rfl (by simp [w2]) (by simp [w2]) (fun k hk hlt => RowKit.Below.heap_alloc w1 _ k hlt) (fun i hi hl => Nat.ne_of_lt (hh1.live i hi hl).1) hh1.bag_new (hnone hh1.ro) (hnone hh1.bro) (.inr hh1.size) ?_
      refine ⟨by simp [Nv.bump], ?_⟩
      simp only [Nv.bump, if_true]
      exact heap_alloc_new w1 _
    rw [hsz1] at key
    exact key
  let aC : Act := { a with defers := mark ++ a.defers }
  have hownn : e2.own n = w.heap.size := by
    have h1 : n = e.n := by rw [← hn, hh.n]
    subst h1
    have h2 : e.n ≠ e1.n := by simp [e1, Nv.bump]
    simp only [e2, Nv.bump, if_neg h2]
    simp [e1, Nv.bump]
  have hmarkn : markBlocks e2 n = [w.heap.size] := by
    have h1 : n = e.n := by rw [← hn, hh.n]
    have h2 : n ≠ e1.n := by rw [h1]; simp [e1, Nv.bump]
    unfold markBlocks
    rw [hownn]
    have h3 : e2.vir n = false := by
      simp only [e2, Nv.bump, if_neg h2]; subst h1; simp [e1, Nv.bump]
    have h4 : e2.bag n = [] := by
      simp only [e2, Nv.bump, if_neg h2]; subst h1; simp [e1, Nv.bump]
    rw [h3, h4]; rfl
  have hownl : e2.own (n + 1) = l := by
    have h1 : n + 1 = e1.n := by rw [← hn]; simp [e1, Nv.bump, hh.n]
    simp only [e2, Nv.bump, if_pos h1]
    rfl
  have hn2 : e2.n = n + 2 := by rw [← hn]; simp [e2, e1, Nv.bump, hh.n]
  have hoC : okO e2 ((M.push (.obj (.deferred (some [])))).push (.obj (lp r .ready none))) ⟨aC, E.v, n :: E.d, some (n + 1, l)⟩ := by
    refine ⟨fun t => ((he.v t).mono hle1 hm1).mono hle2 hm2, ⟨a.defers, by rw [hmarkn]; rfl, by omega, (he.d.mono (M' := M) hle1).mono hle2⟩, ?_⟩
    rintro i l' hil
    cases hil
    exact ⟨by omega, hownl⟩
  refine callsIn_of_wp_marks (F := fence fr.r) hf hb trivial ?_ hr
  have hemb : Emb nti e2 ((M.push (.obj (.deferred (some [])))).push (.obj (lp r .ready none))) ⟨fun t => (AVal.lit (.func (.yield l) #[] #[]) :: cap).getD t .any, [], ⟨aC, E.v, n :: E.d, some (n + 1, l)⟩ :: E.o⟩
      { tmps := (#[Value.func (.yield l) #[] #[]] ++ us.toArray) ++ Array.replicate (fn.ntmps - (#[Value.func (.yield l) #[] #[]] ++ us.toArray).size) undef, defers := [] } := by
    have ha' : cap.length + 1 ≤ nti := by simpa using ha
    refine ⟨by simp [hnt, hul]; omega, fun t => ?_, rfl, fun p hp => ?_⟩
    · have hvals : Vals e2 (AVal.lit (.func (.yield l) #[] #[]) :: cap) (Value.func (.yield l) #[] #[] :: us) := by
        simp only [Vals]
        exact ⟨_, _, rfl, by simp [Val], (hus.mono hle1 hm1).mono hle2 hm2⟩
      have hlen := hvals.length
      have harr : (#[Value.func (.yield l) #[] #[]] ++ us.toArray) = (Value.func (.yield l) #[] #[] :: us).toArray := by simp
      rw [harr]
      simp only [List.getD_eq_getElem?_getD]
      by_cases ht : t < (AVal.lit (.func (.yield l) #[] #[]) :: cap).length
      · rw [List.getElem?_eq_getElem ht]
        obtain ⟨v, h1, h2⟩ := hvals.get (List.getElem?_eq_getElem ht)
        have hs : ((Value.func (.yield l) #[] #[] :: us).toArray ++ Array.replicate (fn.ntmps - (Value.func (.yield l) #[] #[] :: us).toArray.size) undef).getD t undef = v := by
          rw [Array.getD_eq_getD_getElem?, Array.getElem?_append_left (by simpa [hlen] using ht)]
          simp only [List.getElem?_toArray, h1, Option.getD_some]
        rw [hs]
        exact h2
      · rw [List.getElem?_eq_none (by omega)]
        simp [Val]
    · rcases List.mem_cons.1 hp with rfl | hp
      · exact hoC
      · exact ((he.o p hp).mono (M' := M) hle1 hm1).mono hle2 hm2
  have hwp := h l r aC rfl rfl rfl rfl he.sz _ w2 e2 hh2 hemb
  rw [show (fence (⟨nti, none⟩ : Fr).r) = fence fr.r by rw [hr]] at hwp
  refine Go.wpIn_mono hwp fun x a' w' k => ?_
  obtain ⟨y, E', M', e', q, g1, g2, g3⟩ := k
  obtain ⟨q1, v', d', os', lid, q2, q3⟩ := q
  have fin : Emb nti e' M' E' a' → (∃ s j, (dropMarks M' E'.d).at_ lid = .obj (lp r s j) ∧ s ≠ .busy ∧
        (match j with
         | none => W cx fr Q .normal ⟨v', d', os'⟩ ((dropMarks M' E'.d).set lid .gone)
         | some c => WP P cx fr c ⟨v', d', os'⟩ ((dropMarks M' E'.d).set lid .gone) Q)) →
      LeavesInM (fence fr.r) 0 P fn a'.tmps (rangePost (fence fr.r) 0 P l (Sat cx fr Q) aC) a'.defers .returning w' := by
    rintro g2 ⟨s, j, q4, q5, q6⟩
    have hfr : fence fr.r = fence none := by rw [hr]
    rw [hfr]
    refine leave_marks (by simp) E'.d M' w' a'.defers g1 g2.d q1 fun w'' hh'' => ?_
    have hp := g2.o ⟨aC, v', d', some (lid, l)⟩ (by rw [q2]; simp)
    obtain ⟨hlid, hownlid⟩ := hp.lk lid l rfl
    have hb' := hh''.ch lid hlid
    rw [q4] at hb'
    have hbl : w''.heap[l]? = some (.loop { r with state := s, pending := j }) := by rw [← hownlid]; exact hb'.2
    have hlive : ((dropMarks M' E'.d).at_ lid).live e' lid := by rw [q4]; trivial
    have hlt : l < w''.heap.size := (Array.getElem?_eq_some_iff.1 hbl).1
    refine ⟨.tuple #[], by simp [results, hres], ?_⟩
    refine ⟨j, _, run_endLoop (r := { r with state := s, pending := j }) hbl q5, ?_⟩
    have hh3 : Hold cx e' ((dropMarks M' E'.d).set lid .gone) (w''.putObj l (.loop { ({ r with state := s, pending := j } : Loop) with state := .exhausted })) :=
      hh''.change hlid hlive rfl rfl rfl (by simp [World.putObj]) (fun k hk => World.putObj_heap_other (by rw [hownlid] at hk; exact hk)) trivial
    have hemb3 : Emb fr.nt e' ((dropMarks M' E'.d).set lid .gone) ⟨v', d', os'⟩ aC :=
      ⟨he.sz, hp.v, hp.d.mono (Nv.le.refl e'), fun p hp' => okO_mem (g2.o p (by rw [q2]; simp [hp']))⟩
    cases j with
    | none => exact q6 _ _ e' _ hh3 hemb3 rfl
    | some c =>
      have := q6 aC _ e' hh3 hemb3
      rw [hr] at this
      simpa [hr] using this
  cases y with
  | normal => cases g3; exact fin g2 q3
  | ret => cases g3; exact fin g2 q3
  | exit id => exact q3.elim
  | goto l => exact q3.elim
  | panic v =>
    obtain ⟨u, rfl, hu⟩ := g3
    show LeavesInM (fence fr.r) 0 P fn a'.tmps (rangePost (fence fr.r) 0 P l (Sat cx fr Q) aC) a'.defers (.panicking [{ v := u, recovered := false }]) w'
    have hfr : fence fr.r = fence none := by rw [hr]
    rw [hfr]
    refine leave_marks (u := .panicking [{ v := u, recovered := false }]) (by simp) E'.d M' w' a'.defers g1 g2.1 q1 fun w'' hh'' => ?_
    have hp := g2.2 ⟨aC, v', d', some (lid, l)⟩ (by rw [q2]; simp)
    exact ⟨.panic v, _, _, e', q3, hh'', ⟨hp.d.mono (Nv.le.refl e'), fun p hp' => okO_mem (g2.2 p (by rw [q2]; simp [hp']))⟩, u, rfl, hu⟩

/-- Yield's arguments in the loop's variables. -/
def paramsV (f : Nat → AVal) : List Tmp → List AVal → (Nat → AVal)
  | t :: ts, a :: l => paramsV (fun u => if Nat.beq u t = true then a else f u) ts l
  | _, _ => f

theorem params_ok {e : Nv} : ∀ (ts : List Tmp) (as : List AVal) (vs : List Value) (f : Nat → AVal) (tm : Array Value), Vals e as vs → (∀ t ∈ ts, t < tm.size) → ts.length = as.length → (∀ t, Val e (f t) (tm.getD t undef)) →
    ∀ t, Val e (paramsV f ts as t) (((ts.zip vs).foldl (fun tmps (x : Tmp × Value) => tmps.setIfInBounds x.1 x.2) tm).getD t undef)
  | [], as, vs, f, tm, _, _, _, hf => by simpa [paramsV] using hf
  | t :: ts, [], vs, f, tm, _, _, hl, _ => by simp at hl
  | t :: ts, a :: as, vs, f, tm, h, hb, hl, hf => by
    simp only [Vals] at h
    obtain ⟨v, ws, rfl, h1, h2⟩ := h
    simp only [paramsV, List.zip_cons_cons, List.foldl_cons]
    refine params_ok ts as ws _ _ h2 (fun x hx => by simpa using hb x (by simp [hx])) (by simpa using hl) fun u => ?_
    have ht : t < tm.size := hb t (by simp)
    simp only [Array.getD_eq_getD_getElem?]
    by_cases hu : u = t
    · subst hu
      simp [ht, h1]
    · rw [if_neg (by simpa using hu), Array.getElem?_setIfInBounds_ne (Ne.symm hu)]
      have := hf u
      rwa [Array.getD_eq_getD_getElem?] at this

theorem foldl_size : ∀ (l : List (Tmp × Value)) (tm : Array Value), (l.foldl (fun tmps (x : Tmp × Value) => tmps.setIfInBounds x.1 x.2) tm).size = tm.size
  | [], _ => rfl
  | x :: l, tm => by rw [List.foldl_cons, foldl_size l]; simp

/-- What a round must come to. -/
def RoundQ (lid : Nat) (l : Nat) (r : Loop) (aI aC : Act) (K : Option Code → Env → Mem → Prop) (x : Ex) (E : Env) (M : Mem) : Prop :=
  E.d = [] ∧ ∃ v d v' d' os' lid', E.o = ⟨aI, v, d, none⟩ :: ⟨aC, v', d', some (lid', l)⟩ :: os' ∧ M.at_ lid' = .obj (lp r .busy none) ∧
    ∃ j, jumpOf x = some j ∧ K j ⟨v, d, ⟨aC, v', d', some (lid', l)⟩ :: os'⟩ (M.set lid' (.obj (lp r (if j.isNone then .ready else .done) j)))

/-- What the assignments to the loop's variables must come to. -/
def AssignQ (P : Program) (cx : Cx) (ntc l : Nat) (body : Code) (r : Loop) (aI aC : Act) (K : Option Code → Env → Mem → Prop) (x : Ex) (E : Env) (M : Mem) : Prop :=
  x = .normal ∧ E.d = [] ∧ ∃ v d v' d' os' lid', E.o = ⟨aI, v, d, none⟩ :: ⟨aC, v', d', some (lid', l)⟩ :: os' ∧ M.at_ lid' = .obj (lp r .ready none) ∧
    WP P cx ⟨ntc, some l⟩ body E (M.set lid' (.obj (lp r .busy none))) (RoundQ lid' l r aI aC K)

variable {ops : Array Oper} {os : List Oper} {ty : TypeId} {pos : String} {after : Array Edge} {dst : Nat}

theorem putObj_hold {e : Nv} {w : World} (hh : Hold cx e M w) {i l : Nat} {o o' : Obj} (hi : i < e.n) (hl : e.own i = l) (hc : M.at_ i = .obj o) (hmk : (Chunk.obj o').mark = true → (M.at_ i).mark = true) : Hold cx e (M.set i (.obj o')) (w.putObj l o') := by
  subst hl
  have hlive : (M.at_ i).live e i := by rw [hc]; trivial
  have hb := hh.ch i hi
  rw [hc] at hb
  have hlt : e.own i < w.heap.size := (hh.live i hi hlive).1
  exact hh.change hi hlive rfl rfl rfl (by simp [World.putObj]) (fun k hk => World.putObj_heap_other hk) ⟨hb.1, World.putObj_heap_same hlt⟩ hmk

/-- A CALL OF yield: a round of the loop. -/
theorem WPL.ycore {g : Option (Nat × Bool)} {fo : Operand} {args : Array Operand} {tys : Array TypeId} {l lid ntc : Nat} {r : Loop} {aC : Act} {vC : Nat → AVal} {dC : List Nat} {oC : List OEnv} {ps : Array Tmp} {assign body : Code} (hfr : fr.r = none) (hfo : E.ev fo = .lit (.func (.yield l) #[] #[]))
    (ho : E.o = ⟨aC, vC, dC, some (lid, l)⟩ :: oC) (hM : M.at_ lid = .obj (lp r .ready none)) (hrp : r.params = ps) (hra : r.assign = assign) (hrb : r.body = body) (hrt : r.tmps = aC.tmps) (hsz : aC.tmps.size = ntc)
    (hps : Nat.beq ps.size args.size = true) (hpl : (ps.toList.all fun t => Nat.blt t ntc) = true) (ht : Nat.blt dst fr.nt = true)
    (hg : ∀ nt a e, Emb nt e M E a → nt = fr.nt → Region.wanted { dst := some dst, op := .call { callee := .value fo, args := args, argTypes := tys }, type := ty, pos := pos, after := after, guard := g } (yielded ops a.tmps) = true)
    (hround : ∀ aI : Act, WP P cx ⟨ntc, some l⟩ assign ⟨paramsV vC ps.toList (args.toList.map E.ev), [], ⟨aI, E.v, E.d, none⟩ :: E.o⟩ M
      (AssignQ P cx ntc l body r aI aC fun j E M => WPL P cx fr ops os (E.upd dst (.lit (.bool j.isNone))) M Q)) :
    WPL P cx fr ops ({ dst := some dst, op := .call { callee := .value fo, args := args, argTypes := tys }, type := ty, pos := pos, after := after, guard := g } :: os) E M Q := by
  intro a w e hh he
  have hv := ev_lit he hfo
  have hpO := he.o ⟨aC, vC, dC, some (lid, l)⟩ (by rw [ho]; simp)
  obtain ⟨hlid, hown⟩ := hpO.lk lid l rfl
  have hb := hh.ch lid hlid
  rw [hM] at hb
  have hbl : w.heap[l]? = some (.loop { r with state := .ready, pending := none }) := by rw [← hown]; exact hb.2
  have hps' : ps.size = args.size := by simpa using hps
  unfold wpListIn
  rw [if_pos (hg _ _ _ he rfl)]
  refine ⟨fun _ _ => trivial, ?_⟩
  rw [Oper.semAt_eq _ _ _ (by intro c hc; cases hc), execOp_one]
  have hrun : (exec1 a.eval (.call { callee := .value fo, args := args, argTypes := tys }) ty).run P w = .ok (.round l r.fn ((ps.zip (args.map a.eval)).foldl (fun tmps (t, a) => tmps.setIfInBounds t a) r.tmps) assign body) w := by
    have hy := run_yield (P := P) (args := args.map a.eval) hbl (by simp [hrp, hps'])
    simp only [hrp, hra, hrb] at hy
    simp [exec1, execOp, resolve, Deferred.ofValue, hv, invoke, hy]
  rw [hrun]
  refine ⟨fun h => by simp at h, ?_⟩
  have hfold : (ps.zip (args.map a.eval)).foldl (fun tmps (t, a) => tmps.setIfInBounds t a) r.tmps = (ps.toList.zip (args.toList.map a.eval)).foldl (fun tmps (x : Tmp × Value) => tmps.setIfInBounds x.1 x.2) aC.tmps := by
    rw [hrt, ← Array.foldl_toList]
    simp [Array.toList_zip]
  rw [hfold, hfr]
  refine roundIn_of_wpIn trivial ?_
  let aR : Act := { tmps := (ps.toList.zip (args.toList.map a.eval)).foldl (fun tmps (x : Tmp × Value) => tmps.setIfInBounds x.1 x.2) aC.tmps, defers := [] }
  have hembR : Emb ntc e M ⟨paramsV vC ps.toList (args.toList.map E.ev), [], ⟨a, E.v, E.d, none⟩ :: E.o⟩ aR := by
    refine ⟨by simp only [aR]; rw [foldl_size, hsz], fun t => ?_, rfl, fun p hp => ?_⟩
    · exact params_ok ps.toList _ _ vC aC.tmps (evs he args.toList) (fun t ht' => by have := List.all_eq_true.1 hpl t ht'; rw [hsz]; simpa using this) (by simpa using hps') hpO.v t
    · rcases List.mem_cons.1 hp with rfl | hp
      · exact ⟨he.v, he.d, fun i l' hil => by cases hil⟩
      · exact he.o p hp
  refine Go.wpIn_mono (hround a aR w e hh hembR) fun x a1 w1 k => ?_
  obtain ⟨y, E1, M1, e1, q, g1, g2, g3⟩ := k
  obtain ⟨rfl, hd1, v1, d1, v1', d1', os1, lid1, ho1, hM1, hbody⟩ := q
  cases g3
  have hp1 := g2.o ⟨aC, v1', d1', some (lid1, l)⟩ (by rw [ho1]; simp)
  obtain ⟨hlid1, hown1⟩ := hp1.lk lid1 l rfl
  have hb1 := g1.ch lid1 hlid1
  rw [hM1] at hb1
  have hbl1 : w1.heap[l]? = some (.loop { r with state := .ready, pending := none }) := by rw [← hown1]; exact hb1.2
  refine ⟨_, run_beginRound hbl1 rfl, ?_⟩
  have hh1 : Hold cx e1 (M1.set lid1 (.obj (lp r .busy none))) (w1.putObj l (.loop { ({ r with state := .ready, pending := none } : Loop) with state := .busy })) := putObj_hold g1 hlid1 hown1 hM1 (fun h => by cases h)
  have hemb1 : Emb ntc e1 (M1.set lid1 (.obj (lp r .busy none))) E1 a1 := Emb.mono (E := E1) g2 (Nv.le.refl e1) fun _ => Ro.le.refl _
  refine Go.wpIn_mono (hbody a1 _ e1 hh1 hemb1) fun x2 a2 w2 k2 => ?_
  obtain ⟨y2, E2, M2, e2, q2, k1, k3, k4⟩ := k2
  obtain ⟨hd2, v2, d2, v2', d2', os2, lid2, ho2, hM2, j, hj, hK⟩ := q2
  have fin : Emb ntc e2 M2 E2 a2 → ∃ v w', (Instr.endRound l j).run P w2 = .ok v w' ∧ wpListIn (fence fr.r) 0 P ops (Sat cx fr Q) os (a.put (some dst) v) w' := by
    intro k3
    have hp2 := k3.o ⟨aC, v2', d2', some (lid2, l)⟩ (by rw [ho2]; simp)
    have hpI := k3.o ⟨a, v2, d2, none⟩ (by rw [ho2]; simp)
    obtain ⟨hlid2, hown2⟩ := hp2.lk lid2 l rfl
    have hb2 := k1.ch lid2 hlid2
    rw [hM2] at hb2
    have hbl2 : w2.heap[l]? = some (.loop { r with state := .busy, pending := none }) := by rw [← hown2]; exact hb2.2
    refine ⟨_, _, run_endRound j hbl2, ?_⟩
    have hh2 : Hold cx e2 (M2.set lid2 (.obj (lp r (if j.isNone then .ready else .done) j))) (w2.putObj l (.loop { ({ r with state := .busy, pending := none } : Loop) with state := if j.isNone then .ready else .done, pending := j })) := putObj_hold k1 hlid2 hown2 hM2 (fun h => by cases h)
    have hembI : Emb fr.nt e2 (M2.set lid2 (.obj (lp r (if j.isNone then .ready else .done) j))) ⟨v2, d2, ⟨aC, v2', d2', some (lid2, l)⟩ :: os2⟩ a :=
      ⟨he.sz, hpI.v, hpI.d.mono (Nv.le.refl e2), fun p hp => okO_mem (k3.o p (by rw [ho2]; simp at hp ⊢; exact .inr hp))⟩
    exact hK _ _ e2 hh2 (hembI.put ht (by simp [Val]))
  have conv : ∀ {v : Value} {w' : World}, wpListIn (fence fr.r) 0 P ops (Sat cx fr Q) os (a.put (some dst) v) w' → wpListIn (fence none) 0 P ops (Sat cx fr Q) os (a.put (some dst) v) w' := by
    intro v w' h; rw [hfr] at h; exact h
  cases y2 with
  | normal => cases k4; cases hj; obtain ⟨v, w', h1, h2⟩ := fin k3; exact ⟨v, w', h1, conv h2⟩
  | ret => cases k4; cases hj; obtain ⟨v, w', h1, h2⟩ := fin k3; exact ⟨v, w', h1, conv h2⟩
  | exit id => cases k4; cases hj; obtain ⟨v, w', h1, h2⟩ := fin k3; exact ⟨v, w', h1, conv h2⟩
  | goto t => cases k4; cases hj; obtain ⟨v, w', h1, h2⟩ := fin k3; exact ⟨v, w', h1, conv h2⟩
  | panic u => cases hj
/-- A round. -/
theorem WPL.y {fo : Operand} {args : Array Operand} {tys : Array TypeId} {l lid ntc : Nat} {r : Loop} {aC : Act} {vC : Nat → AVal} {dC : List Nat} {oC : List OEnv} {ps : Array Tmp} {assign body : Code} (hfr : fr.r = none) (hfo : E.ev fo = .lit (.func (.yield l) #[] #[]))
    (ho : E.o = ⟨aC, vC, dC, some (lid, l)⟩ :: oC) (hM : M.at_ lid = .obj (lp r .ready none)) (hrp : r.params = ps) (hra : r.assign = assign) (hrb : r.body = body) (hrt : r.tmps = aC.tmps) (hsz : aC.tmps.size = ntc)
    (hps : Nat.beq ps.size args.size = true) (hpl : (ps.toList.all fun t => Nat.blt t ntc) = true) (ht : Nat.blt dst fr.nt = true)
    (hround : ∀ aI : Act, WP P cx ⟨ntc, some l⟩ assign ⟨paramsV vC ps.toList (args.toList.map E.ev), [], ⟨aI, E.v, E.d, none⟩ :: E.o⟩ M
      (AssignQ P cx ntc l body r aI aC fun j E M => WPL P cx fr ops os (E.upd dst (.lit (.bool j.isNone))) M Q)) :
    WPL P cx fr ops ({ dst := some dst, op := .call { callee := .value fo, args := args, argTypes := tys }, type := ty, pos := pos, after := after, guard := Option.none } :: os) E M Q :=
  WPL.ycore hfr hfo ho hM hrp hra hrb hrt hsz hps hpl ht (fun _ _ _ _ _ => rfl) hround
theorem WPL.yg {gj gt : Nat} {gb : Bool} {fo : Operand} {args : Array Operand} {tys : Array TypeId} {l lid ntc : Nat} {r : Loop} {aC : Act} {vC : Nat → AVal} {dC : List Nat} {oC : List OEnv} {ps : Array Tmp} {assign body : Code} (hfr : fr.r = none) (hfo : E.ev fo = .lit (.func (.yield l) #[] #[]))
    (ho : E.o = ⟨aC, vC, dC, some (lid, l)⟩ :: oC) (hM : M.at_ lid = .obj (lp r .ready none)) (hrp : r.params = ps) (hra : r.assign = assign) (hrb : r.body = body) (hrt : r.tmps = aC.tmps) (hsz : aC.tmps.size = ntc)
    (hps : Nat.beq ps.size args.size = true) (hpl : (ps.toList.all fun t => Nat.blt t ntc) = true) (ht : Nat.blt dst fr.nt = true)
    (gh : (ops[gj]?).bind (·.dst) = some gt) (ght : Nat.blt gt fr.nt = true) (ghv : E.v gt = .lit (.bool gb))
    (hround : ∀ aI : Act, WP P cx ⟨ntc, some l⟩ assign ⟨paramsV vC ps.toList (args.toList.map E.ev), [], ⟨aI, E.v, E.d, none⟩ :: E.o⟩ M
      (AssignQ P cx ntc l body r aI aC fun j E M => WPL P cx fr ops os (E.upd dst (.lit (.bool j.isNone))) M Q)) :
    WPL P cx fr ops ({ dst := some dst, op := .call { callee := .value fo, args := args, argTypes := tys }, type := ty, pos := pos, after := after, guard := some (gj, gb) } :: os) E M Q :=
  WPL.ycore hfr hfo ho hM hrp hra hrb hrt hsz hps hpl ht (fun _ _ _ he hn => by subst hn; simp [Region.wanted, yields he gh ght ghv]) hround
end
end Go.Q
