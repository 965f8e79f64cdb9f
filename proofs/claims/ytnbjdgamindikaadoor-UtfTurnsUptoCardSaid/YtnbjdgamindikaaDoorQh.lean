/- Contracts of functions; calls. -/
import Derived.Test.YtnbjdgamindikaaDoorQg
namespace Go.Q
open Go
set_option linter.unusedVariables false
set_option linter.unusedSimpArgs false

/-- How a call ends. -/
inductive Out : Type 1
  | ret (v : AVal)
  | pan (v : AVal)

def Out.is (e : Nv) : Out → Ending → Prop
  | .ret v, x => ∃ u, x = .returned u ∧ Val e v u
  | .pan v, x => ∃ u, x = .panicked [{ v := u, recovered := false }] ∧ Val e v u

/-- What a call begins with. -/
structure Entry (cx : Cx) (np : Nat) (e : Nv) (M : Mem) (w : World) : Prop where
  w0 : cx.w0 = w
  np : cx.np = np
  m0 : cx.m0 = e.m
  nv0 : cx.nv0 = e
  F : ∀ b, cx.F b ↔ ∃ i, i < M.n ∧ (M.at_ i).live e i ∧ e.own i = b

/-- THE CONTRACT of a function: called with such arguments over such chunks it ends so. The first 'np' chunks stay where they are. -/
def Spec (P : Program) (f : FuncId) (np : Nat) (args : List AVal) (M : Mem) (Q : Out → Mem → Prop) : Prop :=
  ∀ cx e w vs, Entry cx np e M w → Hold cx e M w → Vals e args vs →
    CallsIn (fence none) 0 P f vs.toArray w fun x w' => ∃ o M' e', Q o M' ∧ Hold cx e' M' w' ∧ o.is e' x

theorem Spec.mono {P : Program} {f : FuncId} {np : Nat} {args : List AVal} {M : Mem} {Q Q' : Out → Mem → Prop} (h : Spec P f np args M Q) (hq : ∀ o M, Q o M → Q' o M) : Spec P f np args M Q' :=
  fun cx e w vs h1 h2 h3 => (h cx e w vs h1 h2 h3).mono fun x w' ⟨o, M', e', q, r⟩ => ⟨o, M', e', hq _ _ q, r⟩

def argsEnv (args : List AVal) : Env := ⟨fun t => args.getD t .any, [], []⟩

/-- The marks of ranges over functions taken. -/
def dropMarks (M : Mem) : List Nat → Mem
  | [] => M
  | i :: l => dropMarks (M.set i .gone) l

def marksOk (M : Mem) : List Nat → Prop
  | [] => True
  | i :: l => (M.at_ i = .obj (.deferred (some [])) ∨ M.at_ i = .bag) ∧ marksOk (M.set i .gone) l

/-- One result. -/
def resOf (E : Env) (M : Mem) : ResultVar → Option AVal
  | .tmp t => some (E.v t)
  | .cell t _ => match E.v t with
    | .ptr i off => match M.at_ i with
      | .cells _ l => l[off]?
      | _ => none
    | _ => none

def resAll (E : Env) (M : Mem) : List ResultVar → Option (List AVal)
  | [] => some []
  | r :: rs => match resOf E M r, resAll E M rs with
    | some v, some vs => some (v :: vs)
    | _, _ => none

def resOut : List AVal → AVal
  | [v] => v
  | vs => .tup vs

/-- What a body must come to. -/
def BodyQ (rs : List ResultVar) (Q : Out → Mem → Prop) : Ex → Env → Mem → Prop
  | .normal, E, M => marksOk M E.d ∧ ∃ vs, resAll E (dropMarks M E.d) rs = some vs ∧ Q (.ret (resOut vs)) (dropMarks M E.d)
  | .ret, E, M => marksOk M E.d ∧ ∃ vs, resAll E (dropMarks M E.d) rs = some vs ∧ Q (.ret (resOut vs)) (dropMarks M E.d)
  | .panic v, E, M => marksOk M E.d ∧ Q (.pan v) (dropMarks M E.d)
  | _, _, _ => False

section
variable {P : Program} {cx : Cx} {e : Nv} {M : Mem} {w : World} {E : Env} {nt : Nat} {a : Act}

def resSem (tmps : Array Value) : ResultVar → Sem Value
  | .tmp t => pure (tmps.getD t undef)
  | .cell a t => do loadVar t (← asAddr (tmps.getD a undef))

theorem run_res (hh : Hold cx e M w) (hv : ∀ t, Val e (E.v t) (a.tmps.getD t undef)) : ∀ {rs : List ResultVar} {vs : List AVal}, (∀ t T, ResultVar.cell t T ∈ rs → Sc P T) → resAll E M rs = some vs →
    ∃ us, (rs.mapM (resSem a.tmps)).run P w = .ok us w ∧ Vals e vs us
  | [], vs, _, h => by simp only [resAll, Option.some.injEq] at h; subst h; exact ⟨[], by simp, by simp [Vals]⟩
  | r :: rs, vs, hsc, h => by
    simp only [resAll] at h
    cases h1 : resOf E M r with
    | none => rw [h1] at h; simp at h
    | some v =>
      cases h2 : resAll E M rs with
      | none => rw [h1, h2] at h; simp at h
      | some vs' =>
        rw [h1, h2] at h
        simp only [Option.some.injEq] at h
        subst h
        obtain ⟨us, g1, g2⟩ := run_res hh hv (rs := rs) (fun t T ht => hsc t T (by simp [ht])) h2
        have hone : ∃ u, (resSem a.tmps r).run P w = .ok u w ∧ Val e v u := by
          cases r with
          | tmp t =>
            simp only [resOf, Option.some.injEq] at h1
            subst h1
            exact ⟨_, rfl, hv t⟩
          | cell t T =>
            simp only [resOf] at h1
            split at h1
            · rename_i i off he
              split at h1
              · rename_i ct l hc
                have hp := hv t
                rw [he] at hp
                simp only [Val] at hp
                have hk := hh.ch i hp.1
                rw [hc] at hk
                obtain ⟨_, ws, hb, hws, _⟩ := hk
                obtain ⟨u, hu, hval⟩ := hws.get h1
                refine ⟨u, ?_, hval⟩
                have hcell : w.cell? ⟨e.own i, off, none⟩ = some u := by rw [cell_of hb]; simpa using hu
                simp [resSem, hp.2.2, asAddr, loadVar, (hsc t T (by simp)).isAgg w, hcell]
              · cases h1
            · cases h1
        obtain ⟨u, k1, k2⟩ := hone
        exact ⟨u :: us, by simp [List.mapM_cons, k1, g1], by simp only [Vals]; exact ⟨u, us, rfl, k2, g2⟩⟩

theorem run_results {fn : Func} {rs : List ResultVar} {vs : List AVal} (hh : Hold cx e M w) (hv : ∀ t, Val e (E.v t) (a.tmps.getD t undef)) (hr : fn.results.toList = rs) (hsc : ∀ t T, ResultVar.cell t T ∈ rs → Sc P T) (h : resAll E M rs = some vs) :
    ∃ u, (results fn a.tmps).run P w = .ok u w ∧ Val e (resOut vs) u := by
  subst hr
  obtain ⟨us, h1, h2⟩ := run_res hh hv hsc h
  have hm : ((fn.results.mapM (resSem a.tmps)) : Sem (Array Value)).run P w = .ok us.toArray w := by
    rw [Array.mapM_eq_mapM_toList]
    simp [h1]
  have hres : (results fn a.tmps).run P w = .ok (if h : us.toArray.size = 1 then us.toArray[0] else .tuple us.toArray) w := by
    show ((fn.results.mapM (resSem a.tmps)) >>= fun vs => (pure (if h : vs.size = 1 then vs[0] else .tuple vs) : Sem Value)).run P w = _
    rw [Sem.run_bind, hm]
    rfl
  refine ⟨_, hres, ?_⟩
  match vs, us, h2 with
  | [], us, h2 =>
    simp only [Vals] at h2; subst h2
    simp [resOut, Val, Vals]
  | [v], us, h2 =>
    simp only [Vals] at h2
    obtain ⟨u, ws, rfl, k1, rfl⟩ := h2
    simpa [resOut] using k1
  | v :: v' :: r, us, h2 =>
    have hl := h2.length
    rw [dif_neg (by simp at hl ⊢; omega)]
    simp only [resOut, Val]
    exact ⟨us, rfl, h2⟩

/-- What may be written without anything being told of it. -/
structure Trash (cx : Cx) (e : Nv) (M : Mem) (b : Nat) : Prop where
  m : e.m b = none
  bm : e.bm b = none
  F : cx.F b ∨ cx.w0.heap.size ≤ b
  own : ∀ j, j < e.n → (M.at_ j).live e j → e.own j ≠ b
  bag : ∀ j, j < e.n → (M.at_ j).mark = true → b ∉ e.bag j

theorem Hold.trash (h : Hold cx e M w) {b : Nat} {o : Obj} (t : Trash cx e M b) : Hold cx e M (w.putObj b o) := by
  have hs : ∀ k, k ≠ b → (w.putObj b o).heap[k]? = w.heap[k]? := fun k hk => World.putObj_heap_other hk
  refine ⟨h.bm, h.n, by simp [h.size], h.os, h.tape, h.output, ?_, ?_, ?_, h.m0, h.mnew, ?_, ?_, h.dist, h.np, h.pin, ⟨h.bag.nodup, ?_, h.bag.own, h.bag.dist⟩⟩
  · intro k hk hF
    rw [hs k (by rintro rfl; rcases t.F with h1 | h1; exact hF h1; omega)]
    exact h.frame k hk hF
  · intro k x hk
    rw [hs k (by rintro rfl; rw [t.m] at hk; cases hk)]
    exact h.ro k x hk
  · intro k x hk
    rw [hs k (by rintro rfl; rw [t.bm] at hk; cases hk)]
    exact h.bro k x hk
  · exact fun i hi => Chunk.ok_congr (h.ch i hi) fun hl => hs _ (t.own i hi hl)
  · intro i hi hl
    have := h.live i hi hl
    exact ⟨by simpa using this.1, this.2⟩
  · intro i hi hm x hx
    obtain ⟨h1, h2⟩ := h.bag.at_ i hi hm x hx
    exact ⟨by rw [hs x (by rintro rfl; exact t.bag i hi hm hx)]; exact h1, h2⟩

theorem leave_list {fn : Func} {tmps : Array Value} {R : Ending → World → Prop} {u : FrameMode} (hu : u ≠ .run) : ∀ (bs : List Nat) (w : World) (ds : List Deferred), bs.Nodup → (∀ b ∈ bs, w.heap[b]? = some (.deferred (some [])) ∧ Trash cx e M b) → Hold cx e M w →
    (∀ w', Hold cx e M w' → LeavesInM (fence none) 0 P fn tmps R ds u w') → LeavesInM (fence none) 0 P fn tmps R (bs.map (fun b => { target := .collected b, args := #[] }) ++ ds) u w
  | [], w, ds, _, _, hh, k => k w hh
  | b :: bs, w, ds, hn, hb, hh, k => by
    obtain ⟨h1, h2⟩ := hb b (by simp)
    refine ⟨hu, .inl ⟨b, _, rfl, run_takeDeferred h1, ?_⟩⟩
    refine leave_list hu bs _ ds (List.nodup_cons.1 hn).2 (fun x hx => ?_) (hh.trash h2) k
    obtain ⟨h3, h4⟩ := hb x (by simp [hx])
    exact ⟨by rw [World.putObj_heap_other (by rintro rfl; exact (List.nodup_cons.1 hn).1 hx)]; exact h3, h4⟩

/-- The way out through the marks. -/
theorem leave_marks {fn : Func} {tmps : Array Value} {R : Ending → World → Prop} {u : FrameMode} (hu : u ≠ .run) : ∀ (d : List Nat) (M : Mem) (w : World) (ds : List Deferred), Hold cx e M w → marks e M d ds → marksOk M d →
    (∀ w', Hold cx e (dropMarks M d) w' → LeavesInM (fence none) 0 P fn tmps R [] u w') → LeavesInM (fence none) 0 P fn tmps R ds u w
  | [], M, w, ds, hh, hm, _, k => by simp only [marks] at hm; subst hm; exact k w hh
  | i :: d, M, w, ds, hh, hm, hok, k => by
    obtain ⟨r, rfl, hi, hr⟩ := hm
    obtain ⟨h1, h2⟩ := hok
    have hmk : (M.at_ i).mark = true := by rcases h1 with h1 | h1 <;> rw [h1] <;> rfl
    have mk : ∀ j, ((M.set i .gone).at_ j).mark = true → j ≠ i ∧ (M.at_ j).mark = true := by
      intro j hj
      rw [Mem.set_at] at hj
      split at hj
      · cases hj
      · rename_i hji; exact ⟨hji, hj⟩
    have lv : ∀ j, ((M.set i .gone).at_ j).live e j → (M.at_ j).live e j := by
      intro j hj
      rw [Mem.set_at] at hj
      split at hj
      · exact hj.elim
      · exact hj
    have tr : ∀ b ∈ e.bag i, Trash cx e (M.set i .gone) b := fun b hb => by
      obtain ⟨g1, g2, g3, g4⟩ := hh.bag.at_ i hi hmk b hb
      exact ⟨g2, g3, g4, fun j hj hl => hh.bag.own i hi hmk b hb j hj (lv j hl), fun j hj hm => hh.bag.dist i j hi hj hmk (mk j hm).2 (fun h => (mk j hm).1 h.symm) b hb⟩
    have hch := hh.ch i hi
    rcases h1 with h1 | h1
    · rw [h1] at hch
      obtain ⟨hvir, hb'⟩ := hch
      have hlive : (M.at_ i).live e i := by rw [h1]; trivial
      rw [show markBlocks e i = e.own i :: e.bag i by unfold markBlocks; rw [hvir]; rfl, List.map_cons, List.cons_append]
      refine ⟨hu, .inl ⟨e.own i, _, rfl, run_takeDeferred hb', ?_⟩⟩
      have hh1 : Hold cx e (M.set i .gone) (w.putObj (e.own i) (.deferred none)) := hh.change hi hlive rfl rfl rfl (by simp [World.putObj]) (fun k hk => World.putObj_heap_other hk) trivial
      refine leave_list hu (e.bag i) _ r (hh.bag.nodup i hi hmk) (fun b hb => ⟨?_, tr b hb⟩) hh1 (fun w' hh' => leave_marks hu d (M.set i .gone) w' r hh' (hr.mono (Nv.le.refl e)) h2 k)
      rw [World.putObj_heap_other (fun h => hh.bag.own i hi hmk b hb i hi hlive h.symm)]
      exact (hh.bag.at_ i hi hmk b hb).1
    · rw [h1] at hch
      have hvir : e.vir i = true := hch
      rw [show markBlocks e i = e.bag i by unfold markBlocks; rw [hvir]; rfl]
      exact leave_list hu (e.bag i) _ r (hh.bag.nodup i hi hmk) (fun b hb => ⟨(hh.bag.at_ i hi hmk b hb).1, tr b hb⟩) (hh.drop i) (fun w' hh' => leave_marks hu d (M.set i .gone) w' r hh' (hr.mono (Nv.le.refl e)) h2 k)

/-- A FUNCTION's CONTRACT FROM THE WALK OF ITS BODY. -/
theorem Spec.of_body {f : FuncId} {fn : Func} {c : Code} {np nt : Nat} {args : List AVal} {Q : Out → Mem → Prop} {rs : List ResultVar} (hf : P.funcs[f]? = some fn) (hb : fn.body = some c) (hr : fn.results.toList = rs) (hsc : ∀ t T, ResultVar.cell t T ∈ rs → Sc P T)
    (hnt : fn.ntmps = nt) (ha : Nat.ble args.length nt = true) (h : ∀ cx, cx.np = np → WP P cx ⟨nt, none⟩ c (argsEnv args) M (BodyQ rs Q)) : Spec P f np args M Q := by
  intro cx e w vs hent hh hv
  have hlen := hv.length
  have ha' : args.length ≤ nt := by simpa using ha
  refine callsIn_of_wp_marks hf hb trivial ?_ rfl
  have hemb : Emb nt e M (argsEnv args) { tmps := vs.toArray ++ Array.replicate (fn.ntmps - vs.toArray.size) undef, defers := [] } := by
    refine ⟨by simp [hnt, hlen]; omega, fun t => ?_, rfl, fun p hp => by cases hp⟩
    simp only [argsEnv, List.getD_eq_getElem?_getD]
    by_cases ht : t < args.length
    · rw [List.getElem?_eq_getElem ht]
      obtain ⟨v, h1, h2⟩ := hv.get (List.getElem?_eq_getElem ht)
      have hs : (vs.toArray ++ Array.replicate (fn.ntmps - vs.toArray.size) undef).getD t undef = v := by
        rw [Array.getD_eq_getD_getElem?, Array.getElem?_append_left (by simpa [hlen] using ht)]
        simp [h1]
      rw [hs]
      exact h2
    · rw [List.getElem?_eq_none (by omega)]
      simp [Val]
  refine Go.wpIn_mono (h cx hent.np _ w e hh hemb) fun x a' w' k => ?_
  obtain ⟨y, E', M', e', q, h1, h2, h3⟩ := k
  have fin : Emb nt e' M' E' a' → (marksOk M' E'.d ∧ ∃ vs, resAll E' (dropMarks M' E'.d) rs = some vs ∧ Q (.ret (resOut vs)) (dropMarks M' E'.d)) →
      LeavesInM (fence none) 0 P fn a'.tmps (fun x w' => ∃ o M' e', Q o M' ∧ Hold cx e' M' w' ∧ o.is e' x) a'.defers .returning w' := by
    rintro h2 ⟨q1, vs', q2, q3⟩
    refine leave_marks (by simp) E'.d M' w' a'.defers h1 h2.d q1 fun w'' hh'' => ?_
    obtain ⟨u, g1, g2⟩ := run_results (a := a') hh'' h2.v hr hsc q2
    exact ⟨u, g1, _, _, e', q3, hh'', u, rfl, g2⟩
  cases y with
  | normal => cases h3; exact fin h2 q
  | ret => cases h3; exact fin h2 q
  | exit id => exact q.elim
  | goto l => exact q.elim
  | panic v =>
    obtain ⟨u, rfl, hu⟩ := h3
    obtain ⟨q1, q2⟩ := q
    refine leave_marks (u := .panicking [{ v := u, recovered := false }]) (by simp) E'.d M' w' a'.defers h1 h2.1 q1 fun w'' hh'' => ?_
    exact ⟨_, _, e', q2, hh'', u, rfl, hu⟩
end
end Go.Q
