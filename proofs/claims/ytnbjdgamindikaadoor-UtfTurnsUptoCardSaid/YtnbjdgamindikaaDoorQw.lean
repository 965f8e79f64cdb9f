/- Pointers that may be nil; both ways of a truth value. -/
import Derived.Test.YtnbjdgamindikaaDoorQv
namespace Go.Q
open Go
set_option linter.unusedVariables false
set_option linter.unusedSimpArgs false
section
variable {P : Program} {cx : Cx} {fr : Fr} {nt : Nat} {E E' : Env} {M M' : Mem} {Q : Ex → Env → Mem → Prop} {ty : TypeId}

/-- A cell's value, said in other words. -/
theorem Cv.cellTo {i off : Nat} {t : TypeId} {l : List AVal} {v v' : AVal} (hi : Nat.blt i M.n = true) (hc : M.at_ i = .cells t l) (hv : l[off]? = some v) (h : ∀ w e u, Hold cx e M w → Val e v u → Val e v' u) :
    Cv cx nt E M E (M.set i (.cells t (l.set off v'))) :=
  fun a w e hh he => by
    have hin : i < e.n := by rw [hh.n]; simpa using hi
    have hlive : (M.at_ i).live e i := by rw [hc]; trivial
    refine ⟨e, hh.change hin hlive rfl rfl rfl rfl (fun _ _ => rfl) ?_, he.mem⟩
    have hk := hh.ch i hin
    rw [hc] at hk
    obtain ⟨g1, vs, g2, g3, g4⟩ := hk
    refine ⟨g1, vs, g2, ?_, g4⟩
    obtain ⟨u, hu, hval⟩ := g3.get hv
    have hset : vs = vs.set off u := by
      apply List.ext_getElem?
      intro j
      rw [List.getElem?_set]
      split
      · rename_i hj; subst hj; split
        · rename_i hlt; rw [hu]
        · rename_i hge; rw [List.getElem?_eq_none (by omega)]
      · rfl
    rw [hset]
    exact g3.set (h w e u hh hval)
/-- Nil, or a pointer to a cell of a chunk of our own. -/
theorem Cv.optC0 {i off j o : Nat} {t tj : TypeId} {l lj : List AVal} (hi : Nat.blt i M.n = true) (hc : M.at_ i = .cells t l) (hv : l[off]? = some (.lit (.pointer none))) (hj : Nat.blt j M.n = true) (hcj : M.at_ j = .cells tj lj) :
    Cv cx nt E M E (M.set i (.cells t (l.set off (.opt false j o)))) :=
  Cv.cellTo hi hc hv fun w e u hh h => by
    simp only [Val] at h ⊢
    have hjn : j < e.n := by rw [hh.n]; simpa using hj
    have hk := hh.ch j hjn
    rw [hcj] at hk
    exact ⟨hjn, hk.1, h⟩
theorem Cv.optC1 {i off j o : Nat} {t : TypeId} {l : List AVal} (hi : Nat.blt i M.n = true) (hc : M.at_ i = .cells t l) (hv : l[off]? = some (.ptr j o)) :
    Cv cx nt E M E (M.set i (.cells t (l.set off (.opt true j o)))) :=
  Cv.cellTo hi hc hv fun w e u hh h => by
    simp only [Val] at h ⊢
    exact h

theorem q_eqlpOpt {t el yt : TypeId} {x : Operand} {c : Bool} {i o : Nat} (ht : P.underlying t = some (.pointer el)) (hx : E.ev x = .opt c i o) : Quiet P (.binOp .eql t x (.const (.pointer Option.none)) yt) ty E M [] (.lit (.bool (!c))) :=
  fun _ _ a w e _ he => ⟨.bool (!c), by simp [Val], fun w1 _ => by
    have hv := he.ev x; rw [hx] at hv; simp only [Val] at hv
    cases c with
    | true =>
      simp only [cond_true] at hv
      simp only [exec1, execOp, hv.2.2, g_ptr, eval_const, Sem.run_bind, Sem.run_pure, Result.andThen, run_eql_ptr ht]
      rfl
    | false =>
      simp only [cond_false] at hv
      simp only [exec1, execOp, hv.2.2, g_ptr, eval_const, Sem.run_bind, Sem.run_pure, Result.andThen, run_eql_nil ht]
      rfl⟩
theorem q_neqpOpt {t el yt : TypeId} {x : Operand} {c : Bool} {i o : Nat} (ht : P.underlying t = some (.pointer el)) (hx : E.ev x = .opt c i o) : Quiet P (.binOp .neq t x (.const (.pointer Option.none)) yt) ty E M [] (.lit (.bool c)) :=
  fun _ _ a w e _ he => ⟨.bool c, by simp [Val], fun w1 _ => by
    have hv := he.ev x; rw [hx] at hv; simp only [Val] at hv
    cases c with
    | true =>
      simp only [cond_true] at hv
      simp only [exec1, execOp, hv.2.2, g_ptr, eval_const, Sem.run_bind, Sem.run_pure, Result.andThen, run_neq_ptr ht]
    | false =>
      simp only [cond_false] at hv
      simp only [exec1, execOp, hv.2.2, g_ptr, eval_const, Sem.run_bind, Sem.run_pure, Result.andThen, run_neq_nil ht]⟩

/-- A pointer that is there. -/
theorem opt_ptr {e : Nv} {c : Bool} {i o : Nat} {v : Value} (hc : c = true) (h : Val e (.opt c i o) v) : Val e (.ptr i o) v := by
  subst hc
  simpa only [Val, cond_true] using h
theorem q_neqpOptSelf {t te yt : TypeId} {x y : Operand} {c : Bool} {i o : Nat} (ht : P.underlying t = some (.pointer te)) (hte : ∃ j, P.info? te = some j) (hc : c = true) (hx : E.ev x = .opt c i o) (hy : E.ev y = .ptr i o) : Quiet P (.binOp .neq t x y yt) ty E M [] (.lit (.bool false)) :=
  fun cx nt a w e hh he => by
    have hp := he.ev x; rw [hx] at hp
    have hp := opt_ptr hc hp
    simp only [Val] at hp
    have hq := he.ev y; rw [hy] at hq; simp only [Val] at hq
    obtain ⟨j, hj⟩ := hte
    refine ⟨.bool false, by simp [Val], fun w1 hw => ?_⟩
    have := Lib.run_neq_ptr_same (P := P) w1 (⟨e.own i, o, none⟩ : Addr) ht hj
    simp only [exec1, execOp, hp.2.2, hq.2.2, g_ptr, Sem.run_bind, Sem.run_pure, Result.andThen, this]

/-- Both ways of a truth value. -/
theorem WPL.splitB {ops : Array Oper} {os : List Oper} (b : Bool) (h1 : b = true → WPL P cx fr ops os E M Q) (h2 : b = false → WPL P cx fr ops os E M Q) : WPL P cx fr ops os E M Q := by
  cases b with
  | true => exact h1 rfl
  | false => exact h2 rfl
theorem WPD.splitB {ops : Array Oper} {st X : List Nat} {fuel : Nat} {listed : Array Bool} (b : Bool) (h1 : b = true → WPD P cx fr ops st X fuel listed E M Q) (h2 : b = false → WPD P cx fr ops st X fuel listed E M Q) : WPD P cx fr ops st X fuel listed E M Q := by
  cases b with
  | true => exact h1 rfl
  | false => exact h2 rfl
theorem WP.condTB {c : Operand} {x y : Code} {t : Bool} (hc : E.ev c = .lit (.bool t)) (hb : t = true) (h : WP P cx fr x E M Q) : WP P cx fr (.cond c x y) E M Q := WP.condT (hb ▸ hc) h
theorem WP.condFB {c : Operand} {x y : Code} {t : Bool} (hc : E.ev c = .lit (.bool t)) (hb : t = false) (h : WP P cx fr y E M Q) : WP P cx fr (.cond c x y) E M Q := WP.condF (hb ▸ hc) h
theorem notT {b : Bool} (h : (!b) = true) : b = false := by cases b <;> simp_all
theorem notF {b : Bool} (h : (!b) = false) : b = true := by cases b <;> simp_all
theorem len0 {α : Type} {l : List α} (h : decide (l.length = 0) = true) : ((l.length : Nat) : Int) = 0 := by
  have := of_decide_eq_true h
  omega
end

/-- An array, by rows. -/
theorem array_rows {α : Type} {A : Rd α} {d0 : α} {n : Nat} {m : Ro} {l : List α} {cs : List Value} (h : rows A m l cs) (hl : l.length = n) (hc : cs.length = n * A.sz) : (Rd.array n A d0).ok m l cs :=
  ⟨hc, fun j hj => by
    have hj' : j < l.length := by omega
    have := rows_get h (i := j) (d := l[j]) (List.getElem?_eq_getElem hj')
    rw [List.getD_eq_getElem?_getD, List.getElem?_eq_getElem hj']
    exact this⟩
theorem rows_ints {k : IntKind} {m : Ro} : ∀ (l : List Int), rows (Rd.int k) m l (l.map (Value.int k))
  | [] => trivial
  | x :: l => ⟨rfl, rows_ints l⟩
end Go.Q
