/- Regions that draw their order: several operations with an effect may come up. -/
import Derived.Test.YtnbjdgamindikaaDoorQs
namespace Go.Q
open Go
set_option linter.unusedVariables false
set_option linter.unusedSimpArgs false
section
variable {P : Program} {cx : Cx} {fr : Fr} {ops : Array Oper} {os : List Oper} {E : Env} {M M' : Mem} {Q : Ex → Env → Mem → Prop} {op : Op} {ty : TypeId} {pos : String} {after : Array Edge} {dst : Nat} {v : AVal} {tc : List Nat}
variable {st st' X X' : List Nat} {fuel : Nat} {listed : Array Bool} {i : Nat}

/-- The walk, when operation i comes up next. -/
def WPD1 (P : Program) (cx : Cx) (fr : Fr) (ops : Array Oper) (st X : List Nat) (fuel : Nat) (listed : Array Bool) (i : Nat) (E : Env) (M : Mem) (Q : Ex → Env → Mem → Prop) : Prop :=
  ∀ a w e, Hold cx e M w → Emb fr.nt e M E a → wpOpIn (fence fr.r) 0 P ops (Sat cx fr Q) i
    (fun a' w' => (X.contains i = true ∧ Agree e [] w w' ∧ wpAnyG P fr.r .any ops (Sat cx fr Q) (Agree e [] w) fuel (listed.setIfInBounds i true) a' w') ∨
      (X.contains i = false ∧ Agree e st w w' ∧ wpAnyF P fr.r .any ops (Sat cx fr Q) (Agree e [] w) (Agree e st w) X fuel (listed.setIfInBounds i true) a' w')) a w

def readyAre (ops : Array Oper) (listed : Array Bool) (l : List Nat) : Bool := Region.ready .any ops listed == l && !l.isEmpty

theorem WPD.ofL (l : List Nat) (hb : readyAre ops listed l = true) (h : ∀ i ∈ l, WPD1 P cx fr ops st X fuel listed i E M Q) : WPD P cx fr ops st X (fuel + 1) listed E M Q := by
  intro a w e hh he
  simp only [readyAre, Bool.and_eq_true, beq_iff_eq, Bool.not_eq_true'] at hb
  refine ⟨fun h0 => ?_, fun j hj => ?_⟩
  · rw [hb.1] at h0; subst h0; simp at hb
  · rw [hb.1] at hj
    exact h j hj a w e hh he
theorem WPD.of2 (i j : Nat) (hb : readyAre ops listed [i, j] = true) (h1 : WPD1 P cx fr ops st X fuel listed i E M Q) (h2 : WPD1 P cx fr ops st X fuel listed j E M Q) : WPD P cx fr ops st X (fuel + 1) listed E M Q :=
  WPD.ofL [i, j] hb fun k hk => by
    simp only [List.mem_cons, List.not_mem_nil, or_false] at hk
    rcases hk with rfl | rfl
    · exact h1
    · exact h2
theorem WPD.of3 (i j k : Nat) (hb : readyAre ops listed [i, j, k] = true) (h1 : WPD1 P cx fr ops st X fuel listed i E M Q) (h2 : WPD1 P cx fr ops st X fuel listed j E M Q) (h3 : WPD1 P cx fr ops st X fuel listed k E M Q) : WPD P cx fr ops st X (fuel + 1) listed E M Q :=
  WPD.ofL [i, j, k] hb fun m hk => by
    simp only [List.mem_cons, List.not_mem_nil, or_false] at hk
    rcases hk with rfl | rfl | rfl
    · exact h1
    · exact h2
    · exact h3

theorem WPD1.cvL {E' : Env} {M' : Mem} (k : CvL cx fr.nt E M E' M') (hst : (st.all fun i => Nat.blt i M.n) = true) (h : WPD1 P cx fr ops st X fuel listed i E' M' Q) : WPD1 P cx fr ops st X fuel listed i E M Q := fun a w e hh he => by
  obtain ⟨e', h1, h2, hle⟩ := k a w e hh he
  have key : ∀ (l : List Nat), (l.all fun i => Nat.blt i M.n) = true → ∀ w1, Agree e' l w w1 → Agree e l w w1 := fun l hl w1 hw => ⟨fun b o hb => hw.ro b o (hle.m b o hb), fun b o hb => hw.bro b o (hle.bm b o hb), fun i hi hv => by
    have hin : i < e.n := by rw [hh.n]; simpa using List.all_eq_true.1 hl i hi
    have := hw.own i hi ((hle.vir i hin).trans hv)
    rw [hle.own i hin] at this
    exact this⟩
  refine wpOpIn_mono (fun a' w' h' => ?_) (h a w e' h1 h2)
  rcases h' with ⟨g1, g2, g3⟩ | ⟨g1, g2, g3⟩
  · exact .inl ⟨g1, key [] rfl _ g2, wpAnyG_mono (key [] rfl) _ _ _ _ g3⟩
  · exact .inr ⟨g1, key st hst _ g2, wpAnyF_mono (key [] rfl) (fun w1 h => (key st hst w1 h).nil_of) (key st hst) (fun _ h => h) _ _ _ _ g3⟩

theorem WPD1.eff_core (i : Nat) (st' X' : List Nat) {o : Oper} {E' : Env} (ho : ops[i]? = some o)
    (hg : ∀ a e, Emb fr.nt e M E a → Region.wanted o (yielded ops a.tmps) = true)
    (hs : (X.contains i || (X'.all X.contains && st.all fun j => st'.contains j && Nat.blt j M.n && (M.at_ j).isOwn && !(tc.contains j))) = true)
    (hstep : ∀ a w e, Hold cx e M w → Emb fr.nt e M E a → ∀ (next : Act → World → Prop) (Q : Exit → Act → World → Prop),
      (∀ a' w' e', Hold cx e' M' w' → e.le e' → Emb fr.nt e' M' E' a' → (∀ b, b < w.heap.size → (∀ i ∈ tc, i < e.n → (M.at_ i).live e i → e.own i ≠ b) → w'.heap[b]? = w.heap[b]?) → next a' w') →
      o.wpIn (fence fr.r) 0 P a w next Q)
    (k : WPD P cx fr ops st' X' fuel (listed.setIfInBounds i true) E' M' Q) : WPD1 P cx fr ops st X fuel listed i E M Q := by
  intro a w e hh he
  unfold wpOpIn
  simp only [ho]
  rw [if_pos (hg _ _ he)]
  refine hstep a w e hh he _ _ fun a' w' e' hh' hle he' hfr => ?_
  have hk := k a' w' e' hh' he'
  have hag : ∀ {st'' : List Nat} w1, Agree e' st'' w' w1 → Agree e [] w w1 := fun w1 hw => ⟨fun b o hb => hw.ro b o (hle.m b o hb), fun b o hb => hw.bro b o (hle.bm b o hb), fun _ hi => by cases hi⟩
  cases hx : X.contains i with
  | true => exact .inl ⟨rfl, hag _ (Agree.of_hold hh' st'), wpAnyG_of_F (fun w1 h => hag w1 h) (fun w1 h => hag w1 h) _ _ _ _ hk⟩
  | false =>
    rw [hx, Bool.false_or, Bool.and_eq_true] at hs
    have hst : ∀ x ∈ st, e.vir x = false → x < e.n ∧ w'.heap[e.own x]? = w.heap[e.own x]? ∧ x ∈ st' := by
      intro x hx hvx
      have h := List.all_eq_true.1 hs.2 x hx
      simp only [Bool.and_eq_true, Nat.blt_eq, Bool.not_eq_true'] at h
      obtain ⟨⟨⟨h1, h2⟩, h3⟩, h4⟩ := h
      have hxn : x < e.n := by rw [hh.n]; exact h2
      have hlx : (M.at_ x).live e x := by
        cases hc : M.at_ x with
        | cells t l => trivial
        | row t R l => exact hvx
        | gone => rw [hc] at h3; simp [Chunk.isOwn] at h3
        | obj o => rw [hc] at h3; simp [Chunk.isOwn] at h3
        | bag => rw [hc] at h3; simp [Chunk.isOwn] at h3
      refine ⟨hxn, hfr _ (hh.live x hxn hlx).1 fun y hy hyn hly hxy => ?_, by simpa using h1⟩
      have := hh.dist y x hyn hxn hly hlx hxy
      subst this
      rw [List.contains_eq_mem] at h4
      simp [hy] at h4
    have hmono : ∀ w1, Agree e' st' w' w1 → Agree e st w w1 := by
      intro w1 hw
      refine ⟨fun b o hb => hw.ro b o (hle.m b o hb), fun b o hb => hw.bro b o (hle.bm b o hb), fun x hx hvx => ?_⟩
      obtain ⟨h1, h2, h3⟩ := hst x hx hvx
      have := hw.own x h3 ((hle.vir x h1).trans hvx)
      rw [hle.own x h1] at this
      exact this.trans h2
    refine .inr ⟨rfl, hmono _ (Agree.of_hold hh' st'), wpAnyF_mono (fun w1 h => hag w1 h) (fun w1 h => hag w1 h) hmono (fun y hy => ?_) _ _ _ _ hk⟩
    exact List.all_eq_true.1 hs.1 y (by simpa using hy)

theorem WPD1.eff (i : Nat) (st' X' : List Nat) (ho : ops[i]? = some { dst := some dst, op := op, type := ty, pos := pos, after := after, guard := Option.none })
    (h : Runs P op ty E M tc v M') (hs : (X.contains i || (X'.all X.contains && st.all fun j => st'.contains j && Nat.blt j M.n && (M.at_ j).isOwn && !(tc.contains j))) = true) (ht : Nat.blt dst fr.nt = true)
    (k : WPD P cx fr ops st' X' fuel (listed.setIfInBounds i true) (E.upd dst v) M' Q) : WPD1 P cx fr ops st X fuel listed i E M Q :=
  WPD1.eff_core (tc := tc) (M' := M') i st' X' ho (fun _ _ _ => rfl) hs (fun a w e hh he next Q' hk => h cx fr a w e hh he _ rfl rfl _ _ fun x w' e' hh' hle hv hfr _ =>
    hk _ w' e' hh' hle.1 ((he.mono hle.1 hle.2).put ht hv) hfr) k

theorem WPD1.effg (i : Nat) (st' X' : List Nat) {j t : Nat} {b : Bool} (ho : ops[i]? = some { dst := some dst, op := op, type := ty, pos := pos, after := after, guard := some (j, b) })
    (hj : (ops[j]?).bind (·.dst) = some t) (htj : Nat.blt t fr.nt = true) (hv : E.v t = .lit (.bool b))
    (h : Runs P op ty E M tc v M') (hs : (X.contains i || (X'.all X.contains && st.all fun j => st'.contains j && Nat.blt j M.n && (M.at_ j).isOwn && !(tc.contains j))) = true) (ht : Nat.blt dst fr.nt = true)
    (k : WPD P cx fr ops st' X' fuel (listed.setIfInBounds i true) (E.upd dst v) M' Q) : WPD1 P cx fr ops st X fuel listed i E M Q :=
  WPD1.eff_core (tc := tc) (M' := M') i st' X' ho (fun _ _ he => by simp [Region.wanted, yields he hj htj hv]) hs (fun a w e hh he next Q' hk => h cx fr a w e hh he _ rfl rfl _ _ fun x w' e' hh' hle hv hfr _ =>
    hk _ w' e' hh' hle.1 ((he.mono hle.1 hle.2).put ht hv) hfr) k

theorem WPD1.effS (i : Nat) (st' X' : List Nat) (ho : ops[i]? = some { dst := Option.none, op := op, type := ty, pos := pos, after := after, guard := Option.none })
    (h : DoesS P op ty E M tc M') (hs : (X.contains i || (X'.all X.contains && st.all fun j => st'.contains j && Nat.blt j M.n && (M.at_ j).isOwn && !(tc.contains j))) = true)
    (k : WPD P cx fr ops st' X' fuel (listed.setIfInBounds i true) E M' Q) : WPD1 P cx fr ops st X fuel listed i E M Q :=
  WPD1.eff_core (tc := tc) (M' := M') i st' X' ho (fun _ _ _ => rfl) hs (fun a w e hh he next Q' hk => by
    obtain ⟨w', e', hr, hh', hle, hfr, _⟩ := h cx fr.nt a w e hh he
    refine ⟨fun _ _ => trivial, ?_⟩
    rw [semAt_skip hr]
    exact hk _ w' e' hh' hle.1 (he.mono hle.1 hle.2) hfr) k

/-- Guards and steps the other way round. -/
theorem grdI {α : Type} {b : Bool} {x : Option α} {r : α} (h : b = true) (k : x = some r) : (bif b then x else none) = some r := by rw [h]; exact k
theorem bndI {α β : Type} {f : Option α} {v : α} {R : α → Option β} {r : β} (h : f = some v) (k : R v = some r) : f.bind R = some r := by rw [h]; exact k
end
/-- Truth values put together. -/
theorem aS {b x : Bool} : (bif b then some x else some false) = some (b && x) := by cases b <;> rfl
theorem oS {b x : Bool} : (bif b then some true else some x) = some (b || x) := by cases b <;> rfl
theorem naS {b x : Bool} : (bif b then some false else some x) = some (!b && x) := by cases b <;> rfl
theorem noS {b x : Bool} : (bif b then some x else some true) = some (!b || x) := by cases b <;> rfl
theorem bP {α : Type} {b : Bool} {x y : α} : (bif b then x else y) = if b = true then x else y := by cases b <;> rfl
end Go.Q
