/- Small words for printed walks. -/
import Derived.Test.YtnbjdgamindikaaDoorQk
namespace Go.Q
open Go
set_option linter.unusedVariables false
set_option linter.unusedSimpArgs false

theorem grd {α : Type} {b : Bool} {x : Option α} {r : α} (h : (bif b then x else none) = some r) : b = true ∧ x = some r := by
  cases b with
  | true => exact ⟨rfl, h⟩
  | false => cases h
theorem bnd {α β : Type} {x : Option α} {f : α → Option β} {r : β} (h : x.bind f = some r) : ∃ a, x = some a ∧ f a = some r := Option.bind_eq_some_iff.1 h
theorem cnt {α : Type} {b : Bool} {x y : Option α} {r : α} (hb : b = true) (h : (bif b then x else y) = some r) : x = some r := by subst hb; exact h
theorem cnf {α : Type} {b : Bool} {x y : Option α} {r : α} (hb : b = false) (h : (bif b then x else y) = some r) : y = some r := by subst hb; exact h
theorem inj {α : Type} {x r : α} (h : some x = some r) : r = x := (Option.some.inj h).symm

section
variable {P : Program} {cx : Cx} {fr : Fr} {E : Env} {M : Mem} {Q : Ex → Env → Mem → Prop} {next : Env → Mem → Prop} {ty : TypeId}

theorem Then.n (h : next E M) : Then next Q .normal E M := h
theorem Then.r (h : Q .ret E M) : Then next Q .ret E M := h
theorem Then.x {id : Nat} (h : Q (.exit id) E M) : Then next Q (.exit id) E M := h
theorem Then.p {v : AVal} (h : Q (.panic v) E M) : Then next Q (.panic v) E M := h
theorem InBlock.n {id : Nat} (h : Q .normal E M) : InBlock id Q .normal E M := h
theorem InBlock.r {id : Nat} (h : Q .ret E M) : InBlock id Q .ret E M := h
theorem InBlock.p {id : Nat} {v : AVal} (h : Q (.panic v) E M) : InBlock id Q (.panic v) E M := h
theorem InBlock.x0 {id : Nat} (h : Q .normal E M) : InBlock id Q (.exit id) E M := by simp only [InBlock, Nat.beq_eq, if_true]; exact h
theorem InBlock.x {id id' : Nat} (hi : Nat.beq id' id = false) (h : Q (.exit id') E M) : InBlock id Q (.exit id') E M := by
  simp only [InBlock]
  rw [if_neg (by rw [hi]; simp)]
  exact h

theorem WP.condT {c : Operand} {x y : Code} (hc : E.ev c = .lit (.bool true)) (h : WP P cx fr x E M Q) : WP P cx fr (.cond c x y) E M Q := WP.cond hc (fun _ => h) (fun h => by cases h)
theorem WP.condF {c : Operand} {x y : Code} (hc : E.ev c = .lit (.bool false)) (h : WP P cx fr y E M Q) : WP P cx fr (.cond c x y) E M Q := WP.cond hc (fun h => by cases h) (fun _ => h)

theorem q_mv {x : Operand} {v : AVal} (h : E.ev x = v) : Quiet P (.move x) ty E M [] v := h ▸ q_move x
theorem q_as {x : Operand} {v : AVal} (h : E.ev x = v) : Quiet P (.assign x) ty E M [] v := h ▸ q_assign x
theorem q_pickT {c x y : Operand} {v : AVal} (hc : E.ev c = .lit (.bool true)) (h : E.ev x = v) : Quiet P (.pick c x y) ty E M [] v := by
  have := q_pick (P := P) (ty := ty) (M := M) (x := x) (y := y) hc
  simp only [cond_true] at this
  exact h ▸ this
theorem q_pickF {c x y : Operand} {v : AVal} (hc : E.ev c = .lit (.bool false)) (h : E.ev y = v) : Quiet P (.pick c x y) ty E M [] v := by
  have := q_pick (P := P) (ty := ty) (M := M) (x := x) (y := y) hc
  simp only [cond_false] at this
  exact h ▸ this

/-- A guard's case: both ways. -/
theorem WPL.split {ops : Array Oper} {os : List Oper} {t : Nat} {b : Bool} (hv : E.v t = .lit (.bool b)) (h1 : b = true → WPL P cx fr ops os E M Q) (h2 : b = false → WPL P cx fr ops os E M Q) : WPL P cx fr ops os E M Q := by
  cases b with
  | true => exact h1 rfl
  | false => exact h2 rfl

/-- A name for nil in a cell of our own. -/
theorem Hold.virCell {e : Nv} {w : World} (hh : Hold cx e M w) {α : Type} {ct R} {i off N : Nat} {t : TypeId} {l : List AVal} (hN : M.n = N) (hi : i < N) (hc : M.at_ i = .cells t l) (hv : l[off]? = some (.lit (.slice none 0 0))) :
    Hold cx (e.bump 0 0 0 true) ((M.push (.row ct (R : Rd α) [])).set i (.cells t (l.set off (.whole N)))) w := by
  have h1 := hh.bindVir (t := ct) (R := R)
  have hin : i < (e.bump 0 0 0 true).n := by simp only [Nv.bump, hh.n, hN]; omega
  have hat : (M.push (.row ct R [])).at_ i = .cells t l := by rw [Mem.push_at, if_neg (by omega)]; exact hc
  have hlive : ((M.push (.row ct R [])).at_ i).live (e.bump 0 0 0 true) i := by rw [hat]; trivial
  refine h1.change hin hlive rfl rfl rfl rfl (fun _ _ => rfl) ?_
  have hk := h1.ch i hin
  rw [hat] at hk
  obtain ⟨g1, vs, g2, g3, g4⟩ := hk
  refine ⟨g1, vs, g2, ?_, g4⟩
  obtain ⟨u, hu, hval⟩ := g3.get hv
  simp only [Val] at hval
  have hset : vs = vs.set off u := by
    apply List.ext_getElem?
    intro j
    rw [List.getElem?_set]
    split
    · rename_i hj; subst hj; split
      · rename_i hlt; rw [hu]
      · rename_i hge; rw [List.getElem?_eq_none (by omega)]
    · rfl
  rw [hset]
  refine g3.set ?_
  rw [hval]
  simp only [Val, Nv.bump, ← hN, ← hh.n, if_true]
  exact ⟨Nat.lt_succ_self _, Nat.le_refl _, trivial, trivial⟩

theorem WPL.virC {ops : Array Oper} {os : List Oper} {α : Type} (ct : TypeId) (R : Rd α) {i off N : Nat} {t : TypeId} {l : List AVal} (hN : M.n = N) (hi : Nat.blt i N = true) (hc : M.at_ i = .cells t l) (hv : l[off]? = some (.lit (.slice none 0 0)))
    (k : WPL P cx fr ops os E ((M.push (.row ct R [])).set i (.cells t (l.set off (.whole N)))) Q) : WPL P cx fr ops os E M Q :=
  fun a w e hh he => k a w _ (hh.virCell hN (by simpa using hi) hc hv) (he.mono (e.bump_le 0 0 0 true) (fun b => e.bump_mem 0 0 0 true b))
theorem WP.virC {c : Code} {α : Type} (ct : TypeId) (R : Rd α) {i off N : Nat} {t : TypeId} {l : List AVal} (hN : M.n = N) (hi : Nat.blt i N = true) (hc : M.at_ i = .cells t l) (hv : l[off]? = some (.lit (.slice none 0 0)))
    (k : WP P cx fr c E ((M.push (.row ct R [])).set i (.cells t (l.set off (.whole N)))) Q) : WP P cx fr c E M Q :=
  fun a w e hh he => k a w _ (hh.virCell hN (by simpa using hi) hc hv) (he.mono (e.bump_le 0 0 0 true) (fun b => e.bump_mem 0 0 0 true b))
theorem WP.vir {c : Code} {α : Type} (ct : TypeId) (R : Rd α) {N : Nat} (hN : M.n = N) (tt : Nat) (hv : E.v tt = .lit (.slice none 0 0)) (k : WP P cx fr c (E.upd tt (.whole N)) (M.push (.row ct R [])) Q) : WP P cx fr c E M Q := by
  intro a w e hh he
  refine k a w (e.bump 0 0 0 true) hh.bindVir ?_
  have h1 : Emb fr.nt (e.bump 0 0 0 true) (M.push (.row ct R [])) E a := he.mono (e.bump_le 0 0 0 true) (fun b => e.bump_mem 0 0 0 true b)
  refine ⟨h1.sz, fun u => ?_, h1.d, h1.o⟩
  rw [Env.upd_v]
  split
  · rename_i hu
    subst hu
    have := h1.v u
    rw [hv] at this
    simp only [Val] at this
    rw [this]
    simp only [Val, Nv.bump, ← hN, ← hh.n, if_true]
    exact ⟨Nat.lt_succ_self _, Nat.le_refl _, trivial, trivial⟩
  · exact h1.v u

end

section
variable {P : Program} {E : Env} {M : Mem} {ty : TypeId}
/-- Bytes of a slice as a string's own: []byte("..") and the like need Qm. A slice of a slice that is only read. -/
theorem run_slice_sl {t el : TypeId} {n : Nat} (h : SlIs P t el n) (a : Option Addr) (len cap : Nat) (lo hi : Option Value) (l r : Nat) (w : World)
    (hl : (match lo with | some v => ∃ k, v = .int k (l : Int) | none => l = 0)) (hr : (match hi with | some v => ∃ k, v = .int k (r : Int) | none => r = len)) (hlr : l ≤ r) (hrc : r ≤ cap) :
    (Instr.sliceAt t (.slice a len cap) lo hi none).run P w = .ok (.slice (if cap = l then a else a.map (·.add (l * n))) (r - l) (cap - l)) w := by
  have e1 : ∀ (y : Nat) (code : BoundsCode) (v : Value) (m : Nat), (∃ k, v = .int k (m : Int)) → m ≤ y → (Instr.sliceBound v y code).run P w = .ok m w := by
    rintro y code v m ⟨k, rfl⟩ hm
    have h1 : (0 : Int) ≤ (m : Int) ∧ (m : Int) ≤ (y : Int) := ⟨by omega, by omega⟩
    simp only [Instr.sliceBound, asIntOf, Sem.run_bind, Sem.run_pure, Result.andThen]
    rw [if_pos h1]
    simp
  cases lo with
  | none =>
    simp only at hl
    cases hi with
    | none =>
      simp only at hr
      subst hl hr
      simp [Instr.sliceAt, Instr.slice, run_underlying h.t, Instr.sliceBounds, h.e.run]
    | some v =>
      simp only at hr
      subst hl
      simp [Instr.sliceAt, Instr.slice, run_underlying h.t, Instr.sliceBounds, h.e.run, e1 cap _ v r hr hrc]
  | some u =>
    simp only at hl
    cases hi with
    | none =>
      simp only at hr
      subst hr
      simp [Instr.sliceAt, Instr.slice, run_underlying h.t, Instr.sliceBounds, h.e.run, e1 r _ u l hl hlr]
    | some v =>
      simp only at hr
      simp [Instr.sliceAt, Instr.slice, run_underlying h.t, Instr.sliceBounds, h.e.run, e1 cap _ v r hr hrc, e1 r _ u l hl hlr]

/-- The bounds of a slice expression. -/
def evOpt (E : Env) (x : Option Operand) (d : Int) (i : Int) : Prop := match x with | some o => ∃ k, E.ev o = .lit (.int k i) | none => i = d

theorem q_slice_ro {α : Type} {R : Rd α} {b : Bool} {l : List α} {t el : TypeId} {n : Nat} {x : Operand} {lo hi : Option Operand} {i j : Int} (h : SlIs P t el n) (hn : R.sz = n) (hx : E.ev x = .ro (Rd.slice R) b l)
    (hlo : evOpt E lo 0 i) (hhi : evOpt E hi l.length j) (hb : decide (0 ≤ i ∧ i ≤ j ∧ j ≤ l.length) = true) : Quiet P (.slice t x lo hi none) ty E M [] (.ro (Rd.slice R) b ((l.take j.toNat).drop i.toNat)) :=
  fun cx nt a w e hh he => by
    obtain ⟨b0, b1, b2⟩ := of_decide_eq_true hb
    have hv := he.ev x; rw [hx] at hv; simp only [Val, Rd.slice] at hv
    have hlo' : (match lo.map a.eval with | some v => ∃ k, v = .int k (i.toNat : Int) | none => i.toNat = 0) := by
      cases lo with
      | none => simp only [evOpt] at hlo; subst hlo; rfl
      | some o =>
        obtain ⟨k, hk⟩ := hlo
        exact ⟨k, by rw [ev_lit he hk, Int.toNat_of_nonneg b0]⟩
    have hhi' : (match hi.map a.eval with | some v => ∃ k, v = .int k (j.toNat : Int) | none => j.toNat = l.length) := by
      cases hi with
      | none => simp only [evOpt] at hhi; subst hhi; exact Int.toNat_natCast _
      | some o =>
        obtain ⟨k, hk⟩ := hhi
        exact ⟨k, by rw [ev_lit he hk, Int.toNat_of_nonneg (by omega)]⟩
    have hlr : i.toNat ≤ j.toNat := by omega
    have hjl : j.toNat ≤ l.length := by omega
    have hlen : ((l.take j.toNat).drop i.toNat).length = j.toNat - i.toNat := by simp; omega
    rcases hv with ⟨rfl, ad, c, h1⟩ | ⟨bk, o, c, tt, fr, cap, h1, hc, h2, h3⟩
    · simp at h1
      have hj0 : j.toNat = 0 := by simpa using hjl
      have hi0 : i.toNat = 0 := by omega
      refine ⟨.slice (if c = i.toNat then ad else ad.map (·.add (i.toNat * n))) (j.toNat - i.toNat) (c - i.toNat), ?_, fun w1 hw => ?_⟩
      · simp only [Val, Rd.slice]
        exact .inl ⟨by simp, _, _, by rw [hj0, hi0]⟩
      · have := run_slice_sl h ad 0 c (lo.map a.eval) (hi.map a.eval) i.toNat j.toNat w1 hlo' (by simpa using hhi') hlr (by omega)
        simp [exec1, execOp, h1, this]
    · simp at h1
      refine ⟨.slice (if cap = i.toNat then some ⟨bk, o, none⟩ else (some (⟨bk, o, none⟩ : Addr)).map (·.add (i.toNat * n))) (j.toNat - i.toNat) (cap - i.toNat), ?_, fun w1 hw => ?_⟩
      · simp only [Val, Rd.slice]
        by_cases h0 : j.toNat - i.toNat = 0
        · exact .inl ⟨List.eq_nil_of_length_eq_zero (by omega), _, _, by rw [h0]⟩
        · have hne : ¬ cap = i.toNat := by omega
          refine .inr ⟨bk, o + i.toNat * n, c, tt, fr, cap - i.toNat, by rw [if_neg hne, hlen]; simp [add_at], by omega, h2, ?_⟩
          rw [← hn]
          have := rows_drop i.toNat (rows_take j.toNat h3)
          rw [List.drop_drop] at this
          exact this
      · have := run_slice_sl h (some ⟨bk, o, none⟩) l.length cap (lo.map a.eval) (hi.map a.eval) i.toNat j.toNat w1 hlo' hhi' hlr (by omega)
        simp [exec1, execOp, h1, this]

/-- A byte of a string. -/
theorem q_index_str {t : TypeId} {x y : Operand} {s : ByteArray} {k : IntKind} {i c : Int} (h : P.underlying t = some .string) (hx : E.ev x = .lit (.string s)) (hy : E.ev y = .lit (.int k i)) (hc : ix (strInts s) i = some c) : Quiet P (.index t x y) ty E M [] (.lit (.int .u8 c)) :=
  fun _ _ a w e hh he => by
    obtain ⟨h0, h1, h2⟩ := ix_some hc
    refine ⟨.int .u8 c, by simp [Val], fun w1 hw => ?_⟩
    have hsz : (strInts s).length = s.size := by rw [strInts, List.length_map, Array.length_toList]; rfl
    have hlt : i.toNat < s.size := by omega
    have hget : c = ((s[i.toNat]'hlt).toNat : Int) := by
      simp only [strInts, List.getElem?_map] at h1
      have e2 : s.data.toList[i.toNat]? = some (s[i.toNat]'hlt) := by
        rw [Array.getElem?_toList]
        exact Array.getElem?_eq_getElem (by simpa using hlt)
      rw [e2] at h1
      simpa using h1.symm
    subst hget
    simp [exec1, execOp, ev_lit he hx, ev_lit he hy, Instr.index, run_underlying h, asIntOf, h0, hlt, getElem?_pos]

/-- Part of a string. -/
theorem q_slice_str {t : TypeId} {x : Operand} {s : ByteArray} {lo hi : Option Operand} {i j : Int} (h : P.underlying t = some .string) (hx : E.ev x = .lit (.string s))
    (hlo : evOpt E lo 0 i) (hhi : evOpt E hi s.size j) (hb : decide (0 ≤ i ∧ i ≤ j ∧ j ≤ s.size) = true) : Quiet P (.slice t x lo hi none) ty E M [] (.lit (.string (s.extract i.toNat j.toNat))) :=
  fun cx nt a w e hh he => by
    obtain ⟨b0, b1, b2⟩ := of_decide_eq_true hb
    refine ⟨.string (s.extract i.toNat j.toNat), by simp [Val], fun w1 hw => ?_⟩
    have e1 : ∀ (y : Nat) (code : BoundsCode) (k : IntKind) (m : Int), 0 ≤ m → m ≤ y → (Instr.sliceBound (.int k m) y code).run P w1 = .ok m.toNat w1 := by
      intro y code k m h0 hm
      simp only [Instr.sliceBound, asIntOf, Sem.run_bind, Sem.run_pure, Result.andThen]
      rw [if_pos ⟨h0, hm⟩]
      simp
    have hjs : j.toNat ≤ s.size := by omega
    cases lo with
    | none =>
      simp only [evOpt] at hlo
      subst hlo
      cases hi with
      | none =>
        simp only [evOpt] at hhi
        subst hhi
        simp [exec1, execOp, ev_lit he hx, Instr.sliceAt, Instr.slice, run_underlying h, Instr.sliceBounds]
      | some v =>
        obtain ⟨k, hk⟩ := hhi
        simp [exec1, execOp, ev_lit he hx, ev_lit he hk, Instr.sliceAt, Instr.slice, run_underlying h, Instr.sliceBounds, e1 s.size _ k j (by omega) b2]
    | some u =>
      obtain ⟨k', hk'⟩ := hlo
      cases hi with
      | none =>
        simp only [evOpt] at hhi
        subst hhi
        simp [exec1, execOp, ev_lit he hx, ev_lit he hk', Instr.sliceAt, Instr.slice, run_underlying h, Instr.sliceBounds, e1 s.size _ k' i b0 b1]
      | some v =>
        obtain ⟨k, hk⟩ := hhi
        simp [exec1, execOp, ev_lit he hx, ev_lit he hk, ev_lit he hk', Instr.sliceAt, Instr.slice, run_underlying h, Instr.sliceBounds, e1 s.size _ k j (by omega) b2, e1 j.toNat _ k' i b0 (by omega)]
end
end Go.Q
