/- The rest of a row, cleared. -/
import Derived.Test.YtnbjdgamindikaaDoorQw
namespace Go.Q
open Go
set_option linter.unusedVariables false
set_option linter.unusedSimpArgs false
section
variable {P : Program} {cx : Cx} {fr : Fr} {E : Env} {M M' : Mem} {Q : Ex → Env → Mem → Prop} {ty : TypeId}

theorem q_sliceTail {α : Type} {R : Rd α} {l : List α} {t el ct : TypeId} {n i : Nat} {x lo : Operand} {k : IntKind} {j : Int} (h : SlIs P t el n) (hx : E.ev x = .whole i) (hc : M.at_ i = .row ct R l) (hlo : E.ev lo = .lit (.int k j))
    (hb : decide (0 ≤ j ∧ j ≤ l.length ∧ 0 < l.length) = true) : Quiet P (.slice t x (some lo) none none) ty E M [] (.sl i n j.toNat (l.length - j.toNat)) :=
  fun cx nt a w e hh he => by
    obtain ⟨b0, b1, b2⟩ := of_decide_eq_true hb
    have hv := he.ev x; rw [hx] at hv; simp only [Val] at hv
    have hk := hh.ch i hv.1
    rw [hc] at hk
    obtain ⟨g1, g2, g3, g4⟩ := hk
    have hv3 := hv.2.2
    have hvir : e.vir i = false := by
      cases hvir : e.vir i with
      | false => rfl
      | true => rw [hvir] at g4; simp only [if_true] at g4; subst g4; simp at b2
    rw [hvir] at hv3
    simp only [Bool.false_eq_true, if_false] at hv3
    have hjl : j.toNat ≤ l.length := by omega
    refine ⟨.slice (if e.caps i = j.toNat then some ⟨e.own i, 0, none⟩ else (some (⟨e.own i, 0, none⟩ : Addr)).map (·.add (j.toNat * n))) (l.length - j.toNat) (e.caps i - j.toNat), ?_, fun w1 hw => ?_⟩
    · simp only [Val]
      refine ⟨hv.1, by omega, hvir, if e.caps i = j.toNat then 0 else j.toNat * n, ?_, fun h => by rw [if_neg (by omega)]⟩
      split <;> simp [add_at]
    · have := run_slice_sl h (some ⟨e.own i, 0, none⟩) l.length (e.caps i) (some (.int k j)) none j.toNat l.length w1 ⟨k, by rw [Int.toNat_of_nonneg b0]⟩ rfl hjl g2
      simp [exec1, execOp, hv3, g1, ev_lit he hlo, this]

theorem tailLe {α : Type} {l : List α} {j : Int} (hb : decide (0 ≤ j ∧ j ≤ l.length ∧ 0 < l.length) = true) : j.toNat ≤ l.length := by
  obtain ⟨b0, b1, b2⟩ := of_decide_eq_true hb
  omega

theorem flat_len {zs : List Value} {n : Nat} (h : zs.length = n) : ∀ k, ((List.replicate k zs).flatten).length = k * n
  | 0 => by simp
  | k + 1 => by rw [List.replicate_succ, List.flatten_cons, List.length_append, flat_len h k, h, Nat.add_mul]; omega

/-- 'clear' of the rest of a row of our own. -/
theorem d_clear {α : Type} {R : Rd α} {l : List α} {d : α} {t el : TypeId} {n i off : Nat} {zs : List Value} {x : Operand} (h : LitIs P t el n zs) (hn : R.sz = n) (hn0 : Nat.blt 0 n = true) (hzl : Nat.beq zs.length n = true) (hd : Joins R false d (zs.map AVal.lit))
    (hx : E.ev x = .sl i n off (l.length - off)) (hc : M.at_ i = .row el R l) (ho : off ≤ l.length) :
    Does P (.call { callee := .builtin .clear, args := #[x], argTypes := #[t] }) ty E M [i] .any (M.set i (.row el R (l.take off ++ List.replicate (l.length - off) d))) :=
  fun cx nt a w e hh he => by
    obtain ⟨iT, z, h1, h2, h3, h4⟩ := h.h
    have hn0' : 0 < n := by simpa using hn0
    have hzl' : zs.length = n := by simpa using hzl
    have hv := he.ev x; rw [hx] at hv; simp only [Val] at hv
    obtain ⟨hi, hcap, hvir, o, hval, hoff⟩ := hv
    have hk := hh.ch i hi
    rw [hc] at hk
    obtain ⟨g1, g2, g3, g4⟩ := hk
    rw [hvir] at g4
    simp only [Bool.false_eq_true, if_false] at g4
    obtain ⟨c, zz, hb, hz, hcs, hrow⟩ := g4
    have hok := hd e zs (vals_lits e zs) h.one
    rw [Nv.mem_false] at hok
    have hlive : (M.at_ i).live e i := by rw [hc]; exact hvir
    have hrun0 : ∀ (w' : World), (Builtin.clear_ #[t] ty #[a.eval x]).run P w = .ok (.tuple #[]) w' → (exec1 a.eval (.call { callee := .builtin .clear, args := #[x], argTypes := #[t] }) ty).run P w = .ok (.value (.tuple #[])) w' := by
      intro w' hr
      simp [exec1, execOp, resolve, invoke, builtin, hr]
    obtain ⟨m, hm⟩ : ∃ m, m = l.length - off := ⟨_, rfl⟩
    rw [← hm] at hval ⊢
    by_cases hm0 : m = 0
    · refine ⟨.tuple #[], w, e, hrun0 _ ?_, ?_, ⟨Nv.le.refl e, fun _ => Ro.le.refl _⟩, by simp [Val], fun _ _ _ => rfl, Nat.le_refl _⟩
      · rw [hval, hm0]
        simp [Builtin.clear_, run_underlying h.t]
      · rw [hm0, List.replicate_zero, List.append_nil, List.take_of_length_le (by omega)]
        exact hh.reset ⟨g1, g2, g3, by rw [hvir]; simp only [Bool.false_eq_true, if_false]; exact ⟨c, zz, hb, hz, hcs, hrow⟩⟩ (fun _ => hlive) (fun h => by cases h)
    · have ho' : o = off * n := hoff (by omega)
      subst ho'
      have hfl := flat_len hzl' m
      have hzc : (Builtin.zeroCells z.cells m).toList = (List.replicate m zs).flatten := by
        rw [Builtin.zeroCells, h4]
        have := made_list zs n hzl' hn0' m
        rw [List.size_toArray, hzl'] at *
        simpa [hzl'] using this
      have hcl : c.toList.length = e.caps i * n := by rw [Array.length_toList, hcs, hn]
      have hle1 : (off + m) * n ≤ e.caps i * n := Nat.mul_le_mul_right _ (by omega)
      have hfit : off * n + 0 + ((List.replicate m zs).flatten).length ≤ c.toList.length := by rw [hfl, hcl, Nat.add_zero, ← Nat.add_mul]; exact hle1
      obtain ⟨w', hst, k1, k2, k3, k4, k5, k6⟩ := run_storeCells_row (P := P) ((List.replicate m zs).flatten) 0 (off * n) c.toList w (by simpa using hb) (by simpa [thaw] using hz) hfit (fun v hv => by
        obtain ⟨zs', hz1, hz2⟩ := List.mem_flatten.1 hv
        rw [(List.mem_replicate.1 hz1).2] at hz2
        exact h.one v hz2)
      refine ⟨.tuple #[], w', e, hrun0 _ ?_, ?_, ⟨Nv.le.refl e, fun _ => Ro.le.refl _⟩, by simp [Val], fun b _ hne => k6 b (fun hbb => hne i (by simp) hi hlive hbb.symm), by rw [k2]; exact Nat.le_refl _⟩
      · rw [hval]
        obtain ⟨m', rfl⟩ : ∃ m', m = m' + 1 := ⟨m - 1, by omega⟩
        simp [Builtin.clear_, run_underlying h.t, zeroValue, typeInfo, h1, h2, hzc, hst]
      · refine hh.change hi hlive k3 k4 k5 k2 k6 ⟨by rw [g1]; simp; omega, by simp; omega, g3, ?_⟩
        rw [hvir]
        simp only [Bool.false_eq_true, if_false]
        refine ⟨_, _, k1, by simpa [thaw, setAt_length] using hz, by simp [setAt_length, hcs], ?_⟩
        rw [Nat.add_zero, setAt_list _ c.toList (off * n) (by simpa using hfit)]
        have htk : (c.toList.take (off * n)).length = off * n := by
          rw [List.length_take, hcl]
          have : off * n ≤ (off + m) * n := Nat.mul_le_mul_right _ (by omega)
          omega
        have hlt : (l.take off).length = off := by simp; omega
        refine rows_cut (cs := c.toList.take (off * n) ++ (List.replicate m zs).flatten) (rows_append (rows_cut (rows_take off hrow) ?_) (by rw [htk, hlt, hn]) ?_) ?_
        · rw [hlt, hn, List.take_take, Nat.min_self]
        · have := rows_replicate hok m []
          simpa using this
        · have hll : (l.take off ++ List.replicate m d).length * R.sz = (c.toList.take (off * n) ++ (List.replicate m zs).flatten).length := by
            rw [List.length_append, List.length_append, hlt, htk, hfl, List.length_replicate, hn, Nat.add_mul]
          rw [hll, List.toList_toArray, List.take_length, List.take_left]

theorem nm_str {a b : ByteArray} (h : some a = some b) : AVal.lit (.string a) = AVal.lit (.string b) := by cases h; rfl
/-- An operation whose value goes nowhere. -/
theorem WPL.dN {op : Op} {pos : String} {after : Array Edge} {ops : Array Oper} {os : List Oper} {tc : List Nat} {v : AVal} (h : Does P op ty E M tc v M') (k : WPL P cx fr ops os E M' Q) :
    WPL P cx fr ops ({ dst := Option.none, op := op, type := ty, pos := pos, after := after, guard := Option.none } :: os) E M Q := by
  intro a w e hh he
  obtain ⟨x, w', e', hr, hh', he', hv, _⟩ := h cx fr.nt a w e hh he
  unfold wpListIn
  rw [if_pos (by rfl)]
  refine ⟨fun _ _ => trivial, ?_⟩
  rw [semAt_value hr]
  exact k _ w' e' hh' (he.mono he'.1 he'.2)
end
end Go.Q
