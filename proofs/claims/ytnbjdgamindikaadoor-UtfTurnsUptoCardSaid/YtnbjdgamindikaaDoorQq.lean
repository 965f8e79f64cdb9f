/- Rows of structs of our own. -/
import Derived.Test.YtnbjdgamindikaaDoorQp
namespace Go.Q
open Go
set_option linter.unusedVariables false
set_option linter.unusedSimpArgs false

section
variable {P : Program} {ty : TypeId} {E : Env} {M : Mem} {α β : Type} {R : Rd α} {S : Rd β} {l : List α} {d : α} {d' : β} {i j n off : Nat} {t ct : TypeId} {x : Operand}

/-- A cell of an element of a row of our own. -/
theorem row_cell {cx : Cx} {e : Nv} {w w1 : World} (hh : Hold cx e M w) (hi : i < e.n) (hvir : e.vir i = false) (hc : M.at_ i = .row ct R l) (hd : l[j]? = some d) (hn : R.sz = n) (hp : PartIs R d off S d') (hz : S.sz = 1) (hw : Agree e [i] w w1) :
    ∃ u, w1.cell? ⟨e.own i, j * n + off, none⟩ = some u ∧ S.ok e.m d' [u] := by
  have hk := hh.ch i hi
  rw [hc] at hk
  obtain ⟨_, _, _, hr⟩ := hk
  rw [hvir] at hr
  simp only [Bool.false_eq_true, if_false] at hr
  obtain ⟨c, z, hb, _, hs, hrow⟩ := hr
  have hb1 := (hw.own i (by simp) hvir).trans hb
  have hg := hp _ _ (rows_get hrow hd)
  have hl := S.len hg
  rw [hz] at hl hg
  obtain ⟨u, hu⟩ := List.length_eq_one_iff.1 hl
  refine ⟨u, ?_, by rw [← hu]; exact hg⟩
  rw [cell_of hb1]
  have h0 := congrArg (·[0]?) hu
  simp only [List.getElem?_cons_zero] at h0
  rw [List.getElem?_take_of_lt (by decide), List.getElem?_drop, Nat.add_zero] at h0
  rw [List.getElem?_take] at h0
  split at h0
  · rw [List.getElem?_drop, hn] at h0
    simpa [Nat.add_comm] using h0
  · cases h0

theorem q_load_rowf {f : β → Value} {hf : ∀ x, (f x).oneCell' = true} (ht : Sc P t) (hx : E.ev x = .ptr i (j * n + off)) (hc : M.at_ i = .row ct R l) (hd : l[j]? = some d) (hn : R.sz = n) (hp : PartIs R d off (Rd.sc f hf) d') :
    Quiet P (.load t x) ty E M [i] (.lit (f d')) :=
  fun _ _ a w e hh he => by
    have hv := he.ev x; rw [hx] at hv; simp only [Val] at hv
    refine ⟨f d', by simp [Val], fun w1 hw => ?_⟩
    obtain ⟨u, h1, h2⟩ := row_cell hh hv.1 hv.2.1 hc hd hn hp rfl hw
    simp only [Rd.sc] at h2
    have : u = f d' := by simpa using h2
    subst this
    simp [exec1, execOp, hv.2.2, run_loadAt_sc ht h1]

theorem q_load_rowr (ht : Sc P t) (hx : E.ev x = .ptr i (j * n + off)) (hc : M.at_ i = .row ct R l) (hd : l[j]? = some d) (hn : R.sz = n) (hp : PartIs R d off S d') (hz : S.sz = 1) :
    Quiet P (.load t x) ty E M [i] (.ro S false d') :=
  fun _ _ a w e hh he => by
    have hv := he.ev x; rw [hx] at hv; simp only [Val] at hv
    obtain ⟨u, h1, h2⟩ := row_cell hh hv.1 hv.2.1 hc hd hn hp hz (Agree.of_hold hh [i])
    refine ⟨u, by simp only [Val, Nv.mem_false]; exact h2, fun w1 hw => ?_⟩
    have h3 : w1.cell? ⟨e.own i, j * n + off, none⟩ = some u := by
      rw [← h1]
      simp only [World.cell?, hw.own i (by simp) hv.2.1]
    simp [exec1, execOp, hv.2.2, run_loadAt_sc ht h3]

/-- An element of a row of our own, whole. -/
theorem q_load_rowag {l' : List AVal} (ht : Ag P t n) (hx : E.ev x = .ptr i (j * n)) (hc : M.at_ i = .row ct R l) (hd : l[j]? = some d) (hn : R.sz = n) (hs : Splits R false d l') :
    Quiet P (.load t x) ty E M [i] (.agg l') :=
  fun _ _ a w e hh he => by
    have hv := he.ev x; rw [hx] at hv; simp only [Val] at hv
    have hk := hh.ch i hv.1
    rw [hc] at hk
    obtain ⟨_, hlc, _, hr⟩ := hk
    rw [hv.2.1] at hr
    simp only [Bool.false_eq_true, if_false] at hr
    obtain ⟨c, z, hb, _, hsz, hrow⟩ := hr
    have hg := rows_get hrow hd
    have hl := R.len hg
    rw [hn] at hg hl
    refine ⟨.agg ((c.toList.drop (j * n)).take n).toArray, ?_, fun w1 hw => ?_⟩
    · simp only [Val]
      exact ⟨_, rfl, hs e _ (by rw [Nv.mem_false]; exact hg), R.one hg⟩
    have hb1 := (hw.own i (by simp) hv.2.1).trans hb
    rcases Nat.eq_zero_or_pos n with h0 | h0
    · subst h0
      have hld : (loadCells ⟨e.own i, j * 0, none⟩ 0).run P w1 = .ok #[] w1 := rfl
      simp [exec1, execOp, hv.2.2, Instr.loadAt, Instr.sureAddr, loadVar, ht.isAgg w1, ht.sz.run w1] at hld ⊢
      simp [hld]
    · have := run_loadAt_ag ht (o := j * n) hb1 (by simp at hl ⊢; omega)
      simp [exec1, execOp, hv.2.2, this]
end
end Go.Q
