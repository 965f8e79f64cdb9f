/- Walks: Fc1 -/
import Derived.Test.YtnbjdgamindikaaDoorFb
import Derived.Test.YtnbjdgamindikaaDoorFc0
namespace Go.Proofs.YtnbjdgamindikaaDoor.W
open Go Go.Q Go.Proofs
set_option linter.unusedVariables false
set_option linter.unusedSimpArgs false
set_option maxRecDepth 100000 in
set_option maxHeartbeats 4000000 in
theorem s_utf_Valid (k : Nat) (x4 : ByteArray) (x9249 : Bool) (H : g_utf_Valid k x4 = some x9249) : Go.Q.Spec Tryd.prog 8 0 [.lit (.string x4)] Mem.nil (fun o M => o = .ret (.lit (.bool x9249)) ∧ M = Mem.nil) := by
  unfold g_utf_Valid at H
  refine Go.Q.Spec.of_bodyR (rs := [.tmp 2]) (nt := 5) Tryd.func8 rfl rfl (by intro t T h; simp at h) rfl rfl fun cx hnp => ?_
  refine WP.seq ?_
  refine WP.region ?_
  refine WPL.q (q_as (v := .lit (.bool _)) rfl) rfl ?_
  refine WPL.nilW ?_
  refine W.now ?_
  refine Then.n ?_
  refine WP.seq ?_
  refine WP.region ?_
  refine WPL.q (q_mv (v := .lit (.string _)) rfl) rfl ?_
  obtain ⟨x9251, h9249, H⟩ := bnd H
  refine WPL.c (runs_call (s := []) (t := []) (N := 0) (bor := []) fn28 rfl (s_unicode_utf8_ValidString k x4 x9251 h9249) ⟨rfl, trivial, by decide, rfl, trivial⟩ rfl trivial (.ren rfl rfl .nil) rfl trivial rfl) rfl ?_
  refine WPL.q (q_as (v := .lit (.bool _)) rfl) rfl ?_
  refine WPL.nilW ?_
  refine W.now ?_
  refine Then.n ?_
  refine WP.retW ?_
  refine W.now ?_
  have q0 := (Option.some.inj H)
  subst q0
  exact ⟨trivial, _, rfl, [], (.lit (.bool x9251)), Mem.nil, ⟨rfl, trivial, by decide, rfl, trivial⟩, rfl, rfl, rfl, rfl⟩
set_option maxRecDepth 100000 in
set_option maxHeartbeats 4000000 in
theorem s_quireref06_char (k : Nat) (x9272 : Int) (x9282 : Bool) (H : g_quireref06_char k x9272 = some x9282) : Go.Q.Spec Tryd.prog 43 0 [.lit (.int .i64 x9272)] Mem.nil (fun o M => o = .ret (.lit (.bool x9282)) ∧ M = Mem.nil) := by
  unfold g_quireref06_char at H
  refine Go.Q.Spec.of_bodyR (rs := [.tmp 2]) (nt := 18) Tryd.func43 rfl rfl (by intro t T h; simp at h) rfl rfl fun cx hnp => ?_
  refine WP.seq ?_
  refine WP.region ?_
  refine WPL.q (q_as (v := .lit (.bool _)) rfl) rfl ?_
  refine WPL.nilW ?_
  refine W.now ?_
  refine Then.n ?_
  refine WP.seq ?_
  obtain ⟨x9286, H9289, H⟩ := bnd H
  refine WP.monoW (Q := fun x E M => x = .normal ∧ E = (Env.none.upd 2 (.lit (.bool x9286))) ∧ M = Mem.nil) ?_ ?_
  · clear H
    have H := H9289
    clear H9289
    refine WP.region ?_
    refine WPL.q (q_mv (v := .lit (.int _ _)) rfl) rfl ?_
    refine WPL.q (q_geq rfl rfl) rfl ?_
    refine WPL.q (q_mv (v := .lit (.bool _)) rfl) rfl ?_
    refine WPL.split (t := 5) (b := (decide (0 ≤ x9272))) rfl (fun hb9286 => ?_) (fun hb9286 => ?_)
    · replace H := cnt hb9286 H
      refine WPL.qg rfl rfl (lb hb9286) (q_mv (v := .lit (.int _ _)) rfl) rfl ?_
      refine WPL.qg rfl rfl (lb hb9286) (q_leq rfl rfl) rfl ?_
      refine WPL.q (q_pickT (v := .lit (.bool _)) (lb hb9286) rfl) rfl ?_
      refine WPL.q (q_mv (v := .lit (.bool _)) rfl) rfl ?_
      refine WPL.split (t := 9) (b := (decide (x9272 ≤ 1114111))) rfl (fun hb9287 => ?_) (fun hb9287 => ?_)
      · replace H := cnt hb9287 H
        refine WPL.qg rfl rfl (lb hb9287) (q_mv (v := .lit (.int _ _)) rfl) rfl ?_
        refine WPL.qg rfl rfl (lb hb9287) (q_geq rfl rfl) rfl ?_
        refine WPL.qg rfl rfl (lb hb9287) (q_mv (v := .lit (.bool _)) rfl) rfl ?_
        refine WPL.split (t := 12) (b := (decide (55296 ≤ x9272))) rfl (fun hb9288 => ?_) (fun hb9288 => ?_)
        · replace H := cnt hb9288 H
          refine WPL.qg rfl rfl (lb hb9288) (q_mv (v := .lit (.int _ _)) rfl) rfl ?_
          refine WPL.qg rfl rfl (lb hb9288) (q_leq rfl rfl) rfl ?_
          refine WPL.qg rfl rfl (lb hb9287) (q_pickT (v := .lit (.bool _)) (lb hb9288) rfl) rfl ?_
          refine WPL.qg rfl rfl (lb hb9287) (q_not rfl) rfl ?_
          refine WPL.q (q_pickT (v := .lit (.bool _)) (lb hb9287) rfl) rfl ?_
          refine WPL.q (q_as (v := .lit (.bool _)) rfl) rfl ?_
          refine WPL.nilW ?_
          refine W.cv (Cv.weak (E' := (Env.none.upd 2 (.lit (.bool (!(decide (x9272 ≤ 57343))))))) (M' := Mem.nil) [] hnp ⟨rfl, trivial, by decide, rfl, trivial⟩ (LeE.upd rfl rfl (LeE.none rfl rfl))) rfl ?_
          refine W.now ?_
          have q0 := (Option.some.inj H)
          subst q0
          exact ⟨rfl, rfl, rfl⟩
        · replace H := cnf hb9288 H
          refine WPL.skipg (b' := false) rfl rfl (lb hb9288) rfl rfl ?_
          refine WPL.skipg (b' := false) rfl rfl (lb hb9288) rfl rfl ?_
          refine WPL.qg rfl rfl (lb hb9287) (q_pickF (v := .lit (.bool _)) (lb hb9288) rfl) rfl ?_
          refine WPL.qg rfl rfl (lb hb9287) (q_not rfl) rfl ?_
          refine WPL.q (q_pickT (v := .lit (.bool _)) (lb hb9287) rfl) rfl ?_
          refine WPL.q (q_as (v := .lit (.bool _)) rfl) rfl ?_
          refine WPL.nilW ?_
          refine W.cv (Cv.weak (E' := (Env.none.upd 2 (.lit (.bool (!false))))) (M' := Mem.nil) [] hnp ⟨rfl, trivial, by decide, rfl, trivial⟩ (LeE.upd rfl rfl (LeE.none rfl rfl))) rfl ?_
          refine W.now ?_
          have q0 := (Option.some.inj H)
          subst q0
          exact ⟨rfl, rfl, rfl⟩
      · replace H := cnf hb9287 H
        refine WPL.skipg (b' := false) rfl rfl (lb hb9287) rfl rfl ?_
        refine WPL.skipg (b' := false) rfl rfl (lb hb9287) rfl rfl ?_
        refine WPL.skipg (b' := false) rfl rfl (lb hb9287) rfl rfl ?_
        refine WPL.skipu rfl rfl rfl rfl ?_
        refine WPL.skipu rfl rfl rfl rfl ?_
        refine WPL.skipg (b' := false) rfl rfl (lb hb9287) rfl rfl ?_
        refine WPL.skipg (b' := false) rfl rfl (lb hb9287) rfl rfl ?_
        refine WPL.q (q_pickF (v := .lit (.bool _)) (lb hb9287) rfl) rfl ?_
        refine WPL.q (q_as (v := .lit (.bool _)) rfl) rfl ?_
        refine WPL.nilW ?_
        refine W.cv (Cv.weak (E' := (Env.none.upd 2 (.lit (.bool false)))) (M' := Mem.nil) [] hnp ⟨rfl, trivial, by decide, rfl, trivial⟩ (LeE.upd rfl rfl (LeE.none rfl rfl))) rfl ?_
        refine W.now ?_
        have q0 := (Option.some.inj H)
        subst q0
        exact ⟨rfl, rfl, rfl⟩
    · replace H := cnf hb9286 H
      refine WPL.skipg (b' := false) rfl rfl (lb hb9286) rfl rfl ?_
      refine WPL.skipg (b' := false) rfl rfl (lb hb9286) rfl rfl ?_
      refine WPL.q (q_pickF (v := .lit (.bool _)) (lb hb9286) rfl) rfl ?_
      refine WPL.q (q_mv (v := .lit (.bool _)) rfl) rfl ?_
      refine WPL.skipg (b' := false) rfl rfl rfl rfl rfl ?_
      refine WPL.skipg (b' := false) rfl rfl rfl rfl rfl ?_
      refine WPL.skipg (b' := false) rfl rfl rfl rfl rfl ?_
      refine WPL.skipu rfl rfl rfl rfl ?_
      refine WPL.skipu rfl rfl rfl rfl ?_
      refine WPL.skipg (b' := false) rfl rfl rfl rfl rfl ?_
      refine WPL.skipg (b' := false) rfl rfl rfl rfl rfl ?_
      refine WPL.q (q_pickF (v := .lit (.bool _)) rfl rfl) rfl ?_
      refine WPL.q (q_as (v := .lit (.bool _)) rfl) rfl ?_
      refine WPL.nilW ?_
      refine W.cv (Cv.weak (E' := (Env.none.upd 2 (.lit (.bool false)))) (M' := Mem.nil) [] hnp ⟨rfl, trivial, by decide, rfl, trivial⟩ (LeE.upd rfl rfl (LeE.none rfl rfl))) rfl ?_
      refine W.now ?_
      have q0 := (Option.some.inj H)
      subst q0
      exact ⟨rfl, rfl, rfl⟩
  · rintro _ _ _ ⟨rfl, rfl, rfl⟩
    refine W.now ?_
    refine Then.n ?_
    refine WP.retW ?_
    refine W.now ?_
    have q0 := (Option.some.inj H)
    subst q0
    exact ⟨trivial, _, rfl, [], (.lit (.bool x9286)), Mem.nil, ⟨rfl, trivial, by decide, rfl, trivial⟩, rfl, rfl, rfl, rfl⟩
set_option maxRecDepth 100000 in
set_option maxHeartbeats 4000000 in
theorem s_quireref06_Write (k : Nat) (x9295 : Int) (x9332 : (List Int)) (H : g_quireref06_Write k x9295 = some x9332) : Go.Q.Spec Tryd.prog 41 0 [.lit (.int .i64 x9295)] Mem.nil (fun o M => o = .ret (.ro (Rd.slice (Rd.int .u8)) false x9332) ∧ M = Mem.nil) := by
  unfold g_quireref06_Write at H
  refine Go.Q.Spec.of_bodyR (rs := [.tmp 2]) (nt := 57) Tryd.func41 rfl rfl (by intro t T h; simp at h) rfl rfl fun cx hnp => ?_
  refine WP.seq ?_
  refine WP.region ?_
  refine WPL.q (q_as (v := .lit _) rfl) rfl ?_
  refine WPL.nilW ?_
  refine W.now ?_
  refine Then.n ?_
  refine WP.seq ?_
  obtain ⟨x9336, H9339, H⟩ := bnd H
  refine WP.monoW (Q := fun x E M => x = .normal ∧ E = (Env.none.upd 0 (.lit (.int .i64 x9336))) ∧ M = Mem.nil) ?_ ?_
  · clear H
    have H := H9339
    clear H9339
    refine WP.seq ?_
    refine WP.region ?_
    refine WPL.q (q_mv (v := .lit (.int _ _)) rfl) rfl ?_
    obtain ⟨x9338, h9336, H⟩ := bnd H
    refine WPL.c (runs_call (s := []) (t := []) (N := 0) (bor := []) fn43 rfl (s_quireref06_char k x9295 x9338 h9336) ⟨rfl, trivial, by decide, rfl, trivial⟩ rfl trivial (.ren rfl rfl .nil) rfl trivial rfl) rfl ?_
    refine WPL.q (q_not rfl) rfl ?_
    refine WPL.nilW ?_
    refine W.now ?_
    refine Then.n ?_
    refine WP.cond (t := (!x9338)) rfl (fun hb9338 => ?_) (fun hb9338 => ?_)
    · replace H := cnt hb9338 H
      refine WP.region ?_
      refine WPL.q (q_as (v := .lit (.int _ _)) rfl) rfl ?_
      refine WPL.nilW ?_
      refine W.cv (Cv.weak (E' := (Env.none.upd 0 (.lit (.int .i64 65533)))) (M' := Mem.nil) [] hnp ⟨rfl, trivial, by decide, rfl, trivial⟩ (LeE.upd rfl rfl (LeE.none rfl rfl))) rfl ?_
      refine W.now ?_
      have q0 := (Option.some.inj H)
      subst q0
      exact ⟨rfl, rfl, rfl⟩
    · replace H := cnf hb9338 H
      refine WP.skipW ?_
      refine W.cv (Cv.weak (E' := (Env.none.upd 0 (.lit (.int .i64 x9295)))) (M' := Mem.nil) [] hnp ⟨rfl, trivial, by decide, rfl, trivial⟩ (LeE.upd rfl rfl (LeE.none rfl rfl))) rfl ?_
      refine W.now ?_
      have q0 := (Option.some.inj H)
      subst q0
      exact ⟨rfl, rfl, rfl⟩
  · rintro _ _ _ ⟨rfl, rfl, rfl⟩
    refine W.now ?_
    refine Then.n ?_
    refine WP.seq ?_
    refine WP.seq ?_
    refine WP.region ?_
    refine WPL.q (q_mv (v := .lit (.int _ _)) rfl) rfl ?_
    refine WPL.q (q_lss rfl rfl) rfl ?_
    refine WPL.nilW ?_
    refine W.now ?_
    refine Then.n ?_
    refine WP.cond (t := (decide (x9336 < 128))) rfl (fun hb9341 => ?_) (fun hb9341 => ?_)
    · replace H := cnt hb9341 H
      refine WP.seq ?_
      refine WP.region ?_
      refine WPL.q (q_mv (v := .lit (.int _ _)) rfl) rfl ?_
      refine WPL.q (q_conv Tryd.underlying3 Tryd.underlying5 rfl) rfl ?_
      refine WPL.d (d_buildSlice (ds := ([(IntKind.wrap .u8 x9336)] : List Int)) (R := (Rd.int .u8)) li47 rfl rfl rfl rfl rfl (JoinRows.cons1 Joins.sc rfl JoinRows.nil) rfl rfl) rfl ?_
      refine WPL.q (q_as (v := .whole _) rfl) rfl ?_
      refine WPL.nilW ?_
      refine W.now ?_
      refine Then.n ?_
      refine WP.retW ?_
      refine W.cv (Cv.frzRow (i := 0) rfl rfl hnp rfl rfl) rfl ?_
      refine W.now ?_
      refine Then.r ?_
      have q0 := (Option.some.inj H)
      subst q0
      exact ⟨trivial, _, rfl, [], (.ro (Rd.slice (Rd.int .u8)) false ([(IntKind.wrap .u8 x9336)] : List Int)), Mem.nil, ⟨rfl, trivial, by decide, rfl, trivial⟩, rfl, rfl, rfl, rfl⟩
    · replace H := cnf hb9341 H
      refine WP.skipW ?_
      refine W.now ?_
      refine Then.n ?_
      refine WP.seq ?_
      refine WP.seq ?_
      refine WP.region ?_
      refine WPL.q (q_mv (v := .lit (.int _ _)) rfl) rfl ?_
      refine WPL.q (q_lss rfl rfl) rfl ?_
      refine WPL.nilW ?_
      refine W.now ?_
      refine Then.n ?_
      refine WP.cond (t := (decide (x9336 < 2048))) rfl (fun hb9345 => ?_) (fun hb9345 => ?_)
      · replace H := cnt hb9345 H
        refine WP.seq ?_
        refine WP.region ?_
        refine WPL.q (q_mv (v := .lit (.int _ _)) rfl) rfl ?_
        refine WPL.q (q_quo rfl rfl rfl) rfl ?_
        obtain ⟨x9347, h9347, H⟩ := bnd H
        refine WPL.q (q_nm (q_add rfl rfl) (nm_int h9347)) rfl ?_
        refine WPL.q (q_conv Tryd.underlying3 Tryd.underlying5 rfl) rfl ?_
        refine WPL.q (q_mv (v := .lit (.int _ _)) rfl) rfl ?_
        refine WPL.q (q_rem rfl rfl rfl) rfl ?_
        obtain ⟨x9348, h9348, H⟩ := bnd H
        refine WPL.q (q_nm (q_add rfl rfl) (nm_int h9348)) rfl ?_
        refine WPL.q (q_conv Tryd.underlying3 Tryd.underlying5 rfl) rfl ?_
        refine WPL.d (d_buildSlice (ds := ([(IntKind.wrap .u8 x9347), (IntKind.wrap .u8 x9348)] : List Int)) (R := (Rd.int .u8)) li47 rfl rfl rfl rfl rfl (JoinRows.cons1 Joins.sc rfl (JoinRows.cons1 Joins.sc rfl JoinRows.nil)) rfl rfl) rfl ?_
        refine WPL.q (q_as (v := .whole _) rfl) rfl ?_
        refine WPL.nilW ?_
        refine W.now ?_
        refine Then.n ?_
        refine WP.retW ?_
        refine W.cv (Cv.frzRow (i := 0) rfl rfl hnp rfl rfl) rfl ?_
        refine W.now ?_
        refine Then.r ?_
        have q0 := (Option.some.inj H)
        subst q0
        exact ⟨trivial, _, rfl, [], (.ro (Rd.slice (Rd.int .u8)) false ([(IntKind.wrap .u8 x9347), (IntKind.wrap .u8 x9348)] : List Int)), Mem.nil, ⟨rfl, trivial, by decide, rfl, trivial⟩, rfl, rfl, rfl, rfl⟩
      · replace H := cnf hb9345 H
        refine WP.skipW ?_
        refine W.now ?_
        refine Then.n ?_
        refine WP.seq ?_
        refine WP.seq ?_
        refine WP.region ?_
        refine WPL.q (q_mv (v := .lit (.int _ _)) rfl) rfl ?_
        refine WPL.q (q_lss rfl rfl) rfl ?_
        refine WPL.nilW ?_
        refine W.now ?_
        refine Then.n ?_
        refine WP.cond (t := (decide (x9336 < 65536))) rfl (fun hb9354 => ?_) (fun hb9354 => ?_)
        · replace H := cnt hb9354 H
          refine WP.seq ?_
          refine WP.region ?_
          refine WPL.q (q_mv (v := .lit (.int _ _)) rfl) rfl ?_
          obtain ⟨x9356, h9356, H⟩ := bnd H
          refine WPL.q (q_nm (q_quo rfl rfl rfl) (nm_int h9356)) rfl ?_
          refine WPL.q (q_add rfl rfl) rfl ?_
          obtain ⟨x9357, h9357, H⟩ := bnd H
          refine WPL.q (q_nm (q_conv Tryd.underlying3 Tryd.underlying5 rfl) (nm_int h9357)) rfl ?_
          refine WPL.q (q_mv (v := .lit (.int _ _)) rfl) rfl ?_
          refine WPL.q (q_quo rfl rfl rfl) rfl ?_
          obtain ⟨x9358, h9358, H⟩ := bnd H
          refine WPL.q (q_nm (q_rem rfl rfl rfl) (nm_int h9358)) rfl ?_
          refine WPL.q (q_add rfl rfl) rfl ?_
          obtain ⟨x9359, h9359, H⟩ := bnd H
          refine WPL.q (q_nm (q_conv Tryd.underlying3 Tryd.underlying5 rfl) (nm_int h9359)) rfl ?_
          refine WPL.q (q_mv (v := .lit (.int _ _)) rfl) rfl ?_
          refine WPL.q (q_rem rfl rfl rfl) rfl ?_
          obtain ⟨x9360, h9360, H⟩ := bnd H
          refine WPL.q (q_nm (q_add rfl rfl) (nm_int h9360)) rfl ?_
          refine WPL.q (q_conv Tryd.underlying3 Tryd.underlying5 rfl) rfl ?_
          refine WPL.d (d_buildSlice (ds := ([x9357, x9359, (IntKind.wrap .u8 x9360)] : List Int)) (R := (Rd.int .u8)) li47 rfl rfl rfl rfl rfl (JoinRows.cons1 Joins.sc rfl (JoinRows.cons1 Joins.sc rfl (JoinRows.cons1 Joins.sc rfl JoinRows.nil))) rfl rfl) rfl ?_
          refine WPL.q (q_as (v := .whole _) rfl) rfl ?_
          refine WPL.nilW ?_
          refine W.now ?_
          refine Then.n ?_
          refine WP.retW ?_
          refine W.cv (Cv.frzRow (i := 0) rfl rfl hnp rfl rfl) rfl ?_
          refine W.now ?_
          refine Then.r ?_
          have q0 := (Option.some.inj H)
          subst q0
          exact ⟨trivial, _, rfl, [], (.ro (Rd.slice (Rd.int .u8)) false ([x9357, x9359, (IntKind.wrap .u8 x9360)] : List Int)), Mem.nil, ⟨rfl, trivial, by decide, rfl, trivial⟩, rfl, rfl, rfl, rfl⟩
        · replace H := cnf hb9354 H
          refine WP.skipW ?_
          refine W.now ?_
          refine Then.n ?_
          refine WP.seq ?_
          refine WP.region ?_
          refine WPL.q (q_mv (v := .lit (.int _ _)) rfl) rfl ?_
          obtain ⟨x9361, h9361, H⟩ := bnd H
          refine WPL.q (q_nm (q_quo rfl rfl rfl) (nm_int h9361)) rfl ?_
          refine WPL.q (q_add rfl rfl) rfl ?_
          obtain ⟨x9362, h9362, H⟩ := bnd H
          refine WPL.q (q_nm (q_conv Tryd.underlying3 Tryd.underlying5 rfl) (nm_int h9362)) rfl ?_
          refine WPL.q (q_mv (v := .lit (.int _ _)) rfl) rfl ?_
          obtain ⟨x9363, h9363, H⟩ := bnd H
          refine WPL.q (q_nm (q_quo rfl rfl rfl) (nm_int h9363)) rfl ?_
          refine WPL.q (q_rem rfl rfl rfl) rfl ?_
          obtain ⟨x9364, h9364, H⟩ := bnd H
          refine WPL.q (q_nm (q_add rfl rfl) (nm_int h9364)) rfl ?_
          refine WPL.q (q_conv Tryd.underlying3 Tryd.underlying5 rfl) rfl ?_
          refine WPL.q (q_mv (v := .lit (.int _ _)) rfl) rfl ?_
          refine WPL.q (q_quo rfl rfl rfl) rfl ?_
          obtain ⟨x9365, h9365, H⟩ := bnd H
          refine WPL.q (q_nm (q_rem rfl rfl rfl) (nm_int h9365)) rfl ?_
          refine WPL.q (q_add rfl rfl) rfl ?_
          obtain ⟨x9366, h9366, H⟩ := bnd H
          refine WPL.q (q_nm (q_conv Tryd.underlying3 Tryd.underlying5 rfl) (nm_int h9366)) rfl ?_
          refine WPL.q (q_mv (v := .lit (.int _ _)) rfl) rfl ?_
          refine WPL.q (q_rem rfl rfl rfl) rfl ?_
          obtain ⟨x9367, h9367, H⟩ := bnd H
          refine WPL.q (q_nm (q_add rfl rfl) (nm_int h9367)) rfl ?_
          refine WPL.q (q_conv Tryd.underlying3 Tryd.underlying5 rfl) rfl ?_
          refine WPL.d (d_buildSlice (ds := ([x9362, (IntKind.wrap .u8 x9364), x9366, (IntKind.wrap .u8 x9367)] : List Int)) (R := (Rd.int .u8)) li47 rfl rfl rfl rfl rfl (JoinRows.cons1 Joins.sc rfl (JoinRows.cons1 Joins.sc rfl (JoinRows.cons1 Joins.sc rfl (JoinRows.cons1 Joins.sc rfl JoinRows.nil)))) rfl rfl) rfl ?_
          refine WPL.q (q_as (v := .whole _) rfl) rfl ?_
          refine WPL.nilW ?_
          refine W.now ?_
          refine Then.n ?_
          refine WP.retW ?_
          refine W.cv (Cv.frzRow (i := 0) rfl rfl hnp rfl rfl) rfl ?_
          refine W.now ?_
          have q0 := (Option.some.inj H)
          subst q0
          exact ⟨trivial, _, rfl, [], (.ro (Rd.slice (Rd.int .u8)) false ([x9362, (IntKind.wrap .u8 x9364), x9366, (IntKind.wrap .u8 x9367)] : List Int)), Mem.nil, ⟨rfl, trivial, by decide, rfl, trivial⟩, rfl, rfl, rfl, rfl⟩
set_option maxRecDepth 100000 in
set_option maxHeartbeats 4000000 in
theorem s_quireref06_first (k : Nat) (x9260 : ByteArray) (x9605 : Int) (x9606 : Int) (x9607 : Bool) (H : g_quireref06_first k x9260 = some (x9605, x9606, x9607)) : Go.Q.Spec Tryd.prog 29 0 [.lit (.string x9260)] Mem.nil (fun o M => o = .ret (.tup [.lit (.int .i64 x9605), .lit (.int .i64 x9606), .lit (.bool x9607)]) ∧ M = Mem.nil) := by
  unfold g_quireref06_first at H
  refine Go.Q.Spec.of_bodyR (rs := [.tmp 2, .tmp 3, .tmp 4]) (nt := 69) Tryd.func29 rfl rfl (by intro t T h; simp at h) rfl rfl fun cx hnp => ?_
  refine WP.seq ?_
  refine WP.region ?_
  refine WPL.q (q_as (v := .lit (.int _ _)) rfl) rfl ?_
  refine WPL.q (q_as (v := .lit (.int _ _)) rfl) rfl ?_
  refine WPL.q (q_as (v := .lit (.bool _)) rfl) rfl ?_
  refine WPL.nilW ?_
  refine W.now ?_
  refine Then.n ?_
  refine WP.seq ?_
  refine WP.seq ?_
  refine WP.region ?_
  refine WPL.q (q_as (v := .lit (.int _ _)) rfl) rfl ?_
  refine WPL.nilW ?_
  refine W.now ?_
  refine Then.n ?_
  refine WP.block ?_
  refine WP.cv (Cv.weak (E' := ((Env.none.upd 0 (.lit (.string x9260))).upd 5 (.lit (.int .i64 1)))) (M' := Mem.nil) [] hnp ⟨rfl, trivial, by decide, rfl, trivial⟩ (LeE.upd rfl rfl (LeE.upd rfl rfl (LeE.none rfl rfl)))) ?_
  obtain ⟨y10020, H10018, H⟩ := bnd H
  refine WP.monoW (Q := fun x E M => match (generalizing := false) y10020 with | (Sum.inl (x9855, x9856)) => x = .ret ∧ E = (((Env.none.upd 2 (.lit (.int .i64 x9855))).upd 3 (.lit (.int .i64 x9856))).upd 4 (.lit (.bool true))) ∧ M = Mem.nil | (Sum.inr _) => x = .exit 0 ∧ E = Env.none ∧ M = Mem.nil) ?_ ?_
  · refine WP.loop (β := Int) (fun n b => g_quireref06_first_l0 k x9260 n b = some y10020) (fun b => ((Env.none.upd 0 (.lit (.string x9260))).upd 5 (.lit (.int .i64 b)))) (fun b => Mem.nil) k 1 H10018 rfl rfl ?_
    rintro n x9696 H
    obtain _ | n := n
    · exact nf rfl H
    rw [g_quireref06_first_l0.eq_2] at H
    show WP _ _ _ _ ((Env.none.upd 0 (.lit (.string x9260))).upd 5 (.lit (.int .i64 x9696))) Mem.nil _
    refine WP.seq ?_
    refine WP.seq ?_
    obtain ⟨x9866, H9868, H⟩ := bnd H
    refine WP.monoW (Q := fun x E M => x = .normal ∧ E = (((Env.none.upd 0 (.lit (.string x9260))).upd 5 (.lit (.int .i64 x9696))).upd 15 (.lit (.bool x9866))) ∧ M = Mem.nil) ?_ ?_
    · clear H
      have H := H9868
      clear H9868
      refine WP.region ?_
      refine WPL.q (q_mv (v := .lit (.int _ _)) rfl) rfl ?_
      refine WPL.q (q_leq rfl rfl) rfl ?_
      refine WPL.q (q_mv (v := .lit (.bool _)) rfl) rfl ?_
      refine WPL.split (t := 10) (b := (decide (x9696 ≤ 4))) rfl (fun hb9866 => ?_) (fun hb9866 => ?_)
      · replace H := cnt hb9866 H
        refine WPL.qg rfl rfl (lb hb9866) (q_mv (v := .lit (.int _ _)) rfl) rfl ?_
        refine WPL.qg rfl rfl (lb hb9866) (q_mv (v := .lit (.string _)) rfl) rfl ?_
        refine WPL.qg rfl rfl (lb hb9866) (q_len_str Tryd.underlying9 rfl) rfl ?_
        obtain ⟨x9868, h9868, H⟩ := bnd H
        refine WPL.qg rfl rfl (lb hb9866) (q_nm (q_leq rfl rfl) (nm_bool h9868)) rfl ?_
        refine WPL.q (q_pickT (v := .lit (.bool _)) (lb hb9866) rfl) rfl ?_
        refine WPL.nilW ?_
        refine W.cv (Cv.weak (E' := (((Env.none.upd 0 (.lit (.string x9260))).upd 5 (.lit (.int .i64 x9696))).upd 15 (.lit (.bool x9868)))) (M' := Mem.nil) [] hnp ⟨rfl, trivial, by decide, rfl, trivial⟩ (LeE.upd rfl rfl (LeE.upd rfl rfl (LeE.upd rfl rfl (LeE.none rfl rfl))))) rfl ?_
        refine W.now ?_
        have q0 := (Option.some.inj H)
        subst q0
        exact ⟨rfl, rfl, rfl⟩
      · replace H := cnf hb9866 H
        refine WPL.skipg (b' := false) rfl rfl (lb hb9866) rfl rfl ?_
        refine WPL.skipg (b' := false) rfl rfl (lb hb9866) rfl rfl ?_
        refine WPL.skipg (b' := false) rfl rfl (lb hb9866) rfl rfl ?_
        refine WPL.skipg (b' := false) rfl rfl (lb hb9866) rfl rfl ?_
        refine WPL.q (q_pickF (v := .lit (.bool _)) (lb hb9866) rfl) rfl ?_
        refine WPL.nilW ?_
        refine W.cv (Cv.weak (E' := (((Env.none.upd 0 (.lit (.string x9260))).upd 5 (.lit (.int .i64 x9696))).upd 15 (.lit (.bool false)))) (M' := Mem.nil) [] hnp ⟨rfl, trivial, by decide, rfl, trivial⟩ (LeE.upd rfl rfl (LeE.upd rfl rfl (LeE.upd rfl rfl (LeE.none rfl rfl))))) rfl ?_
        refine W.now ?_
        have q0 := (Option.some.inj H)
        subst q0
        exact ⟨rfl, rfl, rfl⟩
    · rintro _ _ _ ⟨rfl, rfl, rfl⟩
      refine W.now ?_
      refine Then.n ?_
      refine WP.cond (t := x9866) rfl (fun hb9869 => ?_) (fun hb9869 => ?_)
      · replace H := cnt hb9869 H
        refine WP.skipW ?_
        refine W.now ?_
        refine Then.n ?_
        refine WP.seq ?_
        refine WP.block ?_
        refine WP.seq ?_
        refine WP.region ?_
        refine WPL.q (q_mv (v := .lit (.string _)) rfl) rfl ?_
        obtain ⟨x9943, h9943, H⟩ := bnd H
        refine WPL.q (q_index_str Tryd.underlying9 rfl rfl h9943) rfl ?_
        refine WPL.q (q_conv Tryd.underlying5 Tryd.underlying3 rfl) rfl ?_
        refine WPL.q (q_as (v := .lit (.int _ _)) rfl) rfl ?_
        refine WPL.nilW ?_
        refine W.now ?_
        refine Then.n ?_
        refine WP.seq ?_
        obtain ⟨x9947, H9950, H⟩ := bnd H
        refine WP.monoW (Q := fun x E M => x = .normal ∧ E = (((Env.none.upd 0 (.lit (.string x9260))).upd 5 (.lit (.int .i64 x9696))).upd 6 (.lit (.int .i64 x9947))) ∧ M = Mem.nil) ?_ ?_
        · clear H
          have H := H9950
          clear H9950
          refine WP.seq ?_
          refine WP.region ?_
          refine WPL.q (q_mv (v := .lit (.int _ _)) rfl) rfl ?_
          refine WPL.q (q_eql rfl rfl) rfl ?_
          refine WPL.nilW ?_
          refine W.now ?_
          refine Then.n ?_
          refine WP.cond (t := (decide (x9696 = 2))) rfl (fun hb9947 => ?_) (fun hb9947 => ?_)
          · replace H := cnt hb9947 H
            refine WP.region ?_
            refine WPL.q (q_mv (v := .lit (.string _)) rfl) rfl ?_
            obtain ⟨x9949, h9949, H⟩ := bnd H
            refine WPL.q (q_index_str Tryd.underlying9 rfl rfl h9949) rfl ?_
            refine WPL.q (q_conv Tryd.underlying5 Tryd.underlying3 rfl) rfl ?_
            obtain ⟨x9950, h9950, H⟩ := bnd H
            refine WPL.q (q_nm (q_sub rfl rfl) (nm_int h9950)) rfl ?_
            refine WPL.q (q_as (v := .lit (.int _ _)) rfl) rfl ?_
            refine WPL.nilW ?_
            refine W.cv (Cv.weak (E' := (((Env.none.upd 0 (.lit (.string x9260))).upd 5 (.lit (.int .i64 x9696))).upd 6 (.lit (.int .i64 x9950)))) (M' := Mem.nil) [] hnp ⟨rfl, trivial, by decide, rfl, trivial⟩ (LeE.upd rfl rfl (LeE.upd rfl rfl (LeE.upd rfl rfl (LeE.none rfl rfl))))) rfl ?_
            refine W.now ?_
            have q0 := (Option.some.inj H)
            subst q0
            exact ⟨rfl, rfl, rfl⟩
          · replace H := cnf hb9947 H
            refine WP.skipW ?_
            refine W.cv (Cv.weak (E' := (((Env.none.upd 0 (.lit (.string x9260))).upd 5 (.lit (.int .i64 x9696))).upd 6 (.lit (.int .i64 (IntKind.wrap .i64 x9943))))) (M' := Mem.nil) [] hnp ⟨rfl, trivial, by decide, rfl, trivial⟩ (LeE.upd rfl rfl (LeE.upd rfl rfl (LeE.upd rfl rfl (LeE.none rfl rfl))))) rfl ?_
            refine W.now ?_
            have q0 := (Option.some.inj H)
            subst q0
            exact ⟨rfl, rfl, rfl⟩
        · rintro _ _ _ ⟨rfl, rfl, rfl⟩
          refine W.now ?_
          refine Then.n ?_
          refine WP.seq ?_
          obtain ⟨x9955, H9958, H⟩ := bnd H
          refine WP.monoW (Q := fun x E M => x = .normal ∧ E = (((Env.none.upd 0 (.lit (.string x9260))).upd 5 (.lit (.int .i64 x9696))).upd 6 (.lit (.int .i64 x9955))) ∧ M = Mem.nil) ?_ ?_
          · clear H
            have H := H9958
            clear H9958
            refine WP.seq ?_
            refine WP.region ?_
            refine WPL.q (q_mv (v := .lit (.int _ _)) rfl) rfl ?_
            refine WPL.q (q_eql rfl rfl) rfl ?_
            refine WPL.nilW ?_
            refine W.now ?_
            refine Then.n ?_
            refine WP.cond (t := (decide (x9696 = 3))) rfl (fun hb9955 => ?_) (fun hb9955 => ?_)
            · replace H := cnt hb9955 H
              refine WP.region ?_
              refine WPL.q (q_mv (v := .lit (.string _)) rfl) rfl ?_
              obtain ⟨x9957, h9957, H⟩ := bnd H
              refine WPL.q (q_index_str Tryd.underlying9 rfl rfl h9957) rfl ?_
              refine WPL.q (q_conv Tryd.underlying5 Tryd.underlying3 rfl) rfl ?_
              obtain ⟨x9958, h9958, H⟩ := bnd H
              refine WPL.q (q_nm (q_sub rfl rfl) (nm_int h9958)) rfl ?_
              refine WPL.q (q_as (v := .lit (.int _ _)) rfl) rfl ?_
              refine WPL.nilW ?_
              refine W.cv (Cv.weak (E' := (((Env.none.upd 0 (.lit (.string x9260))).upd 5 (.lit (.int .i64 x9696))).upd 6 (.lit (.int .i64 x9958)))) (M' := Mem.nil) [] hnp ⟨rfl, trivial, by decide, rfl, trivial⟩ (LeE.upd rfl rfl (LeE.upd rfl rfl (LeE.upd rfl rfl (LeE.none rfl rfl))))) rfl ?_
              refine W.now ?_
              have q0 := (Option.some.inj H)
              subst q0
              exact ⟨rfl, rfl, rfl⟩
            · replace H := cnf hb9955 H
              refine WP.skipW ?_
              refine W.cv (Cv.weak (E' := (((Env.none.upd 0 (.lit (.string x9260))).upd 5 (.lit (.int .i64 x9696))).upd 6 (.lit (.int .i64 x9947)))) (M' := Mem.nil) [] hnp ⟨rfl, trivial, by decide, rfl, trivial⟩ (LeE.upd rfl rfl (LeE.upd rfl rfl (LeE.upd rfl rfl (LeE.none rfl rfl))))) rfl ?_
              refine W.now ?_
              have q0 := (Option.some.inj H)
              subst q0
              exact ⟨rfl, rfl, rfl⟩
          · rintro _ _ _ ⟨rfl, rfl, rfl⟩
            refine W.now ?_
            refine Then.n ?_
            refine WP.seq ?_
            obtain ⟨x9963, H9966, H⟩ := bnd H
            refine WP.monoW (Q := fun x E M => x = .normal ∧ E = (((Env.none.upd 0 (.lit (.string x9260))).upd 5 (.lit (.int .i64 x9696))).upd 6 (.lit (.int .i64 x9963))) ∧ M = Mem.nil) ?_ ?_
            · clear H
              have H := H9966
              clear H9966
              refine WP.seq ?_
              refine WP.region ?_
              refine WPL.q (q_mv (v := .lit (.int _ _)) rfl) rfl ?_
              refine WPL.q (q_eql rfl rfl) rfl ?_
              refine WPL.nilW ?_
              refine W.now ?_
              refine Then.n ?_
              refine WP.cond (t := (decide (x9696 = 4))) rfl (fun hb9963 => ?_) (fun hb9963 => ?_)
              · replace H := cnt hb9963 H
                refine WP.region ?_
                refine WPL.q (q_mv (v := .lit (.string _)) rfl) rfl ?_
                obtain ⟨x9965, h9965, H⟩ := bnd H
                refine WPL.q (q_index_str Tryd.underlying9 rfl rfl h9965) rfl ?_
                refine WPL.q (q_conv Tryd.underlying5 Tryd.underlying3 rfl) rfl ?_
                obtain ⟨x9966, h9966, H⟩ := bnd H
                refine WPL.q (q_nm (q_sub rfl rfl) (nm_int h9966)) rfl ?_
                refine WPL.q (q_as (v := .lit (.int _ _)) rfl) rfl ?_
                refine WPL.nilW ?_
                refine W.cv (Cv.weak (E' := (((Env.none.upd 0 (.lit (.string x9260))).upd 5 (.lit (.int .i64 x9696))).upd 6 (.lit (.int .i64 x9966)))) (M' := Mem.nil) [] hnp ⟨rfl, trivial, by decide, rfl, trivial⟩ (LeE.upd rfl rfl (LeE.upd rfl rfl (LeE.upd rfl rfl (LeE.none rfl rfl))))) rfl ?_
                refine W.now ?_
                have q0 := (Option.some.inj H)
                subst q0
                exact ⟨rfl, rfl, rfl⟩
              · replace H := cnf hb9963 H
                refine WP.skipW ?_
                refine W.cv (Cv.weak (E' := (((Env.none.upd 0 (.lit (.string x9260))).upd 5 (.lit (.int .i64 x9696))).upd 6 (.lit (.int .i64 x9955)))) (M' := Mem.nil) [] hnp ⟨rfl, trivial, by decide, rfl, trivial⟩ (LeE.upd rfl rfl (LeE.upd rfl rfl (LeE.upd rfl rfl (LeE.none rfl rfl))))) rfl ?_
                refine W.now ?_
                have q0 := (Option.some.inj H)
                subst q0
                exact ⟨rfl, rfl, rfl⟩
            · rintro _ _ _ ⟨rfl, rfl, rfl⟩
              refine W.now ?_
              refine Then.n ?_
              refine WP.seq ?_
              refine WP.seq ?_
              refine WP.region ?_
              refine WPL.q (q_as (v := .lit (.int _ _)) rfl) rfl ?_
              refine WPL.nilW ?_
              refine W.now ?_
              refine Then.n ?_
              refine WP.block ?_
              refine WP.cv (Cv.weak (E' := ((((Env.none.upd 0 (.lit (.string x9260))).upd 5 (.lit (.int .i64 x9696))).upd 6 (.lit (.int .i64 x9963))).upd 7 (.lit (.int .i64 1)))) (M' := Mem.nil) [] hnp ⟨rfl, trivial, by decide, rfl, trivial⟩ (LeE.upd rfl rfl (LeE.upd rfl rfl (LeE.upd rfl rfl (LeE.upd rfl rfl (LeE.none rfl rfl)))))) ?_
              obtain ⟨x9978, H9982, H⟩ := bnd H
              refine WP.monoW (Q := fun x E M => x = .exit 2 ∧ E = (((Env.none.upd 0 (.lit (.string x9260))).upd 5 (.lit (.int .i64 x9696))).upd 6 (.lit (.int .i64 x9978))) ∧ M = Mem.nil) ?_ ?_
              · refine WP.loop (β := Int × Int) (fun n b => g_quireref06_first_l1 k x9260 x9696 n b.1 b.2 = some x9978) (fun b => ((((Env.none.upd 0 (.lit (.string x9260))).upd 5 (.lit (.int .i64 x9696))).upd 6 (.lit (.int .i64 b.1))).upd 7 (.lit (.int .i64 b.2)))) (fun b => Mem.nil) k (x9963, 1) H9982 rfl rfl ?_
                rintro n ⟨x9972, x9973⟩ H
                obtain _ | n := n
                · exact nf rfl H
                rw [g_quireref06_first_l1.eq_2] at H
                show WP _ _ _ _ ((((Env.none.upd 0 (.lit (.string x9260))).upd 5 (.lit (.int .i64 x9696))).upd 6 (.lit (.int .i64 x9972))).upd 7 (.lit (.int .i64 x9973))) Mem.nil _
                refine WP.seq ?_
                refine WP.seq ?_
                refine WP.region ?_
                refine WPL.q (q_mv (v := .lit (.int _ _)) rfl) rfl ?_
                refine WPL.q (q_mv (v := .lit (.int _ _)) rfl) rfl ?_
                refine WPL.q (q_lss rfl rfl) rfl ?_
                refine WPL.nilW ?_
                refine W.now ?_
                refine Then.n ?_
                refine WP.cond (t := (decide (x9973 < x9696))) rfl (fun hb9979 => ?_) (fun hb9979 => ?_)
                · replace H := cnt hb9979 H
                  refine WP.skipW ?_
                  refine W.now ?_
                  refine Then.n ?_
                  refine WP.seq ?_
                  refine WP.block ?_
                  refine WP.region ?_
                  refine WPL.q (q_mv (v := .lit (.int _ _)) rfl) rfl ?_
                  refine WPL.q (q_mul rfl rfl) rfl ?_
                  refine WPL.q (q_mv (v := .lit (.string _)) rfl) rfl ?_
                  refine WPL.q (q_mv (v := .lit (.int _ _)) rfl) rfl ?_
                  obtain ⟨x9981, h9981, H⟩ := bnd H
                  refine WPL.q (q_index_str Tryd.underlying9 rfl rfl h9981) rfl ?_
                  refine WPL.q (q_conv Tryd.underlying5 Tryd.underlying3 rfl) rfl ?_
                  obtain ⟨x9982, h9982, H⟩ := bnd H
                  refine WPL.q (q_nm (q_add rfl rfl) (nm_int h9982)) rfl ?_
                  refine WPL.q (q_sub rfl rfl) rfl ?_
                  refine WPL.q (q_as (v := .lit (.int _ _)) rfl) rfl ?_
                  refine WPL.nilW ?_
                  refine W.now ?_
                  refine InBlock.n ?_
                  refine Then.n ?_
                  refine WP.region ?_
                  refine WPL.q (q_mv (v := .lit (.int _ _)) rfl) rfl ?_
                  refine WPL.q (q_add rfl rfl) rfl ?_
                  refine WPL.q (q_as (v := .lit (.int _ _)) rfl) rfl ?_
                  refine WPL.nilW ?_
                  refine W.cv (Cv.weak (E' := ((((Env.none.upd 0 (.lit (.string x9260))).upd 5 (.lit (.int .i64 x9696))).upd 6 (.lit (.int .i64 (IntKind.wrap .i64 (x9982 - 128))))).upd 7 (.lit (.int .i64 (IntKind.wrap .i64 (x9973 + 1)))))) (M' := Mem.nil) [] hnp ⟨rfl, trivial, by decide, rfl, trivial⟩ (LeE.upd rfl rfl (LeE.upd rfl rfl (LeE.upd rfl rfl (LeE.upd rfl rfl (LeE.none rfl rfl)))))) rfl ?_
                  refine W.now ?_
                  exact Then.n ⟨n, ((IntKind.wrap .i64 (x9982 - 128)), (IntKind.wrap .i64 (x9973 + 1))), Nat.lt_succ_self n, H, rfl, rfl⟩
                · replace H := cnf hb9979 H
                  refine WP.exitW ?_
                  refine W.cv (Cv.weak (E' := (((Env.none.upd 0 (.lit (.string x9260))).upd 5 (.lit (.int .i64 x9696))).upd 6 (.lit (.int .i64 x9972)))) (M' := Mem.nil) [] hnp ⟨rfl, trivial, by decide, rfl, trivial⟩ (LeE.upd rfl rfl (LeE.upd rfl rfl (LeE.upd rfl rfl (LeE.none rfl rfl))))) rfl ?_
                  refine W.now ?_
                  refine Then.x ?_
                  refine Then.x ?_
                  have q0 := (Option.some.inj H)
                  subst q0
                  exact ⟨rfl, rfl, rfl⟩
              · rintro _ _ _ ⟨rfl, rfl, rfl⟩
                refine W.now ?_
                refine InBlock.x0 ?_
                refine Then.n ?_
                refine WP.seq ?_
                obtain ⟨x10000, H10016, H⟩ := bnd H
                refine WP.monoW (Q := fun x E M => x = .normal ∧ E = ((((Env.none.upd 0 (.lit (.string x9260))).upd 5 (.lit (.int .i64 x9696))).upd 6 (.lit (.int .i64 x9978))).upd 66 (.lit (.bool x10000))) ∧ M = Mem.nil) ?_ ?_
                · clear H
                  have H := H10016
                  clear H10016
                  refine WP.regionD' 15 [] [] mixed rfl ?_
                  refine WPD.takeT 0 rfl (by kernel_rfl) (q_mv (v := .lit (.int _ _)) rfl) rfl ?_
                  refine WPD.takeT 1 rfl (by kernel_rfl) (q_geq rfl rfl) rfl ?_
                  refine WPD.takeT 2 rfl (by kernel_rfl) (q_mv (v := .lit (.bool _)) rfl) rfl ?_
                  refine WPD.split (t := 54) (b := (decide (0 ≤ x9978))) rfl (fun hb10008 => ?_) (fun hb10008 => ?_)
                  · replace H := cnt hb10008 H
                    refine WPD.takegT 3 rfl (by kernel_rfl) rfl rfl (lb hb10008) (q_mv (v := .lit (.int _ _)) rfl) rfl ?_
                    obtain ⟨x10011, h10009, H⟩ := bnd H
                    refine WPD.effg 4 [] [] rfl (by kernel_rfl) rfl rfl (lb hb10008) (runs_call (s := []) (t := []) (N := 0) (bor := []) fn43 rfl (s_quireref06_char k x9978 x10011 h10009) ⟨rfl, trivial, by decide, rfl, trivial⟩ rfl trivial (.ren rfl rfl .nil) rfl trivial rfl) rfl rfl ?_
                    refine WPD.takeT 5 rfl (by kernel_rfl) (q_pickT (v := .lit (.bool _)) (lb hb10008) rfl) rfl ?_
                    refine WPD.takeT 6 rfl (by kernel_rfl) (q_mv (v := .lit (.bool _)) rfl) rfl ?_
                    refine WPD.split (t := 58) (b := x10011) rfl (fun hb10011 => ?_) (fun hb10011 => ?_)
                    · replace H := cnt hb10011 H
                      refine WPD.takegT 7 rfl (by kernel_rfl) rfl rfl (lb hb10011) (q_mv (v := .lit (.int _ _)) rfl) rfl ?_
                      refine WPD.takegT 10 rfl (by kernel_rfl) rfl rfl (lb hb10011) (q_mv (v := .lit (.string _)) rfl) rfl ?_
                      refine WPD.takegT 11 rfl (by kernel_rfl) rfl rfl (lb hb10011) (q_mv (v := .lit (.int _ _)) rfl) rfl ?_
                      obtain ⟨h10012, H⟩ := grd H
                      refine WPD.takegT 12 rfl (by kernel_rfl) rfl rfl (lb hb10011) (q_slice_str (i := 0) (j := x9696) Tryd.underlying9 rfl rfl ⟨_, rfl⟩ h10012) rfl ?_
                      obtain ⟨x10015, h10013, H⟩ := bnd H
                      refine WPD.effg 8 [] [] rfl (by kernel_rfl) rfl rfl (lb hb10011) (runs_call (s := []) (t := []) (N := 0) (bor := []) fn41 rfl (s_quireref06_Write k x9978 x10015 h10013) ⟨rfl, trivial, by decide, rfl, trivial⟩ rfl trivial (.ren rfl rfl .nil) rfl trivial rfl) rfl rfl ?_
                      refine WPD.takegT 9 rfl (by kernel_rfl) rfl rfl (lb hb10011) (q_bytes_str Tryd.underlying47 Tryd.underlying5 Tryd.underlying9 rfl) rfl ?_
                      obtain ⟨x10016, h10016, H⟩ := bnd H
                      refine WPD.takegT 13 rfl (by kernel_rfl) rfl rfl (lb hb10011) (q_nm (q_eqls rfl rfl) (nm_bool h10016)) rfl ?_
                      refine WPD.takeT 14 rfl (by kernel_rfl) (q_pickT (v := .lit (.bool _)) (lb hb10011) rfl) rfl ?_
                      refine WPD.doneW (by kernel_rfl) ?_
                      refine W.cv (Cv.weak (E' := ((((Env.none.upd 0 (.lit (.string x9260))).upd 5 (.lit (.int .i64 x9696))).upd 6 (.lit (.int .i64 x9978))).upd 66 (.lit (.bool x10016)))) (M' := Mem.nil) [] hnp ⟨rfl, trivial, by decide, rfl, trivial⟩ (LeE.upd rfl rfl (LeE.upd rfl rfl (LeE.upd rfl rfl (LeE.upd rfl rfl (LeE.none rfl rfl)))))) rfl ?_
                      refine W.now ?_
                      have q0 := (Option.some.inj H)
                      subst q0
                      exact ⟨rfl, rfl, rfl⟩
                    · replace H := cnf hb10011 H
                      refine WPD.pass (b' := false) 7 rfl (by kernel_rfl) rfl rfl (lb hb10011) rfl rfl ?_
                      refine WPD.pass (b' := false) 8 rfl (by kernel_rfl) rfl rfl (lb hb10011) rfl rfl ?_
                      refine WPD.pass (b' := false) 9 rfl (by kernel_rfl) rfl rfl (lb hb10011) rfl rfl ?_
                      refine WPD.pass (b' := false) 10 rfl (by kernel_rfl) rfl rfl (lb hb10011) rfl rfl ?_
                      refine WPD.pass (b' := false) 11 rfl (by kernel_rfl) rfl rfl (lb hb10011) rfl rfl ?_
                      refine WPD.pass (b' := false) 12 rfl (by kernel_rfl) rfl rfl (lb hb10011) rfl rfl ?_
                      refine WPD.pass (b' := false) 13 rfl (by kernel_rfl) rfl rfl (lb hb10011) rfl rfl ?_
                      refine WPD.takeT 14 rfl (by kernel_rfl) (q_pickF (v := .lit (.bool _)) (lb hb10011) rfl) rfl ?_
                      refine WPD.doneW (by kernel_rfl) ?_
                      refine W.cv (Cv.weak (E' := ((((Env.none.upd 0 (.lit (.string x9260))).upd 5 (.lit (.int .i64 x9696))).upd 6 (.lit (.int .i64 x9978))).upd 66 (.lit (.bool false)))) (M' := Mem.nil) [] hnp ⟨rfl, trivial, by decide, rfl, trivial⟩ (LeE.upd rfl rfl (LeE.upd rfl rfl (LeE.upd rfl rfl (LeE.upd rfl rfl (LeE.none rfl rfl)))))) rfl ?_
                      refine W.now ?_
                      have q0 := (Option.some.inj H)
                      subst q0
                      exact ⟨rfl, rfl, rfl⟩
                  · replace H := cnf hb10008 H
                    refine WPD.pass (b' := false) 3 rfl (by kernel_rfl) rfl rfl (lb hb10008) rfl rfl ?_
                    refine WPD.pass (b' := false) 4 rfl (by kernel_rfl) rfl rfl (lb hb10008) rfl rfl ?_
                    refine WPD.takeT 5 rfl (by kernel_rfl) (q_pickF (v := .lit (.bool _)) (lb hb10008) rfl) rfl ?_
                    refine WPD.takeT 6 rfl (by kernel_rfl) (q_mv (v := .lit (.bool _)) rfl) rfl ?_
                    refine WPD.pass (b' := false) 7 rfl (by kernel_rfl) rfl rfl rfl rfl rfl ?_
                    refine WPD.pass (b' := false) 8 rfl (by kernel_rfl) rfl rfl rfl rfl rfl ?_
                    refine WPD.pass (b' := false) 9 rfl (by kernel_rfl) rfl rfl rfl rfl rfl ?_
                    refine WPD.pass (b' := false) 10 rfl (by kernel_rfl) rfl rfl rfl rfl rfl ?_
                    refine WPD.pass (b' := false) 11 rfl (by kernel_rfl) rfl rfl rfl rfl rfl ?_
                    refine WPD.pass (b' := false) 12 rfl (by kernel_rfl) rfl rfl rfl rfl rfl ?_
                    refine WPD.pass (b' := false) 13 rfl (by kernel_rfl) rfl rfl rfl rfl rfl ?_
                    refine WPD.takeT 14 rfl (by kernel_rfl) (q_pickF (v := .lit (.bool _)) rfl rfl) rfl ?_
                    refine WPD.doneW (by kernel_rfl) ?_
                    refine W.cv (Cv.weak (E' := ((((Env.none.upd 0 (.lit (.string x9260))).upd 5 (.lit (.int .i64 x9696))).upd 6 (.lit (.int .i64 x9978))).upd 66 (.lit (.bool false)))) (M' := Mem.nil) [] hnp ⟨rfl, trivial, by decide, rfl, trivial⟩ (LeE.upd rfl rfl (LeE.upd rfl rfl (LeE.upd rfl rfl (LeE.upd rfl rfl (LeE.none rfl rfl)))))) rfl ?_
                    refine W.now ?_
                    have q0 := (Option.some.inj H)
                    subst q0
                    exact ⟨rfl, rfl, rfl⟩
                · rintro _ _ _ ⟨rfl, rfl, rfl⟩
                  refine W.now ?_
                  refine Then.n ?_
                  refine WP.cond (t := x10000) rfl (fun hb10017 => ?_) (fun hb10017 => ?_)
                  · replace H := cnt hb10017 H
                    refine WP.seq ?_
                    refine WP.region ?_
                    refine WPL.q (q_mv (v := .lit (.int _ _)) rfl) rfl ?_
                    refine WPL.q (q_mv (v := .lit (.int _ _)) rfl) rfl ?_
                    refine WPL.q (q_as (v := .lit (.int _ _)) rfl) rfl ?_
                    refine WPL.q (q_as (v := .lit (.int _ _)) rfl) rfl ?_
                    refine WPL.q (q_as (v := .lit (.bool _)) rfl) rfl ?_
                    refine WPL.nilW ?_
                    refine W.now ?_
                    refine Then.n ?_
                    refine WP.retW ?_
                    refine W.cv (Cv.weak (E' := (((Env.none.upd 2 (.lit (.int .i64 x9978))).upd 3 (.lit (.int .i64 x9696))).upd 4 (.lit (.bool true)))) (M' := Mem.nil) [] hnp ⟨rfl, trivial, by decide, rfl, trivial⟩ (LeE.upd rfl rfl (LeE.upd rfl rfl (LeE.upd rfl rfl (LeE.none rfl rfl))))) rfl ?_
                    refine W.now ?_
                    refine InBlock.r ?_
                    refine Then.r ?_
                    refine Then.r ?_
                    have q0 := Option.some.inj H
                    subst q0
                    exact ⟨rfl, rfl, rfl⟩
                  · replace H := cnf hb10017 H
                    refine WP.skipW ?_
                    refine W.now ?_
                    refine InBlock.n ?_
                    refine Then.n ?_
                    refine WP.region ?_
                    refine WPL.q (q_mv (v := .lit (.int _ _)) rfl) rfl ?_
                    refine WPL.q (q_add rfl rfl) rfl ?_
                    refine WPL.q (q_as (v := .lit (.int _ _)) rfl) rfl ?_
                    refine WPL.nilW ?_
                    refine W.cv (Cv.weak (E' := ((Env.none.upd 0 (.lit (.string x9260))).upd 5 (.lit (.int .i64 (IntKind.wrap .i64 (x9696 + 1)))))) (M' := Mem.nil) [] hnp ⟨rfl, trivial, by decide, rfl, trivial⟩ (LeE.upd rfl rfl (LeE.upd rfl rfl (LeE.none rfl rfl)))) rfl ?_
                    refine W.now ?_
                    exact Then.n ⟨n, (IntKind.wrap .i64 (x9696 + 1)), Nat.lt_succ_self n, H, rfl, rfl⟩
      · replace H := cnf hb9869 H
        refine WP.exitW ?_
        refine W.cv (Cv.weak (E' := Env.none) (M' := Mem.nil) [] hnp ⟨rfl, trivial, by decide, rfl, trivial⟩ (LeE.none rfl rfl)) rfl ?_
        refine W.now ?_
        refine Then.x ?_
        refine Then.x ?_
        have q0 := Option.some.inj H
        subst q0
        exact ⟨rfl, rfl, rfl⟩
  · rcases y10020 with ⟨x9855, x9856⟩ | _
    · rintro _ _ _ ⟨rfl, rfl, rfl⟩
      refine W.now ?_
      refine InBlock.r ?_
      refine Then.r ?_
      have q0 := (Prod.mk.inj (Option.some.inj H)).1
      have q1 := (Prod.mk.inj (Prod.mk.inj (Option.some.inj H)).2).1
      have q2 := (Prod.mk.inj (Prod.mk.inj (Option.some.inj H)).2).2
      subst q0
      subst q1
      subst q2
      exact ⟨trivial, _, rfl, [], (.tup [.lit (.int .i64 x9855), .lit (.int .i64 x9856), .lit (.bool true)]), Mem.nil, ⟨rfl, trivial, by decide, rfl, trivial⟩, rfl, rfl, rfl, rfl⟩
    · rintro _ _ _ ⟨rfl, rfl, rfl⟩
      refine W.now ?_
      refine InBlock.x0 ?_
      refine Then.n ?_
      refine WP.seq ?_
      refine WP.region ?_
      refine WPL.q (q_as (v := .lit (.int _ _)) rfl) rfl ?_
      refine WPL.q (q_as (v := .lit (.int _ _)) rfl) rfl ?_
      refine WPL.q (q_as (v := .lit (.bool _)) rfl) rfl ?_
      refine WPL.nilW ?_
      refine W.now ?_
      refine Then.n ?_
      refine WP.retW ?_
      refine W.now ?_
      have q0 := (Prod.mk.inj (Option.some.inj H)).1
      have q1 := (Prod.mk.inj (Prod.mk.inj (Option.some.inj H)).2).1
      have q2 := (Prod.mk.inj (Prod.mk.inj (Option.some.inj H)).2).2
      subst q0
      subst q1
      subst q2
      exact ⟨trivial, _, rfl, [], (.tup [.lit (.int .i64 65533), .lit (.int .i64 1), .lit (.bool false)]), Mem.nil, ⟨rfl, trivial, by decide, rfl, trivial⟩, rfl, rfl, rfl, rfl⟩
set_option maxRecDepth 100000 in
set_option maxHeartbeats 4000000 in
theorem s_quireref06_Valid (k : Nat) (x9254 : ByteArray) (x10044 : Bool) (H : g_quireref06_Valid k x9254 = some x10044) : Go.Q.Spec Tryd.prog 9 0 [.lit (.string x9254)] Mem.nil (fun o M => o = .ret (.lit (.bool x10044)) ∧ M = Mem.nil) := by
  unfold g_quireref06_Valid at H
  refine Go.Q.Spec.of_bodyR (rs := [.tmp 2]) (nt := 20) Tryd.func9 rfl rfl (by intro t T h; simp at h) rfl rfl fun cx hnp => ?_
  refine WP.seq ?_
  refine WP.region ?_
  refine WPL.q (q_as (v := .lit (.bool _)) rfl) rfl ?_
  refine WPL.nilW ?_
  refine W.now ?_
  refine Then.n ?_
  refine WP.seq ?_
  refine WP.block ?_
  refine WP.cv (Cv.weak (E' := (Env.none.upd 0 (.lit (.string x9254)))) (M' := Mem.nil) [] hnp ⟨rfl, trivial, by decide, rfl, trivial⟩ (LeE.upd rfl rfl (LeE.none rfl rfl))) ?_
  obtain ⟨y10083, H10081, H⟩ := bnd H
  refine WP.monoW (Q := fun x E M => match (generalizing := false) y10083 with | (Sum.inl _) => x = .ret ∧ E = (Env.none.upd 2 (.lit (.bool false))) ∧ M = Mem.nil | (Sum.inr _) => x = .exit 0 ∧ E = Env.none ∧ M = Mem.nil) ?_ ?_
  · refine WP.loop (β := ByteArray) (fun n b => g_quireref06_Valid_l0 k n b = some y10083) (fun b => (Env.none.upd 0 (.lit (.string b)))) (fun b => Mem.nil) k x9254 H10081 rfl rfl ?_
    rintro n x10057 H
    obtain _ | n := n
    · exact nf rfl H
    rw [g_quireref06_Valid_l0.eq_2] at H
    show WP _ _ _ _ (Env.none.upd 0 (.lit (.string x10057))) Mem.nil _
    refine WP.seq ?_
    refine WP.seq ?_
    refine WP.region ?_
    refine WPL.q (q_mv (v := .lit (.string _)) rfl) rfl ?_
    refine WPL.q (q_len_str Tryd.underlying9 rfl) rfl ?_
    obtain ⟨x10072, h10072, H⟩ := bnd H
    refine WPL.q (q_nm (q_gtr rfl rfl) (nm_bool h10072)) rfl ?_
    refine WPL.nilW ?_
    refine W.now ?_
    refine Then.n ?_
    refine WP.cond (t := x10072) rfl (fun hb10072 => ?_) (fun hb10072 => ?_)
    · replace H := cnt hb10072 H
      refine WP.skipW ?_
      refine W.now ?_
      refine Then.n ?_
      refine WP.block ?_
      refine WP.seq ?_
      refine WP.region ?_
      refine WPL.q (q_mv (v := .lit (.string _)) rfl) rfl ?_
      obtain ⟨⟨x10075, x10076, x10077⟩, h10073, H⟩ := bnd H
      refine WPL.c (runs_call (s := []) (t := []) (N := 0) (bor := []) fn29 rfl (s_quireref06_first k x10057 x10075 x10076 x10077 h10073) ⟨rfl, trivial, by decide, rfl, trivial⟩ rfl trivial (.ren rfl rfl .nil) rfl trivial rfl) rfl ?_
      refine WPL.q (q_mv (v := .tup _) rfl) rfl ?_
      refine WPL.q (q_extract rfl rfl) rfl ?_
      refine WPL.q (q_extract rfl rfl) rfl ?_
      refine WPL.q (q_extract rfl rfl) rfl ?_
      refine WPL.q (q_as (v := .lit (.int _ _)) rfl) rfl ?_
      refine WPL.q (q_as (v := .lit (.int _ _)) rfl) rfl ?_
      refine WPL.q (q_as (v := .lit (.bool _)) rfl) rfl ?_
      refine WPL.nilW ?_
      refine W.now ?_
      refine Then.n ?_
      refine WP.seq ?_
      refine WP.seq ?_
      refine WP.region ?_
      refine WPL.q (q_mv (v := .lit (.bool _)) rfl) rfl ?_
      refine WPL.q (q_not rfl) rfl ?_
      refine WPL.nilW ?_
      refine W.now ?_
      refine Then.n ?_
      refine WP.cond (t := (!x10077)) rfl (fun hb10078 => ?_) (fun hb10078 => ?_)
      · replace H := cnt hb10078 H
        refine WP.seq ?_
        refine WP.region ?_
        refine WPL.q (q_as (v := .lit (.bool _)) rfl) rfl ?_
        refine WPL.nilW ?_
        refine W.now ?_
        refine Then.n ?_
        refine WP.retW ?_
        refine W.cv (Cv.weak (E' := (Env.none.upd 2 (.lit (.bool false)))) (M' := Mem.nil) [] hnp ⟨rfl, trivial, by decide, rfl, trivial⟩ (LeE.upd rfl rfl (LeE.none rfl rfl))) rfl ?_
        refine W.now ?_
        refine Then.r ?_
        refine InBlock.r ?_
        refine Then.r ?_
        have q0 := Option.some.inj H
        subst q0
        exact ⟨rfl, rfl, rfl⟩
      · replace H := cnf hb10078 H
        refine WP.skipW ?_
        refine W.now ?_
        refine Then.n ?_
        refine WP.region ?_
        refine WPL.q (q_mv (v := .lit (.string _)) rfl) rfl ?_
        refine WPL.q (q_mv (v := .lit (.int _ _)) rfl) rfl ?_
        obtain ⟨h10079, H⟩ := grd H
        obtain ⟨x10081, h10081, H⟩ := bnd H
        refine WPL.q (q_nm (q_slice_str (i := x10076) (j := ((ByteArray.size x10057 : Nat) : Int)) Tryd.underlying9 rfl ⟨_, rfl⟩ rfl h10079) (nm_str h10081)) rfl ?_
        refine WPL.q (q_as (v := .lit (.string _)) rfl) rfl ?_
        refine WPL.nilW ?_
        refine W.cv (Cv.weak (E' := (Env.none.upd 0 (.lit (.string x10081)))) (M' := Mem.nil) [] hnp ⟨rfl, trivial, by decide, rfl, trivial⟩ (LeE.upd rfl rfl (LeE.none rfl rfl))) rfl ?_
        refine W.now ?_
        refine InBlock.n ?_
        exact Then.n ⟨n, x10081, Nat.lt_succ_self n, H, rfl, rfl⟩
    · replace H := cnf hb10072 H
      refine WP.exitW ?_
      refine W.cv (Cv.weak (E' := Env.none) (M' := Mem.nil) [] hnp ⟨rfl, trivial, by decide, rfl, trivial⟩ (LeE.none rfl rfl)) rfl ?_
      refine W.now ?_
      refine Then.x ?_
      refine Then.x ?_
      have q0 := Option.some.inj H
      subst q0
      exact ⟨rfl, rfl, rfl⟩
  · rcases y10083 with _ | _
    · rintro _ _ _ ⟨rfl, rfl, rfl⟩
      refine W.now ?_
      refine InBlock.r ?_
      refine Then.r ?_
      have q0 := (Option.some.inj H)
      subst q0
      exact ⟨trivial, _, rfl, [], (.lit (.bool false)), Mem.nil, ⟨rfl, trivial, by decide, rfl, trivial⟩, rfl, rfl, rfl, rfl⟩
    · rintro _ _ _ ⟨rfl, rfl, rfl⟩
      refine W.now ?_
      refine InBlock.x0 ?_
      refine Then.n ?_
      refine WP.seq ?_
      refine WP.region ?_
      refine WPL.q (q_as (v := .lit (.bool _)) rfl) rfl ?_
      refine WPL.nilW ?_
      refine W.now ?_
      refine Then.n ?_
      refine WP.retW ?_
      refine W.now ?_
      have q0 := (Option.some.inj H)
      subst q0
      exact ⟨trivial, _, rfl, [], (.lit (.bool true)), Mem.nil, ⟨rfl, trivial, by decide, rfl, trivial⟩, rfl, rfl, rfl, rfl⟩
set_option maxRecDepth 100000 in
set_option maxHeartbeats 4000000 in
theorem s_utf_Xml (k : Nat) (x10087 : ByteArray) (x10152 : Int) (H : g_utf_Xml k x10087 = some x10152) : Go.Q.Spec Tryd.prog 10 0 [.lit (.string x10087)] Mem.nil (fun o M => o = .ret (.lit (.int .i64 x10152)) ∧ M = Mem.nil) := by
  unfold g_utf_Xml at H
  refine Go.Q.Spec.of_bodyR (rs := [.tmp 2]) (nt := 27) Tryd.func10 rfl rfl (by intro t T h; simp at h) rfl rfl fun cx hnp => ?_
  refine WP.seq ?_
  refine WP.region ?_
  refine WPL.q (q_as (v := .lit (.int _ _)) rfl) rfl ?_
  refine WPL.nilW ?_
  refine W.now ?_
  refine Then.n ?_
  refine WP.seq ?_
  refine WP.seq ?_
  refine WP.region ?_
  refine WPL.q (q_mv (v := .lit (.string _)) rfl) rfl ?_
  obtain ⟨x10157, h10155, H⟩ := bnd H
  refine WPL.c (runs_call (s := []) (t := []) (N := 0) (bor := []) fn28 rfl (s_unicode_utf8_ValidString k x10087 x10157 h10155) ⟨rfl, trivial, by decide, rfl, trivial⟩ rfl trivial (.ren rfl rfl .nil) rfl trivial rfl) rfl ?_
  refine WPL.q (q_not rfl) rfl ?_
  refine WPL.nilW ?_
  refine W.now ?_
  refine Then.n ?_
  refine WP.cond (t := (!x10157)) rfl (fun hb10157 => ?_) (fun hb10157 => ?_)
  · replace H := cnt hb10157 H
    refine WP.seq ?_
    refine WP.region ?_
    refine WPL.q (q_as (v := .lit (.int _ _)) rfl) rfl ?_
    refine WPL.nilW ?_
    refine W.now ?_
    refine Then.n ?_
    refine WP.retW ?_
    refine W.now ?_
    refine Then.r ?_
    have q0 := (Option.some.inj H)
    subst q0
    exact ⟨trivial, _, rfl, [], (.lit (.int .i64 20)), Mem.nil, ⟨rfl, trivial, by decide, rfl, trivial⟩, rfl, rfl, rfl, rfl⟩
  · replace H := cnf hb10157 H
    refine WP.skipW ?_
    refine W.now ?_
    refine Then.n ?_
    refine WP.seq ?_
    refine WP.seq ?_
    refine WP.region ?_
    refine WPL.q (q_mv (v := .lit (.string _)) rfl) rfl ?_
    refine WPL.d (d_range Tryd.underlying9 rfl rfl) rfl ?_
    refine WPL.nilW ?_
    refine W.now ?_
    refine Then.n ?_
    refine WP.block ?_
    refine WP.cv (Cv.weak (E' := (Env.none.upd 9 (.ptr 0 0))) (M' := (Mem.nil.push (.obj (.stringIter x10087 0)))) [0] hnp ⟨rfl, ⟨trivial, .inr ⟨rfl, rfl, rfl⟩⟩, by decide, rfl, trivial⟩ (LeE.upd rfl rfl (LeE.none rfl rfl))) ?_
    obtain ⟨y10242, H10240, H⟩ := bnd H
    refine WP.monoW (Q := fun x E M => match (generalizing := false) y10242 with | (Sum.inl _) => x = .ret ∧ E = (Env.none.upd 2 (.lit (.int .i64 20))) ∧ M = Mem.nil | (Sum.inr _) => x = .exit 0 ∧ E = Env.none ∧ M = Mem.nil) ?_ ?_
    · refine WP.loop (β := Nat) (fun n b => g_utf_Xml_l0 k x10087 n b = some y10242) (fun b => (Env.none.upd 9 (.ptr 0 0))) (fun b => (Mem.nil.push (.obj (.stringIter x10087 b)))) k 0 H10240 rfl rfl ?_
      rintro n x10186 H
      obtain _ | n := n
      · exact nf rfl H
      rw [g_utf_Xml_l0.eq_2] at H
      show WP _ _ _ _ (Env.none.upd 9 (.ptr 0 0)) (Mem.nil.push (.obj (.stringIter x10087 x10186))) _
      refine WP.seq ?_
      refine WP.region ?_
      refine WPL.splitB (decide (x10186 < ByteArray.size x10087)) (fun hb10213 => ?_) (fun hb10213 => ?_)
      · replace H := cnt hb10213 H
        refine WPL.d (d_next rfl rfl hb10213) rfl ?_
        refine WPL.q (q_extract rfl rfl) rfl ?_
        refine WPL.nilW ?_
        refine W.now ?_
        refine Then.n ?_
        refine WP.seq ?_
        refine WP.condT rfl ?_
        refine WP.skipW ?_
        refine W.now ?_
        refine Then.n ?_
        refine WP.block ?_
        refine WP.seq ?_
        refine WP.region ?_
        refine WPL.q (q_extract rfl rfl) rfl ?_
        refine WPL.q (q_as (v := .lit (.int _ _)) rfl) rfl ?_
        refine WPL.nilW ?_
        refine W.now ?_
        refine Then.n ?_
        refine WP.block ?_
        refine WP.seq ?_
        obtain ⟨x10220, H10225, H⟩ := bnd H
        refine WP.monoW (Q := fun x E M => x = .normal ∧ E = (((Env.none.upd 4 (.lit (.int .i32 (((Utf8.decode x10087 x10186).1 : Nat) : Int)))).upd 9 (.ptr 0 0)).upd 13 (.lit (.bool x10220))) ∧ M = (Mem.nil.push (.obj (.stringIter x10087 (x10186 + (Utf8.decode x10087 x10186).2))))) ?_ ?_
        · clear H
          have H := H10225
          clear H10225
          refine WP.seq ?_
          refine WP.region ?_
          refine WPL.q (q_mv (v := .lit (.int _ _)) rfl) rfl ?_
          obtain ⟨x10221, h10221, H⟩ := bnd H
          refine WPL.q (q_nm (q_eql rfl rfl) (nm_bool h10221)) rfl ?_
          refine WPL.q (q_as (v := .lit (.bool _)) rfl) rfl ?_
          refine WPL.nilW ?_
          refine W.now ?_
          refine Then.n ?_
          refine WP.cond (t := x10221) rfl (fun hb10221 => ?_) (fun hb10221 => ?_)
          · replace H := cnt hb10221 H
            refine WP.skipW ?_
            refine W.cv (Cv.weak (E' := (((Env.none.upd 4 (.lit (.int .i32 (((Utf8.decode x10087 x10186).1 : Nat) : Int)))).upd 9 (.ptr 0 0)).upd 13 (.lit (.bool x10221)))) (M' := (Mem.nil.push (.obj (.stringIter x10087 (x10186 + (Utf8.decode x10087 x10186).2))))) [0] hnp ⟨rfl, ⟨trivial, .inr ⟨rfl, rfl, rfl⟩⟩, by decide, rfl, trivial⟩ (LeE.upd rfl rfl (LeE.upd rfl rfl (LeE.upd rfl rfl (LeE.none rfl rfl))))) rfl ?_
            refine W.now ?_
            have q0 := (Option.some.inj H)
            subst q0
            exact ⟨rfl, rfl, rfl⟩
          · replace H := cnf hb10221 H
            refine WP.seq ?_
            refine WP.region ?_
            refine WPL.q (q_mv (v := .lit (.int _ _)) rfl) rfl ?_
            obtain ⟨x10223, h10223, H⟩ := bnd H
            refine WPL.q (q_nm (q_eql rfl rfl) (nm_bool h10223)) rfl ?_
            refine WPL.q (q_as (v := .lit (.bool _)) rfl) rfl ?_
            refine WPL.nilW ?_
            refine W.now ?_
            refine Then.n ?_
            refine WP.cond (t := x10223) rfl (fun hb10223 => ?_) (fun hb10223 => ?_)
            · replace H := cnt hb10223 H
              refine WP.skipW ?_
              refine W.cv (Cv.weak (E' := (((Env.none.upd 4 (.lit (.int .i32 (((Utf8.decode x10087 x10186).1 : Nat) : Int)))).upd 9 (.ptr 0 0)).upd 13 (.lit (.bool x10223)))) (M' := (Mem.nil.push (.obj (.stringIter x10087 (x10186 + (Utf8.decode x10087 x10186).2))))) [0] hnp ⟨rfl, ⟨trivial, .inr ⟨rfl, rfl, rfl⟩⟩, by decide, rfl, trivial⟩ (LeE.upd rfl rfl (LeE.upd rfl rfl (LeE.upd rfl rfl (LeE.none rfl rfl))))) rfl ?_
              refine W.now ?_
              have q0 := (Option.some.inj H)
              subst q0
              exact ⟨rfl, rfl, rfl⟩
            · replace H := cnf hb10223 H
              refine WP.region ?_
              refine WPL.q (q_mv (v := .lit (.int _ _)) rfl) rfl ?_
              obtain ⟨x10225, h10225, H⟩ := bnd H
              refine WPL.q (q_nm (q_eql rfl rfl) (nm_bool h10225)) rfl ?_
              refine WPL.q (q_as (v := .lit (.bool _)) rfl) rfl ?_
              refine WPL.nilW ?_
              refine W.cv (Cv.weak (E' := (((Env.none.upd 4 (.lit (.int .i32 (((Utf8.decode x10087 x10186).1 : Nat) : Int)))).upd 9 (.ptr 0 0)).upd 13 (.lit (.bool x10225)))) (M' := (Mem.nil.push (.obj (.stringIter x10087 (x10186 + (Utf8.decode x10087 x10186).2))))) [0] hnp ⟨rfl, ⟨trivial, .inr ⟨rfl, rfl, rfl⟩⟩, by decide, rfl, trivial⟩ (LeE.upd rfl rfl (LeE.upd rfl rfl (LeE.upd rfl rfl (LeE.none rfl rfl))))) rfl ?_
              refine W.now ?_
              have q0 := (Option.some.inj H)
              subst q0
              exact ⟨rfl, rfl, rfl⟩
        · rintro _ _ _ ⟨rfl, rfl, rfl⟩
          refine W.now ?_
          refine Then.n ?_
          refine WP.cond (t := x10220) rfl (fun hb10226 => ?_) (fun hb10226 => ?_)
          · replace H := cnt hb10226 H
            refine WP.skipW ?_
            refine W.cv (Cv.weak (E' := (Env.none.upd 9 (.ptr 0 0))) (M' := (Mem.nil.push (.obj (.stringIter x10087 (x10186 + (Utf8.decode x10087 x10186).2))))) [0] hnp ⟨rfl, ⟨trivial, .inr ⟨rfl, rfl, rfl⟩⟩, by decide, rfl, trivial⟩ (LeE.upd rfl rfl (LeE.none rfl rfl))) rfl ?_
            refine W.now ?_
            refine InBlock.n ?_
            refine InBlock.n ?_
            exact Then.n ⟨n, (x10186 + (Utf8.decode x10087 x10186).2), Nat.lt_succ_self n, H, rfl, rfl⟩
          · replace H := cnf hb10226 H
            refine WP.seq ?_
            obtain ⟨x10233, H10238, H⟩ := bnd H
            refine WP.monoW (Q := fun x E M => x = .normal ∧ E = ((Env.none.upd 9 (.ptr 0 0)).upd 20 (.lit (.bool x10233))) ∧ M = (Mem.nil.push (.obj (.stringIter x10087 (x10186 + (Utf8.decode x10087 x10186).2))))) ?_ ?_
            · clear H
              have H := H10238
              clear H10238
              refine WP.seq ?_
              refine WP.region ?_
              refine WPL.q (q_mv (v := .lit (.int _ _)) rfl) rfl ?_
              obtain ⟨x10234, h10234, H⟩ := bnd H
              refine WPL.q (q_nm (q_lss rfl rfl) (nm_bool h10234)) rfl ?_
              refine WPL.q (q_as (v := .lit (.bool _)) rfl) rfl ?_
              refine WPL.nilW ?_
              refine W.now ?_
              refine Then.n ?_
              refine WP.cond (t := x10234) rfl (fun hb10234 => ?_) (fun hb10234 => ?_)
              · replace H := cnt hb10234 H
                refine WP.skipW ?_
                refine W.cv (Cv.weak (E' := ((Env.none.upd 9 (.ptr 0 0)).upd 20 (.lit (.bool x10234)))) (M' := (Mem.nil.push (.obj (.stringIter x10087 (x10186 + (Utf8.decode x10087 x10186).2))))) [0] hnp ⟨rfl, ⟨trivial, .inr ⟨rfl, rfl, rfl⟩⟩, by decide, rfl, trivial⟩ (LeE.upd rfl rfl (LeE.upd rfl rfl (LeE.none rfl rfl)))) rfl ?_
                refine W.now ?_
                have q0 := (Option.some.inj H)
                subst q0
                exact ⟨rfl, rfl, rfl⟩
              · replace H := cnf hb10234 H
                refine WP.seq ?_
                refine WP.region ?_
                refine WPL.q (q_mv (v := .lit (.int _ _)) rfl) rfl ?_
                obtain ⟨x10236, h10236, H⟩ := bnd H
                refine WPL.q (q_nm (q_eql rfl rfl) (nm_bool h10236)) rfl ?_
                refine WPL.q (q_as (v := .lit (.bool _)) rfl) rfl ?_
                refine WPL.nilW ?_
                refine W.now ?_
                refine Then.n ?_
                refine WP.cond (t := x10236) rfl (fun hb10236 => ?_) (fun hb10236 => ?_)
                · replace H := cnt hb10236 H
                  refine WP.skipW ?_
                  refine W.cv (Cv.weak (E' := ((Env.none.upd 9 (.ptr 0 0)).upd 20 (.lit (.bool x10236)))) (M' := (Mem.nil.push (.obj (.stringIter x10087 (x10186 + (Utf8.decode x10087 x10186).2))))) [0] hnp ⟨rfl, ⟨trivial, .inr ⟨rfl, rfl, rfl⟩⟩, by decide, rfl, trivial⟩ (LeE.upd rfl rfl (LeE.upd rfl rfl (LeE.none rfl rfl)))) rfl ?_
                  refine W.now ?_
                  have q0 := (Option.some.inj H)
                  subst q0
                  exact ⟨rfl, rfl, rfl⟩
                · replace H := cnf hb10236 H
                  refine WP.region ?_
                  refine WPL.q (q_mv (v := .lit (.int _ _)) rfl) rfl ?_
                  obtain ⟨x10238, h10238, H⟩ := bnd H
                  refine WPL.q (q_nm (q_eql rfl rfl) (nm_bool h10238)) rfl ?_
                  refine WPL.q (q_as (v := .lit (.bool _)) rfl) rfl ?_
                  refine WPL.nilW ?_
                  refine W.cv (Cv.weak (E' := ((Env.none.upd 9 (.ptr 0 0)).upd 20 (.lit (.bool x10238)))) (M' := (Mem.nil.push (.obj (.stringIter x10087 (x10186 + (Utf8.decode x10087 x10186).2))))) [0] hnp ⟨rfl, ⟨trivial, .inr ⟨rfl, rfl, rfl⟩⟩, by decide, rfl, trivial⟩ (LeE.upd rfl rfl (LeE.upd rfl rfl (LeE.none rfl rfl)))) rfl ?_
                  refine W.now ?_
                  have q0 := (Option.some.inj H)
                  subst q0
                  exact ⟨rfl, rfl, rfl⟩
            · rintro _ _ _ ⟨rfl, rfl, rfl⟩
              refine W.now ?_
              refine Then.n ?_
              refine WP.cond (t := x10233) rfl (fun hb10239 => ?_) (fun hb10239 => ?_)
              · replace H := cnt hb10239 H
                refine WP.seq ?_
                refine WP.region ?_
                refine WPL.q (q_as (v := .lit (.int _ _)) rfl) rfl ?_
                refine WPL.nilW ?_
                refine W.now ?_
                refine Then.n ?_
                refine WP.retW ?_
                refine W.cv (Cv.weak (E' := (Env.none.upd 2 (.lit (.int .i64 20)))) (M' := Mem.nil) [] hnp ⟨rfl, trivial, by decide, rfl, trivial⟩ (LeE.upd rfl rfl (LeE.none rfl rfl))) rfl ?_
                refine W.now ?_
                refine InBlock.r ?_
                refine InBlock.r ?_
                refine Then.r ?_
                have q0 := Option.some.inj H
                subst q0
                exact ⟨rfl, rfl, rfl⟩
              · replace H := cnf hb10239 H
                refine WP.skipW ?_
                refine W.cv (Cv.weak (E' := (Env.none.upd 9 (.ptr 0 0))) (M' := (Mem.nil.push (.obj (.stringIter x10087 (x10186 + (Utf8.decode x10087 x10186).2))))) [0] hnp ⟨rfl, ⟨trivial, .inr ⟨rfl, rfl, rfl⟩⟩, by decide, rfl, trivial⟩ (LeE.upd rfl rfl (LeE.none rfl rfl))) rfl ?_
                refine W.now ?_
                refine InBlock.n ?_
                refine InBlock.n ?_
                exact Then.n ⟨n, (x10186 + (Utf8.decode x10087 x10186).2), Nat.lt_succ_self n, H, rfl, rfl⟩
      · replace H := cnf hb10213 H
        refine WPL.q (q_nextEnd rfl rfl hb10213) rfl ?_
        refine WPL.q (q_extract rfl rfl) rfl ?_
        refine WPL.nilW ?_
        refine W.now ?_
        refine Then.n ?_
        refine WP.seq ?_
        refine WP.condF rfl ?_
        refine WP.exitW ?_
        refine W.cv (Cv.weak (E' := Env.none) (M' := Mem.nil) [] hnp ⟨rfl, trivial, by decide, rfl, trivial⟩ (LeE.none rfl rfl)) rfl ?_
        refine W.now ?_
        refine Then.x ?_
        refine Then.x ?_
        have q0 := Option.some.inj H
        subst q0
        exact ⟨rfl, rfl, rfl⟩
    · rcases y10242 with _ | _
      · rintro _ _ _ ⟨rfl, rfl, rfl⟩
        refine W.now ?_
        refine InBlock.r ?_
        refine Then.r ?_
        have q0 := (Option.some.inj H)
        subst q0
        exact ⟨trivial, _, rfl, [], (.lit (.int .i64 20)), Mem.nil, ⟨rfl, trivial, by decide, rfl, trivial⟩, rfl, rfl, rfl, rfl⟩
      · rintro _ _ _ ⟨rfl, rfl, rfl⟩
        refine W.now ?_
        refine InBlock.x0 ?_
        refine Then.n ?_
        refine WP.seq ?_
        refine WP.region ?_
        refine WPL.q (q_as (v := .lit (.int _ _)) rfl) rfl ?_
        refine WPL.nilW ?_
        refine W.now ?_
        refine Then.n ?_
        refine WP.retW ?_
        refine W.now ?_
        have q0 := (Option.some.inj H)
        subst q0
        exact ⟨trivial, _, rfl, [], (.lit (.int .i64 0)), Mem.nil, ⟨rfl, trivial, by decide, rfl, trivial⟩, rfl, rfl, rfl, rfl⟩
end Go.Proofs.YtnbjdgamindikaaDoor.W
