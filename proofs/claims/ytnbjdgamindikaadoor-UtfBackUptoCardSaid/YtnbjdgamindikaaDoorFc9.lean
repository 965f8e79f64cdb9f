/- Walks: Fc9 -/
import Derived.Test.YtnbjdgamindikaaDoorFb
import Derived.Test.YtnbjdgamindikaaDoorFc1
import Derived.Test.YtnbjdgamindikaaDoorFc2
import Derived.Test.YtnbjdgamindikaaDoorFc3
import Derived.Test.YtnbjdgamindikaaDoorFc5
import Derived.Test.YtnbjdgamindikaaDoorFc8
namespace Go.Proofs.YtnbjdgamindikaaDoor.W
open Go Go.Q Go.Proofs
set_option linter.unusedVariables false
set_option linter.unusedSimpArgs false
set_option maxRecDepth 100000 in
set_option maxHeartbeats 4000000 in
theorem s_quirelaw06_UtfBack (k : Nat) (x14356 : ByteArray) (x14357 : (List Int)) (x14358 : Int) (x14473 : Bool) (H : g_quirelaw06_UtfBack k x14356 x14357 x14358 = some x14473) : Go.Q.Spec Tryd.prog 7 0 [.lit (.string x14356), .ro (Rd.slice (Rd.int .i64)) false x14357, .lit (.int .i64 x14358)] Mem.nil (fun o M => o = .ret (.lit (.bool x14473)) ∧ M = Mem.nil) := by
  unfold g_quirelaw06_UtfBack at H
  refine Go.Q.Spec.of_bodyR (rs := [.tmp 6]) (nt := 60) Tryd.func7 rfl rfl (by intro t T h; simp at h) rfl rfl fun cx hnp => ?_
  refine WP.seq ?_
  refine WP.region ?_
  refine WPL.q (q_as (v := .lit (.bool _)) rfl) rfl ?_
  refine WPL.nilW ?_
  refine W.now ?_
  refine Then.n ?_
  refine WP.seq ?_
  refine WP.region ?_
  refine WPL.q (q_mv (v := .ro _ _ _) rfl) rfl ?_
  obtain ⟨x14475, h14473, H⟩ := bnd H
  refine WPL.c (runs_call (s := []) (t := []) (N := 0) (bor := []) fn26 rfl (s_utf_Text k x14357 x14475 h14473) ⟨rfl, trivial, by decide, rfl, trivial⟩ rfl trivial (.ren rfl rfl .nil) rfl trivial rfl) rfl ?_
  refine WPL.q (q_as (v := .lit (.string _)) rfl) rfl ?_
  refine WPL.nilW ?_
  refine W.now ?_
  refine Then.n ?_
  refine WP.seq ?_
  refine WP.seq ?_
  obtain ⟨x14536, H14555, H⟩ := bnd H
  refine WP.monoW (Q := fun x E M => x = .normal ∧ E = (((Env.none.upd 0 (.lit (.string x14356))).upd 2 (.lit (.int .i64 x14358))).upd 35 (.lit (.bool x14536))) ∧ M = Mem.nil) ?_ ?_
  · clear H
    have H := H14555
    clear H14555
    refine WP.region ?_
    refine WPL.q (q_mv (v := .lit (.string _)) rfl) rfl ?_
    obtain ⟨x14538, h14536, H⟩ := bnd H
    refine WPL.c (runs_call (s := []) (t := []) (N := 0) (bor := []) fn8 rfl (s_utf_Valid k x14475 x14538 h14536) ⟨rfl, trivial, by decide, rfl, trivial⟩ rfl trivial (.ren rfl rfl .nil) rfl trivial rfl) rfl ?_
    refine WPL.q (q_not rfl) rfl ?_
    refine WPL.q (q_mv (v := .lit (.bool _)) rfl) rfl ?_
    refine WPL.split (t := 14) (b := (!x14538)) rfl (fun hb14538 => ?_) (fun hb14538 => ?_)
    · replace H := cnt hb14538 H
      refine WPL.skipg (b' := true) rfl rfl (lb hb14538) rfl rfl ?_
      refine WPL.skipg (b' := true) rfl rfl (lb hb14538) rfl rfl ?_
      refine WPL.skipg (b' := true) rfl rfl (lb hb14538) rfl rfl ?_
      refine WPL.skipg (b' := true) rfl rfl (lb hb14538) rfl rfl ?_
      refine WPL.skipg (b' := true) rfl rfl (lb hb14538) rfl rfl ?_
      refine WPL.q (q_pickT (v := .lit (.bool _)) (lb hb14538) rfl) rfl ?_
      refine WPL.q (q_mv (v := .lit (.bool _)) rfl) rfl ?_
      refine WPL.skipg (b' := true) rfl rfl rfl rfl rfl ?_
      refine WPL.skipg (b' := true) rfl rfl rfl rfl rfl ?_
      refine WPL.skipg (b' := true) rfl rfl rfl rfl rfl ?_
      refine WPL.skipu rfl rfl rfl rfl ?_
      refine WPL.skipu rfl rfl rfl rfl ?_
      refine WPL.skipu rfl rfl rfl rfl ?_
      refine WPL.skipu rfl rfl rfl rfl ?_
      refine WPL.skipu rfl rfl rfl rfl ?_
      refine WPL.skipg (b' := true) rfl rfl rfl rfl rfl ?_
      refine WPL.q (q_pickT (v := .lit (.bool _)) rfl rfl) rfl ?_
      refine WPL.q (q_mv (v := .lit (.bool _)) rfl) rfl ?_
      refine WPL.skipg (b' := true) rfl rfl rfl rfl rfl ?_
      refine WPL.skipg (b' := true) rfl rfl rfl rfl rfl ?_
      refine WPL.q (q_pickT (v := .lit (.bool _)) rfl rfl) rfl ?_
      refine WPL.nilW ?_
      refine W.cv (Cv.weak (E' := (((Env.none.upd 0 (.lit (.string x14356))).upd 2 (.lit (.int .i64 x14358))).upd 35 (.lit (.bool true)))) (M' := Mem.nil) [] hnp ⟨rfl, trivial, by decide, rfl, trivial⟩ (LeE.upd rfl rfl (LeE.upd rfl rfl (LeE.upd rfl rfl (LeE.none rfl rfl))))) rfl ?_
      refine W.now ?_
      have q0 := (Option.some.inj H)
      subst q0
      exact ⟨rfl, rfl, rfl⟩
    · replace H := cnf hb14538 H
      refine WPL.qg rfl rfl (lb hb14538) (q_mv (v := .lit (.string _)) rfl) rfl ?_
      obtain ⟨x14541, h14539, H⟩ := bnd H
      refine WPL.cg rfl rfl (lb hb14538) (runs_call (s := []) (t := []) (N := 0) (bor := []) fn15 rfl (s_utf_Count k x14475 x14541 h14539) ⟨rfl, trivial, by decide, rfl, trivial⟩ rfl trivial (.ren rfl rfl .nil) rfl trivial rfl) rfl ?_
      refine WPL.qg rfl rfl (lb hb14538) (q_mv (v := .ro _ _ _) rfl) rfl ?_
      refine WPL.qg rfl rfl (lb hb14538) (q_len_ro sl26 rfl) rfl ?_
      obtain ⟨x14542, h14542, H⟩ := bnd H
      refine WPL.qg rfl rfl (lb hb14538) (q_nm (q_neq rfl rfl) (nm_bool h14542)) rfl ?_
      refine WPL.q (q_pickF (v := .lit (.bool _)) (lb hb14538) rfl) rfl ?_
      refine WPL.q (q_mv (v := .lit (.bool _)) rfl) rfl ?_
      refine WPL.split (t := 21) (b := x14542) rfl (fun hb14542 => ?_) (fun hb14542 => ?_)
      · replace H := cnt hb14542 H
        refine WPL.skipg (b' := true) rfl rfl (lb hb14542) rfl rfl ?_
        refine WPL.skipg (b' := true) rfl rfl (lb hb14542) rfl rfl ?_
        refine WPL.skipg (b' := true) rfl rfl (lb hb14542) rfl rfl ?_
        refine WPL.skipu rfl rfl rfl rfl ?_
        refine WPL.skipu rfl rfl rfl rfl ?_
        refine WPL.skipu rfl rfl rfl rfl ?_
        refine WPL.skipu rfl rfl rfl rfl ?_
        refine WPL.skipu rfl rfl rfl rfl ?_
        refine WPL.skipg (b' := true) rfl rfl (lb hb14542) rfl rfl ?_
        refine WPL.q (q_pickT (v := .lit (.bool _)) (lb hb14542) rfl) rfl ?_
        refine WPL.q (q_mv (v := .lit (.bool _)) rfl) rfl ?_
        refine WPL.skipg (b' := true) rfl rfl rfl rfl rfl ?_
        refine WPL.skipg (b' := true) rfl rfl rfl rfl rfl ?_
        refine WPL.q (q_pickT (v := .lit (.bool _)) rfl rfl) rfl ?_
        refine WPL.nilW ?_
        refine W.cv (Cv.weak (E' := (((Env.none.upd 0 (.lit (.string x14356))).upd 2 (.lit (.int .i64 x14358))).upd 35 (.lit (.bool true)))) (M' := Mem.nil) [] hnp ⟨rfl, trivial, by decide, rfl, trivial⟩ (LeE.upd rfl rfl (LeE.upd rfl rfl (LeE.upd rfl rfl (LeE.none rfl rfl))))) rfl ?_
        refine W.now ?_
        have q0 := (Option.some.inj H)
        subst q0
        exact ⟨rfl, rfl, rfl⟩
      · replace H := cnf hb14542 H
        refine WPL.qg rfl rfl (lb hb14542) (q_mv (v := .lit (.string _)) rfl) rfl ?_
        obtain ⟨x14545, h14543, H⟩ := bnd H
        refine WPL.cg rfl rfl (lb hb14542) (runs_call (s := []) (t := []) (N := 0) (bor := []) fn8 rfl (s_utf_Valid k x14356 x14545 h14543) ⟨rfl, trivial, by decide, rfl, trivial⟩ rfl trivial (.ren rfl rfl .nil) rfl trivial rfl) rfl ?_
        refine WPL.qg rfl rfl (lb hb14542) (q_mv (v := .lit (.bool _)) rfl) rfl ?_
        refine WPL.split (t := 24) (b := x14545) rfl (fun hb14545 => ?_) (fun hb14545 => ?_)
        · replace H := cnt hb14545 H
          refine WPL.qg rfl rfl (lb hb14545) (q_mv (v := .lit (.string _)) rfl) rfl ?_
          obtain ⟨x14548, h14546, H⟩ := bnd H
          refine WPL.cg rfl rfl (lb hb14545) (runs_call (s := []) (t := []) (N := 0) (bor := []) fn13 rfl (s_utf_Runes k x14356 x14548 h14546) ⟨rfl, trivial, by decide, rfl, trivial⟩ rfl trivial (.ren rfl rfl .nil) rfl trivial rfl) rfl ?_
          obtain ⟨x14550, h14548, H⟩ := bnd H
          refine WPL.cg rfl rfl (lb hb14545) (runs_call (s := []) (t := []) (N := 0) (bor := []) fn26 rfl (s_utf_Text k x14548 x14550 h14548) ⟨rfl, trivial, by decide, rfl, trivial⟩ rfl trivial (.ren rfl rfl .nil) rfl trivial rfl) rfl ?_
          refine WPL.qg rfl rfl (lb hb14545) (q_mv (v := .lit (.string _)) rfl) rfl ?_
          refine WPL.qg rfl rfl (lb hb14545) (q_neqs rfl rfl) rfl ?_
          refine WPL.qg rfl rfl (lb hb14542) (q_pickT (v := .lit (.bool _)) (lb hb14545) rfl) rfl ?_
          refine WPL.q (q_pickF (v := .lit (.bool _)) (lb hb14542) rfl) rfl ?_
          refine WPL.q (q_mv (v := .lit (.bool _)) rfl) rfl ?_
          refine WPL.split (t := 32) (b := (!(x14550.toList == x14356.toList))) rfl (fun hb14550 => ?_) (fun hb14550 => ?_)
          · replace H := cnt hb14550 H
            refine WPL.skipg (b' := true) rfl rfl (lb hb14550) rfl rfl ?_
            refine WPL.skipg (b' := true) rfl rfl (lb hb14550) rfl rfl ?_
            refine WPL.q (q_pickT (v := .lit (.bool _)) (lb hb14550) rfl) rfl ?_
            refine WPL.nilW ?_
            refine W.cv (Cv.weak (E' := (((Env.none.upd 0 (.lit (.string x14356))).upd 2 (.lit (.int .i64 x14358))).upd 35 (.lit (.bool true)))) (M' := Mem.nil) [] hnp ⟨rfl, trivial, by decide, rfl, trivial⟩ (LeE.upd rfl rfl (LeE.upd rfl rfl (LeE.upd rfl rfl (LeE.none rfl rfl))))) rfl ?_
            refine W.now ?_
            have q0 := (Option.some.inj H)
            subst q0
            exact ⟨rfl, rfl, rfl⟩
          · replace H := cnf hb14550 H
            obtain ⟨x14553, h14551, H⟩ := bnd H
            refine WPL.cg rfl rfl (lb hb14550) (runs_call (s := []) (t := []) (N := 0) (bor := []) fn16 rfl (s_quirelaw06_alive k x14553 h14551) ⟨rfl, trivial, by decide, rfl, trivial⟩ rfl trivial .nil rfl trivial rfl) rfl ?_
            refine WPL.qg rfl rfl (lb hb14550) (q_not rfl) rfl ?_
            refine WPL.q (q_pickF (v := .lit (.bool _)) (lb hb14550) rfl) rfl ?_
            refine WPL.nilW ?_
            refine W.cv (Cv.weak (E' := (((Env.none.upd 0 (.lit (.string x14356))).upd 2 (.lit (.int .i64 x14358))).upd 35 (.lit (.bool (!x14553))))) (M' := Mem.nil) [] hnp ⟨rfl, trivial, by decide, rfl, trivial⟩ (LeE.upd rfl rfl (LeE.upd rfl rfl (LeE.upd rfl rfl (LeE.none rfl rfl))))) rfl ?_
            refine W.now ?_
            have q0 := (Option.some.inj H)
            subst q0
            exact ⟨rfl, rfl, rfl⟩
        · replace H := cnf hb14545 H
          refine WPL.skipg (b' := false) rfl rfl (lb hb14545) rfl rfl ?_
          refine WPL.skipg (b' := false) rfl rfl (lb hb14545) rfl rfl ?_
          refine WPL.skipg (b' := false) rfl rfl (lb hb14545) rfl rfl ?_
          refine WPL.skipg (b' := false) rfl rfl (lb hb14545) rfl rfl ?_
          refine WPL.skipg (b' := false) rfl rfl (lb hb14545) rfl rfl ?_
          refine WPL.qg rfl rfl (lb hb14542) (q_pickF (v := .lit (.bool _)) (lb hb14545) rfl) rfl ?_
          refine WPL.q (q_pickF (v := .lit (.bool _)) (lb hb14542) rfl) rfl ?_
          refine WPL.q (q_mv (v := .lit (.bool _)) rfl) rfl ?_
          obtain ⟨x14555, h14553, H⟩ := bnd H
          refine WPL.cg rfl rfl rfl (runs_call (s := []) (t := []) (N := 0) (bor := []) fn16 rfl (s_quirelaw06_alive k x14555 h14553) ⟨rfl, trivial, by decide, rfl, trivial⟩ rfl trivial .nil rfl trivial rfl) rfl ?_
          refine WPL.qg rfl rfl rfl (q_not rfl) rfl ?_
          refine WPL.q (q_pickF (v := .lit (.bool _)) rfl rfl) rfl ?_
          refine WPL.nilW ?_
          refine W.cv (Cv.weak (E' := (((Env.none.upd 0 (.lit (.string x14356))).upd 2 (.lit (.int .i64 x14358))).upd 35 (.lit (.bool (!x14555))))) (M' := Mem.nil) [] hnp ⟨rfl, trivial, by decide, rfl, trivial⟩ (LeE.upd rfl rfl (LeE.upd rfl rfl (LeE.upd rfl rfl (LeE.none rfl rfl))))) rfl ?_
          refine W.now ?_
          have q0 := (Option.some.inj H)
          subst q0
          exact ⟨rfl, rfl, rfl⟩
  · rintro _ _ _ ⟨rfl, rfl, rfl⟩
    refine W.now ?_
    refine Then.n ?_
    refine WP.cond (t := x14536) rfl (fun hb14556 => ?_) (fun hb14556 => ?_)
    · replace H := cnt hb14556 H
      refine WP.seq ?_
      refine WP.region ?_
      refine WPL.q (q_as (v := .lit (.bool _)) rfl) rfl ?_
      refine WPL.nilW ?_
      refine W.now ?_
      refine Then.n ?_
      refine WP.retW ?_
      refine W.now ?_
      refine Then.r ?_
      have q0 := (Option.some.inj H)
      subst q0
      exact ⟨trivial, _, rfl, [], (.lit (.bool false)), Mem.nil, ⟨rfl, trivial, by decide, rfl, trivial⟩, rfl, rfl, rfl, rfl⟩
    · replace H := cnf hb14556 H
      refine WP.skipW ?_
      refine W.now ?_
      refine Then.n ?_
      refine WP.seq ?_
      refine WP.region ?_
      refine WPL.q (q_mv (v := .lit (.string _)) rfl) rfl ?_
      obtain ⟨x14559, h14557, H⟩ := bnd H
      refine WPL.c (runs_call (s := []) (t := []) (N := 0) (bor := []) fn15 rfl (s_utf_Count k x14356 x14559 h14557) ⟨rfl, trivial, by decide, rfl, trivial⟩ rfl trivial (.ren rfl rfl .nil) rfl trivial rfl) rfl ?_
      refine WPL.q (q_as (v := .lit (.int _ _)) rfl) rfl ?_
      refine WPL.nilW ?_
      refine W.now ?_
      refine Then.n ?_
      refine WP.seq ?_
      refine WP.seq ?_
      obtain ⟨x14575, H14579, H⟩ := bnd H
      refine WP.monoW (Q := fun x E M => x = .normal ∧ E = ((((Env.none.upd 0 (.lit (.string x14356))).upd 2 (.lit (.int .i64 x14358))).upd 8 (.lit (.int .i64 x14559))).upd 49 (.lit (.bool x14575))) ∧ M = Mem.nil) ?_ ?_
      · clear H
        have H := H14579
        clear H14579
        refine WP.region ?_
        refine WPL.q (q_mv (v := .lit (.int _ _)) rfl) rfl ?_
        refine WPL.q (q_lss rfl rfl) rfl ?_
        refine WPL.q (q_mv (v := .lit (.bool _)) rfl) rfl ?_
        refine WPL.split (t := 40) (b := (decide (x14358 < 0))) rfl (fun hb14575 => ?_) (fun hb14575 => ?_)
        · replace H := cnt hb14575 H
          refine WPL.skipg (b' := true) rfl rfl (lb hb14575) rfl rfl ?_
          refine WPL.skipg (b' := true) rfl rfl (lb hb14575) rfl rfl ?_
          refine WPL.skipg (b' := true) rfl rfl (lb hb14575) rfl rfl ?_
          refine WPL.q (q_pickT (v := .lit (.bool _)) (lb hb14575) rfl) rfl ?_
          refine WPL.q (q_mv (v := .lit (.bool _)) rfl) rfl ?_
          refine WPL.skipg (b' := true) rfl rfl rfl rfl rfl ?_
          refine WPL.skipg (b' := true) rfl rfl rfl rfl rfl ?_
          refine WPL.skipg (b' := true) rfl rfl rfl rfl rfl ?_
          refine WPL.q (q_pickT (v := .lit (.bool _)) rfl rfl) rfl ?_
          refine WPL.nilW ?_
          refine W.cv (Cv.weak (E' := ((((Env.none.upd 0 (.lit (.string x14356))).upd 2 (.lit (.int .i64 x14358))).upd 8 (.lit (.int .i64 x14559))).upd 49 (.lit (.bool true)))) (M' := Mem.nil) [] hnp ⟨rfl, trivial, by decide, rfl, trivial⟩ (LeE.upd rfl rfl (LeE.upd rfl rfl (LeE.upd rfl rfl (LeE.upd rfl rfl (LeE.none rfl rfl)))))) rfl ?_
          refine W.now ?_
          have q0 := (Option.some.inj H)
          subst q0
          exact ⟨rfl, rfl, rfl⟩
        · replace H := cnf hb14575 H
          refine WPL.qg rfl rfl (lb hb14575) (q_mv (v := .lit (.int _ _)) rfl) rfl ?_
          refine WPL.qg rfl rfl (lb hb14575) (q_mv (v := .lit (.int _ _)) rfl) rfl ?_
          refine WPL.qg rfl rfl (lb hb14575) (q_gtr rfl rfl) rfl ?_
          refine WPL.q (q_pickF (v := .lit (.bool _)) (lb hb14575) rfl) rfl ?_
          refine WPL.q (q_mv (v := .lit (.bool _)) rfl) rfl ?_
          refine WPL.split (t := 45) (b := (decide (x14559 < x14358))) rfl (fun hb14576 => ?_) (fun hb14576 => ?_)
          · replace H := cnt hb14576 H
            refine WPL.skipg (b' := true) rfl rfl (lb hb14576) rfl rfl ?_
            refine WPL.skipg (b' := true) rfl rfl (lb hb14576) rfl rfl ?_
            refine WPL.skipg (b' := true) rfl rfl (lb hb14576) rfl rfl ?_
            refine WPL.q (q_pickT (v := .lit (.bool _)) (lb hb14576) rfl) rfl ?_
            refine WPL.nilW ?_
            refine W.cv (Cv.weak (E' := ((((Env.none.upd 0 (.lit (.string x14356))).upd 2 (.lit (.int .i64 x14358))).upd 8 (.lit (.int .i64 x14559))).upd 49 (.lit (.bool true)))) (M' := Mem.nil) [] hnp ⟨rfl, trivial, by decide, rfl, trivial⟩ (LeE.upd rfl rfl (LeE.upd rfl rfl (LeE.upd rfl rfl (LeE.upd rfl rfl (LeE.none rfl rfl)))))) rfl ?_
            refine W.now ?_
            have q0 := (Option.some.inj H)
            subst q0
            exact ⟨rfl, rfl, rfl⟩
          · replace H := cnf hb14576 H
            refine WPL.qg rfl rfl (lb hb14576) (q_mv (v := .lit (.string _)) rfl) rfl ?_
            obtain ⟨x14579, h14577, H⟩ := bnd H
            refine WPL.cg rfl rfl (lb hb14576) (runs_call (s := []) (t := []) (N := 0) (bor := []) fn8 rfl (s_utf_Valid k x14356 x14579 h14577) ⟨rfl, trivial, by decide, rfl, trivial⟩ rfl trivial (.ren rfl rfl .nil) rfl trivial rfl) rfl ?_
            refine WPL.qg rfl rfl (lb hb14576) (q_not rfl) rfl ?_
            refine WPL.q (q_pickF (v := .lit (.bool _)) (lb hb14576) rfl) rfl ?_
            refine WPL.nilW ?_
            refine W.cv (Cv.weak (E' := ((((Env.none.upd 0 (.lit (.string x14356))).upd 2 (.lit (.int .i64 x14358))).upd 8 (.lit (.int .i64 x14559))).upd 49 (.lit (.bool (!x14579))))) (M' := Mem.nil) [] hnp ⟨rfl, trivial, by decide, rfl, trivial⟩ (LeE.upd rfl rfl (LeE.upd rfl rfl (LeE.upd rfl rfl (LeE.upd rfl rfl (LeE.none rfl rfl)))))) rfl ?_
            refine W.now ?_
            have q0 := (Option.some.inj H)
            subst q0
            exact ⟨rfl, rfl, rfl⟩
      · rintro _ _ _ ⟨rfl, rfl, rfl⟩
        refine W.now ?_
        refine Then.n ?_
        refine WP.cond (t := x14575) rfl (fun hb14580 => ?_) (fun hb14580 => ?_)
        · replace H := cnt hb14580 H
          refine WP.seq ?_
          refine WP.region ?_
          refine WPL.q (q_as (v := .lit (.bool _)) rfl) rfl ?_
          refine WPL.nilW ?_
          refine W.now ?_
          refine Then.n ?_
          refine WP.retW ?_
          refine W.now ?_
          refine Then.r ?_
          have q0 := (Option.some.inj H)
          subst q0
          exact ⟨trivial, _, rfl, [], (.lit (.bool true)), Mem.nil, ⟨rfl, trivial, by decide, rfl, trivial⟩, rfl, rfl, rfl, rfl⟩
        · replace H := cnf hb14580 H
          refine WP.skipW ?_
          refine W.now ?_
          refine Then.n ?_
          refine WP.seq ?_
          refine WP.region ?_
          refine WPL.q (q_mv (v := .lit (.string _)) rfl) rfl ?_
          refine WPL.q (q_mv (v := .lit (.int _ _)) rfl) rfl ?_
          obtain ⟨x14583, h14581, H⟩ := bnd H
          refine WPL.c (runs_call (s := []) (t := []) (N := 0) (bor := []) fn24 rfl (s_utf_Cut k x14356 0 x14358 x14583 h14581) ⟨rfl, trivial, by decide, rfl, trivial⟩ rfl trivial (.ren rfl rfl (.ren rfl rfl (.ren rfl rfl .nil))) rfl trivial rfl) rfl ?_
          refine WPL.q (q_mv (v := .lit (.string _)) rfl) rfl ?_
          refine WPL.q (q_mv (v := .lit (.int _ _)) rfl) rfl ?_
          refine WPL.q (q_mv (v := .lit (.int _ _)) rfl) rfl ?_
          obtain ⟨x14585, h14583, H⟩ := bnd H
          refine WPL.c (runs_call (s := []) (t := []) (N := 0) (bor := []) fn24 rfl (s_utf_Cut k x14356 x14358 x14559 x14585 h14583) ⟨rfl, trivial, by decide, rfl, trivial⟩ rfl trivial (.ren rfl rfl (.ren rfl rfl (.ren rfl rfl .nil))) rfl trivial rfl) rfl ?_
          obtain ⟨h14585, H⟩ := grd H
          refine WPL.q (q_concat rfl rfl h14585) rfl ?_
          refine WPL.q (q_mv (v := .lit (.string _)) rfl) rfl ?_
          refine WPL.q (q_eqls rfl rfl) rfl ?_
          refine WPL.q (q_as (v := .lit (.bool _)) rfl) rfl ?_
          refine WPL.nilW ?_
          refine W.now ?_
          refine Then.n ?_
          refine WP.retW ?_
          refine W.now ?_
          have q0 := (Option.some.inj H)
          subst q0
          exact ⟨trivial, _, rfl, [], (.lit (.bool ((x14583 ++ x14585).toList == x14356.toList))), Mem.nil, ⟨rfl, trivial, by decide, rfl, trivial⟩, rfl, rfl, rfl, rfl⟩
end Go.Proofs.YtnbjdgamindikaaDoor.W
