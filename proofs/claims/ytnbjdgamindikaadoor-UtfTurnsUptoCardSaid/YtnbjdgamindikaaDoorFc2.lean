/- Walks: Fc2 -/
import Derived.Test.YtnbjdgamindikaaDoorFb
import Derived.Test.YtnbjdgamindikaaDoorFc1
namespace Go.Proofs.YtnbjdgamindikaaDoor.W
open Go Go.Q Go.Proofs
set_option linter.unusedVariables false
set_option linter.unusedSimpArgs false
set_option maxRecDepth 100000 in
set_option maxHeartbeats 4000000 in
theorem s_quireref06_Xml (k : Nat) (x10245 : ByteArray) (x10354 : Int) (H : g_quireref06_Xml k x10245 = some x10354) : Go.Q.Spec Tryd.prog 11 0 [.lit (.string x10245)] Mem.nil (fun o M => o = .ret (.lit (.int .i64 x10354)) ∧ M = Mem.nil) := by
  unfold g_quireref06_Xml at H
  refine Go.Q.Spec.of_bodyR (rs := [.tmp 2]) (nt := 44) Tryd.func11 rfl rfl (by intro t T h; simp at h) rfl rfl fun cx hnp => ?_
  refine WP.seq ?_
  refine WP.region ?_
  refine WPL.q (q_as (v := .lit (.int _ _)) rfl) rfl ?_
  refine WPL.nilW ?_
  refine W.now ?_
  refine Then.n ?_
  refine WP.seq ?_
  refine WP.block ?_
  refine WP.cv (Cv.weak (E' := (Env.none.upd 0 (.lit (.string x10245)))) (M' := Mem.nil) [] hnp ⟨rfl, trivial, by decide, rfl, trivial⟩ (LeE.upd rfl rfl (LeE.none rfl rfl))) ?_
  obtain ⟨y10513, H10511, H⟩ := bnd H
  refine WP.monoW (Q := fun x E M => match (generalizing := false) y10513 with | (Sum.inl _) => x = .ret ∧ E = (Env.none.upd 2 (.lit (.int .i64 20))) ∧ M = Mem.nil | (Sum.inr _) => x = .exit 0 ∧ E = Env.none ∧ M = Mem.nil) ?_ ?_
  · refine WP.loop (β := ByteArray) (fun n b => g_quireref06_Xml_l0 k n b = some y10513) (fun b => (Env.none.upd 0 (.lit (.string b)))) (fun b => Mem.nil) k x10245 H10511 rfl rfl ?_
    rintro n x10407 H
    obtain _ | n := n
    · exact nf rfl H
    rw [g_quireref06_Xml_l0.eq_2] at H
    show WP _ _ _ _ (Env.none.upd 0 (.lit (.string x10407))) Mem.nil _
    refine WP.seq ?_
    refine WP.seq ?_
    refine WP.region ?_
    refine WPL.q (q_mv (v := .lit (.string _)) rfl) rfl ?_
    refine WPL.q (q_len_str Tryd.underlying9 rfl) rfl ?_
    obtain ⟨x10462, h10462, H⟩ := bnd H
    refine WPL.q (q_nm (q_gtr rfl rfl) (nm_bool h10462)) rfl ?_
    refine WPL.nilW ?_
    refine W.now ?_
    refine Then.n ?_
    refine WP.cond (t := x10462) rfl (fun hb10462 => ?_) (fun hb10462 => ?_)
    · replace H := cnt hb10462 H
      refine WP.skipW ?_
      refine W.now ?_
      refine Then.n ?_
      refine WP.block ?_
      refine WP.seq ?_
      refine WP.region ?_
      refine WPL.q (q_mv (v := .lit (.string _)) rfl) rfl ?_
      obtain ⟨⟨x10465, x10466, x10467⟩, h10463, H⟩ := bnd H
      refine WPL.c (runs_call (s := []) (t := []) (N := 0) (bor := []) fn29 rfl (s_quireref06_first k x10407 x10465 x10466 x10467 h10463) ⟨rfl, trivial, by decide, rfl, trivial⟩ rfl trivial (.ren rfl rfl .nil) rfl trivial rfl) rfl ?_
      refine WPL.q (q_mv (v := .tup _) rfl) rfl ?_
      refine WPL.q (q_extract rfl rfl) rfl ?_
      refine WPL.q (q_extract rfl rfl) rfl ?_
      refine WPL.q (q_extract rfl rfl) rfl ?_
      refine WPL.q (q_as (v := .lit (.int _ _)) rfl) rfl ?_
      refine WPL.q (q_as (v := .lit (.int _ _)) rfl) rfl ?_
      refine WPL.q (q_as (v := .lit (.bool _)) rfl) rfl ?_
      refine WPL.nilW ?_
      refine W.now ?_
      refine Then.n ?_
      refine WP.seq ?_
      refine WP.seq ?_
      obtain ⟨x10498, H10507, H⟩ := bnd H
      refine WP.monoW (Q := fun x E M => x = .normal ∧ E = (((Env.none.upd 0 (.lit (.string x10407))).upd 4 (.lit (.int .i64 x10466))).upd 40 (.lit (.bool x10498))) ∧ M = Mem.nil) ?_ ?_
      · clear H
        have H := H10507
        clear H10507
        refine WP.region ?_
        refine WPL.q (q_mv (v := .lit (.bool _)) rfl) rfl ?_
        refine WPL.q (q_not rfl) rfl ?_
        refine WPL.q (q_mv (v := .lit (.bool _)) rfl) rfl ?_
        refine WPL.split (t := 17) (b := (!x10467)) rfl (fun hb10498 => ?_) (fun hb10498 => ?_)
        · replace H := cnt hb10498 H
          refine WPL.skipg (b' := true) rfl rfl (lb hb10498) rfl rfl ?_
          refine WPL.skipg (b' := true) rfl rfl (lb hb10498) rfl rfl ?_
          refine WPL.skipg (b' := true) rfl rfl (lb hb10498) rfl rfl ?_
          refine WPL.skipu rfl rfl rfl rfl ?_
          refine WPL.skipu rfl rfl rfl rfl ?_
          refine WPL.skipg (b' := true) rfl rfl (lb hb10498) rfl rfl ?_
          refine WPL.skipg (b' := true) rfl rfl (lb hb10498) rfl rfl ?_
          refine WPL.skipu rfl rfl rfl rfl ?_
          refine WPL.skipu rfl rfl rfl rfl ?_
          refine WPL.skipg (b' := true) rfl rfl (lb hb10498) rfl rfl ?_
          refine WPL.skipg (b' := true) rfl rfl (lb hb10498) rfl rfl ?_
          refine WPL.skipu rfl rfl rfl rfl ?_
          refine WPL.skipu rfl rfl rfl rfl ?_
          refine WPL.skipg (b' := true) rfl rfl (lb hb10498) rfl rfl ?_
          refine WPL.q (q_pickT (v := .lit (.bool _)) (lb hb10498) rfl) rfl ?_
          refine WPL.q (q_mv (v := .lit (.bool _)) rfl) rfl ?_
          refine WPL.skipg (b' := true) rfl rfl rfl rfl rfl ?_
          refine WPL.skipg (b' := true) rfl rfl rfl rfl rfl ?_
          refine WPL.q (q_pickT (v := .lit (.bool _)) rfl rfl) rfl ?_
          refine WPL.q (q_mv (v := .lit (.bool _)) rfl) rfl ?_
          refine WPL.skipg (b' := true) rfl rfl rfl rfl rfl ?_
          refine WPL.skipg (b' := true) rfl rfl rfl rfl rfl ?_
          refine WPL.q (q_pickT (v := .lit (.bool _)) rfl rfl) rfl ?_
          refine WPL.nilW ?_
          refine W.cv (Cv.weak (E' := (((Env.none.upd 0 (.lit (.string x10407))).upd 4 (.lit (.int .i64 x10466))).upd 40 (.lit (.bool true)))) (M' := Mem.nil) [] hnp ⟨rfl, trivial, by decide, rfl, trivial⟩ (LeE.upd rfl rfl (LeE.upd rfl rfl (LeE.upd rfl rfl (LeE.none rfl rfl))))) rfl ?_
          refine W.now ?_
          have q0 := (Option.some.inj H)
          subst q0
          exact ⟨rfl, rfl, rfl⟩
        · replace H := cnf hb10498 H
          refine WPL.qg rfl rfl (lb hb10498) (q_mv (v := .lit (.int _ _)) rfl) rfl ?_
          refine WPL.qg rfl rfl (lb hb10498) (q_lss rfl rfl) rfl ?_
          refine WPL.qg rfl rfl (lb hb10498) (q_mv (v := .lit (.bool _)) rfl) rfl ?_
          refine WPL.split (t := 20) (b := (decide (x10465 < 32))) rfl (fun hb10499 => ?_) (fun hb10499 => ?_)
          · replace H := cnt hb10499 H
            refine WPL.qg rfl rfl (lb hb10499) (q_mv (v := .lit (.int _ _)) rfl) rfl ?_
            refine WPL.qg rfl rfl (lb hb10499) (q_neq rfl rfl) rfl ?_
            refine WPL.qg rfl rfl (lb hb10498) (q_pickT (v := .lit (.bool _)) (lb hb10499) rfl) rfl ?_
            refine WPL.qg rfl rfl (lb hb10498) (q_mv (v := .lit (.bool _)) rfl) rfl ?_
            refine WPL.split (t := 24) (b := (!decide (x10465 = 9))) rfl (fun hb10500 => ?_) (fun hb10500 => ?_)
            · replace H := cnt hb10500 H
              refine WPL.qg rfl rfl (lb hb10500) (q_mv (v := .lit (.int _ _)) rfl) rfl ?_
              refine WPL.qg rfl rfl (lb hb10500) (q_neq rfl rfl) rfl ?_
              refine WPL.qg rfl rfl (lb hb10498) (q_pickT (v := .lit (.bool _)) (lb hb10500) rfl) rfl ?_
              refine WPL.qg rfl rfl (lb hb10498) (q_mv (v := .lit (.bool _)) rfl) rfl ?_
              refine WPL.split (t := 28) (b := (!decide (x10465 = 10))) rfl (fun hb10501 => ?_) (fun hb10501 => ?_)
              · replace H := cnt hb10501 H
                refine WPL.qg rfl rfl (lb hb10501) (q_mv (v := .lit (.int _ _)) rfl) rfl ?_
                refine WPL.qg rfl rfl (lb hb10501) (q_neq rfl rfl) rfl ?_
                refine WPL.qg rfl rfl (lb hb10498) (q_pickT (v := .lit (.bool _)) (lb hb10501) rfl) rfl ?_
                refine WPL.q (q_pickF (v := .lit (.bool _)) (lb hb10498) rfl) rfl ?_
                refine WPL.q (q_mv (v := .lit (.bool _)) rfl) rfl ?_
                refine WPL.split (t := 33) (b := (!decide (x10465 = 13))) rfl (fun hb10502 => ?_) (fun hb10502 => ?_)
                · replace H := cnt hb10502 H
                  refine WPL.skipg (b' := true) rfl rfl (lb hb10502) rfl rfl ?_
                  refine WPL.skipg (b' := true) rfl rfl (lb hb10502) rfl rfl ?_
                  refine WPL.q (q_pickT (v := .lit (.bool _)) (lb hb10502) rfl) rfl ?_
                  refine WPL.q (q_mv (v := .lit (.bool _)) rfl) rfl ?_
                  refine WPL.skipg (b' := true) rfl rfl rfl rfl rfl ?_
                  refine WPL.skipg (b' := true) rfl rfl rfl rfl rfl ?_
                  refine WPL.q (q_pickT (v := .lit (.bool _)) rfl rfl) rfl ?_
                  refine WPL.nilW ?_
                  refine W.cv (Cv.weak (E' := (((Env.none.upd 0 (.lit (.string x10407))).upd 4 (.lit (.int .i64 x10466))).upd 40 (.lit (.bool true)))) (M' := Mem.nil) [] hnp ⟨rfl, trivial, by decide, rfl, trivial⟩ (LeE.upd rfl rfl (LeE.upd rfl rfl (LeE.upd rfl rfl (LeE.none rfl rfl))))) rfl ?_
                  refine W.now ?_
                  have q0 := (Option.some.inj H)
                  subst q0
                  exact ⟨rfl, rfl, rfl⟩
                · replace H := cnf hb10502 H
                  refine WPL.qg rfl rfl (lb hb10502) (q_mv (v := .lit (.int _ _)) rfl) rfl ?_
                  refine WPL.qg rfl rfl (lb hb10502) (q_eql rfl rfl) rfl ?_
                  refine WPL.q (q_pickF (v := .lit (.bool _)) (lb hb10502) rfl) rfl ?_
                  refine WPL.q (q_mv (v := .lit (.bool _)) rfl) rfl ?_
                  refine WPL.split (t := 37) (b := (decide (x10465 = 65534))) rfl (fun hb10503 => ?_) (fun hb10503 => ?_)
                  · replace H := cnt hb10503 H
                    refine WPL.skipg (b' := true) rfl rfl (lb hb10503) rfl rfl ?_
                    refine WPL.skipg (b' := true) rfl rfl (lb hb10503) rfl rfl ?_
                    refine WPL.q (q_pickT (v := .lit (.bool _)) (lb hb10503) rfl) rfl ?_
                    refine WPL.nilW ?_
                    refine W.cv (Cv.weak (E' := (((Env.none.upd 0 (.lit (.string x10407))).upd 4 (.lit (.int .i64 x10466))).upd 40 (.lit (.bool true)))) (M' := Mem.nil) [] hnp ⟨rfl, trivial, by decide, rfl, trivial⟩ (LeE.upd rfl rfl (LeE.upd rfl rfl (LeE.upd rfl rfl (LeE.none rfl rfl))))) rfl ?_
                    refine W.now ?_
                    have q0 := (Option.some.inj H)
                    subst q0
                    exact ⟨rfl, rfl, rfl⟩
                  · replace H := cnf hb10503 H
                    refine WPL.qg rfl rfl (lb hb10503) (q_mv (v := .lit (.int _ _)) rfl) rfl ?_
                    refine WPL.qg rfl rfl (lb hb10503) (q_eql rfl rfl) rfl ?_
                    refine WPL.q (q_pickF (v := .lit (.bool _)) (lb hb10503) rfl) rfl ?_
                    refine WPL.nilW ?_
                    refine W.cv (Cv.weak (E' := (((Env.none.upd 0 (.lit (.string x10407))).upd 4 (.lit (.int .i64 x10466))).upd 40 (.lit (.bool (decide (x10465 = 65535)))))) (M' := Mem.nil) [] hnp ⟨rfl, trivial, by decide, rfl, trivial⟩ (LeE.upd rfl rfl (LeE.upd rfl rfl (LeE.upd rfl rfl (LeE.none rfl rfl))))) rfl ?_
                    refine W.now ?_
                    have q0 := (Option.some.inj H)
                    subst q0
                    exact ⟨rfl, rfl, rfl⟩
              · replace H := cnf hb10501 H
                refine WPL.skipg (b' := false) rfl rfl (lb hb10501) rfl rfl ?_
                refine WPL.skipg (b' := false) rfl rfl (lb hb10501) rfl rfl ?_
                refine WPL.qg rfl rfl (lb hb10498) (q_pickF (v := .lit (.bool _)) (lb hb10501) rfl) rfl ?_
                refine WPL.q (q_pickF (v := .lit (.bool _)) (lb hb10498) rfl) rfl ?_
                refine WPL.q (q_mv (v := .lit (.bool _)) rfl) rfl ?_
                refine WPL.qg rfl rfl rfl (q_mv (v := .lit (.int _ _)) rfl) rfl ?_
                refine WPL.qg rfl rfl rfl (q_eql rfl rfl) rfl ?_
                refine WPL.q (q_pickF (v := .lit (.bool _)) rfl rfl) rfl ?_
                refine WPL.q (q_mv (v := .lit (.bool _)) rfl) rfl ?_
                refine WPL.split (t := 37) (b := (decide (x10465 = 65534))) rfl (fun hb10504 => ?_) (fun hb10504 => ?_)
                · replace H := cnt hb10504 H
                  refine WPL.skipg (b' := true) rfl rfl (lb hb10504) rfl rfl ?_
                  refine WPL.skipg (b' := true) rfl rfl (lb hb10504) rfl rfl ?_
                  refine WPL.q (q_pickT (v := .lit (.bool _)) (lb hb10504) rfl) rfl ?_
                  refine WPL.nilW ?_
                  refine W.cv (Cv.weak (E' := (((Env.none.upd 0 (.lit (.string x10407))).upd 4 (.lit (.int .i64 x10466))).upd 40 (.lit (.bool true)))) (M' := Mem.nil) [] hnp ⟨rfl, trivial, by decide, rfl, trivial⟩ (LeE.upd rfl rfl (LeE.upd rfl rfl (LeE.upd rfl rfl (LeE.none rfl rfl))))) rfl ?_
                  refine W.now ?_
                  have q0 := (Option.some.inj H)
                  subst q0
                  exact ⟨rfl, rfl, rfl⟩
                · replace H := cnf hb10504 H
                  refine WPL.qg rfl rfl (lb hb10504) (q_mv (v := .lit (.int _ _)) rfl) rfl ?_
                  refine WPL.qg rfl rfl (lb hb10504) (q_eql rfl rfl) rfl ?_
                  refine WPL.q (q_pickF (v := .lit (.bool _)) (lb hb10504) rfl) rfl ?_
                  refine WPL.nilW ?_
                  refine W.cv (Cv.weak (E' := (((Env.none.upd 0 (.lit (.string x10407))).upd 4 (.lit (.int .i64 x10466))).upd 40 (.lit (.bool (decide (x10465 = 65535)))))) (M' := Mem.nil) [] hnp ⟨rfl, trivial, by decide, rfl, trivial⟩ (LeE.upd rfl rfl (LeE.upd rfl rfl (LeE.upd rfl rfl (LeE.none rfl rfl))))) rfl ?_
                  refine W.now ?_
                  have q0 := (Option.some.inj H)
                  subst q0
                  exact ⟨rfl, rfl, rfl⟩
            · replace H := cnf hb10500 H
              refine WPL.skipg (b' := false) rfl rfl (lb hb10500) rfl rfl ?_
              refine WPL.skipg (b' := false) rfl rfl (lb hb10500) rfl rfl ?_
              refine WPL.qg rfl rfl (lb hb10498) (q_pickF (v := .lit (.bool _)) (lb hb10500) rfl) rfl ?_
              refine WPL.qg rfl rfl (lb hb10498) (q_mv (v := .lit (.bool _)) rfl) rfl ?_
              refine WPL.skipg (b' := false) rfl rfl rfl rfl rfl ?_
              refine WPL.skipg (b' := false) rfl rfl rfl rfl rfl ?_
              refine WPL.qg rfl rfl (lb hb10498) (q_pickF (v := .lit (.bool _)) rfl rfl) rfl ?_
              refine WPL.q (q_pickF (v := .lit (.bool _)) (lb hb10498) rfl) rfl ?_
              refine WPL.q (q_mv (v := .lit (.bool _)) rfl) rfl ?_
              refine WPL.qg rfl rfl rfl (q_mv (v := .lit (.int _ _)) rfl) rfl ?_
              refine WPL.qg rfl rfl rfl (q_eql rfl rfl) rfl ?_
              refine WPL.q (q_pickF (v := .lit (.bool _)) rfl rfl) rfl ?_
              refine WPL.q (q_mv (v := .lit (.bool _)) rfl) rfl ?_
              refine WPL.split (t := 37) (b := (decide (x10465 = 65534))) rfl (fun hb10505 => ?_) (fun hb10505 => ?_)
              · replace H := cnt hb10505 H
                refine WPL.skipg (b' := true) rfl rfl (lb hb10505) rfl rfl ?_
                refine WPL.skipg (b' := true) rfl rfl (lb hb10505) rfl rfl ?_
                refine WPL.q (q_pickT (v := .lit (.bool _)) (lb hb10505) rfl) rfl ?_
                refine WPL.nilW ?_
                refine W.cv (Cv.weak (E' := (((Env.none.upd 0 (.lit (.string x10407))).upd 4 (.lit (.int .i64 x10466))).upd 40 (.lit (.bool true)))) (M' := Mem.nil) [] hnp ⟨rfl, trivial, by decide, rfl, trivial⟩ (LeE.upd rfl rfl (LeE.upd rfl rfl (LeE.upd rfl rfl (LeE.none rfl rfl))))) rfl ?_
                refine W.now ?_
                have q0 := (Option.some.inj H)
                subst q0
                exact ⟨rfl, rfl, rfl⟩
              · replace H := cnf hb10505 H
                refine WPL.qg rfl rfl (lb hb10505) (q_mv (v := .lit (.int _ _)) rfl) rfl ?_
                refine WPL.qg rfl rfl (lb hb10505) (q_eql rfl rfl) rfl ?_
                refine WPL.q (q_pickF (v := .lit (.bool _)) (lb hb10505) rfl) rfl ?_
                refine WPL.nilW ?_
                refine W.cv (Cv.weak (E' := (((Env.none.upd 0 (.lit (.string x10407))).upd 4 (.lit (.int .i64 x10466))).upd 40 (.lit (.bool (decide (x10465 = 65535)))))) (M' := Mem.nil) [] hnp ⟨rfl, trivial, by decide, rfl, trivial⟩ (LeE.upd rfl rfl (LeE.upd rfl rfl (LeE.upd rfl rfl (LeE.none rfl rfl))))) rfl ?_
                refine W.now ?_
                have q0 := (Option.some.inj H)
                subst q0
                exact ⟨rfl, rfl, rfl⟩
          · replace H := cnf hb10499 H
            refine WPL.skipg (b' := false) rfl rfl (lb hb10499) rfl rfl ?_
            refine WPL.skipg (b' := false) rfl rfl (lb hb10499) rfl rfl ?_
            refine WPL.qg rfl rfl (lb hb10498) (q_pickF (v := .lit (.bool _)) (lb hb10499) rfl) rfl ?_
            refine WPL.qg rfl rfl (lb hb10498) (q_mv (v := .lit (.bool _)) rfl) rfl ?_
            refine WPL.skipg (b' := false) rfl rfl rfl rfl rfl ?_
            refine WPL.skipg (b' := false) rfl rfl rfl rfl rfl ?_
            refine WPL.qg rfl rfl (lb hb10498) (q_pickF (v := .lit (.bool _)) rfl rfl) rfl ?_
            refine WPL.qg rfl rfl (lb hb10498) (q_mv (v := .lit (.bool _)) rfl) rfl ?_
            refine WPL.skipg (b' := false) rfl rfl rfl rfl rfl ?_
            refine WPL.skipg (b' := false) rfl rfl rfl rfl rfl ?_
            refine WPL.qg rfl rfl (lb hb10498) (q_pickF (v := .lit (.bool _)) rfl rfl) rfl ?_
            refine WPL.q (q_pickF (v := .lit (.bool _)) (lb hb10498) rfl) rfl ?_
            refine WPL.q (q_mv (v := .lit (.bool _)) rfl) rfl ?_
            refine WPL.qg rfl rfl rfl (q_mv (v := .lit (.int _ _)) rfl) rfl ?_
            refine WPL.qg rfl rfl rfl (q_eql rfl rfl) rfl ?_
            refine WPL.q (q_pickF (v := .lit (.bool _)) rfl rfl) rfl ?_
            refine WPL.q (q_mv (v := .lit (.bool _)) rfl) rfl ?_
            refine WPL.split (t := 37) (b := (decide (x10465 = 65534))) rfl (fun hb10506 => ?_) (fun hb10506 => ?_)
            · replace H := cnt hb10506 H
              refine WPL.skipg (b' := true) rfl rfl (lb hb10506) rfl rfl ?_
              refine WPL.skipg (b' := true) rfl rfl (lb hb10506) rfl rfl ?_
              refine WPL.q (q_pickT (v := .lit (.bool _)) (lb hb10506) rfl) rfl ?_
              refine WPL.nilW ?_
              refine W.cv (Cv.weak (E' := (((Env.none.upd 0 (.lit (.string x10407))).upd 4 (.lit (.int .i64 x10466))).upd 40 (.lit (.bool true)))) (M' := Mem.nil) [] hnp ⟨rfl, trivial, by decide, rfl, trivial⟩ (LeE.upd rfl rfl (LeE.upd rfl rfl (LeE.upd rfl rfl (LeE.none rfl rfl))))) rfl ?_
              refine W.now ?_
              have q0 := (Option.some.inj H)
              subst q0
              exact ⟨rfl, rfl, rfl⟩
            · replace H := cnf hb10506 H
              refine WPL.qg rfl rfl (lb hb10506) (q_mv (v := .lit (.int _ _)) rfl) rfl ?_
              refine WPL.qg rfl rfl (lb hb10506) (q_eql rfl rfl) rfl ?_
              refine WPL.q (q_pickF (v := .lit (.bool _)) (lb hb10506) rfl) rfl ?_
              refine WPL.nilW ?_
              refine W.cv (Cv.weak (E' := (((Env.none.upd 0 (.lit (.string x10407))).upd 4 (.lit (.int .i64 x10466))).upd 40 (.lit (.bool (decide (x10465 = 65535)))))) (M' := Mem.nil) [] hnp ⟨rfl, trivial, by decide, rfl, trivial⟩ (LeE.upd rfl rfl (LeE.upd rfl rfl (LeE.upd rfl rfl (LeE.none rfl rfl))))) rfl ?_
              refine W.now ?_
              have q0 := (Option.some.inj H)
              subst q0
              exact ⟨rfl, rfl, rfl⟩
      · rintro _ _ _ ⟨rfl, rfl, rfl⟩
        refine W.now ?_
        refine Then.n ?_
        refine WP.cond (t := x10498) rfl (fun hb10508 => ?_) (fun hb10508 => ?_)
        · replace H := cnt hb10508 H
          refine WP.seq ?_
          refine WP.region ?_
          refine WPL.q (q_as (v := .lit (.int _ _)) rfl) rfl ?_
          refine WPL.nilW ?_
          refine W.now ?_
          refine Then.n ?_
          refine WP.retW ?_
          refine W.cv (Cv.weak (E' := (Env.none.upd 2 (.lit (.int .i64 20)))) (M' := Mem.nil) [] hnp ⟨rfl, trivial, by decide, rfl, trivial⟩ (LeE.upd rfl rfl (LeE.none rfl rfl))) rfl ?_
          refine W.now ?_
          refine Then.r ?_
          refine InBlock.r ?_
          refine Then.r ?_
          have q0 := Option.some.inj H
          subst q0
          exact ⟨rfl, rfl, rfl⟩
        · replace H := cnf hb10508 H
          refine WP.skipW ?_
          refine W.now ?_
          refine Then.n ?_
          refine WP.region ?_
          refine WPL.q (q_mv (v := .lit (.string _)) rfl) rfl ?_
          refine WPL.q (q_mv (v := .lit (.int _ _)) rfl) rfl ?_
          obtain ⟨h10509, H⟩ := grd H
          obtain ⟨x10511, h10511, H⟩ := bnd H
          refine WPL.q (q_nm (q_slice_str (i := x10466) (j := ((ByteArray.size x10407 : Nat) : Int)) Tryd.underlying9 rfl ⟨_, rfl⟩ rfl h10509) (nm_str h10511)) rfl ?_
          refine WPL.q (q_as (v := .lit (.string _)) rfl) rfl ?_
          refine WPL.nilW ?_
          refine W.cv (Cv.weak (E' := (Env.none.upd 0 (.lit (.string x10511)))) (M' := Mem.nil) [] hnp ⟨rfl, trivial, by decide, rfl, trivial⟩ (LeE.upd rfl rfl (LeE.none rfl rfl))) rfl ?_
          refine W.now ?_
          refine InBlock.n ?_
          exact Then.n ⟨n, x10511, Nat.lt_succ_self n, H, rfl, rfl⟩
    · replace H := cnf hb10462 H
      refine WP.exitW ?_
      refine W.cv (Cv.weak (E' := Env.none) (M' := Mem.nil) [] hnp ⟨rfl, trivial, by decide, rfl, trivial⟩ (LeE.none rfl rfl)) rfl ?_
      refine W.now ?_
      refine Then.x ?_
      refine Then.x ?_
      have q0 := Option.some.inj H
      subst q0
      exact ⟨rfl, rfl, rfl⟩
  · rcases y10513 with _ | _
    · rintro _ _ _ ⟨rfl, rfl, rfl⟩
      refine W.now ?_
      refine InBlock.r ?_
      refine Then.r ?_
      have q0 := (Option.some.inj H)
      subst q0
      exact ⟨trivial, _, rfl, [], (.lit (.int .i64 20)), Mem.nil, ⟨rfl, trivial, by decide, rfl, trivial⟩, rfl, rfl, rfl, rfl⟩
    · rintro _ _ _ ⟨rfl, rfl, rfl⟩
      refine W.now ?_
      refine InBlock.x0 ?_
      refine Then.n ?_
      refine WP.seq ?_
      refine WP.region ?_
      refine WPL.q (q_as (v := .lit (.int _ _)) rfl) rfl ?_
      refine WPL.nilW ?_
      refine W.now ?_
      refine Then.n ?_
      refine WP.retW ?_
      refine W.now ?_
      have q0 := (Option.some.inj H)
      subst q0
      exact ⟨trivial, _, rfl, [], (.lit (.int .i64 0)), Mem.nil, ⟨rfl, trivial, by decide, rfl, trivial⟩, rfl, rfl, rfl, rfl⟩
set_option maxRecDepth 100000 in
set_option maxHeartbeats 4000000 in
theorem s_utf_Runes (k : Nat) (x10517 : ByteArray) (x10532 : (List Int)) (H : g_utf_Runes k x10517 = some x10532) : Go.Q.Spec Tryd.prog 13 0 [.lit (.string x10517)] Mem.nil (fun o M => o = .ret (.ro (Rd.slice (Rd.int .i64)) false x10532) ∧ M = Mem.nil) := by
  unfold g_utf_Runes at H
  refine Go.Q.Spec.of_bodyR (rs := [.tmp 2]) (nt := 17) Tryd.func13 rfl rfl (by intro t T h; simp at h) rfl rfl fun cx hnp => ?_
  refine WP.seq ?_
  refine WP.region ?_
  refine WPL.q (q_as (v := .lit _) rfl) rfl ?_
  refine WPL.nilW ?_
  refine W.now ?_
  refine Then.n ?_
  refine WP.seq ?_
  refine WP.region ?_
  refine WPL.q (q_as (v := .lit _) rfl) rfl ?_
  refine WPL.nilW ?_
  refine W.now ?_
  refine Then.n ?_
  refine WP.seq ?_
  refine WP.seq ?_
  refine WP.region ?_
  refine WPL.q (q_mv (v := .lit (.string _)) rfl) rfl ?_
  refine WPL.d (d_range Tryd.underlying9 rfl rfl) rfl ?_
  refine WPL.nilW ?_
  refine W.now ?_
  refine Then.n ?_
  refine WP.block ?_
  refine WP.cv (Cv.vir 3 (Rd.int .i64) (N := 1) rfl 3 rfl) ?_
  refine WP.cv (Cv.weak (E' := ((Env.none.upd 3 (.whole 0)).upd 7 (.ptr 1 0))) (M' := ((Mem.nil.push (.row 3 (Rd.int .i64) ([] : List Int))).push (.obj (.stringIter x10517 0)))) [1, 0] hnp ⟨rfl, ⟨⟨trivial, .inr ⟨rfl, rfl, rfl⟩⟩, .inr ⟨rfl, rfl, rfl⟩⟩, by decide, rfl, trivial⟩ (LeE.upd rfl rfl (LeE.upd rfl rfl (LeE.none rfl rfl)))) ?_
  obtain ⟨x10544, H10547, H⟩ := bnd H
  refine WP.monoW (Q := fun x E M => x = .exit 0 ∧ E = (Env.none.upd 3 (.whole 0)) ∧ M = (Mem.nil.push (.row 3 (Rd.int .i64) x10544))) ?_ ?_
  · refine WP.loop (β := (List Int) × Nat) (fun n b => g_utf_Runes_l0 k x10517 n b.1 b.2 = some x10544) (fun b => ((Env.none.upd 3 (.whole 0)).upd 7 (.ptr 1 0))) (fun b => ((Mem.nil.push (.row 3 (Rd.int .i64) b.1)).push (.obj (.stringIter x10517 b.2)))) k (([] : List Int), 0) H10547 rfl rfl ?_
    rintro n ⟨x10539, x10540⟩ H
    obtain _ | n := n
    · exact nf rfl H
    rw [g_utf_Runes_l0.eq_2] at H
    show WP _ _ _ _ ((Env.none.upd 3 (.whole 0)).upd 7 (.ptr 1 0)) ((Mem.nil.push (.row 3 (Rd.int .i64) x10539)).push (.obj (.stringIter x10517 x10540))) _
    refine WP.seq ?_
    refine WP.region ?_
    refine WPL.splitB (decide (x10540 < ByteArray.size x10517)) (fun hb10544 => ?_) (fun hb10544 => ?_)
    · replace H := cnt hb10544 H
      refine WPL.d (d_next rfl rfl hb10544) rfl ?_
      refine WPL.q (q_extract rfl rfl) rfl ?_
      refine WPL.nilW ?_
      refine W.now ?_
      refine Then.n ?_
      refine WP.seq ?_
      refine WP.condT rfl ?_
      refine WP.skipW ?_
      refine W.now ?_
      refine Then.n ?_
      refine WP.block ?_
      refine WP.seq ?_
      refine WP.region ?_
      refine WPL.q (q_extract rfl rfl) rfl ?_
      refine WPL.q (q_as (v := .lit (.int _ _)) rfl) rfl ?_
      refine WPL.nilW ?_
      refine W.now ?_
      refine Then.n ?_
      refine WP.region ?_
      refine WPL.q (q_mv (v := .whole _) rfl) rfl ?_
      refine WPL.q (q_mv (v := .lit (.int _ _)) rfl) rfl ?_
      obtain ⟨x10546, h10546, H⟩ := bnd H
      refine WPL.q (q_nm (q_conv Tryd.underlying21 Tryd.underlying3 rfl) (nm_int h10546)) rfl ?_
      refine WPL.d (d_buildSlice (ds := ([x10546] : List Int)) (R := (Rd.int .i64)) li26 rfl rfl rfl rfl rfl (JoinRows.cons1 Joins.sc rfl JoinRows.nil) rfl rfl) rfl ?_
      obtain ⟨h10546, H⟩ := grd H
      refine WPL.d (d_append ap26 rfl rfl rfl rfl (src_row sl26 rfl rfl) h10546 rfl) rfl ?_
      refine WPL.q (q_as (v := .whole _) rfl) rfl ?_
      refine WPL.nilW ?_
      refine W.cv (Cv.weak (E' := ((Env.none.upd 3 (.whole 0)).upd 7 (.ptr 1 0))) (M' := ((Mem.nil.push (.row 3 (Rd.int .i64) (x10539 ++ ([x10546] : List Int)))).push (.obj (.stringIter x10517 (x10540 + (Utf8.decode x10517 x10540).2))))) [3, 1] hnp ⟨rfl, ⟨⟨trivial, .inr ⟨rfl, rfl, rfl⟩⟩, .inr ⟨rfl, rfl, rfl⟩⟩, by decide, rfl, trivial⟩ (LeE.upd rfl rfl (LeE.upd rfl rfl (LeE.none rfl rfl)))) rfl ?_
      refine W.now ?_
      refine InBlock.n ?_
      exact Then.n ⟨n, ((x10539 ++ ([x10546] : List Int)), (x10540 + (Utf8.decode x10517 x10540).2)), Nat.lt_succ_self n, H, rfl, rfl⟩
    · replace H := cnf hb10544 H
      refine WPL.q (q_nextEnd rfl rfl hb10544) rfl ?_
      refine WPL.q (q_extract rfl rfl) rfl ?_
      refine WPL.nilW ?_
      refine W.now ?_
      refine Then.n ?_
      refine WP.seq ?_
      refine WP.condF rfl ?_
      refine WP.exitW ?_
      refine W.cv (Cv.weak (E' := (Env.none.upd 3 (.whole 0))) (M' := (Mem.nil.push (.row 3 (Rd.int .i64) x10539))) [0] hnp ⟨rfl, ⟨trivial, .inr ⟨rfl, rfl, rfl⟩⟩, by decide, rfl, trivial⟩ (LeE.upd rfl rfl (LeE.none rfl rfl))) rfl ?_
      refine W.now ?_
      refine Then.x ?_
      refine Then.x ?_
      have q0 := (Option.some.inj H)
      subst q0
      exact ⟨rfl, rfl, rfl⟩
  · rintro _ _ _ ⟨rfl, rfl, rfl⟩
    refine W.now ?_
    refine InBlock.x0 ?_
    refine Then.n ?_
    refine WP.seq ?_
    refine WP.region ?_
    refine WPL.q (q_mv (v := .whole _) rfl) rfl ?_
    refine WPL.q (q_as (v := .whole _) rfl) rfl ?_
    refine WPL.nilW ?_
    refine W.now ?_
    refine Then.n ?_
    refine WP.retW ?_
    refine W.cv (Cv.frzRow (i := 0) rfl rfl hnp rfl rfl) rfl ?_
    refine W.now ?_
    have q0 := (Option.some.inj H)
    subst q0
    exact ⟨trivial, _, rfl, [], (.ro (Rd.slice (Rd.int .i64)) false x10544), Mem.nil, ⟨rfl, trivial, by decide, rfl, trivial⟩, rfl, rfl, rfl, rfl⟩
set_option maxRecDepth 100000 in
set_option maxHeartbeats 4000000 in
theorem s_quireref06_Runes (k : Nat) (x10551 : ByteArray) (x10590 : (List Int)) (H : g_quireref06_Runes k x10551 = some x10590) : Go.Q.Spec Tryd.prog 14 0 [.lit (.string x10551)] Mem.nil (fun o M => o = .ret (.ro (Rd.slice (Rd.int .i64)) false x10590) ∧ M = Mem.nil) := by
  unfold g_quireref06_Runes at H
  refine Go.Q.Spec.of_bodyR (rs := [.tmp 2]) (nt := 24) Tryd.func14 rfl rfl (by intro t T h; simp at h) rfl rfl fun cx hnp => ?_
  refine WP.seq ?_
  refine WP.region ?_
  refine WPL.q (q_as (v := .lit _) rfl) rfl ?_
  refine WPL.nilW ?_
  refine W.now ?_
  refine Then.n ?_
  refine WP.seq ?_
  refine WP.region ?_
  refine WPL.q (q_as (v := .lit _) rfl) rfl ?_
  refine WPL.nilW ?_
  refine W.now ?_
  refine Then.n ?_
  refine WP.seq ?_
  refine WP.block ?_
  refine WP.cv (Cv.vir 3 (Rd.int .i64) (N := 0) rfl 3 rfl) ?_
  refine WP.cv (Cv.weak (E' := ((Env.none.upd 0 (.lit (.string x10551))).upd 3 (.whole 0))) (M' := (Mem.nil.push (.row 3 (Rd.int .i64) ([] : List Int)))) [0] hnp ⟨rfl, ⟨trivial, .inr ⟨rfl, rfl, rfl⟩⟩, by decide, rfl, trivial⟩ (LeE.upd rfl rfl (LeE.upd rfl rfl (LeE.none rfl rfl)))) ?_
  obtain ⟨x10626, H10637, H⟩ := bnd H
  refine WP.monoW (Q := fun x E M => x = .exit 0 ∧ E = (Env.none.upd 3 (.whole 0)) ∧ M = (Mem.nil.push (.row 3 (Rd.int .i64) x10626))) ?_ ?_
  · refine WP.loop (β := ByteArray × (List Int)) (fun n b => g_quireref06_Runes_l0 k n b.1 b.2 = some x10626) (fun b => ((Env.none.upd 0 (.lit (.string b.1))).upd 3 (.whole 0))) (fun b => (Mem.nil.push (.row 3 (Rd.int .i64) b.2))) k (x10551, ([] : List Int)) H10637 rfl rfl ?_
    rintro n ⟨x10613, x10614⟩ H
    obtain _ | n := n
    · exact nf rfl H
    rw [g_quireref06_Runes_l0.eq_2] at H
    show WP _ _ _ _ ((Env.none.upd 0 (.lit (.string x10613))).upd 3 (.whole 0)) (Mem.nil.push (.row 3 (Rd.int .i64) x10614)) _
    refine WP.seq ?_
    refine WP.seq ?_
    refine WP.region ?_
    refine WPL.q (q_mv (v := .lit (.string _)) rfl) rfl ?_
    refine WPL.q (q_len_str Tryd.underlying9 rfl) rfl ?_
    obtain ⟨x10629, h10629, H⟩ := bnd H
    refine WPL.q (q_nm (q_gtr rfl rfl) (nm_bool h10629)) rfl ?_
    refine WPL.nilW ?_
    refine W.now ?_
    refine Then.n ?_
    refine WP.cond (t := x10629) rfl (fun hb10629 => ?_) (fun hb10629 => ?_)
    · replace H := cnt hb10629 H
      refine WP.skipW ?_
      refine W.now ?_
      refine Then.n ?_
      refine WP.block ?_
      refine WP.seq ?_
      refine WP.region ?_
      refine WPL.q (q_mv (v := .lit (.string _)) rfl) rfl ?_
      obtain ⟨⟨x10632, x10633, x10634⟩, h10630, H⟩ := bnd H
      refine WPL.c (runs_call (s := []) (t := []) (N := 1) (bor := []) fn29 rfl (s_quireref06_first k x10613 x10632 x10633 x10634 h10630) ⟨rfl, trivial, by decide, rfl, trivial⟩ rfl trivial (.ren rfl rfl .nil) rfl trivial rfl) rfl ?_
      refine WPL.q (q_mv (v := .tup _) rfl) rfl ?_
      refine WPL.q (q_extract rfl rfl) rfl ?_
      refine WPL.q (q_extract rfl rfl) rfl ?_
      refine WPL.q (q_extract rfl rfl) rfl ?_
      refine WPL.q (q_as (v := .lit (.int _ _)) rfl) rfl ?_
      refine WPL.q (q_as (v := .lit (.int _ _)) rfl) rfl ?_
      refine WPL.q (q_as (v := .lit (.bool _)) rfl) rfl ?_
      refine WPL.nilW ?_
      refine W.now ?_
      refine Then.n ?_
      refine WP.seq ?_
      refine WP.region ?_
      refine WPL.q (q_mv (v := .whole _) rfl) rfl ?_
      refine WPL.q (q_mv (v := .lit (.int _ _)) rfl) rfl ?_
      refine WPL.d (d_buildSlice (ds := ([x10632] : List Int)) (R := (Rd.int .i64)) li26 rfl rfl rfl rfl rfl (JoinRows.cons1 Joins.sc rfl JoinRows.nil) rfl rfl) rfl ?_
      obtain ⟨h10634, H⟩ := grd H
      refine WPL.d (d_append ap26 rfl rfl rfl rfl (src_row sl26 rfl rfl) h10634 rfl) rfl ?_
      refine WPL.q (q_as (v := .whole _) rfl) rfl ?_
      refine WPL.nilW ?_
      refine W.now ?_
      refine Then.n ?_
      refine WP.region ?_
      refine WPL.q (q_mv (v := .lit (.string _)) rfl) rfl ?_
      refine WPL.q (q_mv (v := .lit (.int _ _)) rfl) rfl ?_
      obtain ⟨h10635, H⟩ := grd H
      obtain ⟨x10637, h10637, H⟩ := bnd H
      refine WPL.q (q_nm (q_slice_str (i := x10633) (j := ((ByteArray.size x10613 : Nat) : Int)) Tryd.underlying9 rfl ⟨_, rfl⟩ rfl h10635) (nm_str h10637)) rfl ?_
      refine WPL.q (q_as (v := .lit (.string _)) rfl) rfl ?_
      refine WPL.nilW ?_
      refine W.cv (Cv.weak (E' := ((Env.none.upd 0 (.lit (.string x10637))).upd 3 (.whole 0))) (M' := (Mem.nil.push (.row 3 (Rd.int .i64) (x10614 ++ ([x10632] : List Int))))) [2] hnp ⟨rfl, ⟨trivial, .inr ⟨rfl, rfl, rfl⟩⟩, by decide, rfl, trivial⟩ (LeE.upd rfl rfl (LeE.upd rfl rfl (LeE.none rfl rfl)))) rfl ?_
      refine W.now ?_
      refine InBlock.n ?_
      exact Then.n ⟨n, (x10637, (x10614 ++ ([x10632] : List Int))), Nat.lt_succ_self n, H, rfl, rfl⟩
    · replace H := cnf hb10629 H
      refine WP.exitW ?_
      refine W.cv (Cv.weak (E' := (Env.none.upd 3 (.whole 0))) (M' := (Mem.nil.push (.row 3 (Rd.int .i64) x10614))) [0] hnp ⟨rfl, ⟨trivial, .inr ⟨rfl, rfl, rfl⟩⟩, by decide, rfl, trivial⟩ (LeE.upd rfl rfl (LeE.none rfl rfl))) rfl ?_
      refine W.now ?_
      refine Then.x ?_
      refine Then.x ?_
      have q0 := (Option.some.inj H)
      subst q0
      exact ⟨rfl, rfl, rfl⟩
  · rintro _ _ _ ⟨rfl, rfl, rfl⟩
    refine W.now ?_
    refine InBlock.x0 ?_
    refine Then.n ?_
    refine WP.seq ?_
    refine WP.region ?_
    refine WPL.q (q_mv (v := .whole _) rfl) rfl ?_
    refine WPL.q (q_as (v := .whole _) rfl) rfl ?_
    refine WPL.nilW ?_
    refine W.now ?_
    refine Then.n ?_
    refine WP.retW ?_
    refine W.cv (Cv.frzRow (i := 0) rfl rfl hnp rfl rfl) rfl ?_
    refine W.now ?_
    have q0 := (Option.some.inj H)
    subst q0
    exact ⟨trivial, _, rfl, [], (.ro (Rd.slice (Rd.int .i64)) false x10626), Mem.nil, ⟨rfl, trivial, by decide, rfl, trivial⟩, rfl, rfl, rfl, rfl⟩
set_option maxRecDepth 100000 in
set_option maxHeartbeats 4000000 in
theorem s_quirelaw06_ints (k : Nat) (x10641 : (List Int)) (x10642 : (List Int)) (x10679 : Bool) (H : g_quirelaw06_ints k x10641 x10642 = some x10679) : Go.Q.Spec Tryd.prog 12 0 [.ro (Rd.slice (Rd.int .i64)) false x10641, .ro (Rd.slice (Rd.int .i64)) false x10642] Mem.nil (fun o M => o = .ret (.lit (.bool x10679)) ∧ M = Mem.nil) := by
  unfold g_quirelaw06_ints at H
  refine Go.Q.Spec.of_bodyR (rs := [.tmp 4]) (nt := 26) Tryd.func12 rfl rfl (by intro t T h; simp at h) rfl rfl fun cx hnp => ?_
  refine WP.seq ?_
  refine WP.region ?_
  refine WPL.q (q_as (v := .lit (.bool _)) rfl) rfl ?_
  refine WPL.nilW ?_
  refine W.now ?_
  refine Then.n ?_
  refine WP.seq ?_
  refine WP.seq ?_
  refine WP.region ?_
  refine WPL.q (q_mv (v := .ro _ _ _) rfl) rfl ?_
  refine WPL.q (q_len_ro sl26 rfl) rfl ?_
  refine WPL.q (q_mv (v := .ro _ _ _) rfl) rfl ?_
  refine WPL.q (q_len_ro sl26 rfl) rfl ?_
  obtain ⟨x10682, h10682, H⟩ := bnd H
  refine WPL.q (q_nm (q_neq rfl rfl) (nm_bool h10682)) rfl ?_
  refine WPL.nilW ?_
  refine W.now ?_
  refine Then.n ?_
  refine WP.cond (t := x10682) rfl (fun hb10682 => ?_) (fun hb10682 => ?_)
  · replace H := cnt hb10682 H
    refine WP.seq ?_
    refine WP.region ?_
    refine WPL.q (q_as (v := .lit (.bool _)) rfl) rfl ?_
    refine WPL.nilW ?_
    refine W.now ?_
    refine Then.n ?_
    refine WP.retW ?_
    refine W.now ?_
    refine Then.r ?_
    have q0 := (Option.some.inj H)
    subst q0
    exact ⟨trivial, _, rfl, [], (.lit (.bool false)), Mem.nil, ⟨rfl, trivial, by decide, rfl, trivial⟩, rfl, rfl, rfl, rfl⟩
  · replace H := cnf hb10682 H
    refine WP.skipW ?_
    refine W.now ?_
    refine Then.n ?_
    refine WP.seq ?_
    refine WP.seq ?_
    refine WP.region ?_
    refine WPL.q (q_as (v := .lit (.int _ _)) rfl) rfl ?_
    refine WPL.nilW ?_
    refine W.now ?_
    refine Then.n ?_
    refine WP.block ?_
    refine WP.cv (Cv.weak (E' := (((Env.none.upd 0 (.ro (Rd.slice (Rd.int .i64)) false x10641)).upd 1 (.ro (Rd.slice (Rd.int .i64)) false x10642)).upd 5 (.lit (.int .i64 0)))) (M' := Mem.nil) [] hnp ⟨rfl, trivial, by decide, rfl, trivial⟩ (LeE.upd rfl rfl (LeE.upd rfl rfl (LeE.upd rfl rfl (LeE.none rfl rfl))))) ?_
    obtain ⟨y10728, H10726, H⟩ := bnd H
    refine WP.monoW (Q := fun x E M => match (generalizing := false) y10728 with | (Sum.inl _) => x = .ret ∧ E = (Env.none.upd 4 (.lit (.bool false))) ∧ M = Mem.nil | (Sum.inr _) => x = .exit 0 ∧ E = Env.none ∧ M = Mem.nil) ?_ ?_
    · refine WP.loop (β := Int) (fun n b => g_quirelaw06_ints_l0 k x10641 x10642 n b = some y10728) (fun b => (((Env.none.upd 0 (.ro (Rd.slice (Rd.int .i64)) false x10641)).upd 1 (.ro (Rd.slice (Rd.int .i64)) false x10642)).upd 5 (.lit (.int .i64 b)))) (fun b => Mem.nil) k 0 H10726 rfl rfl ?_
      rintro n x10698 H
      obtain _ | n := n
      · exact nf rfl H
      rw [g_quirelaw06_ints_l0.eq_2] at H
      show WP _ _ _ _ (((Env.none.upd 0 (.ro (Rd.slice (Rd.int .i64)) false x10641)).upd 1 (.ro (Rd.slice (Rd.int .i64)) false x10642)).upd 5 (.lit (.int .i64 x10698))) Mem.nil _
      refine WP.seq ?_
      refine WP.seq ?_
      refine WP.region ?_
      refine WPL.q (q_mv (v := .lit (.int _ _)) rfl) rfl ?_
      refine WPL.q (q_mv (v := .ro _ _ _) rfl) rfl ?_
      refine WPL.q (q_len_ro sl26 rfl) rfl ?_
      obtain ⟨x10715, h10715, H⟩ := bnd H
      refine WPL.q (q_nm (q_lss rfl rfl) (nm_bool h10715)) rfl ?_
      refine WPL.nilW ?_
      refine W.now ?_
      refine Then.n ?_
      refine WP.cond (t := x10715) rfl (fun hb10715 => ?_) (fun hb10715 => ?_)
      · replace H := cnt hb10715 H
        refine WP.skipW ?_
        refine W.now ?_
        refine Then.n ?_
        refine WP.seq ?_
        refine WP.block ?_
        refine WP.seq ?_
        refine WP.regionD' 9 [] [] mixed rfl ?_
        refine WPD.takeT 0 rfl (by kernel_rfl) (q_mv (v := .ro _ _ _) rfl) rfl ?_
        refine WPD.takeT 1 rfl (by kernel_rfl) (q_mv (v := .lit (.int _ _)) rfl) rfl ?_
        obtain ⟨x10724, h10724, H⟩ := bnd H
        refine WPD.takeT 2 rfl (by kernel_rfl) (q_index_ro sl26 rfl rfl rfl h10724) rfl ?_
        refine WPD.takeT 3 rfl (by kernel_rfl) (q_load_sc sc3 rfl) rfl ?_
        refine WPD.takeT 4 rfl (by kernel_rfl) (q_mv (v := .ro _ _ _) rfl) rfl ?_
        refine WPD.takeT 5 rfl (by kernel_rfl) (q_mv (v := .lit (.int _ _)) rfl) rfl ?_
        obtain ⟨x10725, h10725, H⟩ := bnd H
        refine WPD.takeT 6 rfl (by kernel_rfl) (q_index_ro sl26 rfl rfl rfl h10725) rfl ?_
        refine WPD.takeT 7 rfl (by kernel_rfl) (q_load_sc sc3 rfl) rfl ?_
        refine WPD.takeT 8 rfl (by kernel_rfl) (q_neq rfl rfl) rfl ?_
        refine WPD.doneW (by kernel_rfl) ?_
        refine W.now ?_
        refine Then.n ?_
        refine WP.cond (t := (!decide (x10724 = x10725))) rfl (fun hb10725 => ?_) (fun hb10725 => ?_)
        · replace H := cnt hb10725 H
          refine WP.seq ?_
          refine WP.region ?_
          refine WPL.q (q_as (v := .lit (.bool _)) rfl) rfl ?_
          refine WPL.nilW ?_
          refine W.now ?_
          refine Then.n ?_
          refine WP.retW ?_
          refine W.cv (Cv.weak (E' := (Env.none.upd 4 (.lit (.bool false)))) (M' := Mem.nil) [] hnp ⟨rfl, trivial, by decide, rfl, trivial⟩ (LeE.upd rfl rfl (LeE.none rfl rfl))) rfl ?_
          refine W.now ?_
          refine InBlock.r ?_
          refine Then.r ?_
          refine Then.r ?_
          have q0 := Option.some.inj H
          subst q0
          exact ⟨rfl, rfl, rfl⟩
        · replace H := cnf hb10725 H
          refine WP.skipW ?_
          refine W.now ?_
          refine InBlock.n ?_
          refine Then.n ?_
          refine WP.region ?_
          refine WPL.q (q_mv (v := .lit (.int _ _)) rfl) rfl ?_
          refine WPL.q (q_add rfl rfl) rfl ?_
          refine WPL.q (q_as (v := .lit (.int _ _)) rfl) rfl ?_
          refine WPL.nilW ?_
          refine W.cv (Cv.weak (E' := (((Env.none.upd 0 (.ro (Rd.slice (Rd.int .i64)) false x10641)).upd 1 (.ro (Rd.slice (Rd.int .i64)) false x10642)).upd 5 (.lit (.int .i64 (IntKind.wrap .i64 (x10698 + 1)))))) (M' := Mem.nil) [] hnp ⟨rfl, trivial, by decide, rfl, trivial⟩ (LeE.upd rfl rfl (LeE.upd rfl rfl (LeE.upd rfl rfl (LeE.none rfl rfl))))) rfl ?_
          refine W.now ?_
          exact Then.n ⟨n, (IntKind.wrap .i64 (x10698 + 1)), Nat.lt_succ_self n, H, rfl, rfl⟩
      · replace H := cnf hb10715 H
        refine WP.exitW ?_
        refine W.cv (Cv.weak (E' := Env.none) (M' := Mem.nil) [] hnp ⟨rfl, trivial, by decide, rfl, trivial⟩ (LeE.none rfl rfl)) rfl ?_
        refine W.now ?_
        refine Then.x ?_
        refine Then.x ?_
        have q0 := Option.some.inj H
        subst q0
        exact ⟨rfl, rfl, rfl⟩
    · rcases y10728 with _ | _
      · rintro _ _ _ ⟨rfl, rfl, rfl⟩
        refine W.now ?_
        refine InBlock.r ?_
        refine Then.r ?_
        have q0 := (Option.some.inj H)
        subst q0
        exact ⟨trivial, _, rfl, [], (.lit (.bool false)), Mem.nil, ⟨rfl, trivial, by decide, rfl, trivial⟩, rfl, rfl, rfl, rfl⟩
      · rintro _ _ _ ⟨rfl, rfl, rfl⟩
        refine W.now ?_
        refine InBlock.x0 ?_
        refine Then.n ?_
        refine WP.seq ?_
        refine WP.region ?_
        refine WPL.q (q_as (v := .lit (.bool _)) rfl) rfl ?_
        refine WPL.nilW ?_
        refine W.now ?_
        refine Then.n ?_
        refine WP.retW ?_
        refine W.now ?_
        have q0 := (Option.some.inj H)
        subst q0
        exact ⟨trivial, _, rfl, [], (.lit (.bool true)), Mem.nil, ⟨rfl, trivial, by decide, rfl, trivial⟩, rfl, rfl, rfl, rfl⟩
set_option maxRecDepth 100000 in
set_option maxHeartbeats 4000000 in
theorem s_unicode_utf8_RuneCountInString (k : Nat) (x10734 : ByteArray) (x10742 : Int) (H : g_unicode_utf8_RuneCountInString k x10734 = some x10742) : Go.Q.Spec Tryd.prog 30 0 [.lit (.string x10734)] Mem.nil (fun o M => o = .ret (.lit (.int .i64 x10742)) ∧ M = Mem.nil) := by
  unfold g_unicode_utf8_RuneCountInString at H
  refine Go.Q.Spec.of_bodyR (rs := [.tmp 2]) (nt := 10) Tryd.func30 rfl rfl (by intro t T h; simp at h) rfl rfl fun cx hnp => ?_
  refine WP.seq ?_
  refine WP.region ?_
  refine WPL.q (q_as (v := .lit (.int _ _)) rfl) rfl ?_
  refine WPL.nilW ?_
  refine W.now ?_
  refine Then.n ?_
  refine WP.seq ?_
  refine WP.seq ?_
  refine WP.region ?_
  refine WPL.q (q_mv (v := .lit (.string _)) rfl) rfl ?_
  refine WPL.d (d_range Tryd.underlying9 rfl rfl) rfl ?_
  refine WPL.nilW ?_
  refine W.now ?_
  refine Then.n ?_
  refine WP.block ?_
  refine WP.cv (Cv.weak (E' := ((Env.none.upd 2 (.lit (.int .i64 0))).upd 4 (.ptr 0 0))) (M' := (Mem.nil.push (.obj (.stringIter x10734 0)))) [0] hnp ⟨rfl, ⟨trivial, .inr ⟨rfl, rfl, rfl⟩⟩, by decide, rfl, trivial⟩ (LeE.upd rfl rfl (LeE.upd rfl rfl (LeE.none rfl rfl)))) ?_
  obtain ⟨x10747, H10748, H⟩ := bnd H
  refine WP.monoW (Q := fun x E M => x = .exit 0 ∧ E = (Env.none.upd 2 (.lit (.int .i64 x10747))) ∧ M = Mem.nil) ?_ ?_
  · refine WP.loop (β := Int × Nat) (fun n b => g_unicode_utf8_RuneCountInString_l0 k x10734 n b.1 b.2 = some x10747) (fun b => ((Env.none.upd 2 (.lit (.int .i64 b.1))).upd 4 (.ptr 0 0))) (fun b => (Mem.nil.push (.obj (.stringIter x10734 b.2)))) k (0, 0) H10748 rfl rfl ?_
    rintro n ⟨x10744, x10745⟩ H
    obtain _ | n := n
    · exact nf rfl H
    rw [g_unicode_utf8_RuneCountInString_l0.eq_2] at H
    show WP _ _ _ _ ((Env.none.upd 2 (.lit (.int .i64 x10744))).upd 4 (.ptr 0 0)) (Mem.nil.push (.obj (.stringIter x10734 x10745))) _
    refine WP.seq ?_
    refine WP.region ?_
    refine WPL.splitB (decide (x10745 < ByteArray.size x10734)) (fun hb10747 => ?_) (fun hb10747 => ?_)
    · replace H := cnt hb10747 H
      refine WPL.d (d_next rfl rfl hb10747) rfl ?_
      refine WPL.q (q_extract rfl rfl) rfl ?_
      refine WPL.nilW ?_
      refine W.now ?_
      refine Then.n ?_
      refine WP.seq ?_
      refine WP.condT rfl ?_
      refine WP.skipW ?_
      refine W.now ?_
      refine Then.n ?_
      refine WP.block ?_
      refine WP.region ?_
      refine WPL.q (q_mv (v := .lit (.int _ _)) rfl) rfl ?_
      refine WPL.q (q_add rfl rfl) rfl ?_
      refine WPL.q (q_as (v := .lit (.int _ _)) rfl) rfl ?_
      refine WPL.nilW ?_
      refine W.cv (Cv.weak (E' := ((Env.none.upd 2 (.lit (.int .i64 (IntKind.wrap .i64 (x10744 + 1))))).upd 4 (.ptr 0 0))) (M' := (Mem.nil.push (.obj (.stringIter x10734 (x10745 + (Utf8.decode x10734 x10745).2))))) [0] hnp ⟨rfl, ⟨trivial, .inr ⟨rfl, rfl, rfl⟩⟩, by decide, rfl, trivial⟩ (LeE.upd rfl rfl (LeE.upd rfl rfl (LeE.none rfl rfl)))) rfl ?_
      refine W.now ?_
      refine InBlock.n ?_
      exact Then.n ⟨n, ((IntKind.wrap .i64 (x10744 + 1)), (x10745 + (Utf8.decode x10734 x10745).2)), Nat.lt_succ_self n, H, rfl, rfl⟩
    · replace H := cnf hb10747 H
      refine WPL.q (q_nextEnd rfl rfl hb10747) rfl ?_
      refine WPL.q (q_extract rfl rfl) rfl ?_
      refine WPL.nilW ?_
      refine W.now ?_
      refine Then.n ?_
      refine WP.seq ?_
      refine WP.condF rfl ?_
      refine WP.exitW ?_
      refine W.cv (Cv.weak (E' := (Env.none.upd 2 (.lit (.int .i64 x10744)))) (M' := Mem.nil) [] hnp ⟨rfl, trivial, by decide, rfl, trivial⟩ (LeE.upd rfl rfl (LeE.none rfl rfl))) rfl ?_
      refine W.now ?_
      refine Then.x ?_
      refine Then.x ?_
      have q0 := (Option.some.inj H)
      subst q0
      exact ⟨rfl, rfl, rfl⟩
  · rintro _ _ _ ⟨rfl, rfl, rfl⟩
    refine W.now ?_
    refine InBlock.x0 ?_
    refine Then.n ?_
    refine WP.seq ?_
    refine WP.region ?_
    refine WPL.q (q_mv (v := .lit (.int _ _)) rfl) rfl ?_
    refine WPL.q (q_as (v := .lit (.int _ _)) rfl) rfl ?_
    refine WPL.nilW ?_
    refine W.now ?_
    refine Then.n ?_
    refine WP.retW ?_
    refine W.now ?_
    have q0 := (Option.some.inj H)
    subst q0
    exact ⟨trivial, _, rfl, [], (.lit (.int .i64 x10747)), Mem.nil, ⟨rfl, trivial, by decide, rfl, trivial⟩, rfl, rfl, rfl, rfl⟩
set_option maxRecDepth 100000 in
set_option maxHeartbeats 4000000 in
theorem s_utf_Count (k : Nat) (x10732 : ByteArray) (x10752 : Int) (H : g_utf_Count k x10732 = some x10752) : Go.Q.Spec Tryd.prog 15 0 [.lit (.string x10732)] Mem.nil (fun o M => o = .ret (.lit (.int .i64 x10752)) ∧ M = Mem.nil) := by
  unfold g_utf_Count at H
  refine Go.Q.Spec.of_bodyR (rs := [.tmp 2]) (nt := 5) Tryd.func15 rfl rfl (by intro t T h; simp at h) rfl rfl fun cx hnp => ?_
  refine WP.seq ?_
  refine WP.region ?_
  refine WPL.q (q_as (v := .lit (.int _ _)) rfl) rfl ?_
  refine WPL.nilW ?_
  refine W.now ?_
  refine Then.n ?_
  refine WP.seq ?_
  refine WP.region ?_
  refine WPL.q (q_mv (v := .lit (.string _)) rfl) rfl ?_
  obtain ⟨x10754, h10752, H⟩ := bnd H
  refine WPL.c (runs_call (s := []) (t := []) (N := 0) (bor := []) fn30 rfl (s_unicode_utf8_RuneCountInString k x10732 x10754 h10752) ⟨rfl, trivial, by decide, rfl, trivial⟩ rfl trivial (.ren rfl rfl .nil) rfl trivial rfl) rfl ?_
  refine WPL.q (q_as (v := .lit (.int _ _)) rfl) rfl ?_
  refine WPL.nilW ?_
  refine W.now ?_
  refine Then.n ?_
  refine WP.retW ?_
  refine W.now ?_
  have q0 := (Option.some.inj H)
  subst q0
  exact ⟨trivial, _, rfl, [], (.lit (.int .i64 x10754)), Mem.nil, ⟨rfl, trivial, by decide, rfl, trivial⟩, rfl, rfl, rfl, rfl⟩
set_option maxRecDepth 100000 in
set_option maxHeartbeats 4000000 in
theorem s_strings_Builder_copyCheck (k : Nat) (H : g_strings_Builder_copyCheck k = some ()) : Go.Q.Spec Tryd.prog 49 1 [.ptr 0 0] (Mem.nil.push (.cells 50 [.lit (.pointer none), .lit (.slice none 0 0)])) (fun o M => o = .ret (.tup []) ∧ M = (Mem.nil.push (.cells 50 [.ptr 0 0, .lit (.slice none 0 0)]))) := by
  unfold g_strings_Builder_copyCheck at H
  refine Go.Q.Spec.of_bodyR (rs := []) (nt := 20) Tryd.func49 rfl rfl (by intro t T h; simp at h) rfl rfl fun cx hnp => ?_
  refine WP.seq ?_
  refine WP.region ?_
  refine WPL.q (q_mv (v := .ptr _ _) rfl) rfl ?_
  refine WPL.q (q_nilCheck rfl) rfl ?_
  refine WPL.q (q_fieldAddr fi50_0 rfl rfl) rfl ?_
  refine WPL.q (q_load sc48 rfl rfl rfl) rfl ?_
  refine WPL.q (q_eqlp_nil Tryd.underlying48 rfl) rfl ?_
  refine WPL.nilW ?_
  refine W.now ?_
  refine Then.n ?_
  refine WP.condT rfl ?_
  refine WP.region ?_
  refine WPL.q (q_mv (v := .ptr _ _) rfl) rfl ?_
  refine WPL.q (q_mv (v := .ptr _ _) rfl) rfl ?_
  refine WPL.q (q_toUnsafe Tryd.underlying48 Tryd.underlying76 in50 rfl rfl rfl) rfl ?_
  refine WPL.q (q_noEscape ex55 rfl (v := .ptr _ _) rfl) rfl ?_
  refine WPL.q (q_fromUnsafe Tryd.underlying76 Tryd.underlying48 te50 rfl rfl (by kernel_rfl)) rfl ?_
  refine WPL.q (q_nilCheck rfl) rfl ?_
  refine WPL.q (q_fieldAddr fi50_0 rfl rfl) rfl ?_
  refine WPL.s (s_store sz48 rfl rfl rfl rfl rfl) ?_
  refine WPL.nilW ?_
  refine W.now ?_
  exact ⟨trivial, _, rfl, [0], (.tup []), (Mem.nil.push (.cells 50 [.ptr 0 0, .lit (.slice none 0 0)])), ⟨rfl, ⟨trivial, .inr ⟨rfl, rfl, rfl⟩⟩, by decide, rfl, ⟨trivial, rfl⟩⟩, rfl, rfl, rfl, rfl⟩
set_option maxRecDepth 100000 in
set_option maxHeartbeats 4000000 in
theorem s_unicode_utf8_appendRuneNonASCII (k : Nat) (x10796 : Int) (x10835 : (List Int)) (H : g_unicode_utf8_appendRuneNonASCII k x10796 = some x10835) : Go.Q.Spec Tryd.prog 56 0 [.lit (.slice none 0 0), .lit (.int .i32 x10796)] Mem.nil (fun o M => o = .ret (.whole 0) ∧ M = (Mem.nil.push (.row 5 (Rd.int .u8) x10835))) := by
  unfold g_unicode_utf8_appendRuneNonASCII at H
  refine Go.Q.Spec.of_bodyR (rs := [.tmp 4]) (nt := 78) Tryd.func56 rfl rfl (by intro t T h; simp at h) rfl rfl fun cx hnp => ?_
  refine WP.seq ?_
  refine WP.region ?_
  refine WPL.q (q_as (v := .lit _) rfl) rfl ?_
  refine WPL.nilW ?_
  refine W.now ?_
  refine Then.n ?_
  refine WP.seq ?_
  refine WP.region ?_
  refine WPL.q (q_mv (v := .lit (.int _ _)) rfl) rfl ?_
  refine WPL.q (q_conv Tryd.underlying21 Tryd.underlying78 rfl) rfl ?_
  refine WPL.q (q_as (v := .lit (.int _ _)) rfl) rfl ?_
  refine WPL.nilW ?_
  refine W.now ?_
  refine Then.n ?_
  refine WP.block ?_
  refine WP.seq ?_
  refine WP.region ?_
  refine WPL.q (q_mv (v := .lit (.int _ _)) rfl) rfl ?_
  obtain ⟨x10836, h10836, H⟩ := bnd H
  refine WPL.q (q_nm (q_leq rfl rfl) (nm_bool h10836)) rfl ?_
  refine WPL.q (q_as (v := .lit (.bool _)) rfl) rfl ?_
  refine WPL.nilW ?_
  refine W.now ?_
  refine Then.n ?_
  refine WP.cond (t := x10836) rfl (fun hb10836 => ?_) (fun hb10836 => ?_)
  · replace H := cnt hb10836 H
    refine WP.seq ?_
    refine WP.region ?_
    refine WPL.q (q_mv (v := .lit _) rfl) rfl ?_
    refine WPL.q (q_mv (v := .lit (.int _ _)) rfl) rfl ?_
    refine WPL.q (q_shr rfl rfl rfl) rfl ?_
    refine WPL.q (q_conv Tryd.underlying21 Tryd.underlying5 rfl) rfl ?_
    obtain ⟨x10838, h10838, H⟩ := bnd H
    refine WPL.q (q_nm (q_or rfl rfl) (nm_int h10838)) rfl ?_
    refine WPL.q (q_mv (v := .lit (.int _ _)) rfl) rfl ?_
    refine WPL.q (q_conv Tryd.underlying21 Tryd.underlying5 rfl) rfl ?_
    obtain ⟨x10839, h10839, H⟩ := bnd H
    refine WPL.q (q_nm (q_and rfl rfl) (nm_int h10839)) rfl ?_
    refine WPL.q (q_or rfl rfl) rfl ?_
    refine WPL.d (d_buildSlice (ds := ([x10838, (bits .or .u8 128 x10839)] : List Int)) (R := (Rd.int .u8)) li47 rfl rfl rfl rfl rfl (JoinRows.cons1 Joins.sc rfl (JoinRows.cons1 Joins.sc rfl JoinRows.nil)) rfl rfl) rfl ?_
    obtain ⟨h10839, H⟩ := grd H
    refine WPL.cv (Cv.vir 5 (Rd.int .u8) (N := 1) rfl 14 rfl) ?_
    refine WPL.d (d_append ap47 rfl rfl rfl rfl (src_row sl47 rfl rfl) h10839 rfl) rfl ?_
    refine WPL.q (q_as (v := .whole _) rfl) rfl ?_
    refine WPL.nilW ?_
    refine W.now ?_
    refine Then.n ?_
    refine WP.retW ?_
    refine W.now ?_
    refine InBlock.r ?_
    have q0 := (Option.some.inj H)
    subst q0
    exact ⟨trivial, _, rfl, [2], (.whole 0), (Mem.nil.push (.row 5 (Rd.int .u8) (([] : List Int) ++ ([x10838, (bits .or .u8 128 x10839)] : List Int)))), ⟨rfl, ⟨trivial, .inr ⟨rfl, rfl, rfl⟩⟩, by decide, rfl, trivial⟩, rfl, rfl, rfl, rfl⟩
  · replace H := cnf hb10836 H
    refine WP.seq ?_
    obtain ⟨x10846, H10851, H⟩ := bnd H
    refine WP.monoW (Q := fun x E M => x = .normal ∧ E = ((((Env.none.upd 0 (.lit (.slice none 0 0))).upd 1 (.lit (.int .i32 x10796))).upd 5 (.lit (.int .u32 (IntKind.wrap .u32 x10796)))).upd 25 (.lit (.bool x10846))) ∧ M = Mem.nil) ?_ ?_
    · clear H
      have H := H10851
      clear H10851
      refine WP.seq ?_
      refine WP.region ?_
      refine WPL.q (q_mv (v := .lit (.int _ _)) rfl) rfl ?_
      obtain ⟨x10847, h10847, H⟩ := bnd H
      refine WPL.q (q_nm (q_lss rfl rfl) (nm_bool h10847)) rfl ?_
      refine WPL.q (q_as (v := .lit (.bool _)) rfl) rfl ?_
      refine WPL.nilW ?_
      refine W.now ?_
      refine Then.n ?_
      refine WP.cond (t := x10847) rfl (fun hb10847 => ?_) (fun hb10847 => ?_)
      · replace H := cnt hb10847 H
        refine WP.skipW ?_
        refine W.cv (Cv.weak (E' := ((((Env.none.upd 0 (.lit (.slice none 0 0))).upd 1 (.lit (.int .i32 x10796))).upd 5 (.lit (.int .u32 (IntKind.wrap .u32 x10796)))).upd 25 (.lit (.bool x10847)))) (M' := Mem.nil) [] hnp ⟨rfl, trivial, by decide, rfl, trivial⟩ (LeE.upd rfl rfl (LeE.upd rfl rfl (LeE.upd rfl rfl (LeE.upd rfl rfl (LeE.none rfl rfl)))))) rfl ?_
        refine W.now ?_
        have q0 := (Option.some.inj H)
        subst q0
        exact ⟨rfl, rfl, rfl⟩
      · replace H := cnf hb10847 H
        refine WP.region ?_
        refine WPL.q (q_mv (v := .lit (.int _ _)) rfl) rfl ?_
        obtain ⟨x10849, h10849, H⟩ := bnd H
        refine WPL.q (q_nm (q_lss rfl rfl) (nm_bool h10849)) rfl ?_
        refine WPL.q (q_mv (v := .lit (.bool _)) rfl) rfl ?_
        refine WPL.split (t := 30) (b := x10849) rfl (fun hb10849 => ?_) (fun hb10849 => ?_)
        · replace H := cnt hb10849 H
          refine WPL.qg rfl rfl (lb hb10849) (q_mv (v := .lit (.int _ _)) rfl) rfl ?_
          obtain ⟨x10851, h10851, H⟩ := bnd H
          refine WPL.qg rfl rfl (lb hb10849) (q_nm (q_leq rfl rfl) (nm_bool h10851)) rfl ?_
          refine WPL.q (q_pickT (v := .lit (.bool _)) (lb hb10849) rfl) rfl ?_
          refine WPL.q (q_as (v := .lit (.bool _)) rfl) rfl ?_
          refine WPL.nilW ?_
          refine W.cv (Cv.weak (E' := ((((Env.none.upd 0 (.lit (.slice none 0 0))).upd 1 (.lit (.int .i32 x10796))).upd 5 (.lit (.int .u32 (IntKind.wrap .u32 x10796)))).upd 25 (.lit (.bool x10851)))) (M' := Mem.nil) [] hnp ⟨rfl, trivial, by decide, rfl, trivial⟩ (LeE.upd rfl rfl (LeE.upd rfl rfl (LeE.upd rfl rfl (LeE.upd rfl rfl (LeE.none rfl rfl)))))) rfl ?_
          refine W.now ?_
          have q0 := (Option.some.inj H)
          subst q0
          exact ⟨rfl, rfl, rfl⟩
        · replace H := cnf hb10849 H
          refine WPL.skipg (b' := false) rfl rfl (lb hb10849) rfl rfl ?_
          refine WPL.skipg (b' := false) rfl rfl (lb hb10849) rfl rfl ?_
          refine WPL.q (q_pickF (v := .lit (.bool _)) (lb hb10849) rfl) rfl ?_
          refine WPL.q (q_as (v := .lit (.bool _)) rfl) rfl ?_
          refine WPL.nilW ?_
          refine W.cv (Cv.weak (E' := ((((Env.none.upd 0 (.lit (.slice none 0 0))).upd 1 (.lit (.int .i32 x10796))).upd 5 (.lit (.int .u32 (IntKind.wrap .u32 x10796)))).upd 25 (.lit (.bool false)))) (M' := Mem.nil) [] hnp ⟨rfl, trivial, by decide, rfl, trivial⟩ (LeE.upd rfl rfl (LeE.upd rfl rfl (LeE.upd rfl rfl (LeE.upd rfl rfl (LeE.none rfl rfl)))))) rfl ?_
          refine W.now ?_
          have q0 := (Option.some.inj H)
          subst q0
          exact ⟨rfl, rfl, rfl⟩
    · rintro _ _ _ ⟨rfl, rfl, rfl⟩
      refine W.now ?_
      refine Then.n ?_
      refine WP.cond (t := x10846) rfl (fun hb10852 => ?_) (fun hb10852 => ?_)
      · replace H := cnt hb10852 H
        refine WP.seq ?_
        refine WP.region ?_
        refine WPL.q (q_mv (v := .lit _) rfl) rfl ?_
        refine WPL.q (q_mv (v := .lit (.int _ _)) rfl) rfl ?_
        refine WPL.q (q_shr rfl rfl rfl) rfl ?_
        refine WPL.q (q_conv Tryd.underlying21 Tryd.underlying5 rfl) rfl ?_
        obtain ⟨x10854, h10854, H⟩ := bnd H
        refine WPL.q (q_nm (q_or rfl rfl) (nm_int h10854)) rfl ?_
        refine WPL.q (q_mv (v := .lit (.int _ _)) rfl) rfl ?_
        refine WPL.q (q_shr rfl rfl rfl) rfl ?_
        refine WPL.q (q_conv Tryd.underlying21 Tryd.underlying5 rfl) rfl ?_
        obtain ⟨x10855, h10855, H⟩ := bnd H
        refine WPL.q (q_nm (q_and rfl rfl) (nm_int h10855)) rfl ?_
        refine WPL.q (q_or rfl rfl) rfl ?_
        refine WPL.q (q_mv (v := .lit (.int _ _)) rfl) rfl ?_
        refine WPL.q (q_conv Tryd.underlying21 Tryd.underlying5 rfl) rfl ?_
        obtain ⟨x10856, h10856, H⟩ := bnd H
        refine WPL.q (q_nm (q_and rfl rfl) (nm_int h10856)) rfl ?_
        refine WPL.q (q_or rfl rfl) rfl ?_
        refine WPL.d (d_buildSlice (ds := ([x10854, (bits .or .u8 128 x10855), (bits .or .u8 128 x10856)] : List Int)) (R := (Rd.int .u8)) li47 rfl rfl rfl rfl rfl (JoinRows.cons1 Joins.sc rfl (JoinRows.cons1 Joins.sc rfl (JoinRows.cons1 Joins.sc rfl JoinRows.nil))) rfl rfl) rfl ?_
        obtain ⟨h10856, H⟩ := grd H
        refine WPL.cv (Cv.vir 5 (Rd.int .u8) (N := 1) rfl 34 rfl) ?_
        refine WPL.d (d_append ap47 rfl rfl rfl rfl (src_row sl47 rfl rfl) h10856 rfl) rfl ?_
        refine WPL.q (q_as (v := .whole _) rfl) rfl ?_
        refine WPL.nilW ?_
        refine W.now ?_
        refine Then.n ?_
        refine WP.retW ?_
        refine W.now ?_
        refine InBlock.r ?_
        have q0 := (Option.some.inj H)
        subst q0
        exact ⟨trivial, _, rfl, [2], (.whole 0), (Mem.nil.push (.row 5 (Rd.int .u8) (([] : List Int) ++ ([x10854, (bits .or .u8 128 x10855), (bits .or .u8 128 x10856)] : List Int)))), ⟨rfl, ⟨trivial, .inr ⟨rfl, rfl, rfl⟩⟩, by decide, rfl, trivial⟩, rfl, rfl, rfl, rfl⟩
      · replace H := cnf hb10852 H
        refine WP.seq ?_
        obtain ⟨x10861, H10864, H⟩ := bnd H
        refine WP.monoW (Q := fun x E M => x = .normal ∧ E = (((Env.none.upd 0 (.lit (.slice none 0 0))).upd 1 (.lit (.int .i32 x10796))).upd 50 (.lit (.bool x10861))) ∧ M = Mem.nil) ?_ ?_
        · clear H
          have H := H10864
          clear H10864
          refine WP.region ?_
          refine WPL.q (q_mv (v := .lit (.int _ _)) rfl) rfl ?_
          obtain ⟨x10862, h10862, H⟩ := bnd H
          refine WPL.q (q_nm (q_gtr rfl rfl) (nm_bool h10862)) rfl ?_
          refine WPL.q (q_mv (v := .lit (.bool _)) rfl) rfl ?_
          refine WPL.split (t := 53) (b := x10862) rfl (fun hb10862 => ?_) (fun hb10862 => ?_)
          · replace H := cnt hb10862 H
            refine WPL.qg rfl rfl (lb hb10862) (q_mv (v := .lit (.int _ _)) rfl) rfl ?_
            obtain ⟨x10864, h10864, H⟩ := bnd H
            refine WPL.qg rfl rfl (lb hb10862) (q_nm (q_leq rfl rfl) (nm_bool h10864)) rfl ?_
            refine WPL.q (q_pickT (v := .lit (.bool _)) (lb hb10862) rfl) rfl ?_
            refine WPL.q (q_as (v := .lit (.bool _)) rfl) rfl ?_
            refine WPL.nilW ?_
            refine W.cv (Cv.weak (E' := (((Env.none.upd 0 (.lit (.slice none 0 0))).upd 1 (.lit (.int .i32 x10796))).upd 50 (.lit (.bool x10864)))) (M' := Mem.nil) [] hnp ⟨rfl, trivial, by decide, rfl, trivial⟩ (LeE.upd rfl rfl (LeE.upd rfl rfl (LeE.upd rfl rfl (LeE.none rfl rfl))))) rfl ?_
            refine W.now ?_
            have q0 := (Option.some.inj H)
            subst q0
            exact ⟨rfl, rfl, rfl⟩
          · replace H := cnf hb10862 H
            refine WPL.skipg (b' := false) rfl rfl (lb hb10862) rfl rfl ?_
            refine WPL.skipg (b' := false) rfl rfl (lb hb10862) rfl rfl ?_
            refine WPL.q (q_pickF (v := .lit (.bool _)) (lb hb10862) rfl) rfl ?_
            refine WPL.q (q_as (v := .lit (.bool _)) rfl) rfl ?_
            refine WPL.nilW ?_
            refine W.cv (Cv.weak (E' := (((Env.none.upd 0 (.lit (.slice none 0 0))).upd 1 (.lit (.int .i32 x10796))).upd 50 (.lit (.bool false)))) (M' := Mem.nil) [] hnp ⟨rfl, trivial, by decide, rfl, trivial⟩ (LeE.upd rfl rfl (LeE.upd rfl rfl (LeE.upd rfl rfl (LeE.none rfl rfl))))) rfl ?_
            refine W.now ?_
            have q0 := (Option.some.inj H)
            subst q0
            exact ⟨rfl, rfl, rfl⟩
        · rintro _ _ _ ⟨rfl, rfl, rfl⟩
          refine W.now ?_
          refine Then.n ?_
          refine WP.cond (t := x10861) rfl (fun hb10865 => ?_) (fun hb10865 => ?_)
          · replace H := cnt hb10865 H
            refine WP.seq ?_
            refine WP.region ?_
            refine WPL.q (q_mv (v := .lit _) rfl) rfl ?_
            refine WPL.q (q_mv (v := .lit (.int _ _)) rfl) rfl ?_
            refine WPL.q (q_shr rfl rfl rfl) rfl ?_
            refine WPL.q (q_conv Tryd.underlying21 Tryd.underlying5 rfl) rfl ?_
            obtain ⟨x10867, h10867, H⟩ := bnd H
            refine WPL.q (q_nm (q_or rfl rfl) (nm_int h10867)) rfl ?_
            refine WPL.q (q_mv (v := .lit (.int _ _)) rfl) rfl ?_
            refine WPL.q (q_shr rfl rfl rfl) rfl ?_
            refine WPL.q (q_conv Tryd.underlying21 Tryd.underlying5 rfl) rfl ?_
            obtain ⟨x10868, h10868, H⟩ := bnd H
            refine WPL.q (q_nm (q_and rfl rfl) (nm_int h10868)) rfl ?_
            refine WPL.q (q_or rfl rfl) rfl ?_
            refine WPL.q (q_mv (v := .lit (.int _ _)) rfl) rfl ?_
            refine WPL.q (q_shr rfl rfl rfl) rfl ?_
            refine WPL.q (q_conv Tryd.underlying21 Tryd.underlying5 rfl) rfl ?_
            obtain ⟨x10869, h10869, H⟩ := bnd H
            refine WPL.q (q_nm (q_and rfl rfl) (nm_int h10869)) rfl ?_
            refine WPL.q (q_or rfl rfl) rfl ?_
            refine WPL.q (q_mv (v := .lit (.int _ _)) rfl) rfl ?_
            refine WPL.q (q_conv Tryd.underlying21 Tryd.underlying5 rfl) rfl ?_
            obtain ⟨x10870, h10870, H⟩ := bnd H
            refine WPL.q (q_nm (q_and rfl rfl) (nm_int h10870)) rfl ?_
            refine WPL.q (q_or rfl rfl) rfl ?_
            refine WPL.d (d_buildSlice (ds := ([x10867, (bits .or .u8 128 x10868), (bits .or .u8 128 x10869), (bits .or .u8 128 x10870)] : List Int)) (R := (Rd.int .u8)) li47 rfl rfl rfl rfl rfl (JoinRows.cons1 Joins.sc rfl (JoinRows.cons1 Joins.sc rfl (JoinRows.cons1 Joins.sc rfl (JoinRows.cons1 Joins.sc rfl JoinRows.nil)))) rfl rfl) rfl ?_
            obtain ⟨h10870, H⟩ := grd H
            refine WPL.cv (Cv.vir 5 (Rd.int .u8) (N := 1) rfl 57 rfl) ?_
            refine WPL.d (d_append ap47 rfl rfl rfl rfl (src_row sl47 rfl rfl) h10870 rfl) rfl ?_
            refine WPL.q (q_as (v := .whole _) rfl) rfl ?_
            refine WPL.nilW ?_
            refine W.now ?_
            refine Then.n ?_
            refine WP.retW ?_
            refine W.now ?_
            refine InBlock.r ?_
            have q0 := (Option.some.inj H)
            subst q0
            exact ⟨trivial, _, rfl, [2], (.whole 0), (Mem.nil.push (.row 5 (Rd.int .u8) (([] : List Int) ++ ([x10867, (bits .or .u8 128 x10868), (bits .or .u8 128 x10869), (bits .or .u8 128 x10870)] : List Int)))), ⟨rfl, ⟨trivial, .inr ⟨rfl, rfl, rfl⟩⟩, by decide, rfl, trivial⟩, rfl, rfl, rfl, rfl⟩
          · replace H := cnf hb10865 H
            refine WP.seq ?_
            refine WP.region ?_
            refine WPL.q (q_mv (v := .lit _) rfl) rfl ?_
            refine WPL.d (d_buildSlice (ds := ([239, 191, 189] : List Int)) (R := (Rd.int .u8)) li47 rfl rfl rfl rfl rfl (JoinRows.cons1 Joins.sc rfl (JoinRows.cons1 Joins.sc rfl (JoinRows.cons1 Joins.sc rfl JoinRows.nil))) rfl rfl) rfl ?_
            obtain ⟨h10871, H⟩ := grd H
            refine WPL.cv (Cv.vir 5 (Rd.int .u8) (N := 1) rfl 8 rfl) ?_
            refine WPL.d (d_append ap47 rfl rfl rfl rfl (src_row sl47 rfl rfl) h10871 rfl) rfl ?_
            refine WPL.q (q_as (v := .whole _) rfl) rfl ?_
            refine WPL.nilW ?_
            refine W.now ?_
            refine Then.n ?_
            refine WP.retW ?_
            refine W.now ?_
            refine InBlock.r ?_
            have q0 := (Option.some.inj H)
            subst q0
            exact ⟨trivial, _, rfl, [2], (.whole 0), (Mem.nil.push (.row 5 (Rd.int .u8) (([] : List Int) ++ ([239, 191, 189] : List Int)))), ⟨rfl, ⟨trivial, .inr ⟨rfl, rfl, rfl⟩⟩, by decide, rfl, trivial⟩, rfl, rfl, rfl, rfl⟩
end Go.Proofs.YtnbjdgamindikaaDoor.W
