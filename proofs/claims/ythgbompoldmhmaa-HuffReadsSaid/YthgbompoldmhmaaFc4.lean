/- Walks: Fc4 -/
import Derived.Test.YthgbompoldmhmaaFb
import Derived.Test.YthgbompoldmhmaaFc0
import Derived.Test.YthgbompoldmhmaaFc1
import Derived.Test.YthgbompoldmhmaaFc3
namespace Go.Proofs.Ythgbompoldmhmaa.W
open Go Go.Q Go.Proofs
set_option linter.unusedVariables false
set_option linter.unusedSimpArgs false
set_option maxRecDepth 100000 in
set_option maxHeartbeats 4000000 in
theorem s10 (k : Nat) (x4297 : Bool) (H : f10 k = some x4297) : Go.Q.Spec Try.prog 10 0 [] Mem.nil (fun o M => o = .ret (.lit (.bool x4297)) ∧ M = Mem.nil) := by
  unfold f10 at H
  refine Go.Q.Spec.of_bodyR (rs := [.tmp 0]) (nt := 90) Try.func10 rfl rfl (by intro t T h; simp at h) rfl rfl fun cx hnp => ?_
  refine WP.seq ?_
  refine WP.region ?_
  refine WPL.q (q_as (v := .lit (.bool _)) rfl) rfl ?_
  refine WPL.nilW ?_
  refine W.now ?_
  refine Then.n ?_
  refine WP.seq ?_
  refine WP.region ?_
  refine WPL.d (d_buildSlice (ds := ([2, 1, 3, 3] : List Int)) (R := (Rd.int .i64)) li22 rfl rfl rfl rfl rfl (JoinRows.cons1 Joins.sc rfl (JoinRows.cons1 Joins.sc rfl (JoinRows.cons1 Joins.sc rfl (JoinRows.cons1 Joins.sc rfl JoinRows.nil)))) rfl rfl) rfl ?_
  obtain ⟨⟨x4299, x4300⟩, h4297, H⟩ := bnd H
  refine WPL.c (runs_call (s := []) (t := []) (N := 1) (bor := [0]) fn14 rfl (s14b k ([2, 1, 3, 3] : List Int) x4299 x4300 h4297) ⟨rfl, trivial, by decide, rfl, trivial⟩ rfl ⟨trivial, rfl, rfl, trivial⟩ (.row rfl rfl .nil) rfl trivial rfl) rfl ?_
  refine WPL.q (q_mv (v := .tup _) rfl) rfl ?_
  refine WPL.q (q_extract rfl rfl) rfl ?_
  refine WPL.q (q_extract rfl rfl) rfl ?_
  refine WPL.q (q_as (v := .ro _ _ _) rfl) rfl ?_
  refine WPL.q (q_as (v := .lit (.int _ _)) rfl) rfl ?_
  refine WPL.nilW ?_
  refine W.now ?_
  refine Then.n ?_
  refine WP.seq ?_
  refine WP.region ?_
  refine WPL.d (d_buildSlice (ds := ([1, 1, 1] : List Int)) (R := (Rd.int .i64)) li22 rfl rfl rfl rfl rfl (JoinRows.cons1 Joins.sc rfl (JoinRows.cons1 Joins.sc rfl (JoinRows.cons1 Joins.sc rfl JoinRows.nil))) rfl rfl) rfl ?_
  obtain ⟨⟨x4302, x4303⟩, h4300, H⟩ := bnd H
  refine WPL.c (runs_call (s := []) (t := []) (N := 2) (bor := [1]) fn14 rfl (s14b k ([1, 1, 1] : List Int) x4302 x4303 h4300) ⟨rfl, trivial, by decide, rfl, trivial⟩ rfl ⟨trivial, rfl, rfl, trivial⟩ (.row rfl rfl .nil) rfl trivial rfl) rfl ?_
  refine WPL.q (q_mv (v := .tup _) rfl) rfl ?_
  refine WPL.q (q_extract rfl rfl) rfl ?_
  refine WPL.q (q_extract rfl rfl) rfl ?_
  refine WPL.q (q_as (v := .ro _ _ _) rfl) rfl ?_
  refine WPL.q (q_as (v := .lit (.int _ _)) rfl) rfl ?_
  refine WPL.nilW ?_
  refine W.now ?_
  refine Then.n ?_
  refine WP.seq ?_
  refine WP.region ?_
  refine WPL.d (d_buildSlice (ds := ([5, 1, 1, 0] : List Int)) (R := (Rd.int .i64)) li22 rfl rfl rfl rfl rfl (JoinRows.cons1 Joins.sc rfl (JoinRows.cons1 Joins.sc rfl (JoinRows.cons1 Joins.sc rfl (JoinRows.cons1 Joins.sc rfl JoinRows.nil)))) rfl rfl) rfl ?_
  obtain ⟨⟨x4305, x4306⟩, h4303, H⟩ := bnd H
  refine WPL.c (runs_call (s := []) (t := []) (N := 3) (bor := [2]) fn9 rfl (s9 k ([5, 1, 1, 0] : List Int) 15 x4305 x4306 h4303) ⟨rfl, trivial, by decide, rfl, trivial⟩ rfl ⟨trivial, rfl, rfl, trivial⟩ (.row rfl rfl (.ren rfl rfl .nil)) rfl trivial rfl) rfl ?_
  refine WPL.q (q_mv (v := .tup _) rfl) rfl ?_
  refine WPL.q (q_extract rfl rfl) rfl ?_
  refine WPL.q (q_extract rfl rfl) rfl ?_
  refine WPL.q (q_as (v := .ro _ _ _) rfl) rfl ?_
  refine WPL.q (q_as (v := .lit (.int _ _)) rfl) rfl ?_
  refine WPL.nilW ?_
  refine W.now ?_
  refine Then.n ?_
  refine WP.seq ?_
  obtain ⟨x4329, H4351, H⟩ := bnd H
  refine WP.monoW (Q := fun x E M => x = .normal ∧ E = (Env.none.upd 0 (.lit (.bool x4329))) ∧ M = Mem.nil) ?_ ?_
  · clear H
    have H := H4351
    clear H4351
    refine WP.region ?_
    refine WPL.q (q_mv (v := .lit (.int _ _)) rfl) rfl ?_
    refine WPL.q (q_eql rfl rfl) rfl ?_
    refine WPL.q (q_mv (v := .lit (.bool _)) rfl) rfl ?_
    refine WPL.split (t := 24) (b := (decide (x4300 = 0))) rfl (fun hb4329 => ?_) (fun hb4329 => ?_)
    · replace H := cnt hb4329 H
      refine WPL.qg rfl rfl (lb hb4329) (q_mv (v := .ro _ _ _) rfl) rfl ?_
      refine WPL.qg rfl rfl (lb hb4329) (q_len_ro sl32 rfl) rfl ?_
      obtain ⟨x4331, h4331, H⟩ := bnd H
      refine WPL.qg rfl rfl (lb hb4329) (q_nm (q_eql rfl rfl) (nm_bool h4331)) rfl ?_
      refine WPL.q (q_pickT (v := .lit (.bool _)) (lb hb4329) rfl) rfl ?_
      refine WPL.q (q_mv (v := .lit (.bool _)) rfl) rfl ?_
      refine WPL.split (t := 29) (b := x4331) rfl (fun hb4331 => ?_) (fun hb4331 => ?_)
      · replace H := cnt hb4331 H
        refine WPL.qg rfl rfl (lb hb4331) (q_mv (v := .ro _ _ _) rfl) rfl ?_
        obtain ⟨x4333, h4333, H⟩ := bnd H
        refine WPL.qg rfl rfl (lb hb4331) (q_index_ro sl32 rfl rfl rfl h4333) rfl ?_
        refine WPL.qg rfl rfl (lb hb4331) (q_load_sc sc35 rfl) rfl ?_
        refine WPL.qg rfl rfl (lb hb4331) (q_eql rfl rfl) rfl ?_
        refine WPL.q (q_pickT (v := .lit (.bool _)) (lb hb4331) rfl) rfl ?_
        refine WPL.q (q_mv (v := .lit (.bool _)) rfl) rfl ?_
        refine WPL.split (t := 35) (b := (decide (x4333 = 2))) rfl (fun hb4333 => ?_) (fun hb4333 => ?_)
        · replace H := cnt hb4333 H
          refine WPL.qg rfl rfl (lb hb4333) (q_mv (v := .ro _ _ _) rfl) rfl ?_
          obtain ⟨x4335, h4335, H⟩ := bnd H
          refine WPL.qg rfl rfl (lb hb4333) (q_index_ro sl32 rfl rfl rfl h4335) rfl ?_
          refine WPL.qg rfl rfl (lb hb4333) (q_load_sc sc35 rfl) rfl ?_
          refine WPL.qg rfl rfl (lb hb4333) (q_eql rfl rfl) rfl ?_
          refine WPL.q (q_pickT (v := .lit (.bool _)) (lb hb4333) rfl) rfl ?_
          refine WPL.q (q_mv (v := .lit (.bool _)) rfl) rfl ?_
          refine WPL.split (t := 41) (b := (decide (x4335 = 0))) rfl (fun hb4335 => ?_) (fun hb4335 => ?_)
          · replace H := cnt hb4335 H
            refine WPL.qg rfl rfl (lb hb4335) (q_mv (v := .ro _ _ _) rfl) rfl ?_
            obtain ⟨x4337, h4337, H⟩ := bnd H
            refine WPL.qg rfl rfl (lb hb4335) (q_index_ro sl32 rfl rfl rfl h4337) rfl ?_
            refine WPL.qg rfl rfl (lb hb4335) (q_load_sc sc35 rfl) rfl ?_
            refine WPL.qg rfl rfl (lb hb4335) (q_eql rfl rfl) rfl ?_
            refine WPL.q (q_pickT (v := .lit (.bool _)) (lb hb4335) rfl) rfl ?_
            refine WPL.q (q_mv (v := .lit (.bool _)) rfl) rfl ?_
            refine WPL.split (t := 47) (b := (decide (x4337 = 6))) rfl (fun hb4337 => ?_) (fun hb4337 => ?_)
            · replace H := cnt hb4337 H
              refine WPL.qg rfl rfl (lb hb4337) (q_mv (v := .ro _ _ _) rfl) rfl ?_
              obtain ⟨x4339, h4339, H⟩ := bnd H
              refine WPL.qg rfl rfl (lb hb4337) (q_index_ro sl32 rfl rfl rfl h4339) rfl ?_
              refine WPL.qg rfl rfl (lb hb4337) (q_load_sc sc35 rfl) rfl ?_
              refine WPL.qg rfl rfl (lb hb4337) (q_eql rfl rfl) rfl ?_
              refine WPL.q (q_pickT (v := .lit (.bool _)) (lb hb4337) rfl) rfl ?_
              refine WPL.q (q_mv (v := .lit (.bool _)) rfl) rfl ?_
              refine WPL.split (t := 53) (b := (decide (x4339 = 7))) rfl (fun hb4339 => ?_) (fun hb4339 => ?_)
              · replace H := cnt hb4339 H
                refine WPL.qg rfl rfl (lb hb4339) (q_mv (v := .lit (.int _ _)) rfl) rfl ?_
                refine WPL.qg rfl rfl (lb hb4339) (q_eql rfl rfl) rfl ?_
                refine WPL.q (q_pickT (v := .lit (.bool _)) (lb hb4339) rfl) rfl ?_
                refine WPL.q (q_mv (v := .lit (.bool _)) rfl) rfl ?_
                refine WPL.split (t := 57) (b := (decide (x4303 = 11))) rfl (fun hb4340 => ?_) (fun hb4340 => ?_)
                · replace H := cnt hb4340 H
                  refine WPL.qg rfl rfl (lb hb4340) (q_mv (v := .lit (.int _ _)) rfl) rfl ?_
                  refine WPL.qg rfl rfl (lb hb4340) (q_eql rfl rfl) rfl ?_
                  refine WPL.q (q_pickT (v := .lit (.bool _)) (lb hb4340) rfl) rfl ?_
                  refine WPL.q (q_mv (v := .lit (.bool _)) rfl) rfl ?_
                  refine WPL.split (t := 61) (b := (decide (x4306 = 0))) rfl (fun hb4341 => ?_) (fun hb4341 => ?_)
                  · replace H := cnt hb4341 H
                    refine WPL.qg rfl rfl (lb hb4341) (q_mv (v := .ro _ _ _) rfl) rfl ?_
                    refine WPL.qg rfl rfl (lb hb4341) (q_len_ro sl22 rfl) rfl ?_
                    obtain ⟨x4343, h4343, H⟩ := bnd H
                    refine WPL.qg rfl rfl (lb hb4341) (q_nm (q_eql rfl rfl) (nm_bool h4343)) rfl ?_
                    refine WPL.q (q_pickT (v := .lit (.bool _)) (lb hb4341) rfl) rfl ?_
                    refine WPL.q (q_mv (v := .lit (.bool _)) rfl) rfl ?_
                    refine WPL.split (t := 66) (b := x4343) rfl (fun hb4343 => ?_) (fun hb4343 => ?_)
                    · replace H := cnt hb4343 H
                      refine WPL.qg rfl rfl (lb hb4343) (q_mv (v := .ro _ _ _) rfl) rfl ?_
                      obtain ⟨x4345, h4345, H⟩ := bnd H
                      refine WPL.qg rfl rfl (lb hb4343) (q_index_ro sl22 rfl rfl rfl h4345) rfl ?_
                      refine WPL.qg rfl rfl (lb hb4343) (q_load_sc sc3 rfl) rfl ?_
                      refine WPL.qg rfl rfl (lb hb4343) (q_eql rfl rfl) rfl ?_
                      refine WPL.q (q_pickT (v := .lit (.bool _)) (lb hb4343) rfl) rfl ?_
                      refine WPL.q (q_mv (v := .lit (.bool _)) rfl) rfl ?_
                      refine WPL.split (t := 72) (b := (decide (x4345 = 1))) rfl (fun hb4345 => ?_) (fun hb4345 => ?_)
                      · replace H := cnt hb4345 H
                        refine WPL.qg rfl rfl (lb hb4345) (q_mv (v := .ro _ _ _) rfl) rfl ?_
                        obtain ⟨x4347, h4347, H⟩ := bnd H
                        refine WPL.qg rfl rfl (lb hb4345) (q_index_ro sl22 rfl rfl rfl h4347) rfl ?_
                        refine WPL.qg rfl rfl (lb hb4345) (q_load_sc sc3 rfl) rfl ?_
                        refine WPL.qg rfl rfl (lb hb4345) (q_eql rfl rfl) rfl ?_
                        refine WPL.q (q_pickT (v := .lit (.bool _)) (lb hb4345) rfl) rfl ?_
                        refine WPL.q (q_mv (v := .lit (.bool _)) rfl) rfl ?_
                        refine WPL.split (t := 78) (b := (decide (x4347 = 2))) rfl (fun hb4347 => ?_) (fun hb4347 => ?_)
                        · replace H := cnt hb4347 H
                          refine WPL.qg rfl rfl (lb hb4347) (q_mv (v := .ro _ _ _) rfl) rfl ?_
                          obtain ⟨x4349, h4349, H⟩ := bnd H
                          refine WPL.qg rfl rfl (lb hb4347) (q_index_ro sl22 rfl rfl rfl h4349) rfl ?_
                          refine WPL.qg rfl rfl (lb hb4347) (q_load_sc sc3 rfl) rfl ?_
                          refine WPL.qg rfl rfl (lb hb4347) (q_eql rfl rfl) rfl ?_
                          refine WPL.q (q_pickT (v := .lit (.bool _)) (lb hb4347) rfl) rfl ?_
                          refine WPL.q (q_mv (v := .lit (.bool _)) rfl) rfl ?_
                          refine WPL.split (t := 84) (b := (decide (x4349 = 2))) rfl (fun hb4349 => ?_) (fun hb4349 => ?_)
                          · replace H := cnt hb4349 H
                            refine WPL.qg rfl rfl (lb hb4349) (q_mv (v := .ro _ _ _) rfl) rfl ?_
                            obtain ⟨x4351, h4351, H⟩ := bnd H
                            refine WPL.qg rfl rfl (lb hb4349) (q_index_ro sl22 rfl rfl rfl h4351) rfl ?_
                            refine WPL.qg rfl rfl (lb hb4349) (q_load_sc sc3 rfl) rfl ?_
                            refine WPL.qg rfl rfl (lb hb4349) (q_eql rfl rfl) rfl ?_
                            refine WPL.q (q_pickT (v := .lit (.bool _)) (lb hb4349) rfl) rfl ?_
                            refine WPL.q (q_as (v := .lit (.bool _)) rfl) rfl ?_
                            refine WPL.nilW ?_
                            refine W.cv (Cv.weak (E' := (Env.none.upd 0 (.lit (.bool (decide (x4351 = 0)))))) (M' := Mem.nil) [] hnp ⟨rfl, trivial, by decide, rfl, trivial⟩ (LeE.upd rfl rfl (LeE.none rfl rfl))) rfl ?_
                            refine W.now ?_
                            have q0 := (Option.some.inj H)
                            subst q0
                            exact ⟨rfl, rfl, rfl⟩
                          · replace H := cnf hb4349 H
                            refine WPL.skipg (b' := false) rfl rfl (lb hb4349) rfl rfl ?_
                            refine WPL.skipg (b' := false) rfl rfl (lb hb4349) rfl rfl ?_
                            refine WPL.skipg (b' := false) rfl rfl (lb hb4349) rfl rfl ?_
                            refine WPL.skipg (b' := false) rfl rfl (lb hb4349) rfl rfl ?_
                            refine WPL.q (q_pickF (v := .lit (.bool _)) (lb hb4349) rfl) rfl ?_
                            refine WPL.q (q_as (v := .lit (.bool _)) rfl) rfl ?_
                            refine WPL.nilW ?_
                            refine W.cv (Cv.weak (E' := (Env.none.upd 0 (.lit (.bool false)))) (M' := Mem.nil) [] hnp ⟨rfl, trivial, by decide, rfl, trivial⟩ (LeE.upd rfl rfl (LeE.none rfl rfl))) rfl ?_
                            refine W.now ?_
                            have q0 := (Option.some.inj H)
                            subst q0
                            exact ⟨rfl, rfl, rfl⟩
                        · replace H := cnf hb4347 H
                          refine WPL.skipg (b' := false) rfl rfl (lb hb4347) rfl rfl ?_
                          refine WPL.skipg (b' := false) rfl rfl (lb hb4347) rfl rfl ?_
                          refine WPL.skipg (b' := false) rfl rfl (lb hb4347) rfl rfl ?_
                          refine WPL.skipg (b' := false) rfl rfl (lb hb4347) rfl rfl ?_
                          refine WPL.q (q_pickF (v := .lit (.bool _)) (lb hb4347) rfl) rfl ?_
                          refine WPL.q (q_mv (v := .lit (.bool _)) rfl) rfl ?_
                          refine WPL.skipg (b' := false) rfl rfl rfl rfl rfl ?_
                          refine WPL.skipg (b' := false) rfl rfl rfl rfl rfl ?_
                          refine WPL.skipg (b' := false) rfl rfl rfl rfl rfl ?_
                          refine WPL.skipg (b' := false) rfl rfl rfl rfl rfl ?_
                          refine WPL.q (q_pickF (v := .lit (.bool _)) rfl rfl) rfl ?_
                          refine WPL.q (q_as (v := .lit (.bool _)) rfl) rfl ?_
                          refine WPL.nilW ?_
                          refine W.cv (Cv.weak (E' := (Env.none.upd 0 (.lit (.bool false)))) (M' := Mem.nil) [] hnp ⟨rfl, trivial, by decide, rfl, trivial⟩ (LeE.upd rfl rfl (LeE.none rfl rfl))) rfl ?_
                          refine W.now ?_
                          have q0 := (Option.some.inj H)
                          subst q0
                          exact ⟨rfl, rfl, rfl⟩
                      · replace H := cnf hb4345 H
                        refine WPL.skipg (b' := false) rfl rfl (lb hb4345) rfl rfl ?_
                        refine WPL.skipg (b' := false) rfl rfl (lb hb4345) rfl rfl ?_
                        refine WPL.skipg (b' := false) rfl rfl (lb hb4345) rfl rfl ?_
                        refine WPL.skipg (b' := false) rfl rfl (lb hb4345) rfl rfl ?_
                        refine WPL.q (q_pickF (v := .lit (.bool _)) (lb hb4345) rfl) rfl ?_
                        refine WPL.q (q_mv (v := .lit (.bool _)) rfl) rfl ?_
                        refine WPL.skipg (b' := false) rfl rfl rfl rfl rfl ?_
                        refine WPL.skipg (b' := false) rfl rfl rfl rfl rfl ?_
                        refine WPL.skipg (b' := false) rfl rfl rfl rfl rfl ?_
                        refine WPL.skipg (b' := false) rfl rfl rfl rfl rfl ?_
                        refine WPL.q (q_pickF (v := .lit (.bool _)) rfl rfl) rfl ?_
                        refine WPL.q (q_mv (v := .lit (.bool _)) rfl) rfl ?_
                        refine WPL.skipg (b' := false) rfl rfl rfl rfl rfl ?_
                        refine WPL.skipg (b' := false) rfl rfl rfl rfl rfl ?_
                        refine WPL.skipg (b' := false) rfl rfl rfl rfl rfl ?_
                        refine WPL.skipg (b' := false) rfl rfl rfl rfl rfl ?_
                        refine WPL.q (q_pickF (v := .lit (.bool _)) rfl rfl) rfl ?_
                        refine WPL.q (q_as (v := .lit (.bool _)) rfl) rfl ?_
                        refine WPL.nilW ?_
                        refine W.cv (Cv.weak (E' := (Env.none.upd 0 (.lit (.bool false)))) (M' := Mem.nil) [] hnp ⟨rfl, trivial, by decide, rfl, trivial⟩ (LeE.upd rfl rfl (LeE.none rfl rfl))) rfl ?_
                        refine W.now ?_
                        have q0 := (Option.some.inj H)
                        subst q0
                        exact ⟨rfl, rfl, rfl⟩
                    · replace H := cnf hb4343 H
                      refine WPL.skipg (b' := false) rfl rfl (lb hb4343) rfl rfl ?_
                      refine WPL.skipg (b' := false) rfl rfl (lb hb4343) rfl rfl ?_
                      refine WPL.skipg (b' := false) rfl rfl (lb hb4343) rfl rfl ?_
                      refine WPL.skipg (b' := false) rfl rfl (lb hb4343) rfl rfl ?_
                      refine WPL.q (q_pickF (v := .lit (.bool _)) (lb hb4343) rfl) rfl ?_
                      refine WPL.q (q_mv (v := .lit (.bool _)) rfl) rfl ?_
                      refine WPL.skipg (b' := false) rfl rfl rfl rfl rfl ?_
                      refine WPL.skipg (b' := false) rfl rfl rfl rfl rfl ?_
                      refine WPL.skipg (b' := false) rfl rfl rfl rfl rfl ?_
                      refine WPL.skipg (b' := false) rfl rfl rfl rfl rfl ?_
                      refine WPL.q (q_pickF (v := .lit (.bool _)) rfl rfl) rfl ?_
                      refine WPL.q (q_mv (v := .lit (.bool _)) rfl) rfl ?_
                      refine WPL.skipg (b' := false) rfl rfl rfl rfl rfl ?_
                      refine WPL.skipg (b' := false) rfl rfl rfl rfl rfl ?_
                      refine WPL.skipg (b' := false) rfl rfl rfl rfl rfl ?_
                      refine WPL.skipg (b' := false) rfl rfl rfl rfl rfl ?_
                      refine WPL.q (q_pickF (v := .lit (.bool _)) rfl rfl) rfl ?_
                      refine WPL.q (q_mv (v := .lit (.bool _)) rfl) rfl ?_
                      refine WPL.skipg (b' := false) rfl rfl rfl rfl rfl ?_
                      refine WPL.skipg (b' := false) rfl rfl rfl rfl rfl ?_
                      refine WPL.skipg (b' := false) rfl rfl rfl rfl rfl ?_
                      refine WPL.skipg (b' := false) rfl rfl rfl rfl rfl ?_
                      refine WPL.q (q_pickF (v := .lit (.bool _)) rfl rfl) rfl ?_
                      refine WPL.q (q_as (v := .lit (.bool _)) rfl) rfl ?_
                      refine WPL.nilW ?_
                      refine W.cv (Cv.weak (E' := (Env.none.upd 0 (.lit (.bool false)))) (M' := Mem.nil) [] hnp ⟨rfl, trivial, by decide, rfl, trivial⟩ (LeE.upd rfl rfl (LeE.none rfl rfl))) rfl ?_
                      refine W.now ?_
                      have q0 := (Option.some.inj H)
                      subst q0
                      exact ⟨rfl, rfl, rfl⟩
                  · replace H := cnf hb4341 H
                    refine WPL.skipg (b' := false) rfl rfl (lb hb4341) rfl rfl ?_
                    refine WPL.skipg (b' := false) rfl rfl (lb hb4341) rfl rfl ?_
                    refine WPL.skipg (b' := false) rfl rfl (lb hb4341) rfl rfl ?_
                    refine WPL.q (q_pickF (v := .lit (.bool _)) (lb hb4341) rfl) rfl ?_
                    refine WPL.q (q_mv (v := .lit (.bool _)) rfl) rfl ?_
                    refine WPL.skipg (b' := false) rfl rfl rfl rfl rfl ?_
                    refine WPL.skipg (b' := false) rfl rfl rfl rfl rfl ?_
                    refine WPL.skipg (b' := false) rfl rfl rfl rfl rfl ?_
                    refine WPL.skipg (b' := false) rfl rfl rfl rfl rfl ?_
                    refine WPL.q (q_pickF (v := .lit (.bool _)) rfl rfl) rfl ?_
                    refine WPL.q (q_mv (v := .lit (.bool _)) rfl) rfl ?_
                    refine WPL.skipg (b' := false) rfl rfl rfl rfl rfl ?_
                    refine WPL.skipg (b' := false) rfl rfl rfl rfl rfl ?_
                    refine WPL.skipg (b' := false) rfl rfl rfl rfl rfl ?_
                    refine WPL.skipg (b' := false) rfl rfl rfl rfl rfl ?_
                    refine WPL.q (q_pickF (v := .lit (.bool _)) rfl rfl) rfl ?_
                    refine WPL.q (q_mv (v := .lit (.bool _)) rfl) rfl ?_
                    refine WPL.skipg (b' := false) rfl rfl rfl rfl rfl ?_
                    refine WPL.skipg (b' := false) rfl rfl rfl rfl rfl ?_
                    refine WPL.skipg (b' := false) rfl rfl rfl rfl rfl ?_
                    refine WPL.skipg (b' := false) rfl rfl rfl rfl rfl ?_
                    refine WPL.q (q_pickF (v := .lit (.bool _)) rfl rfl) rfl ?_
                    refine WPL.q (q_mv (v := .lit (.bool _)) rfl) rfl ?_
                    refine WPL.skipg (b' := false) rfl rfl rfl rfl rfl ?_
                    refine WPL.skipg (b' := false) rfl rfl rfl rfl rfl ?_
                    refine WPL.skipg (b' := false) rfl rfl rfl rfl rfl ?_
                    refine WPL.skipg (b' := false) rfl rfl rfl rfl rfl ?_
                    refine WPL.q (q_pickF (v := .lit (.bool _)) rfl rfl) rfl ?_
                    refine WPL.q (q_as (v := .lit (.bool _)) rfl) rfl ?_
                    refine WPL.nilW ?_
                    refine W.cv (Cv.weak (E' := (Env.none.upd 0 (.lit (.bool false)))) (M' := Mem.nil) [] hnp ⟨rfl, trivial, by decide, rfl, trivial⟩ (LeE.upd rfl rfl (LeE.none rfl rfl))) rfl ?_
                    refine W.now ?_
                    have q0 := (Option.some.inj H)
                    subst q0
                    exact ⟨rfl, rfl, rfl⟩
                · replace H := cnf hb4340 H
                  refine WPL.skipg (b' := false) rfl rfl (lb hb4340) rfl rfl ?_
                  refine WPL.skipg (b' := false) rfl rfl (lb hb4340) rfl rfl ?_
                  refine WPL.q (q_pickF (v := .lit (.bool _)) (lb hb4340) rfl) rfl ?_
                  refine WPL.q (q_mv (v := .lit (.bool _)) rfl) rfl ?_
                  refine WPL.skipg (b' := false) rfl rfl rfl rfl rfl ?_
                  refine WPL.skipg (b' := false) rfl rfl rfl rfl rfl ?_
                  refine WPL.skipg (b' := false) rfl rfl rfl rfl rfl ?_
                  refine WPL.q (q_pickF (v := .lit (.bool _)) rfl rfl) rfl ?_
                  refine WPL.q (q_mv (v := .lit (.bool _)) rfl) rfl ?_
                  refine WPL.skipg (b' := false) rfl rfl rfl rfl rfl ?_
                  refine WPL.skipg (b' := false) rfl rfl rfl rfl rfl ?_
                  refine WPL.skipg (b' := false) rfl rfl rfl rfl rfl ?_
                  refine WPL.skipg (b' := false) rfl rfl rfl rfl rfl ?_
                  refine WPL.q (q_pickF (v := .lit (.bool _)) rfl rfl) rfl ?_
                  refine WPL.q (q_mv (v := .lit (.bool _)) rfl) rfl ?_
                  refine WPL.skipg (b' := false) rfl rfl rfl rfl rfl ?_
                  refine WPL.skipg (b' := false) rfl rfl rfl rfl rfl ?_
                  refine WPL.skipg (b' := false) rfl rfl rfl rfl rfl ?_
                  refine WPL.skipg (b' := false) rfl rfl rfl rfl rfl ?_
                  refine WPL.q (q_pickF (v := .lit (.bool _)) rfl rfl) rfl ?_
                  refine WPL.q (q_mv (v := .lit (.bool _)) rfl) rfl ?_
                  refine WPL.skipg (b' := false) rfl rfl rfl rfl rfl ?_
                  refine WPL.skipg (b' := false) rfl rfl rfl rfl rfl ?_
                  refine WPL.skipg (b' := false) rfl rfl rfl rfl rfl ?_
                  refine WPL.skipg (b' := false) rfl rfl rfl rfl rfl ?_
                  refine WPL.q (q_pickF (v := .lit (.bool _)) rfl rfl) rfl ?_
                  refine WPL.q (q_mv (v := .lit (.bool _)) rfl) rfl ?_
                  refine WPL.skipg (b' := false) rfl rfl rfl rfl rfl ?_
                  refine WPL.skipg (b' := false) rfl rfl rfl rfl rfl ?_
                  refine WPL.skipg (b' := false) rfl rfl rfl rfl rfl ?_
                  refine WPL.skipg (b' := false) rfl rfl rfl rfl rfl ?_
                  refine WPL.q (q_pickF (v := .lit (.bool _)) rfl rfl) rfl ?_
                  refine WPL.q (q_as (v := .lit (.bool _)) rfl) rfl ?_
                  refine WPL.nilW ?_
                  refine W.cv (Cv.weak (E' := (Env.none.upd 0 (.lit (.bool false)))) (M' := Mem.nil) [] hnp ⟨rfl, trivial, by decide, rfl, trivial⟩ (LeE.upd rfl rfl (LeE.none rfl rfl))) rfl ?_
                  refine W.now ?_
                  have q0 := (Option.some.inj H)
                  subst q0
                  exact ⟨rfl, rfl, rfl⟩
              · replace H := cnf hb4339 H
                refine WPL.skipg (b' := false) rfl rfl (lb hb4339) rfl rfl ?_
                refine WPL.skipg (b' := false) rfl rfl (lb hb4339) rfl rfl ?_
                refine WPL.q (q_pickF (v := .lit (.bool _)) (lb hb4339) rfl) rfl ?_
                refine WPL.q (q_mv (v := .lit (.bool _)) rfl) rfl ?_
                refine WPL.skipg (b' := false) rfl rfl rfl rfl rfl ?_
                refine WPL.skipg (b' := false) rfl rfl rfl rfl rfl ?_
                refine WPL.q (q_pickF (v := .lit (.bool _)) rfl rfl) rfl ?_
                refine WPL.q (q_mv (v := .lit (.bool _)) rfl) rfl ?_
                refine WPL.skipg (b' := false) rfl rfl rfl rfl rfl ?_
                refine WPL.skipg (b' := false) rfl rfl rfl rfl rfl ?_
                refine WPL.skipg (b' := false) rfl rfl rfl rfl rfl ?_
                refine WPL.q (q_pickF (v := .lit (.bool _)) rfl rfl) rfl ?_
                refine WPL.q (q_mv (v := .lit (.bool _)) rfl) rfl ?_
                refine WPL.skipg (b' := false) rfl rfl rfl rfl rfl ?_
                refine WPL.skipg (b' := false) rfl rfl rfl rfl rfl ?_
                refine WPL.skipg (b' := false) rfl rfl rfl rfl rfl ?_
                refine WPL.skipg (b' := false) rfl rfl rfl rfl rfl ?_
                refine WPL.q (q_pickF (v := .lit (.bool _)) rfl rfl) rfl ?_
                refine WPL.q (q_mv (v := .lit (.bool _)) rfl) rfl ?_
                refine WPL.skipg (b' := false) rfl rfl rfl rfl rfl ?_
                refine WPL.skipg (b' := false) rfl rfl rfl rfl rfl ?_
                refine WPL.skipg (b' := false) rfl rfl rfl rfl rfl ?_
                refine WPL.skipg (b' := false) rfl rfl rfl rfl rfl ?_
                refine WPL.q (q_pickF (v := .lit (.bool _)) rfl rfl) rfl ?_
                refine WPL.q (q_mv (v := .lit (.bool _)) rfl) rfl ?_
                refine WPL.skipg (b' := false) rfl rfl rfl rfl rfl ?_
                refine WPL.skipg (b' := false) rfl rfl rfl rfl rfl ?_
                refine WPL.skipg (b' := false) rfl rfl rfl rfl rfl ?_
                refine WPL.skipg (b' := false) rfl rfl rfl rfl rfl ?_
                refine WPL.q (q_pickF (v := .lit (.bool _)) rfl rfl) rfl ?_
                refine WPL.q (q_mv (v := .lit (.bool _)) rfl) rfl ?_
                refine WPL.skipg (b' := false) rfl rfl rfl rfl rfl ?_
                refine WPL.skipg (b' := false) rfl rfl rfl rfl rfl ?_
                refine WPL.skipg (b' := false) rfl rfl rfl rfl rfl ?_
                refine WPL.skipg (b' := false) rfl rfl rfl rfl rfl ?_
                refine WPL.q (q_pickF (v := .lit (.bool _)) rfl rfl) rfl ?_
                refine WPL.q (q_as (v := .lit (.bool _)) rfl) rfl ?_
                refine WPL.nilW ?_
                refine W.cv (Cv.weak (E' := (Env.none.upd 0 (.lit (.bool false)))) (M' := Mem.nil) [] hnp ⟨rfl, trivial, by decide, rfl, trivial⟩ (LeE.upd rfl rfl (LeE.none rfl rfl))) rfl ?_
                refine W.now ?_
                have q0 := (Option.some.inj H)
                subst q0
                exact ⟨rfl, rfl, rfl⟩
            · replace H := cnf hb4337 H
              refine WPL.skipg (b' := false) rfl rfl (lb hb4337) rfl rfl ?_
              refine WPL.skipg (b' := false) rfl rfl (lb hb4337) rfl rfl ?_
              refine WPL.skipg (b' := false) rfl rfl (lb hb4337) rfl rfl ?_
              refine WPL.skipg (b' := false) rfl rfl (lb hb4337) rfl rfl ?_
              refine WPL.q (q_pickF (v := .lit (.bool _)) (lb hb4337) rfl) rfl ?_
              refine WPL.q (q_mv (v := .lit (.bool _)) rfl) rfl ?_
              refine WPL.skipg (b' := false) rfl rfl rfl rfl rfl ?_
              refine WPL.skipg (b' := false) rfl rfl rfl rfl rfl ?_
              refine WPL.q (q_pickF (v := .lit (.bool _)) rfl rfl) rfl ?_
              refine WPL.q (q_mv (v := .lit (.bool _)) rfl) rfl ?_
              refine WPL.skipg (b' := false) rfl rfl rfl rfl rfl ?_
              refine WPL.skipg (b' := false) rfl rfl rfl rfl rfl ?_
              refine WPL.q (q_pickF (v := .lit (.bool _)) rfl rfl) rfl ?_
              refine WPL.q (q_mv (v := .lit (.bool _)) rfl) rfl ?_
              refine WPL.skipg (b' := false) rfl rfl rfl rfl rfl ?_
              refine WPL.skipg (b' := false) rfl rfl rfl rfl rfl ?_
              refine WPL.skipg (b' := false) rfl rfl rfl rfl rfl ?_
              refine WPL.q (q_pickF (v := .lit (.bool _)) rfl rfl) rfl ?_
              refine WPL.q (q_mv (v := .lit (.bool _)) rfl) rfl ?_
              refine WPL.skipg (b' := false) rfl rfl rfl rfl rfl ?_
              refine WPL.skipg (b' := false) rfl rfl rfl rfl rfl ?_
              refine WPL.skipg (b' := false) rfl rfl rfl rfl rfl ?_
              refine WPL.skipg (b' := false) rfl rfl rfl rfl rfl ?_
              refine WPL.q (q_pickF (v := .lit (.bool _)) rfl rfl) rfl ?_
              refine WPL.q (q_mv (v := .lit (.bool _)) rfl) rfl ?_
              refine WPL.skipg (b' := false) rfl rfl rfl rfl rfl ?_
              refine WPL.skipg (b' := false) rfl rfl rfl rfl rfl ?_
              refine WPL.skipg (b' := false) rfl rfl rfl rfl rfl ?_
              refine WPL.skipg (b' := false) rfl rfl rfl rfl rfl ?_
              refine WPL.q (q_pickF (v := .lit (.bool _)) rfl rfl) rfl ?_
              refine WPL.q (q_mv (v := .lit (.bool _)) rfl) rfl ?_
              refine WPL.skipg (b' := false) rfl rfl rfl rfl rfl ?_
              refine WPL.skipg (b' := false) rfl rfl rfl rfl rfl ?_
              refine WPL.skipg (b' := false) rfl rfl rfl rfl rfl ?_
              refine WPL.skipg (b' := false) rfl rfl rfl rfl rfl ?_
              refine WPL.q (q_pickF (v := .lit (.bool _)) rfl rfl) rfl ?_
              refine WPL.q (q_mv (v := .lit (.bool _)) rfl) rfl ?_
              refine WPL.skipg (b' := false) rfl rfl rfl rfl rfl ?_
              refine WPL.skipg (b' := false) rfl rfl rfl rfl rfl ?_
              refine WPL.skipg (b' := false) rfl rfl rfl rfl rfl ?_
              refine WPL.skipg (b' := false) rfl rfl rfl rfl rfl ?_
              refine WPL.q (q_pickF (v := .lit (.bool _)) rfl rfl) rfl ?_
              refine WPL.q (q_as (v := .lit (.bool _)) rfl) rfl ?_
              refine WPL.nilW ?_
              refine W.cv (Cv.weak (E' := (Env.none.upd 0 (.lit (.bool false)))) (M' := Mem.nil) [] hnp ⟨rfl, trivial, by decide, rfl, trivial⟩ (LeE.upd rfl rfl (LeE.none rfl rfl))) rfl ?_
              refine W.now ?_
              have q0 := (Option.some.inj H)
              subst q0
              exact ⟨rfl, rfl, rfl⟩
          · replace H := cnf hb4335 H
            refine WPL.skipg (b' := false) rfl rfl (lb hb4335) rfl rfl ?_
            refine WPL.skipg (b' := false) rfl rfl (lb hb4335) rfl rfl ?_
            refine WPL.skipg (b' := false) rfl rfl (lb hb4335) rfl rfl ?_
            refine WPL.skipg (b' := false) rfl rfl (lb hb4335) rfl rfl ?_
            refine WPL.q (q_pickF (v := .lit (.bool _)) (lb hb4335) rfl) rfl ?_
            refine WPL.q (q_mv (v := .lit (.bool _)) rfl) rfl ?_
            refine WPL.skipg (b' := false) rfl rfl rfl rfl rfl ?_
            refine WPL.skipg (b' := false) rfl rfl rfl rfl rfl ?_
            refine WPL.skipg (b' := false) rfl rfl rfl rfl rfl ?_
            refine WPL.skipg (b' := false) rfl rfl rfl rfl rfl ?_
            refine WPL.q (q_pickF (v := .lit (.bool _)) rfl rfl) rfl ?_
            refine WPL.q (q_mv (v := .lit (.bool _)) rfl) rfl ?_
            refine WPL.skipg (b' := false) rfl rfl rfl rfl rfl ?_
            refine WPL.skipg (b' := false) rfl rfl rfl rfl rfl ?_
            refine WPL.q (q_pickF (v := .lit (.bool _)) rfl rfl) rfl ?_
            refine WPL.q (q_mv (v := .lit (.bool _)) rfl) rfl ?_
            refine WPL.skipg (b' := false) rfl rfl rfl rfl rfl ?_
            refine WPL.skipg (b' := false) rfl rfl rfl rfl rfl ?_
            refine WPL.q (q_pickF (v := .lit (.bool _)) rfl rfl) rfl ?_
            refine WPL.q (q_mv (v := .lit (.bool _)) rfl) rfl ?_
            refine WPL.skipg (b' := false) rfl rfl rfl rfl rfl ?_
            refine WPL.skipg (b' := false) rfl rfl rfl rfl rfl ?_
            refine WPL.skipg (b' := false) rfl rfl rfl rfl rfl ?_
            refine WPL.q (q_pickF (v := .lit (.bool _)) rfl rfl) rfl ?_
            refine WPL.q (q_mv (v := .lit (.bool _)) rfl) rfl ?_
            refine WPL.skipg (b' := false) rfl rfl rfl rfl rfl ?_
            refine WPL.skipg (b' := false) rfl rfl rfl rfl rfl ?_
            refine WPL.skipg (b' := false) rfl rfl rfl rfl rfl ?_
            refine WPL.skipg (b' := false) rfl rfl rfl rfl rfl ?_
            refine WPL.q (q_pickF (v := .lit (.bool _)) rfl rfl) rfl ?_
            refine WPL.q (q_mv (v := .lit (.bool _)) rfl) rfl ?_
            refine WPL.skipg (b' := false) rfl rfl rfl rfl rfl ?_
            refine WPL.skipg (b' := false) rfl rfl rfl rfl rfl ?_
            refine WPL.skipg (b' := false) rfl rfl rfl rfl rfl ?_
            refine WPL.skipg (b' := false) rfl rfl rfl rfl rfl ?_
            refine WPL.q (q_pickF (v := .lit (.bool _)) rfl rfl) rfl ?_
            refine WPL.q (q_mv (v := .lit (.bool _)) rfl) rfl ?_
            refine WPL.skipg (b' := false) rfl rfl rfl rfl rfl ?_
            refine WPL.skipg (b' := false) rfl rfl rfl rfl rfl ?_
            refine WPL.skipg (b' := false) rfl rfl rfl rfl rfl ?_
            refine WPL.skipg (b' := false) rfl rfl rfl rfl rfl ?_
            refine WPL.q (q_pickF (v := .lit (.bool _)) rfl rfl) rfl ?_
            refine WPL.q (q_mv (v := .lit (.bool _)) rfl) rfl ?_
            refine WPL.skipg (b' := false) rfl rfl rfl rfl rfl ?_
            refine WPL.skipg (b' := false) rfl rfl rfl rfl rfl ?_
            refine WPL.skipg (b' := false) rfl rfl rfl rfl rfl ?_
            refine WPL.skipg (b' := false) rfl rfl rfl rfl rfl ?_
            refine WPL.q (q_pickF (v := .lit (.bool _)) rfl rfl) rfl ?_
            refine WPL.q (q_as (v := .lit (.bool _)) rfl) rfl ?_
            refine WPL.nilW ?_
            refine W.cv (Cv.weak (E' := (Env.none.upd 0 (.lit (.bool false)))) (M' := Mem.nil) [] hnp ⟨rfl, trivial, by decide, rfl, trivial⟩ (LeE.upd rfl rfl (LeE.none rfl rfl))) rfl ?_
            refine W.now ?_
            have q0 := (Option.some.inj H)
            subst q0
            exact ⟨rfl, rfl, rfl⟩
        · replace H := cnf hb4333 H
          refine WPL.skipg (b' := false) rfl rfl (lb hb4333) rfl rfl ?_
          refine WPL.skipg (b' := false) rfl rfl (lb hb4333) rfl rfl ?_
          refine WPL.skipg (b' := false) rfl rfl (lb hb4333) rfl rfl ?_
          refine WPL.skipg (b' := false) rfl rfl (lb hb4333) rfl rfl ?_
          refine WPL.q (q_pickF (v := .lit (.bool _)) (lb hb4333) rfl) rfl ?_
          refine WPL.q (q_mv (v := .lit (.bool _)) rfl) rfl ?_
          refine WPL.skipg (b' := false) rfl rfl rfl rfl rfl ?_
          refine WPL.skipg (b' := false) rfl rfl rfl rfl rfl ?_
          refine WPL.skipg (b' := false) rfl rfl rfl rfl rfl ?_
          refine WPL.skipg (b' := false) rfl rfl rfl rfl rfl ?_
          refine WPL.q (q_pickF (v := .lit (.bool _)) rfl rfl) rfl ?_
          refine WPL.q (q_mv (v := .lit (.bool _)) rfl) rfl ?_
          refine WPL.skipg (b' := false) rfl rfl rfl rfl rfl ?_
          refine WPL.skipg (b' := false) rfl rfl rfl rfl rfl ?_
          refine WPL.skipg (b' := false) rfl rfl rfl rfl rfl ?_
          refine WPL.skipg (b' := false) rfl rfl rfl rfl rfl ?_
          refine WPL.q (q_pickF (v := .lit (.bool _)) rfl rfl) rfl ?_
          refine WPL.q (q_mv (v := .lit (.bool _)) rfl) rfl ?_
          refine WPL.skipg (b' := false) rfl rfl rfl rfl rfl ?_
          refine WPL.skipg (b' := false) rfl rfl rfl rfl rfl ?_
          refine WPL.q (q_pickF (v := .lit (.bool _)) rfl rfl) rfl ?_
          refine WPL.q (q_mv (v := .lit (.bool _)) rfl) rfl ?_
          refine WPL.skipg (b' := false) rfl rfl rfl rfl rfl ?_
          refine WPL.skipg (b' := false) rfl rfl rfl rfl rfl ?_
          refine WPL.q (q_pickF (v := .lit (.bool _)) rfl rfl) rfl ?_
          refine WPL.q (q_mv (v := .lit (.bool _)) rfl) rfl ?_
          refine WPL.skipg (b' := false) rfl rfl rfl rfl rfl ?_
          refine WPL.skipg (b' := false) rfl rfl rfl rfl rfl ?_
          refine WPL.skipg (b' := false) rfl rfl rfl rfl rfl ?_
          refine WPL.q (q_pickF (v := .lit (.bool _)) rfl rfl) rfl ?_
          refine WPL.q (q_mv (v := .lit (.bool _)) rfl) rfl ?_
          refine WPL.skipg (b' := false) rfl rfl rfl rfl rfl ?_
          refine WPL.skipg (b' := false) rfl rfl rfl rfl rfl ?_
          refine WPL.skipg (b' := false) rfl rfl rfl rfl rfl ?_
          refine WPL.skipg (b' := false) rfl rfl rfl rfl rfl ?_
          refine WPL.q (q_pickF (v := .lit (.bool _)) rfl rfl) rfl ?_
          refine WPL.q (q_mv (v := .lit (.bool _)) rfl) rfl ?_
          refine WPL.skipg (b' := false) rfl rfl rfl rfl rfl ?_
          refine WPL.skipg (b' := false) rfl rfl rfl rfl rfl ?_
          refine WPL.skipg (b' := false) rfl rfl rfl rfl rfl ?_
          refine WPL.skipg (b' := false) rfl rfl rfl rfl rfl ?_
          refine WPL.q (q_pickF (v := .lit (.bool _)) rfl rfl) rfl ?_
          refine WPL.q (q_mv (v := .lit (.bool _)) rfl) rfl ?_
          refine WPL.skipg (b' := false) rfl rfl rfl rfl rfl ?_
          refine WPL.skipg (b' := false) rfl rfl rfl rfl rfl ?_
          refine WPL.skipg (b' := false) rfl rfl rfl rfl rfl ?_
          refine WPL.skipg (b' := false) rfl rfl rfl rfl rfl ?_
          refine WPL.q (q_pickF (v := .lit (.bool _)) rfl rfl) rfl ?_
          refine WPL.q (q_mv (v := .lit (.bool _)) rfl) rfl ?_
          refine WPL.skipg (b' := false) rfl rfl rfl rfl rfl ?_
          refine WPL.skipg (b' := false) rfl rfl rfl rfl rfl ?_
          refine WPL.skipg (b' := false) rfl rfl rfl rfl rfl ?_
          refine WPL.skipg (b' := false) rfl rfl rfl rfl rfl ?_
          refine WPL.q (q_pickF (v := .lit (.bool _)) rfl rfl) rfl ?_
          refine WPL.q (q_as (v := .lit (.bool _)) rfl) rfl ?_
          refine WPL.nilW ?_
          refine W.cv (Cv.weak (E' := (Env.none.upd 0 (.lit (.bool false)))) (M' := Mem.nil) [] hnp ⟨rfl, trivial, by decide, rfl, trivial⟩ (LeE.upd rfl rfl (LeE.none rfl rfl))) rfl ?_
          refine W.now ?_
          have q0 := (Option.some.inj H)
          subst q0
          exact ⟨rfl, rfl, rfl⟩
      · replace H := cnf hb4331 H
        refine WPL.skipg (b' := false) rfl rfl (lb hb4331) rfl rfl ?_
        refine WPL.skipg (b' := false) rfl rfl (lb hb4331) rfl rfl ?_
        refine WPL.skipg (b' := false) rfl rfl (lb hb4331) rfl rfl ?_
        refine WPL.skipg (b' := false) rfl rfl (lb hb4331) rfl rfl ?_
        refine WPL.q (q_pickF (v := .lit (.bool _)) (lb hb4331) rfl) rfl ?_
        refine WPL.q (q_mv (v := .lit (.bool _)) rfl) rfl ?_
        refine WPL.skipg (b' := false) rfl rfl rfl rfl rfl ?_
        refine WPL.skipg (b' := false) rfl rfl rfl rfl rfl ?_
        refine WPL.skipg (b' := false) rfl rfl rfl rfl rfl ?_
        refine WPL.skipg (b' := false) rfl rfl rfl rfl rfl ?_
        refine WPL.q (q_pickF (v := .lit (.bool _)) rfl rfl) rfl ?_
        refine WPL.q (q_mv (v := .lit (.bool _)) rfl) rfl ?_
        refine WPL.skipg (b' := false) rfl rfl rfl rfl rfl ?_
        refine WPL.skipg (b' := false) rfl rfl rfl rfl rfl ?_
        refine WPL.skipg (b' := false) rfl rfl rfl rfl rfl ?_
        refine WPL.skipg (b' := false) rfl rfl rfl rfl rfl ?_
        refine WPL.q (q_pickF (v := .lit (.bool _)) rfl rfl) rfl ?_
        refine WPL.q (q_mv (v := .lit (.bool _)) rfl) rfl ?_
        refine WPL.skipg (b' := false) rfl rfl rfl rfl rfl ?_
        refine WPL.skipg (b' := false) rfl rfl rfl rfl rfl ?_
        refine WPL.skipg (b' := false) rfl rfl rfl rfl rfl ?_
        refine WPL.skipg (b' := false) rfl rfl rfl rfl rfl ?_
        refine WPL.q (q_pickF (v := .lit (.bool _)) rfl rfl) rfl ?_
        refine WPL.q (q_mv (v := .lit (.bool _)) rfl) rfl ?_
        refine WPL.skipg (b' := false) rfl rfl rfl rfl rfl ?_
        refine WPL.skipg (b' := false) rfl rfl rfl rfl rfl ?_
        refine WPL.q (q_pickF (v := .lit (.bool _)) rfl rfl) rfl ?_
        refine WPL.q (q_mv (v := .lit (.bool _)) rfl) rfl ?_
        refine WPL.skipg (b' := false) rfl rfl rfl rfl rfl ?_
        refine WPL.skipg (b' := false) rfl rfl rfl rfl rfl ?_
        refine WPL.q (q_pickF (v := .lit (.bool _)) rfl rfl) rfl ?_
        refine WPL.q (q_mv (v := .lit (.bool _)) rfl) rfl ?_
        refine WPL.skipg (b' := false) rfl rfl rfl rfl rfl ?_
        refine WPL.skipg (b' := false) rfl rfl rfl rfl rfl ?_
        refine WPL.skipg (b' := false) rfl rfl rfl rfl rfl ?_
        refine WPL.q (q_pickF (v := .lit (.bool _)) rfl rfl) rfl ?_
        refine WPL.q (q_mv (v := .lit (.bool _)) rfl) rfl ?_
        refine WPL.skipg (b' := false) rfl rfl rfl rfl rfl ?_
        refine WPL.skipg (b' := false) rfl rfl rfl rfl rfl ?_
        refine WPL.skipg (b' := false) rfl rfl rfl rfl rfl ?_
        refine WPL.skipg (b' := false) rfl rfl rfl rfl rfl ?_
        refine WPL.q (q_pickF (v := .lit (.bool _)) rfl rfl) rfl ?_
        refine WPL.q (q_mv (v := .lit (.bool _)) rfl) rfl ?_
        refine WPL.skipg (b' := false) rfl rfl rfl rfl rfl ?_
        refine WPL.skipg (b' := false) rfl rfl rfl rfl rfl ?_
        refine WPL.skipg (b' := false) rfl rfl rfl rfl rfl ?_
        refine WPL.skipg (b' := false) rfl rfl rfl rfl rfl ?_
        refine WPL.q (q_pickF (v := .lit (.bool _)) rfl rfl) rfl ?_
        refine WPL.q (q_mv (v := .lit (.bool _)) rfl) rfl ?_
        refine WPL.skipg (b' := false) rfl rfl rfl rfl rfl ?_
        refine WPL.skipg (b' := false) rfl rfl rfl rfl rfl ?_
        refine WPL.skipg (b' := false) rfl rfl rfl rfl rfl ?_
        refine WPL.skipg (b' := false) rfl rfl rfl rfl rfl ?_
        refine WPL.q (q_pickF (v := .lit (.bool _)) rfl rfl) rfl ?_
        refine WPL.q (q_mv (v := .lit (.bool _)) rfl) rfl ?_
        refine WPL.skipg (b' := false) rfl rfl rfl rfl rfl ?_
        refine WPL.skipg (b' := false) rfl rfl rfl rfl rfl ?_
        refine WPL.skipg (b' := false) rfl rfl rfl rfl rfl ?_
        refine WPL.skipg (b' := false) rfl rfl rfl rfl rfl ?_
        refine WPL.q (q_pickF (v := .lit (.bool _)) rfl rfl) rfl ?_
        refine WPL.q (q_as (v := .lit (.bool _)) rfl) rfl ?_
        refine WPL.nilW ?_
        refine W.cv (Cv.weak (E' := (Env.none.upd 0 (.lit (.bool false)))) (M' := Mem.nil) [] hnp ⟨rfl, trivial, by decide, rfl, trivial⟩ (LeE.upd rfl rfl (LeE.none rfl rfl))) rfl ?_
        refine W.now ?_
        have q0 := (Option.some.inj H)
        subst q0
        exact ⟨rfl, rfl, rfl⟩
    · replace H := cnf hb4329 H
      refine WPL.skipg (b' := false) rfl rfl (lb hb4329) rfl rfl ?_
      refine WPL.skipg (b' := false) rfl rfl (lb hb4329) rfl rfl ?_
      refine WPL.skipg (b' := false) rfl rfl (lb hb4329) rfl rfl ?_
      refine WPL.q (q_pickF (v := .lit (.bool _)) (lb hb4329) rfl) rfl ?_
      refine WPL.q (q_mv (v := .lit (.bool _)) rfl) rfl ?_
      refine WPL.skipg (b' := false) rfl rfl rfl rfl rfl ?_
      refine WPL.skipg (b' := false) rfl rfl rfl rfl rfl ?_
      refine WPL.skipg (b' := false) rfl rfl rfl rfl rfl ?_
      refine WPL.skipg (b' := false) rfl rfl rfl rfl rfl ?_
      refine WPL.q (q_pickF (v := .lit (.bool _)) rfl rfl) rfl ?_
      refine WPL.q (q_mv (v := .lit (.bool _)) rfl) rfl ?_
      refine WPL.skipg (b' := false) rfl rfl rfl rfl rfl ?_
      refine WPL.skipg (b' := false) rfl rfl rfl rfl rfl ?_
      refine WPL.skipg (b' := false) rfl rfl rfl rfl rfl ?_
      refine WPL.skipg (b' := false) rfl rfl rfl rfl rfl ?_
      refine WPL.q (q_pickF (v := .lit (.bool _)) rfl rfl) rfl ?_
      refine WPL.q (q_mv (v := .lit (.bool _)) rfl) rfl ?_
      refine WPL.skipg (b' := false) rfl rfl rfl rfl rfl ?_
      refine WPL.skipg (b' := false) rfl rfl rfl rfl rfl ?_
      refine WPL.skipg (b' := false) rfl rfl rfl rfl rfl ?_
      refine WPL.skipg (b' := false) rfl rfl rfl rfl rfl ?_
      refine WPL.q (q_pickF (v := .lit (.bool _)) rfl rfl) rfl ?_
      refine WPL.q (q_mv (v := .lit (.bool _)) rfl) rfl ?_
      refine WPL.skipg (b' := false) rfl rfl rfl rfl rfl ?_
      refine WPL.skipg (b' := false) rfl rfl rfl rfl rfl ?_
      refine WPL.skipg (b' := false) rfl rfl rfl rfl rfl ?_
      refine WPL.skipg (b' := false) rfl rfl rfl rfl rfl ?_
      refine WPL.q (q_pickF (v := .lit (.bool _)) rfl rfl) rfl ?_
      refine WPL.q (q_mv (v := .lit (.bool _)) rfl) rfl ?_
      refine WPL.skipg (b' := false) rfl rfl rfl rfl rfl ?_
      refine WPL.skipg (b' := false) rfl rfl rfl rfl rfl ?_
      refine WPL.q (q_pickF (v := .lit (.bool _)) rfl rfl) rfl ?_
      refine WPL.q (q_mv (v := .lit (.bool _)) rfl) rfl ?_
      refine WPL.skipg (b' := false) rfl rfl rfl rfl rfl ?_
      refine WPL.skipg (b' := false) rfl rfl rfl rfl rfl ?_
      refine WPL.q (q_pickF (v := .lit (.bool _)) rfl rfl) rfl ?_
      refine WPL.q (q_mv (v := .lit (.bool _)) rfl) rfl ?_
      refine WPL.skipg (b' := false) rfl rfl rfl rfl rfl ?_
      refine WPL.skipg (b' := false) rfl rfl rfl rfl rfl ?_
      refine WPL.skipg (b' := false) rfl rfl rfl rfl rfl ?_
      refine WPL.q (q_pickF (v := .lit (.bool _)) rfl rfl) rfl ?_
      refine WPL.q (q_mv (v := .lit (.bool _)) rfl) rfl ?_
      refine WPL.skipg (b' := false) rfl rfl rfl rfl rfl ?_
      refine WPL.skipg (b' := false) rfl rfl rfl rfl rfl ?_
      refine WPL.skipg (b' := false) rfl rfl rfl rfl rfl ?_
      refine WPL.skipg (b' := false) rfl rfl rfl rfl rfl ?_
      refine WPL.q (q_pickF (v := .lit (.bool _)) rfl rfl) rfl ?_
      refine WPL.q (q_mv (v := .lit (.bool _)) rfl) rfl ?_
      refine WPL.skipg (b' := false) rfl rfl rfl rfl rfl ?_
      refine WPL.skipg (b' := false) rfl rfl rfl rfl rfl ?_
      refine WPL.skipg (b' := false) rfl rfl rfl rfl rfl ?_
      refine WPL.skipg (b' := false) rfl rfl rfl rfl rfl ?_
      refine WPL.q (q_pickF (v := .lit (.bool _)) rfl rfl) rfl ?_
      refine WPL.q (q_mv (v := .lit (.bool _)) rfl) rfl ?_
      refine WPL.skipg (b' := false) rfl rfl rfl rfl rfl ?_
      refine WPL.skipg (b' := false) rfl rfl rfl rfl rfl ?_
      refine WPL.skipg (b' := false) rfl rfl rfl rfl rfl ?_
      refine WPL.skipg (b' := false) rfl rfl rfl rfl rfl ?_
      refine WPL.q (q_pickF (v := .lit (.bool _)) rfl rfl) rfl ?_
      refine WPL.q (q_mv (v := .lit (.bool _)) rfl) rfl ?_
      refine WPL.skipg (b' := false) rfl rfl rfl rfl rfl ?_
      refine WPL.skipg (b' := false) rfl rfl rfl rfl rfl ?_
      refine WPL.skipg (b' := false) rfl rfl rfl rfl rfl ?_
      refine WPL.skipg (b' := false) rfl rfl rfl rfl rfl ?_
      refine WPL.q (q_pickF (v := .lit (.bool _)) rfl rfl) rfl ?_
      refine WPL.q (q_as (v := .lit (.bool _)) rfl) rfl ?_
      refine WPL.nilW ?_
      refine W.cv (Cv.weak (E' := (Env.none.upd 0 (.lit (.bool false)))) (M' := Mem.nil) [] hnp ⟨rfl, trivial, by decide, rfl, trivial⟩ (LeE.upd rfl rfl (LeE.none rfl rfl))) rfl ?_
      refine W.now ?_
      have q0 := (Option.some.inj H)
      subst q0
      exact ⟨rfl, rfl, rfl⟩
  · rintro _ _ _ ⟨rfl, rfl, rfl⟩
    refine W.now ?_
    refine Then.n ?_
    refine WP.retW ?_
    refine W.now ?_
    have q0 := (Option.some.inj H)
    subst q0
    exact ⟨trivial, _, rfl, [], (.lit (.bool x4329)), Mem.nil, ⟨rfl, trivial, by decide, rfl, trivial⟩, rfl, rfl, rfl, rfl⟩
set_option maxRecDepth 100000 in
set_option maxHeartbeats 4000000 in
theorem s4 (k : Nat) (x2 : (List Int)) (x4694 : Bool) (H : f4 k x2 = some x4694) : Go.Q.Spec Try.prog 4 0 [.ro (Rd.slice (Rd.int .i64)) false x2] Mem.nil (fun o M => o = .ret (.lit (.bool x4694)) ∧ M = Mem.nil) := by
  unfold f4 at H
  refine Go.Q.Spec.of_bodyR (rs := [.tmp 2]) (nt := 76) Try.func4 rfl rfl (by intro t T h; simp at h) rfl rfl fun cx hnp => ?_
  refine WP.seq ?_
  refine WP.region ?_
  refine WPL.q (q_as (v := .lit (.bool _)) rfl) rfl ?_
  refine WPL.nilW ?_
  refine W.now ?_
  refine Then.n ?_
  refine WP.seq ?_
  refine WP.region ?_
  refine WPL.q (q_mv (v := .ro _ _ _) rfl) rfl ?_
  obtain ⟨⟨x4696, x4697⟩, h4694, H⟩ := bnd H
  refine WPL.c (runs_call (s := []) (t := []) (N := 0) (bor := []) fn14 rfl (s14 k x2 x4696 x4697 h4694) ⟨rfl, trivial, by decide, rfl, trivial⟩ rfl trivial (.ren rfl rfl .nil) rfl trivial rfl) rfl ?_
  refine WPL.q (q_mv (v := .tup _) rfl) rfl ?_
  refine WPL.q (q_extract rfl rfl) rfl ?_
  refine WPL.q (q_extract rfl rfl) rfl ?_
  refine WPL.q (q_as (v := .ro _ _ _) rfl) rfl ?_
  refine WPL.q (q_as (v := .lit (.int _ _)) rfl) rfl ?_
  refine WPL.nilW ?_
  refine W.now ?_
  refine Then.n ?_
  refine WP.seq ?_
  refine WP.seq ?_
  refine WP.region ?_
  refine WPL.q (q_mv (v := .lit (.int _ _)) rfl) rfl ?_
  refine WPL.q (q_neq rfl rfl) rfl ?_
  refine WPL.nilW ?_
  refine W.now ?_
  refine Then.n ?_
  refine WP.cond (t := (!decide (x4697 = 0))) rfl (fun hb => ?_) (fun hb => ?_)
  · replace H := cnt hb H
    refine WP.seq ?_
    obtain ⟨x4712, H4716, H⟩ := bnd H
    refine WP.monoW (Q := fun x E M => x = .normal ∧ E = (Env.none.upd 2 (.lit (.bool x4712))) ∧ M = Mem.nil) ?_ ?_
    · clear H
      have H := H4716
      clear H4716
      refine WP.region ?_
      refine WPL.q (q_mv (v := .ro _ _ _) rfl) rfl ?_
      refine WPL.q (q_len_ro sl32 rfl) rfl ?_
      obtain ⟨x4713, h4713, H⟩ := bnd H
      refine WPL.q (q_nm (q_eql rfl rfl) (nm_bool h4713)) rfl ?_
      refine WPL.q (q_mv (v := .lit (.bool _)) rfl) rfl ?_
      refine WPL.split (t := 17) (b := x4713) rfl (fun hb4713 => ?_) (fun hb4713 => ?_)
      · replace H := cnt hb4713 H
        obtain ⟨x4716, h4714, H⟩ := bnd H
        refine WPL.cg rfl rfl (lb hb4713) (runs_call (s := []) (t := []) (N := 0) (bor := []) fn10 rfl (s10 k x4716 h4714) ⟨rfl, trivial, by decide, rfl, trivial⟩ rfl trivial .nil rfl trivial rfl) rfl ?_
        refine WPL.q (q_pickT (v := .lit (.bool _)) (lb hb4713) rfl) rfl ?_
        refine WPL.q (q_as (v := .lit (.bool _)) rfl) rfl ?_
        refine WPL.nilW ?_
        refine W.cv (Cv.weak (E' := (Env.none.upd 2 (.lit (.bool x4716)))) (M' := Mem.nil) [] hnp ⟨rfl, trivial, by decide, rfl, trivial⟩ (LeE.upd rfl rfl (LeE.none rfl rfl))) rfl ?_
        refine W.now ?_
        have q0 := (Option.some.inj H)
        subst q0
        exact ⟨rfl, rfl, rfl⟩
      · replace H := cnf hb4713 H
        refine WPL.skipg (b' := false) rfl rfl (lb hb4713) rfl rfl ?_
        refine WPL.q (q_pickF (v := .lit (.bool _)) (lb hb4713) rfl) rfl ?_
        refine WPL.q (q_as (v := .lit (.bool _)) rfl) rfl ?_
        refine WPL.nilW ?_
        refine W.cv (Cv.weak (E' := (Env.none.upd 2 (.lit (.bool false)))) (M' := Mem.nil) [] hnp ⟨rfl, trivial, by decide, rfl, trivial⟩ (LeE.upd rfl rfl (LeE.none rfl rfl))) rfl ?_
        refine W.now ?_
        have q0 := (Option.some.inj H)
        subst q0
        exact ⟨rfl, rfl, rfl⟩
    · rintro _ _ _ ⟨rfl, rfl, rfl⟩
      refine W.now ?_
      refine Then.n ?_
      refine WP.retW ?_
      refine W.now ?_
      refine Then.r ?_
      have q0 := (Option.some.inj H)
      subst q0
      exact ⟨trivial, _, rfl, [], (.lit (.bool x4712)), Mem.nil, ⟨rfl, trivial, by decide, rfl, trivial⟩, rfl, rfl, rfl, rfl⟩
  · replace H := cnf hb H
    refine WP.skipW ?_
    refine W.now ?_
    refine Then.n ?_
    refine WP.seq ?_
    refine WP.seq ?_
    refine WP.region ?_
    refine WPL.q (q_as (v := .lit (.int _ _)) rfl) rfl ?_
    refine WPL.nilW ?_
    refine W.now ?_
    refine Then.n ?_
    refine WP.block ?_
    refine WP.cv (Cv.weak (E' := (((Env.none.upd 0 (.ro (Rd.slice (Rd.int .i64)) false x2)).upd 3 (.ro (Rd.slice (Rd.int .u32)) false x4696)).upd 5 (.lit (.int .i64 0)))) (M' := Mem.nil) [] hnp ⟨rfl, trivial, by decide, rfl, trivial⟩ (LeE.upd rfl rfl (LeE.upd rfl rfl (LeE.upd rfl rfl (LeE.none rfl rfl))))) ?_
    obtain ⟨y5349, H5347, H⟩ := bnd H
    refine WP.monoW (Q := fun x E M => match (generalizing := false) y5349 with | (Sum.inl _) => x = .ret ∧ E = (Env.none.upd 2 (.lit (.bool false))) ∧ M = Mem.nil | (Sum.inr _) => x = .exit 0 ∧ E = Env.none ∧ M = Mem.nil) ?_ ?_
    · refine WP.loop (β := Int) (fun n b => f4_l0 k x2 x4696 n b = some y5349) (fun b => (((Env.none.upd 0 (.ro (Rd.slice (Rd.int .i64)) false x2)).upd 3 (.ro (Rd.slice (Rd.int .u32)) false x4696)).upd 5 (.lit (.int .i64 b)))) (fun b => Mem.nil) k 0 H5347 rfl rfl ?_
      rintro n x4827 H
      obtain _ | n := n
      · exact nf rfl H
      rw [f4_l0.eq_2] at H
      show WP _ _ _ _ (((Env.none.upd 0 (.ro (Rd.slice (Rd.int .i64)) false x2)).upd 3 (.ro (Rd.slice (Rd.int .u32)) false x4696)).upd 5 (.lit (.int .i64 x4827))) Mem.nil _
      refine WP.seq ?_
      refine WP.seq ?_
      refine WP.region ?_
      refine WPL.q (q_mv (v := .lit (.int _ _)) rfl) rfl ?_
      refine WPL.q (q_mv (v := .ro _ _ _) rfl) rfl ?_
      refine WPL.q (q_len_ro sl22 rfl) rfl ?_
      obtain ⟨x5038, h5038, H⟩ := bnd H
      refine WPL.q (q_nm (q_lss rfl rfl) (nm_bool h5038)) rfl ?_
      refine WPL.nilW ?_
      refine W.now ?_
      refine Then.n ?_
      refine WP.cond (t := x5038) rfl (fun hb => ?_) (fun hb => ?_)
      · replace H := cnt hb H
        refine WP.skipW ?_
        refine W.now ?_
        refine Then.n ?_
        refine WP.seq ?_
        refine WP.block ?_
        refine WP.seq ?_
        refine WP.region ?_
        refine WPL.q (q_as (v := .lit (.int _ _)) rfl) rfl ?_
        refine WPL.nilW ?_
        refine W.now ?_
        refine Then.n ?_
        refine WP.block ?_
        refine WP.cv (Cv.weak (E' := ((((Env.none.upd 0 (.ro (Rd.slice (Rd.int .i64)) false x2)).upd 3 (.ro (Rd.slice (Rd.int .u32)) false x4696)).upd 5 (.lit (.int .i64 x4827))).upd 6 (.lit (.int .i64 0)))) (M' := Mem.nil) [] hnp ⟨rfl, trivial, by decide, rfl, trivial⟩ (LeE.upd rfl rfl (LeE.upd rfl rfl (LeE.upd rfl rfl (LeE.upd rfl rfl (LeE.none rfl rfl)))))) ?_
        obtain ⟨y5347, H5345, H⟩ := bnd H
        refine WP.monoW (Q := fun x E M => match (generalizing := false) y5347 with | (Sum.inl _) => x = .ret ∧ E = (Env.none.upd 2 (.lit (.bool false))) ∧ M = Mem.nil | (Sum.inr _) => x = .exit 2 ∧ E = (((Env.none.upd 0 (.ro (Rd.slice (Rd.int .i64)) false x2)).upd 3 (.ro (Rd.slice (Rd.int .u32)) false x4696)).upd 5 (.lit (.int .i64 x4827))) ∧ M = Mem.nil) ?_ ?_
        · refine WP.loop (β := Int) (fun n b => f4_l1 k x2 x4696 x4827 n b = some y5347) (fun b => ((((Env.none.upd 0 (.ro (Rd.slice (Rd.int .i64)) false x2)).upd 3 (.ro (Rd.slice (Rd.int .u32)) false x4696)).upd 5 (.lit (.int .i64 x4827))).upd 6 (.lit (.int .i64 b)))) (fun b => Mem.nil) k 0 H5345 rfl rfl ?_
          rintro n x5141 H
          obtain _ | n := n
          · exact nf rfl H
          rw [f4_l1.eq_2] at H
          show WP _ _ _ _ ((((Env.none.upd 0 (.ro (Rd.slice (Rd.int .i64)) false x2)).upd 3 (.ro (Rd.slice (Rd.int .u32)) false x4696)).upd 5 (.lit (.int .i64 x4827))).upd 6 (.lit (.int .i64 x5141))) Mem.nil _
          refine WP.seq ?_
          refine WP.seq ?_
          refine WP.region ?_
          refine WPL.q (q_mv (v := .lit (.int _ _)) rfl) rfl ?_
          refine WPL.q (q_mv (v := .ro _ _ _) rfl) rfl ?_
          refine WPL.q (q_len_ro sl22 rfl) rfl ?_
          obtain ⟨x5245, h5245, H⟩ := bnd H
          refine WPL.q (q_nm (q_lss rfl rfl) (nm_bool h5245)) rfl ?_
          refine WPL.nilW ?_
          refine W.now ?_
          refine Then.n ?_
          refine WP.cond (t := x5245) rfl (fun hb => ?_) (fun hb => ?_)
          · replace H := cnt hb H
            refine WP.skipW ?_
            refine W.now ?_
            refine Then.n ?_
            refine WP.seq ?_
            refine WP.block ?_
            refine WP.seq ?_
            obtain ⟨x5320, H5344, H⟩ := bnd H
            refine WP.monoW (Q := fun x E M => x = .normal ∧ E = (((((Env.none.upd 0 (.ro (Rd.slice (Rd.int .i64)) false x2)).upd 3 (.ro (Rd.slice (Rd.int .u32)) false x4696)).upd 5 (.lit (.int .i64 x4827))).upd 6 (.lit (.int .i64 x5141))).upd 74 (.lit (.bool x5320))) ∧ M = Mem.nil) ?_ ?_
            · clear H
              have H := H5344
              clear H5344
              refine WP.regionD' 43 [] [] mixed rfl ?_
              refine WPD.takeT 0 rfl (by kernel_rfl) (q_mv (v := .lit (.int _ _)) rfl) rfl ?_
              refine WPD.takeT 1 rfl (by kernel_rfl) (q_mv (v := .lit (.int _ _)) rfl) rfl ?_
              refine WPD.takeT 2 rfl (by kernel_rfl) (q_neq rfl rfl) rfl ?_
              refine WPD.takeT 3 rfl (by kernel_rfl) (q_mv (v := .lit (.bool _)) rfl) rfl ?_
              refine WPD.split (t := 35) (b := (!decide (x4827 = x5141))) rfl (fun hb5332 => ?_) (fun hb5332 => ?_)
              · replace H := cnt hb5332 H
                refine WPD.takegT 4 rfl (by kernel_rfl) rfl rfl (lb hb5332) (q_mv (v := .ro _ _ _) rfl) rfl ?_
                refine WPD.takegT 5 rfl (by kernel_rfl) rfl rfl (lb hb5332) (q_mv (v := .lit (.int _ _)) rfl) rfl ?_
                obtain ⟨x5334, h5334, H⟩ := bnd H
                refine WPD.takegT 6 rfl (by kernel_rfl) rfl rfl (lb hb5332) (q_index_ro sl22 rfl rfl rfl h5334) rfl ?_
                refine WPD.takegT 7 rfl (by kernel_rfl) rfl rfl (lb hb5332) (q_load_sc sc3 rfl) rfl ?_
                refine WPD.takegT 8 rfl (by kernel_rfl) rfl rfl (lb hb5332) (q_gtr rfl rfl) rfl ?_
                refine WPD.takeT 9 rfl (by kernel_rfl) (q_pickT (v := .lit (.bool _)) (lb hb5332) rfl) rfl ?_
                refine WPD.takeT 10 rfl (by kernel_rfl) (q_mv (v := .lit (.bool _)) rfl) rfl ?_
                refine WPD.split (t := 42) (b := (decide (0 < x5334))) rfl (fun hb5334 => ?_) (fun hb5334 => ?_)
                · replace H := cnt hb5334 H
                  refine WPD.takegT 11 rfl (by kernel_rfl) rfl rfl (lb hb5334) (q_mv (v := .ro _ _ _) rfl) rfl ?_
                  refine WPD.takegT 12 rfl (by kernel_rfl) rfl rfl (lb hb5334) (q_mv (v := .lit (.int _ _)) rfl) rfl ?_
                  obtain ⟨x5336, h5336, H⟩ := bnd H
                  refine WPD.takegT 13 rfl (by kernel_rfl) rfl rfl (lb hb5334) (q_index_ro sl22 rfl rfl rfl h5336) rfl ?_
                  refine WPD.takegT 14 rfl (by kernel_rfl) rfl rfl (lb hb5334) (q_load_sc sc3 rfl) rfl ?_
                  refine WPD.takegT 15 rfl (by kernel_rfl) rfl rfl (lb hb5334) (q_mv (v := .ro _ _ _) rfl) rfl ?_
                  refine WPD.takegT 16 rfl (by kernel_rfl) rfl rfl (lb hb5334) (q_mv (v := .lit (.int _ _)) rfl) rfl ?_
                  obtain ⟨x5337, h5337, H⟩ := bnd H
                  refine WPD.takegT 17 rfl (by kernel_rfl) rfl rfl (lb hb5334) (q_index_ro sl22 rfl rfl rfl h5337) rfl ?_
                  refine WPD.takegT 18 rfl (by kernel_rfl) rfl rfl (lb hb5334) (q_load_sc sc3 rfl) rfl ?_
                  refine WPD.takegT 19 rfl (by kernel_rfl) rfl rfl (lb hb5334) (q_geq rfl rfl) rfl ?_
                  refine WPD.takeT 20 rfl (by kernel_rfl) (q_pickT (v := .lit (.bool _)) (lb hb5334) rfl) rfl ?_
                  refine WPD.takeT 21 rfl (by kernel_rfl) (q_mv (v := .lit (.bool _)) rfl) rfl ?_
                  refine WPD.split (t := 53) (b := (decide (x5337 ≤ x5336))) rfl (fun hb5337 => ?_) (fun hb5337 => ?_)
                  · replace H := cnt hb5337 H
                    refine WPD.takegT 22 rfl (by kernel_rfl) rfl rfl (lb hb5337) (q_mv (v := .ro _ _ _) rfl) rfl ?_
                    refine WPD.takegT 23 rfl (by kernel_rfl) rfl rfl (lb hb5337) (q_mv (v := .lit (.int _ _)) rfl) rfl ?_
                    obtain ⟨x5339, h5339, H⟩ := bnd H
                    refine WPD.takegT 24 rfl (by kernel_rfl) rfl rfl (lb hb5337) (q_index_ro sl32 rfl rfl rfl h5339) rfl ?_
                    refine WPD.takegT 25 rfl (by kernel_rfl) rfl rfl (lb hb5337) (q_load_sc sc35 rfl) rfl ?_
                    refine WPD.takegT 26 rfl (by kernel_rfl) rfl rfl (lb hb5337) (q_mv (v := .ro _ _ _) rfl) rfl ?_
                    refine WPD.takegT 27 rfl (by kernel_rfl) rfl rfl (lb hb5337) (q_mv (v := .lit (.int _ _)) rfl) rfl ?_
                    obtain ⟨x5340, h5340, H⟩ := bnd H
                    refine WPD.takegT 28 rfl (by kernel_rfl) rfl rfl (lb hb5337) (q_index_ro sl22 rfl rfl rfl h5340) rfl ?_
                    refine WPD.takegT 29 rfl (by kernel_rfl) rfl rfl (lb hb5337) (q_load_sc sc3 rfl) rfl ?_
                    refine WPD.takegT 30 rfl (by kernel_rfl) rfl rfl (lb hb5337) (q_mv (v := .ro _ _ _) rfl) rfl ?_
                    refine WPD.takegT 31 rfl (by kernel_rfl) rfl rfl (lb hb5337) (q_mv (v := .lit (.int _ _)) rfl) rfl ?_
                    obtain ⟨x5341, h5341, H⟩ := bnd H
                    refine WPD.takegT 32 rfl (by kernel_rfl) rfl rfl (lb hb5337) (q_index_ro sl22 rfl rfl rfl h5341) rfl ?_
                    refine WPD.takegT 33 rfl (by kernel_rfl) rfl rfl (lb hb5337) (q_load_sc sc3 rfl) rfl ?_
                    refine WPD.takegT 34 rfl (by kernel_rfl) rfl rfl (lb hb5337) (q_sub rfl rfl) rfl ?_
                    obtain ⟨x5342, h5342, H⟩ := bnd H
                    refine WPD.takegT 35 rfl (by kernel_rfl) rfl rfl (lb hb5337) (q_nm (q_conv Try.underlying3 Try.underlying27 rfl) (nm_int h5342)) rfl ?_
                    obtain ⟨h5342, H⟩ := grd H
                    refine WPD.takegT 36 rfl (by kernel_rfl) rfl rfl (lb hb5337) (q_shr rfl rfl h5342) rfl ?_
                    refine WPD.takegT 37 rfl (by kernel_rfl) rfl rfl (lb hb5337) (q_mv (v := .ro _ _ _) rfl) rfl ?_
                    refine WPD.takegT 38 rfl (by kernel_rfl) rfl rfl (lb hb5337) (q_mv (v := .lit (.int _ _)) rfl) rfl ?_
                    obtain ⟨x5344, h5344, H⟩ := bnd H
                    refine WPD.takegT 39 rfl (by kernel_rfl) rfl rfl (lb hb5337) (q_index_ro sl32 rfl rfl rfl h5344) rfl ?_
                    refine WPD.takegT 40 rfl (by kernel_rfl) rfl rfl (lb hb5337) (q_load_sc sc35 rfl) rfl ?_
                    refine WPD.takegT 41 rfl (by kernel_rfl) rfl rfl (lb hb5337) (q_eql rfl rfl) rfl ?_
                    refine WPD.takeT 42 rfl (by kernel_rfl) (q_pickT (v := .lit (.bool _)) (lb hb5337) rfl) rfl ?_
                    refine WPD.doneW (by kernel_rfl) ?_
                    refine W.cv (Cv.weak (E' := (((((Env.none.upd 0 (.ro (Rd.slice (Rd.int .i64)) false x2)).upd 3 (.ro (Rd.slice (Rd.int .u32)) false x4696)).upd 5 (.lit (.int .i64 x4827))).upd 6 (.lit (.int .i64 x5141))).upd 74 (.lit (.bool (decide ((shrI .u32 x5339 x5342) = x5344)))))) (M' := Mem.nil) [] hnp ⟨rfl, trivial, by decide, rfl, trivial⟩ (LeE.upd rfl rfl (LeE.upd rfl rfl (LeE.upd rfl rfl (LeE.upd rfl rfl (LeE.upd rfl rfl (LeE.none rfl rfl))))))) rfl ?_
                    refine W.now ?_
                    have q0 := (Option.some.inj H)
                    subst q0
                    exact ⟨rfl, rfl, rfl⟩
                  · replace H := cnf hb5337 H
                    refine WPD.pass (b' := false) 22 rfl (by kernel_rfl) rfl rfl (lb hb5337) rfl rfl ?_
                    refine WPD.pass (b' := false) 23 rfl (by kernel_rfl) rfl rfl (lb hb5337) rfl rfl ?_
                    refine WPD.pass (b' := false) 24 rfl (by kernel_rfl) rfl rfl (lb hb5337) rfl rfl ?_
                    refine WPD.pass (b' := false) 25 rfl (by kernel_rfl) rfl rfl (lb hb5337) rfl rfl ?_
                    refine WPD.pass (b' := false) 26 rfl (by kernel_rfl) rfl rfl (lb hb5337) rfl rfl ?_
                    refine WPD.pass (b' := false) 27 rfl (by kernel_rfl) rfl rfl (lb hb5337) rfl rfl ?_
                    refine WPD.pass (b' := false) 28 rfl (by kernel_rfl) rfl rfl (lb hb5337) rfl rfl ?_
                    refine WPD.pass (b' := false) 29 rfl (by kernel_rfl) rfl rfl (lb hb5337) rfl rfl ?_
                    refine WPD.pass (b' := false) 30 rfl (by kernel_rfl) rfl rfl (lb hb5337) rfl rfl ?_
                    refine WPD.pass (b' := false) 31 rfl (by kernel_rfl) rfl rfl (lb hb5337) rfl rfl ?_
                    refine WPD.pass (b' := false) 32 rfl (by kernel_rfl) rfl rfl (lb hb5337) rfl rfl ?_
                    refine WPD.pass (b' := false) 33 rfl (by kernel_rfl) rfl rfl (lb hb5337) rfl rfl ?_
                    refine WPD.pass (b' := false) 34 rfl (by kernel_rfl) rfl rfl (lb hb5337) rfl rfl ?_
                    refine WPD.pass (b' := false) 35 rfl (by kernel_rfl) rfl rfl (lb hb5337) rfl rfl ?_
                    refine WPD.pass (b' := false) 36 rfl (by kernel_rfl) rfl rfl (lb hb5337) rfl rfl ?_
                    refine WPD.pass (b' := false) 37 rfl (by kernel_rfl) rfl rfl (lb hb5337) rfl rfl ?_
                    refine WPD.pass (b' := false) 38 rfl (by kernel_rfl) rfl rfl (lb hb5337) rfl rfl ?_
                    refine WPD.pass (b' := false) 39 rfl (by kernel_rfl) rfl rfl (lb hb5337) rfl rfl ?_
                    refine WPD.pass (b' := false) 40 rfl (by kernel_rfl) rfl rfl (lb hb5337) rfl rfl ?_
                    refine WPD.pass (b' := false) 41 rfl (by kernel_rfl) rfl rfl (lb hb5337) rfl rfl ?_
                    refine WPD.takeT 42 rfl (by kernel_rfl) (q_pickF (v := .lit (.bool _)) (lb hb5337) rfl) rfl ?_
                    refine WPD.doneW (by kernel_rfl) ?_
                    refine W.cv (Cv.weak (E' := (((((Env.none.upd 0 (.ro (Rd.slice (Rd.int .i64)) false x2)).upd 3 (.ro (Rd.slice (Rd.int .u32)) false x4696)).upd 5 (.lit (.int .i64 x4827))).upd 6 (.lit (.int .i64 x5141))).upd 74 (.lit (.bool false)))) (M' := Mem.nil) [] hnp ⟨rfl, trivial, by decide, rfl, trivial⟩ (LeE.upd rfl rfl (LeE.upd rfl rfl (LeE.upd rfl rfl (LeE.upd rfl rfl (LeE.upd rfl rfl (LeE.none rfl rfl))))))) rfl ?_
                    refine W.now ?_
                    have q0 := (Option.some.inj H)
                    subst q0
                    exact ⟨rfl, rfl, rfl⟩
                · replace H := cnf hb5334 H
                  refine WPD.pass (b' := false) 11 rfl (by kernel_rfl) rfl rfl (lb hb5334) rfl rfl ?_
                  refine WPD.pass (b' := false) 12 rfl (by kernel_rfl) rfl rfl (lb hb5334) rfl rfl ?_
                  refine WPD.pass (b' := false) 13 rfl (by kernel_rfl) rfl rfl (lb hb5334) rfl rfl ?_
                  refine WPD.pass (b' := false) 14 rfl (by kernel_rfl) rfl rfl (lb hb5334) rfl rfl ?_
                  refine WPD.pass (b' := false) 15 rfl (by kernel_rfl) rfl rfl (lb hb5334) rfl rfl ?_
                  refine WPD.pass (b' := false) 16 rfl (by kernel_rfl) rfl rfl (lb hb5334) rfl rfl ?_
                  refine WPD.pass (b' := false) 17 rfl (by kernel_rfl) rfl rfl (lb hb5334) rfl rfl ?_
                  refine WPD.pass (b' := false) 18 rfl (by kernel_rfl) rfl rfl (lb hb5334) rfl rfl ?_
                  refine WPD.pass (b' := false) 19 rfl (by kernel_rfl) rfl rfl (lb hb5334) rfl rfl ?_
                  refine WPD.takeT 20 rfl (by kernel_rfl) (q_pickF (v := .lit (.bool _)) (lb hb5334) rfl) rfl ?_
                  refine WPD.takeT 21 rfl (by kernel_rfl) (q_mv (v := .lit (.bool _)) rfl) rfl ?_
                  refine WPD.pass (b' := false) 22 rfl (by kernel_rfl) rfl rfl rfl rfl rfl ?_
                  refine WPD.pass (b' := false) 23 rfl (by kernel_rfl) rfl rfl rfl rfl rfl ?_
                  refine WPD.pass (b' := false) 24 rfl (by kernel_rfl) rfl rfl rfl rfl rfl ?_
                  refine WPD.pass (b' := false) 25 rfl (by kernel_rfl) rfl rfl rfl rfl rfl ?_
                  refine WPD.pass (b' := false) 26 rfl (by kernel_rfl) rfl rfl rfl rfl rfl ?_
                  refine WPD.pass (b' := false) 27 rfl (by kernel_rfl) rfl rfl rfl rfl rfl ?_
                  refine WPD.pass (b' := false) 28 rfl (by kernel_rfl) rfl rfl rfl rfl rfl ?_
                  refine WPD.pass (b' := false) 29 rfl (by kernel_rfl) rfl rfl rfl rfl rfl ?_
                  refine WPD.pass (b' := false) 30 rfl (by kernel_rfl) rfl rfl rfl rfl rfl ?_
                  refine WPD.pass (b' := false) 31 rfl (by kernel_rfl) rfl rfl rfl rfl rfl ?_
                  refine WPD.pass (b' := false) 32 rfl (by kernel_rfl) rfl rfl rfl rfl rfl ?_
                  refine WPD.pass (b' := false) 33 rfl (by kernel_rfl) rfl rfl rfl rfl rfl ?_
                  refine WPD.pass (b' := false) 34 rfl (by kernel_rfl) rfl rfl rfl rfl rfl ?_
                  refine WPD.pass (b' := false) 35 rfl (by kernel_rfl) rfl rfl rfl rfl rfl ?_
                  refine WPD.pass (b' := false) 36 rfl (by kernel_rfl) rfl rfl rfl rfl rfl ?_
                  refine WPD.pass (b' := false) 37 rfl (by kernel_rfl) rfl rfl rfl rfl rfl ?_
                  refine WPD.pass (b' := false) 38 rfl (by kernel_rfl) rfl rfl rfl rfl rfl ?_
                  refine WPD.pass (b' := false) 39 rfl (by kernel_rfl) rfl rfl rfl rfl rfl ?_
                  refine WPD.pass (b' := false) 40 rfl (by kernel_rfl) rfl rfl rfl rfl rfl ?_
                  refine WPD.pass (b' := false) 41 rfl (by kernel_rfl) rfl rfl rfl rfl rfl ?_
                  refine WPD.takeT 42 rfl (by kernel_rfl) (q_pickF (v := .lit (.bool _)) rfl rfl) rfl ?_
                  refine WPD.doneW (by kernel_rfl) ?_
                  refine W.cv (Cv.weak (E' := (((((Env.none.upd 0 (.ro (Rd.slice (Rd.int .i64)) false x2)).upd 3 (.ro (Rd.slice (Rd.int .u32)) false x4696)).upd 5 (.lit (.int .i64 x4827))).upd 6 (.lit (.int .i64 x5141))).upd 74 (.lit (.bool false)))) (M' := Mem.nil) [] hnp ⟨rfl, trivial, by decide, rfl, trivial⟩ (LeE.upd rfl rfl (LeE.upd rfl rfl (LeE.upd rfl rfl (LeE.upd rfl rfl (LeE.upd rfl rfl (LeE.none rfl rfl))))))) rfl ?_
                  refine W.now ?_
                  have q0 := (Option.some.inj H)
                  subst q0
                  exact ⟨rfl, rfl, rfl⟩
              · replace H := cnf hb5332 H
                refine WPD.pass (b' := false) 4 rfl (by kernel_rfl) rfl rfl (lb hb5332) rfl rfl ?_
                refine WPD.pass (b' := false) 5 rfl (by kernel_rfl) rfl rfl (lb hb5332) rfl rfl ?_
                refine WPD.pass (b' := false) 6 rfl (by kernel_rfl) rfl rfl (lb hb5332) rfl rfl ?_
                refine WPD.pass (b' := false) 7 rfl (by kernel_rfl) rfl rfl (lb hb5332) rfl rfl ?_
                refine WPD.pass (b' := false) 8 rfl (by kernel_rfl) rfl rfl (lb hb5332) rfl rfl ?_
                refine WPD.takeT 9 rfl (by kernel_rfl) (q_pickF (v := .lit (.bool _)) (lb hb5332) rfl) rfl ?_
                refine WPD.takeT 10 rfl (by kernel_rfl) (q_mv (v := .lit (.bool _)) rfl) rfl ?_
                refine WPD.pass (b' := false) 11 rfl (by kernel_rfl) rfl rfl rfl rfl rfl ?_
                refine WPD.pass (b' := false) 12 rfl (by kernel_rfl) rfl rfl rfl rfl rfl ?_
                refine WPD.pass (b' := false) 13 rfl (by kernel_rfl) rfl rfl rfl rfl rfl ?_
                refine WPD.pass (b' := false) 14 rfl (by kernel_rfl) rfl rfl rfl rfl rfl ?_
                refine WPD.pass (b' := false) 15 rfl (by kernel_rfl) rfl rfl rfl rfl rfl ?_
                refine WPD.pass (b' := false) 16 rfl (by kernel_rfl) rfl rfl rfl rfl rfl ?_
                refine WPD.pass (b' := false) 17 rfl (by kernel_rfl) rfl rfl rfl rfl rfl ?_
                refine WPD.pass (b' := false) 18 rfl (by kernel_rfl) rfl rfl rfl rfl rfl ?_
                refine WPD.pass (b' := false) 19 rfl (by kernel_rfl) rfl rfl rfl rfl rfl ?_
                refine WPD.takeT 20 rfl (by kernel_rfl) (q_pickF (v := .lit (.bool _)) rfl rfl) rfl ?_
                refine WPD.takeT 21 rfl (by kernel_rfl) (q_mv (v := .lit (.bool _)) rfl) rfl ?_
                refine WPD.pass (b' := false) 22 rfl (by kernel_rfl) rfl rfl rfl rfl rfl ?_
                refine WPD.pass (b' := false) 23 rfl (by kernel_rfl) rfl rfl rfl rfl rfl ?_
                refine WPD.pass (b' := false) 24 rfl (by kernel_rfl) rfl rfl rfl rfl rfl ?_
                refine WPD.pass (b' := false) 25 rfl (by kernel_rfl) rfl rfl rfl rfl rfl ?_
                refine WPD.pass (b' := false) 26 rfl (by kernel_rfl) rfl rfl rfl rfl rfl ?_
                refine WPD.pass (b' := false) 27 rfl (by kernel_rfl) rfl rfl rfl rfl rfl ?_
                refine WPD.pass (b' := false) 28 rfl (by kernel_rfl) rfl rfl rfl rfl rfl ?_
                refine WPD.pass (b' := false) 29 rfl (by kernel_rfl) rfl rfl rfl rfl rfl ?_
                refine WPD.pass (b' := false) 30 rfl (by kernel_rfl) rfl rfl rfl rfl rfl ?_
                refine WPD.pass (b' := false) 31 rfl (by kernel_rfl) rfl rfl rfl rfl rfl ?_
                refine WPD.pass (b' := false) 32 rfl (by kernel_rfl) rfl rfl rfl rfl rfl ?_
                refine WPD.pass (b' := false) 33 rfl (by kernel_rfl) rfl rfl rfl rfl rfl ?_
                refine WPD.pass (b' := false) 34 rfl (by kernel_rfl) rfl rfl rfl rfl rfl ?_
                refine WPD.pass (b' := false) 35 rfl (by kernel_rfl) rfl rfl rfl rfl rfl ?_
                refine WPD.pass (b' := false) 36 rfl (by kernel_rfl) rfl rfl rfl rfl rfl ?_
                refine WPD.pass (b' := false) 37 rfl (by kernel_rfl) rfl rfl rfl rfl rfl ?_
                refine WPD.pass (b' := false) 38 rfl (by kernel_rfl) rfl rfl rfl rfl rfl ?_
                refine WPD.pass (b' := false) 39 rfl (by kernel_rfl) rfl rfl rfl rfl rfl ?_
                refine WPD.pass (b' := false) 40 rfl (by kernel_rfl) rfl rfl rfl rfl rfl ?_
                refine WPD.pass (b' := false) 41 rfl (by kernel_rfl) rfl rfl rfl rfl rfl ?_
                refine WPD.takeT 42 rfl (by kernel_rfl) (q_pickF (v := .lit (.bool _)) rfl rfl) rfl ?_
                refine WPD.doneW (by kernel_rfl) ?_
                refine W.cv (Cv.weak (E' := (((((Env.none.upd 0 (.ro (Rd.slice (Rd.int .i64)) false x2)).upd 3 (.ro (Rd.slice (Rd.int .u32)) false x4696)).upd 5 (.lit (.int .i64 x4827))).upd 6 (.lit (.int .i64 x5141))).upd 74 (.lit (.bool false)))) (M' := Mem.nil) [] hnp ⟨rfl, trivial, by decide, rfl, trivial⟩ (LeE.upd rfl rfl (LeE.upd rfl rfl (LeE.upd rfl rfl (LeE.upd rfl rfl (LeE.upd rfl rfl (LeE.none rfl rfl))))))) rfl ?_
                refine W.now ?_
                have q0 := (Option.some.inj H)
                subst q0
                exact ⟨rfl, rfl, rfl⟩
            · rintro _ _ _ ⟨rfl, rfl, rfl⟩
              refine W.now ?_
              refine Then.n ?_
              refine WP.cond (t := x5320) rfl (fun hb => ?_) (fun hb => ?_)
              · replace H := cnt hb H
                refine WP.seq ?_
                refine WP.region ?_
                refine WPL.q (q_as (v := .lit (.bool _)) rfl) rfl ?_
                refine WPL.nilW ?_
                refine W.now ?_
                refine Then.n ?_
                refine WP.retW ?_
                refine W.cv (Cv.weak (E' := (Env.none.upd 2 (.lit (.bool false)))) (M' := Mem.nil) [] hnp ⟨rfl, trivial, by decide, rfl, trivial⟩ (LeE.upd rfl rfl (LeE.none rfl rfl))) rfl ?_
                refine W.now ?_
                refine InBlock.r ?_
                refine Then.r ?_
                refine Then.r ?_
                have q0 := Option.some.inj H
                subst q0
                exact ⟨rfl, rfl, rfl⟩
              · replace H := cnf hb H
                refine WP.skipW ?_
                refine W.now ?_
                refine InBlock.n ?_
                refine Then.n ?_
                refine WP.region ?_
                refine WPL.q (q_mv (v := .lit (.int _ _)) rfl) rfl ?_
                refine WPL.q (q_add rfl rfl) rfl ?_
                refine WPL.q (q_as (v := .lit (.int _ _)) rfl) rfl ?_
                refine WPL.nilW ?_
                refine W.cv (Cv.weak (E' := ((((Env.none.upd 0 (.ro (Rd.slice (Rd.int .i64)) false x2)).upd 3 (.ro (Rd.slice (Rd.int .u32)) false x4696)).upd 5 (.lit (.int .i64 x4827))).upd 6 (.lit (.int .i64 (IntKind.wrap .i64 (x5141 + 1)))))) (M' := Mem.nil) [] hnp ⟨rfl, trivial, by decide, rfl, trivial⟩ (LeE.upd rfl rfl (LeE.upd rfl rfl (LeE.upd rfl rfl (LeE.upd rfl rfl (LeE.none rfl rfl)))))) rfl ?_
                refine W.now ?_
                exact Then.n ⟨n, (IntKind.wrap .i64 (x5141 + 1)), Nat.lt_succ_self n, H, rfl, rfl⟩
          · replace H := cnf hb H
            refine WP.exitW ?_
            refine W.cv (Cv.weak (E' := (((Env.none.upd 0 (.ro (Rd.slice (Rd.int .i64)) false x2)).upd 3 (.ro (Rd.slice (Rd.int .u32)) false x4696)).upd 5 (.lit (.int .i64 x4827)))) (M' := Mem.nil) [] hnp ⟨rfl, trivial, by decide, rfl, trivial⟩ (LeE.upd rfl rfl (LeE.upd rfl rfl (LeE.upd rfl rfl (LeE.none rfl rfl))))) rfl ?_
            refine W.now ?_
            refine Then.x ?_
            refine Then.x ?_
            have q0 := Option.some.inj H
            subst q0
            exact ⟨rfl, rfl, rfl⟩
        · rcases y5347 with _ | _
          · rintro _ _ _ ⟨rfl, rfl, rfl⟩
            refine W.cv (Cv.weak (E' := (Env.none.upd 2 (.lit (.bool false)))) (M' := Mem.nil) [] hnp ⟨rfl, trivial, by decide, rfl, trivial⟩ (LeE.upd rfl rfl (LeE.none rfl rfl))) rfl ?_
            refine W.now ?_
            refine InBlock.r ?_
            refine InBlock.r ?_
            refine Then.r ?_
            refine Then.r ?_
            have q0 := Option.some.inj H
            subst q0
            exact ⟨rfl, rfl, rfl⟩
          · rintro _ _ _ ⟨rfl, rfl, rfl⟩
            refine W.now ?_
            refine InBlock.x0 ?_
            refine InBlock.n ?_
            refine Then.n ?_
            refine WP.region ?_
            refine WPL.q (q_mv (v := .lit (.int _ _)) rfl) rfl ?_
            refine WPL.q (q_add rfl rfl) rfl ?_
            refine WPL.q (q_as (v := .lit (.int _ _)) rfl) rfl ?_
            refine WPL.nilW ?_
            refine W.cv (Cv.weak (E' := (((Env.none.upd 0 (.ro (Rd.slice (Rd.int .i64)) false x2)).upd 3 (.ro (Rd.slice (Rd.int .u32)) false x4696)).upd 5 (.lit (.int .i64 (IntKind.wrap .i64 (x4827 + 1)))))) (M' := Mem.nil) [] hnp ⟨rfl, trivial, by decide, rfl, trivial⟩ (LeE.upd rfl rfl (LeE.upd rfl rfl (LeE.upd rfl rfl (LeE.none rfl rfl))))) rfl ?_
            refine W.now ?_
            exact Then.n ⟨n, (IntKind.wrap .i64 (x4827 + 1)), Nat.lt_succ_self n, H, rfl, rfl⟩
      · replace H := cnf hb H
        refine WP.exitW ?_
        refine W.cv (Cv.weak (E' := Env.none) (M' := Mem.nil) [] hnp ⟨rfl, trivial, by decide, rfl, trivial⟩ (LeE.none rfl rfl)) rfl ?_
        refine W.now ?_
        refine Then.x ?_
        refine Then.x ?_
        have q0 := Option.some.inj H
        subst q0
        exact ⟨rfl, rfl, rfl⟩
    · rcases y5349 with _ | _
      · rintro _ _ _ ⟨rfl, rfl, rfl⟩
        refine W.now ?_
        refine InBlock.r ?_
        refine Then.r ?_
        have q0 := (Option.some.inj H)
        subst q0
        exact ⟨trivial, _, rfl, [], (.lit (.bool false)), Mem.nil, ⟨rfl, trivial, by decide, rfl, trivial⟩, rfl, rfl, rfl, rfl⟩
      · rintro _ _ _ ⟨rfl, rfl, rfl⟩
        refine W.now ?_
        refine InBlock.x0 ?_
        refine Then.n ?_
        refine WP.seq ?_
        refine WP.region ?_
        obtain ⟨x5351, h5349, H⟩ := bnd H
        refine WPL.c (runs_call (s := []) (t := []) (N := 0) (bor := []) fn10 rfl (s10 k x5351 h5349) ⟨rfl, trivial, by decide, rfl, trivial⟩ rfl trivial .nil rfl trivial rfl) rfl ?_
        refine WPL.q (q_as (v := .lit (.bool _)) rfl) rfl ?_
        refine WPL.nilW ?_
        refine W.now ?_
        refine Then.n ?_
        refine WP.retW ?_
        refine W.now ?_
        have q0 := (Option.some.inj H)
        subst q0
        exact ⟨trivial, _, rfl, [], (.lit (.bool x5351)), Mem.nil, ⟨rfl, trivial, by decide, rfl, trivial⟩, rfl, rfl, rfl, rfl⟩
end Go.Proofs.Ythgbompoldmhmaa.W
