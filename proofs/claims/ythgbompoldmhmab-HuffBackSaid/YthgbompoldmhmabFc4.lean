/- Walks: Fc4 -/
import Derived.Test.YthgbompoldmhmabFb
import Derived.Test.YthgbompoldmhmabFc1
import Derived.Test.YthgbompoldmhmabFc3
namespace Go.Proofs.Ythgbompoldmhmab.W
open Go Go.Q Go.Proofs
set_option linter.unusedVariables false
set_option linter.unusedSimpArgs false
set_option maxRecDepth 100000 in
set_option maxHeartbeats 4000000 in
theorem s_quirelaw02_alive (k : Nat) (x5388 : Bool) (H : g_quirelaw02_alive k = some x5388) : Go.Q.Spec Try.prog 6 0 [] Mem.nil (fun o M => o = .ret (.lit (.bool x5388)) ∧ M = Mem.nil) := by
  unfold g_quirelaw02_alive at H
  refine Go.Q.Spec.of_bodyR (rs := [.tmp 0]) (nt := 90) Try.func6 rfl rfl (by intro t T h; simp at h) rfl rfl fun cx hnp => ?_
  refine WP.seq ?_
  refine WP.region ?_
  refine WPL.q (q_as (v := .lit (.bool _)) rfl) rfl ?_
  refine WPL.nilW ?_
  refine W.now ?_
  refine Then.n ?_
  refine WP.seq ?_
  refine WP.region ?_
  refine WPL.d (d_buildSlice (ds := ([2, 1, 3, 3] : List Int)) (R := (Rd.int .i64)) li22 rfl rfl rfl rfl rfl (JoinRows.cons1 Joins.sc rfl (JoinRows.cons1 Joins.sc rfl (JoinRows.cons1 Joins.sc rfl (JoinRows.cons1 Joins.sc rfl JoinRows.nil)))) rfl rfl) rfl ?_
  obtain ⟨⟨x5390, x5391⟩, h5388, H⟩ := bnd H
  refine WPL.c (runs_call (s := []) (t := []) (N := 1) (bor := [0]) fn4 rfl (s_huff_Codes__b k ([2, 1, 3, 3] : List Int) x5390 x5391 h5388) ⟨rfl, trivial, by decide, rfl, trivial⟩ rfl ⟨trivial, rfl, rfl, trivial⟩ (.row rfl rfl .nil) rfl trivial rfl) rfl ?_
  refine WPL.q (q_mv (v := .tup _) rfl) rfl ?_
  refine WPL.q (q_extract rfl rfl) rfl ?_
  refine WPL.q (q_extract rfl rfl) rfl ?_
  refine WPL.q (q_as (v := .ro _ _ _) rfl) rfl ?_
  refine WPL.q (q_as (v := .lit (.int _ _)) rfl) rfl ?_
  refine WPL.nilW ?_
  refine W.now ?_
  refine Then.n ?_
  refine WP.seq ?_
  refine WP.region ?_
  refine WPL.d (d_buildSlice (ds := ([1, 1, 1] : List Int)) (R := (Rd.int .i64)) li22 rfl rfl rfl rfl rfl (JoinRows.cons1 Joins.sc rfl (JoinRows.cons1 Joins.sc rfl (JoinRows.cons1 Joins.sc rfl JoinRows.nil))) rfl rfl) rfl ?_
  obtain ⟨⟨x5393, x5394⟩, h5391, H⟩ := bnd H
  refine WPL.c (runs_call (s := []) (t := []) (N := 2) (bor := [1]) fn4 rfl (s_huff_Codes__b k ([1, 1, 1] : List Int) x5393 x5394 h5391) ⟨rfl, trivial, by decide, rfl, trivial⟩ rfl ⟨trivial, rfl, rfl, trivial⟩ (.row rfl rfl .nil) rfl trivial rfl) rfl ?_
  refine WPL.q (q_mv (v := .tup _) rfl) rfl ?_
  refine WPL.q (q_extract rfl rfl) rfl ?_
  refine WPL.q (q_extract rfl rfl) rfl ?_
  refine WPL.q (q_as (v := .ro _ _ _) rfl) rfl ?_
  refine WPL.q (q_as (v := .lit (.int _ _)) rfl) rfl ?_
  refine WPL.nilW ?_
  refine W.now ?_
  refine Then.n ?_
  refine WP.seq ?_
  refine WP.region ?_
  refine WPL.d (d_buildSlice (ds := ([5, 1, 1, 0] : List Int)) (R := (Rd.int .i64)) li22 rfl rfl rfl rfl rfl (JoinRows.cons1 Joins.sc rfl (JoinRows.cons1 Joins.sc rfl (JoinRows.cons1 Joins.sc rfl (JoinRows.cons1 Joins.sc rfl JoinRows.nil)))) rfl rfl) rfl ?_
  obtain ⟨⟨x5396, x5397⟩, h5394, H⟩ := bnd H
  refine WPL.c (runs_call (s := []) (t := []) (N := 3) (bor := [2]) fn16 rfl (s_huff_Lengths k ([5, 1, 1, 0] : List Int) 15 x5396 x5397 h5394) ⟨rfl, trivial, by decide, rfl, trivial⟩ rfl ⟨trivial, rfl, rfl, trivial⟩ (.row rfl rfl (.ren rfl rfl .nil)) rfl trivial rfl) rfl ?_
  refine WPL.q (q_mv (v := .tup _) rfl) rfl ?_
  refine WPL.q (q_extract rfl rfl) rfl ?_
  refine WPL.q (q_extract rfl rfl) rfl ?_
  refine WPL.q (q_as (v := .ro _ _ _) rfl) rfl ?_
  refine WPL.q (q_as (v := .lit (.int _ _)) rfl) rfl ?_
  refine WPL.nilW ?_
  refine W.now ?_
  refine Then.n ?_
  refine WP.seq ?_
  obtain ⟨x5420, H5442, H⟩ := bnd H
  refine WP.monoW (Q := fun x E M => x = .normal ∧ E = (Env.none.upd 0 (.lit (.bool x5420))) ∧ M = Mem.nil) ?_ ?_
  · clear H
    have H := H5442
    clear H5442
    refine WP.region ?_
    refine WPL.q (q_mv (v := .lit (.int _ _)) rfl) rfl ?_
    refine WPL.q (q_eql rfl rfl) rfl ?_
    refine WPL.q (q_mv (v := .lit (.bool _)) rfl) rfl ?_
    refine WPL.split (t := 24) (b := (decide (x5391 = 0))) rfl (fun hb5420 => ?_) (fun hb5420 => ?_)
    · replace H := cnt hb5420 H
      refine WPL.qg rfl rfl (lb hb5420) (q_mv (v := .ro _ _ _) rfl) rfl ?_
      refine WPL.qg rfl rfl (lb hb5420) (q_len_ro sl23 rfl) rfl ?_
      obtain ⟨x5422, h5422, H⟩ := bnd H
      refine WPL.qg rfl rfl (lb hb5420) (q_nm (q_eql rfl rfl) (nm_bool h5422)) rfl ?_
      refine WPL.q (q_pickT (v := .lit (.bool _)) (lb hb5420) rfl) rfl ?_
      refine WPL.q (q_mv (v := .lit (.bool _)) rfl) rfl ?_
      refine WPL.split (t := 29) (b := x5422) rfl (fun hb5422 => ?_) (fun hb5422 => ?_)
      · replace H := cnt hb5422 H
        refine WPL.qg rfl rfl (lb hb5422) (q_mv (v := .ro _ _ _) rfl) rfl ?_
        obtain ⟨x5424, h5424, H⟩ := bnd H
        refine WPL.qg rfl rfl (lb hb5422) (q_index_ro sl23 rfl rfl rfl h5424) rfl ?_
        refine WPL.qg rfl rfl (lb hb5422) (q_load_sc sc34 rfl) rfl ?_
        refine WPL.qg rfl rfl (lb hb5422) (q_eql rfl rfl) rfl ?_
        refine WPL.q (q_pickT (v := .lit (.bool _)) (lb hb5422) rfl) rfl ?_
        refine WPL.q (q_mv (v := .lit (.bool _)) rfl) rfl ?_
        refine WPL.split (t := 35) (b := (decide (x5424 = 2))) rfl (fun hb5424 => ?_) (fun hb5424 => ?_)
        · replace H := cnt hb5424 H
          refine WPL.qg rfl rfl (lb hb5424) (q_mv (v := .ro _ _ _) rfl) rfl ?_
          obtain ⟨x5426, h5426, H⟩ := bnd H
          refine WPL.qg rfl rfl (lb hb5424) (q_index_ro sl23 rfl rfl rfl h5426) rfl ?_
          refine WPL.qg rfl rfl (lb hb5424) (q_load_sc sc34 rfl) rfl ?_
          refine WPL.qg rfl rfl (lb hb5424) (q_eql rfl rfl) rfl ?_
          refine WPL.q (q_pickT (v := .lit (.bool _)) (lb hb5424) rfl) rfl ?_
          refine WPL.q (q_mv (v := .lit (.bool _)) rfl) rfl ?_
          refine WPL.split (t := 41) (b := (decide (x5426 = 0))) rfl (fun hb5426 => ?_) (fun hb5426 => ?_)
          · replace H := cnt hb5426 H
            refine WPL.qg rfl rfl (lb hb5426) (q_mv (v := .ro _ _ _) rfl) rfl ?_
            obtain ⟨x5428, h5428, H⟩ := bnd H
            refine WPL.qg rfl rfl (lb hb5426) (q_index_ro sl23 rfl rfl rfl h5428) rfl ?_
            refine WPL.qg rfl rfl (lb hb5426) (q_load_sc sc34 rfl) rfl ?_
            refine WPL.qg rfl rfl (lb hb5426) (q_eql rfl rfl) rfl ?_
            refine WPL.q (q_pickT (v := .lit (.bool _)) (lb hb5426) rfl) rfl ?_
            refine WPL.q (q_mv (v := .lit (.bool _)) rfl) rfl ?_
            refine WPL.split (t := 47) (b := (decide (x5428 = 6))) rfl (fun hb5428 => ?_) (fun hb5428 => ?_)
            · replace H := cnt hb5428 H
              refine WPL.qg rfl rfl (lb hb5428) (q_mv (v := .ro _ _ _) rfl) rfl ?_
              obtain ⟨x5430, h5430, H⟩ := bnd H
              refine WPL.qg rfl rfl (lb hb5428) (q_index_ro sl23 rfl rfl rfl h5430) rfl ?_
              refine WPL.qg rfl rfl (lb hb5428) (q_load_sc sc34 rfl) rfl ?_
              refine WPL.qg rfl rfl (lb hb5428) (q_eql rfl rfl) rfl ?_
              refine WPL.q (q_pickT (v := .lit (.bool _)) (lb hb5428) rfl) rfl ?_
              refine WPL.q (q_mv (v := .lit (.bool _)) rfl) rfl ?_
              refine WPL.split (t := 53) (b := (decide (x5430 = 7))) rfl (fun hb5430 => ?_) (fun hb5430 => ?_)
              · replace H := cnt hb5430 H
                refine WPL.qg rfl rfl (lb hb5430) (q_mv (v := .lit (.int _ _)) rfl) rfl ?_
                refine WPL.qg rfl rfl (lb hb5430) (q_eql rfl rfl) rfl ?_
                refine WPL.q (q_pickT (v := .lit (.bool _)) (lb hb5430) rfl) rfl ?_
                refine WPL.q (q_mv (v := .lit (.bool _)) rfl) rfl ?_
                refine WPL.split (t := 57) (b := (decide (x5394 = 11))) rfl (fun hb5431 => ?_) (fun hb5431 => ?_)
                · replace H := cnt hb5431 H
                  refine WPL.qg rfl rfl (lb hb5431) (q_mv (v := .lit (.int _ _)) rfl) rfl ?_
                  refine WPL.qg rfl rfl (lb hb5431) (q_eql rfl rfl) rfl ?_
                  refine WPL.q (q_pickT (v := .lit (.bool _)) (lb hb5431) rfl) rfl ?_
                  refine WPL.q (q_mv (v := .lit (.bool _)) rfl) rfl ?_
                  refine WPL.split (t := 61) (b := (decide (x5397 = 0))) rfl (fun hb5432 => ?_) (fun hb5432 => ?_)
                  · replace H := cnt hb5432 H
                    refine WPL.qg rfl rfl (lb hb5432) (q_mv (v := .ro _ _ _) rfl) rfl ?_
                    refine WPL.qg rfl rfl (lb hb5432) (q_len_ro sl22 rfl) rfl ?_
                    obtain ⟨x5434, h5434, H⟩ := bnd H
                    refine WPL.qg rfl rfl (lb hb5432) (q_nm (q_eql rfl rfl) (nm_bool h5434)) rfl ?_
                    refine WPL.q (q_pickT (v := .lit (.bool _)) (lb hb5432) rfl) rfl ?_
                    refine WPL.q (q_mv (v := .lit (.bool _)) rfl) rfl ?_
                    refine WPL.split (t := 66) (b := x5434) rfl (fun hb5434 => ?_) (fun hb5434 => ?_)
                    · replace H := cnt hb5434 H
                      refine WPL.qg rfl rfl (lb hb5434) (q_mv (v := .ro _ _ _) rfl) rfl ?_
                      obtain ⟨x5436, h5436, H⟩ := bnd H
                      refine WPL.qg rfl rfl (lb hb5434) (q_index_ro sl22 rfl rfl rfl h5436) rfl ?_
                      refine WPL.qg rfl rfl (lb hb5434) (q_load_sc sc3 rfl) rfl ?_
                      refine WPL.qg rfl rfl (lb hb5434) (q_eql rfl rfl) rfl ?_
                      refine WPL.q (q_pickT (v := .lit (.bool _)) (lb hb5434) rfl) rfl ?_
                      refine WPL.q (q_mv (v := .lit (.bool _)) rfl) rfl ?_
                      refine WPL.split (t := 72) (b := (decide (x5436 = 1))) rfl (fun hb5436 => ?_) (fun hb5436 => ?_)
                      · replace H := cnt hb5436 H
                        refine WPL.qg rfl rfl (lb hb5436) (q_mv (v := .ro _ _ _) rfl) rfl ?_
                        obtain ⟨x5438, h5438, H⟩ := bnd H
                        refine WPL.qg rfl rfl (lb hb5436) (q_index_ro sl22 rfl rfl rfl h5438) rfl ?_
                        refine WPL.qg rfl rfl (lb hb5436) (q_load_sc sc3 rfl) rfl ?_
                        refine WPL.qg rfl rfl (lb hb5436) (q_eql rfl rfl) rfl ?_
                        refine WPL.q (q_pickT (v := .lit (.bool _)) (lb hb5436) rfl) rfl ?_
                        refine WPL.q (q_mv (v := .lit (.bool _)) rfl) rfl ?_
                        refine WPL.split (t := 78) (b := (decide (x5438 = 2))) rfl (fun hb5438 => ?_) (fun hb5438 => ?_)
                        · replace H := cnt hb5438 H
                          refine WPL.qg rfl rfl (lb hb5438) (q_mv (v := .ro _ _ _) rfl) rfl ?_
                          obtain ⟨x5440, h5440, H⟩ := bnd H
                          refine WPL.qg rfl rfl (lb hb5438) (q_index_ro sl22 rfl rfl rfl h5440) rfl ?_
                          refine WPL.qg rfl rfl (lb hb5438) (q_load_sc sc3 rfl) rfl ?_
                          refine WPL.qg rfl rfl (lb hb5438) (q_eql rfl rfl) rfl ?_
                          refine WPL.q (q_pickT (v := .lit (.bool _)) (lb hb5438) rfl) rfl ?_
                          refine WPL.q (q_mv (v := .lit (.bool _)) rfl) rfl ?_
                          refine WPL.split (t := 84) (b := (decide (x5440 = 2))) rfl (fun hb5440 => ?_) (fun hb5440 => ?_)
                          · replace H := cnt hb5440 H
                            refine WPL.qg rfl rfl (lb hb5440) (q_mv (v := .ro _ _ _) rfl) rfl ?_
                            obtain ⟨x5442, h5442, H⟩ := bnd H
                            refine WPL.qg rfl rfl (lb hb5440) (q_index_ro sl22 rfl rfl rfl h5442) rfl ?_
                            refine WPL.qg rfl rfl (lb hb5440) (q_load_sc sc3 rfl) rfl ?_
                            refine WPL.qg rfl rfl (lb hb5440) (q_eql rfl rfl) rfl ?_
                            refine WPL.q (q_pickT (v := .lit (.bool _)) (lb hb5440) rfl) rfl ?_
                            refine WPL.q (q_as (v := .lit (.bool _)) rfl) rfl ?_
                            refine WPL.nilW ?_
                            refine W.cv (Cv.weak (E' := (Env.none.upd 0 (.lit (.bool (decide (x5442 = 0)))))) (M' := Mem.nil) [] hnp ⟨rfl, trivial, by decide, rfl, trivial⟩ (LeE.upd rfl rfl (LeE.none rfl rfl))) rfl ?_
                            refine W.now ?_
                            have q0 := (Option.some.inj H)
                            subst q0
                            exact ⟨rfl, rfl, rfl⟩
                          · replace H := cnf hb5440 H
                            refine WPL.skipg (b' := false) rfl rfl (lb hb5440) rfl rfl ?_
                            refine WPL.skipg (b' := false) rfl rfl (lb hb5440) rfl rfl ?_
                            refine WPL.skipg (b' := false) rfl rfl (lb hb5440) rfl rfl ?_
                            refine WPL.skipg (b' := false) rfl rfl (lb hb5440) rfl rfl ?_
                            refine WPL.q (q_pickF (v := .lit (.bool _)) (lb hb5440) rfl) rfl ?_
                            refine WPL.q (q_as (v := .lit (.bool _)) rfl) rfl ?_
                            refine WPL.nilW ?_
                            refine W.cv (Cv.weak (E' := (Env.none.upd 0 (.lit (.bool false)))) (M' := Mem.nil) [] hnp ⟨rfl, trivial, by decide, rfl, trivial⟩ (LeE.upd rfl rfl (LeE.none rfl rfl))) rfl ?_
                            refine W.now ?_
                            have q0 := (Option.some.inj H)
                            subst q0
                            exact ⟨rfl, rfl, rfl⟩
                        · replace H := cnf hb5438 H
                          refine WPL.skipg (b' := false) rfl rfl (lb hb5438) rfl rfl ?_
                          refine WPL.skipg (b' := false) rfl rfl (lb hb5438) rfl rfl ?_
                          refine WPL.skipg (b' := false) rfl rfl (lb hb5438) rfl rfl ?_
                          refine WPL.skipg (b' := false) rfl rfl (lb hb5438) rfl rfl ?_
                          refine WPL.q (q_pickF (v := .lit (.bool _)) (lb hb5438) rfl) rfl ?_
                          refine WPL.q (q_mv (v := .lit (.bool _)) rfl) rfl ?_
                          refine WPL.skipg (b' := false) rfl rfl rfl rfl rfl ?_
                          refine WPL.skipg (b' := false) rfl rfl rfl rfl rfl ?_
                          refine WPL.skipg (b' := false) rfl rfl rfl rfl rfl ?_
                          refine WPL.skipg (b' := false) rfl rfl rfl rfl rfl ?_
                          refine WPL.q (q_pickF (v := .lit (.bool _)) rfl rfl) rfl ?_
                          refine WPL.q (q_as (v := .lit (.bool _)) rfl) rfl ?_
                          refine WPL.nilW ?_
                          refine W.cv (Cv.weak (E' := (Env.none.upd 0 (.lit (.bool false)))) (M' := Mem.nil) [] hnp ⟨rfl, trivial, by decide, rfl, trivial⟩ (LeE.upd rfl rfl (LeE.none rfl rfl))) rfl ?_
                          refine W.now ?_
                          have q0 := (Option.some.inj H)
                          subst q0
                          exact ⟨rfl, rfl, rfl⟩
                      · replace H := cnf hb5436 H
                        refine WPL.skipg (b' := false) rfl rfl (lb hb5436) rfl rfl ?_
                        refine WPL.skipg (b' := false) rfl rfl (lb hb5436) rfl rfl ?_
                        refine WPL.skipg (b' := false) rfl rfl (lb hb5436) rfl rfl ?_
                        refine WPL.skipg (b' := false) rfl rfl (lb hb5436) rfl rfl ?_
                        refine WPL.q (q_pickF (v := .lit (.bool _)) (lb hb5436) rfl) rfl ?_
                        refine WPL.q (q_mv (v := .lit (.bool _)) rfl) rfl ?_
                        refine WPL.skipg (b' := false) rfl rfl rfl rfl rfl ?_
                        refine WPL.skipg (b' := false) rfl rfl rfl rfl rfl ?_
                        refine WPL.skipg (b' := false) rfl rfl rfl rfl rfl ?_
                        refine WPL.skipg (b' := false) rfl rfl rfl rfl rfl ?_
                        refine WPL.q (q_pickF (v := .lit (.bool _)) rfl rfl) rfl ?_
                        refine WPL.q (q_mv (v := .lit (.bool _)) rfl) rfl ?_
                        refine WPL.skipg (b' := false) rfl rfl rfl rfl rfl ?_
                        refine WPL.skipg (b' := false) rfl rfl rfl rfl rfl ?_
                        refine WPL.skipg (b' := false) rfl rfl rfl rfl rfl ?_
                        refine WPL.skipg (b' := false) rfl rfl rfl rfl rfl ?_
                        refine WPL.q (q_pickF (v := .lit (.bool _)) rfl rfl) rfl ?_
                        refine WPL.q (q_as (v := .lit (.bool _)) rfl) rfl ?_
                        refine WPL.nilW ?_
                        refine W.cv (Cv.weak (E' := (Env.none.upd 0 (.lit (.bool false)))) (M' := Mem.nil) [] hnp ⟨rfl, trivial, by decide, rfl, trivial⟩ (LeE.upd rfl rfl (LeE.none rfl rfl))) rfl ?_
                        refine W.now ?_
                        have q0 := (Option.some.inj H)
                        subst q0
                        exact ⟨rfl, rfl, rfl⟩
                    · replace H := cnf hb5434 H
                      refine WPL.skipg (b' := false) rfl rfl (lb hb5434) rfl rfl ?_
                      refine WPL.skipg (b' := false) rfl rfl (lb hb5434) rfl rfl ?_
                      refine WPL.skipg (b' := false) rfl rfl (lb hb5434) rfl rfl ?_
                      refine WPL.skipg (b' := false) rfl rfl (lb hb5434) rfl rfl ?_
                      refine WPL.q (q_pickF (v := .lit (.bool _)) (lb hb5434) rfl) rfl ?_
                      refine WPL.q (q_mv (v := .lit (.bool _)) rfl) rfl ?_
                      refine WPL.skipg (b' := false) rfl rfl rfl rfl rfl ?_
                      refine WPL.skipg (b' := false) rfl rfl rfl rfl rfl ?_
                      refine WPL.skipg (b' := false) rfl rfl rfl rfl rfl ?_
                      refine WPL.skipg (b' := false) rfl rfl rfl rfl rfl ?_
                      refine WPL.q (q_pickF (v := .lit (.bool _)) rfl rfl) rfl ?_
                      refine WPL.q (q_mv (v := .lit (.bool _)) rfl) rfl ?_
                      refine WPL.skipg (b' := false) rfl rfl rfl rfl rfl ?_
                      refine WPL.skipg (b' := false) rfl rfl rfl rfl rfl ?_
                      refine WPL.skipg (b' := false) rfl rfl rfl rfl rfl ?_
                      refine WPL.skipg (b' := false) rfl rfl rfl rfl rfl ?_
                      refine WPL.q (q_pickF (v := .lit (.bool _)) rfl rfl) rfl ?_
                      refine WPL.q (q_mv (v := .lit (.bool _)) rfl) rfl ?_
                      refine WPL.skipg (b' := false) rfl rfl rfl rfl rfl ?_
                      refine WPL.skipg (b' := false) rfl rfl rfl rfl rfl ?_
                      refine WPL.skipg (b' := false) rfl rfl rfl rfl rfl ?_
                      refine WPL.skipg (b' := false) rfl rfl rfl rfl rfl ?_
                      refine WPL.q (q_pickF (v := .lit (.bool _)) rfl rfl) rfl ?_
                      refine WPL.q (q_as (v := .lit (.bool _)) rfl) rfl ?_
                      refine WPL.nilW ?_
                      refine W.cv (Cv.weak (E' := (Env.none.upd 0 (.lit (.bool false)))) (M' := Mem.nil) [] hnp ⟨rfl, trivial, by decide, rfl, trivial⟩ (LeE.upd rfl rfl (LeE.none rfl rfl))) rfl ?_
                      refine W.now ?_
                      have q0 := (Option.some.inj H)
                      subst q0
                      exact ⟨rfl, rfl, rfl⟩
                  · replace H := cnf hb5432 H
                    refine WPL.skipg (b' := false) rfl rfl (lb hb5432) rfl rfl ?_
                    refine WPL.skipg (b' := false) rfl rfl (lb hb5432) rfl rfl ?_
                    refine WPL.skipg (b' := false) rfl rfl (lb hb5432) rfl rfl ?_
                    refine WPL.q (q_pickF (v := .lit (.bool _)) (lb hb5432) rfl) rfl ?_
                    refine WPL.q (q_mv (v := .lit (.bool _)) rfl) rfl ?_
                    refine WPL.skipg (b' := false) rfl rfl rfl rfl rfl ?_
                    refine WPL.skipg (b' := false) rfl rfl rfl rfl rfl ?_
                    refine WPL.skipg (b' := false) rfl rfl rfl rfl rfl ?_
                    refine WPL.skipg (b' := false) rfl rfl rfl rfl rfl ?_
                    refine WPL.q (q_pickF (v := .lit (.bool _)) rfl rfl) rfl ?_
                    refine WPL.q (q_mv (v := .lit (.bool _)) rfl) rfl ?_
                    refine WPL.skipg (b' := false) rfl rfl rfl rfl rfl ?_
                    refine WPL.skipg (b' := false) rfl rfl rfl rfl rfl ?_
                    refine WPL.skipg (b' := false) rfl rfl rfl rfl rfl ?_
                    refine WPL.skipg (b' := false) rfl rfl rfl rfl rfl ?_
                    refine WPL.q (q_pickF (v := .lit (.bool _)) rfl rfl) rfl ?_
                    refine WPL.q (q_mv (v := .lit (.bool _)) rfl) rfl ?_
                    refine WPL.skipg (b' := false) rfl rfl rfl rfl rfl ?_
                    refine WPL.skipg (b' := false) rfl rfl rfl rfl rfl ?_
                    refine WPL.skipg (b' := false) rfl rfl rfl rfl rfl ?_
                    refine WPL.skipg (b' := false) rfl rfl rfl rfl rfl ?_
                    refine WPL.q (q_pickF (v := .lit (.bool _)) rfl rfl) rfl ?_
                    refine WPL.q (q_mv (v := .lit (.bool _)) rfl) rfl ?_
                    refine WPL.skipg (b' := false) rfl rfl rfl rfl rfl ?_
                    refine WPL.skipg (b' := false) rfl rfl rfl rfl rfl ?_
                    refine WPL.skipg (b' := false) rfl rfl rfl rfl rfl ?_
                    refine WPL.skipg (b' := false) rfl rfl rfl rfl rfl ?_
                    refine WPL.q (q_pickF (v := .lit (.bool _)) rfl rfl) rfl ?_
                    refine WPL.q (q_as (v := .lit (.bool _)) rfl) rfl ?_
                    refine WPL.nilW ?_
                    refine W.cv (Cv.weak (E' := (Env.none.upd 0 (.lit (.bool false)))) (M' := Mem.nil) [] hnp ⟨rfl, trivial, by decide, rfl, trivial⟩ (LeE.upd rfl rfl (LeE.none rfl rfl))) rfl ?_
                    refine W.now ?_
                    have q0 := (Option.some.inj H)
                    subst q0
                    exact ⟨rfl, rfl, rfl⟩
                · replace H := cnf hb5431 H
                  refine WPL.skipg (b' := false) rfl rfl (lb hb5431) rfl rfl ?_
                  refine WPL.skipg (b' := false) rfl rfl (lb hb5431) rfl rfl ?_
                  refine WPL.q (q_pickF (v := .lit (.bool _)) (lb hb5431) rfl) rfl ?_
                  refine WPL.q (q_mv (v := .lit (.bool _)) rfl) rfl ?_
                  refine WPL.skipg (b' := false) rfl rfl rfl rfl rfl ?_
                  refine WPL.skipg (b' := false) rfl rfl rfl rfl rfl ?_
                  refine WPL.skipg (b' := false) rfl rfl rfl rfl rfl ?_
                  refine WPL.q (q_pickF (v := .lit (.bool _)) rfl rfl) rfl ?_
                  refine WPL.q (q_mv (v := .lit (.bool _)) rfl) rfl ?_
                  refine WPL.skipg (b' := false) rfl rfl rfl rfl rfl ?_
                  refine WPL.skipg (b' := false) rfl rfl rfl rfl rfl ?_
                  refine WPL.skipg (b' := false) rfl rfl rfl rfl rfl ?_
                  refine WPL.skipg (b' := false) rfl rfl rfl rfl rfl ?_
                  refine WPL.q (q_pickF (v := .lit (.bool _)) rfl rfl) rfl ?_
                  refine WPL.q (q_mv (v := .lit (.bool _)) rfl) rfl ?_
                  refine WPL.skipg (b' := false) rfl rfl rfl rfl rfl ?_
                  refine WPL.skipg (b' := false) rfl rfl rfl rfl rfl ?_
                  refine WPL.skipg (b' := false) rfl rfl rfl rfl rfl ?_
                  refine WPL.skipg (b' := false) rfl rfl rfl rfl rfl ?_
                  refine WPL.q (q_pickF (v := .lit (.bool _)) rfl rfl) rfl ?_
                  refine WPL.q (q_mv (v := .lit (.bool _)) rfl) rfl ?_
                  refine WPL.skipg (b' := false) rfl rfl rfl rfl rfl ?_
                  refine WPL.skipg (b' := false) rfl rfl rfl rfl rfl ?_
                  refine WPL.skipg (b' := false) rfl rfl rfl rfl rfl ?_
                  refine WPL.skipg (b' := false) rfl rfl rfl rfl rfl ?_
                  refine WPL.q (q_pickF (v := .lit (.bool _)) rfl rfl) rfl ?_
                  refine WPL.q (q_mv (v := .lit (.bool _)) rfl) rfl ?_
                  refine WPL.skipg (b' := false) rfl rfl rfl rfl rfl ?_
                  refine WPL.skipg (b' := false) rfl rfl rfl rfl rfl ?_
                  refine WPL.skipg (b' := false) rfl rfl rfl rfl rfl ?_
                  refine WPL.skipg (b' := false) rfl rfl rfl rfl rfl ?_
                  refine WPL.q (q_pickF (v := .lit (.bool _)) rfl rfl) rfl ?_
                  refine WPL.q (q_as (v := .lit (.bool _)) rfl) rfl ?_
                  refine WPL.nilW ?_
                  refine W.cv (Cv.weak (E' := (Env.none.upd 0 (.lit (.bool false)))) (M' := Mem.nil) [] hnp ⟨rfl, trivial, by decide, rfl, trivial⟩ (LeE.upd rfl rfl (LeE.none rfl rfl))) rfl ?_
                  refine W.now ?_
                  have q0 := (Option.some.inj H)
                  subst q0
                  exact ⟨rfl, rfl, rfl⟩
              · replace H := cnf hb5430 H
                refine WPL.skipg (b' := false) rfl rfl (lb hb5430) rfl rfl ?_
                refine WPL.skipg (b' := false) rfl rfl (lb hb5430) rfl rfl ?_
                refine WPL.q (q_pickF (v := .lit (.bool _)) (lb hb5430) rfl) rfl ?_
                refine WPL.q (q_mv (v := .lit (.bool _)) rfl) rfl ?_
                refine WPL.skipg (b' := false) rfl rfl rfl rfl rfl ?_
                refine WPL.skipg (b' := false) rfl rfl rfl rfl rfl ?_
                refine WPL.q (q_pickF (v := .lit (.bool _)) rfl rfl) rfl ?_
                refine WPL.q (q_mv (v := .lit (.bool _)) rfl) rfl ?_
                refine WPL.skipg (b' := false) rfl rfl rfl rfl rfl ?_
                refine WPL.skipg (b' := false) rfl rfl rfl rfl rfl ?_
                refine WPL.skipg (b' := false) rfl rfl rfl rfl rfl ?_
                refine WPL.q (q_pickF (v := .lit (.bool _)) rfl rfl) rfl ?_
                refine WPL.q (q_mv (v := .lit (.bool _)) rfl) rfl ?_
                refine WPL.skipg (b' := false) rfl rfl rfl rfl rfl ?_
                refine WPL.skipg (b' := false) rfl rfl rfl rfl rfl ?_
                refine WPL.skipg (b' := false) rfl rfl rfl rfl rfl ?_
                refine WPL.skipg (b' := false) rfl rfl rfl rfl rfl ?_
                refine WPL.q (q_pickF (v := .lit (.bool _)) rfl rfl) rfl ?_
                refine WPL.q (q_mv (v := .lit (.bool _)) rfl) rfl ?_
                refine WPL.skipg (b' := false) rfl rfl rfl rfl rfl ?_
                refine WPL.skipg (b' := false) rfl rfl rfl rfl rfl ?_
                refine WPL.skipg (b' := false) rfl rfl rfl rfl rfl ?_
                refine WPL.skipg (b' := false) rfl rfl rfl rfl rfl ?_
                refine WPL.q (q_pickF (v := .lit (.bool _)) rfl rfl) rfl ?_
                refine WPL.q (q_mv (v := .lit (.bool _)) rfl) rfl ?_
                refine WPL.skipg (b' := false) rfl rfl rfl rfl rfl ?_
                refine WPL.skipg (b' := false) rfl rfl rfl rfl rfl ?_
                refine WPL.skipg (b' := false) rfl rfl rfl rfl rfl ?_
                refine WPL.skipg (b' := false) rfl rfl rfl rfl rfl ?_
                refine WPL.q (q_pickF (v := .lit (.bool _)) rfl rfl) rfl ?_
                refine WPL.q (q_mv (v := .lit (.bool _)) rfl) rfl ?_
                refine WPL.skipg (b' := false) rfl rfl rfl rfl rfl ?_
                refine WPL.skipg (b' := false) rfl rfl rfl rfl rfl ?_
                refine WPL.skipg (b' := false) rfl rfl rfl rfl rfl ?_
                refine WPL.skipg (b' := false) rfl rfl rfl rfl rfl ?_
                refine WPL.q (q_pickF (v := .lit (.bool _)) rfl rfl) rfl ?_
                refine WPL.q (q_as (v := .lit (.bool _)) rfl) rfl ?_
                refine WPL.nilW ?_
                refine W.cv (Cv.weak (E' := (Env.none.upd 0 (.lit (.bool false)))) (M' := Mem.nil) [] hnp ⟨rfl, trivial, by decide, rfl, trivial⟩ (LeE.upd rfl rfl (LeE.none rfl rfl))) rfl ?_
                refine W.now ?_
                have q0 := (Option.some.inj H)
                subst q0
                exact ⟨rfl, rfl, rfl⟩
            · replace H := cnf hb5428 H
              refine WPL.skipg (b' := false) rfl rfl (lb hb5428) rfl rfl ?_
              refine WPL.skipg (b' := false) rfl rfl (lb hb5428) rfl rfl ?_
              refine WPL.skipg (b' := false) rfl rfl (lb hb5428) rfl rfl ?_
              refine WPL.skipg (b' := false) rfl rfl (lb hb5428) rfl rfl ?_
              refine WPL.q (q_pickF (v := .lit (.bool _)) (lb hb5428) rfl) rfl ?_
              refine WPL.q (q_mv (v := .lit (.bool _)) rfl) rfl ?_
              refine WPL.skipg (b' := false) rfl rfl rfl rfl rfl ?_
              refine WPL.skipg (b' := false) rfl rfl rfl rfl rfl ?_
              refine WPL.q (q_pickF (v := .lit (.bool _)) rfl rfl) rfl ?_
              refine WPL.q (q_mv (v := .lit (.bool _)) rfl) rfl ?_
              refine WPL.skipg (b' := false) rfl rfl rfl rfl rfl ?_
              refine WPL.skipg (b' := false) rfl rfl rfl rfl rfl ?_
              refine WPL.q (q_pickF (v := .lit (.bool _)) rfl rfl) rfl ?_
              refine WPL.q (q_mv (v := .lit (.bool _)) rfl) rfl ?_
              refine WPL.skipg (b' := false) rfl rfl rfl rfl rfl ?_
              refine WPL.skipg (b' := false) rfl rfl rfl rfl rfl ?_
              refine WPL.skipg (b' := false) rfl rfl rfl rfl rfl ?_
              refine WPL.q (q_pickF (v := .lit (.bool _)) rfl rfl) rfl ?_
              refine WPL.q (q_mv (v := .lit (.bool _)) rfl) rfl ?_
              refine WPL.skipg (b' := false) rfl rfl rfl rfl rfl ?_
              refine WPL.skipg (b' := false) rfl rfl rfl rfl rfl ?_
              refine WPL.skipg (b' := false) rfl rfl rfl rfl rfl ?_
              refine WPL.skipg (b' := false) rfl rfl rfl rfl rfl ?_
              refine WPL.q (q_pickF (v := .lit (.bool _)) rfl rfl) rfl ?_
              refine WPL.q (q_mv (v := .lit (.bool _)) rfl) rfl ?_
              refine WPL.skipg (b' := false) rfl rfl rfl rfl rfl ?_
              refine WPL.skipg (b' := false) rfl rfl rfl rfl rfl ?_
              refine WPL.skipg (b' := false) rfl rfl rfl rfl rfl ?_
              refine WPL.skipg (b' := false) rfl rfl rfl rfl rfl ?_
              refine WPL.q (q_pickF (v := .lit (.bool _)) rfl rfl) rfl ?_
              refine WPL.q (q_mv (v := .lit (.bool _)) rfl) rfl ?_
              refine WPL.skipg (b' := false) rfl rfl rfl rfl rfl ?_
              refine WPL.skipg (b' := false) rfl rfl rfl rfl rfl ?_
              refine WPL.skipg (b' := false) rfl rfl rfl rfl rfl ?_
              refine WPL.skipg (b' := false) rfl rfl rfl rfl rfl ?_
              refine WPL.q (q_pickF (v := .lit (.bool _)) rfl rfl) rfl ?_
              refine WPL.q (q_mv (v := .lit (.bool _)) rfl) rfl ?_
              refine WPL.skipg (b' := false) rfl rfl rfl rfl rfl ?_
              refine WPL.skipg (b' := false) rfl rfl rfl rfl rfl ?_
              refine WPL.skipg (b' := false) rfl rfl rfl rfl rfl ?_
              refine WPL.skipg (b' := false) rfl rfl rfl rfl rfl ?_
              refine WPL.q (q_pickF (v := .lit (.bool _)) rfl rfl) rfl ?_
              refine WPL.q (q_as (v := .lit (.bool _)) rfl) rfl ?_
              refine WPL.nilW ?_
              refine W.cv (Cv.weak (E' := (Env.none.upd 0 (.lit (.bool false)))) (M' := Mem.nil) [] hnp ⟨rfl, trivial, by decide, rfl, trivial⟩ (LeE.upd rfl rfl (LeE.none rfl rfl))) rfl ?_
              refine W.now ?_
              have q0 := (Option.some.inj H)
              subst q0
              exact ⟨rfl, rfl, rfl⟩
          · replace H := cnf hb5426 H
            refine WPL.skipg (b' := false) rfl rfl (lb hb5426) rfl rfl ?_
            refine WPL.skipg (b' := false) rfl rfl (lb hb5426) rfl rfl ?_
            refine WPL.skipg (b' := false) rfl rfl (lb hb5426) rfl rfl ?_
            refine WPL.skipg (b' := false) rfl rfl (lb hb5426) rfl rfl ?_
            refine WPL.q (q_pickF (v := .lit (.bool _)) (lb hb5426) rfl) rfl ?_
            refine WPL.q (q_mv (v := .lit (.bool _)) rfl) rfl ?_
            refine WPL.skipg (b' := false) rfl rfl rfl rfl rfl ?_
            refine WPL.skipg (b' := false) rfl rfl rfl rfl rfl ?_
            refine WPL.skipg (b' := false) rfl rfl rfl rfl rfl ?_
            refine WPL.skipg (b' := false) rfl rfl rfl rfl rfl ?_
            refine WPL.q (q_pickF (v := .lit (.bool _)) rfl rfl) rfl ?_
            refine WPL.q (q_mv (v := .lit (.bool _)) rfl) rfl ?_
            refine WPL.skipg (b' := false) rfl rfl rfl rfl rfl ?_
            refine WPL.skipg (b' := false) rfl rfl rfl rfl rfl ?_
            refine WPL.q (q_pickF (v := .lit (.bool _)) rfl rfl) rfl ?_
            refine WPL.q (q_mv (v := .lit (.bool _)) rfl) rfl ?_
            refine WPL.skipg (b' := false) rfl rfl rfl rfl rfl ?_
            refine WPL.skipg (b' := false) rfl rfl rfl rfl rfl ?_
            refine WPL.q (q_pickF (v := .lit (.bool _)) rfl rfl) rfl ?_
            refine WPL.q (q_mv (v := .lit (.bool _)) rfl) rfl ?_
            refine WPL.skipg (b' := false) rfl rfl rfl rfl rfl ?_
            refine WPL.skipg (b' := false) rfl rfl rfl rfl rfl ?_
            refine WPL.skipg (b' := false) rfl rfl rfl rfl rfl ?_
            refine WPL.q (q_pickF (v := .lit (.bool _)) rfl rfl) rfl ?_
            refine WPL.q (q_mv (v := .lit (.bool _)) rfl) rfl ?_
            refine WPL.skipg (b' := false) rfl rfl rfl rfl rfl ?_
            refine WPL.skipg (b' := false) rfl rfl rfl rfl rfl ?_
            refine WPL.skipg (b' := false) rfl rfl rfl rfl rfl ?_
            refine WPL.skipg (b' := false) rfl rfl rfl rfl rfl ?_
            refine WPL.q (q_pickF (v := .lit (.bool _)) rfl rfl) rfl ?_
            refine WPL.q (q_mv (v := .lit (.bool _)) rfl) rfl ?_
            refine WPL.skipg (b' := false) rfl rfl rfl rfl rfl ?_
            refine WPL.skipg (b' := false) rfl rfl rfl rfl rfl ?_
            refine WPL.skipg (b' := false) rfl rfl rfl rfl rfl ?_
            refine WPL.skipg (b' := false) rfl rfl rfl rfl rfl ?_
            refine WPL.q (q_pickF (v := .lit (.bool _)) rfl rfl) rfl ?_
            refine WPL.q (q_mv (v := .lit (.bool _)) rfl) rfl ?_
            refine WPL.skipg (b' := false) rfl rfl rfl rfl rfl ?_
            refine WPL.skipg (b' := false) rfl rfl rfl rfl rfl ?_
            refine WPL.skipg (b' := false) rfl rfl rfl rfl rfl ?_
            refine WPL.skipg (b' := false) rfl rfl rfl rfl rfl ?_
            refine WPL.q (q_pickF (v := .lit (.bool _)) rfl rfl) rfl ?_
            refine WPL.q (q_mv (v := .lit (.bool _)) rfl) rfl ?_
            refine WPL.skipg (b' := false) rfl rfl rfl rfl rfl ?_
            refine WPL.skipg (b' := false) rfl rfl rfl rfl rfl ?_
            refine WPL.skipg (b' := false) rfl rfl rfl rfl rfl ?_
            refine WPL.skipg (b' := false) rfl rfl rfl rfl rfl ?_
            refine WPL.q (q_pickF (v := .lit (.bool _)) rfl rfl) rfl ?_
            refine WPL.q (q_as (v := .lit (.bool _)) rfl) rfl ?_
            refine WPL.nilW ?_
            refine W.cv (Cv.weak (E' := (Env.none.upd 0 (.lit (.bool false)))) (M' := Mem.nil) [] hnp ⟨rfl, trivial, by decide, rfl, trivial⟩ (LeE.upd rfl rfl (LeE.none rfl rfl))) rfl ?_
            refine W.now ?_
            have q0 := (Option.some.inj H)
            subst q0
            exact ⟨rfl, rfl, rfl⟩
        · replace H := cnf hb5424 H
          refine WPL.skipg (b' := false) rfl rfl (lb hb5424) rfl rfl ?_
          refine WPL.skipg (b' := false) rfl rfl (lb hb5424) rfl rfl ?_
          refine WPL.skipg (b' := false) rfl rfl (lb hb5424) rfl rfl ?_
          refine WPL.skipg (b' := false) rfl rfl (lb hb5424) rfl rfl ?_
          refine WPL.q (q_pickF (v := .lit (.bool _)) (lb hb5424) rfl) rfl ?_
          refine WPL.q (q_mv (v := .lit (.bool _)) rfl) rfl ?_
          refine WPL.skipg (b' := false) rfl rfl rfl rfl rfl ?_
          refine WPL.skipg (b' := false) rfl rfl rfl rfl rfl ?_
          refine WPL.skipg (b' := false) rfl rfl rfl rfl rfl ?_
          refine WPL.skipg (b' := false) rfl rfl rfl rfl rfl ?_
          refine WPL.q (q_pickF (v := .lit (.bool _)) rfl rfl) rfl ?_
          refine WPL.q (q_mv (v := .lit (.bool _)) rfl) rfl ?_
          refine WPL.skipg (b' := false) rfl rfl rfl rfl rfl ?_
          refine WPL.skipg (b' := false) rfl rfl rfl rfl rfl ?_
          refine WPL.skipg (b' := false) rfl rfl rfl rfl rfl ?_
          refine WPL.skipg (b' := false) rfl rfl rfl rfl rfl ?_
          refine WPL.q (q_pickF (v := .lit (.bool _)) rfl rfl) rfl ?_
          refine WPL.q (q_mv (v := .lit (.bool _)) rfl) rfl ?_
          refine WPL.skipg (b' := false) rfl rfl rfl rfl rfl ?_
          refine WPL.skipg (b' := false) rfl rfl rfl rfl rfl ?_
          refine WPL.q (q_pickF (v := .lit (.bool _)) rfl rfl) rfl ?_
          refine WPL.q (q_mv (v := .lit (.bool _)) rfl) rfl ?_
          refine WPL.skipg (b' := false) rfl rfl rfl rfl rfl ?_
          refine WPL.skipg (b' := false) rfl rfl rfl rfl rfl ?_
          refine WPL.q (q_pickF (v := .lit (.bool _)) rfl rfl) rfl ?_
          refine WPL.q (q_mv (v := .lit (.bool _)) rfl) rfl ?_
          refine WPL.skipg (b' := false) rfl rfl rfl rfl rfl ?_
          refine WPL.skipg (b' := false) rfl rfl rfl rfl rfl ?_
          refine WPL.skipg (b' := false) rfl rfl rfl rfl rfl ?_
          refine WPL.q (q_pickF (v := .lit (.bool _)) rfl rfl) rfl ?_
          refine WPL.q (q_mv (v := .lit (.bool _)) rfl) rfl ?_
          refine WPL.skipg (b' := false) rfl rfl rfl rfl rfl ?_
          refine WPL.skipg (b' := false) rfl rfl rfl rfl rfl ?_
          refine WPL.skipg (b' := false) rfl rfl rfl rfl rfl ?_
          refine WPL.skipg (b' := false) rfl rfl rfl rfl rfl ?_
          refine WPL.q (q_pickF (v := .lit (.bool _)) rfl rfl) rfl ?_
          refine WPL.q (q_mv (v := .lit (.bool _)) rfl) rfl ?_
          refine WPL.skipg (b' := false) rfl rfl rfl rfl rfl ?_
          refine WPL.skipg (b' := false) rfl rfl rfl rfl rfl ?_
          refine WPL.skipg (b' := false) rfl rfl rfl rfl rfl ?_
          refine WPL.skipg (b' := false) rfl rfl rfl rfl rfl ?_
          refine WPL.q (q_pickF (v := .lit (.bool _)) rfl rfl) rfl ?_
          refine WPL.q (q_mv (v := .lit (.bool _)) rfl) rfl ?_
          refine WPL.skipg (b' := false) rfl rfl rfl rfl rfl ?_
          refine WPL.skipg (b' := false) rfl rfl rfl rfl rfl ?_
          refine WPL.skipg (b' := false) rfl rfl rfl rfl rfl ?_
          refine WPL.skipg (b' := false) rfl rfl rfl rfl rfl ?_
          refine WPL.q (q_pickF (v := .lit (.bool _)) rfl rfl) rfl ?_
          refine WPL.q (q_mv (v := .lit (.bool _)) rfl) rfl ?_
          refine WPL.skipg (b' := false) rfl rfl rfl rfl rfl ?_
          refine WPL.skipg (b' := false) rfl rfl rfl rfl rfl ?_
          refine WPL.skipg (b' := false) rfl rfl rfl rfl rfl ?_
          refine WPL.skipg (b' := false) rfl rfl rfl rfl rfl ?_
          refine WPL.q (q_pickF (v := .lit (.bool _)) rfl rfl) rfl ?_
          refine WPL.q (q_as (v := .lit (.bool _)) rfl) rfl ?_
          refine WPL.nilW ?_
          refine W.cv (Cv.weak (E' := (Env.none.upd 0 (.lit (.bool false)))) (M' := Mem.nil) [] hnp ⟨rfl, trivial, by decide, rfl, trivial⟩ (LeE.upd rfl rfl (LeE.none rfl rfl))) rfl ?_
          refine W.now ?_
          have q0 := (Option.some.inj H)
          subst q0
          exact ⟨rfl, rfl, rfl⟩
      · replace H := cnf hb5422 H
        refine WPL.skipg (b' := false) rfl rfl (lb hb5422) rfl rfl ?_
        refine WPL.skipg (b' := false) rfl rfl (lb hb5422) rfl rfl ?_
        refine WPL.skipg (b' := false) rfl rfl (lb hb5422) rfl rfl ?_
        refine WPL.skipg (b' := false) rfl rfl (lb hb5422) rfl rfl ?_
        refine WPL.q (q_pickF (v := .lit (.bool _)) (lb hb5422) rfl) rfl ?_
        refine WPL.q (q_mv (v := .lit (.bool _)) rfl) rfl ?_
        refine WPL.skipg (b' := false) rfl rfl rfl rfl rfl ?_
        refine WPL.skipg (b' := false) rfl rfl rfl rfl rfl ?_
        refine WPL.skipg (b' := false) rfl rfl rfl rfl rfl ?_
        refine WPL.skipg (b' := false) rfl rfl rfl rfl rfl ?_
        refine WPL.q (q_pickF (v := .lit (.bool _)) rfl rfl) rfl ?_
        refine WPL.q (q_mv (v := .lit (.bool _)) rfl) rfl ?_
        refine WPL.skipg (b' := false) rfl rfl rfl rfl rfl ?_
        refine WPL.skipg (b' := false) rfl rfl rfl rfl rfl ?_
        refine WPL.skipg (b' := false) rfl rfl rfl rfl rfl ?_
        refine WPL.skipg (b' := false) rfl rfl rfl rfl rfl ?_
        refine WPL.q (q_pickF (v := .lit (.bool _)) rfl rfl) rfl ?_
        refine WPL.q (q_mv (v := .lit (.bool _)) rfl) rfl ?_
        refine WPL.skipg (b' := false) rfl rfl rfl rfl rfl ?_
        refine WPL.skipg (b' := false) rfl rfl rfl rfl rfl ?_
        refine WPL.skipg (b' := false) rfl rfl rfl rfl rfl ?_
        refine WPL.skipg (b' := false) rfl rfl rfl rfl rfl ?_
        refine WPL.q (q_pickF (v := .lit (.bool _)) rfl rfl) rfl ?_
        refine WPL.q (q_mv (v := .lit (.bool _)) rfl) rfl ?_
        refine WPL.skipg (b' := false) rfl rfl rfl rfl rfl ?_
        refine WPL.skipg (b' := false) rfl rfl rfl rfl rfl ?_
        refine WPL.q (q_pickF (v := .lit (.bool _)) rfl rfl) rfl ?_
        refine WPL.q (q_mv (v := .lit (.bool _)) rfl) rfl ?_
        refine WPL.skipg (b' := false) rfl rfl rfl rfl rfl ?_
        refine WPL.skipg (b' := false) rfl rfl rfl rfl rfl ?_
        refine WPL.q (q_pickF (v := .lit (.bool _)) rfl rfl) rfl ?_
        refine WPL.q (q_mv (v := .lit (.bool _)) rfl) rfl ?_
        refine WPL.skipg (b' := false) rfl rfl rfl rfl rfl ?_
        refine WPL.skipg (b' := false) rfl rfl rfl rfl rfl ?_
        refine WPL.skipg (b' := false) rfl rfl rfl rfl rfl ?_
        refine WPL.q (q_pickF (v := .lit (.bool _)) rfl rfl) rfl ?_
        refine WPL.q (q_mv (v := .lit (.bool _)) rfl) rfl ?_
        refine WPL.skipg (b' := false) rfl rfl rfl rfl rfl ?_
        refine WPL.skipg (b' := false) rfl rfl rfl rfl rfl ?_
        refine WPL.skipg (b' := false) rfl rfl rfl rfl rfl ?_
        refine WPL.skipg (b' := false) rfl rfl rfl rfl rfl ?_
        refine WPL.q (q_pickF (v := .lit (.bool _)) rfl rfl) rfl ?_
        refine WPL.q (q_mv (v := .lit (.bool _)) rfl) rfl ?_
        refine WPL.skipg (b' := false) rfl rfl rfl rfl rfl ?_
        refine WPL.skipg (b' := false) rfl rfl rfl rfl rfl ?_
        refine WPL.skipg (b' := false) rfl rfl rfl rfl rfl ?_
        refine WPL.skipg (b' := false) rfl rfl rfl rfl rfl ?_
        refine WPL.q (q_pickF (v := .lit (.bool _)) rfl rfl) rfl ?_
        refine WPL.q (q_mv (v := .lit (.bool _)) rfl) rfl ?_
        refine WPL.skipg (b' := false) rfl rfl rfl rfl rfl ?_
        refine WPL.skipg (b' := false) rfl rfl rfl rfl rfl ?_
        refine WPL.skipg (b' := false) rfl rfl rfl rfl rfl ?_
        refine WPL.skipg (b' := false) rfl rfl rfl rfl rfl ?_
        refine WPL.q (q_pickF (v := .lit (.bool _)) rfl rfl) rfl ?_
        refine WPL.q (q_mv (v := .lit (.bool _)) rfl) rfl ?_
        refine WPL.skipg (b' := false) rfl rfl rfl rfl rfl ?_
        refine WPL.skipg (b' := false) rfl rfl rfl rfl rfl ?_
        refine WPL.skipg (b' := false) rfl rfl rfl rfl rfl ?_
        refine WPL.skipg (b' := false) rfl rfl rfl rfl rfl ?_
        refine WPL.q (q_pickF (v := .lit (.bool _)) rfl rfl) rfl ?_
        refine WPL.q (q_as (v := .lit (.bool _)) rfl) rfl ?_
        refine WPL.nilW ?_
        refine W.cv (Cv.weak (E' := (Env.none.upd 0 (.lit (.bool false)))) (M' := Mem.nil) [] hnp ⟨rfl, trivial, by decide, rfl, trivial⟩ (LeE.upd rfl rfl (LeE.none rfl rfl))) rfl ?_
        refine W.now ?_
        have q0 := (Option.some.inj H)
        subst q0
        exact ⟨rfl, rfl, rfl⟩
    · replace H := cnf hb5420 H
      refine WPL.skipg (b' := false) rfl rfl (lb hb5420) rfl rfl ?_
      refine WPL.skipg (b' := false) rfl rfl (lb hb5420) rfl rfl ?_
      refine WPL.skipg (b' := false) rfl rfl (lb hb5420) rfl rfl ?_
      refine WPL.q (q_pickF (v := .lit (.bool _)) (lb hb5420) rfl) rfl ?_
      refine WPL.q (q_mv (v := .lit (.bool _)) rfl) rfl ?_
      refine WPL.skipg (b' := false) rfl rfl rfl rfl rfl ?_
      refine WPL.skipg (b' := false) rfl rfl rfl rfl rfl ?_
      refine WPL.skipg (b' := false) rfl rfl rfl rfl rfl ?_
      refine WPL.skipg (b' := false) rfl rfl rfl rfl rfl ?_
      refine WPL.q (q_pickF (v := .lit (.bool _)) rfl rfl) rfl ?_
      refine WPL.q (q_mv (v := .lit (.bool _)) rfl) rfl ?_
      refine WPL.skipg (b' := false) rfl rfl rfl rfl rfl ?_
      refine WPL.skipg (b' := false) rfl rfl rfl rfl rfl ?_
      refine WPL.skipg (b' := false) rfl rfl rfl rfl rfl ?_
      refine WPL.skipg (b' := false) rfl rfl rfl rfl rfl ?_
      refine WPL.q (q_pickF (v := .lit (.bool _)) rfl rfl) rfl ?_
      refine WPL.q (q_mv (v := .lit (.bool _)) rfl) rfl ?_
      refine WPL.skipg (b' := false) rfl rfl rfl rfl rfl ?_
      refine WPL.skipg (b' := false) rfl rfl rfl rfl rfl ?_
      refine WPL.skipg (b' := false) rfl rfl rfl rfl rfl ?_
      refine WPL.skipg (b' := false) rfl rfl rfl rfl rfl ?_
      refine WPL.q (q_pickF (v := .lit (.bool _)) rfl rfl) rfl ?_
      refine WPL.q (q_mv (v := .lit (.bool _)) rfl) rfl ?_
      refine WPL.skipg (b' := false) rfl rfl rfl rfl rfl ?_
      refine WPL.skipg (b' := false) rfl rfl rfl rfl rfl ?_
      refine WPL.skipg (b' := false) rfl rfl rfl rfl rfl ?_
      refine WPL.skipg (b' := false) rfl rfl rfl rfl rfl ?_
      refine WPL.q (q_pickF (v := .lit (.bool _)) rfl rfl) rfl ?_
      refine WPL.q (q_mv (v := .lit (.bool _)) rfl) rfl ?_
      refine WPL.skipg (b' := false) rfl rfl rfl rfl rfl ?_
      refine WPL.skipg (b' := false) rfl rfl rfl rfl rfl ?_
      refine WPL.q (q_pickF (v := .lit (.bool _)) rfl rfl) rfl ?_
      refine WPL.q (q_mv (v := .lit (.bool _)) rfl) rfl ?_
      refine WPL.skipg (b' := false) rfl rfl rfl rfl rfl ?_
      refine WPL.skipg (b' := false) rfl rfl rfl rfl rfl ?_
      refine WPL.q (q_pickF (v := .lit (.bool _)) rfl rfl) rfl ?_
      refine WPL.q (q_mv (v := .lit (.bool _)) rfl) rfl ?_
      refine WPL.skipg (b' := false) rfl rfl rfl rfl rfl ?_
      refine WPL.skipg (b' := false) rfl rfl rfl rfl rfl ?_
      refine WPL.skipg (b' := false) rfl rfl rfl rfl rfl ?_
      refine WPL.q (q_pickF (v := .lit (.bool _)) rfl rfl) rfl ?_
      refine WPL.q (q_mv (v := .lit (.bool _)) rfl) rfl ?_
      refine WPL.skipg (b' := false) rfl rfl rfl rfl rfl ?_
      refine WPL.skipg (b' := false) rfl rfl rfl rfl rfl ?_
      refine WPL.skipg (b' := false) rfl rfl rfl rfl rfl ?_
      refine WPL.skipg (b' := false) rfl rfl rfl rfl rfl ?_
      refine WPL.q (q_pickF (v := .lit (.bool _)) rfl rfl) rfl ?_
      refine WPL.q (q_mv (v := .lit (.bool _)) rfl) rfl ?_
      refine WPL.skipg (b' := false) rfl rfl rfl rfl rfl ?_
      refine WPL.skipg (b' := false) rfl rfl rfl rfl rfl ?_
      refine WPL.skipg (b' := false) rfl rfl rfl rfl rfl ?_
      refine WPL.skipg (b' := false) rfl rfl rfl rfl rfl ?_
      refine WPL.q (q_pickF (v := .lit (.bool _)) rfl rfl) rfl ?_
      refine WPL.q (q_mv (v := .lit (.bool _)) rfl) rfl ?_
      refine WPL.skipg (b' := false) rfl rfl rfl rfl rfl ?_
      refine WPL.skipg (b' := false) rfl rfl rfl rfl rfl ?_
      refine WPL.skipg (b' := false) rfl rfl rfl rfl rfl ?_
      refine WPL.skipg (b' := false) rfl rfl rfl rfl rfl ?_
      refine WPL.q (q_pickF (v := .lit (.bool _)) rfl rfl) rfl ?_
      refine WPL.q (q_mv (v := .lit (.bool _)) rfl) rfl ?_
      refine WPL.skipg (b' := false) rfl rfl rfl rfl rfl ?_
      refine WPL.skipg (b' := false) rfl rfl rfl rfl rfl ?_
      refine WPL.skipg (b' := false) rfl rfl rfl rfl rfl ?_
      refine WPL.skipg (b' := false) rfl rfl rfl rfl rfl ?_
      refine WPL.q (q_pickF (v := .lit (.bool _)) rfl rfl) rfl ?_
      refine WPL.q (q_as (v := .lit (.bool _)) rfl) rfl ?_
      refine WPL.nilW ?_
      refine W.cv (Cv.weak (E' := (Env.none.upd 0 (.lit (.bool false)))) (M' := Mem.nil) [] hnp ⟨rfl, trivial, by decide, rfl, trivial⟩ (LeE.upd rfl rfl (LeE.none rfl rfl))) rfl ?_
      refine W.now ?_
      have q0 := (Option.some.inj H)
      subst q0
      exact ⟨rfl, rfl, rfl⟩
  · rintro _ _ _ ⟨rfl, rfl, rfl⟩
    refine W.now ?_
    refine Then.n ?_
    refine WP.retW ?_
    refine W.now ?_
    have q0 := (Option.some.inj H)
    subst q0
    exact ⟨trivial, _, rfl, [], (.lit (.bool x5420)), Mem.nil, ⟨rfl, trivial, by decide, rfl, trivial⟩, rfl, rfl, rfl, rfl⟩
set_option maxRecDepth 100000 in
set_option maxHeartbeats 4000000 in
theorem s_bits_NewWriter (k : Nat) (H : g_bits_NewWriter k = some ()) : Go.Q.Spec Try.prog 7 0 [] Mem.nil (fun o M => o = .ret (.ptr 0 0) ∧ M = (Mem.nil.push (.cells 56 [.lit (.slice none 0 0), .lit (.int .i64 0)]))) := by
  unfold g_bits_NewWriter at H
  refine Go.Q.Spec.of_bodyR (rs := [.tmp 0]) (nt := 3) Try.func7 rfl rfl (by intro t T h; simp at h) rfl rfl fun cx hnp => ?_
  refine WP.seq ?_
  refine WP.region ?_
  refine WPL.q (q_as (v := .lit _) rfl) rfl ?_
  refine WPL.nilW ?_
  refine W.now ?_
  refine Then.n ?_
  refine WP.seq ?_
  refine WP.region ?_
  refine WPL.q (q_build bu56 rfl) rfl ?_
  refine WPL.d (d_box rfl rfl) rfl ?_
  refine WPL.q (q_as (v := .ptr _ _) rfl) rfl ?_
  refine WPL.nilW ?_
  refine W.now ?_
  refine Then.n ?_
  refine WP.retW ?_
  refine W.now ?_
  exact ⟨trivial, _, rfl, [0], (.ptr 0 0), (Mem.nil.push (.cells 56 [.lit (.slice none 0 0), .lit (.int .i64 0)])), ⟨rfl, ⟨trivial, .inr ⟨rfl, rfl, rfl⟩⟩, by decide, rfl, trivial⟩, rfl, rfl, rfl, rfl⟩
set_option maxRecDepth 100000 in
set_option maxHeartbeats 4000000 in
theorem s_math_bits_ReverseBytes32 (k : Nat) (x5491 : Int) (x5496 : Int) (H : g_math_bits_ReverseBytes32 k x5491 = some x5496) : Go.Q.Spec Try.prog 29 0 [.lit (.int .u32 x5491)] Mem.nil (fun o M => o = .ret (.lit (.int .u32 x5496)) ∧ M = Mem.nil) := by
  unfold g_math_bits_ReverseBytes32 at H
  refine Go.Q.Spec.of_bodyR (rs := [.tmp 2]) (nt := 15) Try.func29 rfl rfl (by intro t T h; simp at h) rfl rfl fun cx hnp => ?_
  refine WP.seq ?_
  refine WP.region ?_
  refine WPL.q (q_as (v := .lit (.int _ _)) rfl) rfl ?_
  refine WPL.nilW ?_
  refine W.now ?_
  refine Then.n ?_
  refine WP.seq ?_
  refine WP.region ?_
  refine WPL.q (q_mv (v := .lit (.int _ _)) rfl) rfl ?_
  refine WPL.q (q_shr rfl rfl rfl) rfl ?_
  obtain ⟨x5497, h5497, H⟩ := bnd H
  refine WPL.q (q_nm (q_and rfl rfl) (nm_int h5497)) rfl ?_
  refine WPL.q (q_mv (v := .lit (.int _ _)) rfl) rfl ?_
  refine WPL.q (q_and rfl rfl) rfl ?_
  obtain ⟨x5498, h5498, H⟩ := bnd H
  refine WPL.q (q_nm (q_shl rfl rfl rfl) (nm_int h5498)) rfl ?_
  refine WPL.q (q_or rfl rfl) rfl ?_
  refine WPL.q (q_as (v := .lit (.int _ _)) rfl) rfl ?_
  refine WPL.nilW ?_
  refine W.now ?_
  refine Then.n ?_
  refine WP.seq ?_
  refine WP.region ?_
  refine WPL.q (q_mv (v := .lit (.int _ _)) rfl) rfl ?_
  refine WPL.q (q_shr rfl rfl rfl) rfl ?_
  refine WPL.q (q_mv (v := .lit (.int _ _)) rfl) rfl ?_
  refine WPL.q (q_shl rfl rfl rfl) rfl ?_
  obtain ⟨x5499, h5499, H⟩ := bnd H
  refine WPL.q (q_nm (q_or rfl rfl) (nm_int h5499)) rfl ?_
  refine WPL.q (q_as (v := .lit (.int _ _)) rfl) rfl ?_
  refine WPL.nilW ?_
  refine W.now ?_
  refine Then.n ?_
  refine WP.retW ?_
  refine W.now ?_
  have q0 := (Option.some.inj H)
  subst q0
  exact ⟨trivial, _, rfl, [], (.lit (.int .u32 x5499)), Mem.nil, ⟨rfl, trivial, by decide, rfl, trivial⟩, rfl, rfl, rfl, rfl⟩
set_option maxRecDepth 100000 in
set_option maxHeartbeats 4000000 in
theorem s_math_bits_Reverse32 (k : Nat) (x5482 : Int) (x5502 : Int) (H : g_math_bits_Reverse32 k x5482 = some x5502) : Go.Q.Spec Try.prog 18 0 [.lit (.int .u32 x5482)] Mem.nil (fun o M => o = .ret (.lit (.int .u32 x5502)) ∧ M = Mem.nil) := by
  unfold g_math_bits_Reverse32 at H
  refine Go.Q.Spec.of_bodyR (rs := [.tmp 2]) (nt := 26) Try.func18 rfl rfl (by intro t T h; simp at h) rfl rfl fun cx hnp => ?_
  refine WP.seq ?_
  refine WP.region ?_
  refine WPL.q (q_as (v := .lit (.int _ _)) rfl) rfl ?_
  refine WPL.nilW ?_
  refine W.now ?_
  refine Then.n ?_
  refine WP.seq ?_
  refine WP.region ?_
  refine WPL.q (q_mv (v := .lit (.int _ _)) rfl) rfl ?_
  refine WPL.q (q_shr rfl rfl rfl) rfl ?_
  obtain ⟨x5503, h5503, H⟩ := bnd H
  refine WPL.q (q_nm (q_and rfl rfl) (nm_int h5503)) rfl ?_
  refine WPL.q (q_mv (v := .lit (.int _ _)) rfl) rfl ?_
  refine WPL.q (q_and rfl rfl) rfl ?_
  obtain ⟨x5504, h5504, H⟩ := bnd H
  refine WPL.q (q_nm (q_shl rfl rfl rfl) (nm_int h5504)) rfl ?_
  refine WPL.q (q_or rfl rfl) rfl ?_
  refine WPL.q (q_as (v := .lit (.int _ _)) rfl) rfl ?_
  refine WPL.nilW ?_
  refine W.now ?_
  refine Then.n ?_
  refine WP.seq ?_
  refine WP.region ?_
  refine WPL.q (q_mv (v := .lit (.int _ _)) rfl) rfl ?_
  refine WPL.q (q_shr rfl rfl rfl) rfl ?_
  obtain ⟨x5505, h5505, H⟩ := bnd H
  refine WPL.q (q_nm (q_and rfl rfl) (nm_int h5505)) rfl ?_
  refine WPL.q (q_mv (v := .lit (.int _ _)) rfl) rfl ?_
  obtain ⟨x5506, h5506, H⟩ := bnd H
  refine WPL.q (q_nm (q_and rfl rfl) (nm_int h5506)) rfl ?_
  refine WPL.q (q_shl rfl rfl rfl) rfl ?_
  refine WPL.q (q_or rfl rfl) rfl ?_
  refine WPL.q (q_as (v := .lit (.int _ _)) rfl) rfl ?_
  refine WPL.nilW ?_
  refine W.now ?_
  refine Then.n ?_
  refine WP.seq ?_
  refine WP.region ?_
  refine WPL.q (q_mv (v := .lit (.int _ _)) rfl) rfl ?_
  obtain ⟨x5507, h5507, H⟩ := bnd H
  refine WPL.q (q_nm (q_shr rfl rfl rfl) (nm_int h5507)) rfl ?_
  refine WPL.q (q_and rfl rfl) rfl ?_
  refine WPL.q (q_mv (v := .lit (.int _ _)) rfl) rfl ?_
  obtain ⟨x5508, h5508, H⟩ := bnd H
  refine WPL.q (q_nm (q_and rfl rfl) (nm_int h5508)) rfl ?_
  refine WPL.q (q_shl rfl rfl rfl) rfl ?_
  obtain ⟨x5509, h5509, H⟩ := bnd H
  refine WPL.q (q_nm (q_or rfl rfl) (nm_int h5509)) rfl ?_
  refine WPL.q (q_as (v := .lit (.int _ _)) rfl) rfl ?_
  refine WPL.nilW ?_
  refine W.now ?_
  refine Then.n ?_
  refine WP.seq ?_
  refine WP.region ?_
  refine WPL.q (q_mv (v := .lit (.int _ _)) rfl) rfl ?_
  obtain ⟨x5511, h5509, H⟩ := bnd H
  refine WPL.c (runs_call (s := []) (t := []) (N := 0) (bor := []) fn29 rfl (s_math_bits_ReverseBytes32 k x5509 x5511 h5509) ⟨rfl, trivial, by decide, rfl, trivial⟩ rfl trivial (.ren rfl rfl .nil) rfl trivial rfl) rfl ?_
  refine WPL.q (q_as (v := .lit (.int _ _)) rfl) rfl ?_
  refine WPL.nilW ?_
  refine W.now ?_
  refine Then.n ?_
  refine WP.retW ?_
  refine W.now ?_
  have q0 := (Option.some.inj H)
  subst q0
  exact ⟨trivial, _, rfl, [], (.lit (.int .u32 x5511)), Mem.nil, ⟨rfl, trivial, by decide, rfl, trivial⟩, rfl, rfl, rfl, rfl⟩
set_option maxRecDepth 100000 in
set_option maxHeartbeats 4000000 in
theorem s_bits_Reverse (k : Nat) (x5477 : Int) (x5478 : Int) (x5517 : Int) (H : g_bits_Reverse k x5477 x5478 = some x5517) : Go.Q.Spec Try.prog 9 0 [.lit (.int .u32 x5477), .lit (.int .i64 x5478)] Mem.nil (fun o M => o = .ret (.lit (.int .u32 x5517)) ∧ M = Mem.nil) := by
  unfold g_bits_Reverse at H
  refine Go.Q.Spec.of_bodyR (rs := [.tmp 4]) (nt := 16) Try.func9 rfl rfl (by intro t T h; simp at h) rfl rfl fun cx hnp => ?_
  refine WP.seq ?_
  refine WP.region ?_
  refine WPL.q (q_as (v := .lit (.int _ _)) rfl) rfl ?_
  refine WPL.nilW ?_
  refine W.now ?_
  refine Then.n ?_
  refine WP.seq ?_
  refine WP.region ?_
  refine WPL.q (q_mv (v := .lit (.int _ _)) rfl) rfl ?_
  obtain ⟨x5518, h5518, H⟩ := bnd H
  refine WPL.q (q_nm (q_max rfl rfl) (nm_int h5518)) rfl ?_
  obtain ⟨x5519, h5519, H⟩ := bnd H
  refine WPL.q (q_nm (q_min rfl rfl) (nm_int h5519)) rfl ?_
  refine WPL.q (q_as (v := .lit (.int _ _)) rfl) rfl ?_
  refine WPL.nilW ?_
  refine W.now ?_
  refine Then.n ?_
  refine WP.seq ?_
  refine WP.region ?_
  refine WPL.q (q_mv (v := .lit (.int _ _)) rfl) rfl ?_
  obtain ⟨x5521, h5519, H⟩ := bnd H
  refine WPL.c (runs_call (s := []) (t := []) (N := 0) (bor := []) fn18 rfl (s_math_bits_Reverse32 k x5477 x5521 h5519) ⟨rfl, trivial, by decide, rfl, trivial⟩ rfl trivial (.ren rfl rfl .nil) rfl trivial rfl) rfl ?_
  refine WPL.q (q_conv Try.underlying34 Try.underlying60 rfl) rfl ?_
  refine WPL.q (q_mv (v := .lit (.int _ _)) rfl) rfl ?_
  refine WPL.q (q_sub rfl rfl) rfl ?_
  obtain ⟨x5522, h5522, H⟩ := bnd H
  refine WPL.q (q_nm (q_conv Try.underlying3 Try.underlying46 rfl) (nm_int h5522)) rfl ?_
  obtain ⟨h5522, H⟩ := grd H
  obtain ⟨x5524, h5524, H⟩ := bnd H
  refine WPL.q (q_nm (q_shr rfl rfl h5522) (nm_int h5524)) rfl ?_
  refine WPL.q (q_conv Try.underlying60 Try.underlying34 rfl) rfl ?_
  refine WPL.q (q_as (v := .lit (.int _ _)) rfl) rfl ?_
  refine WPL.nilW ?_
  refine W.now ?_
  refine Then.n ?_
  refine WP.retW ?_
  refine W.now ?_
  have q0 := (Option.some.inj H)
  subst q0
  exact ⟨trivial, _, rfl, [], (.lit (.int .u32 (IntKind.wrap .u32 x5524))), Mem.nil, ⟨rfl, trivial, by decide, rfl, trivial⟩, rfl, rfl, rfl, rfl⟩
set_option maxRecDepth 100000 in
set_option maxHeartbeats 4000000 in
theorem s_bits_each (k : Nat) (x5539 : Int) (x5540 : Int) (H : g_bits_each k x5539 x5540 = some ()) : Go.Q.Spec Try.prog 17 0 [.lit (.int .u32 x5539), .lit (.int .i64 x5540)] Mem.nil (fun o M => o = .ret (.fn 28 [.ptr 0 0, .ptr 1 0]) ∧ M = ((Mem.nil.push (.cells 3 [.lit (.int .i64 x5540)])).push (.cells 34 [.lit (.int .u32 x5539)]))) := by
  unfold g_bits_each at H
  refine Go.Q.Spec.of_bodyR (rs := [.tmp 4]) (nt := 6) Try.func17 rfl rfl (by intro t T h; simp at h) rfl rfl fun cx hnp => ?_
  refine WP.seq ?_
  refine WP.region ?_
  refine WPL.d (d_box rfl rfl) rfl ?_
  refine WPL.d (d_box rfl rfl) rfl ?_
  refine WPL.q (q_as (v := .lit _) rfl) rfl ?_
  refine WPL.nilW ?_
  refine W.now ?_
  refine Then.n ?_
  refine WP.seq ?_
  refine WP.region ?_
  refine WPL.q (q_makeFunc) rfl ?_
  refine WPL.q (q_as (v := .fn _ _) rfl) rfl ?_
  refine WPL.nilW ?_
  refine W.now ?_
  refine Then.n ?_
  refine WP.retW ?_
  refine W.now ?_
  exact ⟨trivial, _, rfl, [1, 0], (.fn 28 [.ptr 0 0, .ptr 1 0]), ((Mem.nil.push (.cells 3 [.lit (.int .i64 x5540)])).push (.cells 34 [.lit (.int .u32 x5539)])), ⟨rfl, ⟨⟨trivial, .inr ⟨rfl, rfl, rfl⟩⟩, .inr ⟨rfl, rfl, rfl⟩⟩, by decide, rfl, trivial⟩, rfl, rfl, rfl, rfl⟩
set_option maxRecDepth 100000 in
set_option maxHeartbeats 4000000 in
theorem s_bits_Writer_Put (k : Nat) (x5527 : Int) (x5528 : Int) (x5529 : Int) (x5717 : Int) (x5718 : Int) (x5719 : (List Int)) (H : g_bits_Writer_Put k x5527 x5528 x5529 = some (x5717, x5718, x5719)) : Go.Q.Spec Try.prog 8 1 [.ptr 0 0, .lit (.int .u32 x5527), .lit (.int .i64 x5528)] (Mem.nil.push (.cells 56 [.lit (.slice none 0 0), .lit (.int .i64 x5529)])) (fun o M => o = .ret (.lit (.int .i64 x5717)) ∧ M = ((Mem.nil.push (.cells 56 [.whole 1, .lit (.int .i64 x5718)])).push (.row 5 (Rd.int .u8) x5719))) := by
  unfold g_bits_Writer_Put at H
  refine Go.Q.Spec.of_bodyR (rs := [.tmp 6]) (nt := 65) Try.func8 rfl rfl (by intro t T h; simp at h) rfl rfl fun cx hnp => ?_
  refine WP.seq ?_
  refine WP.region ?_
  refine WPL.d (d_box rfl rfl) rfl ?_
  refine WPL.q (q_as (v := .lit (.int _ _)) rfl) rfl ?_
  refine WPL.nilW ?_
  refine W.now ?_
  refine Then.n ?_
  refine WP.seq ?_
  refine WP.seq ?_
  refine WP.region ?_
  refine WPL.q (q_load sc31 rfl rfl rfl) rfl ?_
  refine WPL.q (q_eqlp Try.underlying31 rfl) rfl ?_
  refine WPL.nilW ?_
  refine W.now ?_
  refine Then.n ?_
  refine WP.condF rfl ?_
  refine WP.skipW ?_
  refine W.now ?_
  refine Then.n ?_
  refine WP.seq ?_
  refine WP.seq ?_
  obtain ⟨x5725, H5726, H⟩ := bnd H
  refine WP.monoW (Q := fun x E M => x = .normal ∧ E = ((((Env.none.upd 1 (.lit (.int .u32 x5527))).upd 2 (.lit (.int .i64 x5528))).upd 3 (.ptr 1 0)).upd 16 (.lit (.bool x5725))) ∧ M = ((Mem.nil.push (.cells 56 [.lit (.slice none 0 0), .lit (.int .i64 x5529)])).push (.cells 31 [.ptr 0 0]))) ?_ ?_
  · clear H
    have H := H5726
    clear H5726
    refine WP.region ?_
    refine WPL.q (q_mv (v := .lit (.int _ _)) rfl) rfl ?_
    refine WPL.q (q_lss rfl rfl) rfl ?_
    refine WPL.q (q_mv (v := .lit (.bool _)) rfl) rfl ?_
    refine WPL.split (t := 13) (b := (decide (x5528 < 0))) rfl (fun hb5725 => ?_) (fun hb5725 => ?_)
    · replace H := cnt hb5725 H
      refine WPL.skipg (b' := true) rfl rfl (lb hb5725) rfl rfl ?_
      refine WPL.skipg (b' := true) rfl rfl (lb hb5725) rfl rfl ?_
      refine WPL.q (q_pickT (v := .lit (.bool _)) (lb hb5725) rfl) rfl ?_
      refine WPL.nilW ?_
      refine W.cv (Cv.weak (E' := ((((Env.none.upd 1 (.lit (.int .u32 x5527))).upd 2 (.lit (.int .i64 x5528))).upd 3 (.ptr 1 0)).upd 16 (.lit (.bool true)))) (M' := ((Mem.nil.push (.cells 56 [.lit (.slice none 0 0), .lit (.int .i64 x5529)])).push (.cells 31 [.ptr 0 0]))) [0, 1] hnp ⟨rfl, ⟨⟨trivial, .inr ⟨rfl, rfl, rfl⟩⟩, .inr ⟨rfl, rfl, rfl⟩⟩, by decide, rfl, ⟨trivial, rfl⟩⟩ (LeE.upd rfl rfl (LeE.upd rfl rfl (LeE.upd rfl rfl (LeE.upd rfl rfl (LeE.none rfl rfl)))))) rfl ?_
      refine W.now ?_
      have q0 := (Option.some.inj H)
      subst q0
      exact ⟨rfl, rfl, rfl⟩
    · replace H := cnf hb5725 H
      refine WPL.qg rfl rfl (lb hb5725) (q_mv (v := .lit (.int _ _)) rfl) rfl ?_
      refine WPL.qg rfl rfl (lb hb5725) (q_gtr rfl rfl) rfl ?_
      refine WPL.q (q_pickF (v := .lit (.bool _)) (lb hb5725) rfl) rfl ?_
      refine WPL.nilW ?_
      refine W.cv (Cv.weak (E' := ((((Env.none.upd 1 (.lit (.int .u32 x5527))).upd 2 (.lit (.int .i64 x5528))).upd 3 (.ptr 1 0)).upd 16 (.lit (.bool (decide (32 < x5528)))))) (M' := ((Mem.nil.push (.cells 56 [.lit (.slice none 0 0), .lit (.int .i64 x5529)])).push (.cells 31 [.ptr 0 0]))) [0, 1] hnp ⟨rfl, ⟨⟨trivial, .inr ⟨rfl, rfl, rfl⟩⟩, .inr ⟨rfl, rfl, rfl⟩⟩, by decide, rfl, ⟨trivial, rfl⟩⟩ (LeE.upd rfl rfl (LeE.upd rfl rfl (LeE.upd rfl rfl (LeE.upd rfl rfl (LeE.none rfl rfl)))))) rfl ?_
      refine W.now ?_
      have q0 := (Option.some.inj H)
      subst q0
      exact ⟨rfl, rfl, rfl⟩
  · rintro _ _ _ ⟨rfl, rfl, rfl⟩
    refine W.now ?_
    refine Then.n ?_
    refine WP.cond (t := x5725) rfl (fun hb => ?_) (fun hb => ?_)
    · replace H := cnt hb H
      refine WP.seq ?_
      refine WP.region ?_
      refine WPL.q (q_as (v := .lit (.int _ _)) rfl) rfl ?_
      refine WPL.nilW ?_
      refine W.now ?_
      refine Then.n ?_
      refine WP.retW ?_
      refine W.cv (Cv.virC 5 (Rd.int .u8) (N := 2) rfl rfl (i := 0) (off := 0) rfl rfl) rfl ?_
      refine W.now ?_
      refine Then.r ?_
      have q0 := (Prod.mk.inj (Option.some.inj H)).1
      have q1 := (Prod.mk.inj (Prod.mk.inj (Option.some.inj H)).2).1
      have q2 := (Prod.mk.inj (Prod.mk.inj (Option.some.inj H)).2).2
      subst q0
      subst q1
      subst q2
      exact ⟨trivial, _, rfl, [0, 2], (.lit (.int .i64 1)), ((Mem.nil.push (.cells 56 [.whole 1, .lit (.int .i64 x5529)])).push (.row 5 (Rd.int .u8) ([] : List Int))), ⟨rfl, ⟨⟨trivial, .inr ⟨rfl, rfl, rfl⟩⟩, .inr ⟨rfl, rfl, rfl⟩⟩, by decide, rfl, ⟨trivial, rfl⟩⟩, rfl, rfl, rfl, rfl⟩
    · replace H := cnf hb H
      refine WP.skipW ?_
      refine W.now ?_
      refine Then.n ?_
      refine WP.seq ?_
      refine WP.seq ?_
      refine WP.region ?_
      refine WPL.q (q_mv (v := .lit (.int _ _)) rfl) rfl ?_
      refine WPL.q (q_mv (v := .lit (.int _ _)) rfl) rfl ?_
      obtain ⟨_, h5727, H⟩ := bnd H
      refine WPL.c (runs_call (s := []) (t := [2, 3]) (N := 4) (bor := []) fn17 rfl (s_bits_each k x5527 x5528 h5727) ⟨rfl, trivial, by decide, rfl, trivial⟩ rfl trivial (.ren rfl rfl (.ren rfl rfl .nil)) rfl ⟨⟨trivial, rfl⟩, rfl⟩ rfl) rfl ?_
      refine WPL.nilW ?_
      refine W.now ?_
      refine Then.n ?_
      refine WP.block ?_
      refine WP.cv (Cv.nullMark (N := 4) rfl rfl) ?_
      refine WP.range (nti := 19) (n := 5) rfl rfl Try.func28 rfl (by kernel_rfl) rfl rfl rfl rfl fun l_5728 r_5728 aC5728 hp5728 ha5728 hb5728 ht5728 hs5728 => ?_
      refine WP.seq ?_
      refine WP.region ?_
      refine WPL.q (q_load sc3 rfl rfl rfl) rfl ?_
      refine WPL.q (q_mv (v := .lit (.int _ _)) rfl) rfl ?_
      refine WPL.nilW ?_
      refine W.now ?_
      refine Then.n ?_
      refine WP.block ?_
      refine WP.cv (Cv.virC 5 (Rd.int .u8) (N := 7) rfl rfl (i := 0) (off := 0) rfl rfl) ?_
      refine WP.cv (Cv.weak (E' := (((((⟨fun _ => .any, [], [⟨aC5728, (((Env.none.upd 3 (.ptr 3 0)).upd 19 (.fn 28 [.ptr 4 0, .ptr 2 0]))).v, [5, 6], some (7, l_5728)⟩]⟩ : Env).upd 0 (.lit (.func (.yield l_5728) #[] #[]))).upd 2 (.ptr 2 0)).upd 5 (.lit (.int .i64 x5528))).upd 6 (.lit (.int .i64 0)))) (M' := ((((((((Mem.nil.push (.cells 56 [.whole 1, .lit (.int .i64 x5529)])).push (.row 5 (Rd.int .u8) ([] : List Int))).push (.cells 34 [.lit (.int .u32 x5527)])).push (.cells 31 [.ptr 0 0])).push (.cells 3 [.lit (.int .i64 x5528)])).push (.obj (Obj.deferred (some [])))).push (.bag)).push (.obj (lp r_5728 .ready none)))) [0, 7, 3, 1, 2, 5, 4, 6] hnp ⟨rfl, ⟨⟨⟨⟨⟨⟨⟨⟨trivial, .inr ⟨rfl, rfl, rfl⟩⟩, .inr ⟨rfl, rfl, rfl⟩⟩, .inr ⟨rfl, rfl, rfl⟩⟩, .inr ⟨rfl, rfl, rfl⟩⟩, .inr ⟨rfl, rfl, rfl⟩⟩, .inr ⟨rfl, rfl, rfl⟩⟩, .inr ⟨rfl, rfl, rfl⟩⟩, .inr ⟨rfl, rfl, rfl⟩⟩, by decide, rfl, ⟨trivial, rfl⟩⟩ (LeE.upd rfl rfl (LeE.upd rfl rfl (LeE.upd rfl rfl (LeE.upd rfl rfl (LeE.noneD rfl rfl (.cons ⟨rfl, (LeV.upd rfl rfl (LeV.upd rfl rfl LeV.none)), rfl, rfl, rfl, rfl⟩ .nil))))))) ?_
      obtain ⟨y5958, H5956, H⟩ := bnd H
      refine WP.monoW (Q := fun x E M => match (generalizing := false) y5958 with | (Sum.inl (x5897, x5898)) => x = .ret ∧ E = (⟨fun _ => .any, [], [⟨aC5728, (((Env.none.upd 3 (.ptr 2 0)).upd 19 (.fn 28 [.ptr 3 0, .ptr 4 0]))).v, [5, 6], some (7, l_5728)⟩]⟩ : Env) ∧ M = ((((((((Mem.nil.push (.cells 56 [.whole 1, .lit (.int .i64 x5897)])).push (.row 5 (Rd.int .u8) x5898)).push (.cells 31 [.ptr 0 0])).push (.cells 3 [.lit (.int .i64 x5528)])).push (.cells 34 [.lit (.int .u32 x5527)])).push (.obj (Obj.deferred (some [])))).push (.bag)).push (.obj (lp r_5728 .ready none))) | (Sum.inr (x5899, x5900)) => x = .exit 0 ∧ E = (⟨fun _ => .any, [], [⟨aC5728, (((Env.none.upd 3 (.ptr 2 0)).upd 19 (.fn 28 [.ptr 3 0, .ptr 4 0]))).v, [5, 6], some (7, l_5728)⟩]⟩ : Env) ∧ M = ((((((((Mem.nil.push (.cells 56 [.whole 1, .lit (.int .i64 x5899)])).push (.row 5 (Rd.int .u8) x5900)).push (.cells 31 [.ptr 0 0])).push (.cells 3 [.lit (.int .i64 x5528)])).push (.cells 34 [.lit (.int .u32 x5527)])).push (.obj (Obj.deferred (some [])))).push (.bag)).push (.obj (lp r_5728 .ready none)))) ?_ ?_
      · refine WP.loop (β := Int × Int × (List Int)) (fun n b => g_bits_Writer_Put_l0 k x5527 x5528 n b.1 b.2.1 b.2.2 = some y5958) (fun b => (((((⟨fun _ => .any, [], [⟨aC5728, (((Env.none.upd 3 (.ptr 3 0)).upd 19 (.fn 28 [.ptr 4 0, .ptr 2 0]))).v, [5, 6], some (7, l_5728)⟩]⟩ : Env).upd 0 (.lit (.func (.yield l_5728) #[] #[]))).upd 2 (.ptr 2 0)).upd 5 (.lit (.int .i64 x5528))).upd 6 (.lit (.int .i64 b.1)))) (fun b => ((((((((Mem.nil.push (.cells 56 [.whole 1, .lit (.int .i64 b.2.1)])).push (.row 5 (Rd.int .u8) b.2.2)).push (.cells 34 [.lit (.int .u32 x5527)])).push (.cells 31 [.ptr 0 0])).push (.cells 3 [.lit (.int .i64 x5528)])).push (.obj (Obj.deferred (some [])))).push (.bag)).push (.obj (lp r_5728 .ready none)))) k (0, x5529, ([] : List Int)) H5956 rfl rfl ?_
        rintro n ⟨x5838, x5839, x5840⟩ H
        obtain _ | n := n
        · exact nf rfl H
        rw [g_bits_Writer_Put_l0.eq_2] at H
        show WP _ _ _ _ (((((⟨fun _ => .any, [], [⟨aC5728, (((Env.none.upd 3 (.ptr 3 0)).upd 19 (.fn 28 [.ptr 4 0, .ptr 2 0]))).v, [5, 6], some (7, l_5728)⟩]⟩ : Env).upd 0 (.lit (.func (.yield l_5728) #[] #[]))).upd 2 (.ptr 2 0)).upd 5 (.lit (.int .i64 x5528))).upd 6 (.lit (.int .i64 x5838))) ((((((((Mem.nil.push (.cells 56 [.whole 1, .lit (.int .i64 x5839)])).push (.row 5 (Rd.int .u8) x5840)).push (.cells 34 [.lit (.int .u32 x5527)])).push (.cells 31 [.ptr 0 0])).push (.cells 3 [.lit (.int .i64 x5528)])).push (.obj (Obj.deferred (some [])))).push (.bag)).push (.obj (lp r_5728 .ready none))) _
        refine WP.seq ?_
        refine WP.region ?_
        refine WPL.q (q_lss rfl rfl) rfl ?_
        refine WPL.nilW ?_
        refine W.now ?_
        refine Then.n ?_
        refine WP.seq ?_
        refine WP.cond (t := (decide (x5838 < x5528))) rfl (fun hb => ?_) (fun hb => ?_)
        · replace H := cnt hb H
          refine WP.skipW ?_
          refine W.now ?_
          refine Then.n ?_
          refine WP.seq ?_
          refine WP.block ?_
          refine WP.seq ?_
          refine WP.region ?_
          refine WPL.q (q_mv (v := .lit (.int _ _)) rfl) rfl ?_
          refine WPL.q (q_as (v := .lit (.int _ _)) rfl) rfl ?_
          refine WPL.nilW ?_
          refine W.now ?_
          refine Then.n ?_
          refine WP.seq ?_
          refine WP.region ?_
          refine WPL.q (q_mv (v := .lit _) rfl) rfl ?_
          refine WPL.q (q_mv (v := .lit (.int _ _)) rfl) rfl ?_
          refine WPL.q (q_load sc34 rfl rfl rfl) rfl ?_
          refine WPL.q (q_mv (v := .lit (.int _ _)) rfl) rfl ?_
          obtain ⟨h5928, H⟩ := grd H
          refine WPL.q (q_shr rfl rfl h5928) rfl ?_
          refine WPL.q (q_conv Try.underlying34 Try.underlying5 rfl) rfl ?_
          obtain ⟨x5930, h5930, H⟩ := bnd H
          refine WPL.q (q_nm (q_and rfl rfl) (nm_int h5930)) rfl ?_
          refine WPL.y rfl rfl rfl rfl hp5728 ha5728 hb5728 ht5728 hs5728 rfl rfl rfl fun aI5930 => ?_
          refine WP.region ?_
          refine WPL.q (q_as (v := .lit (.int _ _)) rfl) rfl ?_
          refine WPL.nilW ?_
          refine W.now ?_
          refine ⟨rfl, rfl, _, _, _, _, _, _, rfl, rfl, ?_⟩
          refine WP.block ?_
          refine WP.seq ?_
          obtain ⟨x5935, H5938, H⟩ := bnd H
          refine WP.monoW (Q := fun x E M => x = .normal ∧ E = ((((⟨fun _ => .any, [], [⟨aI5930, (((((Env.none.upd 0 (.lit (.func (.yield l_5728) #[] #[]))).upd 2 (.ptr 4 0)).upd 5 (.lit (.int .i64 x5528))).upd 6 (.lit (.int .i64 x5838)))).v, [], none⟩, ⟨aC5728, (((Env.none.upd 3 (.ptr 2 0)).upd 19 (.fn 28 [.ptr 3 0, .ptr 4 0]))).v, [5, 6], some (7, l_5728)⟩]⟩ : Env).upd 3 (.ptr 2 0)).upd 8 (.lit (.int .u8 x5930))).upd 19 (.fn 28 [.ptr 3 0, .ptr 4 0])) ∧ M = ((((((((Mem.nil.push (.cells 56 [.whole 1, .lit (.int .i64 x5839)])).push (.row 5 (Rd.int .u8) x5935)).push (.cells 31 [.ptr 0 0])).push (.cells 3 [.lit (.int .i64 x5528)])).push (.cells 34 [.lit (.int .u32 x5527)])).push (.obj (Obj.deferred (some [])))).push (.bag)).push (.obj (lp r_5728 .busy none)))) ?_ ?_
          · clear H
            have H := H5938
            clear H5938
            refine WP.seq ?_
            refine WP.region ?_
            refine WPL.q (q_load sc31 rfl rfl rfl) rfl ?_
            refine WPL.q (q_nilCheck rfl) rfl ?_
            refine WPL.q (q_fieldAddr fi56_1 rfl rfl) rfl ?_
            refine WPL.q (q_load sc3 rfl rfl rfl) rfl ?_
            refine WPL.q (q_rem rfl rfl rfl) rfl ?_
            refine WPL.q (q_eql rfl rfl) rfl ?_
            refine WPL.nilW ?_
            refine W.now ?_
            refine Then.n ?_
            refine WP.cond (t := (decide ((Int.tmod x5839 8) = 0))) rfl (fun hb => ?_) (fun hb => ?_)
            · replace H := cnt hb H
              refine WP.regionD' 10 [0, 3] [9] mixed rfl ?_
              refine WPD.take 0 rfl (by kernel_rfl) (q_load sc31 rfl rfl rfl) rfl rfl ?_
              refine WPD.take 1 rfl (by kernel_rfl) (q_load sc31 rfl rfl rfl) rfl rfl ?_
              refine WPD.takeT 2 rfl (by kernel_rfl) (q_nilCheck rfl) rfl ?_
              refine WPD.takeT 3 rfl (by kernel_rfl) (q_fieldAddr fi56_0 rfl rfl) rfl ?_
              refine WPD.take 4 rfl (by kernel_rfl) (q_load sc38 rfl rfl rfl) rfl rfl ?_
              refine WPD.eff 5 [0, 3] [9] rfl (by kernel_rfl) (Does.runs (d_buildSlice (ds := ([0] : List Int)) (R := (Rd.int .u8)) li38 rfl rfl rfl rfl rfl (JoinRows.cons1 Joins.sc rfl JoinRows.nil) rfl rfl)) rfl rfl ?_
              obtain ⟨h5937, H⟩ := grd H
              refine WPD.eff 6 [0, 3] [9] rfl (by kernel_rfl) (Does.runs (d_append ap38 rfl rfl rfl rfl (src_row sl38 rfl rfl) h5937 rfl)) rfl rfl ?_
              refine WPD.takeT 7 rfl (by kernel_rfl) (q_nilCheck rfl) rfl ?_
              refine WPD.takeT 8 rfl (by kernel_rfl) (q_fieldAddr fi56_0 rfl rfl) rfl ?_
              refine WPD.effS 9 [] [] rfl (by kernel_rfl) (s_store sz38 rfl rfl rfl rfl rfl) rfl ?_
              refine WPD.doneW (by kernel_rfl) ?_
              refine W.cv (Cv.weak (E' := ((((⟨fun _ => .any, [], [⟨aI5930, (((((Env.none.upd 0 (.lit (.func (.yield l_5728) #[] #[]))).upd 2 (.ptr 4 0)).upd 5 (.lit (.int .i64 x5528))).upd 6 (.lit (.int .i64 x5838)))).v, [], none⟩, ⟨aC5728, (((Env.none.upd 3 (.ptr 2 0)).upd 19 (.fn 28 [.ptr 3 0, .ptr 4 0]))).v, [5, 6], some (7, l_5728)⟩]⟩ : Env).upd 3 (.ptr 2 0)).upd 8 (.lit (.int .u8 x5930))).upd 19 (.fn 28 [.ptr 3 0, .ptr 4 0]))) (M' := ((((((((Mem.nil.push (.cells 56 [.whole 1, .lit (.int .i64 x5839)])).push (.row 5 (Rd.int .u8) (x5840 ++ ([0] : List Int)))).push (.cells 31 [.ptr 0 0])).push (.cells 3 [.lit (.int .i64 x5528)])).push (.cells 34 [.lit (.int .u32 x5527)])).push (.obj (Obj.deferred (some [])))).push (.bag)).push (.obj (lp r_5728 .busy none)))) [0, 9, 3, 4, 2, 5, 6, 7] hnp ⟨rfl, ⟨⟨⟨⟨⟨⟨⟨⟨trivial, .inr ⟨rfl, rfl, rfl⟩⟩, .inr ⟨rfl, rfl, rfl⟩⟩, .inr ⟨rfl, rfl, rfl⟩⟩, .inr ⟨rfl, rfl, rfl⟩⟩, .inr ⟨rfl, rfl, rfl⟩⟩, .inr ⟨rfl, rfl, rfl⟩⟩, .inr ⟨rfl, rfl, rfl⟩⟩, .inr ⟨rfl, rfl, rfl⟩⟩, by decide, rfl, ⟨trivial, rfl⟩⟩ (LeE.upd rfl rfl (LeE.upd rfl rfl (LeE.upd rfl rfl (LeE.noneD rfl rfl (.cons ⟨rfl, (LeV.upd rfl rfl (LeV.upd rfl rfl (LeV.upd rfl rfl (LeV.upd rfl rfl LeV.none)))), rfl, rfl, rfl, rfl⟩ (.cons ⟨rfl, (LeV.upd rfl rfl (LeV.upd rfl rfl LeV.none)), rfl, rfl, rfl, rfl⟩ .nil))))))) rfl ?_
              refine W.now ?_
              have q0 := (Option.some.inj H)
              subst q0
              exact ⟨rfl, rfl, rfl⟩
            · replace H := cnf hb H
              refine WP.skipW ?_
              refine W.cv (Cv.weak (E' := ((((⟨fun _ => .any, [], [⟨aI5930, (((((Env.none.upd 0 (.lit (.func (.yield l_5728) #[] #[]))).upd 2 (.ptr 4 0)).upd 5 (.lit (.int .i64 x5528))).upd 6 (.lit (.int .i64 x5838)))).v, [], none⟩, ⟨aC5728, (((Env.none.upd 3 (.ptr 2 0)).upd 19 (.fn 28 [.ptr 3 0, .ptr 4 0]))).v, [5, 6], some (7, l_5728)⟩]⟩ : Env).upd 3 (.ptr 2 0)).upd 8 (.lit (.int .u8 x5930))).upd 19 (.fn 28 [.ptr 3 0, .ptr 4 0]))) (M' := ((((((((Mem.nil.push (.cells 56 [.whole 1, .lit (.int .i64 x5839)])).push (.row 5 (Rd.int .u8) x5840)).push (.cells 31 [.ptr 0 0])).push (.cells 3 [.lit (.int .i64 x5528)])).push (.cells 34 [.lit (.int .u32 x5527)])).push (.obj (Obj.deferred (some [])))).push (.bag)).push (.obj (lp r_5728 .busy none)))) [0, 1, 3, 4, 2, 5, 6, 7] hnp ⟨rfl, ⟨⟨⟨⟨⟨⟨⟨⟨trivial, .inr ⟨rfl, rfl, rfl⟩⟩, .inr ⟨rfl, rfl, rfl⟩⟩, .inr ⟨rfl, rfl, rfl⟩⟩, .inr ⟨rfl, rfl, rfl⟩⟩, .inr ⟨rfl, rfl, rfl⟩⟩, .inr ⟨rfl, rfl, rfl⟩⟩, .inr ⟨rfl, rfl, rfl⟩⟩, .inr ⟨rfl, rfl, rfl⟩⟩, by decide, rfl, ⟨trivial, rfl⟩⟩ (LeE.upd rfl rfl (LeE.upd rfl rfl (LeE.upd rfl rfl (LeE.noneD rfl rfl (.cons ⟨rfl, (LeV.upd rfl rfl (LeV.upd rfl rfl (LeV.upd rfl rfl (LeV.upd rfl rfl LeV.none)))), rfl, rfl, rfl, rfl⟩ (.cons ⟨rfl, (LeV.upd rfl rfl (LeV.upd rfl rfl LeV.none)), rfl, rfl, rfl, rfl⟩ .nil))))))) rfl ?_
              refine W.now ?_
              have q0 := (Option.some.inj H)
              subst q0
              exact ⟨rfl, rfl, rfl⟩
          · rintro _ _ _ ⟨rfl, rfl, rfl⟩
            refine W.now ?_
            refine Then.n ?_
            refine WP.seq ?_
            refine WP.regionD' 22 [0, 1, 2] [21] mixed rfl ?_
            refine WPD.takeT 12 rfl (by kernel_rfl) (q_mv (v := .lit (.int _ _)) rfl) rfl ?_
            refine WPD.take 0 rfl (by kernel_rfl) (q_load sc31 rfl rfl rfl) rfl rfl ?_
            refine WPD.takeT 1 rfl (by kernel_rfl) (q_nilCheck rfl) rfl ?_
            refine WPD.takeT 2 rfl (by kernel_rfl) (q_fieldAddr fi56_0 rfl rfl) rfl ?_
            refine WPD.take 3 rfl (by kernel_rfl) (q_load sc38 rfl rfl rfl) rfl rfl ?_
            refine WPD.take 4 rfl (by kernel_rfl) (q_load sc31 rfl rfl rfl) rfl rfl ?_
            refine WPD.takeT 5 rfl (by kernel_rfl) (q_nilCheck rfl) rfl ?_
            refine WPD.takeT 6 rfl (by kernel_rfl) (q_fieldAddr fi56_0 rfl rfl) rfl ?_
            refine WPD.take 7 rfl (by kernel_rfl) (q_load sc38 rfl rfl rfl) rfl rfl ?_
            refine WPD.takeT 8 rfl (by kernel_rfl) (q_len_row sl38 rfl rfl) rfl ?_
            obtain ⟨x5952, h5952, H⟩ := bnd H
            refine WPD.takeT 9 rfl (by kernel_rfl) (q_nm (q_sub rfl rfl) (nm_int h5952)) rfl ?_
            obtain ⟨x5953, h5953, H⟩ := bnd H
            refine WPD.takeT 10 rfl (by kernel_rfl) (q_index_row sl38 rfl rfl rfl (ixs h5953)) rfl ?_
            refine WPD.take 11 rfl (by kernel_rfl) (q_load_row (j := (Int.toNat x5952)) sc5 rfl rfl (ixj h5953)) rfl rfl ?_
            refine WPD.take 13 rfl (by kernel_rfl) (q_load sc31 rfl rfl rfl) rfl rfl ?_
            refine WPD.takeT 14 rfl (by kernel_rfl) (q_nilCheck rfl) rfl ?_
            refine WPD.takeT 15 rfl (by kernel_rfl) (q_fieldAddr fi56_1 rfl rfl) rfl ?_
            refine WPD.take 16 rfl (by kernel_rfl) (q_load sc3 rfl rfl rfl) rfl rfl ?_
            refine WPD.takeT 17 rfl (by kernel_rfl) (q_rem rfl rfl rfl) rfl ?_
            obtain ⟨h5953, H⟩ := grd H
            refine WPD.takeT 18 rfl (by kernel_rfl) (q_shl rfl rfl h5953) rfl ?_
            obtain ⟨x5955, h5955, H⟩ := bnd H
            refine WPD.takeT 19 rfl (by kernel_rfl) (q_nm (q_or rfl rfl) (nm_int h5955)) rfl ?_
            obtain ⟨x5956, h5956, H⟩ := bnd H
            refine WPD.takeT 20 rfl (by kernel_rfl) (q_index_row sl38 rfl rfl rfl (ixs h5956)) rfl ?_
            refine WPD.effS 21 [] [] rfl (by kernel_rfl) (s_store_row (j := (Int.toNat x5952)) (d := x5955) sz5 rfl rfl rfl rfl Joins.sc (ixl h5956)) rfl ?_
            refine WPD.doneW (by kernel_rfl) ?_
            refine W.now ?_
            refine Then.n ?_
            refine WP.region ?_
            refine WPL.q (q_load sc31 rfl rfl rfl) rfl ?_
            refine WPL.q (q_nilCheck rfl) rfl ?_
            refine WPL.q (q_fieldAddr fi56_1 rfl rfl) rfl ?_
            refine WPL.q (q_load sc3 rfl rfl rfl) rfl ?_
            refine WPL.q (q_add rfl rfl) rfl ?_
            refine WPL.q (q_nilCheck rfl) rfl ?_
            refine WPL.q (q_fieldAddr fi56_1 rfl rfl) rfl ?_
            refine WPL.s (s_store sz3 rfl rfl rfl rfl rfl) ?_
            refine WPL.nilW ?_
            refine W.now ?_
            refine InBlock.n ?_
            refine ⟨rfl, _, _, _, _, _, _, rfl, rfl, _, rfl, ?_⟩
            refine WPL.q (q_not rfl) rfl ?_
            refine WPL.nilW ?_
            refine W.now ?_
            refine Then.n ?_
            refine WP.cond (t := (!true)) rfl (fun hb => ?_) (fun hb => ?_)
            · replace H := cnt hb H
              refine WP.retW ?_
              refine W.cv (Cv.weak (E' := (⟨fun _ => .any, [], [⟨aC5728, (((Env.none.upd 3 (.ptr 2 0)).upd 19 (.fn 28 [.ptr 3 0, .ptr 4 0]))).v, [5, 6], some (7, l_5728)⟩]⟩ : Env)) (M' := ((((((((Mem.nil.push (.cells 56 [.whole 1, .lit (.int .i64 (IntKind.wrap .i64 (x5839 + 1)))])).push (.row 5 (Rd.int .u8) (List.set x5935 (Int.toNat x5952) x5955))).push (.cells 31 [.ptr 0 0])).push (.cells 3 [.lit (.int .i64 x5528)])).push (.cells 34 [.lit (.int .u32 x5527)])).push (.obj (Obj.deferred (some [])))).push (.bag)).push (.obj (lp r_5728 .ready none)))) [0, 1, 2, 3, 4, 5, 6, 7] hnp ⟨rfl, ⟨⟨⟨⟨⟨⟨⟨⟨trivial, .inr ⟨rfl, rfl, rfl⟩⟩, .inr ⟨rfl, rfl, rfl⟩⟩, .inr ⟨rfl, rfl, rfl⟩⟩, .inr ⟨rfl, rfl, rfl⟩⟩, .inr ⟨rfl, rfl, rfl⟩⟩, .inr ⟨rfl, rfl, rfl⟩⟩, .inr ⟨rfl, rfl, rfl⟩⟩, .inr ⟨rfl, rfl, rfl⟩⟩, by decide, rfl, ⟨trivial, rfl⟩⟩ (LeE.noneD rfl rfl (.cons ⟨rfl, (LeV.upd rfl rfl (LeV.upd rfl rfl LeV.none)), rfl, rfl, rfl, rfl⟩ .nil))) rfl ?_
              refine W.now ?_
              refine InBlock.r ?_
              refine Then.r ?_
              refine Then.r ?_
              have q0 := Option.some.inj H
              subst q0
              exact ⟨rfl, rfl, rfl⟩
            · replace H := cnf hb H
              refine WP.skipW ?_
              refine W.now ?_
              refine InBlock.n ?_
              refine Then.n ?_
              refine WP.region ?_
              refine WPL.q (q_add rfl rfl) rfl ?_
              refine WPL.q (q_mv (v := .lit (.int _ _)) rfl) rfl ?_
              refine WPL.nilW ?_
              refine W.cv (Cv.weak (E' := (((((⟨fun _ => .any, [], [⟨aC5728, (((Env.none.upd 3 (.ptr 3 0)).upd 19 (.fn 28 [.ptr 4 0, .ptr 2 0]))).v, [5, 6], some (7, l_5728)⟩]⟩ : Env).upd 0 (.lit (.func (.yield l_5728) #[] #[]))).upd 2 (.ptr 2 0)).upd 5 (.lit (.int .i64 x5528))).upd 6 (.lit (.int .i64 (IntKind.wrap .i64 (x5838 + 1)))))) (M' := ((((((((Mem.nil.push (.cells 56 [.whole 1, .lit (.int .i64 (IntKind.wrap .i64 (x5839 + 1)))])).push (.row 5 (Rd.int .u8) (List.set x5935 (Int.toNat x5952) x5955))).push (.cells 34 [.lit (.int .u32 x5527)])).push (.cells 31 [.ptr 0 0])).push (.cells 3 [.lit (.int .i64 x5528)])).push (.obj (Obj.deferred (some [])))).push (.bag)).push (.obj (lp r_5728 .ready none)))) [0, 1, 4, 2, 3, 5, 6, 7] hnp ⟨rfl, ⟨⟨⟨⟨⟨⟨⟨⟨trivial, .inr ⟨rfl, rfl, rfl⟩⟩, .inr ⟨rfl, rfl, rfl⟩⟩, .inr ⟨rfl, rfl, rfl⟩⟩, .inr ⟨rfl, rfl, rfl⟩⟩, .inr ⟨rfl, rfl, rfl⟩⟩, .inr ⟨rfl, rfl, rfl⟩⟩, .inr ⟨rfl, rfl, rfl⟩⟩, .inr ⟨rfl, rfl, rfl⟩⟩, by decide, rfl, ⟨trivial, rfl⟩⟩ (LeE.upd rfl rfl (LeE.upd rfl rfl (LeE.upd rfl rfl (LeE.upd rfl rfl (LeE.noneD rfl rfl (.cons ⟨rfl, (LeV.upd rfl rfl (LeV.upd rfl rfl LeV.none)), rfl, rfl, rfl, rfl⟩ .nil))))))) rfl ?_
              refine W.now ?_
              exact Then.n ⟨n, ((IntKind.wrap .i64 (x5838 + 1)), (IntKind.wrap .i64 (x5839 + 1)), (List.set x5935 (Int.toNat x5952) x5955)), Nat.lt_succ_self n, H, rfl, rfl⟩
        · replace H := cnf hb H
          refine WP.exitW ?_
          refine W.cv (Cv.weak (E' := (⟨fun _ => .any, [], [⟨aC5728, (((Env.none.upd 3 (.ptr 2 0)).upd 19 (.fn 28 [.ptr 3 0, .ptr 4 0]))).v, [5, 6], some (7, l_5728)⟩]⟩ : Env)) (M' := ((((((((Mem.nil.push (.cells 56 [.whole 1, .lit (.int .i64 x5839)])).push (.row 5 (Rd.int .u8) x5840)).push (.cells 31 [.ptr 0 0])).push (.cells 3 [.lit (.int .i64 x5528)])).push (.cells 34 [.lit (.int .u32 x5527)])).push (.obj (Obj.deferred (some [])))).push (.bag)).push (.obj (lp r_5728 .ready none)))) [0, 1, 3, 4, 2, 5, 6, 7] hnp ⟨rfl, ⟨⟨⟨⟨⟨⟨⟨⟨trivial, .inr ⟨rfl, rfl, rfl⟩⟩, .inr ⟨rfl, rfl, rfl⟩⟩, .inr ⟨rfl, rfl, rfl⟩⟩, .inr ⟨rfl, rfl, rfl⟩⟩, .inr ⟨rfl, rfl, rfl⟩⟩, .inr ⟨rfl, rfl, rfl⟩⟩, .inr ⟨rfl, rfl, rfl⟩⟩, .inr ⟨rfl, rfl, rfl⟩⟩, by decide, rfl, ⟨trivial, rfl⟩⟩ (LeE.noneD rfl rfl (.cons ⟨rfl, (LeV.upd rfl rfl (LeV.upd rfl rfl LeV.none)), rfl, rfl, rfl, rfl⟩ .nil))) rfl ?_
          refine W.now ?_
          refine Then.x ?_
          refine Then.x ?_
          have q0 := Option.some.inj H
          subst q0
          exact ⟨rfl, rfl, rfl⟩
      · rcases y5958 with ⟨x5897, x5898⟩ | ⟨x5899, x5900⟩
        · rintro _ _ _ ⟨rfl, rfl, rfl⟩
          refine W.now ?_
          refine InBlock.r ?_
          refine ⟨trivial, _, _, _, _, rfl, _, _, rfl, (fun h => by cases h), ?_⟩
          refine W.cv (Cv.absorb (N := 8) (j := 5) (i := 6) rfl rfl rfl rfl) rfl ?_
          refine W.now ?_
          refine InBlock.n ?_
          refine Then.n ?_
          refine WP.seq ?_
          refine WP.region ?_
          refine WPL.q (q_as (v := .lit (.int _ _)) rfl) rfl ?_
          refine WPL.nilW ?_
          refine W.now ?_
          refine Then.n ?_
          refine WP.retW ?_
          refine W.now ?_
          have q0 := (Prod.mk.inj (Option.some.inj H)).1
          have q1 := (Prod.mk.inj (Prod.mk.inj (Option.some.inj H)).2).1
          have q2 := (Prod.mk.inj (Prod.mk.inj (Option.some.inj H)).2).2
          subst q0
          subst q1
          subst q2
          exact ⟨⟨.inr rfl, trivial⟩, _, rfl, [0, 1], (.lit (.int .i64 0)), ((Mem.nil.push (.cells 56 [.whole 1, .lit (.int .i64 x5897)])).push (.row 5 (Rd.int .u8) x5898)), ⟨rfl, ⟨⟨trivial, .inr ⟨rfl, rfl, rfl⟩⟩, .inr ⟨rfl, rfl, rfl⟩⟩, by decide, rfl, ⟨trivial, rfl⟩⟩, rfl, rfl, rfl, rfl⟩
        · rintro _ _ _ ⟨rfl, rfl, rfl⟩
          refine W.now ?_
          refine InBlock.x0 ?_
          refine ⟨trivial, _, _, _, _, rfl, _, _, rfl, (fun h => by cases h), ?_⟩
          refine W.cv (Cv.absorb (N := 8) (j := 5) (i := 6) rfl rfl rfl rfl) rfl ?_
          refine W.now ?_
          refine InBlock.n ?_
          refine Then.n ?_
          refine WP.seq ?_
          refine WP.region ?_
          refine WPL.q (q_as (v := .lit (.int _ _)) rfl) rfl ?_
          refine WPL.nilW ?_
          refine W.now ?_
          refine Then.n ?_
          refine WP.retW ?_
          refine W.now ?_
          have q0 := (Prod.mk.inj (Option.some.inj H)).1
          have q1 := (Prod.mk.inj (Prod.mk.inj (Option.some.inj H)).2).1
          have q2 := (Prod.mk.inj (Prod.mk.inj (Option.some.inj H)).2).2
          subst q0
          subst q1
          subst q2
          exact ⟨⟨.inr rfl, trivial⟩, _, rfl, [0, 1], (.lit (.int .i64 0)), ((Mem.nil.push (.cells 56 [.whole 1, .lit (.int .i64 x5899)])).push (.row 5 (Rd.int .u8) x5900)), ⟨rfl, ⟨⟨trivial, .inr ⟨rfl, rfl, rfl⟩⟩, .inr ⟨rfl, rfl, rfl⟩⟩, by decide, rfl, ⟨trivial, rfl⟩⟩, rfl, rfl, rfl, rfl⟩
end Go.Proofs.Ythgbompoldmhmab.W
