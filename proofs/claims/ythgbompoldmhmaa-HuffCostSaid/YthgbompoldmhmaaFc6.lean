/- Walks: Fc6 -/
import Derived.Test.YthgbompoldmhmaaFb
import Derived.Test.YthgbompoldmhmaaFc4
namespace Go.Proofs.Ythgbompoldmhmaa.W
open Go Go.Q Go.Proofs
set_option linter.unusedVariables false
set_option linter.unusedSimpArgs false
set_option maxRecDepth 100000 in
set_option maxHeartbeats 4000000 in
theorem s18 (k : Nat) (x5914 : (List Int)) (x5915 : (List Int)) (x6061 : Int) (H : f18 k x5914 x5915 = some x6061) : Go.Q.Spec Try.prog 18 0 [.ro (Rd.slice (Rd.int .i64)) false x5914, .ro (Rd.slice (Rd.int .i64)) false x5915] Mem.nil (fun o M => o = .ret (.lit (.int .i64 x6061)) ∧ M = Mem.nil) := by
  unfold f18 at H
  refine Go.Q.Spec.of_bodyR (rs := [.tmp 4]) (nt := 58) Try.func18 rfl rfl (by intro t T h; simp at h) rfl rfl fun cx hnp => ?_
  refine WP.seq ?_
  refine WP.region ?_
  refine WPL.q (q_as (v := .lit (.int _ _)) rfl) rfl ?_
  refine WPL.nilW ?_
  refine W.now ?_
  refine Then.n ?_
  refine WP.seq ?_
  refine WP.region ?_
  refine WPL.q (q_as (v := .lit (.int _ _)) rfl) rfl ?_
  refine WPL.nilW ?_
  refine W.now ?_
  refine Then.n ?_
  refine WP.seq ?_
  refine WP.seq ?_
  refine WP.region ?_
  refine WPL.q (q_mv (v := .ro _ _ _) rfl) rfl ?_
  refine WPL.q (q_len_ro sl22 rfl) rfl ?_
  refine WPL.q (q_mv (v := .ro _ _ _) rfl) rfl ?_
  refine WPL.q (q_len_ro sl22 rfl) rfl ?_
  obtain ⟨x6062, h6062, H⟩ := bnd H
  refine WPL.q (q_nm (q_min rfl rfl) (nm_int h6062)) rfl ?_
  refine WPL.q (q_mv (v := .lit (.int _ _)) rfl) rfl ?_
  refine WPL.nilW ?_
  refine W.now ?_
  refine Then.n ?_
  refine WP.block ?_
  refine WP.cv (Cv.weak (E' := (((((Env.none.upd 0 (.ro (Rd.slice (Rd.int .i64)) false x5914)).upd 1 (.ro (Rd.slice (Rd.int .i64)) false x5915)).upd 5 (.lit (.int .i64 0))).upd 13 (.lit (.int .i64 x6062))).upd 14 (.lit (.int .i64 0)))) (M' := Mem.nil) [] hnp ⟨rfl, trivial, by decide, rfl, trivial⟩ (LeE.upd rfl rfl (LeE.upd rfl rfl (LeE.upd rfl rfl (LeE.upd rfl rfl (LeE.upd rfl rfl (LeE.none rfl rfl))))))) ?_
  obtain ⟨y6274, H6272, H⟩ := bnd H
  refine WP.monoW (Q := fun x E M => match (generalizing := false) y6274 with | (Sum.inl _) => x = .ret ∧ E = (Env.none.upd 4 (.lit (.int .i64 4611686018427387904))) ∧ M = Mem.nil | (Sum.inr x6203) => x = .exit 0 ∧ E = (Env.none.upd 5 (.lit (.int .i64 x6203))) ∧ M = Mem.nil) ?_ ?_
  · refine WP.loop (β := Int × Int) (fun n b => f18_l0 k x5914 x5915 x6062 n b.1 b.2 = some y6274) (fun b => (((((Env.none.upd 0 (.ro (Rd.slice (Rd.int .i64)) false x5914)).upd 1 (.ro (Rd.slice (Rd.int .i64)) false x5915)).upd 5 (.lit (.int .i64 b.1))).upd 13 (.lit (.int .i64 x6062))).upd 14 (.lit (.int .i64 b.2)))) (fun b => Mem.nil) k (0, 0) H6272 rfl rfl ?_
    rintro n ⟨x6132, x6133⟩ H
    obtain _ | n := n
    · exact nf rfl H
    rw [f18_l0.eq_2] at H
    show WP _ _ _ _ (((((Env.none.upd 0 (.ro (Rd.slice (Rd.int .i64)) false x5914)).upd 1 (.ro (Rd.slice (Rd.int .i64)) false x5915)).upd 5 (.lit (.int .i64 x6132))).upd 13 (.lit (.int .i64 x6062))).upd 14 (.lit (.int .i64 x6133))) Mem.nil _
    refine WP.seq ?_
    refine WP.region ?_
    refine WPL.q (q_lss rfl rfl) rfl ?_
    refine WPL.nilW ?_
    refine W.now ?_
    refine Then.n ?_
    refine WP.seq ?_
    refine WP.cond (t := (decide (x6133 < x6062))) rfl (fun hb => ?_) (fun hb => ?_)
    · replace H := cnt hb H
      refine WP.skipW ?_
      refine W.now ?_
      refine Then.n ?_
      refine WP.seq ?_
      obtain ⟨y6272, H6270, H⟩ := bnd H
      refine WP.monoW (Q := fun x E M => match (generalizing := false) y6272 with | (Sum.inl x6237) => x = .normal ∧ E = (((((Env.none.upd 0 (.ro (Rd.slice (Rd.int .i64)) false x5914)).upd 1 (.ro (Rd.slice (Rd.int .i64)) false x5915)).upd 5 (.lit (.int .i64 x6237))).upd 13 (.lit (.int .i64 x6062))).upd 14 (.lit (.int .i64 x6133))) ∧ M = Mem.nil | (Sum.inr _) => x = .ret ∧ E = (Env.none.upd 4 (.lit (.int .i64 4611686018427387904))) ∧ M = Mem.nil) ?_ ?_
      · clear H
        have H := H6270
        clear H6270
        refine WP.block ?_
        refine WP.seq ?_
        refine WP.region ?_
        refine WPL.q (q_mv (v := .lit (.int _ _)) rfl) rfl ?_
        refine WPL.q (q_as (v := .lit (.int _ _)) rfl) rfl ?_
        refine WPL.nilW ?_
        refine W.now ?_
        refine Then.n ?_
        refine WP.seq ?_
        refine WP.regionD' 10 [] [] mixed rfl ?_
        refine WPD.takeT 0 rfl (by kernel_rfl) (q_mv (v := .ro _ _ _) rfl) rfl ?_
        refine WPD.takeT 1 rfl (by kernel_rfl) (q_mv (v := .lit (.int _ _)) rfl) rfl ?_
        obtain ⟨x6240, h6240, H⟩ := bnd H
        refine WPD.takeT 2 rfl (by kernel_rfl) (q_index_ro sl22 rfl rfl rfl h6240) rfl ?_
        refine WPD.takeT 3 rfl (by kernel_rfl) (q_load_sc sc3 rfl) rfl ?_
        refine WPD.takeT 4 rfl (by kernel_rfl) (q_mv (v := .ro _ _ _) rfl) rfl ?_
        refine WPD.takeT 5 rfl (by kernel_rfl) (q_mv (v := .lit (.int _ _)) rfl) rfl ?_
        obtain ⟨x6241, h6241, H⟩ := bnd H
        refine WPD.takeT 6 rfl (by kernel_rfl) (q_index_ro sl22 rfl rfl rfl h6241) rfl ?_
        refine WPD.takeT 7 rfl (by kernel_rfl) (q_load_sc sc3 rfl) rfl ?_
        refine WPD.takeT 8 rfl (by kernel_rfl) (q_as (v := .lit (.int _ _)) rfl) rfl ?_
        refine WPD.takeT 9 rfl (by kernel_rfl) (q_as (v := .lit (.int _ _)) rfl) rfl ?_
        refine WPD.doneW (by kernel_rfl) ?_
        refine W.now ?_
        refine Then.n ?_
        refine WP.seq ?_
        refine WP.seq ?_
        obtain ⟨x6247, H6248, H⟩ := bnd H
        refine WP.monoW (Q := fun x E M => x = .normal ∧ E = ((((((((Env.none.upd 0 (.ro (Rd.slice (Rd.int .i64)) false x5914)).upd 1 (.ro (Rd.slice (Rd.int .i64)) false x5915)).upd 5 (.lit (.int .i64 x6132))).upd 7 (.lit (.int .i64 x6240))).upd 8 (.lit (.int .i64 x6241))).upd 13 (.lit (.int .i64 x6062))).upd 14 (.lit (.int .i64 x6133))).upd 30 (.lit (.bool x6247))) ∧ M = Mem.nil) ?_ ?_
        · clear H
          have H := H6248
          clear H6248
          refine WP.region ?_
          refine WPL.q (q_mv (v := .lit (.int _ _)) rfl) rfl ?_
          refine WPL.q (q_eql rfl rfl) rfl ?_
          refine WPL.q (q_mv (v := .lit (.bool _)) rfl) rfl ?_
          refine WPL.split (t := 27) (b := (decide (x6240 = 0))) rfl (fun hb6247 => ?_) (fun hb6247 => ?_)
          · replace H := cnt hb6247 H
            refine WPL.skipg (b' := true) rfl rfl (lb hb6247) rfl rfl ?_
            refine WPL.skipg (b' := true) rfl rfl (lb hb6247) rfl rfl ?_
            refine WPL.q (q_pickT (v := .lit (.bool _)) (lb hb6247) rfl) rfl ?_
            refine WPL.nilW ?_
            refine W.cv (Cv.weak (E' := ((((((((Env.none.upd 0 (.ro (Rd.slice (Rd.int .i64)) false x5914)).upd 1 (.ro (Rd.slice (Rd.int .i64)) false x5915)).upd 5 (.lit (.int .i64 x6132))).upd 7 (.lit (.int .i64 x6240))).upd 8 (.lit (.int .i64 x6241))).upd 13 (.lit (.int .i64 x6062))).upd 14 (.lit (.int .i64 x6133))).upd 30 (.lit (.bool true)))) (M' := Mem.nil) [] hnp ⟨rfl, trivial, by decide, rfl, trivial⟩ (LeE.upd rfl rfl (LeE.upd rfl rfl (LeE.upd rfl rfl (LeE.upd rfl rfl (LeE.upd rfl rfl (LeE.upd rfl rfl (LeE.upd rfl rfl (LeE.upd rfl rfl (LeE.none rfl rfl)))))))))) rfl ?_
            refine W.now ?_
            have q0 := (Option.some.inj H)
            subst q0
            exact ⟨rfl, rfl, rfl⟩
          · replace H := cnf hb6247 H
            refine WPL.qg rfl rfl (lb hb6247) (q_mv (v := .lit (.int _ _)) rfl) rfl ?_
            refine WPL.qg rfl rfl (lb hb6247) (q_eql rfl rfl) rfl ?_
            refine WPL.q (q_pickF (v := .lit (.bool _)) (lb hb6247) rfl) rfl ?_
            refine WPL.nilW ?_
            refine W.cv (Cv.weak (E' := ((((((((Env.none.upd 0 (.ro (Rd.slice (Rd.int .i64)) false x5914)).upd 1 (.ro (Rd.slice (Rd.int .i64)) false x5915)).upd 5 (.lit (.int .i64 x6132))).upd 7 (.lit (.int .i64 x6240))).upd 8 (.lit (.int .i64 x6241))).upd 13 (.lit (.int .i64 x6062))).upd 14 (.lit (.int .i64 x6133))).upd 30 (.lit (.bool (decide (x6241 = 0)))))) (M' := Mem.nil) [] hnp ⟨rfl, trivial, by decide, rfl, trivial⟩ (LeE.upd rfl rfl (LeE.upd rfl rfl (LeE.upd rfl rfl (LeE.upd rfl rfl (LeE.upd rfl rfl (LeE.upd rfl rfl (LeE.upd rfl rfl (LeE.upd rfl rfl (LeE.none rfl rfl)))))))))) rfl ?_
            refine W.now ?_
            have q0 := (Option.some.inj H)
            subst q0
            exact ⟨rfl, rfl, rfl⟩
        · rintro _ _ _ ⟨rfl, rfl, rfl⟩
          refine W.now ?_
          refine Then.n ?_
          refine WP.cond (t := x6247) rfl (fun hb => ?_) (fun hb => ?_)
          · replace H := cnt hb H
            refine WP.exitW ?_
            refine W.cv (Cv.weak (E' := (((((Env.none.upd 0 (.ro (Rd.slice (Rd.int .i64)) false x5914)).upd 1 (.ro (Rd.slice (Rd.int .i64)) false x5915)).upd 5 (.lit (.int .i64 x6132))).upd 13 (.lit (.int .i64 x6062))).upd 14 (.lit (.int .i64 x6133)))) (M' := Mem.nil) [] hnp ⟨rfl, trivial, by decide, rfl, trivial⟩ (LeE.upd rfl rfl (LeE.upd rfl rfl (LeE.upd rfl rfl (LeE.upd rfl rfl (LeE.upd rfl rfl (LeE.none rfl rfl))))))) rfl ?_
            refine W.now ?_
            refine Then.x ?_
            refine InBlock.x0 ?_
            have q0 := Option.some.inj H
            subst q0
            exact ⟨rfl, rfl, rfl⟩
          · replace H := cnf hb H
            refine WP.skipW ?_
            refine W.now ?_
            refine Then.n ?_
            refine WP.seq ?_
            refine WP.seq ?_
            obtain ⟨x6261, H6264, H⟩ := bnd H
            refine WP.monoW (Q := fun x E M => x = .normal ∧ E = ((((((((Env.none.upd 0 (.ro (Rd.slice (Rd.int .i64)) false x5914)).upd 1 (.ro (Rd.slice (Rd.int .i64)) false x5915)).upd 5 (.lit (.int .i64 x6132))).upd 7 (.lit (.int .i64 x6240))).upd 8 (.lit (.int .i64 x6241))).upd 13 (.lit (.int .i64 x6062))).upd 14 (.lit (.int .i64 x6133))).upd 44 (.lit (.bool x6261))) ∧ M = Mem.nil) ?_ ?_
            · clear H
              have H := H6264
              clear H6264
              refine WP.region ?_
              refine WPL.q (q_mv (v := .lit (.int _ _)) rfl) rfl ?_
              refine WPL.q (q_gtr rfl rfl) rfl ?_
              refine WPL.q (q_mv (v := .lit (.bool _)) rfl) rfl ?_
              refine WPL.split (t := 33) (b := (decide (1099511627776 < x6240))) rfl (fun hb6261 => ?_) (fun hb6261 => ?_)
              · replace H := cnt hb6261 H
                refine WPL.skipg (b' := true) rfl rfl (lb hb6261) rfl rfl ?_
                refine WPL.skipg (b' := true) rfl rfl (lb hb6261) rfl rfl ?_
                refine WPL.q (q_pickT (v := .lit (.bool _)) (lb hb6261) rfl) rfl ?_
                refine WPL.q (q_mv (v := .lit (.bool _)) rfl) rfl ?_
                refine WPL.skipg (b' := true) rfl rfl rfl rfl rfl ?_
                refine WPL.skipg (b' := true) rfl rfl rfl rfl rfl ?_
                refine WPL.q (q_pickT (v := .lit (.bool _)) rfl rfl) rfl ?_
                refine WPL.q (q_mv (v := .lit (.bool _)) rfl) rfl ?_
                refine WPL.skipg (b' := true) rfl rfl rfl rfl rfl ?_
                refine WPL.skipg (b' := true) rfl rfl rfl rfl rfl ?_
                refine WPL.q (q_pickT (v := .lit (.bool _)) rfl rfl) rfl ?_
                refine WPL.nilW ?_
                refine W.cv (Cv.weak (E' := ((((((((Env.none.upd 0 (.ro (Rd.slice (Rd.int .i64)) false x5914)).upd 1 (.ro (Rd.slice (Rd.int .i64)) false x5915)).upd 5 (.lit (.int .i64 x6132))).upd 7 (.lit (.int .i64 x6240))).upd 8 (.lit (.int .i64 x6241))).upd 13 (.lit (.int .i64 x6062))).upd 14 (.lit (.int .i64 x6133))).upd 44 (.lit (.bool true)))) (M' := Mem.nil) [] hnp ⟨rfl, trivial, by decide, rfl, trivial⟩ (LeE.upd rfl rfl (LeE.upd rfl rfl (LeE.upd rfl rfl (LeE.upd rfl rfl (LeE.upd rfl rfl (LeE.upd rfl rfl (LeE.upd rfl rfl (LeE.upd rfl rfl (LeE.none rfl rfl)))))))))) rfl ?_
                refine W.now ?_
                have q0 := (Option.some.inj H)
                subst q0
                exact ⟨rfl, rfl, rfl⟩
              · replace H := cnf hb6261 H
                refine WPL.qg rfl rfl (lb hb6261) (q_mv (v := .lit (.int _ _)) rfl) rfl ?_
                refine WPL.qg rfl rfl (lb hb6261) (q_lss rfl rfl) rfl ?_
                refine WPL.q (q_pickF (v := .lit (.bool _)) (lb hb6261) rfl) rfl ?_
                refine WPL.q (q_mv (v := .lit (.bool _)) rfl) rfl ?_
                refine WPL.split (t := 37) (b := (decide (x6240 < (-1099511627776)))) rfl (fun hb6262 => ?_) (fun hb6262 => ?_)
                · replace H := cnt hb6262 H
                  refine WPL.skipg (b' := true) rfl rfl (lb hb6262) rfl rfl ?_
                  refine WPL.skipg (b' := true) rfl rfl (lb hb6262) rfl rfl ?_
                  refine WPL.q (q_pickT (v := .lit (.bool _)) (lb hb6262) rfl) rfl ?_
                  refine WPL.q (q_mv (v := .lit (.bool _)) rfl) rfl ?_
                  refine WPL.skipg (b' := true) rfl rfl rfl rfl rfl ?_
                  refine WPL.skipg (b' := true) rfl rfl rfl rfl rfl ?_
                  refine WPL.q (q_pickT (v := .lit (.bool _)) rfl rfl) rfl ?_
                  refine WPL.nilW ?_
                  refine W.cv (Cv.weak (E' := ((((((((Env.none.upd 0 (.ro (Rd.slice (Rd.int .i64)) false x5914)).upd 1 (.ro (Rd.slice (Rd.int .i64)) false x5915)).upd 5 (.lit (.int .i64 x6132))).upd 7 (.lit (.int .i64 x6240))).upd 8 (.lit (.int .i64 x6241))).upd 13 (.lit (.int .i64 x6062))).upd 14 (.lit (.int .i64 x6133))).upd 44 (.lit (.bool true)))) (M' := Mem.nil) [] hnp ⟨rfl, trivial, by decide, rfl, trivial⟩ (LeE.upd rfl rfl (LeE.upd rfl rfl (LeE.upd rfl rfl (LeE.upd rfl rfl (LeE.upd rfl rfl (LeE.upd rfl rfl (LeE.upd rfl rfl (LeE.upd rfl rfl (LeE.none rfl rfl)))))))))) rfl ?_
                  refine W.now ?_
                  have q0 := (Option.some.inj H)
                  subst q0
                  exact ⟨rfl, rfl, rfl⟩
                · replace H := cnf hb6262 H
                  refine WPL.qg rfl rfl (lb hb6262) (q_mv (v := .lit (.int _ _)) rfl) rfl ?_
                  refine WPL.qg rfl rfl (lb hb6262) (q_gtr rfl rfl) rfl ?_
                  refine WPL.q (q_pickF (v := .lit (.bool _)) (lb hb6262) rfl) rfl ?_
                  refine WPL.q (q_mv (v := .lit (.bool _)) rfl) rfl ?_
                  refine WPL.split (t := 41) (b := (decide (1048576 < x6241))) rfl (fun hb6263 => ?_) (fun hb6263 => ?_)
                  · replace H := cnt hb6263 H
                    refine WPL.skipg (b' := true) rfl rfl (lb hb6263) rfl rfl ?_
                    refine WPL.skipg (b' := true) rfl rfl (lb hb6263) rfl rfl ?_
                    refine WPL.q (q_pickT (v := .lit (.bool _)) (lb hb6263) rfl) rfl ?_
                    refine WPL.nilW ?_
                    refine W.cv (Cv.weak (E' := ((((((((Env.none.upd 0 (.ro (Rd.slice (Rd.int .i64)) false x5914)).upd 1 (.ro (Rd.slice (Rd.int .i64)) false x5915)).upd 5 (.lit (.int .i64 x6132))).upd 7 (.lit (.int .i64 x6240))).upd 8 (.lit (.int .i64 x6241))).upd 13 (.lit (.int .i64 x6062))).upd 14 (.lit (.int .i64 x6133))).upd 44 (.lit (.bool true)))) (M' := Mem.nil) [] hnp ⟨rfl, trivial, by decide, rfl, trivial⟩ (LeE.upd rfl rfl (LeE.upd rfl rfl (LeE.upd rfl rfl (LeE.upd rfl rfl (LeE.upd rfl rfl (LeE.upd rfl rfl (LeE.upd rfl rfl (LeE.upd rfl rfl (LeE.none rfl rfl)))))))))) rfl ?_
                    refine W.now ?_
                    have q0 := (Option.some.inj H)
                    subst q0
                    exact ⟨rfl, rfl, rfl⟩
                  · replace H := cnf hb6263 H
                    refine WPL.qg rfl rfl (lb hb6263) (q_mv (v := .lit (.int _ _)) rfl) rfl ?_
                    refine WPL.qg rfl rfl (lb hb6263) (q_lss rfl rfl) rfl ?_
                    refine WPL.q (q_pickF (v := .lit (.bool _)) (lb hb6263) rfl) rfl ?_
                    refine WPL.nilW ?_
                    refine W.cv (Cv.weak (E' := ((((((((Env.none.upd 0 (.ro (Rd.slice (Rd.int .i64)) false x5914)).upd 1 (.ro (Rd.slice (Rd.int .i64)) false x5915)).upd 5 (.lit (.int .i64 x6132))).upd 7 (.lit (.int .i64 x6240))).upd 8 (.lit (.int .i64 x6241))).upd 13 (.lit (.int .i64 x6062))).upd 14 (.lit (.int .i64 x6133))).upd 44 (.lit (.bool (decide (x6241 < (-1048576))))))) (M' := Mem.nil) [] hnp ⟨rfl, trivial, by decide, rfl, trivial⟩ (LeE.upd rfl rfl (LeE.upd rfl rfl (LeE.upd rfl rfl (LeE.upd rfl rfl (LeE.upd rfl rfl (LeE.upd rfl rfl (LeE.upd rfl rfl (LeE.upd rfl rfl (LeE.none rfl rfl)))))))))) rfl ?_
                    refine W.now ?_
                    have q0 := (Option.some.inj H)
                    subst q0
                    exact ⟨rfl, rfl, rfl⟩
            · rintro _ _ _ ⟨rfl, rfl, rfl⟩
              refine W.now ?_
              refine Then.n ?_
              refine WP.cond (t := x6261) rfl (fun hb => ?_) (fun hb => ?_)
              · replace H := cnt hb H
                refine WP.seq ?_
                refine WP.region ?_
                refine WPL.q (q_as (v := .lit (.int _ _)) rfl) rfl ?_
                refine WPL.nilW ?_
                refine W.now ?_
                refine Then.n ?_
                refine WP.retW ?_
                refine W.cv (Cv.weak (E' := (Env.none.upd 4 (.lit (.int .i64 4611686018427387904)))) (M' := Mem.nil) [] hnp ⟨rfl, trivial, by decide, rfl, trivial⟩ (LeE.upd rfl rfl (LeE.none rfl rfl))) rfl ?_
                refine W.now ?_
                refine Then.r ?_
                refine InBlock.r ?_
                have q0 := Option.some.inj H
                subst q0
                exact ⟨rfl, rfl, rfl⟩
              · replace H := cnf hb H
                refine WP.skipW ?_
                refine W.now ?_
                refine Then.n ?_
                refine WP.seq ?_
                refine WP.region ?_
                refine WPL.q (q_mv (v := .lit (.int _ _)) rfl) rfl ?_
                refine WPL.q (q_mv (v := .lit (.int _ _)) rfl) rfl ?_
                refine WPL.q (q_mv (v := .lit (.int _ _)) rfl) rfl ?_
                refine WPL.q (q_mul rfl rfl) rfl ?_
                obtain ⟨x6266, h6266, H⟩ := bnd H
                refine WPL.q (q_nm (q_add rfl rfl) (nm_int h6266)) rfl ?_
                refine WPL.q (q_as (v := .lit (.int _ _)) rfl) rfl ?_
                refine WPL.nilW ?_
                refine W.now ?_
                refine Then.n ?_
                refine WP.seq ?_
                obtain ⟨x6268, H6269, H⟩ := bnd H
                refine WP.monoW (Q := fun x E M => x = .normal ∧ E = ((((((Env.none.upd 0 (.ro (Rd.slice (Rd.int .i64)) false x5914)).upd 1 (.ro (Rd.slice (Rd.int .i64)) false x5915)).upd 5 (.lit (.int .i64 x6266))).upd 13 (.lit (.int .i64 x6062))).upd 14 (.lit (.int .i64 x6133))).upd 55 (.lit (.bool x6268))) ∧ M = Mem.nil) ?_ ?_
                · clear H
                  have H := H6269
                  clear H6269
                  refine WP.region ?_
                  refine WPL.q (q_mv (v := .lit (.int _ _)) rfl) rfl ?_
                  refine WPL.q (q_gtr rfl rfl) rfl ?_
                  refine WPL.q (q_mv (v := .lit (.bool _)) rfl) rfl ?_
                  refine WPL.split (t := 52) (b := (decide (2305843009213693952 < x6266))) rfl (fun hb6268 => ?_) (fun hb6268 => ?_)
                  · replace H := cnt hb6268 H
                    refine WPL.skipg (b' := true) rfl rfl (lb hb6268) rfl rfl ?_
                    refine WPL.skipg (b' := true) rfl rfl (lb hb6268) rfl rfl ?_
                    refine WPL.q (q_pickT (v := .lit (.bool _)) (lb hb6268) rfl) rfl ?_
                    refine WPL.nilW ?_
                    refine W.cv (Cv.weak (E' := ((((((Env.none.upd 0 (.ro (Rd.slice (Rd.int .i64)) false x5914)).upd 1 (.ro (Rd.slice (Rd.int .i64)) false x5915)).upd 5 (.lit (.int .i64 x6266))).upd 13 (.lit (.int .i64 x6062))).upd 14 (.lit (.int .i64 x6133))).upd 55 (.lit (.bool true)))) (M' := Mem.nil) [] hnp ⟨rfl, trivial, by decide, rfl, trivial⟩ (LeE.upd rfl rfl (LeE.upd rfl rfl (LeE.upd rfl rfl (LeE.upd rfl rfl (LeE.upd rfl rfl (LeE.upd rfl rfl (LeE.none rfl rfl)))))))) rfl ?_
                    refine W.now ?_
                    have q0 := (Option.some.inj H)
                    subst q0
                    exact ⟨rfl, rfl, rfl⟩
                  · replace H := cnf hb6268 H
                    refine WPL.qg rfl rfl (lb hb6268) (q_mv (v := .lit (.int _ _)) rfl) rfl ?_
                    refine WPL.qg rfl rfl (lb hb6268) (q_lss rfl rfl) rfl ?_
                    refine WPL.q (q_pickF (v := .lit (.bool _)) (lb hb6268) rfl) rfl ?_
                    refine WPL.nilW ?_
                    refine W.cv (Cv.weak (E' := ((((((Env.none.upd 0 (.ro (Rd.slice (Rd.int .i64)) false x5914)).upd 1 (.ro (Rd.slice (Rd.int .i64)) false x5915)).upd 5 (.lit (.int .i64 x6266))).upd 13 (.lit (.int .i64 x6062))).upd 14 (.lit (.int .i64 x6133))).upd 55 (.lit (.bool (decide (x6266 < (-2305843009213693952))))))) (M' := Mem.nil) [] hnp ⟨rfl, trivial, by decide, rfl, trivial⟩ (LeE.upd rfl rfl (LeE.upd rfl rfl (LeE.upd rfl rfl (LeE.upd rfl rfl (LeE.upd rfl rfl (LeE.upd rfl rfl (LeE.none rfl rfl)))))))) rfl ?_
                    refine W.now ?_
                    have q0 := (Option.some.inj H)
                    subst q0
                    exact ⟨rfl, rfl, rfl⟩
                · rintro _ _ _ ⟨rfl, rfl, rfl⟩
                  refine W.now ?_
                  refine Then.n ?_
                  refine WP.cond (t := x6268) rfl (fun hb => ?_) (fun hb => ?_)
                  · replace H := cnt hb H
                    refine WP.seq ?_
                    refine WP.region ?_
                    refine WPL.q (q_as (v := .lit (.int _ _)) rfl) rfl ?_
                    refine WPL.nilW ?_
                    refine W.now ?_
                    refine Then.n ?_
                    refine WP.retW ?_
                    refine W.cv (Cv.weak (E' := (Env.none.upd 4 (.lit (.int .i64 4611686018427387904)))) (M' := Mem.nil) [] hnp ⟨rfl, trivial, by decide, rfl, trivial⟩ (LeE.upd rfl rfl (LeE.none rfl rfl))) rfl ?_
                    refine W.now ?_
                    refine InBlock.r ?_
                    have q0 := Option.some.inj H
                    subst q0
                    exact ⟨rfl, rfl, rfl⟩
                  · replace H := cnf hb H
                    refine WP.skipW ?_
                    refine W.cv (Cv.weak (E' := (((((Env.none.upd 0 (.ro (Rd.slice (Rd.int .i64)) false x5914)).upd 1 (.ro (Rd.slice (Rd.int .i64)) false x5915)).upd 5 (.lit (.int .i64 x6266))).upd 13 (.lit (.int .i64 x6062))).upd 14 (.lit (.int .i64 x6133)))) (M' := Mem.nil) [] hnp ⟨rfl, trivial, by decide, rfl, trivial⟩ (LeE.upd rfl rfl (LeE.upd rfl rfl (LeE.upd rfl rfl (LeE.upd rfl rfl (LeE.upd rfl rfl (LeE.none rfl rfl))))))) rfl ?_
                    refine W.now ?_
                    refine InBlock.n ?_
                    have q0 := Option.some.inj H
                    subst q0
                    exact ⟨rfl, rfl, rfl⟩
      · rcases y6272 with x6237 | _
        · rintro _ _ _ ⟨rfl, rfl, rfl⟩
          refine W.now ?_
          refine Then.n ?_
          refine WP.region ?_
          refine WPL.q (q_add rfl rfl) rfl ?_
          refine WPL.q (q_mv (v := .lit (.int _ _)) rfl) rfl ?_
          refine WPL.nilW ?_
          refine W.cv (Cv.weak (E' := (((((Env.none.upd 0 (.ro (Rd.slice (Rd.int .i64)) false x5914)).upd 1 (.ro (Rd.slice (Rd.int .i64)) false x5915)).upd 5 (.lit (.int .i64 x6237))).upd 13 (.lit (.int .i64 x6062))).upd 14 (.lit (.int .i64 (IntKind.wrap .i64 (x6133 + 1)))))) (M' := Mem.nil) [] hnp ⟨rfl, trivial, by decide, rfl, trivial⟩ (LeE.upd rfl rfl (LeE.upd rfl rfl (LeE.upd rfl rfl (LeE.upd rfl rfl (LeE.upd rfl rfl (LeE.none rfl rfl))))))) rfl ?_
          refine W.now ?_
          exact Then.n ⟨n, (x6237, (IntKind.wrap .i64 (x6133 + 1))), Nat.lt_succ_self n, H, rfl, rfl⟩
        · rintro _ _ _ ⟨rfl, rfl, rfl⟩
          refine W.cv (Cv.weak (E' := (Env.none.upd 4 (.lit (.int .i64 4611686018427387904)))) (M' := Mem.nil) [] hnp ⟨rfl, trivial, by decide, rfl, trivial⟩ (LeE.upd rfl rfl (LeE.none rfl rfl))) rfl ?_
          refine W.now ?_
          refine Then.r ?_
          refine Then.r ?_
          have q0 := Option.some.inj H
          subst q0
          exact ⟨rfl, rfl, rfl⟩
    · replace H := cnf hb H
      refine WP.exitW ?_
      refine W.cv (Cv.weak (E' := (Env.none.upd 5 (.lit (.int .i64 x6132)))) (M' := Mem.nil) [] hnp ⟨rfl, trivial, by decide, rfl, trivial⟩ (LeE.upd rfl rfl (LeE.none rfl rfl))) rfl ?_
      refine W.now ?_
      refine Then.x ?_
      refine Then.x ?_
      have q0 := Option.some.inj H
      subst q0
      exact ⟨rfl, rfl, rfl⟩
  · rcases y6274 with _ | x6203
    · rintro _ _ _ ⟨rfl, rfl, rfl⟩
      refine W.now ?_
      refine InBlock.r ?_
      refine Then.r ?_
      have q0 := (Option.some.inj H)
      subst q0
      exact ⟨trivial, _, rfl, [], (.lit (.int .i64 4611686018427387904)), Mem.nil, ⟨rfl, trivial, by decide, rfl, trivial⟩, rfl, rfl, rfl, rfl⟩
    · rintro _ _ _ ⟨rfl, rfl, rfl⟩
      refine W.now ?_
      refine InBlock.x0 ?_
      refine Then.n ?_
      refine WP.seq ?_
      refine WP.region ?_
      refine WPL.q (q_mv (v := .lit (.int _ _)) rfl) rfl ?_
      refine WPL.q (q_as (v := .lit (.int _ _)) rfl) rfl ?_
      refine WPL.nilW ?_
      refine W.now ?_
      refine Then.n ?_
      refine WP.retW ?_
      refine W.now ?_
      have q0 := (Option.some.inj H)
      subst q0
      exact ⟨trivial, _, rfl, [], (.lit (.int .i64 x6203)), Mem.nil, ⟨rfl, trivial, by decide, rfl, trivial⟩, rfl, rfl, rfl, rfl⟩
set_option maxRecDepth 100000 in
set_option maxHeartbeats 4000000 in
theorem s12 (k : Nat) (x6277 : (List Int)) (x6278 : (List Int)) (x6455 : Int) (H : f12 k x6277 x6278 = some x6455) : Go.Q.Spec Try.prog 12 0 [.ro (Rd.slice (Rd.int .i64)) false x6277, .ro (Rd.slice (Rd.int .i64)) false x6278] Mem.nil (fun o M => o = .ret (.lit (.int .i64 x6455)) ∧ M = Mem.nil) := by
  unfold f12 at H
  refine Go.Q.Spec.of_bodyR (rs := [.tmp 4]) (nt := 61) Try.func12 rfl rfl (by intro t T h; simp at h) rfl rfl fun cx hnp => ?_
  refine WP.seq ?_
  refine WP.region ?_
  refine WPL.q (q_as (v := .lit (.int _ _)) rfl) rfl ?_
  refine WPL.nilW ?_
  refine W.now ?_
  refine Then.n ?_
  refine WP.seq ?_
  refine WP.region ?_
  refine WPL.q (q_as (v := .lit (.int _ _)) rfl) rfl ?_
  refine WPL.nilW ?_
  refine W.now ?_
  refine Then.n ?_
  refine WP.seq ?_
  refine WP.seq ?_
  refine WP.region ?_
  refine WPL.q (q_as (v := .lit (.int _ _)) rfl) rfl ?_
  refine WPL.nilW ?_
  refine W.now ?_
  refine Then.n ?_
  refine WP.block ?_
  refine WP.cv (Cv.weak (E' := ((((Env.none.upd 0 (.ro (Rd.slice (Rd.int .i64)) false x6277)).upd 1 (.ro (Rd.slice (Rd.int .i64)) false x6278)).upd 5 (.lit (.int .i64 0))).upd 6 (.lit (.int .i64 0)))) (M' := Mem.nil) [] hnp ⟨rfl, trivial, by decide, rfl, trivial⟩ (LeE.upd rfl rfl (LeE.upd rfl rfl (LeE.upd rfl rfl (LeE.upd rfl rfl (LeE.none rfl rfl)))))) ?_
  obtain ⟨y6715, H6713, H⟩ := bnd H
  refine WP.monoW (Q := fun x E M => match (generalizing := false) y6715 with | (Sum.inl _) => x = .ret ∧ E = (Env.none.upd 4 (.lit (.int .i64 4611686018427387904))) ∧ M = Mem.nil | (Sum.inr x6628) => x = .exit 0 ∧ E = (Env.none.upd 5 (.lit (.int .i64 x6628))) ∧ M = Mem.nil) ?_ ?_
  · refine WP.loop (β := Int × Int) (fun n b => f12_l0 k x6277 x6278 n b.1 b.2 = some y6715) (fun b => ((((Env.none.upd 0 (.ro (Rd.slice (Rd.int .i64)) false x6277)).upd 1 (.ro (Rd.slice (Rd.int .i64)) false x6278)).upd 5 (.lit (.int .i64 b.1))).upd 6 (.lit (.int .i64 b.2)))) (fun b => Mem.nil) k (0, 0) H6713 rfl rfl ?_
    rintro n ⟨x6541, x6542⟩ H
    obtain _ | n := n
    · exact nf rfl H
    rw [f12_l0.eq_2] at H
    show WP _ _ _ _ ((((Env.none.upd 0 (.ro (Rd.slice (Rd.int .i64)) false x6277)).upd 1 (.ro (Rd.slice (Rd.int .i64)) false x6278)).upd 5 (.lit (.int .i64 x6541))).upd 6 (.lit (.int .i64 x6542))) Mem.nil _
    refine WP.seq ?_
    refine WP.seq ?_
    obtain ⟨x6640, H6643, H⟩ := bnd H
    refine WP.monoW (Q := fun x E M => x = .normal ∧ E = (((((Env.none.upd 0 (.ro (Rd.slice (Rd.int .i64)) false x6277)).upd 1 (.ro (Rd.slice (Rd.int .i64)) false x6278)).upd 5 (.lit (.int .i64 x6541))).upd 6 (.lit (.int .i64 x6542))).upd 18 (.lit (.bool x6640))) ∧ M = Mem.nil) ?_ ?_
    · clear H
      have H := H6643
      clear H6643
      refine WP.region ?_
      refine WPL.q (q_mv (v := .lit (.int _ _)) rfl) rfl ?_
      refine WPL.q (q_mv (v := .ro _ _ _) rfl) rfl ?_
      refine WPL.q (q_len_ro sl22 rfl) rfl ?_
      obtain ⟨x6641, h6641, H⟩ := bnd H
      refine WPL.q (q_nm (q_lss rfl rfl) (nm_bool h6641)) rfl ?_
      refine WPL.q (q_mv (v := .lit (.bool _)) rfl) rfl ?_
      refine WPL.split (t := 13) (b := x6641) rfl (fun hb6641 => ?_) (fun hb6641 => ?_)
      · replace H := cnt hb6641 H
        refine WPL.qg rfl rfl (lb hb6641) (q_mv (v := .lit (.int _ _)) rfl) rfl ?_
        refine WPL.qg rfl rfl (lb hb6641) (q_mv (v := .ro _ _ _) rfl) rfl ?_
        refine WPL.qg rfl rfl (lb hb6641) (q_len_ro sl22 rfl) rfl ?_
        obtain ⟨x6643, h6643, H⟩ := bnd H
        refine WPL.qg rfl rfl (lb hb6641) (q_nm (q_lss rfl rfl) (nm_bool h6643)) rfl ?_
        refine WPL.q (q_pickT (v := .lit (.bool _)) (lb hb6641) rfl) rfl ?_
        refine WPL.nilW ?_
        refine W.cv (Cv.weak (E' := (((((Env.none.upd 0 (.ro (Rd.slice (Rd.int .i64)) false x6277)).upd 1 (.ro (Rd.slice (Rd.int .i64)) false x6278)).upd 5 (.lit (.int .i64 x6541))).upd 6 (.lit (.int .i64 x6542))).upd 18 (.lit (.bool x6643)))) (M' := Mem.nil) [] hnp ⟨rfl, trivial, by decide, rfl, trivial⟩ (LeE.upd rfl rfl (LeE.upd rfl rfl (LeE.upd rfl rfl (LeE.upd rfl rfl (LeE.upd rfl rfl (LeE.none rfl rfl))))))) rfl ?_
        refine W.now ?_
        have q0 := (Option.some.inj H)
        subst q0
        exact ⟨rfl, rfl, rfl⟩
      · replace H := cnf hb6641 H
        refine WPL.skipg (b' := false) rfl rfl (lb hb6641) rfl rfl ?_
        refine WPL.skipg (b' := false) rfl rfl (lb hb6641) rfl rfl ?_
        refine WPL.skipg (b' := false) rfl rfl (lb hb6641) rfl rfl ?_
        refine WPL.skipg (b' := false) rfl rfl (lb hb6641) rfl rfl ?_
        refine WPL.q (q_pickF (v := .lit (.bool _)) (lb hb6641) rfl) rfl ?_
        refine WPL.nilW ?_
        refine W.cv (Cv.weak (E' := (((((Env.none.upd 0 (.ro (Rd.slice (Rd.int .i64)) false x6277)).upd 1 (.ro (Rd.slice (Rd.int .i64)) false x6278)).upd 5 (.lit (.int .i64 x6541))).upd 6 (.lit (.int .i64 x6542))).upd 18 (.lit (.bool false)))) (M' := Mem.nil) [] hnp ⟨rfl, trivial, by decide, rfl, trivial⟩ (LeE.upd rfl rfl (LeE.upd rfl rfl (LeE.upd rfl rfl (LeE.upd rfl rfl (LeE.upd rfl rfl (LeE.none rfl rfl))))))) rfl ?_
        refine W.now ?_
        have q0 := (Option.some.inj H)
        subst q0
        exact ⟨rfl, rfl, rfl⟩
    · rintro _ _ _ ⟨rfl, rfl, rfl⟩
      refine W.now ?_
      refine Then.n ?_
      refine WP.cond (t := x6640) rfl (fun hb => ?_) (fun hb => ?_)
      · replace H := cnt hb H
        refine WP.skipW ?_
        refine W.now ?_
        refine Then.n ?_
        refine WP.seq ?_
        obtain ⟨y6713, H6711, H⟩ := bnd H
        refine WP.monoW (Q := fun x E M => match (generalizing := false) y6713 with | (Sum.inl x6678) => x = .normal ∧ E = ((((Env.none.upd 0 (.ro (Rd.slice (Rd.int .i64)) false x6277)).upd 1 (.ro (Rd.slice (Rd.int .i64)) false x6278)).upd 5 (.lit (.int .i64 x6678))).upd 6 (.lit (.int .i64 x6542))) ∧ M = Mem.nil | (Sum.inr _) => x = .ret ∧ E = (Env.none.upd 4 (.lit (.int .i64 4611686018427387904))) ∧ M = Mem.nil) ?_ ?_
        · clear H
          have H := H6711
          clear H6711
          refine WP.block ?_
          refine WP.seq ?_
          refine WP.regionD' 10 [] [] mixed rfl ?_
          refine WPD.takeT 0 rfl (by kernel_rfl) (q_mv (v := .ro _ _ _) rfl) rfl ?_
          refine WPD.takeT 1 rfl (by kernel_rfl) (q_mv (v := .lit (.int _ _)) rfl) rfl ?_
          obtain ⟨x6681, h6681, H⟩ := bnd H
          refine WPD.takeT 2 rfl (by kernel_rfl) (q_index_ro sl22 rfl rfl rfl h6681) rfl ?_
          refine WPD.takeT 3 rfl (by kernel_rfl) (q_load_sc sc3 rfl) rfl ?_
          refine WPD.takeT 4 rfl (by kernel_rfl) (q_mv (v := .ro _ _ _) rfl) rfl ?_
          refine WPD.takeT 5 rfl (by kernel_rfl) (q_mv (v := .lit (.int _ _)) rfl) rfl ?_
          obtain ⟨x6682, h6682, H⟩ := bnd H
          refine WPD.takeT 6 rfl (by kernel_rfl) (q_index_ro sl22 rfl rfl rfl h6682) rfl ?_
          refine WPD.takeT 7 rfl (by kernel_rfl) (q_load_sc sc3 rfl) rfl ?_
          refine WPD.takeT 8 rfl (by kernel_rfl) (q_as (v := .lit (.int _ _)) rfl) rfl ?_
          refine WPD.takeT 9 rfl (by kernel_rfl) (q_as (v := .lit (.int _ _)) rfl) rfl ?_
          refine WPD.doneW (by kernel_rfl) ?_
          refine W.now ?_
          refine Then.n ?_
          refine WP.seq ?_
          refine WP.seq ?_
          obtain ⟨x6688, H6689, H⟩ := bnd H
          refine WP.monoW (Q := fun x E M => x = .normal ∧ E = (((((((Env.none.upd 0 (.ro (Rd.slice (Rd.int .i64)) false x6277)).upd 1 (.ro (Rd.slice (Rd.int .i64)) false x6278)).upd 5 (.lit (.int .i64 x6541))).upd 6 (.lit (.int .i64 x6542))).upd 7 (.lit (.int .i64 x6681))).upd 8 (.lit (.int .i64 x6682))).upd 34 (.lit (.bool x6688))) ∧ M = Mem.nil) ?_ ?_
          · clear H
            have H := H6689
            clear H6689
            refine WP.region ?_
            refine WPL.q (q_mv (v := .lit (.int _ _)) rfl) rfl ?_
            refine WPL.q (q_eql rfl rfl) rfl ?_
            refine WPL.q (q_mv (v := .lit (.bool _)) rfl) rfl ?_
            refine WPL.split (t := 31) (b := (decide (x6681 = 0))) rfl (fun hb6688 => ?_) (fun hb6688 => ?_)
            · replace H := cnt hb6688 H
              refine WPL.skipg (b' := true) rfl rfl (lb hb6688) rfl rfl ?_
              refine WPL.skipg (b' := true) rfl rfl (lb hb6688) rfl rfl ?_
              refine WPL.q (q_pickT (v := .lit (.bool _)) (lb hb6688) rfl) rfl ?_
              refine WPL.nilW ?_
              refine W.cv (Cv.weak (E' := (((((((Env.none.upd 0 (.ro (Rd.slice (Rd.int .i64)) false x6277)).upd 1 (.ro (Rd.slice (Rd.int .i64)) false x6278)).upd 5 (.lit (.int .i64 x6541))).upd 6 (.lit (.int .i64 x6542))).upd 7 (.lit (.int .i64 x6681))).upd 8 (.lit (.int .i64 x6682))).upd 34 (.lit (.bool true)))) (M' := Mem.nil) [] hnp ⟨rfl, trivial, by decide, rfl, trivial⟩ (LeE.upd rfl rfl (LeE.upd rfl rfl (LeE.upd rfl rfl (LeE.upd rfl rfl (LeE.upd rfl rfl (LeE.upd rfl rfl (LeE.upd rfl rfl (LeE.none rfl rfl))))))))) rfl ?_
              refine W.now ?_
              have q0 := (Option.some.inj H)
              subst q0
              exact ⟨rfl, rfl, rfl⟩
            · replace H := cnf hb6688 H
              refine WPL.qg rfl rfl (lb hb6688) (q_mv (v := .lit (.int _ _)) rfl) rfl ?_
              refine WPL.qg rfl rfl (lb hb6688) (q_eql rfl rfl) rfl ?_
              refine WPL.q (q_pickF (v := .lit (.bool _)) (lb hb6688) rfl) rfl ?_
              refine WPL.nilW ?_
              refine W.cv (Cv.weak (E' := (((((((Env.none.upd 0 (.ro (Rd.slice (Rd.int .i64)) false x6277)).upd 1 (.ro (Rd.slice (Rd.int .i64)) false x6278)).upd 5 (.lit (.int .i64 x6541))).upd 6 (.lit (.int .i64 x6542))).upd 7 (.lit (.int .i64 x6681))).upd 8 (.lit (.int .i64 x6682))).upd 34 (.lit (.bool (decide (x6682 = 0)))))) (M' := Mem.nil) [] hnp ⟨rfl, trivial, by decide, rfl, trivial⟩ (LeE.upd rfl rfl (LeE.upd rfl rfl (LeE.upd rfl rfl (LeE.upd rfl rfl (LeE.upd rfl rfl (LeE.upd rfl rfl (LeE.upd rfl rfl (LeE.none rfl rfl))))))))) rfl ?_
              refine W.now ?_
              have q0 := (Option.some.inj H)
              subst q0
              exact ⟨rfl, rfl, rfl⟩
          · rintro _ _ _ ⟨rfl, rfl, rfl⟩
            refine W.now ?_
            refine Then.n ?_
            refine WP.cond (t := x6688) rfl (fun hb => ?_) (fun hb => ?_)
            · replace H := cnt hb H
              refine WP.exitW ?_
              refine W.cv (Cv.weak (E' := ((((Env.none.upd 0 (.ro (Rd.slice (Rd.int .i64)) false x6277)).upd 1 (.ro (Rd.slice (Rd.int .i64)) false x6278)).upd 5 (.lit (.int .i64 x6541))).upd 6 (.lit (.int .i64 x6542)))) (M' := Mem.nil) [] hnp ⟨rfl, trivial, by decide, rfl, trivial⟩ (LeE.upd rfl rfl (LeE.upd rfl rfl (LeE.upd rfl rfl (LeE.upd rfl rfl (LeE.none rfl rfl)))))) rfl ?_
              refine W.now ?_
              refine Then.x ?_
              refine InBlock.x0 ?_
              have q0 := Option.some.inj H
              subst q0
              exact ⟨rfl, rfl, rfl⟩
            · replace H := cnf hb H
              refine WP.skipW ?_
              refine W.now ?_
              refine Then.n ?_
              refine WP.seq ?_
              refine WP.seq ?_
              obtain ⟨x6702, H6705, H⟩ := bnd H
              refine WP.monoW (Q := fun x E M => x = .normal ∧ E = (((((((Env.none.upd 0 (.ro (Rd.slice (Rd.int .i64)) false x6277)).upd 1 (.ro (Rd.slice (Rd.int .i64)) false x6278)).upd 5 (.lit (.int .i64 x6541))).upd 6 (.lit (.int .i64 x6542))).upd 7 (.lit (.int .i64 x6681))).upd 8 (.lit (.int .i64 x6682))).upd 48 (.lit (.bool x6702))) ∧ M = Mem.nil) ?_ ?_
              · clear H
                have H := H6705
                clear H6705
                refine WP.region ?_
                refine WPL.q (q_mv (v := .lit (.int _ _)) rfl) rfl ?_
                refine WPL.q (q_gtr rfl rfl) rfl ?_
                refine WPL.q (q_mv (v := .lit (.bool _)) rfl) rfl ?_
                refine WPL.split (t := 37) (b := (decide (1099511627776 < x6681))) rfl (fun hb6702 => ?_) (fun hb6702 => ?_)
                · replace H := cnt hb6702 H
                  refine WPL.skipg (b' := true) rfl rfl (lb hb6702) rfl rfl ?_
                  refine WPL.skipg (b' := true) rfl rfl (lb hb6702) rfl rfl ?_
                  refine WPL.q (q_pickT (v := .lit (.bool _)) (lb hb6702) rfl) rfl ?_
                  refine WPL.q (q_mv (v := .lit (.bool _)) rfl) rfl ?_
                  refine WPL.skipg (b' := true) rfl rfl rfl rfl rfl ?_
                  refine WPL.skipg (b' := true) rfl rfl rfl rfl rfl ?_
                  refine WPL.q (q_pickT (v := .lit (.bool _)) rfl rfl) rfl ?_
                  refine WPL.q (q_mv (v := .lit (.bool _)) rfl) rfl ?_
                  refine WPL.skipg (b' := true) rfl rfl rfl rfl rfl ?_
                  refine WPL.skipg (b' := true) rfl rfl rfl rfl rfl ?_
                  refine WPL.q (q_pickT (v := .lit (.bool _)) rfl rfl) rfl ?_
                  refine WPL.nilW ?_
                  refine W.cv (Cv.weak (E' := (((((((Env.none.upd 0 (.ro (Rd.slice (Rd.int .i64)) false x6277)).upd 1 (.ro (Rd.slice (Rd.int .i64)) false x6278)).upd 5 (.lit (.int .i64 x6541))).upd 6 (.lit (.int .i64 x6542))).upd 7 (.lit (.int .i64 x6681))).upd 8 (.lit (.int .i64 x6682))).upd 48 (.lit (.bool true)))) (M' := Mem.nil) [] hnp ⟨rfl, trivial, by decide, rfl, trivial⟩ (LeE.upd rfl rfl (LeE.upd rfl rfl (LeE.upd rfl rfl (LeE.upd rfl rfl (LeE.upd rfl rfl (LeE.upd rfl rfl (LeE.upd rfl rfl (LeE.none rfl rfl))))))))) rfl ?_
                  refine W.now ?_
                  have q0 := (Option.some.inj H)
                  subst q0
                  exact ⟨rfl, rfl, rfl⟩
                · replace H := cnf hb6702 H
                  refine WPL.qg rfl rfl (lb hb6702) (q_mv (v := .lit (.int _ _)) rfl) rfl ?_
                  refine WPL.qg rfl rfl (lb hb6702) (q_lss rfl rfl) rfl ?_
                  refine WPL.q (q_pickF (v := .lit (.bool _)) (lb hb6702) rfl) rfl ?_
                  refine WPL.q (q_mv (v := .lit (.bool _)) rfl) rfl ?_
                  refine WPL.split (t := 41) (b := (decide (x6681 < (-1099511627776)))) rfl (fun hb6703 => ?_) (fun hb6703 => ?_)
                  · replace H := cnt hb6703 H
                    refine WPL.skipg (b' := true) rfl rfl (lb hb6703) rfl rfl ?_
                    refine WPL.skipg (b' := true) rfl rfl (lb hb6703) rfl rfl ?_
                    refine WPL.q (q_pickT (v := .lit (.bool _)) (lb hb6703) rfl) rfl ?_
                    refine WPL.q (q_mv (v := .lit (.bool _)) rfl) rfl ?_
                    refine WPL.skipg (b' := true) rfl rfl rfl rfl rfl ?_
                    refine WPL.skipg (b' := true) rfl rfl rfl rfl rfl ?_
                    refine WPL.q (q_pickT (v := .lit (.bool _)) rfl rfl) rfl ?_
                    refine WPL.nilW ?_
                    refine W.cv (Cv.weak (E' := (((((((Env.none.upd 0 (.ro (Rd.slice (Rd.int .i64)) false x6277)).upd 1 (.ro (Rd.slice (Rd.int .i64)) false x6278)).upd 5 (.lit (.int .i64 x6541))).upd 6 (.lit (.int .i64 x6542))).upd 7 (.lit (.int .i64 x6681))).upd 8 (.lit (.int .i64 x6682))).upd 48 (.lit (.bool true)))) (M' := Mem.nil) [] hnp ⟨rfl, trivial, by decide, rfl, trivial⟩ (LeE.upd rfl rfl (LeE.upd rfl rfl (LeE.upd rfl rfl (LeE.upd rfl rfl (LeE.upd rfl rfl (LeE.upd rfl rfl (LeE.upd rfl rfl (LeE.none rfl rfl))))))))) rfl ?_
                    refine W.now ?_
                    have q0 := (Option.some.inj H)
                    subst q0
                    exact ⟨rfl, rfl, rfl⟩
                  · replace H := cnf hb6703 H
                    refine WPL.qg rfl rfl (lb hb6703) (q_mv (v := .lit (.int _ _)) rfl) rfl ?_
                    refine WPL.qg rfl rfl (lb hb6703) (q_gtr rfl rfl) rfl ?_
                    refine WPL.q (q_pickF (v := .lit (.bool _)) (lb hb6703) rfl) rfl ?_
                    refine WPL.q (q_mv (v := .lit (.bool _)) rfl) rfl ?_
                    refine WPL.split (t := 45) (b := (decide (1048576 < x6682))) rfl (fun hb6704 => ?_) (fun hb6704 => ?_)
                    · replace H := cnt hb6704 H
                      refine WPL.skipg (b' := true) rfl rfl (lb hb6704) rfl rfl ?_
                      refine WPL.skipg (b' := true) rfl rfl (lb hb6704) rfl rfl ?_
                      refine WPL.q (q_pickT (v := .lit (.bool _)) (lb hb6704) rfl) rfl ?_
                      refine WPL.nilW ?_
                      refine W.cv (Cv.weak (E' := (((((((Env.none.upd 0 (.ro (Rd.slice (Rd.int .i64)) false x6277)).upd 1 (.ro (Rd.slice (Rd.int .i64)) false x6278)).upd 5 (.lit (.int .i64 x6541))).upd 6 (.lit (.int .i64 x6542))).upd 7 (.lit (.int .i64 x6681))).upd 8 (.lit (.int .i64 x6682))).upd 48 (.lit (.bool true)))) (M' := Mem.nil) [] hnp ⟨rfl, trivial, by decide, rfl, trivial⟩ (LeE.upd rfl rfl (LeE.upd rfl rfl (LeE.upd rfl rfl (LeE.upd rfl rfl (LeE.upd rfl rfl (LeE.upd rfl rfl (LeE.upd rfl rfl (LeE.none rfl rfl))))))))) rfl ?_
                      refine W.now ?_
                      have q0 := (Option.some.inj H)
                      subst q0
                      exact ⟨rfl, rfl, rfl⟩
                    · replace H := cnf hb6704 H
                      refine WPL.qg rfl rfl (lb hb6704) (q_mv (v := .lit (.int _ _)) rfl) rfl ?_
                      refine WPL.qg rfl rfl (lb hb6704) (q_lss rfl rfl) rfl ?_
                      refine WPL.q (q_pickF (v := .lit (.bool _)) (lb hb6704) rfl) rfl ?_
                      refine WPL.nilW ?_
                      refine W.cv (Cv.weak (E' := (((((((Env.none.upd 0 (.ro (Rd.slice (Rd.int .i64)) false x6277)).upd 1 (.ro (Rd.slice (Rd.int .i64)) false x6278)).upd 5 (.lit (.int .i64 x6541))).upd 6 (.lit (.int .i64 x6542))).upd 7 (.lit (.int .i64 x6681))).upd 8 (.lit (.int .i64 x6682))).upd 48 (.lit (.bool (decide (x6682 < (-1048576))))))) (M' := Mem.nil) [] hnp ⟨rfl, trivial, by decide, rfl, trivial⟩ (LeE.upd rfl rfl (LeE.upd rfl rfl (LeE.upd rfl rfl (LeE.upd rfl rfl (LeE.upd rfl rfl (LeE.upd rfl rfl (LeE.upd rfl rfl (LeE.none rfl rfl))))))))) rfl ?_
                      refine W.now ?_
                      have q0 := (Option.some.inj H)
                      subst q0
                      exact ⟨rfl, rfl, rfl⟩
              · rintro _ _ _ ⟨rfl, rfl, rfl⟩
                refine W.now ?_
                refine Then.n ?_
                refine WP.cond (t := x6702) rfl (fun hb => ?_) (fun hb => ?_)
                · replace H := cnt hb H
                  refine WP.seq ?_
                  refine WP.region ?_
                  refine WPL.q (q_as (v := .lit (.int _ _)) rfl) rfl ?_
                  refine WPL.nilW ?_
                  refine W.now ?_
                  refine Then.n ?_
                  refine WP.retW ?_
                  refine W.cv (Cv.weak (E' := (Env.none.upd 4 (.lit (.int .i64 4611686018427387904)))) (M' := Mem.nil) [] hnp ⟨rfl, trivial, by decide, rfl, trivial⟩ (LeE.upd rfl rfl (LeE.none rfl rfl))) rfl ?_
                  refine W.now ?_
                  refine Then.r ?_
                  refine InBlock.r ?_
                  have q0 := Option.some.inj H
                  subst q0
                  exact ⟨rfl, rfl, rfl⟩
                · replace H := cnf hb H
                  refine WP.skipW ?_
                  refine W.now ?_
                  refine Then.n ?_
                  refine WP.seq ?_
                  refine WP.region ?_
                  refine WPL.q (q_mv (v := .lit (.int _ _)) rfl) rfl ?_
                  refine WPL.q (q_mv (v := .lit (.int _ _)) rfl) rfl ?_
                  refine WPL.q (q_mv (v := .lit (.int _ _)) rfl) rfl ?_
                  refine WPL.q (q_mul rfl rfl) rfl ?_
                  obtain ⟨x6707, h6707, H⟩ := bnd H
                  refine WPL.q (q_nm (q_add rfl rfl) (nm_int h6707)) rfl ?_
                  refine WPL.q (q_as (v := .lit (.int _ _)) rfl) rfl ?_
                  refine WPL.nilW ?_
                  refine W.now ?_
                  refine Then.n ?_
                  refine WP.seq ?_
                  obtain ⟨x6709, H6710, H⟩ := bnd H
                  refine WP.monoW (Q := fun x E M => x = .normal ∧ E = (((((Env.none.upd 0 (.ro (Rd.slice (Rd.int .i64)) false x6277)).upd 1 (.ro (Rd.slice (Rd.int .i64)) false x6278)).upd 5 (.lit (.int .i64 x6707))).upd 6 (.lit (.int .i64 x6542))).upd 59 (.lit (.bool x6709))) ∧ M = Mem.nil) ?_ ?_
                  · clear H
                    have H := H6710
                    clear H6710
                    refine WP.region ?_
                    refine WPL.q (q_mv (v := .lit (.int _ _)) rfl) rfl ?_
                    refine WPL.q (q_gtr rfl rfl) rfl ?_
                    refine WPL.q (q_mv (v := .lit (.bool _)) rfl) rfl ?_
                    refine WPL.split (t := 56) (b := (decide (2305843009213693952 < x6707))) rfl (fun hb6709 => ?_) (fun hb6709 => ?_)
                    · replace H := cnt hb6709 H
                      refine WPL.skipg (b' := true) rfl rfl (lb hb6709) rfl rfl ?_
                      refine WPL.skipg (b' := true) rfl rfl (lb hb6709) rfl rfl ?_
                      refine WPL.q (q_pickT (v := .lit (.bool _)) (lb hb6709) rfl) rfl ?_
                      refine WPL.nilW ?_
                      refine W.cv (Cv.weak (E' := (((((Env.none.upd 0 (.ro (Rd.slice (Rd.int .i64)) false x6277)).upd 1 (.ro (Rd.slice (Rd.int .i64)) false x6278)).upd 5 (.lit (.int .i64 x6707))).upd 6 (.lit (.int .i64 x6542))).upd 59 (.lit (.bool true)))) (M' := Mem.nil) [] hnp ⟨rfl, trivial, by decide, rfl, trivial⟩ (LeE.upd rfl rfl (LeE.upd rfl rfl (LeE.upd rfl rfl (LeE.upd rfl rfl (LeE.upd rfl rfl (LeE.none rfl rfl))))))) rfl ?_
                      refine W.now ?_
                      have q0 := (Option.some.inj H)
                      subst q0
                      exact ⟨rfl, rfl, rfl⟩
                    · replace H := cnf hb6709 H
                      refine WPL.qg rfl rfl (lb hb6709) (q_mv (v := .lit (.int _ _)) rfl) rfl ?_
                      refine WPL.qg rfl rfl (lb hb6709) (q_lss rfl rfl) rfl ?_
                      refine WPL.q (q_pickF (v := .lit (.bool _)) (lb hb6709) rfl) rfl ?_
                      refine WPL.nilW ?_
                      refine W.cv (Cv.weak (E' := (((((Env.none.upd 0 (.ro (Rd.slice (Rd.int .i64)) false x6277)).upd 1 (.ro (Rd.slice (Rd.int .i64)) false x6278)).upd 5 (.lit (.int .i64 x6707))).upd 6 (.lit (.int .i64 x6542))).upd 59 (.lit (.bool (decide (x6707 < (-2305843009213693952))))))) (M' := Mem.nil) [] hnp ⟨rfl, trivial, by decide, rfl, trivial⟩ (LeE.upd rfl rfl (LeE.upd rfl rfl (LeE.upd rfl rfl (LeE.upd rfl rfl (LeE.upd rfl rfl (LeE.none rfl rfl))))))) rfl ?_
                      refine W.now ?_
                      have q0 := (Option.some.inj H)
                      subst q0
                      exact ⟨rfl, rfl, rfl⟩
                  · rintro _ _ _ ⟨rfl, rfl, rfl⟩
                    refine W.now ?_
                    refine Then.n ?_
                    refine WP.cond (t := x6709) rfl (fun hb => ?_) (fun hb => ?_)
                    · replace H := cnt hb H
                      refine WP.seq ?_
                      refine WP.region ?_
                      refine WPL.q (q_as (v := .lit (.int _ _)) rfl) rfl ?_
                      refine WPL.nilW ?_
                      refine W.now ?_
                      refine Then.n ?_
                      refine WP.retW ?_
                      refine W.cv (Cv.weak (E' := (Env.none.upd 4 (.lit (.int .i64 4611686018427387904)))) (M' := Mem.nil) [] hnp ⟨rfl, trivial, by decide, rfl, trivial⟩ (LeE.upd rfl rfl (LeE.none rfl rfl))) rfl ?_
                      refine W.now ?_
                      refine InBlock.r ?_
                      have q0 := Option.some.inj H
                      subst q0
                      exact ⟨rfl, rfl, rfl⟩
                    · replace H := cnf hb H
                      refine WP.skipW ?_
                      refine W.cv (Cv.weak (E' := ((((Env.none.upd 0 (.ro (Rd.slice (Rd.int .i64)) false x6277)).upd 1 (.ro (Rd.slice (Rd.int .i64)) false x6278)).upd 5 (.lit (.int .i64 x6707))).upd 6 (.lit (.int .i64 x6542)))) (M' := Mem.nil) [] hnp ⟨rfl, trivial, by decide, rfl, trivial⟩ (LeE.upd rfl rfl (LeE.upd rfl rfl (LeE.upd rfl rfl (LeE.upd rfl rfl (LeE.none rfl rfl)))))) rfl ?_
                      refine W.now ?_
                      refine InBlock.n ?_
                      have q0 := Option.some.inj H
                      subst q0
                      exact ⟨rfl, rfl, rfl⟩
        · rcases y6713 with x6678 | _
          · rintro _ _ _ ⟨rfl, rfl, rfl⟩
            refine W.now ?_
            refine Then.n ?_
            refine WP.region ?_
            refine WPL.q (q_mv (v := .lit (.int _ _)) rfl) rfl ?_
            refine WPL.q (q_add rfl rfl) rfl ?_
            refine WPL.q (q_as (v := .lit (.int _ _)) rfl) rfl ?_
            refine WPL.nilW ?_
            refine W.cv (Cv.weak (E' := ((((Env.none.upd 0 (.ro (Rd.slice (Rd.int .i64)) false x6277)).upd 1 (.ro (Rd.slice (Rd.int .i64)) false x6278)).upd 5 (.lit (.int .i64 x6678))).upd 6 (.lit (.int .i64 (IntKind.wrap .i64 (x6542 + 1)))))) (M' := Mem.nil) [] hnp ⟨rfl, trivial, by decide, rfl, trivial⟩ (LeE.upd rfl rfl (LeE.upd rfl rfl (LeE.upd rfl rfl (LeE.upd rfl rfl (LeE.none rfl rfl)))))) rfl ?_
            refine W.now ?_
            exact Then.n ⟨n, (x6678, (IntKind.wrap .i64 (x6542 + 1))), Nat.lt_succ_self n, H, rfl, rfl⟩
          · rintro _ _ _ ⟨rfl, rfl, rfl⟩
            refine W.cv (Cv.weak (E' := (Env.none.upd 4 (.lit (.int .i64 4611686018427387904)))) (M' := Mem.nil) [] hnp ⟨rfl, trivial, by decide, rfl, trivial⟩ (LeE.upd rfl rfl (LeE.none rfl rfl))) rfl ?_
            refine W.now ?_
            refine Then.r ?_
            refine Then.r ?_
            have q0 := Option.some.inj H
            subst q0
            exact ⟨rfl, rfl, rfl⟩
      · replace H := cnf hb H
        refine WP.exitW ?_
        refine W.cv (Cv.weak (E' := (Env.none.upd 5 (.lit (.int .i64 x6541)))) (M' := Mem.nil) [] hnp ⟨rfl, trivial, by decide, rfl, trivial⟩ (LeE.upd rfl rfl (LeE.none rfl rfl))) rfl ?_
        refine W.now ?_
        refine Then.x ?_
        refine Then.x ?_
        have q0 := Option.some.inj H
        subst q0
        exact ⟨rfl, rfl, rfl⟩
  · rcases y6715 with _ | x6628
    · rintro _ _ _ ⟨rfl, rfl, rfl⟩
      refine W.now ?_
      refine InBlock.r ?_
      refine Then.r ?_
      have q0 := (Option.some.inj H)
      subst q0
      exact ⟨trivial, _, rfl, [], (.lit (.int .i64 4611686018427387904)), Mem.nil, ⟨rfl, trivial, by decide, rfl, trivial⟩, rfl, rfl, rfl, rfl⟩
    · rintro _ _ _ ⟨rfl, rfl, rfl⟩
      refine W.now ?_
      refine InBlock.x0 ?_
      refine Then.n ?_
      refine WP.seq ?_
      refine WP.region ?_
      refine WPL.q (q_mv (v := .lit (.int _ _)) rfl) rfl ?_
      refine WPL.q (q_as (v := .lit (.int _ _)) rfl) rfl ?_
      refine WPL.nilW ?_
      refine W.now ?_
      refine Then.n ?_
      refine WP.retW ?_
      refine W.now ?_
      have q0 := (Option.some.inj H)
      subst q0
      exact ⟨trivial, _, rfl, [], (.lit (.int .i64 x6628)), Mem.nil, ⟨rfl, trivial, by decide, rfl, trivial⟩, rfl, rfl, rfl, rfl⟩
set_option maxRecDepth 100000 in
set_option maxHeartbeats 4000000 in
theorem s6 (k : Nat) (x5911 : (List Int)) (x5912 : (List Int)) (x6730 : Bool) (H : f6 k x5911 x5912 = some x6730) : Go.Q.Spec Try.prog 6 0 [.ro (Rd.slice (Rd.int .i64)) false x5911, .ro (Rd.slice (Rd.int .i64)) false x5912] Mem.nil (fun o M => o = .ret (.lit (.bool x6730)) ∧ M = Mem.nil) := by
  unfold f6 at H
  refine Go.Q.Spec.of_bodyR (rs := [.tmp 4]) (nt := 15) Try.func6 rfl rfl (by intro t T h; simp at h) rfl rfl fun cx hnp => ?_
  refine WP.seq ?_
  refine WP.region ?_
  refine WPL.q (q_as (v := .lit (.bool _)) rfl) rfl ?_
  refine WPL.nilW ?_
  refine W.now ?_
  refine Then.n ?_
  refine WP.seq ?_
  obtain ⟨x6738, H6745, H⟩ := bnd H
  refine WP.monoW (Q := fun x E M => x = .normal ∧ E = (Env.none.upd 4 (.lit (.bool x6738))) ∧ M = Mem.nil) ?_ ?_
  · clear H
    have H := H6745
    clear H6745
    refine WP.region ?_
    refine WPL.q (q_mv (v := .ro _ _ _) rfl) rfl ?_
    refine WPL.q (q_mv (v := .ro _ _ _) rfl) rfl ?_
    obtain ⟨x6740, h6738, H⟩ := bnd H
    refine WPL.c (runs_call (s := []) (t := []) (N := 0) (bor := []) fn18 rfl (s18 k x5911 x5912 x6740 h6738) ⟨rfl, trivial, by decide, rfl, trivial⟩ rfl trivial (.ren rfl rfl (.ren rfl rfl .nil)) rfl trivial rfl) rfl ?_
    refine WPL.q (q_mv (v := .ro _ _ _) rfl) rfl ?_
    refine WPL.q (q_mv (v := .ro _ _ _) rfl) rfl ?_
    obtain ⟨x6742, h6740, H⟩ := bnd H
    refine WPL.c (runs_call (s := []) (t := []) (N := 0) (bor := []) fn12 rfl (s12 k x5911 x5912 x6742 h6740) ⟨rfl, trivial, by decide, rfl, trivial⟩ rfl trivial (.ren rfl rfl (.ren rfl rfl .nil)) rfl trivial rfl) rfl ?_
    refine WPL.q (q_eql rfl rfl) rfl ?_
    refine WPL.q (q_mv (v := .lit (.bool _)) rfl) rfl ?_
    refine WPL.split (t := 12) (b := (decide (x6740 = x6742))) rfl (fun hb6742 => ?_) (fun hb6742 => ?_)
    · replace H := cnt hb6742 H
      obtain ⟨x6745, h6743, H⟩ := bnd H
      refine WPL.cg rfl rfl (lb hb6742) (runs_call (s := []) (t := []) (N := 0) (bor := []) fn10 rfl (s10 k x6745 h6743) ⟨rfl, trivial, by decide, rfl, trivial⟩ rfl trivial .nil rfl trivial rfl) rfl ?_
      refine WPL.q (q_pickT (v := .lit (.bool _)) (lb hb6742) rfl) rfl ?_
      refine WPL.q (q_as (v := .lit (.bool _)) rfl) rfl ?_
      refine WPL.nilW ?_
      refine W.cv (Cv.weak (E' := (Env.none.upd 4 (.lit (.bool x6745)))) (M' := Mem.nil) [] hnp ⟨rfl, trivial, by decide, rfl, trivial⟩ (LeE.upd rfl rfl (LeE.none rfl rfl))) rfl ?_
      refine W.now ?_
      have q0 := (Option.some.inj H)
      subst q0
      exact ⟨rfl, rfl, rfl⟩
    · replace H := cnf hb6742 H
      refine WPL.skipg (b' := false) rfl rfl (lb hb6742) rfl rfl ?_
      refine WPL.q (q_pickF (v := .lit (.bool _)) (lb hb6742) rfl) rfl ?_
      refine WPL.q (q_as (v := .lit (.bool _)) rfl) rfl ?_
      refine WPL.nilW ?_
      refine W.cv (Cv.weak (E' := (Env.none.upd 4 (.lit (.bool false)))) (M' := Mem.nil) [] hnp ⟨rfl, trivial, by decide, rfl, trivial⟩ (LeE.upd rfl rfl (LeE.none rfl rfl))) rfl ?_
      refine W.now ?_
      have q0 := (Option.some.inj H)
      subst q0
      exact ⟨rfl, rfl, rfl⟩
  · rintro _ _ _ ⟨rfl, rfl, rfl⟩
    refine W.now ?_
    refine Then.n ?_
    refine WP.retW ?_
    refine W.now ?_
    have q0 := (Option.some.inj H)
    subst q0
    exact ⟨trivial, _, rfl, [], (.lit (.bool x6738)), Mem.nil, ⟨rfl, trivial, by decide, rfl, trivial⟩, rfl, rfl, rfl, rfl⟩
end Go.Proofs.Ythgbompoldmhmaa.W
