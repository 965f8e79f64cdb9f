/- Texts joined: part 6 of what LDecSums stands on. -/
import Derived.Test.YtdbeblgfccjbgaaSDecSumse
namespace Go.Proofs.Ytdbeblgfccjbgaa.W
open Go Go.Q Go.Proofs
set_option linter.unusedVariables false
set_option linter.unusedSimpArgs false
set_option maxRecDepth 100000 in
set_option maxHeartbeats 4000000 in
theorem s_dec_Mod (k : Nat) (x4282 : Int) (x4283 : Int) (x4284 : Int) (x4285 : Int) (x5167 : Int) (x5168 : Int) (x5169 : Int) (H : g_dec_Mod k x4282 x4283 x4284 x4285 = some (x5167, x5168, x5169)) : Go.Q.Spec Try.prog 9 0 [.agg [.lit (.int .i64 x4282), .lit (.int .i64 x4283)], .agg [.lit (.int .i64 x4284), .lit (.int .i64 x4285)]] Mem.nil (fun o M => o = .ret (.tup [.agg [.lit (.int .i64 x5168), .lit (.int .i64 x5169)], .lit (.int .i64 x5167)]) ∧ M = (Mem.nil.push (.cells 23 [.lit (.int .i64 x5168), .lit (.int .i64 x5169)]))) := by
  unfold g_dec_Mod at H
  refine Go.Q.Spec.of_bodyR (az := [(23, 2)]) (rs := [.cell 4 23, .tmp 5]) (nt := 50) Try.func9 rfl rfl (by intro t T h; simp at h; rcases h with ⟨rfl, rfl⟩ <;> first | exact ag23) rfl rfl fun cx hnp => ?_
  refine WP.seq ?_
  refine WP.region ?_
  refine WPL.d (d_box rfl rfl) rfl ?_
  refine WPL.d (d_box rfl rfl) rfl ?_
  refine WPL.d (d_alloc ze23 rfl) rfl ?_
  refine WPL.q (q_as (v := .lit (.int _ _)) rfl) rfl ?_
  refine WPL.nilW ?_
  refine W.now ?_
  refine Then.n ?_
  refine WP.seq ?_
  refine WP.seq ?_
  refine WP.region ?_
  refine WPL.d (d_buildCells li81 rfl rfl rfl rfl rfl) rfl ?_
  obtain ⟨⟨x5178, x5179, x5180, x5181, x5182⟩, h5176, H⟩ := bnd H
  refine WPL.c (runs_call (s := [3, 0, 1]) (t := [3, 0, 1]) (N := 4) (bor := []) fn27 rfl (s_dec_clean k x4282 x4283 x4284 x4285 x5178 x5179 x5180 x5181 x5182 h5176) ⟨rfl, ⟨⟨⟨trivial, .inr ⟨rfl, rfl, rfl⟩⟩, .inr ⟨rfl, rfl, rfl⟩⟩, .inr ⟨rfl, rfl, rfl⟩⟩, by decide, rfl, trivial⟩ rfl trivial (.ren rfl rfl .nil) rfl ⟨⟨⟨trivial, rfl⟩, rfl⟩, rfl⟩ rfl) rfl ?_
  refine WPL.q (q_not rfl) rfl ?_
  refine WPL.nilW ?_
  refine W.now ?_
  refine Then.n ?_
  refine WP.cond (t := (!x5178)) rfl (fun hb5182 => ?_) (fun hb5182 => ?_)
  · replace H := cnt hb5182 H
    refine WP.seq ?_
    refine WP.region ?_
    refine WPL.q (q_build bu23 rfl) rfl ?_
    refine WPL.s (s_store sz23 rfl rfl rfl rfl rfl) ?_
    refine WPL.q (q_as (v := .lit (.int _ _)) rfl) rfl ?_
    refine WPL.nilW ?_
    refine W.now ?_
    refine Then.n ?_
    refine WP.retW ?_
    refine W.now ?_
    refine Then.r ?_
    have q0 := (Prod.mk.inj (Option.some.inj H)).1
    have q1 := (Prod.mk.inj (Prod.mk.inj (Option.some.inj H)).2).1
    have q2 := (Prod.mk.inj (Prod.mk.inj (Option.some.inj H)).2).2
    subst q0
    subst q1
    subst q2
    exact ⟨trivial, _, rfl, [2], (.tup [.agg [.lit (.int .i64 0), .lit (.int .i64 0)], .lit (.int .i64 1)]), (Mem.nil.push (.cells 23 [.lit (.int .i64 0), .lit (.int .i64 0)])), ⟨rfl, ⟨trivial, .inr ⟨rfl, rfl, rfl⟩⟩, by decide, rfl, trivial⟩, rfl, rfl, rfl, rfl⟩
  · replace H := cnf hb5182 H
    refine WP.skipW ?_
    refine W.now ?_
    refine Then.n ?_
    refine WP.seq ?_
    refine WP.seq ?_
    refine WP.region ?_
    refine WPL.q (q_fieldAddr fi23_0 rfl rfl) rfl ?_
    refine WPL.q (q_load sc2 rfl rfl rfl) rfl ?_
    refine WPL.q (q_eql rfl rfl) rfl ?_
    refine WPL.nilW ?_
    refine W.now ?_
    refine Then.n ?_
    refine WP.cond (t := (decide (x5181 = 0))) rfl (fun hb5184 => ?_) (fun hb5184 => ?_)
    · replace H := cnt hb5184 H
      refine WP.seq ?_
      refine WP.region ?_
      refine WPL.q (q_build bu23 rfl) rfl ?_
      refine WPL.s (s_store sz23 rfl rfl rfl rfl rfl) ?_
      refine WPL.q (q_as (v := .lit (.int _ _)) rfl) rfl ?_
      refine WPL.nilW ?_
      refine W.now ?_
      refine Then.n ?_
      refine WP.retW ?_
      refine W.now ?_
      refine Then.r ?_
      have q0 := (Prod.mk.inj (Option.some.inj H)).1
      have q1 := (Prod.mk.inj (Prod.mk.inj (Option.some.inj H)).2).1
      have q2 := (Prod.mk.inj (Prod.mk.inj (Option.some.inj H)).2).2
      subst q0
      subst q1
      subst q2
      exact ⟨trivial, _, rfl, [2], (.tup [.agg [.lit (.int .i64 0), .lit (.int .i64 0)], .lit (.int .i64 31)]), (Mem.nil.push (.cells 23 [.lit (.int .i64 0), .lit (.int .i64 0)])), ⟨rfl, ⟨trivial, .inr ⟨rfl, rfl, rfl⟩⟩, by decide, rfl, trivial⟩, rfl, rfl, rfl, rfl⟩
    · replace H := cnf hb5184 H
      refine WP.skipW ?_
      refine W.now ?_
      refine Then.n ?_
      refine WP.seq ?_
      obtain ⟨⟨x5238, x5239, x5240⟩, H5292, H⟩ := bnd H
      refine WP.monoW (Q := fun x E M => x = .normal ∧ E = ((((Env.none.upd 2 (.ptr 0 0)).upd 3 (.ptr 1 0)).upd 4 (.ptr 2 0)).upd 6 (.ptr 3 0)) ∧ M = ((((Mem.nil.push (.cells 23 [.lit (.int .i64 x5179), .lit (.int .i64 x5180)])).push (.cells 23 [.lit (.int .i64 x5181), .lit (.int .i64 x5182)])).push (.cells 23 [.lit (.int .i64 0), .lit (.int .i64 0)])).push (.cells 47 [.lit (.bool (decide (x5179 < 0))), .lit (.int .u64 x5238), .lit (.int .u64 x5239), .lit (.int .i64 x5240)]))) ?_ ?_
      · clear H
        have H := H5292
        clear H5292
        refine WP.regionD' 7 [0, 1] [] mixed rfl ?_
        refine WPD.take 0 rfl (by kernel_rfl) (q_load_ag ag23 rfl rfl (Nat.le_of_ble_eq_true rfl)) rfl rfl ?_
        refine WPD.take 2 rfl (by kernel_rfl) (q_load_ag ag23 rfl rfl (Nat.le_of_ble_eq_true rfl)) rfl rfl ?_
        refine WPD.of2 1 5 (by kernel_rfl) ?_ ?_
        · obtain ⟨x5268, h5266, H⟩ := bnd H
          refine WPD1.eff 1 [0, 1] [] rfl (runs_call (s := []) (t := [4]) (N := 5) (bor := []) fn38 rfl (s_dec_of k x5179 x5180 x5268 h5266) ⟨rfl, trivial, by decide, rfl, trivial⟩ rfl trivial (.ren rfl rfl .nil) rfl ⟨trivial, rfl⟩ rfl) rfl rfl ?_
          refine WPD.of2 3 5 (by kernel_rfl) ?_ ?_
          · obtain ⟨x5270, h5268, H⟩ := bnd H
            refine WPD1.eff 3 [0, 1] [] rfl (runs_call (s := []) (t := [5]) (N := 6) (bor := []) fn38 rfl (s_dec_of k x5181 x5182 x5270 h5268) ⟨rfl, trivial, by decide, rfl, trivial⟩ rfl trivial (.ren rfl rfl .nil) rfl ⟨trivial, rfl⟩ rfl) rfl rfl ?_
            refine WPD.of2 4 5 (by kernel_rfl) ?_ ?_
            · obtain ⟨⟨x5272, x5273, x5274⟩, h5270, H⟩ := bnd H
              refine WPD1.eff 4 [0, 1] [] rfl (runs_call (s := []) (t := [6]) (N := 7) (bor := []) fn37 rfl (s_dec_left k (decide (x5179 < 0)) 0 x5268 x5180 (decide (x5181 < 0)) 0 x5270 x5182 x5272 x5273 x5274 h5270) ⟨rfl, trivial, by decide, rfl, trivial⟩ rfl trivial (.ren rfl rfl (.ren rfl rfl .nil)) rfl ⟨trivial, rfl⟩ rfl) rfl rfl ?_
              refine WPD.eff 5 [0, 1] [] rfl (by kernel_rfl) (Does.runs (d_alloc ze47 rfl)) rfl rfl ?_
              refine WPD.effS 6 [0, 1] [] rfl (by kernel_rfl) (s_store sz47 rfl rfl rfl rfl rfl) rfl ?_
              refine WPD.doneW (by kernel_rfl) ?_
              refine W.cv (Cv.weak (E' := ((((Env.none.upd 2 (.ptr 0 0)).upd 3 (.ptr 1 0)).upd 4 (.ptr 2 0)).upd 6 (.ptr 3 0))) (M' := ((((Mem.nil.push (.cells 23 [.lit (.int .i64 x5179), .lit (.int .i64 x5180)])).push (.cells 23 [.lit (.int .i64 x5181), .lit (.int .i64 x5182)])).push (.cells 23 [.lit (.int .i64 0), .lit (.int .i64 0)])).push (.cells 47 [.lit (.bool (decide (x5179 < 0))), .lit (.int .u64 x5272), .lit (.int .u64 x5273), .lit (.int .i64 x5274)]))) [0, 1, 2, 7] hnp ⟨rfl, ⟨⟨⟨⟨trivial, .inr ⟨rfl, rfl, rfl⟩⟩, .inr ⟨rfl, rfl, rfl⟩⟩, .inr ⟨rfl, rfl, rfl⟩⟩, .inr ⟨rfl, rfl, rfl⟩⟩, by decide, rfl, trivial⟩ (LeE.upd rfl rfl (LeE.upd rfl rfl (LeE.upd rfl rfl (LeE.upd rfl rfl (LeE.none rfl rfl)))))) rfl ?_
              refine W.now ?_
              have q0 := (Prod.mk.inj (Option.some.inj H)).1
              have q1 := (Prod.mk.inj (Prod.mk.inj (Option.some.inj H)).2).1
              have q2 := (Prod.mk.inj (Prod.mk.inj (Option.some.inj H)).2).2
              subst q0
              subst q1
              subst q2
              exact ⟨rfl, rfl, rfl⟩
            · refine WPD1.eff 5 [0, 1] [] rfl (Does.runs (d_alloc ze47 rfl)) rfl rfl ?_
              obtain ⟨⟨x5276, x5277, x5278⟩, h5274, H⟩ := bnd H
              refine WPD.eff 4 [0, 1] [] rfl (by kernel_rfl) (runs_call (s := []) (t := [7]) (N := 8) (bor := []) fn37 rfl (s_dec_left k (decide (x5179 < 0)) 0 x5268 x5180 (decide (x5181 < 0)) 0 x5270 x5182 x5276 x5277 x5278 h5274) ⟨rfl, trivial, by decide, rfl, trivial⟩ rfl trivial (.ren rfl rfl (.ren rfl rfl .nil)) rfl ⟨trivial, rfl⟩ rfl) rfl rfl ?_
              refine WPD.effS 6 [0, 1] [] rfl (by kernel_rfl) (s_store sz47 rfl rfl rfl rfl rfl) rfl ?_
              refine WPD.doneW (by kernel_rfl) ?_
              refine W.cv (Cv.weak (E' := ((((Env.none.upd 2 (.ptr 0 0)).upd 3 (.ptr 1 0)).upd 4 (.ptr 2 0)).upd 6 (.ptr 3 0))) (M' := ((((Mem.nil.push (.cells 23 [.lit (.int .i64 x5179), .lit (.int .i64 x5180)])).push (.cells 23 [.lit (.int .i64 x5181), .lit (.int .i64 x5182)])).push (.cells 23 [.lit (.int .i64 0), .lit (.int .i64 0)])).push (.cells 47 [.lit (.bool (decide (x5179 < 0))), .lit (.int .u64 x5276), .lit (.int .u64 x5277), .lit (.int .i64 x5278)]))) [0, 1, 2, 6] hnp ⟨rfl, ⟨⟨⟨⟨trivial, .inr ⟨rfl, rfl, rfl⟩⟩, .inr ⟨rfl, rfl, rfl⟩⟩, .inr ⟨rfl, rfl, rfl⟩⟩, .inr ⟨rfl, rfl, rfl⟩⟩, by decide, rfl, trivial⟩ (LeE.upd rfl rfl (LeE.upd rfl rfl (LeE.upd rfl rfl (LeE.upd rfl rfl (LeE.none rfl rfl)))))) rfl ?_
              refine W.now ?_
              have q0 := (Prod.mk.inj (Option.some.inj H)).1
              have q1 := (Prod.mk.inj (Prod.mk.inj (Option.some.inj H)).2).1
              have q2 := (Prod.mk.inj (Prod.mk.inj (Option.some.inj H)).2).2
              subst q0
              subst q1
              subst q2
              exact ⟨rfl, rfl, rfl⟩
          · refine WPD1.eff 5 [0, 1] [] rfl (Does.runs (d_alloc ze47 rfl)) rfl rfl ?_
            obtain ⟨x5280, h5278, H⟩ := bnd H
            refine WPD.eff 3 [0, 1] [] rfl (by kernel_rfl) (runs_call (s := []) (t := [6]) (N := 7) (bor := []) fn38 rfl (s_dec_of k x5181 x5182 x5280 h5278) ⟨rfl, trivial, by decide, rfl, trivial⟩ rfl trivial (.ren rfl rfl .nil) rfl ⟨trivial, rfl⟩ rfl) rfl rfl ?_
            obtain ⟨⟨x5282, x5283, x5284⟩, h5280, H⟩ := bnd H
            refine WPD.eff 4 [0, 1] [] rfl (by kernel_rfl) (runs_call (s := []) (t := [7]) (N := 8) (bor := []) fn37 rfl (s_dec_left k (decide (x5179 < 0)) 0 x5268 x5180 (decide (x5181 < 0)) 0 x5280 x5182 x5282 x5283 x5284 h5280) ⟨rfl, trivial, by decide, rfl, trivial⟩ rfl trivial (.ren rfl rfl (.ren rfl rfl .nil)) rfl ⟨trivial, rfl⟩ rfl) rfl rfl ?_
            refine WPD.effS 6 [0, 1] [] rfl (by kernel_rfl) (s_store sz47 rfl rfl rfl rfl rfl) rfl ?_
            refine WPD.doneW (by kernel_rfl) ?_
            refine W.cv (Cv.weak (E' := ((((Env.none.upd 2 (.ptr 0 0)).upd 3 (.ptr 1 0)).upd 4 (.ptr 2 0)).upd 6 (.ptr 3 0))) (M' := ((((Mem.nil.push (.cells 23 [.lit (.int .i64 x5179), .lit (.int .i64 x5180)])).push (.cells 23 [.lit (.int .i64 x5181), .lit (.int .i64 x5182)])).push (.cells 23 [.lit (.int .i64 0), .lit (.int .i64 0)])).push (.cells 47 [.lit (.bool (decide (x5179 < 0))), .lit (.int .u64 x5282), .lit (.int .u64 x5283), .lit (.int .i64 x5284)]))) [0, 1, 2, 5] hnp ⟨rfl, ⟨⟨⟨⟨trivial, .inr ⟨rfl, rfl, rfl⟩⟩, .inr ⟨rfl, rfl, rfl⟩⟩, .inr ⟨rfl, rfl, rfl⟩⟩, .inr ⟨rfl, rfl, rfl⟩⟩, by decide, rfl, trivial⟩ (LeE.upd rfl rfl (LeE.upd rfl rfl (LeE.upd rfl rfl (LeE.upd rfl rfl (LeE.none rfl rfl)))))) rfl ?_
            refine W.now ?_
            have q0 := (Prod.mk.inj (Option.some.inj H)).1
            have q1 := (Prod.mk.inj (Prod.mk.inj (Option.some.inj H)).2).1
            have q2 := (Prod.mk.inj (Prod.mk.inj (Option.some.inj H)).2).2
            subst q0
            subst q1
            subst q2
            exact ⟨rfl, rfl, rfl⟩
        · refine WPD1.eff 5 [0, 1] [] rfl (Does.runs (d_alloc ze47 rfl)) rfl rfl ?_
          obtain ⟨x5286, h5284, H⟩ := bnd H
          refine WPD.eff 1 [0, 1] [] rfl (by kernel_rfl) (runs_call (s := []) (t := [5]) (N := 6) (bor := []) fn38 rfl (s_dec_of k x5179 x5180 x5286 h5284) ⟨rfl, trivial, by decide, rfl, trivial⟩ rfl trivial (.ren rfl rfl .nil) rfl ⟨trivial, rfl⟩ rfl) rfl rfl ?_
          obtain ⟨x5288, h5286, H⟩ := bnd H
          refine WPD.eff 3 [0, 1] [] rfl (by kernel_rfl) (runs_call (s := []) (t := [6]) (N := 7) (bor := []) fn38 rfl (s_dec_of k x5181 x5182 x5288 h5286) ⟨rfl, trivial, by decide, rfl, trivial⟩ rfl trivial (.ren rfl rfl .nil) rfl ⟨trivial, rfl⟩ rfl) rfl rfl ?_
          obtain ⟨⟨x5290, x5291, x5292⟩, h5288, H⟩ := bnd H
          refine WPD.eff 4 [0, 1] [] rfl (by kernel_rfl) (runs_call (s := []) (t := [7]) (N := 8) (bor := []) fn37 rfl (s_dec_left k (decide (x5179 < 0)) 0 x5286 x5180 (decide (x5181 < 0)) 0 x5288 x5182 x5290 x5291 x5292 h5288) ⟨rfl, trivial, by decide, rfl, trivial⟩ rfl trivial (.ren rfl rfl (.ren rfl rfl .nil)) rfl ⟨trivial, rfl⟩ rfl) rfl rfl ?_
          refine WPD.effS 6 [0, 1] [] rfl (by kernel_rfl) (s_store sz47 rfl rfl rfl rfl rfl) rfl ?_
          refine WPD.doneW (by kernel_rfl) ?_
          refine W.cv (Cv.weak (E' := ((((Env.none.upd 2 (.ptr 0 0)).upd 3 (.ptr 1 0)).upd 4 (.ptr 2 0)).upd 6 (.ptr 3 0))) (M' := ((((Mem.nil.push (.cells 23 [.lit (.int .i64 x5179), .lit (.int .i64 x5180)])).push (.cells 23 [.lit (.int .i64 x5181), .lit (.int .i64 x5182)])).push (.cells 23 [.lit (.int .i64 0), .lit (.int .i64 0)])).push (.cells 47 [.lit (.bool (decide (x5179 < 0))), .lit (.int .u64 x5290), .lit (.int .u64 x5291), .lit (.int .i64 x5292)]))) [0, 1, 2, 4] hnp ⟨rfl, ⟨⟨⟨⟨trivial, .inr ⟨rfl, rfl, rfl⟩⟩, .inr ⟨rfl, rfl, rfl⟩⟩, .inr ⟨rfl, rfl, rfl⟩⟩, .inr ⟨rfl, rfl, rfl⟩⟩, by decide, rfl, trivial⟩ (LeE.upd rfl rfl (LeE.upd rfl rfl (LeE.upd rfl rfl (LeE.upd rfl rfl (LeE.none rfl rfl)))))) rfl ?_
          refine W.now ?_
          have q0 := (Prod.mk.inj (Option.some.inj H)).1
          have q1 := (Prod.mk.inj (Prod.mk.inj (Option.some.inj H)).2).1
          have q2 := (Prod.mk.inj (Prod.mk.inj (Option.some.inj H)).2).2
          subst q0
          subst q1
          subst q2
          exact ⟨rfl, rfl, rfl⟩
      · rintro _ _ _ ⟨rfl, rfl, rfl⟩
        refine W.now ?_
        refine Then.n ?_
        refine WP.seq ?_
        refine WP.region ?_
        refine WPL.q (q_load_ag ag47 rfl rfl (Nat.le_of_ble_eq_true rfl)) rfl ?_
        obtain ⟨⟨x5295, x5296, x5297⟩, h5293, H⟩ := bnd H
        refine WPL.c (runs_call (s := []) (t := [4]) (N := 5) (bor := []) fn31 rfl (s_dec_num_tell k (decide (x5179 < 0)) x5238 x5239 x5240 x5295 x5296 x5297 h5293) ⟨rfl, trivial, by decide, rfl, trivial⟩ rfl trivial (.ren rfl rfl .nil) rfl ⟨trivial, rfl⟩ rfl) rfl ?_
        refine WPL.q (q_mv (v := .tup _) rfl) rfl ?_
        refine WPL.q (q_extract rfl rfl) rfl ?_
        refine WPL.q (q_extract rfl rfl) rfl ?_
        refine WPL.d (d_alloc ze23 rfl) rfl ?_
        refine WPL.s (s_store sz23 rfl rfl rfl rfl rfl) ?_
        refine WPL.q (q_as (v := .lit (.int _ _)) rfl) rfl ?_
        refine WPL.nilW ?_
        refine W.now ?_
        refine Then.n ?_
        refine WP.seq ?_
        refine WP.seq ?_
        obtain ⟨x5310, H5313, H⟩ := bnd H
        refine WP.monoW (Q := fun x E M => x = .normal ∧ E = (((((Env.none.upd 3 (.ptr 0 0)).upd 4 (.ptr 1 0)).upd 7 (.ptr 2 0)).upd 8 (.lit (.int .i64 x5295))).upd 42 (.lit (.bool x5310))) ∧ M = (((Mem.nil.push (.cells 23 [.lit (.int .i64 x5181), .lit (.int .i64 x5182)])).push (.cells 23 [.lit (.int .i64 0), .lit (.int .i64 0)])).push (.cells 23 [.lit (.int .i64 x5296), .lit (.int .i64 x5297)]))) ?_ ?_
        · clear H
          have H := H5313
          clear H5313
          refine WP.region ?_
          refine WPL.q (q_mv (v := .lit (.int _ _)) rfl) rfl ?_
          refine WPL.q (q_neq rfl rfl) rfl ?_
          refine WPL.q (q_mv (v := .lit (.bool _)) rfl) rfl ?_
          refine WPL.split (t := 29) (b := (!decide (x5295 = 0))) rfl (fun hb5310 => ?_) (fun hb5310 => ?_)
          · replace H := cnt hb5310 H
            refine WPL.skipg (b' := true) rfl rfl (lb hb5310) rfl rfl ?_
            refine WPL.skipg (b' := true) rfl rfl (lb hb5310) rfl rfl ?_
            refine WPL.skipg (b' := true) rfl rfl (lb hb5310) rfl rfl ?_
            refine WPL.q (q_pickT (v := .lit (.bool _)) (lb hb5310) rfl) rfl ?_
            refine WPL.q (q_mv (v := .lit (.bool _)) rfl) rfl ?_
            refine WPL.skipg (b' := true) rfl rfl rfl rfl rfl ?_
            refine WPL.skipg (b' := true) rfl rfl rfl rfl rfl ?_
            refine WPL.skipg (b' := true) rfl rfl rfl rfl rfl ?_
            refine WPL.skipg (b' := true) rfl rfl rfl rfl rfl ?_
            refine WPL.skipg (b' := true) rfl rfl rfl rfl rfl ?_
            refine WPL.skipg (b' := true) rfl rfl rfl rfl rfl ?_
            refine WPL.skipg (b' := true) rfl rfl rfl rfl rfl ?_
            refine WPL.q (q_pickT (v := .lit (.bool _)) rfl rfl) rfl ?_
            refine WPL.nilW ?_
            refine W.cv (Cv.weak (E' := (((((Env.none.upd 3 (.ptr 0 0)).upd 4 (.ptr 1 0)).upd 7 (.ptr 2 0)).upd 8 (.lit (.int .i64 x5295))).upd 42 (.lit (.bool true)))) (M' := (((Mem.nil.push (.cells 23 [.lit (.int .i64 x5181), .lit (.int .i64 x5182)])).push (.cells 23 [.lit (.int .i64 0), .lit (.int .i64 0)])).push (.cells 23 [.lit (.int .i64 x5296), .lit (.int .i64 x5297)]))) [1, 2, 5] hnp ⟨rfl, ⟨⟨⟨trivial, .inr ⟨rfl, rfl, rfl⟩⟩, .inr ⟨rfl, rfl, rfl⟩⟩, .inr ⟨rfl, rfl, rfl⟩⟩, by decide, rfl, trivial⟩ (LeE.upd rfl rfl (LeE.upd rfl rfl (LeE.upd rfl rfl (LeE.upd rfl rfl (LeE.upd rfl rfl (LeE.none rfl rfl))))))) rfl ?_
            refine W.now ?_
            have q0 := (Option.some.inj H)
            subst q0
            exact ⟨rfl, rfl, rfl⟩
          · replace H := cnf hb5310 H
            refine WPL.qg rfl rfl (lb hb5310) (q_fieldAddr fi23_0 rfl rfl) rfl ?_
            refine WPL.qg rfl rfl (lb hb5310) (q_load sc2 rfl rfl rfl) rfl ?_
            refine WPL.qg rfl rfl (lb hb5310) (q_eql rfl rfl) rfl ?_
            refine WPL.q (q_pickF (v := .lit (.bool _)) (lb hb5310) rfl) rfl ?_
            refine WPL.q (q_mv (v := .lit (.bool _)) rfl) rfl ?_
            refine WPL.split (t := 34) (b := (decide (x5296 = 0))) rfl (fun hb5311 => ?_) (fun hb5311 => ?_)
            · replace H := cnt hb5311 H
              refine WPL.skipg (b' := true) rfl rfl (lb hb5311) rfl rfl ?_
              refine WPL.skipg (b' := true) rfl rfl (lb hb5311) rfl rfl ?_
              refine WPL.skipg (b' := true) rfl rfl (lb hb5311) rfl rfl ?_
              refine WPL.skipg (b' := true) rfl rfl (lb hb5311) rfl rfl ?_
              refine WPL.skipg (b' := true) rfl rfl (lb hb5311) rfl rfl ?_
              refine WPL.skipg (b' := true) rfl rfl (lb hb5311) rfl rfl ?_
              refine WPL.skipg (b' := true) rfl rfl (lb hb5311) rfl rfl ?_
              refine WPL.q (q_pickT (v := .lit (.bool _)) (lb hb5311) rfl) rfl ?_
              refine WPL.nilW ?_
              refine W.cv (Cv.weak (E' := (((((Env.none.upd 3 (.ptr 0 0)).upd 4 (.ptr 1 0)).upd 7 (.ptr 2 0)).upd 8 (.lit (.int .i64 x5295))).upd 42 (.lit (.bool true)))) (M' := (((Mem.nil.push (.cells 23 [.lit (.int .i64 x5181), .lit (.int .i64 x5182)])).push (.cells 23 [.lit (.int .i64 0), .lit (.int .i64 0)])).push (.cells 23 [.lit (.int .i64 x5296), .lit (.int .i64 x5297)]))) [1, 2, 5] hnp ⟨rfl, ⟨⟨⟨trivial, .inr ⟨rfl, rfl, rfl⟩⟩, .inr ⟨rfl, rfl, rfl⟩⟩, .inr ⟨rfl, rfl, rfl⟩⟩, by decide, rfl, trivial⟩ (LeE.upd rfl rfl (LeE.upd rfl rfl (LeE.upd rfl rfl (LeE.upd rfl rfl (LeE.upd rfl rfl (LeE.none rfl rfl))))))) rfl ?_
              refine W.now ?_
              have q0 := (Option.some.inj H)
              subst q0
              exact ⟨rfl, rfl, rfl⟩
            · replace H := cnf hb5311 H
              refine WPL.qg rfl rfl (lb hb5311) (q_fieldAddr fi23_0 rfl rfl) rfl ?_
              refine WPL.qg rfl rfl (lb hb5311) (q_load sc2 rfl rfl rfl) rfl ?_
              refine WPL.qg rfl rfl (lb hb5311) (q_lss rfl rfl) rfl ?_
              refine WPL.qg rfl rfl (lb hb5311) (q_fieldAddr fi23_0 rfl rfl) rfl ?_
              refine WPL.qg rfl rfl (lb hb5311) (q_load sc2 rfl rfl rfl) rfl ?_
              refine WPL.qg rfl rfl (lb hb5311) (q_lss rfl rfl) rfl ?_
              obtain ⟨x5313, h5313, H⟩ := bnd H
              refine WPL.qg rfl rfl (lb hb5311) (q_nm (q_eqlb Try.underlying4 rfl rfl) (nm_bool h5313)) rfl ?_
              refine WPL.q (q_pickF (v := .lit (.bool _)) (lb hb5311) rfl) rfl ?_
              refine WPL.nilW ?_
              refine W.cv (Cv.weak (E' := (((((Env.none.upd 3 (.ptr 0 0)).upd 4 (.ptr 1 0)).upd 7 (.ptr 2 0)).upd 8 (.lit (.int .i64 x5295))).upd 42 (.lit (.bool x5313)))) (M' := (((Mem.nil.push (.cells 23 [.lit (.int .i64 x5181), .lit (.int .i64 x5182)])).push (.cells 23 [.lit (.int .i64 0), .lit (.int .i64 0)])).push (.cells 23 [.lit (.int .i64 x5296), .lit (.int .i64 x5297)]))) [1, 2, 5] hnp ⟨rfl, ⟨⟨⟨trivial, .inr ⟨rfl, rfl, rfl⟩⟩, .inr ⟨rfl, rfl, rfl⟩⟩, .inr ⟨rfl, rfl, rfl⟩⟩, by decide, rfl, trivial⟩ (LeE.upd rfl rfl (LeE.upd rfl rfl (LeE.upd rfl rfl (LeE.upd rfl rfl (LeE.upd rfl rfl (LeE.none rfl rfl))))))) rfl ?_
              refine W.now ?_
              have q0 := (Option.some.inj H)
              subst q0
              exact ⟨rfl, rfl, rfl⟩
        · rintro _ _ _ ⟨rfl, rfl, rfl⟩
          refine W.now ?_
          refine Then.n ?_
          refine WP.cond (t := x5310) rfl (fun hb5314 => ?_) (fun hb5314 => ?_)
          · replace H := cnt hb5314 H
            refine WP.seq ?_
            refine WP.region ?_
            refine WPL.q (q_load_ag ag23 rfl rfl (Nat.le_of_ble_eq_true rfl)) rfl ?_
            refine WPL.q (q_mv (v := .lit (.int _ _)) rfl) rfl ?_
            refine WPL.s (s_store sz23 rfl rfl rfl rfl rfl) ?_
            refine WPL.q (q_as (v := .lit (.int _ _)) rfl) rfl ?_
            refine WPL.nilW ?_
            refine W.now ?_
            refine Then.n ?_
            refine WP.retW ?_
            refine W.now ?_
            refine Then.r ?_
            have q0 := (Prod.mk.inj (Option.some.inj H)).1
            have q1 := (Prod.mk.inj (Prod.mk.inj (Option.some.inj H)).2).1
            have q2 := (Prod.mk.inj (Prod.mk.inj (Option.some.inj H)).2).2
            subst q0
            subst q1
            subst q2
            exact ⟨trivial, _, rfl, [1], (.tup [.agg [.lit (.int .i64 x5296), .lit (.int .i64 x5297)], .lit (.int .i64 x5295)]), (Mem.nil.push (.cells 23 [.lit (.int .i64 x5296), .lit (.int .i64 x5297)])), ⟨rfl, ⟨trivial, .inr ⟨rfl, rfl, rfl⟩⟩, by decide, rfl, trivial⟩, rfl, rfl, rfl, rfl⟩
          · replace H := cnf hb5314 H
            refine WP.skipW ?_
            refine W.now ?_
            refine Then.n ?_
            refine WP.seq ?_
            refine WP.region ?_
            refine WPL.q (q_load_ag ag23 rfl rfl (Nat.le_of_ble_eq_true rfl)) rfl ?_
            refine WPL.q (q_load_ag ag23 rfl rfl (Nat.le_of_ble_eq_true rfl)) rfl ?_
            obtain ⟨⟨x5317, x5318, x5319⟩, h5315, H⟩ := bnd H
            refine WPL.c (runs_call (s := []) (t := [3]) (N := 4) (bor := []) fn14 rfl (s_dec_Add k x5296 x5297 x5181 x5182 x5317 x5318 x5319 h5315) ⟨rfl, trivial, by decide, rfl, trivial⟩ rfl trivial (.ren rfl rfl (.ren rfl rfl .nil)) rfl ⟨trivial, rfl⟩ rfl) rfl ?_
            refine WPL.q (q_extract rfl rfl) rfl ?_
            refine WPL.q (q_extract rfl rfl) rfl ?_
            refine WPL.s (s_store sz23 rfl rfl rfl rfl rfl) ?_
            refine WPL.q (q_as (v := .lit (.int _ _)) rfl) rfl ?_
            refine WPL.nilW ?_
            refine W.now ?_
            refine Then.n ?_
            refine WP.retW ?_
            refine W.now ?_
            have q0 := (Prod.mk.inj (Option.some.inj H)).1
            have q1 := (Prod.mk.inj (Prod.mk.inj (Option.some.inj H)).2).1
            have q2 := (Prod.mk.inj (Prod.mk.inj (Option.some.inj H)).2).2
            subst q0
            subst q1
            subst q2
            exact ⟨trivial, _, rfl, [1], (.tup [.agg [.lit (.int .i64 x5318), .lit (.int .i64 x5319)], .lit (.int .i64 x5317)]), (Mem.nil.push (.cells 23 [.lit (.int .i64 x5318), .lit (.int .i64 x5319)])), ⟨rfl, ⟨trivial, .inr ⟨rfl, rfl, rfl⟩⟩, by decide, rfl, trivial⟩, rfl, rfl, rfl, rfl⟩
set_option maxRecDepth 100000 in
set_option maxHeartbeats 4000000 in
theorem s_quireref09_two (k : Nat) (x5329 : Int) (x5330 : Int) (x5331 : Int) (x5332 : Int) (x5408 : Bool) (x5409 : Bool) (x5410 : (List Int)) (x5411 : Int) (x5412 : Bool) (x5413 : (List Int)) (x5414 : Int) (H : g_quireref09_two k x5329 x5330 x5331 x5332 = some (x5408, x5409, x5410, x5411, x5412, x5413, x5414)) : Go.Q.Spec Try.prog 39 0 [.agg [.lit (.int .i64 x5329), .lit (.int .i64 x5330)], .agg [.lit (.int .i64 x5331), .lit (.int .i64 x5332)]] Mem.nil (fun o M => o = .ret (.tup [.agg [.lit (.bool x5409), .ro (Rd.slice (Rd.int .i64)) false x5410, .lit (.int .i64 x5411)], .agg [.lit (.bool x5412), .ro (Rd.slice (Rd.int .i64)) false x5413, .lit (.int .i64 x5414)], .lit (.bool x5408)]) ∧ M = ((Mem.nil.push (.cells 53 [.lit (.bool x5409), .ro (Rd.slice (Rd.int .i64)) false x5410, .lit (.int .i64 x5411)])).push (.cells 53 [.lit (.bool x5412), .ro (Rd.slice (Rd.int .i64)) false x5413, .lit (.int .i64 x5414)]))) := by
  unfold g_quireref09_two at H
  refine Go.Q.Spec.of_bodyR (az := [(53, 3)]) (rs := [.cell 4 53, .cell 5 53, .tmp 6]) (nt := 55) Try.func39 rfl rfl (by intro t T h; simp at h; rcases h with ⟨rfl, rfl⟩ | ⟨rfl, rfl⟩ <;> first | exact ag53 | exact ag53) rfl rfl fun cx hnp => ?_
  refine WP.seq ?_
  refine WP.region ?_
  refine WPL.d (d_box rfl rfl) rfl ?_
  refine WPL.d (d_box rfl rfl) rfl ?_
  refine WPL.d (d_alloc ze53 rfl) rfl ?_
  refine WPL.d (d_alloc ze53 rfl) rfl ?_
  refine WPL.q (q_as (v := .lit (.bool _)) rfl) rfl ?_
  refine WPL.nilW ?_
  refine W.now ?_
  refine Then.n ?_
  refine WP.seq ?_
  refine WP.region ?_
  refine WPL.q (q_load_ag ag23 rfl rfl (Nat.le_of_ble_eq_true rfl)) rfl ?_
  obtain ⟨⟨x5416, x5417⟩, h5414, H⟩ := bnd H
  refine WPL.c (runs_call (s := []) (t := [4]) (N := 5) (bor := []) fn32 rfl (s_quireref09_num k x5329 x5330 x5416 x5417 h5414) ⟨rfl, trivial, by decide, rfl, trivial⟩ rfl trivial (.ren rfl rfl .nil) rfl ⟨trivial, rfl⟩ rfl) rfl ?_
  refine WPL.q (q_mv (v := .tup _) rfl) rfl ?_
  refine WPL.q (q_extract rfl rfl) rfl ?_
  refine WPL.q (q_extract rfl rfl) rfl ?_
  refine WPL.d (d_alloc ze53 rfl) rfl ?_
  refine WPL.s (s_store sz53 rfl rfl rfl rfl rfl) ?_
  refine WPL.q (q_as (v := .lit (.bool _)) rfl) rfl ?_
  refine WPL.nilW ?_
  refine W.now ?_
  refine Then.n ?_
  refine WP.seq ?_
  refine WP.region ?_
  refine WPL.q (q_load_ag ag23 rfl rfl (Nat.le_of_ble_eq_true rfl)) rfl ?_
  obtain ⟨⟨x5419, x5420⟩, h5417, H⟩ := bnd H
  refine WPL.c (runs_call (s := []) (t := [6]) (N := 7) (bor := []) fn32 rfl (s_quireref09_num k x5331 x5332 x5419 x5420 h5417) ⟨rfl, trivial, by decide, rfl, trivial⟩ rfl trivial (.ren rfl rfl .nil) rfl ⟨trivial, rfl⟩ rfl) rfl ?_
  refine WPL.q (q_mv (v := .tup _) rfl) rfl ?_
  refine WPL.q (q_extract rfl rfl) rfl ?_
  refine WPL.q (q_extract rfl rfl) rfl ?_
  refine WPL.d (d_alloc ze53 rfl) rfl ?_
  refine WPL.s (s_store sz53 rfl rfl rfl rfl rfl) ?_
  refine WPL.q (q_as (v := .lit (.bool _)) rfl) rfl ?_
  refine WPL.nilW ?_
  refine W.now ?_
  refine Then.n ?_
  refine WP.seq ?_
  refine WP.seq ?_
  obtain ⟨x5427, H5428, H⟩ := bnd H
  refine WP.monoW (Q := fun x E M => x = .normal ∧ E = (((((Env.none.upd 4 (.ptr 0 0)).upd 5 (.ptr 1 0)).upd 7 (.ptr 2 0)).upd 9 (.ptr 3 0)).upd 26 (.lit (.bool x5427))) ∧ M = ((((Mem.nil.push (.cells 53 [.lit (.bool false), .lit (.slice none 0 0), .lit (.int .i64 0)])).push (.cells 53 [.lit (.bool false), .lit (.slice none 0 0), .lit (.int .i64 0)])).push (.cells 53 [.lit (.bool (decide (x5329 < 0))), .ro (Rd.slice (Rd.int .i64)) false x5417, .lit (.int .i64 x5330)])).push (.cells 53 [.lit (.bool (decide (x5331 < 0))), .ro (Rd.slice (Rd.int .i64)) false x5420, .lit (.int .i64 x5332)]))) ?_ ?_
  · clear H
    have H := H5428
    clear H5428
    refine WP.region ?_
    refine WPL.q (q_mv (v := .lit (.bool _)) rfl) rfl ?_
    refine WPL.q (q_not rfl) rfl ?_
    refine WPL.q (q_mv (v := .lit (.bool _)) rfl) rfl ?_
    refine WPL.split (t := 23) (b := (!x5416)) rfl (fun hb5427 => ?_) (fun hb5427 => ?_)
    · replace H := cnt hb5427 H
      refine WPL.skipg (b' := true) rfl rfl (lb hb5427) rfl rfl ?_
      refine WPL.skipg (b' := true) rfl rfl (lb hb5427) rfl rfl ?_
      refine WPL.q (q_pickT (v := .lit (.bool _)) (lb hb5427) rfl) rfl ?_
      refine WPL.nilW ?_
      refine W.cv (Cv.weak (E' := (((((Env.none.upd 4 (.ptr 0 0)).upd 5 (.ptr 1 0)).upd 7 (.ptr 2 0)).upd 9 (.ptr 3 0)).upd 26 (.lit (.bool true)))) (M' := ((((Mem.nil.push (.cells 53 [.lit (.bool false), .lit (.slice none 0 0), .lit (.int .i64 0)])).push (.cells 53 [.lit (.bool false), .lit (.slice none 0 0), .lit (.int .i64 0)])).push (.cells 53 [.lit (.bool (decide (x5329 < 0))), .ro (Rd.slice (Rd.int .i64)) false x5417, .lit (.int .i64 x5330)])).push (.cells 53 [.lit (.bool (decide (x5331 < 0))), .ro (Rd.slice (Rd.int .i64)) false x5420, .lit (.int .i64 x5332)]))) [2, 3, 5, 7] hnp ⟨rfl, ⟨⟨⟨⟨trivial, .inr ⟨rfl, rfl, rfl⟩⟩, .inr ⟨rfl, rfl, rfl⟩⟩, .inr ⟨rfl, rfl, rfl⟩⟩, .inr ⟨rfl, rfl, rfl⟩⟩, by decide, rfl, trivial⟩ (LeE.upd rfl rfl (LeE.upd rfl rfl (LeE.upd rfl rfl (LeE.upd rfl rfl (LeE.upd rfl rfl (LeE.none rfl rfl))))))) rfl ?_
      refine W.now ?_
      have q0 := (Option.some.inj H)
      subst q0
      exact ⟨rfl, rfl, rfl⟩
    · replace H := cnf hb5427 H
      refine WPL.qg rfl rfl (lb hb5427) (q_mv (v := .lit (.bool _)) rfl) rfl ?_
      refine WPL.qg rfl rfl (lb hb5427) (q_not rfl) rfl ?_
      refine WPL.q (q_pickF (v := .lit (.bool _)) (lb hb5427) rfl) rfl ?_
      refine WPL.nilW ?_
      refine W.cv (Cv.weak (E' := (((((Env.none.upd 4 (.ptr 0 0)).upd 5 (.ptr 1 0)).upd 7 (.ptr 2 0)).upd 9 (.ptr 3 0)).upd 26 (.lit (.bool (!x5419))))) (M' := ((((Mem.nil.push (.cells 53 [.lit (.bool false), .lit (.slice none 0 0), .lit (.int .i64 0)])).push (.cells 53 [.lit (.bool false), .lit (.slice none 0 0), .lit (.int .i64 0)])).push (.cells 53 [.lit (.bool (decide (x5329 < 0))), .ro (Rd.slice (Rd.int .i64)) false x5417, .lit (.int .i64 x5330)])).push (.cells 53 [.lit (.bool (decide (x5331 < 0))), .ro (Rd.slice (Rd.int .i64)) false x5420, .lit (.int .i64 x5332)]))) [2, 3, 5, 7] hnp ⟨rfl, ⟨⟨⟨⟨trivial, .inr ⟨rfl, rfl, rfl⟩⟩, .inr ⟨rfl, rfl, rfl⟩⟩, .inr ⟨rfl, rfl, rfl⟩⟩, .inr ⟨rfl, rfl, rfl⟩⟩, by decide, rfl, trivial⟩ (LeE.upd rfl rfl (LeE.upd rfl rfl (LeE.upd rfl rfl (LeE.upd rfl rfl (LeE.upd rfl rfl (LeE.none rfl rfl))))))) rfl ?_
      refine W.now ?_
      have q0 := (Option.some.inj H)
      subst q0
      exact ⟨rfl, rfl, rfl⟩
  · rintro _ _ _ ⟨rfl, rfl, rfl⟩
    refine W.now ?_
    refine Then.n ?_
    refine WP.cond (t := x5427) rfl (fun hb5429 => ?_) (fun hb5429 => ?_)
    · replace H := cnt hb5429 H
      refine WP.seq ?_
      refine WP.region ?_
      refine WPL.q (q_build bu53 rfl) rfl ?_
      refine WPL.q (q_build bu53 rfl) rfl ?_
      refine WPL.s (s_store sz53 rfl rfl rfl rfl rfl) ?_
      refine WPL.s (s_store sz53 rfl rfl rfl rfl rfl) ?_
      refine WPL.q (q_as (v := .lit (.bool _)) rfl) rfl ?_
      refine WPL.nilW ?_
      refine W.now ?_
      refine Then.n ?_
      refine WP.retW ?_
      refine W.cv (Cv.nilRoC (Rd.int .i64) false (i := 0) (off := 1) rfl rfl rfl) rfl ?_
      refine W.cv (Cv.nilRoC (Rd.int .i64) false (i := 1) (off := 1) rfl rfl rfl) rfl ?_
      refine W.now ?_
      refine Then.r ?_
      have q0 := (Prod.mk.inj (Option.some.inj H)).1
      have q1 := (Prod.mk.inj (Prod.mk.inj (Option.some.inj H)).2).1
      have q2 := (Prod.mk.inj (Prod.mk.inj (Prod.mk.inj (Option.some.inj H)).2).2).1
      have q3 := (Prod.mk.inj (Prod.mk.inj (Prod.mk.inj (Prod.mk.inj (Option.some.inj H)).2).2).2).1
      have q4 := (Prod.mk.inj (Prod.mk.inj (Prod.mk.inj (Prod.mk.inj (Prod.mk.inj (Option.some.inj H)).2).2).2).2).1
      have q5 := (Prod.mk.inj (Prod.mk.inj (Prod.mk.inj (Prod.mk.inj (Prod.mk.inj (Prod.mk.inj (Option.some.inj H)).2).2).2).2).2).1
      have q6 := (Prod.mk.inj (Prod.mk.inj (Prod.mk.inj (Prod.mk.inj (Prod.mk.inj (Prod.mk.inj (Option.some.inj H)).2).2).2).2).2).2
      subst q0
      subst q1
      subst q2
      subst q3
      subst q4
      subst q5
      subst q6
      exact ⟨trivial, _, rfl, [0, 1], (.tup [.agg [.lit (.bool false), .ro (Rd.slice (Rd.int .i64)) false ([] : List Int), .lit (.int .i64 0)], .agg [.lit (.bool false), .ro (Rd.slice (Rd.int .i64)) false ([] : List Int), .lit (.int .i64 0)], .lit (.bool false)]), ((Mem.nil.push (.cells 53 [.lit (.bool false), .ro (Rd.slice (Rd.int .i64)) false ([] : List Int), .lit (.int .i64 0)])).push (.cells 53 [.lit (.bool false), .ro (Rd.slice (Rd.int .i64)) false ([] : List Int), .lit (.int .i64 0)])), ⟨rfl, ⟨⟨trivial, .inr ⟨rfl, rfl, rfl⟩⟩, .inr ⟨rfl, rfl, rfl⟩⟩, by decide, rfl, trivial⟩, rfl, rfl, rfl, rfl⟩
    · replace H := cnf hb5429 H
      refine WP.skipW ?_
      refine W.now ?_
      refine Then.n ?_
      refine WP.seq ?_
      refine WP.block ?_
      refine WP.cv (Cv.weak (E' := ((((Env.none.upd 4 (.ptr 0 0)).upd 5 (.ptr 1 0)).upd 7 (.ptr 2 0)).upd 9 (.ptr 3 0))) (M' := ((((Mem.nil.push (.cells 53 [.lit (.bool false), .lit (.slice none 0 0), .lit (.int .i64 0)])).push (.cells 53 [.lit (.bool false), .lit (.slice none 0 0), .lit (.int .i64 0)])).push (.cells 53 [.lit (.bool (decide (x5329 < 0))), .ro (Rd.slice (Rd.int .i64)) false x5417, .lit (.int .i64 x5330)])).push (.cells 53 [.lit (.bool (decide (x5331 < 0))), .ro (Rd.slice (Rd.int .i64)) false x5420, .lit (.int .i64 x5332)]))) [0, 1, 2, 3] hnp ⟨rfl, ⟨⟨⟨⟨trivial, .inr ⟨rfl, rfl, rfl⟩⟩, .inr ⟨rfl, rfl, rfl⟩⟩, .inr ⟨rfl, rfl, rfl⟩⟩, .inr ⟨rfl, rfl, rfl⟩⟩, by decide, rfl, trivial⟩ (LeE.upd rfl rfl (LeE.upd rfl rfl (LeE.upd rfl rfl (LeE.upd rfl rfl (LeE.none rfl rfl)))))) ?_
      obtain ⟨⟨x5456, x5457, x5458⟩, H5469, H⟩ := bnd H
      refine WP.monoW (Q := fun x E M => x = .exit 0 ∧ E = ((((Env.none.upd 4 (.ptr 0 0)).upd 5 (.ptr 1 0)).upd 7 (.ptr 2 0)).upd 9 (.ptr 3 0)) ∧ M = ((((Mem.nil.push (.cells 53 [.lit (.bool false), .lit (.slice none 0 0), .lit (.int .i64 0)])).push (.cells 53 [.lit (.bool false), .lit (.slice none 0 0), .lit (.int .i64 0)])).push (.cells 53 [.lit (.bool x5456), .ro (Rd.slice (Rd.int .i64)) false x5457, .lit (.int .i64 x5458)])).push (.cells 53 [.lit (.bool (decide (x5331 < 0))), .ro (Rd.slice (Rd.int .i64)) false x5420, .lit (.int .i64 x5332)]))) ?_ ?_
      · refine WP.loop (β := Bool × (List Int) × Int) (fun n b => g_quireref09_two_l0 k x5332 n b.1 b.2.1 b.2.2 = some (x5456, x5457, x5458)) (fun b => ((((Env.none.upd 4 (.ptr 0 0)).upd 5 (.ptr 1 0)).upd 7 (.ptr 2 0)).upd 9 (.ptr 3 0))) (fun b => ((((Mem.nil.push (.cells 53 [.lit (.bool false), .lit (.slice none 0 0), .lit (.int .i64 0)])).push (.cells 53 [.lit (.bool false), .lit (.slice none 0 0), .lit (.int .i64 0)])).push (.cells 53 [.lit (.bool b.1), .ro (Rd.slice (Rd.int .i64)) false b.2.1, .lit (.int .i64 b.2.2)])).push (.cells 53 [.lit (.bool (decide (x5331 < 0))), .ro (Rd.slice (Rd.int .i64)) false x5420, .lit (.int .i64 x5332)]))) k ((decide (x5329 < 0)), x5417, x5330) H5469 rfl rfl ?_
        rintro n ⟨x5442, x5443, x5444⟩ H
        obtain _ | n := n
        · exact nf rfl H
        rw [g_quireref09_two_l0.eq_2] at H
        show WP _ _ _ _ ((((Env.none.upd 4 (.ptr 0 0)).upd 5 (.ptr 1 0)).upd 7 (.ptr 2 0)).upd 9 (.ptr 3 0)) ((((Mem.nil.push (.cells 53 [.lit (.bool false), .lit (.slice none 0 0), .lit (.int .i64 0)])).push (.cells 53 [.lit (.bool false), .lit (.slice none 0 0), .lit (.int .i64 0)])).push (.cells 53 [.lit (.bool x5442), .ro (Rd.slice (Rd.int .i64)) false x5443, .lit (.int .i64 x5444)])).push (.cells 53 [.lit (.bool (decide (x5331 < 0))), .ro (Rd.slice (Rd.int .i64)) false x5420, .lit (.int .i64 x5332)])) _
        refine WP.seq ?_
        refine WP.seq ?_
        refine WP.region ?_
        refine WPL.q (q_fieldAddr fi53_1 rfl rfl) rfl ?_
        refine WPL.q (q_load sc3 rfl rfl rfl) rfl ?_
        refine WPL.q (q_fieldAddr fi53_1 rfl rfl) rfl ?_
        refine WPL.q (q_load sc3 rfl rfl rfl) rfl ?_
        refine WPL.q (q_gtr rfl rfl) rfl ?_
        refine WPL.nilW ?_
        refine W.now ?_
        refine Then.n ?_
        refine WP.cond (t := (decide (x5332 < x5444))) rfl (fun hb5459 => ?_) (fun hb5459 => ?_)
        · replace H := cnt hb5459 H
          refine WP.skipW ?_
          refine W.now ?_
          refine Then.n ?_
          refine WP.block ?_
          refine WP.regionD' 8 [2] [7] mixed rfl ?_
          refine WPD.takeT 0 rfl (by kernel_rfl) (q_fieldAddr fi53_0 rfl rfl) rfl ?_
          refine WPD.takeT 3 rfl (by kernel_rfl) (q_fieldAddr fi53_1 rfl rfl) rfl ?_
          refine WPD.take 1 rfl (by kernel_rfl) (q_load_ag ag51 rfl rfl (Nat.le_of_ble_eq_true rfl)) rfl rfl ?_
          refine WPD.take 4 rfl (by kernel_rfl) (q_load sc3 rfl rfl rfl) rfl rfl ?_
          refine WPD.takeT 5 rfl (by kernel_rfl) (q_sub rfl rfl) rfl ?_
          obtain ⟨⟨x5468, x5469⟩, h5466, H⟩ := bnd H
          refine WPD.eff 2 [2] [7] rfl (by kernel_rfl) (runs_call (s := []) (t := [4]) (N := 5) (bor := []) fn34 rfl (s_quireref09_Shift k x5442 x5443 1 x5468 x5469 h5466) ⟨rfl, trivial, by decide, rfl, trivial⟩ rfl trivial (.ren rfl rfl (.ren rfl rfl .nil)) rfl ⟨trivial, rfl⟩ rfl) rfl rfl ?_
          refine WPD.takeT 6 rfl (by kernel_rfl) (q_build bu53 rfl) rfl ?_
          refine WPD.effS 7 [] [] rfl (by kernel_rfl) (s_store sz53 rfl rfl rfl rfl rfl) rfl ?_
          refine WPD.doneW (by kernel_rfl) ?_
          refine W.cv (Cv.weak (E' := ((((Env.none.upd 4 (.ptr 0 0)).upd 5 (.ptr 1 0)).upd 7 (.ptr 2 0)).upd 9 (.ptr 3 0))) (M' := ((((Mem.nil.push (.cells 53 [.lit (.bool false), .lit (.slice none 0 0), .lit (.int .i64 0)])).push (.cells 53 [.lit (.bool false), .lit (.slice none 0 0), .lit (.int .i64 0)])).push (.cells 53 [.lit (.bool x5468), .ro (Rd.slice (Rd.int .i64)) false x5469, .lit (.int .i64 (IntKind.wrap .i64 (x5444 - 1)))])).push (.cells 53 [.lit (.bool (decide (x5331 < 0))), .ro (Rd.slice (Rd.int .i64)) false x5420, .lit (.int .i64 x5332)]))) [0, 1, 2, 3] hnp ⟨rfl, ⟨⟨⟨⟨trivial, .inr ⟨rfl, rfl, rfl⟩⟩, .inr ⟨rfl, rfl, rfl⟩⟩, .inr ⟨rfl, rfl, rfl⟩⟩, .inr ⟨rfl, rfl, rfl⟩⟩, by decide, rfl, trivial⟩ (LeE.upd rfl rfl (LeE.upd rfl rfl (LeE.upd rfl rfl (LeE.upd rfl rfl (LeE.none rfl rfl)))))) rfl ?_
          refine W.now ?_
          refine InBlock.n ?_
          exact Then.n ⟨n, (x5468, x5469, (IntKind.wrap .i64 (x5444 - 1))), Nat.lt_succ_self n, H, rfl, rfl⟩
        · replace H := cnf hb5459 H
          refine WP.exitW ?_
          refine W.cv (Cv.weak (E' := ((((Env.none.upd 4 (.ptr 0 0)).upd 5 (.ptr 1 0)).upd 7 (.ptr 2 0)).upd 9 (.ptr 3 0))) (M' := ((((Mem.nil.push (.cells 53 [.lit (.bool false), .lit (.slice none 0 0), .lit (.int .i64 0)])).push (.cells 53 [.lit (.bool false), .lit (.slice none 0 0), .lit (.int .i64 0)])).push (.cells 53 [.lit (.bool x5442), .ro (Rd.slice (Rd.int .i64)) false x5443, .lit (.int .i64 x5444)])).push (.cells 53 [.lit (.bool (decide (x5331 < 0))), .ro (Rd.slice (Rd.int .i64)) false x5420, .lit (.int .i64 x5332)]))) [0, 1, 2, 3] hnp ⟨rfl, ⟨⟨⟨⟨trivial, .inr ⟨rfl, rfl, rfl⟩⟩, .inr ⟨rfl, rfl, rfl⟩⟩, .inr ⟨rfl, rfl, rfl⟩⟩, .inr ⟨rfl, rfl, rfl⟩⟩, by decide, rfl, trivial⟩ (LeE.upd rfl rfl (LeE.upd rfl rfl (LeE.upd rfl rfl (LeE.upd rfl rfl (LeE.none rfl rfl)))))) rfl ?_
          refine W.now ?_
          refine Then.x ?_
          refine Then.x ?_
          have q0 := (Prod.mk.inj (Option.some.inj H)).1
          have q1 := (Prod.mk.inj (Prod.mk.inj (Option.some.inj H)).2).1
          have q2 := (Prod.mk.inj (Prod.mk.inj (Option.some.inj H)).2).2
          subst q0
          subst q1
          subst q2
          exact ⟨rfl, rfl, rfl⟩
      · rintro _ _ _ ⟨rfl, rfl, rfl⟩
        refine W.now ?_
        refine InBlock.x0 ?_
        refine Then.n ?_
        refine WP.seq ?_
        refine WP.block ?_
        refine WP.cv (Cv.weak (E' := ((((Env.none.upd 4 (.ptr 0 0)).upd 5 (.ptr 1 0)).upd 7 (.ptr 2 0)).upd 9 (.ptr 3 0))) (M' := ((((Mem.nil.push (.cells 53 [.lit (.bool false), .lit (.slice none 0 0), .lit (.int .i64 0)])).push (.cells 53 [.lit (.bool false), .lit (.slice none 0 0), .lit (.int .i64 0)])).push (.cells 53 [.lit (.bool x5456), .ro (Rd.slice (Rd.int .i64)) false x5457, .lit (.int .i64 x5458)])).push (.cells 53 [.lit (.bool (decide (x5331 < 0))), .ro (Rd.slice (Rd.int .i64)) false x5420, .lit (.int .i64 x5332)]))) [0, 1, 2, 3] hnp ⟨rfl, ⟨⟨⟨⟨trivial, .inr ⟨rfl, rfl, rfl⟩⟩, .inr ⟨rfl, rfl, rfl⟩⟩, .inr ⟨rfl, rfl, rfl⟩⟩, .inr ⟨rfl, rfl, rfl⟩⟩, by decide, rfl, trivial⟩ (LeE.upd rfl rfl (LeE.upd rfl rfl (LeE.upd rfl rfl (LeE.upd rfl rfl (LeE.none rfl rfl)))))) ?_
        obtain ⟨⟨x5496, x5497, x5498⟩, H5509, H⟩ := bnd H
        refine WP.monoW (Q := fun x E M => x = .exit 2 ∧ E = ((((Env.none.upd 4 (.ptr 0 0)).upd 5 (.ptr 1 0)).upd 7 (.ptr 2 0)).upd 9 (.ptr 3 0)) ∧ M = ((((Mem.nil.push (.cells 53 [.lit (.bool false), .lit (.slice none 0 0), .lit (.int .i64 0)])).push (.cells 53 [.lit (.bool false), .lit (.slice none 0 0), .lit (.int .i64 0)])).push (.cells 53 [.lit (.bool x5456), .ro (Rd.slice (Rd.int .i64)) false x5457, .lit (.int .i64 x5458)])).push (.cells 53 [.lit (.bool x5496), .ro (Rd.slice (Rd.int .i64)) false x5497, .lit (.int .i64 x5498)]))) ?_ ?_
        · refine WP.loop (β := Bool × (List Int) × Int) (fun n b => g_quireref09_two_l1 k x5458 n b.1 b.2.1 b.2.2 = some (x5496, x5497, x5498)) (fun b => ((((Env.none.upd 4 (.ptr 0 0)).upd 5 (.ptr 1 0)).upd 7 (.ptr 2 0)).upd 9 (.ptr 3 0))) (fun b => ((((Mem.nil.push (.cells 53 [.lit (.bool false), .lit (.slice none 0 0), .lit (.int .i64 0)])).push (.cells 53 [.lit (.bool false), .lit (.slice none 0 0), .lit (.int .i64 0)])).push (.cells 53 [.lit (.bool x5456), .ro (Rd.slice (Rd.int .i64)) false x5457, .lit (.int .i64 x5458)])).push (.cells 53 [.lit (.bool b.1), .ro (Rd.slice (Rd.int .i64)) false b.2.1, .lit (.int .i64 b.2.2)]))) k ((decide (x5331 < 0)), x5420, x5332) H5509 rfl rfl ?_
          rintro n ⟨x5482, x5483, x5484⟩ H
          obtain _ | n := n
          · exact nf rfl H
          rw [g_quireref09_two_l1.eq_2] at H
          show WP _ _ _ _ ((((Env.none.upd 4 (.ptr 0 0)).upd 5 (.ptr 1 0)).upd 7 (.ptr 2 0)).upd 9 (.ptr 3 0)) ((((Mem.nil.push (.cells 53 [.lit (.bool false), .lit (.slice none 0 0), .lit (.int .i64 0)])).push (.cells 53 [.lit (.bool false), .lit (.slice none 0 0), .lit (.int .i64 0)])).push (.cells 53 [.lit (.bool x5456), .ro (Rd.slice (Rd.int .i64)) false x5457, .lit (.int .i64 x5458)])).push (.cells 53 [.lit (.bool x5482), .ro (Rd.slice (Rd.int .i64)) false x5483, .lit (.int .i64 x5484)])) _
          refine WP.seq ?_
          refine WP.seq ?_
          refine WP.region ?_
          refine WPL.q (q_fieldAddr fi53_1 rfl rfl) rfl ?_
          refine WPL.q (q_load sc3 rfl rfl rfl) rfl ?_
          refine WPL.q (q_fieldAddr fi53_1 rfl rfl) rfl ?_
          refine WPL.q (q_load sc3 rfl rfl rfl) rfl ?_
          refine WPL.q (q_gtr rfl rfl) rfl ?_
          refine WPL.nilW ?_
          refine W.now ?_
          refine Then.n ?_
          refine WP.cond (t := (decide (x5458 < x5484))) rfl (fun hb5499 => ?_) (fun hb5499 => ?_)
          · replace H := cnt hb5499 H
            refine WP.skipW ?_
            refine W.now ?_
            refine Then.n ?_
            refine WP.block ?_
            refine WP.regionD' 8 [3] [7] mixed rfl ?_
            refine WPD.takeT 0 rfl (by kernel_rfl) (q_fieldAddr fi53_0 rfl rfl) rfl ?_
            refine WPD.takeT 3 rfl (by kernel_rfl) (q_fieldAddr fi53_1 rfl rfl) rfl ?_
            refine WPD.take 1 rfl (by kernel_rfl) (q_load_ag ag51 rfl rfl (Nat.le_of_ble_eq_true rfl)) rfl rfl ?_
            refine WPD.take 4 rfl (by kernel_rfl) (q_load sc3 rfl rfl rfl) rfl rfl ?_
            refine WPD.takeT 5 rfl (by kernel_rfl) (q_sub rfl rfl) rfl ?_
            obtain ⟨⟨x5508, x5509⟩, h5506, H⟩ := bnd H
            refine WPD.eff 2 [3] [7] rfl (by kernel_rfl) (runs_call (s := []) (t := [4]) (N := 5) (bor := []) fn34 rfl (s_quireref09_Shift k x5482 x5483 1 x5508 x5509 h5506) ⟨rfl, trivial, by decide, rfl, trivial⟩ rfl trivial (.ren rfl rfl (.ren rfl rfl .nil)) rfl ⟨trivial, rfl⟩ rfl) rfl rfl ?_
            refine WPD.takeT 6 rfl (by kernel_rfl) (q_build bu53 rfl) rfl ?_
            refine WPD.effS 7 [] [] rfl (by kernel_rfl) (s_store sz53 rfl rfl rfl rfl rfl) rfl ?_
            refine WPD.doneW (by kernel_rfl) ?_
            refine W.cv (Cv.weak (E' := ((((Env.none.upd 4 (.ptr 0 0)).upd 5 (.ptr 1 0)).upd 7 (.ptr 2 0)).upd 9 (.ptr 3 0))) (M' := ((((Mem.nil.push (.cells 53 [.lit (.bool false), .lit (.slice none 0 0), .lit (.int .i64 0)])).push (.cells 53 [.lit (.bool false), .lit (.slice none 0 0), .lit (.int .i64 0)])).push (.cells 53 [.lit (.bool x5456), .ro (Rd.slice (Rd.int .i64)) false x5457, .lit (.int .i64 x5458)])).push (.cells 53 [.lit (.bool x5508), .ro (Rd.slice (Rd.int .i64)) false x5509, .lit (.int .i64 (IntKind.wrap .i64 (x5484 - 1)))]))) [0, 1, 2, 3] hnp ⟨rfl, ⟨⟨⟨⟨trivial, .inr ⟨rfl, rfl, rfl⟩⟩, .inr ⟨rfl, rfl, rfl⟩⟩, .inr ⟨rfl, rfl, rfl⟩⟩, .inr ⟨rfl, rfl, rfl⟩⟩, by decide, rfl, trivial⟩ (LeE.upd rfl rfl (LeE.upd rfl rfl (LeE.upd rfl rfl (LeE.upd rfl rfl (LeE.none rfl rfl)))))) rfl ?_
            refine W.now ?_
            refine InBlock.n ?_
            exact Then.n ⟨n, (x5508, x5509, (IntKind.wrap .i64 (x5484 - 1))), Nat.lt_succ_self n, H, rfl, rfl⟩
          · replace H := cnf hb5499 H
            refine WP.exitW ?_
            refine W.cv (Cv.weak (E' := ((((Env.none.upd 4 (.ptr 0 0)).upd 5 (.ptr 1 0)).upd 7 (.ptr 2 0)).upd 9 (.ptr 3 0))) (M' := ((((Mem.nil.push (.cells 53 [.lit (.bool false), .lit (.slice none 0 0), .lit (.int .i64 0)])).push (.cells 53 [.lit (.bool false), .lit (.slice none 0 0), .lit (.int .i64 0)])).push (.cells 53 [.lit (.bool x5456), .ro (Rd.slice (Rd.int .i64)) false x5457, .lit (.int .i64 x5458)])).push (.cells 53 [.lit (.bool x5482), .ro (Rd.slice (Rd.int .i64)) false x5483, .lit (.int .i64 x5484)]))) [0, 1, 2, 3] hnp ⟨rfl, ⟨⟨⟨⟨trivial, .inr ⟨rfl, rfl, rfl⟩⟩, .inr ⟨rfl, rfl, rfl⟩⟩, .inr ⟨rfl, rfl, rfl⟩⟩, .inr ⟨rfl, rfl, rfl⟩⟩, by decide, rfl, trivial⟩ (LeE.upd rfl rfl (LeE.upd rfl rfl (LeE.upd rfl rfl (LeE.upd rfl rfl (LeE.none rfl rfl)))))) rfl ?_
            refine W.now ?_
            refine Then.x ?_
            refine Then.x ?_
            have q0 := (Prod.mk.inj (Option.some.inj H)).1
            have q1 := (Prod.mk.inj (Prod.mk.inj (Option.some.inj H)).2).1
            have q2 := (Prod.mk.inj (Prod.mk.inj (Option.some.inj H)).2).2
            subst q0
            subst q1
            subst q2
            exact ⟨rfl, rfl, rfl⟩
        · rintro _ _ _ ⟨rfl, rfl, rfl⟩
          refine W.now ?_
          refine InBlock.x0 ?_
          refine Then.n ?_
          refine WP.seq ?_
          refine WP.regionD' 5 [2, 3] [] mixed rfl ?_
          refine WPD.take 0 rfl (by kernel_rfl) (q_load_ag ag53 rfl rfl (Nat.le_of_ble_eq_true rfl)) rfl rfl ?_
          refine WPD.take 1 rfl (by kernel_rfl) (q_load_ag ag53 rfl rfl (Nat.le_of_ble_eq_true rfl)) rfl rfl ?_
          refine WPD.effS 2 [2, 3] [] rfl (by kernel_rfl) (s_store sz53 rfl rfl rfl rfl rfl) rfl ?_
          refine WPD.effS 3 [2, 3] [] rfl (by kernel_rfl) (s_store sz53 rfl rfl rfl rfl rfl) rfl ?_
          refine WPD.takeT 4 rfl (by kernel_rfl) (q_as (v := .lit (.bool _)) rfl) rfl ?_
          refine WPD.doneW (by kernel_rfl) ?_
          refine W.now ?_
          refine Then.n ?_
          refine WP.retW ?_
          refine W.now ?_
          have q0 := (Prod.mk.inj (Option.some.inj H)).1
          have q1 := (Prod.mk.inj (Prod.mk.inj (Option.some.inj H)).2).1
          have q2 := (Prod.mk.inj (Prod.mk.inj (Prod.mk.inj (Option.some.inj H)).2).2).1
          have q3 := (Prod.mk.inj (Prod.mk.inj (Prod.mk.inj (Prod.mk.inj (Option.some.inj H)).2).2).2).1
          have q4 := (Prod.mk.inj (Prod.mk.inj (Prod.mk.inj (Prod.mk.inj (Prod.mk.inj (Option.some.inj H)).2).2).2).2).1
          have q5 := (Prod.mk.inj (Prod.mk.inj (Prod.mk.inj (Prod.mk.inj (Prod.mk.inj (Prod.mk.inj (Option.some.inj H)).2).2).2).2).2).1
          have q6 := (Prod.mk.inj (Prod.mk.inj (Prod.mk.inj (Prod.mk.inj (Prod.mk.inj (Prod.mk.inj (Option.some.inj H)).2).2).2).2).2).2
          subst q0
          subst q1
          subst q2
          subst q3
          subst q4
          subst q5
          subst q6
          exact ⟨trivial, _, rfl, [0, 1], (.tup [.agg [.lit (.bool x5456), .ro (Rd.slice (Rd.int .i64)) false x5457, .lit (.int .i64 x5458)], .agg [.lit (.bool x5496), .ro (Rd.slice (Rd.int .i64)) false x5497, .lit (.int .i64 x5498)], .lit (.bool true)]), ((Mem.nil.push (.cells 53 [.lit (.bool x5456), .ro (Rd.slice (Rd.int .i64)) false x5457, .lit (.int .i64 x5458)])).push (.cells 53 [.lit (.bool x5496), .ro (Rd.slice (Rd.int .i64)) false x5497, .lit (.int .i64 x5498)])), ⟨rfl, ⟨⟨trivial, .inr ⟨rfl, rfl, rfl⟩⟩, .inr ⟨rfl, rfl, rfl⟩⟩, by decide, rfl, trivial⟩, rfl, rfl, rfl, rfl⟩
end Go.Proofs.Ytdbeblgfccjbgaa.W
namespace Go.Proofs.Ytdbeblgfccjbgaa.W
open Go Go.Q Go.Proofs
set_option linter.unusedVariables false
set_option linter.unusedSimpArgs false
set_option maxRecDepth 100000 in
set_option maxHeartbeats 4000000 in
theorem s_dec_clean__b (k : Nat) (x5652 : Int) (x5653 : Int) (x5679 : Bool) (x5680 : Int) (x5681 : Int) (H : g_dec_clean__b k x5652 x5653 = some (x5679, x5680, x5681)) : Go.Q.Spec Try.prog 27 2 [.sl 0 1 0 1] ((Mem.nil.push (.cells 37 [.ptr 1 0])).push (.cells 23 [.lit (.int .i64 x5652), .lit (.int .i64 x5653)])) (fun o M => o = .ret (.lit (.bool x5679)) ∧ M = ((Mem.nil.push (.cells 37 [.ptr 1 0])).push (.cells 23 [.lit (.int .i64 x5680), .lit (.int .i64 x5681)]))) := by
  unfold g_dec_clean__b at H
  refine Go.Q.Spec.of_bodyR (az := []) (rs := [.tmp 2]) (nt := 28) Try.func27 rfl rfl (by intro t T h; simp at h) rfl rfl fun cx hnp => ?_
  refine WP.seq ?_
  refine WP.region ?_
  refine WPL.q (q_as (v := .lit (.bool _)) rfl) rfl ?_
  refine WPL.nilW ?_
  refine W.now ?_
  refine Then.n ?_
  refine WP.seq ?_
  refine WP.seq ?_
  refine WP.region ?_
  refine WPL.q (q_mv (v := .sl _ _ _ _) rfl) rfl ?_
  refine WPL.q (q_len_sl (k := 1) sl81 rfl rfl) rfl ?_
  refine WPL.q (q_mv (v := .lit (.int _ _)) rfl) rfl ?_
  refine WPL.nilW ?_
  refine W.now ?_
  refine Then.n ?_
  refine WP.block ?_
  refine WP.loopU ?_
  refine WPI.round ?_
  refine WP.seq ?_
  refine WP.region ?_
  refine WPL.q (q_lss rfl rfl) rfl ?_
  refine WPL.nilW ?_
  refine W.now ?_
  refine Then.n ?_
  refine WP.seq ?_
  refine WP.condT rfl ?_
  refine WP.skipW ?_
  refine W.now ?_
  refine Then.n ?_
  refine WP.seq ?_
  refine WP.block ?_
  refine WP.seq ?_
  refine WP.region ?_
  refine WPL.q (q_index_sl (o := 0) sl81 rfl rfl rfl rfl) rfl ?_
  refine WPL.q (q_load sc37 rfl rfl rfl) rfl ?_
  refine WPL.q (q_as (v := .ptr _ _) rfl) rfl ?_
  refine WPL.nilW ?_
  refine W.now ?_
  refine Then.n ?_
  refine WP.seq ?_
  refine WP.seq ?_
  refine WP.region ?_
  refine WPL.q (q_mv (v := .ptr _ _) rfl) rfl ?_
  refine WPL.q (q_nilCheck rfl) rfl ?_
  refine WPL.q (q_load_ag ag23 rfl rfl (Nat.le_of_ble_eq_true rfl)) rfl ?_
  refine WPL.d (d_buildSlice (ds := ([(⟨x5652, x5653⟩ : S_api_Dec)] : List S_api_Dec)) (R := rdS_api_Dec) li91 rfl rfl rfl rfl rfl (JoinRows.cons (l := [.lit (.int .i64 x5652), .lit (.int .i64 x5653)]) (Joins.via (Joins.cons Joins.sc (Joins.cons Joins.sc Joins.unit))) rfl JoinRows.nil) rfl rfl) rfl ?_
  obtain ⟨x5698, h5696, H⟩ := bnd H
  refine WPL.c (runs_call (s := []) (t := []) (N := 3) (bor := [2]) fn52 rfl (s_dec_ranged k ([(⟨x5652, x5653⟩ : S_api_Dec)] : List S_api_Dec) x5698 h5696) ⟨rfl, trivial, by decide, rfl, trivial⟩ rfl ⟨trivial, rfl, rfl, trivial⟩ (.row rfl rfl .nil) rfl trivial rfl) rfl ?_
  refine WPL.q (q_not rfl) rfl ?_
  refine WPL.nilW ?_
  refine W.now ?_
  refine Then.n ?_
  refine WP.cond (t := (!x5698)) rfl (fun hb5698 => ?_) (fun hb5698 => ?_)
  · replace H := cnt hb5698 H
    refine WP.seq ?_
    refine WP.region ?_
    refine WPL.q (q_as (v := .lit (.bool _)) rfl) rfl ?_
    refine WPL.nilW ?_
    refine W.now ?_
    refine Then.n ?_
    refine WP.retW ?_
    refine W.now ?_
    refine Then.r ?_
    refine InBlock.r ?_
    refine Then.r ?_
    refine Then.r ?_
    refine InBlock.r ?_
    refine Then.r ?_
    have q0 := (Prod.mk.inj (Option.some.inj H)).1
    have q1 := (Prod.mk.inj (Prod.mk.inj (Option.some.inj H)).2).1
    have q2 := (Prod.mk.inj (Prod.mk.inj (Option.some.inj H)).2).2
    subst q0
    subst q1
    subst q2
    exact ⟨trivial, _, rfl, [0, 1], (.lit (.bool false)), ((Mem.nil.push (.cells 37 [.ptr 1 0])).push (.cells 23 [.lit (.int .i64 x5652), .lit (.int .i64 x5653)])), ⟨rfl, ⟨⟨trivial, .inr ⟨rfl, rfl, rfl⟩⟩, .inr ⟨rfl, rfl, rfl⟩⟩, by decide, rfl, ⟨⟨trivial, rfl⟩, rfl⟩⟩, rfl, rfl, rfl, rfl⟩
  · replace H := cnf hb5698 H
    refine WP.skipW ?_
    refine W.now ?_
    refine Then.n ?_
    refine WP.region ?_
    refine WPL.q (q_mv (v := .ptr _ _) rfl) rfl ?_
    refine WPL.q (q_mv (v := .ptr _ _) rfl) rfl ?_
    refine WPL.q (q_nilCheck rfl) rfl ?_
    refine WPL.q (q_load_ag ag23 rfl rfl (Nat.le_of_ble_eq_true rfl)) rfl ?_
    obtain ⟨x5701, h5699, H⟩ := bnd H
    refine WPL.c (runs_call (s := []) (t := [3]) (N := 4) (bor := []) fn38 rfl (s_dec_of k x5652 x5653 x5701 h5699) ⟨rfl, trivial, by decide, rfl, trivial⟩ rfl trivial (.ren rfl rfl .nil) rfl ⟨trivial, rfl⟩ rfl) rfl ?_
    obtain ⟨⟨x5703, x5704, x5705⟩, h5701, H⟩ := bnd H
    refine WPL.c (runs_call (s := []) (t := [4]) (N := 5) (bor := []) fn31 rfl (s_dec_num_tell k (decide (x5652 < 0)) 0 x5701 x5653 x5703 x5704 x5705 h5701) ⟨rfl, trivial, by decide, rfl, trivial⟩ rfl trivial (.ren rfl rfl .nil) rfl ⟨trivial, rfl⟩ rfl) rfl ?_
    refine WPL.q (q_mv (v := .tup _) rfl) rfl ?_
    refine WPL.q (q_extract rfl rfl) rfl ?_
    refine WPL.q (q_extract rfl rfl) rfl ?_
    refine WPL.q (q_nilCheck rfl) rfl ?_
    refine WPL.s (s_store sz23 rfl rfl rfl rfl rfl) ?_
    refine WPL.nilW ?_
    refine W.now ?_
    refine InBlock.n ?_
    refine Then.n ?_
    refine WP.region ?_
    refine WPL.q (q_nm (q_add rfl rfl) (fold_int (b := 1) (by decide))) rfl ?_
    refine WPL.q (q_mv (v := .lit (.int _ _)) rfl) rfl ?_
    refine WPL.nilW ?_
    refine W.now ?_
    refine Then.n ?_
    refine WPI.round ?_
    refine WP.seq ?_
    refine WP.region ?_
    refine WPL.q (q_lss rfl rfl) rfl ?_
    refine WPL.nilW ?_
    refine W.now ?_
    refine Then.n ?_
    refine WP.seq ?_
    refine WP.condF rfl ?_
    refine WP.exitW ?_
    refine W.now ?_
    refine Then.x ?_
    refine Then.x ?_
    refine InBlock.x0 ?_
    refine Then.n ?_
    refine WP.seq ?_
    refine WP.region ?_
    refine WPL.q (q_as (v := .lit (.bool _)) rfl) rfl ?_
    refine WPL.nilW ?_
    refine W.now ?_
    refine Then.n ?_
    refine WP.retW ?_
    refine W.now ?_
    have q0 := (Prod.mk.inj (Option.some.inj H)).1
    have q1 := (Prod.mk.inj (Prod.mk.inj (Option.some.inj H)).2).1
    have q2 := (Prod.mk.inj (Prod.mk.inj (Option.some.inj H)).2).2
    subst q0
    subst q1
    subst q2
    exact ⟨trivial, _, rfl, [0, 1], (.lit (.bool true)), ((Mem.nil.push (.cells 37 [.ptr 1 0])).push (.cells 23 [.lit (.int .i64 x5704), .lit (.int .i64 x5705)])), ⟨rfl, ⟨⟨trivial, .inr ⟨rfl, rfl, rfl⟩⟩, .inr ⟨rfl, rfl, rfl⟩⟩, by decide, rfl, ⟨⟨trivial, rfl⟩, rfl⟩⟩, rfl, rfl, rfl, rfl⟩
set_option maxRecDepth 100000 in
set_option maxHeartbeats 4000000 in
theorem s_dec_Mul (k : Nat) (x5987 : Int) (x5988 : Int) (x5989 : Int) (x5990 : Int) (x6023 : Int) (x6024 : Int) (x6025 : Int) (H : g_dec_Mul k x5987 x5988 x5989 x5990 = some (x6023, x6024, x6025)) : Go.Q.Spec Try.prog 20 0 [.agg [.lit (.int .i64 x5987), .lit (.int .i64 x5988)], .agg [.lit (.int .i64 x5989), .lit (.int .i64 x5990)]] Mem.nil (fun o M => o = .ret (.tup [.agg [.lit (.int .i64 x6024), .lit (.int .i64 x6025)], .lit (.int .i64 x6023)]) ∧ M = (Mem.nil.push (.cells 23 [.lit (.int .i64 x6024), .lit (.int .i64 x6025)]))) := by
  unfold g_dec_Mul at H
  refine Go.Q.Spec.of_bodyR (az := [(23, 2)]) (rs := [.cell 4 23, .tmp 5]) (nt := 41) Try.func20 rfl rfl (by intro t T h; simp at h; rcases h with ⟨rfl, rfl⟩ <;> first | exact ag23) rfl rfl fun cx hnp => ?_
  refine WP.seq ?_
  refine WP.region ?_
  refine WPL.d (d_box rfl rfl) rfl ?_
  refine WPL.d (d_box rfl rfl) rfl ?_
  refine WPL.d (d_alloc ze23 rfl) rfl ?_
  refine WPL.q (q_as (v := .lit (.int _ _)) rfl) rfl ?_
  refine WPL.nilW ?_
  refine W.now ?_
  refine Then.n ?_
  refine WP.seq ?_
  refine WP.seq ?_
  refine WP.region ?_
  refine WPL.d (d_buildCells li81 rfl rfl rfl rfl rfl) rfl ?_
  obtain ⟨⟨x6034, x6035, x6036, x6037, x6038⟩, h6032, H⟩ := bnd H
  refine WPL.c (runs_call (s := [3, 0, 1]) (t := [3, 0, 1]) (N := 4) (bor := []) fn27 rfl (s_dec_clean k x5987 x5988 x5989 x5990 x6034 x6035 x6036 x6037 x6038 h6032) ⟨rfl, ⟨⟨⟨trivial, .inr ⟨rfl, rfl, rfl⟩⟩, .inr ⟨rfl, rfl, rfl⟩⟩, .inr ⟨rfl, rfl, rfl⟩⟩, by decide, rfl, trivial⟩ rfl trivial (.ren rfl rfl .nil) rfl ⟨⟨⟨trivial, rfl⟩, rfl⟩, rfl⟩ rfl) rfl ?_
  refine WPL.q (q_not rfl) rfl ?_
  refine WPL.nilW ?_
  refine W.now ?_
  refine Then.n ?_
  refine WP.cond (t := (!x6034)) rfl (fun hb6038 => ?_) (fun hb6038 => ?_)
  · replace H := cnt hb6038 H
    refine WP.seq ?_
    refine WP.region ?_
    refine WPL.q (q_build bu23 rfl) rfl ?_
    refine WPL.s (s_store sz23 rfl rfl rfl rfl rfl) ?_
    refine WPL.q (q_as (v := .lit (.int _ _)) rfl) rfl ?_
    refine WPL.nilW ?_
    refine W.now ?_
    refine Then.n ?_
    refine WP.retW ?_
    refine W.now ?_
    refine Then.r ?_
    have q0 := (Prod.mk.inj (Option.some.inj H)).1
    have q1 := (Prod.mk.inj (Prod.mk.inj (Option.some.inj H)).2).1
    have q2 := (Prod.mk.inj (Prod.mk.inj (Option.some.inj H)).2).2
    subst q0
    subst q1
    subst q2
    exact ⟨trivial, _, rfl, [2], (.tup [.agg [.lit (.int .i64 0), .lit (.int .i64 0)], .lit (.int .i64 1)]), (Mem.nil.push (.cells 23 [.lit (.int .i64 0), .lit (.int .i64 0)])), ⟨rfl, ⟨trivial, .inr ⟨rfl, rfl, rfl⟩⟩, by decide, rfl, trivial⟩, rfl, rfl, rfl, rfl⟩
  · replace H := cnf hb6038 H
    refine WP.skipW ?_
    refine W.now ?_
    refine Then.n ?_
    refine WP.seq ?_
    refine WP.regionD' 12 [0, 1] [] mixed rfl ?_
    refine WPD.takeT 0 rfl (by kernel_rfl) (q_fieldAddr fi23_0 rfl rfl) rfl ?_
    refine WPD.takeT 3 rfl (by kernel_rfl) (q_fieldAddr fi23_0 rfl rfl) rfl ?_
    refine WPD.take 1 rfl (by kernel_rfl) (q_load sc2 rfl rfl rfl) rfl rfl ?_
    refine WPD.take 4 rfl (by kernel_rfl) (q_load sc2 rfl rfl rfl) rfl rfl ?_
    obtain ⟨x6047, h6045, H⟩ := bnd H
    refine WPD.eff 2 [0, 1] [] rfl (by kernel_rfl) (runs_call (s := []) (t := []) (N := 4) (bor := []) fn28 rfl (s_dec_size k x6035 x6047 h6045) ⟨rfl, trivial, by decide, rfl, trivial⟩ rfl trivial (.ren rfl rfl .nil) rfl trivial rfl) rfl rfl ?_
    obtain ⟨x6049, h6047, H⟩ := bnd H
    refine WPD.eff 5 [0, 1] [] rfl (by kernel_rfl) (runs_call (s := []) (t := []) (N := 4) (bor := []) fn28 rfl (s_dec_size k x6037 x6049 h6047) ⟨rfl, trivial, by decide, rfl, trivial⟩ rfl trivial (.ren rfl rfl .nil) rfl trivial rfl) rfl rfl ?_
    obtain ⟨x6051, h6049, H⟩ := bnd H
    refine WPD.eff 6 [0, 1] [] rfl (by kernel_rfl) (runs_call (s := []) (t := []) (N := 4) (bor := []) fn53 rfl (s_math_bits_Mul64 k x6047 x6049 x6051 h6049) ⟨rfl, trivial, by decide, rfl, trivial⟩ rfl trivial (.ren rfl rfl (.ren rfl rfl .nil)) rfl trivial rfl) rfl rfl ?_
    refine WPD.takeT 7 rfl (by kernel_rfl) (q_mv (v := .tup _) rfl) rfl ?_
    refine WPD.takeT 8 rfl (by kernel_rfl) (q_extract rfl rfl) rfl ?_
    refine WPD.takeT 9 rfl (by kernel_rfl) (q_extract rfl rfl) rfl ?_
    refine WPD.takeT 10 rfl (by kernel_rfl) (q_as (v := .lit (.int _ _)) rfl) rfl ?_
    refine WPD.takeT 11 rfl (by kernel_rfl) (q_as (v := .lit (.int _ _)) rfl) rfl ?_
    refine WPD.doneW (by kernel_rfl) ?_
    refine W.now ?_
    refine Then.n ?_
    refine WP.seq ?_
    refine WP.region ?_
    refine WPL.q (q_fieldAddr fi23_0 rfl rfl) rfl ?_
    refine WPL.q (q_load sc2 rfl rfl rfl) rfl ?_
    refine WPL.q (q_lss rfl rfl) rfl ?_
    refine WPL.q (q_fieldAddr fi23_0 rfl rfl) rfl ?_
    refine WPL.q (q_load sc2 rfl rfl rfl) rfl ?_
    refine WPL.q (q_lss rfl rfl) rfl ?_
    obtain ⟨x6052, h6052, H⟩ := bnd H
    refine WPL.q (q_nm (q_neqb Try.underlying4 rfl rfl) (nm_bool h6052)) rfl ?_
    refine WPL.q (q_mv (v := .lit (.int _ _)) rfl) rfl ?_
    refine WPL.q (q_mv (v := .lit (.int _ _)) rfl) rfl ?_
    refine WPL.q (q_build bu43 rfl) rfl ?_
    refine WPL.q (q_fieldAddr fi23_1 rfl rfl) rfl ?_
    refine WPL.q (q_load sc3 rfl rfl rfl) rfl ?_
    refine WPL.q (q_fieldAddr fi23_1 rfl rfl) rfl ?_
    refine WPL.q (q_load sc3 rfl rfl rfl) rfl ?_
    refine WPL.q (q_add rfl rfl) rfl ?_
    refine WPL.q (q_build bu47 rfl) rfl ?_
    obtain ⟨⟨x6054, x6055, x6056⟩, h6052, H⟩ := bnd H
    refine WPL.c (runs_call (s := []) (t := [4]) (N := 5) (bor := []) fn31 rfl (s_dec_num_tell k x6052 x6051 (IntKind.wrap .u64 (x6047 * x6049)) (IntKind.wrap .i64 (x6036 + x6038)) x6054 x6055 x6056 h6052) ⟨rfl, trivial, by decide, rfl, trivial⟩ rfl trivial (.ren rfl rfl .nil) rfl ⟨trivial, rfl⟩ rfl) rfl ?_
    refine WPL.q (q_extract rfl rfl) rfl ?_
    refine WPL.q (q_extract rfl rfl) rfl ?_
    refine WPL.s (s_store sz23 rfl rfl rfl rfl rfl) ?_
    refine WPL.q (q_as (v := .lit (.int _ _)) rfl) rfl ?_
    refine WPL.nilW ?_
    refine W.now ?_
    refine Then.n ?_
    refine WP.retW ?_
    refine W.now ?_
    have q0 := (Prod.mk.inj (Option.some.inj H)).1
    have q1 := (Prod.mk.inj (Prod.mk.inj (Option.some.inj H)).2).1
    have q2 := (Prod.mk.inj (Prod.mk.inj (Option.some.inj H)).2).2
    subst q0
    subst q1
    subst q2
    exact ⟨trivial, _, rfl, [2], (.tup [.agg [.lit (.int .i64 x6055), .lit (.int .i64 x6056)], .lit (.int .i64 x6054)]), (Mem.nil.push (.cells 23 [.lit (.int .i64 x6055), .lit (.int .i64 x6056)])), ⟨rfl, ⟨trivial, .inr ⟨rfl, rfl, rfl⟩⟩, by decide, rfl, trivial⟩, rfl, rfl, rfl, rfl⟩
end Go.Proofs.Ytdbeblgfccjbgaa.W
namespace Go.Proofs.Ytdbeblgfccjbgaa.W
open Go Go.Q Go.Proofs
set_option linter.unusedVariables false
set_option linter.unusedSimpArgs false
set_option maxRecDepth 100000 in
set_option maxHeartbeats 4000000 in
theorem s_quireref09_Times (k : Nat) (x6705 : Bool) (x6706 : (List Int)) (x6707 : Bool) (x6708 : (List Int)) (x6915 : Bool) (x6916 : (List Int)) (H : g_quireref09_Times k x6705 x6706 x6707 x6708 = some (x6915, x6916)) : Go.Q.Spec Try.prog 44 0 [.agg [.lit (.bool x6705), .ro (Rd.slice (Rd.int .i64)) false x6706], .agg [.lit (.bool x6707), .ro (Rd.slice (Rd.int .i64)) false x6708]] Mem.nil (fun o M => o = .ret (.agg [.lit (.bool x6915), .ro (Rd.slice (Rd.int .i64)) false x6916]) ∧ M = (Mem.nil.push (.cells 51 [.lit (.bool x6915), .ro (Rd.slice (Rd.int .i64)) false x6916]))) := by
  unfold g_quireref09_Times at H
  refine Go.Q.Spec.of_bodyR (az := [(51, 2)]) (rs := [.cell 4 51]) (nt := 93) Try.func44 rfl rfl (by intro t T h; simp at h; rcases h with ⟨rfl, rfl⟩ <;> first | exact ag51) rfl rfl fun cx hnp => ?_
  refine WP.seq ?_
  refine WP.region ?_
  refine WPL.d (d_box rfl rfl) rfl ?_
  refine WPL.d (d_box rfl rfl) rfl ?_
  refine WPL.d (d_alloc ze51 rfl) rfl ?_
  refine WPL.nilW ?_
  refine W.now ?_
  refine Then.n ?_
  refine WP.seq ?_
  refine WP.region ?_
  refine WPL.q (q_fieldAddr fi51_1 rfl rfl) rfl ?_
  refine WPL.q (q_load sc49 rfl rfl rfl) rfl ?_
  refine WPL.q (q_len_ro sl49 rfl) rfl ?_
  refine WPL.q (q_fieldAddr fi51_1 rfl rfl) rfl ?_
  refine WPL.q (q_load sc49 rfl rfl rfl) rfl ?_
  refine WPL.q (q_len_ro sl49 rfl) rfl ?_
  obtain ⟨x6917, h6917, H⟩ := bnd H
  refine WPL.q (q_nm (q_add rfl rfl) (nm_int h6917)) rfl ?_
  refine WPL.q (q_add rfl rfl) rfl ?_
  obtain ⟨h6917, H⟩ := grd H
  refine WPL.d (d_make (d := (0 : Int)) (R := (Rd.int .i64)) li49 by3 rfl rfl rfl Joins.sc rfl rfl h6917 rfl) rfl ?_
  refine WPL.q (q_as (v := .whole _) rfl) rfl ?_
  refine WPL.nilW ?_
  refine W.now ?_
  refine Then.n ?_
  refine WP.seq ?_
  refine WP.seq ?_
  refine WP.region ?_
  refine WPL.q (q_as (v := .lit (.int _ _)) rfl) rfl ?_
  refine WPL.nilW ?_
  refine W.now ?_
  refine Then.n ?_
  refine WP.block ?_
  refine WP.cv (Cv.weak (E' := (((((Env.none.upd 2 (.ptr 0 0)).upd 3 (.ptr 1 0)).upd 4 (.ptr 2 0)).upd 5 (.whole 3)).upd 6 (.lit (.int .i64 0)))) (M' := ((((Mem.nil.push (.cells 51 [.lit (.bool x6705), .ro (Rd.slice (Rd.int .i64)) false x6706])).push (.cells 51 [.lit (.bool x6707), .ro (Rd.slice (Rd.int .i64)) false x6708])).push (.cells 51 [.lit (.bool false), .lit (.slice none 0 0)])).push (.row 3 (Rd.int .i64) (List.replicate (Int.toNat (IntKind.wrap .i64 (x6917 + 1))) (0 : Int))))) [0, 1, 2, 3] hnp ⟨rfl, ⟨⟨⟨⟨trivial, .inr ⟨rfl, rfl, rfl⟩⟩, .inr ⟨rfl, rfl, rfl⟩⟩, .inr ⟨rfl, rfl, rfl⟩⟩, .inr ⟨rfl, rfl, rfl⟩⟩, by decide, rfl, trivial⟩ (LeE.upd rfl rfl (LeE.upd rfl rfl (LeE.upd rfl rfl (LeE.upd rfl rfl (LeE.upd rfl rfl (LeE.none rfl rfl))))))) ?_
  obtain ⟨x7117, H7258, H⟩ := bnd H
  refine WP.monoW (Q := fun x E M => x = .exit 0 ∧ E = ((((Env.none.upd 2 (.ptr 0 0)).upd 3 (.ptr 1 0)).upd 4 (.ptr 2 0)).upd 5 (.whole 3)) ∧ M = ((((Mem.nil.push (.cells 51 [.lit (.bool x6705), .ro (Rd.slice (Rd.int .i64)) false x6706])).push (.cells 51 [.lit (.bool x6707), .ro (Rd.slice (Rd.int .i64)) false x6708])).push (.cells 51 [.lit (.bool false), .lit (.slice none 0 0)])).push (.row 3 (Rd.int .i64) x7117))) ?_ ?_
  · refine WP.loop (β := Int × (List Int)) (fun n b => g_quireref09_Times_l0 k x6706 x6708 n b.1 b.2 = some x7117) (fun b => (((((Env.none.upd 2 (.ptr 0 0)).upd 3 (.ptr 1 0)).upd 4 (.ptr 2 0)).upd 5 (.whole 3)).upd 6 (.lit (.int .i64 b.1)))) (fun b => ((((Mem.nil.push (.cells 51 [.lit (.bool x6705), .ro (Rd.slice (Rd.int .i64)) false x6706])).push (.cells 51 [.lit (.bool x6707), .ro (Rd.slice (Rd.int .i64)) false x6708])).push (.cells 51 [.lit (.bool false), .lit (.slice none 0 0)])).push (.row 3 (Rd.int .i64) b.2))) k (0, (List.replicate (Int.toNat (IntKind.wrap .i64 (x6917 + 1))) (0 : Int))) H7258 rfl rfl ?_
    rintro n ⟨x7017, x7018⟩ H
    obtain _ | n := n
    · exact nf rfl H
    rw [g_quireref09_Times_l0.eq_2] at H
    show WP _ _ _ _ (((((Env.none.upd 2 (.ptr 0 0)).upd 3 (.ptr 1 0)).upd 4 (.ptr 2 0)).upd 5 (.whole 3)).upd 6 (.lit (.int .i64 x7017))) ((((Mem.nil.push (.cells 51 [.lit (.bool x6705), .ro (Rd.slice (Rd.int .i64)) false x6706])).push (.cells 51 [.lit (.bool x6707), .ro (Rd.slice (Rd.int .i64)) false x6708])).push (.cells 51 [.lit (.bool false), .lit (.slice none 0 0)])).push (.row 3 (Rd.int .i64) x7018)) _
    refine WP.seq ?_
    refine WP.seq ?_
    refine WP.region ?_
    refine WPL.q (q_mv (v := .lit (.int _ _)) rfl) rfl ?_
    refine WPL.q (q_fieldAddr fi51_1 rfl rfl) rfl ?_
    refine WPL.q (q_load sc49 rfl rfl rfl) rfl ?_
    refine WPL.q (q_len_ro sl49 rfl) rfl ?_
    obtain ⟨x7120, h7120, H⟩ := bnd H
    refine WPL.q (q_nm (q_lss rfl rfl) (nm_bool h7120)) rfl ?_
    refine WPL.nilW ?_
    refine W.now ?_
    refine Then.n ?_
    refine WP.cond (t := x7120) rfl (fun hb7120 => ?_) (fun hb7120 => ?_)
    · replace H := cnt hb7120 H
      refine WP.skipW ?_
      refine W.now ?_
      refine Then.n ?_
      refine WP.seq ?_
      refine WP.block ?_
      refine WP.seq ?_
      refine WP.seq ?_
      refine WP.region ?_
      refine WPL.q (q_as (v := .lit (.int _ _)) rfl) rfl ?_
      refine WPL.nilW ?_
      refine W.now ?_
      refine Then.n ?_
      refine WP.block ?_
      refine WP.cv (Cv.weak (E' := ((((((Env.none.upd 2 (.ptr 0 0)).upd 3 (.ptr 1 0)).upd 4 (.ptr 2 0)).upd 5 (.whole 3)).upd 6 (.lit (.int .i64 x7017))).upd 7 (.lit (.int .i64 0)))) (M' := ((((Mem.nil.push (.cells 51 [.lit (.bool x6705), .ro (Rd.slice (Rd.int .i64)) false x6706])).push (.cells 51 [.lit (.bool x6707), .ro (Rd.slice (Rd.int .i64)) false x6708])).push (.cells 51 [.lit (.bool false), .lit (.slice none 0 0)])).push (.row 3 (Rd.int .i64) x7018))) [0, 1, 2, 3] hnp ⟨rfl, ⟨⟨⟨⟨trivial, .inr ⟨rfl, rfl, rfl⟩⟩, .inr ⟨rfl, rfl, rfl⟩⟩, .inr ⟨rfl, rfl, rfl⟩⟩, .inr ⟨rfl, rfl, rfl⟩⟩, by decide, rfl, trivial⟩ (LeE.upd rfl rfl (LeE.upd rfl rfl (LeE.upd rfl rfl (LeE.upd rfl rfl (LeE.upd rfl rfl (LeE.upd rfl rfl (LeE.none rfl rfl)))))))) ?_
      obtain ⟨x7170, H7193, H⟩ := bnd H
      refine WP.monoW (Q := fun x E M => x = .exit 2 ∧ E = (((((Env.none.upd 2 (.ptr 0 0)).upd 3 (.ptr 1 0)).upd 4 (.ptr 2 0)).upd 5 (.whole 3)).upd 6 (.lit (.int .i64 x7017))) ∧ M = ((((Mem.nil.push (.cells 51 [.lit (.bool x6705), .ro (Rd.slice (Rd.int .i64)) false x6706])).push (.cells 51 [.lit (.bool x6707), .ro (Rd.slice (Rd.int .i64)) false x6708])).push (.cells 51 [.lit (.bool false), .lit (.slice none 0 0)])).push (.row 3 (Rd.int .i64) x7170))) ?_ ?_
      · refine WP.loop (β := Int × (List Int)) (fun n b => g_quireref09_Times_l1 k x6706 x6708 x7017 n b.1 b.2 = some x7170) (fun b => ((((((Env.none.upd 2 (.ptr 0 0)).upd 3 (.ptr 1 0)).upd 4 (.ptr 2 0)).upd 5 (.whole 3)).upd 6 (.lit (.int .i64 x7017))).upd 7 (.lit (.int .i64 b.1)))) (fun b => ((((Mem.nil.push (.cells 51 [.lit (.bool x6705), .ro (Rd.slice (Rd.int .i64)) false x6706])).push (.cells 51 [.lit (.bool x6707), .ro (Rd.slice (Rd.int .i64)) false x6708])).push (.cells 51 [.lit (.bool false), .lit (.slice none 0 0)])).push (.row 3 (Rd.int .i64) b.2))) k (0, x7018) H7193 rfl rfl ?_
        rintro n ⟨x7145, x7146⟩ H
        obtain _ | n := n
        · exact nf rfl H
        rw [g_quireref09_Times_l1.eq_2] at H
        show WP _ _ _ _ ((((((Env.none.upd 2 (.ptr 0 0)).upd 3 (.ptr 1 0)).upd 4 (.ptr 2 0)).upd 5 (.whole 3)).upd 6 (.lit (.int .i64 x7017))).upd 7 (.lit (.int .i64 x7145))) ((((Mem.nil.push (.cells 51 [.lit (.bool x6705), .ro (Rd.slice (Rd.int .i64)) false x6706])).push (.cells 51 [.lit (.bool x6707), .ro (Rd.slice (Rd.int .i64)) false x6708])).push (.cells 51 [.lit (.bool false), .lit (.slice none 0 0)])).push (.row 3 (Rd.int .i64) x7146)) _
        refine WP.seq ?_
        refine WP.seq ?_
        refine WP.region ?_
        refine WPL.q (q_mv (v := .lit (.int _ _)) rfl) rfl ?_
        refine WPL.q (q_fieldAddr fi51_1 rfl rfl) rfl ?_
        refine WPL.q (q_load sc49 rfl rfl rfl) rfl ?_
        refine WPL.q (q_len_ro sl49 rfl) rfl ?_
        obtain ⟨x7173, h7173, H⟩ := bnd H
        refine WPL.q (q_nm (q_lss rfl rfl) (nm_bool h7173)) rfl ?_
        refine WPL.nilW ?_
        refine W.now ?_
        refine Then.n ?_
        refine WP.cond (t := x7173) rfl (fun hb7173 => ?_) (fun hb7173 => ?_)
        · replace H := cnt hb7173 H
          refine WP.skipW ?_
          refine W.now ?_
          refine Then.n ?_
          refine WP.seq ?_
          refine WP.block ?_
          refine WP.regionD' 24 [0, 1, 3] [23] mixed rfl ?_
          refine WPD.takeT 0 rfl (by kernel_rfl) (q_mv (v := .whole _) rfl) rfl ?_
          refine WPD.takeT 1 rfl (by kernel_rfl) (q_mv (v := .lit (.int _ _)) rfl) rfl ?_
          refine WPD.takeT 2 rfl (by kernel_rfl) (q_mv (v := .lit (.int _ _)) rfl) rfl ?_
          refine WPD.takeT 3 rfl (by kernel_rfl) (q_add rfl rfl) rfl ?_
          refine WPD.takeT 4 rfl (by kernel_rfl) (q_mv (v := .whole _) rfl) rfl ?_
          refine WPD.takeT 5 rfl (by kernel_rfl) (q_mv (v := .lit (.int _ _)) rfl) rfl ?_
          refine WPD.takeT 6 rfl (by kernel_rfl) (q_mv (v := .lit (.int _ _)) rfl) rfl ?_
          refine WPD.takeT 7 rfl (by kernel_rfl) (q_add rfl rfl) rfl ?_
          obtain ⟨x7189, h7189, H⟩ := bnd H
          refine WPD.takeT 8 rfl (by kernel_rfl) (q_index_row sl49 rfl rfl rfl (ixs h7189)) rfl ?_
          refine WPD.takeT 10 rfl (by kernel_rfl) (q_fieldAddr fi51_1 rfl rfl) rfl ?_
          refine WPD.takeT 12 rfl (by kernel_rfl) (q_mv (v := .lit (.int _ _)) rfl) rfl ?_
          refine WPD.takeT 15 rfl (by kernel_rfl) (q_fieldAddr fi51_1 rfl rfl) rfl ?_
          refine WPD.takeT 17 rfl (by kernel_rfl) (q_mv (v := .lit (.int _ _)) rfl) rfl ?_
          refine WPD.take 9 rfl (by kernel_rfl) (q_load_row (j := (Int.toNat (IntKind.wrap .i64 (x7017 + x7145)))) sc3 rfl rfl (ixj h7189)) rfl rfl ?_
          refine WPD.take 11 rfl (by kernel_rfl) (q_load sc49 rfl rfl rfl) rfl rfl ?_
          obtain ⟨x7190, h7190, H⟩ := bnd H
          refine WPD.takeT 13 rfl (by kernel_rfl) (q_index_ro sl49 rfl rfl rfl h7190) rfl ?_
          refine WPD.takeT 14 rfl (by kernel_rfl) (q_load_sc sc3 rfl) rfl ?_
          refine WPD.take 16 rfl (by kernel_rfl) (q_load sc49 rfl rfl rfl) rfl rfl ?_
          obtain ⟨x7191, h7191, H⟩ := bnd H
          refine WPD.takeT 18 rfl (by kernel_rfl) (q_index_ro sl49 rfl rfl rfl h7191) rfl ?_
          refine WPD.takeT 19 rfl (by kernel_rfl) (q_load_sc sc3 rfl) rfl ?_
          refine WPD.takeT 20 rfl (by kernel_rfl) (q_mul rfl rfl) rfl ?_
          obtain ⟨x7192, h7192, H⟩ := bnd H
          refine WPD.takeT 21 rfl (by kernel_rfl) (q_nm (q_add rfl rfl) (nm_int h7192)) rfl ?_
          obtain ⟨x7193, h7193, H⟩ := bnd H
          refine WPD.takeT 22 rfl (by kernel_rfl) (q_index_row sl49 rfl rfl rfl (ixs h7193)) rfl ?_
          refine WPD.effS 23 [] [] rfl (by kernel_rfl) (s_store_row (j := (Int.toNat (IntKind.wrap .i64 (x7017 + x7145)))) (d := x7192) sz3 rfl rfl rfl rfl Joins.sc (ixl h7193)) rfl ?_
          refine WPD.doneW (by kernel_rfl) ?_
          refine W.now ?_
          refine InBlock.n ?_
          refine Then.n ?_
          refine WP.region ?_
          refine WPL.q (q_mv (v := .lit (.int _ _)) rfl) rfl ?_
          refine WPL.q (q_add rfl rfl) rfl ?_
          refine WPL.q (q_as (v := .lit (.int _ _)) rfl) rfl ?_
          refine WPL.nilW ?_
          refine W.cv (Cv.weak (E' := ((((((Env.none.upd 2 (.ptr 0 0)).upd 3 (.ptr 1 0)).upd 4 (.ptr 2 0)).upd 5 (.whole 3)).upd 6 (.lit (.int .i64 x7017))).upd 7 (.lit (.int .i64 (IntKind.wrap .i64 (x7145 + 1)))))) (M' := ((((Mem.nil.push (.cells 51 [.lit (.bool x6705), .ro (Rd.slice (Rd.int .i64)) false x6706])).push (.cells 51 [.lit (.bool x6707), .ro (Rd.slice (Rd.int .i64)) false x6708])).push (.cells 51 [.lit (.bool false), .lit (.slice none 0 0)])).push (.row 3 (Rd.int .i64) (List.set x7146 (Int.toNat (IntKind.wrap .i64 (x7017 + x7145))) x7192)))) [0, 1, 2, 3] hnp ⟨rfl, ⟨⟨⟨⟨trivial, .inr ⟨rfl, rfl, rfl⟩⟩, .inr ⟨rfl, rfl, rfl⟩⟩, .inr ⟨rfl, rfl, rfl⟩⟩, .inr ⟨rfl, rfl, rfl⟩⟩, by decide, rfl, trivial⟩ (LeE.upd rfl rfl (LeE.upd rfl rfl (LeE.upd rfl rfl (LeE.upd rfl rfl (LeE.upd rfl rfl (LeE.upd rfl rfl (LeE.none rfl rfl)))))))) rfl ?_
          refine W.now ?_
          exact Then.n ⟨n, ((IntKind.wrap .i64 (x7145 + 1)), (List.set x7146 (Int.toNat (IntKind.wrap .i64 (x7017 + x7145))) x7192)), Nat.lt_succ_self n, H, rfl, rfl⟩
        · replace H := cnf hb7173 H
          refine WP.exitW ?_
          refine W.cv (Cv.weak (E' := (((((Env.none.upd 2 (.ptr 0 0)).upd 3 (.ptr 1 0)).upd 4 (.ptr 2 0)).upd 5 (.whole 3)).upd 6 (.lit (.int .i64 x7017)))) (M' := ((((Mem.nil.push (.cells 51 [.lit (.bool x6705), .ro (Rd.slice (Rd.int .i64)) false x6706])).push (.cells 51 [.lit (.bool x6707), .ro (Rd.slice (Rd.int .i64)) false x6708])).push (.cells 51 [.lit (.bool false), .lit (.slice none 0 0)])).push (.row 3 (Rd.int .i64) x7146))) [0, 1, 2, 3] hnp ⟨rfl, ⟨⟨⟨⟨trivial, .inr ⟨rfl, rfl, rfl⟩⟩, .inr ⟨rfl, rfl, rfl⟩⟩, .inr ⟨rfl, rfl, rfl⟩⟩, .inr ⟨rfl, rfl, rfl⟩⟩, by decide, rfl, trivial⟩ (LeE.upd rfl rfl (LeE.upd rfl rfl (LeE.upd rfl rfl (LeE.upd rfl rfl (LeE.upd rfl rfl (LeE.none rfl rfl))))))) rfl ?_
          refine W.now ?_
          refine Then.x ?_
          refine Then.x ?_
          have q0 := (Option.some.inj H)
          subst q0
          exact ⟨rfl, rfl, rfl⟩
      · rintro _ _ _ ⟨rfl, rfl, rfl⟩
        refine W.now ?_
        refine InBlock.x0 ?_
        refine Then.n ?_
        refine WP.seq ?_
        refine WP.region ?_
        refine WPL.q (q_as (v := .lit (.int _ _)) rfl) rfl ?_
        refine WPL.nilW ?_
        refine W.now ?_
        refine Then.n ?_
        refine WP.block ?_
        refine WP.cv (Cv.weak (E' := ((((((Env.none.upd 2 (.ptr 0 0)).upd 3 (.ptr 1 0)).upd 4 (.ptr 2 0)).upd 5 (.whole 3)).upd 6 (.lit (.int .i64 x7017))).upd 8 (.lit (.int .i64 0)))) (M' := ((((Mem.nil.push (.cells 51 [.lit (.bool x6705), .ro (Rd.slice (Rd.int .i64)) false x6706])).push (.cells 51 [.lit (.bool x6707), .ro (Rd.slice (Rd.int .i64)) false x6708])).push (.cells 51 [.lit (.bool false), .lit (.slice none 0 0)])).push (.row 3 (Rd.int .i64) x7170))) [0, 1, 2, 3] hnp ⟨rfl, ⟨⟨⟨⟨trivial, .inr ⟨rfl, rfl, rfl⟩⟩, .inr ⟨rfl, rfl, rfl⟩⟩, .inr ⟨rfl, rfl, rfl⟩⟩, .inr ⟨rfl, rfl, rfl⟩⟩, by decide, rfl, trivial⟩ (LeE.upd rfl rfl (LeE.upd rfl rfl (LeE.upd rfl rfl (LeE.upd rfl rfl (LeE.upd rfl rfl (LeE.upd rfl rfl (LeE.none rfl rfl)))))))) ?_
        obtain ⟨x7237, H7257, H⟩ := bnd H
        refine WP.monoW (Q := fun x E M => x = .exit 4 ∧ E = (((((Env.none.upd 2 (.ptr 0 0)).upd 3 (.ptr 1 0)).upd 4 (.ptr 2 0)).upd 5 (.whole 3)).upd 6 (.lit (.int .i64 x7017))) ∧ M = ((((Mem.nil.push (.cells 51 [.lit (.bool x6705), .ro (Rd.slice (Rd.int .i64)) false x6706])).push (.cells 51 [.lit (.bool x6707), .ro (Rd.slice (Rd.int .i64)) false x6708])).push (.cells 51 [.lit (.bool false), .lit (.slice none 0 0)])).push (.row 3 (Rd.int .i64) x7237))) ?_ ?_
        · refine WP.loop (β := Int × (List Int)) (fun n b => g_quireref09_Times_l2 k n b.1 b.2 = some x7237) (fun b => ((((((Env.none.upd 2 (.ptr 0 0)).upd 3 (.ptr 1 0)).upd 4 (.ptr 2 0)).upd 5 (.whole 3)).upd 6 (.lit (.int .i64 x7017))).upd 8 (.lit (.int .i64 b.1)))) (fun b => ((((Mem.nil.push (.cells 51 [.lit (.bool x6705), .ro (Rd.slice (Rd.int .i64)) false x6706])).push (.cells 51 [.lit (.bool x6707), .ro (Rd.slice (Rd.int .i64)) false x6708])).push (.cells 51 [.lit (.bool false), .lit (.slice none 0 0)])).push (.row 3 (Rd.int .i64) b.2))) k (0, x7170) H7257 rfl rfl ?_
          rintro n ⟨x7215, x7216⟩ H
          obtain _ | n := n
          · exact nf rfl H
          rw [g_quireref09_Times_l2.eq_2] at H
          show WP _ _ _ _ ((((((Env.none.upd 2 (.ptr 0 0)).upd 3 (.ptr 1 0)).upd 4 (.ptr 2 0)).upd 5 (.whole 3)).upd 6 (.lit (.int .i64 x7017))).upd 8 (.lit (.int .i64 x7215))) ((((Mem.nil.push (.cells 51 [.lit (.bool x6705), .ro (Rd.slice (Rd.int .i64)) false x6706])).push (.cells 51 [.lit (.bool x6707), .ro (Rd.slice (Rd.int .i64)) false x6708])).push (.cells 51 [.lit (.bool false), .lit (.slice none 0 0)])).push (.row 3 (Rd.int .i64) x7216)) _
          refine WP.seq ?_
          refine WP.seq ?_
          refine WP.region ?_
          refine WPL.q (q_mv (v := .lit (.int _ _)) rfl) rfl ?_
          refine WPL.q (q_add rfl rfl) rfl ?_
          refine WPL.q (q_mv (v := .whole _) rfl) rfl ?_
          refine WPL.q (q_len_row sl49 rfl rfl) rfl ?_
          obtain ⟨x7240, h7240, H⟩ := bnd H
          refine WPL.q (q_nm (q_lss rfl rfl) (nm_bool h7240)) rfl ?_
          refine WPL.nilW ?_
          refine W.now ?_
          refine Then.n ?_
          refine WP.cond (t := x7240) rfl (fun hb7240 => ?_) (fun hb7240 => ?_)
          · replace H := cnt hb7240 H
            refine WP.skipW ?_
            refine W.now ?_
            refine Then.n ?_
            refine WP.seq ?_
            refine WP.block ?_
            refine WP.seq ?_
            refine WP.regionD' 16 [3] [15] mixed rfl ?_
            refine WPD.takeT 0 rfl (by kernel_rfl) (q_mv (v := .whole _) rfl) rfl ?_
            refine WPD.takeT 1 rfl (by kernel_rfl) (q_mv (v := .lit (.int _ _)) rfl) rfl ?_
            refine WPD.takeT 2 rfl (by kernel_rfl) (q_add rfl rfl) rfl ?_
            refine WPD.takeT 3 rfl (by kernel_rfl) (q_mv (v := .whole _) rfl) rfl ?_
            refine WPD.takeT 4 rfl (by kernel_rfl) (q_mv (v := .lit (.int _ _)) rfl) rfl ?_
            refine WPD.takeT 5 rfl (by kernel_rfl) (q_add rfl rfl) rfl ?_
            obtain ⟨x7252, h7252, H⟩ := bnd H
            refine WPD.takeT 6 rfl (by kernel_rfl) (q_index_row sl49 rfl rfl rfl (ixs h7252)) rfl ?_
            refine WPD.takeT 8 rfl (by kernel_rfl) (q_mv (v := .whole _) rfl) rfl ?_
            refine WPD.takeT 9 rfl (by kernel_rfl) (q_mv (v := .lit (.int _ _)) rfl) rfl ?_
            obtain ⟨x7253, h7253, H⟩ := bnd H
            refine WPD.takeT 10 rfl (by kernel_rfl) (q_index_row sl49 rfl rfl rfl (ixs h7253)) rfl ?_
            refine WPD.take 7 rfl (by kernel_rfl) (q_load_row (j := (Int.toNat (IntKind.wrap .i64 (x7215 + 1)))) sc3 rfl rfl (ixj h7252)) rfl rfl ?_
            refine WPD.take 11 rfl (by kernel_rfl) (q_load_row (j := (Int.toNat x7215)) sc3 rfl rfl (ixj h7253)) rfl rfl ?_
            refine WPD.takeT 12 rfl (by kernel_rfl) (q_quo rfl rfl rfl) rfl ?_
            obtain ⟨x7254, h7254, H⟩ := bnd H
            refine WPD.takeT 13 rfl (by kernel_rfl) (q_nm (q_add rfl rfl) (nm_int h7254)) rfl ?_
            obtain ⟨x7255, h7255, H⟩ := bnd H
            refine WPD.takeT 14 rfl (by kernel_rfl) (q_index_row sl49 rfl rfl rfl (ixs h7255)) rfl ?_
            refine WPD.effS 15 [] [] rfl (by kernel_rfl) (s_store_row (j := (Int.toNat (IntKind.wrap .i64 (x7215 + 1)))) (d := x7254) sz3 rfl rfl rfl rfl Joins.sc (ixl h7255)) rfl ?_
            refine WPD.doneW (by kernel_rfl) ?_
            refine W.now ?_
            refine Then.n ?_
            refine WP.region ?_
            refine WPL.q (q_mv (v := .whole _) rfl) rfl ?_
            refine WPL.q (q_mv (v := .lit (.int _ _)) rfl) rfl ?_
            refine WPL.q (q_mv (v := .whole _) rfl) rfl ?_
            refine WPL.q (q_mv (v := .lit (.int _ _)) rfl) rfl ?_
            obtain ⟨x7256, h7256, H⟩ := bnd H
            refine WPL.q (q_index_row sl49 rfl rfl rfl (ixs h7256)) rfl ?_
            refine WPL.q (q_load_row (j := (Int.toNat x7215)) sc3 rfl rfl (ixj h7256)) rfl ?_
            refine WPL.q (q_rem rfl rfl rfl) rfl ?_
            obtain ⟨x7257, h7257, H⟩ := bnd H
            refine WPL.q (q_index_row sl49 rfl rfl rfl (ixs h7257)) rfl ?_
            refine WPL.s (s_store_row (j := (Int.toNat x7215)) (d := (Int.tmod x7256 10)) sz3 rfl rfl rfl rfl Joins.sc (ixl h7257)) ?_
            refine WPL.nilW ?_
            refine W.now ?_
            refine InBlock.n ?_
            refine Then.n ?_
            refine WP.region ?_
            refine WPL.q (q_mv (v := .lit (.int _ _)) rfl) rfl ?_
            refine WPL.q (q_add rfl rfl) rfl ?_
            refine WPL.q (q_as (v := .lit (.int _ _)) rfl) rfl ?_
            refine WPL.nilW ?_
            refine W.cv (Cv.weak (E' := ((((((Env.none.upd 2 (.ptr 0 0)).upd 3 (.ptr 1 0)).upd 4 (.ptr 2 0)).upd 5 (.whole 3)).upd 6 (.lit (.int .i64 x7017))).upd 8 (.lit (.int .i64 (IntKind.wrap .i64 (x7215 + 1)))))) (M' := ((((Mem.nil.push (.cells 51 [.lit (.bool x6705), .ro (Rd.slice (Rd.int .i64)) false x6706])).push (.cells 51 [.lit (.bool x6707), .ro (Rd.slice (Rd.int .i64)) false x6708])).push (.cells 51 [.lit (.bool false), .lit (.slice none 0 0)])).push (.row 3 (Rd.int .i64) (List.set (List.set x7216 (Int.toNat (IntKind.wrap .i64 (x7215 + 1))) x7254) (Int.toNat x7215) (Int.tmod x7256 10))))) [0, 1, 2, 3] hnp ⟨rfl, ⟨⟨⟨⟨trivial, .inr ⟨rfl, rfl, rfl⟩⟩, .inr ⟨rfl, rfl, rfl⟩⟩, .inr ⟨rfl, rfl, rfl⟩⟩, .inr ⟨rfl, rfl, rfl⟩⟩, by decide, rfl, trivial⟩ (LeE.upd rfl rfl (LeE.upd rfl rfl (LeE.upd rfl rfl (LeE.upd rfl rfl (LeE.upd rfl rfl (LeE.upd rfl rfl (LeE.none rfl rfl)))))))) rfl ?_
            refine W.now ?_
            exact Then.n ⟨n, ((IntKind.wrap .i64 (x7215 + 1)), (List.set (List.set x7216 (Int.toNat (IntKind.wrap .i64 (x7215 + 1))) x7254) (Int.toNat x7215) (Int.tmod x7256 10))), Nat.lt_succ_self n, H, rfl, rfl⟩
          · replace H := cnf hb7240 H
            refine WP.exitW ?_
            refine W.cv (Cv.weak (E' := (((((Env.none.upd 2 (.ptr 0 0)).upd 3 (.ptr 1 0)).upd 4 (.ptr 2 0)).upd 5 (.whole 3)).upd 6 (.lit (.int .i64 x7017)))) (M' := ((((Mem.nil.push (.cells 51 [.lit (.bool x6705), .ro (Rd.slice (Rd.int .i64)) false x6706])).push (.cells 51 [.lit (.bool x6707), .ro (Rd.slice (Rd.int .i64)) false x6708])).push (.cells 51 [.lit (.bool false), .lit (.slice none 0 0)])).push (.row 3 (Rd.int .i64) x7216))) [0, 1, 2, 3] hnp ⟨rfl, ⟨⟨⟨⟨trivial, .inr ⟨rfl, rfl, rfl⟩⟩, .inr ⟨rfl, rfl, rfl⟩⟩, .inr ⟨rfl, rfl, rfl⟩⟩, .inr ⟨rfl, rfl, rfl⟩⟩, by decide, rfl, trivial⟩ (LeE.upd rfl rfl (LeE.upd rfl rfl (LeE.upd rfl rfl (LeE.upd rfl rfl (LeE.upd rfl rfl (LeE.none rfl rfl))))))) rfl ?_
            refine W.now ?_
            refine Then.x ?_
            refine Then.x ?_
            have q0 := (Option.some.inj H)
            subst q0
            exact ⟨rfl, rfl, rfl⟩
        · rintro _ _ _ ⟨rfl, rfl, rfl⟩
          refine W.now ?_
          refine InBlock.x0 ?_
          refine InBlock.n ?_
          refine Then.n ?_
          refine WP.region ?_
          refine WPL.q (q_mv (v := .lit (.int _ _)) rfl) rfl ?_
          refine WPL.q (q_add rfl rfl) rfl ?_
          refine WPL.q (q_as (v := .lit (.int _ _)) rfl) rfl ?_
          refine WPL.nilW ?_
          refine W.cv (Cv.weak (E' := (((((Env.none.upd 2 (.ptr 0 0)).upd 3 (.ptr 1 0)).upd 4 (.ptr 2 0)).upd 5 (.whole 3)).upd 6 (.lit (.int .i64 (IntKind.wrap .i64 (x7017 + 1)))))) (M' := ((((Mem.nil.push (.cells 51 [.lit (.bool x6705), .ro (Rd.slice (Rd.int .i64)) false x6706])).push (.cells 51 [.lit (.bool x6707), .ro (Rd.slice (Rd.int .i64)) false x6708])).push (.cells 51 [.lit (.bool false), .lit (.slice none 0 0)])).push (.row 3 (Rd.int .i64) x7237))) [0, 1, 2, 3] hnp ⟨rfl, ⟨⟨⟨⟨trivial, .inr ⟨rfl, rfl, rfl⟩⟩, .inr ⟨rfl, rfl, rfl⟩⟩, .inr ⟨rfl, rfl, rfl⟩⟩, .inr ⟨rfl, rfl, rfl⟩⟩, by decide, rfl, trivial⟩ (LeE.upd rfl rfl (LeE.upd rfl rfl (LeE.upd rfl rfl (LeE.upd rfl rfl (LeE.upd rfl rfl (LeE.none rfl rfl))))))) rfl ?_
          refine W.now ?_
          exact Then.n ⟨n, ((IntKind.wrap .i64 (x7017 + 1)), x7237), Nat.lt_succ_self n, H, rfl, rfl⟩
    · replace H := cnf hb7120 H
      refine WP.exitW ?_
      refine W.cv (Cv.weak (E' := ((((Env.none.upd 2 (.ptr 0 0)).upd 3 (.ptr 1 0)).upd 4 (.ptr 2 0)).upd 5 (.whole 3))) (M' := ((((Mem.nil.push (.cells 51 [.lit (.bool x6705), .ro (Rd.slice (Rd.int .i64)) false x6706])).push (.cells 51 [.lit (.bool x6707), .ro (Rd.slice (Rd.int .i64)) false x6708])).push (.cells 51 [.lit (.bool false), .lit (.slice none 0 0)])).push (.row 3 (Rd.int .i64) x7018))) [0, 1, 2, 3] hnp ⟨rfl, ⟨⟨⟨⟨trivial, .inr ⟨rfl, rfl, rfl⟩⟩, .inr ⟨rfl, rfl, rfl⟩⟩, .inr ⟨rfl, rfl, rfl⟩⟩, .inr ⟨rfl, rfl, rfl⟩⟩, by decide, rfl, trivial⟩ (LeE.upd rfl rfl (LeE.upd rfl rfl (LeE.upd rfl rfl (LeE.upd rfl rfl (LeE.none rfl rfl)))))) rfl ?_
      refine W.now ?_
      refine Then.x ?_
      refine Then.x ?_
      have q0 := (Option.some.inj H)
      subst q0
      exact ⟨rfl, rfl, rfl⟩
  · rintro _ _ _ ⟨rfl, rfl, rfl⟩
    refine W.now ?_
    refine InBlock.x0 ?_
    refine Then.n ?_
    refine WP.seq ?_
    refine WP.region ?_
    refine WPL.q (q_fieldAddr fi51_0 rfl rfl) rfl ?_
    refine WPL.q (q_load sc4 rfl rfl rfl) rfl ?_
    refine WPL.q (q_fieldAddr fi51_0 rfl rfl) rfl ?_
    refine WPL.q (q_load sc4 rfl rfl rfl) rfl ?_
    refine WPL.q (q_neqb Try.underlying4 rfl rfl) rfl ?_
    refine WPL.q (q_mv (v := .whole _) rfl) rfl ?_
    refine WPL.q (q_build bu51 rfl) rfl ?_
    obtain ⟨⟨x7261, x7262⟩, h7259, H⟩ := bnd H
    refine WPL.c (runs_call (s := [3]) (t := [4]) (N := 5) (bor := []) fn36 rfl (s_quireref09_trim k (!(x6705 == x6707)) x7117 x7261 x7262 h7259) ⟨rfl, ⟨trivial, .inr ⟨rfl, rfl, rfl⟩⟩, by decide, rfl, trivial⟩ rfl trivial (.ren rfl rfl .nil) rfl ⟨trivial, rfl⟩ rfl) rfl ?_
    refine WPL.s (s_store sz51 rfl rfl rfl rfl rfl) ?_
    refine WPL.nilW ?_
    refine W.now ?_
    refine Then.n ?_
    refine WP.retW ?_
    refine W.now ?_
    have q0 := (Prod.mk.inj (Option.some.inj H)).1
    have q1 := (Prod.mk.inj (Option.some.inj H)).2
    subst q0
    subst q1
    exact ⟨trivial, _, rfl, [2], (.agg [.lit (.bool x7261), .ro (Rd.slice (Rd.int .i64)) false x7262]), (Mem.nil.push (.cells 51 [.lit (.bool x7261), .ro (Rd.slice (Rd.int .i64)) false x7262])), ⟨rfl, ⟨trivial, .inr ⟨rfl, rfl, rfl⟩⟩, by decide, rfl, trivial⟩, rfl, rfl, rfl, rfl⟩
end Go.Proofs.Ytdbeblgfccjbgaa.W
namespace Go.Proofs.Ytdbeblgfccjbgaa.W
open Go Go.Q Go.Proofs
set_option linter.unusedVariables false
set_option linter.unusedSimpArgs false
set_option maxRecDepth 100000 in
set_option maxHeartbeats 4000000 in
theorem s_dec_Make (k : Nat) (x8742 : Int) (x8743 : Int) (x8765 : Int) (x8766 : Int) (x8767 : Int) (H : g_dec_Make k x8742 x8743 = some (x8765, x8766, x8767)) : Go.Q.Spec Try.prog 25 0 [.lit (.int .i64 x8742), .lit (.int .i64 x8743)] Mem.nil (fun o M => o = .ret (.tup [.agg [.lit (.int .i64 x8766), .lit (.int .i64 x8767)], .lit (.int .i64 x8765)]) ∧ M = (Mem.nil.push (.cells 23 [.lit (.int .i64 x8766), .lit (.int .i64 x8767)]))) := by
  unfold g_dec_Make at H
  refine Go.Q.Spec.of_bodyR (az := [(23, 2)]) (rs := [.cell 4 23, .tmp 5]) (nt := 27) Try.func25 rfl rfl (by intro t T h; simp at h; rcases h with ⟨rfl, rfl⟩ <;> first | exact ag23) rfl rfl fun cx hnp => ?_
  refine WP.seq ?_
  refine WP.region ?_
  refine WPL.d (d_alloc ze23 rfl) rfl ?_
  refine WPL.q (q_as (v := .lit (.int _ _)) rfl) rfl ?_
  refine WPL.nilW ?_
  refine W.now ?_
  refine Then.n ?_
  refine WP.seq ?_
  refine WP.seq ?_
  obtain ⟨x8777, H8779, H⟩ := bnd H
  refine WP.monoW (Q := fun x E M => x = .normal ∧ E = ((((Env.none.upd 0 (.lit (.int .i64 x8742))).upd 1 (.lit (.int .i64 x8743))).upd 4 (.ptr 0 0)).upd 15 (.lit (.bool x8777))) ∧ M = (Mem.nil.push (.cells 23 [.lit (.int .i64 0), .lit (.int .i64 0)]))) ?_ ?_
  · clear H
    have H := H8779
    clear H8779
    refine WP.region ?_
    refine WPL.q (q_mv (v := .lit (.int _ _)) rfl) rfl ?_
    refine WPL.q (q_neq rfl rfl) rfl ?_
    refine WPL.q (q_mv (v := .lit (.bool _)) rfl) rfl ?_
    refine WPL.split (t := 8) (b := (!decide (x8742 = 0))) rfl (fun hb8777 => ?_) (fun hb8777 => ?_)
    · replace H := cnt hb8777 H
      refine WPL.qg rfl rfl (lb hb8777) (q_mv (v := .lit (.int _ _)) rfl) rfl ?_
      refine WPL.qg rfl rfl (lb hb8777) (q_lss rfl rfl) rfl ?_
      refine WPL.qg rfl rfl (lb hb8777) (q_mv (v := .lit (.bool _)) rfl) rfl ?_
      refine WPL.split (t := 11) (b := (decide (x8743 < (-100)))) rfl (fun hb8778 => ?_) (fun hb8778 => ?_)
      · replace H := cnt hb8778 H
        refine WPL.skipg (b' := true) rfl rfl (lb hb8778) rfl rfl ?_
        refine WPL.skipg (b' := true) rfl rfl (lb hb8778) rfl rfl ?_
        refine WPL.qg rfl rfl (lb hb8777) (q_pickT (v := .lit (.bool _)) (lb hb8778) rfl) rfl ?_
        refine WPL.q (q_pickT (v := .lit (.bool _)) (lb hb8777) rfl) rfl ?_
        refine WPL.nilW ?_
        refine W.cv (Cv.weak (E' := ((((Env.none.upd 0 (.lit (.int .i64 x8742))).upd 1 (.lit (.int .i64 x8743))).upd 4 (.ptr 0 0)).upd 15 (.lit (.bool true)))) (M' := (Mem.nil.push (.cells 23 [.lit (.int .i64 0), .lit (.int .i64 0)]))) [0] hnp ⟨rfl, ⟨trivial, .inr ⟨rfl, rfl, rfl⟩⟩, by decide, rfl, trivial⟩ (LeE.upd rfl rfl (LeE.upd rfl rfl (LeE.upd rfl rfl (LeE.upd rfl rfl (LeE.none rfl rfl)))))) rfl ?_
        refine W.now ?_
        have q0 := (Option.some.inj H)
        subst q0
        exact ⟨rfl, rfl, rfl⟩
      · replace H := cnf hb8778 H
        refine WPL.qg rfl rfl (lb hb8778) (q_mv (v := .lit (.int _ _)) rfl) rfl ?_
        refine WPL.qg rfl rfl (lb hb8778) (q_gtr rfl rfl) rfl ?_
        refine WPL.qg rfl rfl (lb hb8777) (q_pickF (v := .lit (.bool _)) (lb hb8778) rfl) rfl ?_
        refine WPL.q (q_pickT (v := .lit (.bool _)) (lb hb8777) rfl) rfl ?_
        refine WPL.nilW ?_
        refine W.cv (Cv.weak (E' := ((((Env.none.upd 0 (.lit (.int .i64 x8742))).upd 1 (.lit (.int .i64 x8743))).upd 4 (.ptr 0 0)).upd 15 (.lit (.bool (decide (100 < x8743)))))) (M' := (Mem.nil.push (.cells 23 [.lit (.int .i64 0), .lit (.int .i64 0)]))) [0] hnp ⟨rfl, ⟨trivial, .inr ⟨rfl, rfl, rfl⟩⟩, by decide, rfl, trivial⟩ (LeE.upd rfl rfl (LeE.upd rfl rfl (LeE.upd rfl rfl (LeE.upd rfl rfl (LeE.none rfl rfl)))))) rfl ?_
        refine W.now ?_
        have q0 := (Option.some.inj H)
        subst q0
        exact ⟨rfl, rfl, rfl⟩
    · replace H := cnf hb8777 H
      refine WPL.skipg (b' := false) rfl rfl (lb hb8777) rfl rfl ?_
      refine WPL.skipg (b' := false) rfl rfl (lb hb8777) rfl rfl ?_
      refine WPL.skipg (b' := false) rfl rfl (lb hb8777) rfl rfl ?_
      refine WPL.skipu rfl rfl rfl rfl ?_
      refine WPL.skipu rfl rfl rfl rfl ?_
      refine WPL.skipg (b' := false) rfl rfl (lb hb8777) rfl rfl ?_
      refine WPL.q (q_pickF (v := .lit (.bool _)) (lb hb8777) rfl) rfl ?_
      refine WPL.nilW ?_
      refine W.cv (Cv.weak (E' := ((((Env.none.upd 0 (.lit (.int .i64 x8742))).upd 1 (.lit (.int .i64 x8743))).upd 4 (.ptr 0 0)).upd 15 (.lit (.bool false)))) (M' := (Mem.nil.push (.cells 23 [.lit (.int .i64 0), .lit (.int .i64 0)]))) [0] hnp ⟨rfl, ⟨trivial, .inr ⟨rfl, rfl, rfl⟩⟩, by decide, rfl, trivial⟩ (LeE.upd rfl rfl (LeE.upd rfl rfl (LeE.upd rfl rfl (LeE.upd rfl rfl (LeE.none rfl rfl)))))) rfl ?_
      refine W.now ?_
      have q0 := (Option.some.inj H)
      subst q0
      exact ⟨rfl, rfl, rfl⟩
  · rintro _ _ _ ⟨rfl, rfl, rfl⟩
    refine W.now ?_
    refine Then.n ?_
    refine WP.cond (t := x8777) rfl (fun hb8780 => ?_) (fun hb8780 => ?_)
    · replace H := cnt hb8780 H
      refine WP.seq ?_
      refine WP.region ?_
      refine WPL.q (q_build bu23 rfl) rfl ?_
      refine WPL.s (s_store sz23 rfl rfl rfl rfl rfl) ?_
      refine WPL.q (q_as (v := .lit (.int _ _)) rfl) rfl ?_
      refine WPL.nilW ?_
      refine W.now ?_
      refine Then.n ?_
      refine WP.retW ?_
      refine W.now ?_
      refine Then.r ?_
      have q0 := (Prod.mk.inj (Option.some.inj H)).1
      have q1 := (Prod.mk.inj (Prod.mk.inj (Option.some.inj H)).2).1
      have q2 := (Prod.mk.inj (Prod.mk.inj (Option.some.inj H)).2).2
      subst q0
      subst q1
      subst q2
      exact ⟨trivial, _, rfl, [0], (.tup [.agg [.lit (.int .i64 0), .lit (.int .i64 0)], .lit (.int .i64 30)]), (Mem.nil.push (.cells 23 [.lit (.int .i64 0), .lit (.int .i64 0)])), ⟨rfl, ⟨trivial, .inr ⟨rfl, rfl, rfl⟩⟩, by decide, rfl, trivial⟩, rfl, rfl, rfl, rfl⟩
    · replace H := cnf hb8780 H
      refine WP.skipW ?_
      refine W.now ?_
      refine Then.n ?_
      refine WP.seq ?_
      refine WP.region ?_
      refine WPL.q (q_mv (v := .lit (.int _ _)) rfl) rfl ?_
      refine WPL.q (q_lss rfl rfl) rfl ?_
      refine WPL.q (q_mv (v := .lit (.int _ _)) rfl) rfl ?_
      obtain ⟨x8783, h8781, H⟩ := bnd H
      refine WPL.c (runs_call (s := []) (t := []) (N := 1) (bor := []) fn28 rfl (s_dec_size k x8742 x8783 h8781) ⟨rfl, trivial, by decide, rfl, trivial⟩ rfl trivial (.ren rfl rfl .nil) rfl trivial rfl) rfl ?_
      refine WPL.q (q_build bu43 rfl) rfl ?_
      refine WPL.q (q_mv (v := .lit (.int _ _)) rfl) rfl ?_
      refine WPL.q (q_build bu47 rfl) rfl ?_
      obtain ⟨⟨x8785, x8786, x8787⟩, h8783, H⟩ := bnd H
      refine WPL.c (runs_call (s := []) (t := [1]) (N := 2) (bor := []) fn31 rfl (s_dec_num_tell k (decide (x8742 < 0)) 0 x8783 x8743 x8785 x8786 x8787 h8783) ⟨rfl, trivial, by decide, rfl, trivial⟩ rfl trivial (.ren rfl rfl .nil) rfl ⟨trivial, rfl⟩ rfl) rfl ?_
      refine WPL.q (q_extract rfl rfl) rfl ?_
      refine WPL.q (q_extract rfl rfl) rfl ?_
      refine WPL.s (s_store sz23 rfl rfl rfl rfl rfl) ?_
      refine WPL.q (q_as (v := .lit (.int _ _)) rfl) rfl ?_
      refine WPL.nilW ?_
      refine W.now ?_
      refine Then.n ?_
      refine WP.retW ?_
      refine W.now ?_
      have q0 := (Prod.mk.inj (Option.some.inj H)).1
      have q1 := (Prod.mk.inj (Prod.mk.inj (Option.some.inj H)).2).1
      have q2 := (Prod.mk.inj (Prod.mk.inj (Option.some.inj H)).2).2
      subst q0
      subst q1
      subst q2
      exact ⟨trivial, _, rfl, [0], (.tup [.agg [.lit (.int .i64 x8786), .lit (.int .i64 x8787)], .lit (.int .i64 x8785)]), (Mem.nil.push (.cells 23 [.lit (.int .i64 x8786), .lit (.int .i64 x8787)])), ⟨rfl, ⟨trivial, .inr ⟨rfl, rfl, rfl⟩⟩, by decide, rfl, trivial⟩, rfl, rfl, rfl, rfl⟩
set_option maxRecDepth 100000 in
set_option maxHeartbeats 4000000 in
theorem s_math_bits_Mul (k : Nat) (x8866 : Int) (x8867 : Int) (x8871 : Int) (H : g_math_bits_Mul k x8866 x8867 = some x8871) : Go.Q.Spec Try.prog 70 0 [.lit (.int .u64 x8866), .lit (.int .u64 x8867)] Mem.nil (fun o M => o = .ret (.tup [.lit (.int .u64 x8871), .lit (.int .u64 (IntKind.wrap .u64 (x8866 * x8867)))]) ∧ M = Mem.nil) := by
  unfold g_math_bits_Mul at H
  refine Go.Q.Spec.of_bodyR (az := []) (rs := [.tmp 4, .tmp 5]) (nt := 30) Try.func70 rfl rfl (by intro t T h; simp at h) rfl rfl fun cx hnp => ?_
  refine WP.seq ?_
  refine WP.region ?_
  refine WPL.q (q_as (v := .lit (.int _ _)) rfl) rfl ?_
  refine WPL.q (q_as (v := .lit (.int _ _)) rfl) rfl ?_
  refine WPL.nilW ?_
  refine W.now ?_
  refine Then.n ?_
  refine WP.seq ?_
  refine WP.condF rfl ?_
  refine WP.skipW ?_
  refine W.now ?_
  refine Then.n ?_
  refine WP.seq ?_
  refine WP.region ?_
  refine WPL.q (q_mv (v := .lit (.int _ _)) rfl) rfl ?_
  refine WPL.q (q_mv (v := .lit (.int _ _)) rfl) rfl ?_
  obtain ⟨x8873, h8871, H⟩ := bnd H
  refine WPL.c (runs_call (s := []) (t := []) (N := 0) (bor := []) fn53 rfl (s_math_bits_Mul64 k x8866 x8867 x8873 h8871) ⟨rfl, trivial, by decide, rfl, trivial⟩ rfl trivial (.ren rfl rfl (.ren rfl rfl .nil)) rfl trivial rfl) rfl ?_
  refine WPL.q (q_mv (v := .tup _) rfl) rfl ?_
  refine WPL.q (q_extract rfl rfl) rfl ?_
  refine WPL.q (q_extract rfl rfl) rfl ?_
  refine WPL.q (q_as (v := .lit (.int _ _)) rfl) rfl ?_
  refine WPL.q (q_as (v := .lit (.int _ _)) rfl) rfl ?_
  refine WPL.nilW ?_
  refine W.now ?_
  refine Then.n ?_
  refine WP.seq ?_
  refine WP.region ?_
  refine WPL.q (q_mv (v := .lit (.int _ _)) rfl) rfl ?_
  refine WPL.q (q_mv (v := .lit (.int _ _)) rfl) rfl ?_
  refine WPL.q (q_as (v := .lit (.int _ _)) rfl) rfl ?_
  refine WPL.q (q_as (v := .lit (.int _ _)) rfl) rfl ?_
  refine WPL.nilW ?_
  refine W.now ?_
  refine Then.n ?_
  refine WP.retW ?_
  refine W.now ?_
  have q0 := (Option.some.inj H)
  subst q0
  exact ⟨trivial, _, rfl, [], (.tup [.lit (.int .u64 x8873), .lit (.int .u64 (IntKind.wrap .u64 (x8866 * x8867)))]), Mem.nil, ⟨rfl, trivial, by decide, rfl, trivial⟩, rfl, rfl, rfl, rfl⟩
set_option maxRecDepth 100000 in
set_option maxHeartbeats 4000000 in
theorem s_internal_stringslite_HasPrefix (k : Nat) (x8911 : ByteArray) (x8912 : ByteArray) (x8924 : Bool) (H : g_internal_stringslite_HasPrefix k x8911 x8912 = some x8924) : Go.Q.Spec Try.prog 78 0 [.lit (.string x8911), .lit (.string x8912)] Mem.nil (fun o M => o = .ret (.lit (.bool x8924)) ∧ M = Mem.nil) := by
  unfold g_internal_stringslite_HasPrefix at H
  refine Go.Q.Spec.of_bodyR (az := []) (rs := [.tmp 4]) (nt := 18) Try.func78 rfl rfl (by intro t T h; simp at h) rfl rfl fun cx hnp => ?_
  refine WP.seq ?_
  refine WP.region ?_
  refine WPL.q (q_as (v := .lit (.bool _)) rfl) rfl ?_
  refine WPL.nilW ?_
  refine W.now ?_
  refine Then.n ?_
  refine WP.seq ?_
  obtain ⟨x8929, H8933, H⟩ := bnd H
  refine WP.monoW (Q := fun x E M => x = .normal ∧ E = (Env.none.upd 4 (.lit (.bool x8929))) ∧ M = Mem.nil) ?_ ?_
  · clear H
    have H := H8933
    clear H8933
    refine WP.region ?_
    refine WPL.q (q_mv (v := .lit (.string _)) rfl) rfl ?_
    refine WPL.q (q_len_str Try.underlying9 rfl) rfl ?_
    refine WPL.q (q_mv (v := .lit (.string _)) rfl) rfl ?_
    refine WPL.q (q_len_str Try.underlying9 rfl) rfl ?_
    obtain ⟨x8930, h8930, H⟩ := bnd H
    refine WPL.q (q_nm (q_geq rfl rfl) (nm_bool h8930)) rfl ?_
    refine WPL.q (q_mv (v := .lit (.bool _)) rfl) rfl ?_
    refine WPL.split (t := 10) (b := x8930) rfl (fun hb8930 => ?_) (fun hb8930 => ?_)
    · replace H := cnt hb8930 H
      refine WPL.qg rfl rfl (lb hb8930) (q_mv (v := .lit (.string _)) rfl) rfl ?_
      refine WPL.qg rfl rfl (lb hb8930) (q_mv (v := .lit (.string _)) rfl) rfl ?_
      refine WPL.qg rfl rfl (lb hb8930) (q_len_str Try.underlying9 rfl) rfl ?_
      obtain ⟨h8931, H⟩ := grd H
      obtain ⟨x8933, h8933, H⟩ := bnd H
      refine WPL.qg rfl rfl (lb hb8930) (q_nm (q_slice_str (i := 0) (j := ((ByteArray.size x8912 : Nat) : Int)) Try.underlying9 rfl rfl ⟨_, rfl⟩ h8931) (nm_str h8933)) rfl ?_
      refine WPL.qg rfl rfl (lb hb8930) (q_mv (v := .lit (.string _)) rfl) rfl ?_
      refine WPL.qg rfl rfl (lb hb8930) (q_eqls rfl rfl) rfl ?_
      refine WPL.q (q_pickT (v := .lit (.bool _)) (lb hb8930) rfl) rfl ?_
      refine WPL.q (q_as (v := .lit (.bool _)) rfl) rfl ?_
      refine WPL.nilW ?_
      refine W.cv (Cv.weak (E' := (Env.none.upd 4 (.lit (.bool (x8933.toList == x8912.toList))))) (M' := Mem.nil) [] hnp ⟨rfl, trivial, by decide, rfl, trivial⟩ (LeE.upd rfl rfl (LeE.none rfl rfl))) rfl ?_
      refine W.now ?_
      have q0 := (Option.some.inj H)
      subst q0
      exact ⟨rfl, rfl, rfl⟩
    · replace H := cnf hb8930 H
      refine WPL.skipg (b' := false) rfl rfl (lb hb8930) rfl rfl ?_
      refine WPL.skipg (b' := false) rfl rfl (lb hb8930) rfl rfl ?_
      refine WPL.skipg (b' := false) rfl rfl (lb hb8930) rfl rfl ?_
      refine WPL.skipg (b' := false) rfl rfl (lb hb8930) rfl rfl ?_
      refine WPL.skipg (b' := false) rfl rfl (lb hb8930) rfl rfl ?_
      refine WPL.skipg (b' := false) rfl rfl (lb hb8930) rfl rfl ?_
      refine WPL.q (q_pickF (v := .lit (.bool _)) (lb hb8930) rfl) rfl ?_
      refine WPL.q (q_as (v := .lit (.bool _)) rfl) rfl ?_
      refine WPL.nilW ?_
      refine W.cv (Cv.weak (E' := (Env.none.upd 4 (.lit (.bool false)))) (M' := Mem.nil) [] hnp ⟨rfl, trivial, by decide, rfl, trivial⟩ (LeE.upd rfl rfl (LeE.none rfl rfl))) rfl ?_
      refine W.now ?_
      have q0 := (Option.some.inj H)
      subst q0
      exact ⟨rfl, rfl, rfl⟩
  · rintro _ _ _ ⟨rfl, rfl, rfl⟩
    refine W.now ?_
    refine Then.n ?_
    refine WP.retW ?_
    refine W.now ?_
    have q0 := (Option.some.inj H)
    subst q0
    exact ⟨trivial, _, rfl, [], (.lit (.bool x8929)), Mem.nil, ⟨rfl, trivial, by decide, rfl, trivial⟩, rfl, rfl, rfl, rfl⟩
set_option maxRecDepth 100000 in
set_option maxHeartbeats 4000000 in
theorem s_strings_HasPrefix (k : Nat) (x8908 : ByteArray) (x8909 : ByteArray) (x8937 : Bool) (H : g_strings_HasPrefix k x8908 x8909 = some x8937) : Go.Q.Spec Try.prog 71 0 [.lit (.string x8908), .lit (.string x8909)] Mem.nil (fun o M => o = .ret (.lit (.bool x8937)) ∧ M = Mem.nil) := by
  unfold g_strings_HasPrefix at H
  refine Go.Q.Spec.of_bodyR (az := []) (rs := [.tmp 4]) (nt := 8) Try.func71 rfl rfl (by intro t T h; simp at h) rfl rfl fun cx hnp => ?_
  refine WP.seq ?_
  refine WP.region ?_
  refine WPL.q (q_as (v := .lit (.bool _)) rfl) rfl ?_
  refine WPL.nilW ?_
  refine W.now ?_
  refine Then.n ?_
  refine WP.seq ?_
  refine WP.region ?_
  refine WPL.q (q_mv (v := .lit (.string _)) rfl) rfl ?_
  refine WPL.q (q_mv (v := .lit (.string _)) rfl) rfl ?_
  obtain ⟨x8939, h8937, H⟩ := bnd H
  refine WPL.c (runs_call (s := []) (t := []) (N := 0) (bor := []) fn78 rfl (s_internal_stringslite_HasPrefix k x8908 x8909 x8939 h8937) ⟨rfl, trivial, by decide, rfl, trivial⟩ rfl trivial (.ren rfl rfl (.ren rfl rfl .nil)) rfl trivial rfl) rfl ?_
  refine WPL.q (q_as (v := .lit (.bool _)) rfl) rfl ?_
  refine WPL.nilW ?_
  refine W.now ?_
  refine Then.n ?_
  refine WP.retW ?_
  refine W.now ?_
  have q0 := (Option.some.inj H)
  subst q0
  exact ⟨trivial, _, rfl, [], (.lit (.bool x8939)), Mem.nil, ⟨rfl, trivial, by decide, rfl, trivial⟩, rfl, rfl, rfl, rfl⟩
set_option maxRecDepth 100000 in
set_option maxHeartbeats 4000000 in
theorem s_strings_Builder_copyCheck (k : Nat) (H : g_strings_Builder_copyCheck k = some ()) : Go.Q.Spec Try.prog 79 1 [.ptr 0 0] (Mem.nil.push (.cells 101 [.lit (.pointer none), .lit (.slice none 0 0)])) (fun o M => o = .ret (.tup []) ∧ M = (Mem.nil.push (.cells 101 [.ptr 0 0, .lit (.slice none 0 0)]))) := by
  unfold g_strings_Builder_copyCheck at H
  refine Go.Q.Spec.of_bodyR (az := []) (rs := []) (nt := 20) Try.func79 rfl rfl (by intro t T h; simp at h) rfl rfl fun cx hnp => ?_
  refine WP.seq ?_
  refine WP.region ?_
  refine WPL.q (q_mv (v := .ptr _ _) rfl) rfl ?_
  refine WPL.q (q_nilCheck rfl) rfl ?_
  refine WPL.q (q_fieldAddr fi101_0 rfl rfl) rfl ?_
  refine WPL.q (q_load sc99 rfl rfl rfl) rfl ?_
  refine WPL.q (q_eqlp_nil Try.underlying99 rfl) rfl ?_
  refine WPL.nilW ?_
  refine W.now ?_
  refine Then.n ?_
  refine WP.condT rfl ?_
  refine WP.region ?_
  refine WPL.q (q_mv (v := .ptr _ _) rfl) rfl ?_
  refine WPL.q (q_mv (v := .ptr _ _) rfl) rfl ?_
  refine WPL.q (q_toUnsafe Try.underlying99 Try.underlying111 in101 rfl rfl rfl) rfl ?_
  refine WPL.q (q_noEscape ex81 rfl (v := .ptr _ _) rfl) rfl ?_
  refine WPL.q (q_fromUnsafe Try.underlying111 Try.underlying99 te101 rfl rfl (by kernel_rfl)) rfl ?_
  refine WPL.q (q_nilCheck rfl) rfl ?_
  refine WPL.q (q_fieldAddr fi101_0 rfl rfl) rfl ?_
  refine WPL.s (s_store sz99 rfl rfl rfl rfl rfl) ?_
  refine WPL.nilW ?_
  refine W.now ?_
  exact ⟨trivial, _, rfl, [0], (.tup []), (Mem.nil.push (.cells 101 [.ptr 0 0, .lit (.slice none 0 0)])), ⟨rfl, ⟨trivial, .inr ⟨rfl, rfl, rfl⟩⟩, by decide, rfl, ⟨trivial, rfl⟩⟩, rfl, rfl, rfl, rfl⟩
set_option maxRecDepth 100000 in
set_option maxHeartbeats 4000000 in
theorem s_strings_Builder_grow (k : Nat) (x9085 : Int) (H : g_strings_Builder_grow k x9085 = some ()) : Go.Q.Spec Try.prog 80 1 [.ptr 0 0, .lit (.int .i64 x9085)] (Mem.nil.push (.cells 101 [.ptr 0 0, .lit (.slice none 0 0)])) (fun o M => o = .ret (.tup []) ∧ M = ((Mem.nil.push (.cells 101 [.ptr 0 0, .whole 1])).push (.row 5 (Rd.int .u8) ([] : List Int)))) := by
  unfold g_strings_Builder_grow at H
  refine Go.Q.Spec.of_bodyR (az := []) (rs := []) (nt := 30) Try.func80 rfl rfl (by intro t T h; simp at h) rfl rfl fun cx hnp => ?_
  refine WP.seq ?_
  refine WP.regionD' 16 [0] [] mixed rfl ?_
  refine WPD.takeT 0 rfl (by kernel_rfl) (q_mv (v := .ptr _ _) rfl) rfl ?_
  refine WPD.takeT 1 rfl (by kernel_rfl) (q_nilCheck rfl) rfl ?_
  refine WPD.takeT 2 rfl (by kernel_rfl) (q_fieldAddr fi101_1 rfl rfl) rfl ?_
  refine WPD.takeT 6 rfl (by kernel_rfl) (q_mv (v := .lit (.int _ _)) rfl) rfl ?_
  refine WPD.takeT 9 rfl (by kernel_rfl) (q_mv (v := .ptr _ _) rfl) rfl ?_
  refine WPD.takeT 10 rfl (by kernel_rfl) (q_nilCheck rfl) rfl ?_
  refine WPD.takeT 11 rfl (by kernel_rfl) (q_fieldAddr fi101_1 rfl rfl) rfl ?_
  refine WPD.take 3 rfl (by kernel_rfl) (q_load sc89 rfl rfl rfl) rfl rfl ?_
  refine WPD.takeT 4 rfl (by kernel_rfl) (q_cap_nil Try.underlying89 rfl) rfl ?_
  refine WPD.takeT 5 rfl (by kernel_rfl) (q_mul rfl rfl) rfl ?_
  obtain ⟨x9100, h9100, H⟩ := bnd H
  refine WPD.takeT 7 rfl (by kernel_rfl) (q_nm (q_add rfl rfl) (nm_int h9100)) rfl ?_
  refine WPD.take 12 rfl (by kernel_rfl) (q_load sc89 rfl rfl rfl) rfl rfl ?_
  refine WPD.takeT 13 rfl (by kernel_rfl) (q_len_nil sl89 rfl) rfl ?_
  obtain ⟨h9100, H⟩ := grd H
  refine WPD.eff 8 [0] [] rfl (by kernel_rfl) (Does.runs (d_makeNoZero ex82 Try.underlying89 rfl rfl h9100 rfl)) rfl rfl ?_
  obtain ⟨h9102, H⟩ := grd H
  refine WPD.eff 14 [0] [] rfl (by kernel_rfl) (Does.runs (d_cut sl89 rfl rfl rfl h9102 rfl)) rfl rfl ?_
  refine WPD.takeT 15 rfl (by kernel_rfl) (q_as (v := .whole _) rfl) rfl ?_
  refine WPD.doneW (by kernel_rfl) ?_
  refine W.now ?_
  refine Then.n ?_
  refine WP.seq ?_
  refine WP.region ?_
  refine WPL.q (q_mv (v := .whole _) rfl) rfl ?_
  refine WPL.q (q_mv (v := .ptr _ _) rfl) rfl ?_
  refine WPL.q (q_nilCheck rfl) rfl ?_
  refine WPL.q (q_fieldAddr fi101_1 rfl rfl) rfl ?_
  refine WPL.q (q_load sc89 rfl rfl rfl) rfl ?_
  obtain ⟨h9103, H⟩ := grd H
  refine WPL.d (d_copyAll sl89 rfl rfl rfl rfl (src_nil (R := (Rd.int .u8)) sl89 rfl) h9103) rfl ?_
  refine WPL.nilW ?_
  refine W.now ?_
  refine Then.n ?_
  refine WP.region ?_
  refine WPL.q (q_mv (v := .ptr _ _) rfl) rfl ?_
  refine WPL.q (q_mv (v := .whole _) rfl) rfl ?_
  refine WPL.q (q_nilCheck rfl) rfl ?_
  refine WPL.q (q_fieldAddr fi101_1 rfl rfl) rfl ?_
  refine WPL.s (s_store sz89 rfl rfl rfl rfl rfl) ?_
  refine WPL.nilW ?_
  refine W.now ?_
  exact ⟨trivial, _, rfl, [0, 2], (.tup []), ((Mem.nil.push (.cells 101 [.ptr 0 0, .whole 1])).push (.row 5 (Rd.int .u8) ([] : List Int))), ⟨rfl, ⟨⟨trivial, .inr ⟨rfl, rfl, rfl⟩⟩, .inr ⟨rfl, rfl, rfl⟩⟩, by decide, rfl, ⟨trivial, rfl⟩⟩, rfl, rfl, rfl, rfl⟩
set_option maxRecDepth 100000 in
set_option maxHeartbeats 4000000 in
theorem s_strings_Builder_Grow (k : Nat) (x9076 : Int) (H : g_strings_Builder_Grow k x9076 = some ()) : Go.Q.Spec Try.prog 72 1 [.ptr 0 0, .lit (.int .i64 x9076)] (Mem.nil.push (.cells 101 [.lit (.pointer none), .lit (.slice none 0 0)])) (fun o M => o = .ret (.tup []) ∧ M = ((Mem.nil.push (.cells 101 [.ptr 0 0, .whole 1])).push (.row 5 (Rd.int .u8) ([] : List Int)))) := by
  unfold g_strings_Builder_Grow at H
  refine Go.Q.Spec.of_bodyR (az := []) (rs := []) (nt := 25) Try.func72 rfl rfl (by intro t T h; simp at h) rfl rfl fun cx hnp => ?_
  refine WP.seq ?_
  refine WP.region ?_
  refine WPL.q (q_mv (v := .ptr _ _) rfl) rfl ?_
  obtain ⟨_, h9105, H⟩ := bnd H
  refine WPL.c (runs_call (s := [0]) (t := [0]) (N := 1) (bor := []) fn79 rfl (s_strings_Builder_copyCheck k h9105) ⟨rfl, ⟨trivial, .inr ⟨rfl, rfl, rfl⟩⟩, by decide, rfl, trivial⟩ rfl trivial (.ren rfl rfl .nil) rfl ⟨trivial, rfl⟩ rfl) rfl ?_
  refine WPL.nilW ?_
  refine W.now ?_
  refine Then.n ?_
  refine WP.seq ?_
  refine WP.seq ?_
  refine WP.region ?_
  refine WPL.q (q_mv (v := .lit (.int _ _)) rfl) rfl ?_
  refine WPL.q (q_lss rfl rfl) rfl ?_
  refine WPL.nilW ?_
  refine W.now ?_
  refine Then.n ?_
  refine WP.cond (t := (decide (x9076 < 0))) rfl (fun hb9107 => ?_) (fun hb9107 => ?_)
  · replace H := cnt hb9107 H
    refine WP.region ?_
    refine WPL.q (q_mki cn9) rfl ?_
    exact nf rfl H
  · replace H := cnf hb9107 H
    refine WP.skipW ?_
    refine W.now ?_
    refine Then.n ?_
    refine WP.seq ?_
    refine WP.regionD' 13 [0] [] mixed rfl ?_
    refine WPD.takeT 0 rfl (by kernel_rfl) (q_mv (v := .ptr _ _) rfl) rfl ?_
    refine WPD.takeT 1 rfl (by kernel_rfl) (q_nilCheck rfl) rfl ?_
    refine WPD.takeT 2 rfl (by kernel_rfl) (q_fieldAddr fi101_1 rfl rfl) rfl ?_
    refine WPD.takeT 5 rfl (by kernel_rfl) (q_mv (v := .ptr _ _) rfl) rfl ?_
    refine WPD.takeT 6 rfl (by kernel_rfl) (q_nilCheck rfl) rfl ?_
    refine WPD.takeT 7 rfl (by kernel_rfl) (q_fieldAddr fi101_1 rfl rfl) rfl ?_
    refine WPD.takeT 11 rfl (by kernel_rfl) (q_mv (v := .lit (.int _ _)) rfl) rfl ?_
    refine WPD.take 3 rfl (by kernel_rfl) (q_load sc89 rfl rfl rfl) rfl rfl ?_
    refine WPD.takeT 4 rfl (by kernel_rfl) (q_cap_nil Try.underlying89 rfl) rfl ?_
    refine WPD.take 8 rfl (by kernel_rfl) (q_load sc89 rfl rfl rfl) rfl rfl ?_
    refine WPD.takeT 9 rfl (by kernel_rfl) (q_len_nil sl89 rfl) rfl ?_
    refine WPD.takeT 10 rfl (by kernel_rfl) (q_sub rfl rfl) rfl ?_
    obtain ⟨x9110, h9110, H⟩ := bnd H
    refine WPD.takeT 12 rfl (by kernel_rfl) (q_nm (q_lss rfl rfl) (nm_bool h9110)) rfl ?_
    refine WPD.doneW (by kernel_rfl) ?_
    refine W.now ?_
    refine Then.n ?_
    refine WP.cond (t := x9110) rfl (fun hb9110 => ?_) (fun hb9110 => ?_)
    · replace H := cnt hb9110 H
      refine WP.region ?_
      refine WPL.q (q_mv (v := .ptr _ _) rfl) rfl ?_
      refine WPL.q (q_mv (v := .lit (.int _ _)) rfl) rfl ?_
      obtain ⟨_, h9111, H⟩ := bnd H
      refine WPL.c (runs_call (s := [0]) (t := [0, 1]) (N := 2) (bor := []) fn80 rfl (s_strings_Builder_grow k x9076 h9111) ⟨rfl, ⟨trivial, .inr ⟨rfl, rfl, rfl⟩⟩, by decide, rfl, trivial⟩ rfl trivial (.ren rfl rfl (.ren rfl rfl .nil)) rfl ⟨⟨trivial, rfl⟩, rfl⟩ rfl) rfl ?_
      refine WPL.nilW ?_
      refine W.now ?_
      exact ⟨trivial, _, rfl, [0, 1], (.tup []), ((Mem.nil.push (.cells 101 [.ptr 0 0, .whole 1])).push (.row 5 (Rd.int .u8) ([] : List Int))), ⟨rfl, ⟨⟨trivial, .inr ⟨rfl, rfl, rfl⟩⟩, .inr ⟨rfl, rfl, rfl⟩⟩, by decide, rfl, ⟨trivial, rfl⟩⟩, rfl, rfl, rfl, rfl⟩
    · replace H := cnf hb9110 H
      refine WP.skipW ?_
      refine W.cv (Cv.virC 5 (Rd.int .u8) (N := 1) rfl rfl (i := 0) (off := 1) rfl rfl) rfl ?_
      refine W.now ?_
      exact ⟨trivial, _, rfl, [0, 1], (.tup []), ((Mem.nil.push (.cells 101 [.ptr 0 0, .whole 1])).push (.row 5 (Rd.int .u8) ([] : List Int))), ⟨rfl, ⟨⟨trivial, .inr ⟨rfl, rfl, rfl⟩⟩, .inr ⟨rfl, rfl, rfl⟩⟩, by decide, rfl, ⟨trivial, rfl⟩⟩, rfl, rfl, rfl, rfl⟩
set_option maxRecDepth 100000 in
set_option maxHeartbeats 4000000 in
theorem s_strings_Builder_copyCheck__b (k : Nat) (x9117 : (List Int)) (H : g_strings_Builder_copyCheck__b k x9117 = some ()) : Go.Q.Spec Try.prog 79 1 [.ptr 0 0] ((Mem.nil.push (.cells 101 [.ptr 0 0, .whole 1])).push (.row 5 (Rd.int .u8) x9117)) (fun o M => o = .ret (.tup []) ∧ M = ((Mem.nil.push (.cells 101 [.ptr 0 0, .whole 1])).push (.row 5 (Rd.int .u8) x9117))) := by
  unfold g_strings_Builder_copyCheck__b at H
  refine Go.Q.Spec.of_bodyR (az := []) (rs := []) (nt := 20) Try.func79 rfl rfl (by intro t T h; simp at h) rfl rfl fun cx hnp => ?_
  refine WP.seq ?_
  refine WP.region ?_
  refine WPL.q (q_mv (v := .ptr _ _) rfl) rfl ?_
  refine WPL.q (q_nilCheck rfl) rfl ?_
  refine WPL.q (q_fieldAddr fi101_0 rfl rfl) rfl ?_
  refine WPL.q (q_load sc99 rfl rfl rfl) rfl ?_
  refine WPL.q (q_eqlp Try.underlying99 rfl) rfl ?_
  refine WPL.nilW ?_
  refine W.now ?_
  refine Then.n ?_
  refine WP.condF rfl ?_
  refine WP.seq ?_
  refine WP.region ?_
  refine WPL.q (q_mv (v := .ptr _ _) rfl) rfl ?_
  refine WPL.q (q_nilCheck rfl) rfl ?_
  refine WPL.q (q_fieldAddr fi101_0 rfl rfl) rfl ?_
  refine WPL.q (q_load sc99 rfl rfl rfl) rfl ?_
  refine WPL.q (q_mv (v := .ptr _ _) rfl) rfl ?_
  refine WPL.q (q_neqpSelf Try.underlying99 te101 rfl rfl) rfl ?_
  refine WPL.nilW ?_
  refine W.now ?_
  refine Then.n ?_
  refine WP.condF rfl ?_
  refine WP.skipW ?_
  refine W.now ?_
  exact ⟨trivial, _, rfl, [0, 1], (.tup []), ((Mem.nil.push (.cells 101 [.ptr 0 0, .whole 1])).push (.row 5 (Rd.int .u8) x9117)), ⟨rfl, ⟨⟨trivial, .inr ⟨rfl, rfl, rfl⟩⟩, .inr ⟨rfl, rfl, rfl⟩⟩, by decide, rfl, ⟨trivial, rfl⟩⟩, rfl, rfl, rfl, rfl⟩
set_option maxRecDepth 100000 in
set_option maxHeartbeats 4000000 in
theorem s_strings_Builder_WriteString (k : Nat) (x9114 : ByteArray) (x9115 : (List Int)) (H : g_strings_Builder_WriteString k x9114 x9115 = some ()) : Go.Q.Spec Try.prog 73 1 [.ptr 0 0, .lit (.string x9114)] ((Mem.nil.push (.cells 101 [.ptr 0 0, .whole 1])).push (.row 5 (Rd.int .u8) x9115)) (fun o M => o = .ret (.tup [.lit (.int .i64 ((ByteArray.size x9114 : Nat) : Int)), .lit .nilIface]) ∧ M = ((Mem.nil.push (.cells 101 [.ptr 0 0, .whole 1])).push (.row 5 (Rd.int .u8) (x9115 ++ (strInts x9114))))) := by
  unfold g_strings_Builder_WriteString at H
  refine Go.Q.Spec.of_bodyR (az := []) (rs := [.tmp 4, .tmp 5]) (nt := 19) Try.func73 rfl rfl (by intro t T h; simp at h) rfl rfl fun cx hnp => ?_
  refine WP.seq ?_
  refine WP.region ?_
  refine WPL.q (q_as (v := .lit (.int _ _)) rfl) rfl ?_
  refine WPL.q (q_as (v := .lit _) rfl) rfl ?_
  refine WPL.nilW ?_
  refine W.now ?_
  refine Then.n ?_
  refine WP.seq ?_
  refine WP.region ?_
  refine WPL.q (q_mv (v := .ptr _ _) rfl) rfl ?_
  obtain ⟨_, h9120, H⟩ := bnd H
  refine WPL.c (runs_call (s := [0, 1]) (t := [0, 2]) (N := 3) (bor := []) fn79 rfl (s_strings_Builder_copyCheck__b k x9115 h9120) ⟨rfl, ⟨⟨trivial, .inr ⟨rfl, rfl, rfl⟩⟩, .inr ⟨rfl, rfl, rfl⟩⟩, by decide, rfl, trivial⟩ rfl trivial (.ren rfl rfl .nil) rfl ⟨⟨trivial, rfl⟩, rfl⟩ rfl) rfl ?_
  refine WPL.nilW ?_
  refine W.now ?_
  refine Then.n ?_
  refine WP.seq ?_
  refine WP.region ?_
  refine WPL.q (q_mv (v := .ptr _ _) rfl) rfl ?_
  refine WPL.q (q_mv (v := .ptr _ _) rfl) rfl ?_
  refine WPL.q (q_nilCheck rfl) rfl ?_
  refine WPL.q (q_fieldAddr fi101_1 rfl rfl) rfl ?_
  refine WPL.q (q_load sc89 rfl rfl rfl) rfl ?_
  refine WPL.q (q_mv (v := .lit (.string _)) rfl) rfl ?_
  obtain ⟨h9121, H⟩ := grd H
  refine WPL.d (d_append ap89 rfl rfl rfl rfl (src_str Try.underlying9 rfl) h9121 rfl) rfl ?_
  refine WPL.q (q_nilCheck rfl) rfl ?_
  refine WPL.q (q_fieldAddr fi101_1 rfl rfl) rfl ?_
  refine WPL.s (s_store sz89 rfl rfl rfl rfl rfl) ?_
  refine WPL.nilW ?_
  refine W.now ?_
  refine Then.n ?_
  refine WP.seq ?_
  refine WP.region ?_
  refine WPL.q (q_mv (v := .lit (.string _)) rfl) rfl ?_
  refine WPL.q (q_len_str Try.underlying9 rfl) rfl ?_
  refine WPL.q (q_as (v := .lit (.int _ _)) rfl) rfl ?_
  refine WPL.q (q_as (v := .lit _) rfl) rfl ?_
  refine WPL.nilW ?_
  refine W.now ?_
  refine Then.n ?_
  refine WP.retW ?_
  refine W.now ?_
  exact ⟨trivial, _, rfl, [0, 3], (.tup [.lit (.int .i64 ((ByteArray.size x9114 : Nat) : Int)), .lit .nilIface]), ((Mem.nil.push (.cells 101 [.ptr 0 0, .whole 1])).push (.row 5 (Rd.int .u8) (x9115 ++ (strInts x9114)))), ⟨rfl, ⟨⟨trivial, .inr ⟨rfl, rfl, rfl⟩⟩, .inr ⟨rfl, rfl, rfl⟩⟩, by decide, rfl, ⟨trivial, rfl⟩⟩, rfl, rfl, rfl, rfl⟩
set_option maxRecDepth 100000 in
set_option maxHeartbeats 4000000 in
theorem s_strings_Builder_Len (k : Nat) (x9124 : (List Int)) (H : g_strings_Builder_Len k x9124 = some ()) : Go.Q.Spec Try.prog 74 1 [.ptr 0 0] ((Mem.nil.push (.cells 101 [.ptr 0 0, .whole 1])).push (.row 5 (Rd.int .u8) x9124)) (fun o M => o = .ret (.lit (.int .i64 ((List.length x9124 : Nat) : Int))) ∧ M = ((Mem.nil.push (.cells 101 [.ptr 0 0, .whole 1])).push (.row 5 (Rd.int .u8) x9124))) := by
  unfold g_strings_Builder_Len at H
  refine Go.Q.Spec.of_bodyR (az := []) (rs := [.tmp 2]) (nt := 8) Try.func74 rfl rfl (by intro t T h; simp at h) rfl rfl fun cx hnp => ?_
  refine WP.seq ?_
  refine WP.region ?_
  refine WPL.q (q_as (v := .lit (.int _ _)) rfl) rfl ?_
  refine WPL.nilW ?_
  refine W.now ?_
  refine Then.n ?_
  refine WP.seq ?_
  refine WP.region ?_
  refine WPL.q (q_mv (v := .ptr _ _) rfl) rfl ?_
  refine WPL.q (q_nilCheck rfl) rfl ?_
  refine WPL.q (q_fieldAddr fi101_1 rfl rfl) rfl ?_
  refine WPL.q (q_load sc89 rfl rfl rfl) rfl ?_
  refine WPL.q (q_len_row sl89 rfl rfl) rfl ?_
  refine WPL.q (q_as (v := .lit (.int _ _)) rfl) rfl ?_
  refine WPL.nilW ?_
  refine W.now ?_
  refine Then.n ?_
  refine WP.retW ?_
  refine W.now ?_
  exact ⟨trivial, _, rfl, [0, 1], (.lit (.int .i64 ((List.length x9124 : Nat) : Int))), ((Mem.nil.push (.cells 101 [.ptr 0 0, .whole 1])).push (.row 5 (Rd.int .u8) x9124)), ⟨rfl, ⟨⟨trivial, .inr ⟨rfl, rfl, rfl⟩⟩, .inr ⟨rfl, rfl, rfl⟩⟩, by decide, rfl, ⟨trivial, rfl⟩⟩, rfl, rfl, rfl, rfl⟩
set_option maxRecDepth 100000 in
set_option maxHeartbeats 4000000 in
theorem s_strings_Builder_String (k : Nat) (x9137 : (List Int)) (r : (Unit ⊕ Unit)) (H : g_strings_Builder_String k x9137 = some r) : Go.Q.Spec Try.prog 75 1 [.ptr 0 0] ((Mem.nil.push (.cells 101 [.ptr 0 0, .whole 1])).push (.row 5 (Rd.int .u8) x9137)) (fun o M => match (generalizing := false) r with | (Sum.inl _) => o = .ret (.lit (.string ByteArray.empty)) ∧ M = ((Mem.nil.push (.cells 101 [.ptr 0 0, .whole 1])).push (.row 5 (Rd.int .u8) x9137)) | (Sum.inr _) => o = .ret (.lit (.string (strOf x9137))) ∧ M = ((Mem.nil.push (.cells 101 [.ptr 0 0, .whole 1])).push (.gone))) := by
  unfold g_strings_Builder_String at H
  refine Go.Q.Spec.of_bodyR (az := []) (rs := [.tmp 2]) (nt := 14) Try.func75 rfl rfl (by intro t T h; simp at h) rfl rfl fun cx hnp => ?_
  refine WP.seq ?_
  refine WP.region ?_
  refine WPL.q (q_as (v := .lit (.string _)) rfl) rfl ?_
  refine WPL.nilW ?_
  refine W.now ?_
  refine Then.n ?_
  refine WP.seq ?_
  refine WP.regionD' 12 [0] [] mixed rfl ?_
  refine WPD.takeT 0 rfl (by kernel_rfl) (q_mv (v := .ptr _ _) rfl) rfl ?_
  refine WPD.takeT 1 rfl (by kernel_rfl) (q_nilCheck rfl) rfl ?_
  refine WPD.takeT 2 rfl (by kernel_rfl) (q_fieldAddr fi101_1 rfl rfl) rfl ?_
  refine WPD.takeT 5 rfl (by kernel_rfl) (q_mv (v := .ptr _ _) rfl) rfl ?_
  refine WPD.takeT 6 rfl (by kernel_rfl) (q_nilCheck rfl) rfl ?_
  refine WPD.takeT 7 rfl (by kernel_rfl) (q_fieldAddr fi101_1 rfl rfl) rfl ?_
  refine WPD.take 3 rfl (by kernel_rfl) (q_load sc89 rfl rfl rfl) rfl rfl ?_
  refine WPD.take 8 rfl (by kernel_rfl) (q_load sc89 rfl rfl rfl) rfl rfl ?_
  refine WPD.takeT 9 rfl (by kernel_rfl) (q_len_row sl89 rfl rfl) rfl ?_
  refine WPD.splitB (decide (List.length x9137 = 0)) (fun hb9141 => ?_) (fun hb9141 => ?_)
  · replace H := cnt hb9141 H
    refine WPD.eff 4 [0] [] rfl (by kernel_rfl) (Does.runs (d_sliceData0 Try.underlying110 rfl rfl hb9141)) rfl rfl ?_
    refine WPD.eff 10 [0] [] rfl (by kernel_rfl) (Does.runs (Quiet.does (q_unsafeStr0 rfl rfl (len0 hb9141)))) rfl rfl ?_
    refine WPD.takeT 11 rfl (by kernel_rfl) (q_as (v := .lit (.string _)) rfl) rfl ?_
    refine WPD.doneW (by kernel_rfl) ?_
    refine W.now ?_
    refine Then.n ?_
    refine WP.retW ?_
    refine W.now ?_
    have q0 := Option.some.inj H
    subst q0
    exact ⟨trivial, _, rfl, [0, 1], (.lit (.string ByteArray.empty)), ((Mem.nil.push (.cells 101 [.ptr 0 0, .whole 1])).push (.row 5 (Rd.int .u8) x9137)), ⟨rfl, ⟨⟨trivial, .inr ⟨rfl, rfl, rfl⟩⟩, .inr ⟨rfl, rfl, rfl⟩⟩, by decide, rfl, ⟨trivial, rfl⟩⟩, rfl, rfl, rfl, rfl⟩
  · replace H := cnf hb9141 H
    refine WPD.eff 4 [0] [] rfl (by kernel_rfl) (Does.runs (Quiet.does (q_sliceData rfl rfl hb9141))) rfl rfl ?_
    refine WPD.eff 10 [0] [] rfl (by kernel_rfl) (Does.runs (d_unsafeStr Try.underlying110 (by kernel_rfl) rfl rfl rfl hb9141 rfl)) rfl rfl ?_
    refine WPD.takeT 11 rfl (by kernel_rfl) (q_as (v := .lit (.string _)) rfl) rfl ?_
    refine WPD.doneW (by kernel_rfl) ?_
    refine W.now ?_
    refine Then.n ?_
    refine WP.retW ?_
    refine W.now ?_
    have q0 := Option.some.inj H
    subst q0
    exact ⟨trivial, _, rfl, [0, 1], (.lit (.string (strOf x9137))), ((Mem.nil.push (.cells 101 [.ptr 0 0, .whole 1])).push (.gone)), ⟨rfl, ⟨⟨trivial, .inr ⟨rfl, rfl, rfl⟩⟩, .inl rfl⟩, by decide, rfl, ⟨trivial, rfl⟩⟩, rfl, rfl, rfl, rfl⟩
set_option maxRecDepth 100000 in
set_option maxHeartbeats 4000000 in
theorem s_strings_Repeat (k : Nat) (x8856 : ByteArray) (x8857 : Int) (x9172 : ByteArray) (H : g_strings_Repeat k x8856 x8857 = some x9172) : Go.Q.Spec Try.prog 66 0 [.lit (.string x8856), .lit (.int .i64 x8857)] Mem.nil (fun o M => o = .ret (.lit (.string x9172)) ∧ M = Mem.nil) := by
  unfold g_strings_Repeat at H
  refine Go.Q.Spec.of_bodyR (az := []) (rs := [.tmp 4]) (nt := 125) Try.func66 rfl rfl (by intro t T h; simp at h) rfl rfl fun cx hnp => ?_
  refine WP.seq ?_
  refine WP.region ?_
  refine WPL.q (q_as (v := .lit (.string _)) rfl) rfl ?_
  refine WPL.nilW ?_
  refine W.now ?_
  refine Then.n ?_
  refine WP.seq ?_
  refine WP.seq ?_
  refine WP.region ?_
  refine WPL.q (q_mv (v := .lit (.int _ _)) rfl) rfl ?_
  refine WPL.nilW ?_
  refine W.now ?_
  refine Then.n ?_
  refine WP.block ?_
  refine WP.seq ?_
  refine WP.region ?_
  refine WPL.q (q_eql rfl rfl) rfl ?_
  refine WPL.q (q_as (v := .lit (.bool _)) rfl) rfl ?_
  refine WPL.nilW ?_
  refine W.now ?_
  refine Then.n ?_
  refine WP.cond (t := (decide (x8857 = 0))) rfl (fun hb9174 => ?_) (fun hb9174 => ?_)
  · replace H := cnt hb9174 H
    refine WP.seq ?_
    refine WP.region ?_
    refine WPL.q (q_as (v := .lit (.string _)) rfl) rfl ?_
    refine WPL.nilW ?_
    refine W.now ?_
    refine Then.n ?_
    refine WP.retW ?_
    refine W.now ?_
    refine InBlock.r ?_
    refine Then.r ?_
    have q0 := (Option.some.inj H)
    subst q0
    exact ⟨trivial, _, rfl, [], (.lit (.string (ByteArray.mk #[]))), Mem.nil, ⟨rfl, trivial, by decide, rfl, trivial⟩, rfl, rfl, rfl, rfl⟩
  · replace H := cnf hb9174 H
    refine WP.seq ?_
    refine WP.region ?_
    refine WPL.q (q_eql rfl rfl) rfl ?_
    refine WPL.q (q_as (v := .lit (.bool _)) rfl) rfl ?_
    refine WPL.nilW ?_
    refine W.now ?_
    refine Then.n ?_
    refine WP.cond (t := (decide (x8857 = 1))) rfl (fun hb9175 => ?_) (fun hb9175 => ?_)
    · replace H := cnt hb9175 H
      refine WP.seq ?_
      refine WP.region ?_
      refine WPL.q (q_mv (v := .lit (.string _)) rfl) rfl ?_
      refine WPL.q (q_as (v := .lit (.string _)) rfl) rfl ?_
      refine WPL.nilW ?_
      refine W.now ?_
      refine Then.n ?_
      refine WP.retW ?_
      refine W.now ?_
      refine InBlock.r ?_
      refine Then.r ?_
      have q0 := (Option.some.inj H)
      subst q0
      exact ⟨trivial, _, rfl, [], (.lit (.string x8856)), Mem.nil, ⟨rfl, trivial, by decide, rfl, trivial⟩, rfl, rfl, rfl, rfl⟩
    · replace H := cnf hb9175 H
      refine WP.skipW ?_
      refine W.now ?_
      refine InBlock.n ?_
      refine Then.n ?_
      refine WP.seq ?_
      refine WP.seq ?_
      refine WP.region ?_
      refine WPL.q (q_mv (v := .lit (.int _ _)) rfl) rfl ?_
      refine WPL.q (q_lss rfl rfl) rfl ?_
      refine WPL.nilW ?_
      refine W.now ?_
      refine Then.n ?_
      refine WP.cond (t := (decide (x8857 < 0))) rfl (fun hb9177 => ?_) (fun hb9177 => ?_)
      · replace H := cnt hb9177 H
        refine WP.region ?_
        refine WPL.q (q_mki cn9) rfl ?_
        exact nf rfl H
      · replace H := cnf hb9177 H
        refine WP.skipW ?_
        refine W.now ?_
        refine Then.n ?_
        refine WP.seq ?_
        refine WP.region ?_
        refine WPL.q (q_mv (v := .lit (.string _)) rfl) rfl ?_
        refine WPL.q (q_len_str Try.underlying9 rfl) rfl ?_
        obtain ⟨x9179, h9179, H⟩ := bnd H
        refine WPL.q (q_nm (q_conv Try.underlying3 Try.underlying92 rfl) (nm_int h9179)) rfl ?_
        refine WPL.q (q_mv (v := .lit (.int _ _)) rfl) rfl ?_
        refine WPL.q (q_conv Try.underlying3 Try.underlying92 rfl) rfl ?_
        obtain ⟨x9181, h9179, H⟩ := bnd H
        refine WPL.c (runs_call (s := []) (t := []) (N := 0) (bor := []) fn70 rfl (s_math_bits_Mul k x9179 (IntKind.wrap .u64 x8857) x9181 h9179) ⟨rfl, trivial, by decide, rfl, trivial⟩ rfl trivial (.ren rfl rfl (.ren rfl rfl .nil)) rfl trivial rfl) rfl ?_
        refine WPL.q (q_mv (v := .tup _) rfl) rfl ?_
        refine WPL.q (q_extract rfl rfl) rfl ?_
        refine WPL.q (q_extract rfl rfl) rfl ?_
        refine WPL.q (q_as (v := .lit (.int _ _)) rfl) rfl ?_
        refine WPL.q (q_as (v := .lit (.int _ _)) rfl) rfl ?_
        refine WPL.nilW ?_
        refine W.now ?_
        refine Then.n ?_
        refine WP.seq ?_
        refine WP.seq ?_
        obtain ⟨x9191, H9193, H⟩ := bnd H
        refine WP.monoW (Q := fun x E M => x = .normal ∧ E = (((Env.none.upd 0 (.lit (.string x8856))).upd 6 (.lit (.int .u64 (IntKind.wrap .u64 (x9179 * (IntKind.wrap .u64 x8857)))))).upd 34 (.lit (.bool x9191))) ∧ M = Mem.nil) ?_ ?_
        · clear H
          have H := H9193
          clear H9193
          refine WP.region ?_
          refine WPL.q (q_mv (v := .lit (.int _ _)) rfl) rfl ?_
          refine WPL.q (q_gtr rfl rfl) rfl ?_
          refine WPL.q (q_mv (v := .lit (.bool _)) rfl) rfl ?_
          refine WPL.split (t := 31) (b := (decide (0 < x9181))) rfl (fun hb9191 => ?_) (fun hb9191 => ?_)
          · replace H := cnt hb9191 H
            refine WPL.skipg (b' := true) rfl rfl (lb hb9191) rfl rfl ?_
            refine WPL.skipg (b' := true) rfl rfl (lb hb9191) rfl rfl ?_
            refine WPL.q (q_pickT (v := .lit (.bool _)) (lb hb9191) rfl) rfl ?_
            refine WPL.nilW ?_
            refine W.cv (Cv.weak (E' := (((Env.none.upd 0 (.lit (.string x8856))).upd 6 (.lit (.int .u64 (IntKind.wrap .u64 (x9179 * (IntKind.wrap .u64 x8857)))))).upd 34 (.lit (.bool true)))) (M' := Mem.nil) [] hnp ⟨rfl, trivial, by decide, rfl, trivial⟩ (LeE.upd rfl rfl (LeE.upd rfl rfl (LeE.upd rfl rfl (LeE.none rfl rfl))))) rfl ?_
            refine W.now ?_
            have q0 := (Option.some.inj H)
            subst q0
            exact ⟨rfl, rfl, rfl⟩
          · replace H := cnf hb9191 H
            refine WPL.qg rfl rfl (lb hb9191) (q_mv (v := .lit (.int _ _)) rfl) rfl ?_
            obtain ⟨x9193, h9193, H⟩ := bnd H
            refine WPL.qg rfl rfl (lb hb9191) (q_nm (q_gtr rfl rfl) (nm_bool h9193)) rfl ?_
            refine WPL.q (q_pickF (v := .lit (.bool _)) (lb hb9191) rfl) rfl ?_
            refine WPL.nilW ?_
            refine W.cv (Cv.weak (E' := (((Env.none.upd 0 (.lit (.string x8856))).upd 6 (.lit (.int .u64 (IntKind.wrap .u64 (x9179 * (IntKind.wrap .u64 x8857)))))).upd 34 (.lit (.bool x9193)))) (M' := Mem.nil) [] hnp ⟨rfl, trivial, by decide, rfl, trivial⟩ (LeE.upd rfl rfl (LeE.upd rfl rfl (LeE.upd rfl rfl (LeE.none rfl rfl))))) rfl ?_
            refine W.now ?_
            have q0 := (Option.some.inj H)
            subst q0
            exact ⟨rfl, rfl, rfl⟩
        · rintro _ _ _ ⟨rfl, rfl, rfl⟩
          refine W.now ?_
          refine Then.n ?_
          refine WP.cond (t := x9191) rfl (fun hb9194 => ?_) (fun hb9194 => ?_)
          · replace H := cnt hb9194 H
            refine WP.region ?_
            refine WPL.q (q_mki cn9) rfl ?_
            exact nf rfl H
          · replace H := cnf hb9194 H
            refine WP.skipW ?_
            refine W.now ?_
            refine Then.n ?_
            refine WP.seq ?_
            refine WP.region ?_
            refine WPL.q (q_mv (v := .lit (.int _ _)) rfl) rfl ?_
            obtain ⟨x9196, h9196, H⟩ := bnd H
            refine WPL.q (q_nm (q_conv Try.underlying92 Try.underlying3 rfl) (nm_int h9196)) rfl ?_
            refine WPL.q (q_as (v := .lit (.int _ _)) rfl) rfl ?_
            refine WPL.nilW ?_
            refine W.now ?_
            refine Then.n ?_
            refine WP.seq ?_
            refine WP.seq ?_
            refine WP.region ?_
            refine WPL.q (q_mv (v := .lit (.string _)) rfl) rfl ?_
            refine WPL.q (q_len_str Try.underlying9 rfl) rfl ?_
            obtain ⟨x9199, h9199, H⟩ := bnd H
            refine WPL.q (q_nm (q_eql rfl rfl) (nm_bool h9199)) rfl ?_
            refine WPL.nilW ?_
            refine W.now ?_
            refine Then.n ?_
            refine WP.cond (t := x9199) rfl (fun hb9199 => ?_) (fun hb9199 => ?_)
            · replace H := cnt hb9199 H
              refine WP.seq ?_
              refine WP.region ?_
              refine WPL.q (q_as (v := .lit (.string _)) rfl) rfl ?_
              refine WPL.nilW ?_
              refine W.now ?_
              refine Then.n ?_
              refine WP.retW ?_
              refine W.now ?_
              refine Then.r ?_
              have q0 := (Option.some.inj H)
              subst q0
              exact ⟨trivial, _, rfl, [], (.lit (.string (ByteArray.mk #[]))), Mem.nil, ⟨rfl, trivial, by decide, rfl, trivial⟩, rfl, rfl, rfl, rfl⟩
            · replace H := cnf hb9199 H
              refine WP.skipW ?_
              refine W.now ?_
              refine Then.n ?_
              refine WP.seq ?_
              obtain ⟨y9337, H9335, H⟩ := bnd H
              refine WP.monoW (Q := fun x E M => match (generalizing := false) y9337 with | (Sum.inl x9268) => x = .ret ∧ E = (Env.none.upd 4 (.lit (.string x9268))) ∧ M = Mem.nil | (Sum.inr _) => x = .normal ∧ E = ((Env.none.upd 0 (.lit (.string x8856))).upd 7 (.lit (.int .i64 x9196))) ∧ M = Mem.nil) ?_ ?_
              · clear H
                have H := H9335
                clear H9335
                refine WP.seq ?_
                refine WP.region ?_
                refine WPL.q (q_mv (v := .lit (.string _)) rfl) rfl ?_
                obtain ⟨x9269, h9269, H⟩ := bnd H
                refine WPL.q (q_index_str Try.underlying9 rfl rfl h9269) rfl ?_
                refine WPL.nilW ?_
                refine W.now ?_
                refine Then.n ?_
                refine WP.block ?_
                refine WP.seq ?_
                obtain ⟨x9274, H9278, H⟩ := bnd H
                refine WP.monoW (Q := fun x E M => x = .normal ∧ E = (((Env.none.upd 0 (.lit (.string x8856))).upd 7 (.lit (.int .i64 x9196))).upd 43 (.lit (.bool x9274))) ∧ M = Mem.nil) ?_ ?_
                · clear H
                  have H := H9278
                  clear H9278
                  refine WP.seq ?_
                  refine WP.region ?_
                  refine WPL.q (q_eql rfl rfl) rfl ?_
                  refine WPL.q (q_as (v := .lit (.bool _)) rfl) rfl ?_
                  refine WPL.nilW ?_
                  refine W.now ?_
                  refine Then.n ?_
                  refine WP.cond (t := (decide (x9269 = 32))) rfl (fun hb9274 => ?_) (fun hb9274 => ?_)
                  · replace H := cnt hb9274 H
                    refine WP.skipW ?_
                    refine W.cv (Cv.weak (E' := (((Env.none.upd 0 (.lit (.string x8856))).upd 7 (.lit (.int .i64 x9196))).upd 43 (.lit (.bool (decide (x9269 = 32)))))) (M' := Mem.nil) [] hnp ⟨rfl, trivial, by decide, rfl, trivial⟩ (LeE.upd rfl rfl (LeE.upd rfl rfl (LeE.upd rfl rfl (LeE.none rfl rfl))))) rfl ?_
                    refine W.now ?_
                    have q0 := (Option.some.inj H)
                    subst q0
                    exact ⟨rfl, rfl, rfl⟩
                  · replace H := cnf hb9274 H
                    refine WP.seq ?_
                    refine WP.region ?_
                    refine WPL.q (q_eql rfl rfl) rfl ?_
                    refine WPL.q (q_as (v := .lit (.bool _)) rfl) rfl ?_
                    refine WPL.nilW ?_
                    refine W.now ?_
                    refine Then.n ?_
                    refine WP.cond (t := (decide (x9269 = 45))) rfl (fun hb9275 => ?_) (fun hb9275 => ?_)
                    · replace H := cnt hb9275 H
                      refine WP.skipW ?_
                      refine W.cv (Cv.weak (E' := (((Env.none.upd 0 (.lit (.string x8856))).upd 7 (.lit (.int .i64 x9196))).upd 43 (.lit (.bool (decide (x9269 = 45)))))) (M' := Mem.nil) [] hnp ⟨rfl, trivial, by decide, rfl, trivial⟩ (LeE.upd rfl rfl (LeE.upd rfl rfl (LeE.upd rfl rfl (LeE.none rfl rfl))))) rfl ?_
                      refine W.now ?_
                      have q0 := (Option.some.inj H)
                      subst q0
                      exact ⟨rfl, rfl, rfl⟩
                    · replace H := cnf hb9275 H
                      refine WP.seq ?_
                      refine WP.region ?_
                      refine WPL.q (q_eql rfl rfl) rfl ?_
                      refine WPL.q (q_as (v := .lit (.bool _)) rfl) rfl ?_
                      refine WPL.nilW ?_
                      refine W.now ?_
                      refine Then.n ?_
                      refine WP.cond (t := (decide (x9269 = 48))) rfl (fun hb9276 => ?_) (fun hb9276 => ?_)
                      · replace H := cnt hb9276 H
                        refine WP.skipW ?_
                        refine W.cv (Cv.weak (E' := (((Env.none.upd 0 (.lit (.string x8856))).upd 7 (.lit (.int .i64 x9196))).upd 43 (.lit (.bool (decide (x9269 = 48)))))) (M' := Mem.nil) [] hnp ⟨rfl, trivial, by decide, rfl, trivial⟩ (LeE.upd rfl rfl (LeE.upd rfl rfl (LeE.upd rfl rfl (LeE.none rfl rfl))))) rfl ?_
                        refine W.now ?_
                        have q0 := (Option.some.inj H)
                        subst q0
                        exact ⟨rfl, rfl, rfl⟩
                      · replace H := cnf hb9276 H
                        refine WP.seq ?_
                        refine WP.region ?_
                        refine WPL.q (q_eql rfl rfl) rfl ?_
                        refine WPL.q (q_as (v := .lit (.bool _)) rfl) rfl ?_
                        refine WPL.nilW ?_
                        refine W.now ?_
                        refine Then.n ?_
                        refine WP.cond (t := (decide (x9269 = 61))) rfl (fun hb9277 => ?_) (fun hb9277 => ?_)
                        · replace H := cnt hb9277 H
                          refine WP.skipW ?_
                          refine W.cv (Cv.weak (E' := (((Env.none.upd 0 (.lit (.string x8856))).upd 7 (.lit (.int .i64 x9196))).upd 43 (.lit (.bool (decide (x9269 = 61)))))) (M' := Mem.nil) [] hnp ⟨rfl, trivial, by decide, rfl, trivial⟩ (LeE.upd rfl rfl (LeE.upd rfl rfl (LeE.upd rfl rfl (LeE.none rfl rfl))))) rfl ?_
                          refine W.now ?_
                          have q0 := (Option.some.inj H)
                          subst q0
                          exact ⟨rfl, rfl, rfl⟩
                        · replace H := cnf hb9277 H
                          refine WP.region ?_
                          refine WPL.q (q_eql rfl rfl) rfl ?_
                          refine WPL.q (q_as (v := .lit (.bool _)) rfl) rfl ?_
                          refine WPL.nilW ?_
                          refine W.cv (Cv.weak (E' := (((Env.none.upd 0 (.lit (.string x8856))).upd 7 (.lit (.int .i64 x9196))).upd 43 (.lit (.bool (decide (x9269 = 9)))))) (M' := Mem.nil) [] hnp ⟨rfl, trivial, by decide, rfl, trivial⟩ (LeE.upd rfl rfl (LeE.upd rfl rfl (LeE.upd rfl rfl (LeE.none rfl rfl))))) rfl ?_
                          refine W.now ?_
                          have q0 := (Option.some.inj H)
                          subst q0
                          exact ⟨rfl, rfl, rfl⟩
                · rintro _ _ _ ⟨rfl, rfl, rfl⟩
                  refine W.now ?_
                  refine Then.n ?_
                  refine WP.cond (t := x9274) rfl (fun hb9279 => ?_) (fun hb9279 => ?_)
                  · replace H := cnt hb9279 H
                    refine WP.block ?_
                    refine WP.seq ?_
                    obtain ⟨x9284, H9287, H⟩ := bnd H
                    refine WP.monoW (Q := fun x E M => x = .normal ∧ E = (((Env.none.upd 0 (.lit (.string x8856))).upd 7 (.lit (.int .i64 x9196))).upd 49 (.lit (.bool x9284))) ∧ M = Mem.nil) ?_ ?_
                    · clear H
                      have H := H9287
                      clear H9287
                      refine WP.region ?_
                      refine WPL.q (q_mv (v := .lit (.int _ _)) rfl) rfl ?_
                      refine WPL.q (q_leq rfl rfl) rfl ?_
                      refine WPL.q (q_mv (v := .lit (.bool _)) rfl) rfl ?_
                      refine WPL.split (t := 52) (b := (decide (x9196 ≤ 128))) rfl (fun hb9284 => ?_) (fun hb9284 => ?_)
                      · replace H := cnt hb9284 H
                        refine WPL.qg rfl rfl (lb hb9284) (q_mv (v := .lit (.string _)) rfl) rfl ?_
                        obtain ⟨x9287, h9285, H⟩ := bnd H
                        refine WPL.cg rfl rfl (lb hb9284) (runs_call (s := []) (t := []) (N := 0) (bor := []) fn71 rfl (s_strings_HasPrefix k (ByteArray.mk #[32, 32, 32, 32, 32, 32, 32, 32, 32, 32, 32, 32, 32, 32, 32, 32, 32, 32, 32, 32, 32, 32, 32, 32, 32, 32, 32, 32, 32, 32, 32, 32, 32, 32, 32, 32, 32, 32, 32, 32, 32, 32, 32, 32, 32, 32, 32, 32, 32, 32, 32, 32, 32, 32, 32, 32, 32, 32, 32, 32, 32, 32, 32, 32, 32, 32, 32, 32, 32, 32, 32, 32, 32, 32, 32, 32, 32, 32, 32, 32, 32, 32, 32, 32, 32, 32, 32, 32, 32, 32, 32, 32, 32, 32, 32, 32, 32, 32, 32, 32, 32, 32, 32, 32, 32, 32, 32, 32, 32, 32, 32, 32, 32, 32, 32, 32, 32, 32, 32, 32, 32, 32, 32, 32, 32, 32, 32, 32]) x8856 x9287 h9285) ⟨rfl, trivial, by decide, rfl, trivial⟩ rfl trivial (.ren rfl rfl (.ren rfl rfl .nil)) rfl trivial rfl) rfl ?_
                        refine WPL.q (q_pickT (v := .lit (.bool _)) (lb hb9284) rfl) rfl ?_
                        refine WPL.q (q_as (v := .lit (.bool _)) rfl) rfl ?_
                        refine WPL.nilW ?_
                        refine W.cv (Cv.weak (E' := (((Env.none.upd 0 (.lit (.string x8856))).upd 7 (.lit (.int .i64 x9196))).upd 49 (.lit (.bool x9287)))) (M' := Mem.nil) [] hnp ⟨rfl, trivial, by decide, rfl, trivial⟩ (LeE.upd rfl rfl (LeE.upd rfl rfl (LeE.upd rfl rfl (LeE.none rfl rfl))))) rfl ?_
                        refine W.now ?_
                        have q0 := (Option.some.inj H)
                        subst q0
                        exact ⟨rfl, rfl, rfl⟩
                      · replace H := cnf hb9284 H
                        refine WPL.skipg (b' := false) rfl rfl (lb hb9284) rfl rfl ?_
                        refine WPL.skipg (b' := false) rfl rfl (lb hb9284) rfl rfl ?_
                        refine WPL.q (q_pickF (v := .lit (.bool _)) (lb hb9284) rfl) rfl ?_
                        refine WPL.q (q_as (v := .lit (.bool _)) rfl) rfl ?_
                        refine WPL.nilW ?_
                        refine W.cv (Cv.weak (E' := (((Env.none.upd 0 (.lit (.string x8856))).upd 7 (.lit (.int .i64 x9196))).upd 49 (.lit (.bool false)))) (M' := Mem.nil) [] hnp ⟨rfl, trivial, by decide, rfl, trivial⟩ (LeE.upd rfl rfl (LeE.upd rfl rfl (LeE.upd rfl rfl (LeE.none rfl rfl))))) rfl ?_
                        refine W.now ?_
                        have q0 := (Option.some.inj H)
                        subst q0
                        exact ⟨rfl, rfl, rfl⟩
                    · rintro _ _ _ ⟨rfl, rfl, rfl⟩
                      refine W.now ?_
                      refine Then.n ?_
                      refine WP.cond (t := x9284) rfl (fun hb9288 => ?_) (fun hb9288 => ?_)
                      · replace H := cnt hb9288 H
                        refine WP.seq ?_
                        refine WP.region ?_
                        refine WPL.q (q_mv (v := .lit (.int _ _)) rfl) rfl ?_
                        obtain ⟨h9289, H⟩ := grd H
                        obtain ⟨x9291, h9291, H⟩ := bnd H
                        refine WPL.q (q_nm (q_slice_str (i := 0) (j := x9196) Try.underlying9 rfl rfl ⟨_, rfl⟩ h9289) (nm_str h9291)) rfl ?_
                        refine WPL.q (q_as (v := .lit (.string _)) rfl) rfl ?_
                        refine WPL.nilW ?_
                        refine W.now ?_
                        refine Then.n ?_
                        refine WP.retW ?_
                        refine W.cv (Cv.weak (E' := (Env.none.upd 4 (.lit (.string x9291)))) (M' := Mem.nil) [] hnp ⟨rfl, trivial, by decide, rfl, trivial⟩ (LeE.upd rfl rfl (LeE.none rfl rfl))) rfl ?_
                        refine W.now ?_
                        refine InBlock.r ?_
                        refine InBlock.r ?_
                        have q0 := Option.some.inj H
                        subst q0
                        exact ⟨rfl, rfl, rfl⟩
                      · replace H := cnf hb9288 H
                        refine WP.seq ?_
                        obtain ⟨x9295, H9298, H⟩ := bnd H
                        refine WP.monoW (Q := fun x E M => x = .normal ∧ E = (((Env.none.upd 0 (.lit (.string x8856))).upd 7 (.lit (.int .i64 x9196))).upd 58 (.lit (.bool x9295))) ∧ M = Mem.nil) ?_ ?_
                        · clear H
                          have H := H9298
                          clear H9298
                          refine WP.region ?_
                          refine WPL.q (q_mv (v := .lit (.int _ _)) rfl) rfl ?_
                          refine WPL.q (q_leq rfl rfl) rfl ?_
                          refine WPL.q (q_mv (v := .lit (.bool _)) rfl) rfl ?_
                          refine WPL.split (t := 61) (b := (decide (x9196 ≤ 128))) rfl (fun hb9295 => ?_) (fun hb9295 => ?_)
                          · replace H := cnt hb9295 H
                            refine WPL.qg rfl rfl (lb hb9295) (q_mv (v := .lit (.string _)) rfl) rfl ?_
                            obtain ⟨x9298, h9296, H⟩ := bnd H
                            refine WPL.cg rfl rfl (lb hb9295) (runs_call (s := []) (t := []) (N := 0) (bor := []) fn71 rfl (s_strings_HasPrefix k (ByteArray.mk #[45, 45, 45, 45, 45, 45, 45, 45, 45, 45, 45, 45, 45, 45, 45, 45, 45, 45, 45, 45, 45, 45, 45, 45, 45, 45, 45, 45, 45, 45, 45, 45, 45, 45, 45, 45, 45, 45, 45, 45, 45, 45, 45, 45, 45, 45, 45, 45, 45, 45, 45, 45, 45, 45, 45, 45, 45, 45, 45, 45, 45, 45, 45, 45, 45, 45, 45, 45, 45, 45, 45, 45, 45, 45, 45, 45, 45, 45, 45, 45, 45, 45, 45, 45, 45, 45, 45, 45, 45, 45, 45, 45, 45, 45, 45, 45, 45, 45, 45, 45, 45, 45, 45, 45, 45, 45, 45, 45, 45, 45, 45, 45, 45, 45, 45, 45, 45, 45, 45, 45, 45, 45, 45, 45, 45, 45, 45, 45]) x8856 x9298 h9296) ⟨rfl, trivial, by decide, rfl, trivial⟩ rfl trivial (.ren rfl rfl (.ren rfl rfl .nil)) rfl trivial rfl) rfl ?_
                            refine WPL.q (q_pickT (v := .lit (.bool _)) (lb hb9295) rfl) rfl ?_
                            refine WPL.q (q_as (v := .lit (.bool _)) rfl) rfl ?_
                            refine WPL.nilW ?_
                            refine W.cv (Cv.weak (E' := (((Env.none.upd 0 (.lit (.string x8856))).upd 7 (.lit (.int .i64 x9196))).upd 58 (.lit (.bool x9298)))) (M' := Mem.nil) [] hnp ⟨rfl, trivial, by decide, rfl, trivial⟩ (LeE.upd rfl rfl (LeE.upd rfl rfl (LeE.upd rfl rfl (LeE.none rfl rfl))))) rfl ?_
                            refine W.now ?_
                            have q0 := (Option.some.inj H)
                            subst q0
                            exact ⟨rfl, rfl, rfl⟩
                          · replace H := cnf hb9295 H
                            refine WPL.skipg (b' := false) rfl rfl (lb hb9295) rfl rfl ?_
                            refine WPL.skipg (b' := false) rfl rfl (lb hb9295) rfl rfl ?_
                            refine WPL.q (q_pickF (v := .lit (.bool _)) (lb hb9295) rfl) rfl ?_
                            refine WPL.q (q_as (v := .lit (.bool _)) rfl) rfl ?_
                            refine WPL.nilW ?_
                            refine W.cv (Cv.weak (E' := (((Env.none.upd 0 (.lit (.string x8856))).upd 7 (.lit (.int .i64 x9196))).upd 58 (.lit (.bool false)))) (M' := Mem.nil) [] hnp ⟨rfl, trivial, by decide, rfl, trivial⟩ (LeE.upd rfl rfl (LeE.upd rfl rfl (LeE.upd rfl rfl (LeE.none rfl rfl))))) rfl ?_
                            refine W.now ?_
                            have q0 := (Option.some.inj H)
                            subst q0
                            exact ⟨rfl, rfl, rfl⟩
                        · rintro _ _ _ ⟨rfl, rfl, rfl⟩
                          refine W.now ?_
                          refine Then.n ?_
                          refine WP.cond (t := x9295) rfl (fun hb9299 => ?_) (fun hb9299 => ?_)
                          · replace H := cnt hb9299 H
                            refine WP.seq ?_
                            refine WP.region ?_
                            refine WPL.q (q_mv (v := .lit (.int _ _)) rfl) rfl ?_
                            obtain ⟨h9300, H⟩ := grd H
                            obtain ⟨x9302, h9302, H⟩ := bnd H
                            refine WPL.q (q_nm (q_slice_str (i := 0) (j := x9196) Try.underlying9 rfl rfl ⟨_, rfl⟩ h9300) (nm_str h9302)) rfl ?_
                            refine WPL.q (q_as (v := .lit (.string _)) rfl) rfl ?_
                            refine WPL.nilW ?_
                            refine W.now ?_
                            refine Then.n ?_
                            refine WP.retW ?_
                            refine W.cv (Cv.weak (E' := (Env.none.upd 4 (.lit (.string x9302)))) (M' := Mem.nil) [] hnp ⟨rfl, trivial, by decide, rfl, trivial⟩ (LeE.upd rfl rfl (LeE.none rfl rfl))) rfl ?_
                            refine W.now ?_
                            refine InBlock.r ?_
                            refine InBlock.r ?_
                            have q0 := Option.some.inj H
                            subst q0
                            exact ⟨rfl, rfl, rfl⟩
                          · replace H := cnf hb9299 H
                            refine WP.seq ?_
                            obtain ⟨x9306, H9309, H⟩ := bnd H
                            refine WP.monoW (Q := fun x E M => x = .normal ∧ E = (((Env.none.upd 0 (.lit (.string x8856))).upd 7 (.lit (.int .i64 x9196))).upd 67 (.lit (.bool x9306))) ∧ M = Mem.nil) ?_ ?_
                            · clear H
                              have H := H9309
                              clear H9309
                              refine WP.region ?_
                              refine WPL.q (q_mv (v := .lit (.int _ _)) rfl) rfl ?_
                              refine WPL.q (q_leq rfl rfl) rfl ?_
                              refine WPL.q (q_mv (v := .lit (.bool _)) rfl) rfl ?_
                              refine WPL.split (t := 70) (b := (decide (x9196 ≤ 64))) rfl (fun hb9306 => ?_) (fun hb9306 => ?_)
                              · replace H := cnt hb9306 H
                                refine WPL.qg rfl rfl (lb hb9306) (q_mv (v := .lit (.string _)) rfl) rfl ?_
                                obtain ⟨x9309, h9307, H⟩ := bnd H
                                refine WPL.cg rfl rfl (lb hb9306) (runs_call (s := []) (t := []) (N := 0) (bor := []) fn71 rfl (s_strings_HasPrefix k (ByteArray.mk #[48, 48, 48, 48, 48, 48, 48, 48, 48, 48, 48, 48, 48, 48, 48, 48, 48, 48, 48, 48, 48, 48, 48, 48, 48, 48, 48, 48, 48, 48, 48, 48, 48, 48, 48, 48, 48, 48, 48, 48, 48, 48, 48, 48, 48, 48, 48, 48, 48, 48, 48, 48, 48, 48, 48, 48, 48, 48, 48, 48, 48, 48, 48, 48]) x8856 x9309 h9307) ⟨rfl, trivial, by decide, rfl, trivial⟩ rfl trivial (.ren rfl rfl (.ren rfl rfl .nil)) rfl trivial rfl) rfl ?_
                                refine WPL.q (q_pickT (v := .lit (.bool _)) (lb hb9306) rfl) rfl ?_
                                refine WPL.q (q_as (v := .lit (.bool _)) rfl) rfl ?_
                                refine WPL.nilW ?_
                                refine W.cv (Cv.weak (E' := (((Env.none.upd 0 (.lit (.string x8856))).upd 7 (.lit (.int .i64 x9196))).upd 67 (.lit (.bool x9309)))) (M' := Mem.nil) [] hnp ⟨rfl, trivial, by decide, rfl, trivial⟩ (LeE.upd rfl rfl (LeE.upd rfl rfl (LeE.upd rfl rfl (LeE.none rfl rfl))))) rfl ?_
                                refine W.now ?_
                                have q0 := (Option.some.inj H)
                                subst q0
                                exact ⟨rfl, rfl, rfl⟩
                              · replace H := cnf hb9306 H
                                refine WPL.skipg (b' := false) rfl rfl (lb hb9306) rfl rfl ?_
                                refine WPL.skipg (b' := false) rfl rfl (lb hb9306) rfl rfl ?_
                                refine WPL.q (q_pickF (v := .lit (.bool _)) (lb hb9306) rfl) rfl ?_
                                refine WPL.q (q_as (v := .lit (.bool _)) rfl) rfl ?_
                                refine WPL.nilW ?_
                                refine W.cv (Cv.weak (E' := (((Env.none.upd 0 (.lit (.string x8856))).upd 7 (.lit (.int .i64 x9196))).upd 67 (.lit (.bool false)))) (M' := Mem.nil) [] hnp ⟨rfl, trivial, by decide, rfl, trivial⟩ (LeE.upd rfl rfl (LeE.upd rfl rfl (LeE.upd rfl rfl (LeE.none rfl rfl))))) rfl ?_
                                refine W.now ?_
                                have q0 := (Option.some.inj H)
                                subst q0
                                exact ⟨rfl, rfl, rfl⟩
                            · rintro _ _ _ ⟨rfl, rfl, rfl⟩
                              refine W.now ?_
                              refine Then.n ?_
                              refine WP.cond (t := x9306) rfl (fun hb9310 => ?_) (fun hb9310 => ?_)
                              · replace H := cnt hb9310 H
                                refine WP.seq ?_
                                refine WP.region ?_
                                refine WPL.q (q_mv (v := .lit (.int _ _)) rfl) rfl ?_
                                obtain ⟨h9311, H⟩ := grd H
                                obtain ⟨x9313, h9313, H⟩ := bnd H
                                refine WPL.q (q_nm (q_slice_str (i := 0) (j := x9196) Try.underlying9 rfl rfl ⟨_, rfl⟩ h9311) (nm_str h9313)) rfl ?_
                                refine WPL.q (q_as (v := .lit (.string _)) rfl) rfl ?_
                                refine WPL.nilW ?_
                                refine W.now ?_
                                refine Then.n ?_
                                refine WP.retW ?_
                                refine W.cv (Cv.weak (E' := (Env.none.upd 4 (.lit (.string x9313)))) (M' := Mem.nil) [] hnp ⟨rfl, trivial, by decide, rfl, trivial⟩ (LeE.upd rfl rfl (LeE.none rfl rfl))) rfl ?_
                                refine W.now ?_
                                refine InBlock.r ?_
                                refine InBlock.r ?_
                                have q0 := Option.some.inj H
                                subst q0
                                exact ⟨rfl, rfl, rfl⟩
                              · replace H := cnf hb9310 H
                                refine WP.seq ?_
                                obtain ⟨x9317, H9320, H⟩ := bnd H
                                refine WP.monoW (Q := fun x E M => x = .normal ∧ E = (((Env.none.upd 0 (.lit (.string x8856))).upd 7 (.lit (.int .i64 x9196))).upd 76 (.lit (.bool x9317))) ∧ M = Mem.nil) ?_ ?_
                                · clear H
                                  have H := H9320
                                  clear H9320
                                  refine WP.region ?_
                                  refine WPL.q (q_mv (v := .lit (.int _ _)) rfl) rfl ?_
                                  refine WPL.q (q_leq rfl rfl) rfl ?_
                                  refine WPL.q (q_mv (v := .lit (.bool _)) rfl) rfl ?_
                                  refine WPL.split (t := 79) (b := (decide (x9196 ≤ 128))) rfl (fun hb9317 => ?_) (fun hb9317 => ?_)
                                  · replace H := cnt hb9317 H
                                    refine WPL.qg rfl rfl (lb hb9317) (q_mv (v := .lit (.string _)) rfl) rfl ?_
                                    obtain ⟨x9320, h9318, H⟩ := bnd H
                                    refine WPL.cg rfl rfl (lb hb9317) (runs_call (s := []) (t := []) (N := 0) (bor := []) fn71 rfl (s_strings_HasPrefix k (ByteArray.mk #[61, 61, 61, 61, 61, 61, 61, 61, 61, 61, 61, 61, 61, 61, 61, 61, 61, 61, 61, 61, 61, 61, 61, 61, 61, 61, 61, 61, 61, 61, 61, 61, 61, 61, 61, 61, 61, 61, 61, 61, 61, 61, 61, 61, 61, 61, 61, 61, 61, 61, 61, 61, 61, 61, 61, 61, 61, 61, 61, 61, 61, 61, 61, 61, 61, 61, 61, 61, 61, 61, 61, 61, 61, 61, 61, 61, 61, 61, 61, 61, 61, 61, 61, 61, 61, 61, 61, 61, 61, 61, 61, 61, 61, 61, 61, 61, 61, 61, 61, 61, 61, 61, 61, 61, 61, 61, 61, 61, 61, 61, 61, 61, 61, 61, 61, 61, 61, 61, 61, 61, 61, 61, 61, 61, 61, 61, 61, 61]) x8856 x9320 h9318) ⟨rfl, trivial, by decide, rfl, trivial⟩ rfl trivial (.ren rfl rfl (.ren rfl rfl .nil)) rfl trivial rfl) rfl ?_
                                    refine WPL.q (q_pickT (v := .lit (.bool _)) (lb hb9317) rfl) rfl ?_
                                    refine WPL.q (q_as (v := .lit (.bool _)) rfl) rfl ?_
                                    refine WPL.nilW ?_
                                    refine W.cv (Cv.weak (E' := (((Env.none.upd 0 (.lit (.string x8856))).upd 7 (.lit (.int .i64 x9196))).upd 76 (.lit (.bool x9320)))) (M' := Mem.nil) [] hnp ⟨rfl, trivial, by decide, rfl, trivial⟩ (LeE.upd rfl rfl (LeE.upd rfl rfl (LeE.upd rfl rfl (LeE.none rfl rfl))))) rfl ?_
                                    refine W.now ?_
                                    have q0 := (Option.some.inj H)
                                    subst q0
                                    exact ⟨rfl, rfl, rfl⟩
                                  · replace H := cnf hb9317 H
                                    refine WPL.skipg (b' := false) rfl rfl (lb hb9317) rfl rfl ?_
                                    refine WPL.skipg (b' := false) rfl rfl (lb hb9317) rfl rfl ?_
                                    refine WPL.q (q_pickF (v := .lit (.bool _)) (lb hb9317) rfl) rfl ?_
                                    refine WPL.q (q_as (v := .lit (.bool _)) rfl) rfl ?_
                                    refine WPL.nilW ?_
                                    refine W.cv (Cv.weak (E' := (((Env.none.upd 0 (.lit (.string x8856))).upd 7 (.lit (.int .i64 x9196))).upd 76 (.lit (.bool false)))) (M' := Mem.nil) [] hnp ⟨rfl, trivial, by decide, rfl, trivial⟩ (LeE.upd rfl rfl (LeE.upd rfl rfl (LeE.upd rfl rfl (LeE.none rfl rfl))))) rfl ?_
                                    refine W.now ?_
                                    have q0 := (Option.some.inj H)
                                    subst q0
                                    exact ⟨rfl, rfl, rfl⟩
                                · rintro _ _ _ ⟨rfl, rfl, rfl⟩
                                  refine W.now ?_
                                  refine Then.n ?_
                                  refine WP.cond (t := x9317) rfl (fun hb9321 => ?_) (fun hb9321 => ?_)
                                  · replace H := cnt hb9321 H
                                    refine WP.seq ?_
                                    refine WP.region ?_
                                    refine WPL.q (q_mv (v := .lit (.int _ _)) rfl) rfl ?_
                                    obtain ⟨h9322, H⟩ := grd H
                                    obtain ⟨x9324, h9324, H⟩ := bnd H
                                    refine WPL.q (q_nm (q_slice_str (i := 0) (j := x9196) Try.underlying9 rfl rfl ⟨_, rfl⟩ h9322) (nm_str h9324)) rfl ?_
                                    refine WPL.q (q_as (v := .lit (.string _)) rfl) rfl ?_
                                    refine WPL.nilW ?_
                                    refine W.now ?_
                                    refine Then.n ?_
                                    refine WP.retW ?_
                                    refine W.cv (Cv.weak (E' := (Env.none.upd 4 (.lit (.string x9324)))) (M' := Mem.nil) [] hnp ⟨rfl, trivial, by decide, rfl, trivial⟩ (LeE.upd rfl rfl (LeE.none rfl rfl))) rfl ?_
                                    refine W.now ?_
                                    refine InBlock.r ?_
                                    refine InBlock.r ?_
                                    have q0 := Option.some.inj H
                                    subst q0
                                    exact ⟨rfl, rfl, rfl⟩
                                  · replace H := cnf hb9321 H
                                    refine WP.seq ?_
                                    obtain ⟨x9328, H9331, H⟩ := bnd H
                                    refine WP.monoW (Q := fun x E M => x = .normal ∧ E = (((Env.none.upd 0 (.lit (.string x8856))).upd 7 (.lit (.int .i64 x9196))).upd 85 (.lit (.bool x9328))) ∧ M = Mem.nil) ?_ ?_
                                    · clear H
                                      have H := H9331
                                      clear H9331
                                      refine WP.region ?_
                                      refine WPL.q (q_mv (v := .lit (.int _ _)) rfl) rfl ?_
                                      refine WPL.q (q_leq rfl rfl) rfl ?_
                                      refine WPL.q (q_mv (v := .lit (.bool _)) rfl) rfl ?_
                                      refine WPL.split (t := 88) (b := (decide (x9196 ≤ 64))) rfl (fun hb9328 => ?_) (fun hb9328 => ?_)
                                      · replace H := cnt hb9328 H
                                        refine WPL.qg rfl rfl (lb hb9328) (q_mv (v := .lit (.string _)) rfl) rfl ?_
                                        obtain ⟨x9331, h9329, H⟩ := bnd H
                                        refine WPL.cg rfl rfl (lb hb9328) (runs_call (s := []) (t := []) (N := 0) (bor := []) fn71 rfl (s_strings_HasPrefix k (ByteArray.mk #[9, 9, 9, 9, 9, 9, 9, 9, 9, 9, 9, 9, 9, 9, 9, 9, 9, 9, 9, 9, 9, 9, 9, 9, 9, 9, 9, 9, 9, 9, 9, 9, 9, 9, 9, 9, 9, 9, 9, 9, 9, 9, 9, 9, 9, 9, 9, 9, 9, 9, 9, 9, 9, 9, 9, 9, 9, 9, 9, 9, 9, 9, 9, 9]) x8856 x9331 h9329) ⟨rfl, trivial, by decide, rfl, trivial⟩ rfl trivial (.ren rfl rfl (.ren rfl rfl .nil)) rfl trivial rfl) rfl ?_
                                        refine WPL.q (q_pickT (v := .lit (.bool _)) (lb hb9328) rfl) rfl ?_
                                        refine WPL.q (q_as (v := .lit (.bool _)) rfl) rfl ?_
                                        refine WPL.nilW ?_
                                        refine W.cv (Cv.weak (E' := (((Env.none.upd 0 (.lit (.string x8856))).upd 7 (.lit (.int .i64 x9196))).upd 85 (.lit (.bool x9331)))) (M' := Mem.nil) [] hnp ⟨rfl, trivial, by decide, rfl, trivial⟩ (LeE.upd rfl rfl (LeE.upd rfl rfl (LeE.upd rfl rfl (LeE.none rfl rfl))))) rfl ?_
                                        refine W.now ?_
                                        have q0 := (Option.some.inj H)
                                        subst q0
                                        exact ⟨rfl, rfl, rfl⟩
                                      · replace H := cnf hb9328 H
                                        refine WPL.skipg (b' := false) rfl rfl (lb hb9328) rfl rfl ?_
                                        refine WPL.skipg (b' := false) rfl rfl (lb hb9328) rfl rfl ?_
                                        refine WPL.q (q_pickF (v := .lit (.bool _)) (lb hb9328) rfl) rfl ?_
                                        refine WPL.q (q_as (v := .lit (.bool _)) rfl) rfl ?_
                                        refine WPL.nilW ?_
                                        refine W.cv (Cv.weak (E' := (((Env.none.upd 0 (.lit (.string x8856))).upd 7 (.lit (.int .i64 x9196))).upd 85 (.lit (.bool false)))) (M' := Mem.nil) [] hnp ⟨rfl, trivial, by decide, rfl, trivial⟩ (LeE.upd rfl rfl (LeE.upd rfl rfl (LeE.upd rfl rfl (LeE.none rfl rfl))))) rfl ?_
                                        refine W.now ?_
                                        have q0 := (Option.some.inj H)
                                        subst q0
                                        exact ⟨rfl, rfl, rfl⟩
                                    · rintro _ _ _ ⟨rfl, rfl, rfl⟩
                                      refine W.now ?_
                                      refine Then.n ?_
                                      refine WP.cond (t := x9328) rfl (fun hb9332 => ?_) (fun hb9332 => ?_)
                                      · replace H := cnt hb9332 H
                                        refine WP.seq ?_
                                        refine WP.region ?_
                                        refine WPL.q (q_mv (v := .lit (.int _ _)) rfl) rfl ?_
                                        obtain ⟨h9333, H⟩ := grd H
                                        obtain ⟨x9335, h9335, H⟩ := bnd H
                                        refine WPL.q (q_nm (q_slice_str (i := 0) (j := x9196) Try.underlying9 rfl rfl ⟨_, rfl⟩ h9333) (nm_str h9335)) rfl ?_
                                        refine WPL.q (q_as (v := .lit (.string _)) rfl) rfl ?_
                                        refine WPL.nilW ?_
                                        refine W.now ?_
                                        refine Then.n ?_
                                        refine WP.retW ?_
                                        refine W.cv (Cv.weak (E' := (Env.none.upd 4 (.lit (.string x9335)))) (M' := Mem.nil) [] hnp ⟨rfl, trivial, by decide, rfl, trivial⟩ (LeE.upd rfl rfl (LeE.none rfl rfl))) rfl ?_
                                        refine W.now ?_
                                        refine InBlock.r ?_
                                        refine InBlock.r ?_
                                        have q0 := Option.some.inj H
                                        subst q0
                                        exact ⟨rfl, rfl, rfl⟩
                                      · replace H := cnf hb9332 H
                                        refine WP.skipW ?_
                                        refine W.cv (Cv.weak (E' := ((Env.none.upd 0 (.lit (.string x8856))).upd 7 (.lit (.int .i64 x9196)))) (M' := Mem.nil) [] hnp ⟨rfl, trivial, by decide, rfl, trivial⟩ (LeE.upd rfl rfl (LeE.upd rfl rfl (LeE.none rfl rfl)))) rfl ?_
                                        refine W.now ?_
                                        refine InBlock.n ?_
                                        refine InBlock.n ?_
                                        have q0 := Option.some.inj H
                                        subst q0
                                        exact ⟨rfl, rfl, rfl⟩
                  · replace H := cnf hb9279 H
                    refine WP.skipW ?_
                    refine W.cv (Cv.weak (E' := ((Env.none.upd 0 (.lit (.string x8856))).upd 7 (.lit (.int .i64 x9196)))) (M' := Mem.nil) [] hnp ⟨rfl, trivial, by decide, rfl, trivial⟩ (LeE.upd rfl rfl (LeE.upd rfl rfl (LeE.none rfl rfl)))) rfl ?_
                    refine W.now ?_
                    refine InBlock.n ?_
                    have q0 := Option.some.inj H
                    subst q0
                    exact ⟨rfl, rfl, rfl⟩
              · rcases y9337 with x9268 | _
                · rintro _ _ _ ⟨rfl, rfl, rfl⟩
                  refine W.now ?_
                  refine Then.r ?_
                  have q0 := (Option.some.inj H)
                  subst q0
                  exact ⟨trivial, _, rfl, [], (.lit (.string x9268)), Mem.nil, ⟨rfl, trivial, by decide, rfl, trivial⟩, rfl, rfl, rfl, rfl⟩
                · rintro _ _ _ ⟨rfl, rfl, rfl⟩
                  refine W.now ?_
                  refine Then.n ?_
                  refine WP.seq ?_
                  refine WP.region ?_
                  refine WPL.q (q_mv (v := .lit (.int _ _)) rfl) rfl ?_
                  refine WPL.q (q_as (v := .lit (.int _ _)) rfl) rfl ?_
                  refine WPL.nilW ?_
                  refine W.now ?_
                  refine Then.n ?_
                  refine WP.seq ?_
                  obtain ⟨x9343, H9348, H⟩ := bnd H
                  refine WP.monoW (Q := fun x E M => x = .normal ∧ E = (((Env.none.upd 0 (.lit (.string x8856))).upd 7 (.lit (.int .i64 x9196))).upd 8 (.lit (.int .i64 x9343))) ∧ M = Mem.nil) ?_ ?_
                  · clear H
                    have H := H9348
                    clear H9348
                    refine WP.seq ?_
                    refine WP.region ?_
                    refine WPL.q (q_mv (v := .lit (.int _ _)) rfl) rfl ?_
                    refine WPL.q (q_gtr rfl rfl) rfl ?_
                    refine WPL.nilW ?_
                    refine W.now ?_
                    refine Then.n ?_
                    refine WP.cond (t := (decide (8192 < x9196))) rfl (fun hb9343 => ?_) (fun hb9343 => ?_)
                    · replace H := cnt hb9343 H
                      refine WP.seq ?_
                      refine WP.region ?_
                      refine WPL.q (q_mv (v := .lit (.string _)) rfl) rfl ?_
                      refine WPL.q (q_len_str Try.underlying9 rfl) rfl ?_
                      obtain ⟨h9344, H⟩ := grd H
                      obtain ⟨x9346, h9346, H⟩ := bnd H
                      refine WPL.q (q_nm (q_quo rfl rfl (bnot h9344)) (nm_int h9346)) rfl ?_
                      refine WPL.q (q_mv (v := .lit (.string _)) rfl) rfl ?_
                      refine WPL.q (q_len_str Try.underlying9 rfl) rfl ?_
                      obtain ⟨x9347, h9347, H⟩ := bnd H
                      refine WPL.q (q_nm (q_mul rfl rfl) (nm_int h9347)) rfl ?_
                      refine WPL.q (q_as (v := .lit (.int _ _)) rfl) rfl ?_
                      refine WPL.nilW ?_
                      refine W.now ?_
                      refine Then.n ?_
                      refine WP.seq ?_
                      refine WP.region ?_
                      refine WPL.q (q_mv (v := .lit (.int _ _)) rfl) rfl ?_
                      refine WPL.q (q_eql rfl rfl) rfl ?_
                      refine WPL.nilW ?_
                      refine W.now ?_
                      refine Then.n ?_
                      refine WP.cond (t := (decide (x9347 = 0))) rfl (fun hb9347 => ?_) (fun hb9347 => ?_)
                      · replace H := cnt hb9347 H
                        refine WP.region ?_
                        refine WPL.q (q_mv (v := .lit (.string _)) rfl) rfl ?_
                        refine WPL.q (q_len_str Try.underlying9 rfl) rfl ?_
                        refine WPL.q (q_as (v := .lit (.int _ _)) rfl) rfl ?_
                        refine WPL.nilW ?_
                        refine W.cv (Cv.weak (E' := (((Env.none.upd 0 (.lit (.string x8856))).upd 7 (.lit (.int .i64 x9196))).upd 8 (.lit (.int .i64 ((ByteArray.size x8856 : Nat) : Int))))) (M' := Mem.nil) [] hnp ⟨rfl, trivial, by decide, rfl, trivial⟩ (LeE.upd rfl rfl (LeE.upd rfl rfl (LeE.upd rfl rfl (LeE.none rfl rfl))))) rfl ?_
                        refine W.now ?_
                        have q0 := (Option.some.inj H)
                        subst q0
                        exact ⟨rfl, rfl, rfl⟩
                      · replace H := cnf hb9347 H
                        refine WP.skipW ?_
                        refine W.cv (Cv.weak (E' := (((Env.none.upd 0 (.lit (.string x8856))).upd 7 (.lit (.int .i64 x9196))).upd 8 (.lit (.int .i64 x9347)))) (M' := Mem.nil) [] hnp ⟨rfl, trivial, by decide, rfl, trivial⟩ (LeE.upd rfl rfl (LeE.upd rfl rfl (LeE.upd rfl rfl (LeE.none rfl rfl))))) rfl ?_
                        refine W.now ?_
                        have q0 := (Option.some.inj H)
                        subst q0
                        exact ⟨rfl, rfl, rfl⟩
                    · replace H := cnf hb9343 H
                      refine WP.skipW ?_
                      refine W.cv (Cv.weak (E' := (((Env.none.upd 0 (.lit (.string x8856))).upd 7 (.lit (.int .i64 x9196))).upd 8 (.lit (.int .i64 x9196)))) (M' := Mem.nil) [] hnp ⟨rfl, trivial, by decide, rfl, trivial⟩ (LeE.upd rfl rfl (LeE.upd rfl rfl (LeE.upd rfl rfl (LeE.none rfl rfl))))) rfl ?_
                      refine W.now ?_
                      have q0 := (Option.some.inj H)
                      subst q0
                      exact ⟨rfl, rfl, rfl⟩
                  · rintro _ _ _ ⟨rfl, rfl, rfl⟩
                    refine W.now ?_
                    refine Then.n ?_
                    refine WP.seq ?_
                    refine WP.region ?_
                    refine WPL.d (d_alloc ze101 rfl) rfl ?_
                    refine WPL.nilW ?_
                    refine W.now ?_
                    refine Then.n ?_
                    refine WP.seq ?_
                    refine WP.region ?_
                    refine WPL.q (q_mv (v := .lit (.int _ _)) rfl) rfl ?_
                    obtain ⟨_, h9349, H⟩ := bnd H
                    refine WPL.c (runs_call (s := [0]) (t := [0, 1]) (N := 2) (bor := []) fn72 rfl (s_strings_Builder_Grow k x9196 h9349) ⟨rfl, ⟨trivial, .inr ⟨rfl, rfl, rfl⟩⟩, by decide, rfl, trivial⟩ rfl trivial (.ren rfl rfl (.ren rfl rfl .nil)) rfl ⟨⟨trivial, rfl⟩, rfl⟩ rfl) rfl ?_
                    refine WPL.nilW ?_
                    refine W.now ?_
                    refine Then.n ?_
                    refine WP.seq ?_
                    refine WP.region ?_
                    refine WPL.q (q_mv (v := .lit (.string _)) rfl) rfl ?_
                    obtain ⟨_, h9350, H⟩ := bnd H
                    refine WPL.c (runs_call (s := [0, 1]) (t := [0, 2]) (N := 3) (bor := []) fn73 rfl (s_strings_Builder_WriteString k x8856 ([] : List Int) h9350) ⟨rfl, ⟨⟨trivial, .inr ⟨rfl, rfl, rfl⟩⟩, .inr ⟨rfl, rfl, rfl⟩⟩, by decide, rfl, trivial⟩ rfl trivial (.ren rfl rfl (.ren rfl rfl .nil)) rfl ⟨⟨trivial, rfl⟩, rfl⟩ rfl) rfl ?_
                    refine WPL.nilW ?_
                    refine W.now ?_
                    refine Then.n ?_
                    refine WP.seq ?_
                    refine WP.block ?_
                    refine WP.cv (Cv.weak (E' := (((Env.none.upd 7 (.lit (.int .i64 x9196))).upd 8 (.lit (.int .i64 x9343))).upd 9 (.ptr 0 0))) (M' := ((Mem.nil.push (.cells 101 [.ptr 0 0, .whole 1])).push (.row 5 (Rd.int .u8) (([] : List Int) ++ (strInts x8856))))) [0, 2] hnp ⟨rfl, ⟨⟨trivial, .inr ⟨rfl, rfl, rfl⟩⟩, .inr ⟨rfl, rfl, rfl⟩⟩, by decide, rfl, trivial⟩ (LeE.upd rfl rfl (LeE.upd rfl rfl (LeE.upd rfl rfl (LeE.none rfl rfl))))) ?_
                    obtain ⟨x9388, H9405, H⟩ := bnd H
                    refine WP.monoW (Q := fun x E M => x = .exit 3 ∧ E = (Env.none.upd 9 (.ptr 0 0)) ∧ M = ((Mem.nil.push (.cells 101 [.ptr 0 0, .whole 1])).push (.row 5 (Rd.int .u8) x9388))) ?_ ?_
                    · refine WP.loop (β := (List Int)) (fun n b => g_strings_Repeat_l0 k x9196 x9343 n b = some x9388) (fun b => (((Env.none.upd 7 (.lit (.int .i64 x9196))).upd 8 (.lit (.int .i64 x9343))).upd 9 (.ptr 0 0))) (fun b => ((Mem.nil.push (.cells 101 [.ptr 0 0, .whole 1])).push (.row 5 (Rd.int .u8) b))) k (([] : List Int) ++ (strInts x8856)) H9405 rfl rfl ?_
                      rintro n x9370 H
                      obtain _ | n := n
                      · exact nf rfl H
                      rw [g_strings_Repeat_l0.eq_2] at H
                      show WP _ _ _ _ (((Env.none.upd 7 (.lit (.int .i64 x9196))).upd 8 (.lit (.int .i64 x9343))).upd 9 (.ptr 0 0)) ((Mem.nil.push (.cells 101 [.ptr 0 0, .whole 1])).push (.row 5 (Rd.int .u8) x9370)) _
                      refine WP.seq ?_
                      refine WP.seq ?_
                      refine WP.region ?_
                      obtain ⟨_, h9391, H⟩ := bnd H
                      refine WPL.c (runs_call (s := [0, 1]) (t := [0, 2]) (N := 3) (bor := []) fn74 rfl (s_strings_Builder_Len k x9370 h9391) ⟨rfl, ⟨⟨trivial, .inr ⟨rfl, rfl, rfl⟩⟩, .inr ⟨rfl, rfl, rfl⟩⟩, by decide, rfl, trivial⟩ rfl trivial (.ren rfl rfl .nil) rfl ⟨⟨trivial, rfl⟩, rfl⟩ rfl) rfl ?_
                      refine WPL.q (q_mv (v := .lit (.int _ _)) rfl) rfl ?_
                      obtain ⟨x9393, h9393, H⟩ := bnd H
                      refine WPL.q (q_nm (q_lss rfl rfl) (nm_bool h9393)) rfl ?_
                      refine WPL.nilW ?_
                      refine W.now ?_
                      refine Then.n ?_
                      refine WP.cond (t := x9393) rfl (fun hb9393 => ?_) (fun hb9393 => ?_)
                      · replace H := cnt hb9393 H
                        refine WP.skipW ?_
                        refine W.now ?_
                        refine Then.n ?_
                        refine WP.block ?_
                        refine WP.seq ?_
                        refine WP.region ?_
                        refine WPL.q (q_mv (v := .lit (.int _ _)) rfl) rfl ?_
                        obtain ⟨_, h9394, H⟩ := bnd H
                        refine WPL.c (runs_call (s := [0, 2]) (t := [0, 3]) (N := 4) (bor := []) fn74 rfl (s_strings_Builder_Len k x9370 h9394) ⟨rfl, ⟨⟨trivial, .inr ⟨rfl, rfl, rfl⟩⟩, .inr ⟨rfl, rfl, rfl⟩⟩, by decide, rfl, trivial⟩ rfl trivial (.ren rfl rfl .nil) rfl ⟨⟨trivial, rfl⟩, rfl⟩ rfl) rfl ?_
                        obtain ⟨x9396, h9396, H⟩ := bnd H
                        refine WPL.q (q_nm (q_sub rfl rfl) (nm_int h9396)) rfl ?_
                        obtain ⟨_, h9396, H⟩ := bnd H
                        refine WPL.c (runs_call (s := [0, 3]) (t := [0, 4]) (N := 5) (bor := []) fn74 rfl (s_strings_Builder_Len k x9370 h9396) ⟨rfl, ⟨⟨trivial, .inr ⟨rfl, rfl, rfl⟩⟩, .inr ⟨rfl, rfl, rfl⟩⟩, by decide, rfl, trivial⟩ rfl trivial (.ren rfl rfl .nil) rfl ⟨⟨trivial, rfl⟩, rfl⟩ rfl) rfl ?_
                        refine WPL.q (q_mv (v := .lit (.int _ _)) rfl) rfl ?_
                        obtain ⟨x9398, h9398, H⟩ := bnd H
                        obtain ⟨x9399, h9399, H⟩ := bnd H
                        refine WPL.q (q_nm (q_min3 rfl rfl rfl (Option.some.inj h9398)) (nm_int h9399)) rfl ?_
                        refine WPL.q (q_as (v := .lit (.int _ _)) rfl) rfl ?_
                        refine WPL.nilW ?_
                        refine W.now ?_
                        refine Then.n ?_
                        refine WP.region ?_
                        obtain ⟨y9401, h9399, H⟩ := bnd H
                        rcases y9401 with _ | _
                        · refine WPL.c (runs_call (s := [0, 4]) (t := [0, 5]) (N := 6) (bor := []) fn75 rfl (s_strings_Builder_String k x9370 (Sum.inl ()) h9399) ⟨rfl, ⟨⟨trivial, .inr ⟨rfl, rfl, rfl⟩⟩, .inr ⟨rfl, rfl, rfl⟩⟩, by decide, rfl, trivial⟩ rfl trivial (.ren rfl rfl .nil) rfl ⟨⟨trivial, rfl⟩, rfl⟩ rfl) rfl ?_
                          refine WPL.q (q_mv (v := .lit (.int _ _)) rfl) rfl ?_
                          obtain ⟨h9401, H⟩ := grd H
                          obtain ⟨x9403, h9403, H⟩ := bnd H
                          refine WPL.q (q_nm (q_slice_str (i := 0) (j := x9399) Try.underlying9 rfl rfl ⟨_, rfl⟩ h9401) (nm_str h9403)) rfl ?_
                          obtain ⟨_, h9403, H⟩ := bnd H
                          refine WPL.c (runs_call (s := [0, 5]) (t := [0, 6]) (N := 7) (bor := []) fn73 rfl (s_strings_Builder_WriteString k x9403 x9370 h9403) ⟨rfl, ⟨⟨trivial, .inr ⟨rfl, rfl, rfl⟩⟩, .inr ⟨rfl, rfl, rfl⟩⟩, by decide, rfl, trivial⟩ rfl trivial (.ren rfl rfl (.ren rfl rfl .nil)) rfl ⟨⟨trivial, rfl⟩, rfl⟩ rfl) rfl ?_
                          refine WPL.nilW ?_
                          refine W.cv (Cv.weak (E' := (((Env.none.upd 7 (.lit (.int .i64 x9196))).upd 8 (.lit (.int .i64 x9343))).upd 9 (.ptr 0 0))) (M' := ((Mem.nil.push (.cells 101 [.ptr 0 0, .whole 1])).push (.row 5 (Rd.int .u8) (x9370 ++ (strInts x9403))))) [0, 6] hnp ⟨rfl, ⟨⟨trivial, .inr ⟨rfl, rfl, rfl⟩⟩, .inr ⟨rfl, rfl, rfl⟩⟩, by decide, rfl, trivial⟩ (LeE.upd rfl rfl (LeE.upd rfl rfl (LeE.upd rfl rfl (LeE.none rfl rfl))))) rfl ?_
                          refine W.now ?_
                          refine InBlock.n ?_
                          exact Then.n ⟨n, (x9370 ++ (strInts x9403)), Nat.lt_succ_self n, H, rfl, rfl⟩
                        · refine WPL.c (runs_call (s := [0, 4]) (t := [0, 5]) (N := 6) (bor := []) fn75 rfl (s_strings_Builder_String k x9370 (Sum.inr ()) h9399) ⟨rfl, ⟨⟨trivial, .inr ⟨rfl, rfl, rfl⟩⟩, .inr ⟨rfl, rfl, rfl⟩⟩, by decide, rfl, trivial⟩ rfl trivial (.ren rfl rfl .nil) rfl ⟨⟨trivial, rfl⟩, rfl⟩ rfl) rfl ?_
                          refine WPL.q (q_mv (v := .lit (.int _ _)) rfl) rfl ?_
                          obtain ⟨h9404, H⟩ := grd H
                          refine WPL.q (q_slice_str (i := 0) (j := x9399) Try.underlying9 rfl rfl ⟨_, rfl⟩ h9404) rfl ?_
                          exact nf rfl H
                      · replace H := cnf hb9393 H
                        refine WP.exitW ?_
                        refine W.cv (Cv.weak (E' := (Env.none.upd 9 (.ptr 0 0))) (M' := ((Mem.nil.push (.cells 101 [.ptr 0 0, .whole 1])).push (.row 5 (Rd.int .u8) x9370))) [0, 2] hnp ⟨rfl, ⟨⟨trivial, .inr ⟨rfl, rfl, rfl⟩⟩, .inr ⟨rfl, rfl, rfl⟩⟩, by decide, rfl, trivial⟩ (LeE.upd rfl rfl (LeE.none rfl rfl))) rfl ?_
                        refine W.now ?_
                        refine Then.x ?_
                        refine Then.x ?_
                        have q0 := (Option.some.inj H)
                        subst q0
                        exact ⟨rfl, rfl, rfl⟩
                    · rintro _ _ _ ⟨rfl, rfl, rfl⟩
                      refine W.now ?_
                      refine InBlock.x0 ?_
                      refine Then.n ?_
                      refine WP.seq ?_
                      refine WP.region ?_
                      obtain ⟨y9408, h9406, H⟩ := bnd H
                      rcases y9408 with _ | _
                      · refine WPL.c (runs_call (s := [0, 1]) (t := [0, 2]) (N := 3) (bor := []) fn75 rfl (s_strings_Builder_String k x9388 (Sum.inl ()) h9406) ⟨rfl, ⟨⟨trivial, .inr ⟨rfl, rfl, rfl⟩⟩, .inr ⟨rfl, rfl, rfl⟩⟩, by decide, rfl, trivial⟩ rfl trivial (.ren rfl rfl .nil) rfl ⟨⟨trivial, rfl⟩, rfl⟩ rfl) rfl ?_
                        refine WPL.q (q_as (v := .lit (.string _)) rfl) rfl ?_
                        refine WPL.nilW ?_
                        refine W.now ?_
                        refine Then.n ?_
                        refine WP.retW ?_
                        refine W.now ?_
                        have q0 := (Option.some.inj H)
                        subst q0
                        exact ⟨trivial, _, rfl, [], (.lit (.string ByteArray.empty)), Mem.nil, ⟨rfl, trivial, by decide, rfl, trivial⟩, rfl, rfl, rfl, rfl⟩
                      · refine WPL.c (runs_call (s := [0, 1]) (t := [0, 2]) (N := 3) (bor := []) fn75 rfl (s_strings_Builder_String k x9388 (Sum.inr ()) h9406) ⟨rfl, ⟨⟨trivial, .inr ⟨rfl, rfl, rfl⟩⟩, .inr ⟨rfl, rfl, rfl⟩⟩, by decide, rfl, trivial⟩ rfl trivial (.ren rfl rfl .nil) rfl ⟨⟨trivial, rfl⟩, rfl⟩ rfl) rfl ?_
                        refine WPL.q (q_as (v := .lit (.string _)) rfl) rfl ?_
                        refine WPL.nilW ?_
                        refine W.now ?_
                        refine Then.n ?_
                        refine WP.retW ?_
                        refine W.now ?_
                        have q0 := (Option.some.inj H)
                        subst q0
                        exact ⟨trivial, _, rfl, [], (.lit (.string (strOf x9388))), Mem.nil, ⟨rfl, trivial, by decide, rfl, trivial⟩, rfl, rfl, rfl, rfl⟩
end Go.Proofs.Ytdbeblgfccjbgaa.W
