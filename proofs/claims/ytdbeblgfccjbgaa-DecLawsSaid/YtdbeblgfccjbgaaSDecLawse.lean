/- Texts joined: part 5 of what LDecLaws stands on. -/
import Derived.Test.YtdbeblgfccjbgaaSDecLawsd
namespace Go.Proofs.Ytdbeblgfccjbgaa.W
open Go Go.Q Go.Proofs
set_option linter.unusedVariables false
set_option linter.unusedSimpArgs false
set_option maxRecDepth 100000 in
set_option maxHeartbeats 4000000 in
theorem s_dec_Mod (k : Nat) (x4282 : Int) (x4283 : Int) (x4284 : Int) (x4285 : Int) (x5167 : Int) (x5168 : Int) (x5169 : Int) (H : g_dec_Mod k x4282 x4283 x4284 x4285 = some (x5167, x5168, x5169)) : Go.Q.Spec Try.prog 9 0 [.agg [.lit (.int .i64 x4282), .lit (.int .i64 x4283)], .agg [.lit (.int .i64 x4284), .lit (.int .i64 x4285)]] Mem.nil (fun o M => o = .ret (.tup [.agg [.lit (.int .i64 x5168), .lit (.int .i64 x5169)], .lit (.int .i64 x5167)]) ∧ M = (Mem.nil.push (.cells 23 [.lit (.int .i64 x5168), .lit (.int .i64 x5169)]))) := by
 unfold g_dec_Mod at H
 refine Go.Q.Spec.of_bodyR (az := [(23, 2)]) (rs := [.cell 4 23, .tmp 5]) (nt := 50) Try.func9 rfl rfl (by intro t T h; simp at h; rcases h with ⟨rfl, rfl⟩ <;> first | exact ag23) rfl rfl fun cx hnp => ?_
 refine WP.seq ?_
 refine WP.region ?_
 refine WPL.d (d_box rfl rfl) rfl ?_
 refine WPL.d (d_box rfl rfl) rfl ?_
 refine WPL.d (d_alloc ze23 rfl) rfl ?_
 refine WPL.q (q_as (v := .lit (.int _ _)) rfl) rfl ?_
 refine WPL.nilW ?_
 refine W.now ?_
 refine Then.n ?_
 refine WP.seq ?_
 refine WP.seq ?_
 refine WP.region ?_
 refine WPL.d (d_buildCells li81 rfl rfl rfl rfl rfl) rfl ?_
 obtain ⟨⟨x5178, x5179, x5180, x5181, x5182⟩, h5176, H⟩ := bnd H
 refine WPL.c (runs_call (s := [3, 0, 1]) (t := [3, 0, 1]) (N := 4) (bor := []) fn27 rfl (s_dec_clean k x4282 x4283 x4284 x4285 x5178 x5179 x5180 x5181 x5182 h5176) ⟨rfl, ⟨⟨⟨trivial, .inr ⟨rfl, rfl, rfl⟩⟩, .inr ⟨rfl, rfl, rfl⟩⟩, .inr ⟨rfl, rfl, rfl⟩⟩, by decide, rfl, trivial⟩ rfl trivial (.ren rfl rfl .nil) rfl ⟨⟨⟨trivial, rfl⟩, rfl⟩, rfl⟩ rfl) rfl ?_
 refine WPL.q (q_not rfl) rfl ?_
 refine WPL.nilW ?_
 refine W.now ?_
 refine Then.n ?_
 refine WP.cond (t := (!x5178)) rfl (fun hb5182 => ?_) (fun hb5182 => ?_)
 · replace H := cnt hb5182 H
   refine WP.seq ?_
   refine WP.region ?_
   refine WPL.q (q_build bu23 rfl) rfl ?_
   refine WPL.s (s_store sz23 rfl rfl rfl rfl rfl) ?_
   refine WPL.q (q_as (v := .lit (.int _ _)) rfl) rfl ?_
   refine WPL.nilW ?_
   refine W.now ?_
   refine Then.n ?_
   refine WP.retW ?_
   have q0 := (Prod.mk.inj (Option.some.inj H)).1
   have q1 := (Prod.mk.inj (Prod.mk.inj (Option.some.inj H)).2).1
   have q2 := (Prod.mk.inj (Prod.mk.inj (Option.some.inj H)).2).2
   subst q0
   subst q1
   subst q2
   exact W.now (Then.r (BodyR.mkR trivial rfl [2] ⟨rfl, rfl⟩ ⟨rfl, ⟨trivial, .inr ⟨rfl, rfl, rfl⟩⟩, by decide, rfl, trivial⟩ rfl rfl))
 replace H := cnf hb5182 H
 refine WP.skipW ?_
 refine W.now ?_
 refine Then.n ?_
 refine WP.seq ?_
 refine WP.seq ?_
 refine WP.region ?_
 refine WPL.q (q_fieldAddr fi23_0 rfl rfl) rfl ?_
 refine WPL.q (q_load sc2 rfl rfl rfl) rfl ?_
 refine WPL.q (q_eql rfl rfl) rfl ?_
 refine WPL.nilW ?_
 refine W.now ?_
 refine Then.n ?_
 refine WP.cond (t := (decide (x5181 = 0))) rfl (fun hb5184 => ?_) (fun hb5184 => ?_)
 · replace H := cnt hb5184 H
   refine WP.seq ?_
   refine WP.region ?_
   refine WPL.q (q_build bu23 rfl) rfl ?_
   refine WPL.s (s_store sz23 rfl rfl rfl rfl rfl) ?_
   refine WPL.q (q_as (v := .lit (.int _ _)) rfl) rfl ?_
   refine WPL.nilW ?_
   refine W.now ?_
   refine Then.n ?_
   refine WP.retW ?_
   have q0 := (Prod.mk.inj (Option.some.inj H)).1
   have q1 := (Prod.mk.inj (Prod.mk.inj (Option.some.inj H)).2).1
   have q2 := (Prod.mk.inj (Prod.mk.inj (Option.some.inj H)).2).2
   subst q0
   subst q1
   subst q2
   exact W.now (Then.r (BodyR.mkR trivial rfl [2] ⟨rfl, rfl⟩ ⟨rfl, ⟨trivial, .inr ⟨rfl, rfl, rfl⟩⟩, by decide, rfl, trivial⟩ rfl rfl))
 replace H := cnf hb5184 H
 refine WP.skipW ?_
 refine W.now ?_
 refine Then.n ?_
 refine WP.seq ?_
 obtain ⟨⟨x5238, x5239, x5240⟩, H5292, H⟩ := bnd H
 refine WP.monoW (Q := fun x E M => x = .normal ∧ E = ((((Env.none.upd 2 (.ptr 0 0)).upd 3 (.ptr 1 0)).upd 4 (.ptr 2 0)).upd 6 (.ptr 3 0)) ∧ M = ((((Mem.nil.push (.cells 23 [.lit (.int .i64 x5179), .lit (.int .i64 x5180)])).push (.cells 23 [.lit (.int .i64 x5181), .lit (.int .i64 x5182)])).push (.cells 23 [.lit (.int .i64 0), .lit (.int .i64 0)])).push (.cells 47 [.lit (.bool (decide (x5179 < 0))), .lit (.int .u64 x5238), .lit (.int .u64 x5239), .lit (.int .i64 x5240)]))) ?_ ?_
 · clear H
   have H := H5292
   clear H5292
   refine WP.regionD' 7 [0, 1] [] mixed rfl ?_
   refine WPD.take 0 rfl (by kernel_rfl) (q_load_ag ag23 rfl rfl (Nat.le_of_ble_eq_true rfl)) rfl rfl ?_
   refine WPD.take 2 rfl (by kernel_rfl) (q_load_ag ag23 rfl rfl (Nat.le_of_ble_eq_true rfl)) rfl rfl ?_
   refine WPD.of2 1 5 (by kernel_rfl) ?_ ?_
   · obtain ⟨x5268, h5266, H⟩ := bnd H
     refine WPD1.eff 1 [0, 1] [] rfl (runs_call (s := []) (t := [4]) (N := 5) (bor := []) fn38 rfl (s_dec_of k x5179 x5180 x5268 h5266) ⟨rfl, trivial, by decide, rfl, trivial⟩ rfl trivial (.ren rfl rfl .nil) rfl ⟨trivial, rfl⟩ rfl) rfl rfl ?_
     refine WPD.of2 3 5 (by kernel_rfl) ?_ ?_
     · obtain ⟨x5270, h5268, H⟩ := bnd H
       refine WPD1.eff 3 [0, 1] [] rfl (runs_call (s := []) (t := [5]) (N := 6) (bor := []) fn38 rfl (s_dec_of k x5181 x5182 x5270 h5268) ⟨rfl, trivial, by decide, rfl, trivial⟩ rfl trivial (.ren rfl rfl .nil) rfl ⟨trivial, rfl⟩ rfl) rfl rfl ?_
       refine WPD.of2 4 5 (by kernel_rfl) ?_ ?_
       · obtain ⟨⟨x5272, x5273, x5274⟩, h5270, H⟩ := bnd H
         refine WPD1.eff 4 [0, 1] [] rfl (runs_call (s := []) (t := [6]) (N := 7) (bor := []) fn37 rfl (s_dec_left k (decide (x5179 < 0)) 0 x5268 x5180 (decide (x5181 < 0)) 0 x5270 x5182 x5272 x5273 x5274 h5270) ⟨rfl, trivial, by decide, rfl, trivial⟩ rfl trivial (.ren rfl rfl (.ren rfl rfl .nil)) rfl ⟨trivial, rfl⟩ rfl) rfl rfl ?_
         refine WPD.eff 5 [0, 1] [] rfl (by kernel_rfl) (Does.runs (d_alloc ze47 rfl)) rfl rfl ?_
         refine WPD.effS 6 [0, 1] [] rfl (by kernel_rfl) (s_store sz47 rfl rfl rfl rfl rfl) rfl ?_
         refine WPD.doneW (by kernel_rfl) ?_
         have q0 := (Prod.mk.inj (Option.some.inj H)).1
         have q1 := (Prod.mk.inj (Prod.mk.inj (Option.some.inj H)).2).1
         have q2 := (Prod.mk.inj (Prod.mk.inj (Option.some.inj H)).2).2
         subst q0
         subst q1
         subst q2
         exact W.wk [0, 1, 2, 7] hnp ⟨rfl, rfl, rfl⟩ ⟨rfl, ⟨⟨⟨⟨trivial, .inr ⟨rfl, rfl, rfl⟩⟩, .inr ⟨rfl, rfl, rfl⟩⟩, .inr ⟨rfl, rfl, rfl⟩⟩, .inr ⟨rfl, rfl, rfl⟩⟩, by decide, rfl, trivial⟩ (LeE.upd rfl rfl (LeE.upd rfl rfl (LeE.upd rfl rfl (LeE.upd rfl rfl (LeE.none rfl rfl))))) rfl
       refine WPD1.eff 5 [0, 1] [] rfl (Does.runs (d_alloc ze47 rfl)) rfl rfl ?_
       obtain ⟨⟨x5276, x5277, x5278⟩, h5274, H⟩ := bnd H
       refine WPD.eff 4 [0, 1] [] rfl (by kernel_rfl) (runs_call (s := []) (t := [7]) (N := 8) (bor := []) fn37 rfl (s_dec_left k (decide (x5179 < 0)) 0 x5268 x5180 (decide (x5181 < 0)) 0 x5270 x5182 x5276 x5277 x5278 h5274) ⟨rfl, trivial, by decide, rfl, trivial⟩ rfl trivial (.ren rfl rfl (.ren rfl rfl .nil)) rfl ⟨trivial, rfl⟩ rfl) rfl rfl ?_
       refine WPD.effS 6 [0, 1] [] rfl (by kernel_rfl) (s_store sz47 rfl rfl rfl rfl rfl) rfl ?_
       refine WPD.doneW (by kernel_rfl) ?_
       have q0 := (Prod.mk.inj (Option.some.inj H)).1
       have q1 := (Prod.mk.inj (Prod.mk.inj (Option.some.inj H)).2).1
       have q2 := (Prod.mk.inj (Prod.mk.inj (Option.some.inj H)).2).2
       subst q0
       subst q1
       subst q2
       exact W.wk [0, 1, 2, 6] hnp ⟨rfl, rfl, rfl⟩ ⟨rfl, ⟨⟨⟨⟨trivial, .inr ⟨rfl, rfl, rfl⟩⟩, .inr ⟨rfl, rfl, rfl⟩⟩, .inr ⟨rfl, rfl, rfl⟩⟩, .inr ⟨rfl, rfl, rfl⟩⟩, by decide, rfl, trivial⟩ (LeE.upd rfl rfl (LeE.upd rfl rfl (LeE.upd rfl rfl (LeE.upd rfl rfl (LeE.none rfl rfl))))) rfl
     refine WPD1.eff 5 [0, 1] [] rfl (Does.runs (d_alloc ze47 rfl)) rfl rfl ?_
     obtain ⟨x5280, h5278, H⟩ := bnd H
     refine WPD.eff 3 [0, 1] [] rfl (by kernel_rfl) (runs_call (s := []) (t := [6]) (N := 7) (bor := []) fn38 rfl (s_dec_of k x5181 x5182 x5280 h5278) ⟨rfl, trivial, by decide, rfl, trivial⟩ rfl trivial (.ren rfl rfl .nil) rfl ⟨trivial, rfl⟩ rfl) rfl rfl ?_
     obtain ⟨⟨x5282, x5283, x5284⟩, h5280, H⟩ := bnd H
     refine WPD.eff 4 [0, 1] [] rfl (by kernel_rfl) (runs_call (s := []) (t := [7]) (N := 8) (bor := []) fn37 rfl (s_dec_left k (decide (x5179 < 0)) 0 x5268 x5180 (decide (x5181 < 0)) 0 x5280 x5182 x5282 x5283 x5284 h5280) ⟨rfl, trivial, by decide, rfl, trivial⟩ rfl trivial (.ren rfl rfl (.ren rfl rfl .nil)) rfl ⟨trivial, rfl⟩ rfl) rfl rfl ?_
     refine WPD.effS 6 [0, 1] [] rfl (by kernel_rfl) (s_store sz47 rfl rfl rfl rfl rfl) rfl ?_
     refine WPD.doneW (by kernel_rfl) ?_
     have q0 := (Prod.mk.inj (Option.some.inj H)).1
     have q1 := (Prod.mk.inj (Prod.mk.inj (Option.some.inj H)).2).1
     have q2 := (Prod.mk.inj (Prod.mk.inj (Option.some.inj H)).2).2
     subst q0
     subst q1
     subst q2
     exact W.wk [0, 1, 2, 5] hnp ⟨rfl, rfl, rfl⟩ ⟨rfl, ⟨⟨⟨⟨trivial, .inr ⟨rfl, rfl, rfl⟩⟩, .inr ⟨rfl, rfl, rfl⟩⟩, .inr ⟨rfl, rfl, rfl⟩⟩, .inr ⟨rfl, rfl, rfl⟩⟩, by decide, rfl, trivial⟩ (LeE.upd rfl rfl (LeE.upd rfl rfl (LeE.upd rfl rfl (LeE.upd rfl rfl (LeE.none rfl rfl))))) rfl
   refine WPD1.eff 5 [0, 1] [] rfl (Does.runs (d_alloc ze47 rfl)) rfl rfl ?_
   obtain ⟨x5286, h5284, H⟩ := bnd H
   refine WPD.eff 1 [0, 1] [] rfl (by kernel_rfl) (runs_call (s := []) (t := [5]) (N := 6) (bor := []) fn38 rfl (s_dec_of k x5179 x5180 x5286 h5284) ⟨rfl, trivial, by decide, rfl, trivial⟩ rfl trivial (.ren rfl rfl .nil) rfl ⟨trivial, rfl⟩ rfl) rfl rfl ?_
   obtain ⟨x5288, h5286, H⟩ := bnd H
   refine WPD.eff 3 [0, 1] [] rfl (by kernel_rfl) (runs_call (s := []) (t := [6]) (N := 7) (bor := []) fn38 rfl (s_dec_of k x5181 x5182 x5288 h5286) ⟨rfl, trivial, by decide, rfl, trivial⟩ rfl trivial (.ren rfl rfl .nil) rfl ⟨trivial, rfl⟩ rfl) rfl rfl ?_
   obtain ⟨⟨x5290, x5291, x5292⟩, h5288, H⟩ := bnd H
   refine WPD.eff 4 [0, 1] [] rfl (by kernel_rfl) (runs_call (s := []) (t := [7]) (N := 8) (bor := []) fn37 rfl (s_dec_left k (decide (x5179 < 0)) 0 x5286 x5180 (decide (x5181 < 0)) 0 x5288 x5182 x5290 x5291 x5292 h5288) ⟨rfl, trivial, by decide, rfl, trivial⟩ rfl trivial (.ren rfl rfl (.ren rfl rfl .nil)) rfl ⟨trivial, rfl⟩ rfl) rfl rfl ?_
   refine WPD.effS 6 [0, 1] [] rfl (by kernel_rfl) (s_store sz47 rfl rfl rfl rfl rfl) rfl ?_
   refine WPD.doneW (by kernel_rfl) ?_
   have q0 := (Prod.mk.inj (Option.some.inj H)).1
   have q1 := (Prod.mk.inj (Prod.mk.inj (Option.some.inj H)).2).1
   have q2 := (Prod.mk.inj (Prod.mk.inj (Option.some.inj H)).2).2
   subst q0
   subst q1
   subst q2
   exact W.wk [0, 1, 2, 4] hnp ⟨rfl, rfl, rfl⟩ ⟨rfl, ⟨⟨⟨⟨trivial, .inr ⟨rfl, rfl, rfl⟩⟩, .inr ⟨rfl, rfl, rfl⟩⟩, .inr ⟨rfl, rfl, rfl⟩⟩, .inr ⟨rfl, rfl, rfl⟩⟩, by decide, rfl, trivial⟩ (LeE.upd rfl rfl (LeE.upd rfl rfl (LeE.upd rfl rfl (LeE.upd rfl rfl (LeE.none rfl rfl))))) rfl
 rintro _ _ _ ⟨rfl, rfl, rfl⟩
 refine W.now ?_
 refine Then.n ?_
 refine WP.seq ?_
 refine WP.region ?_
 refine WPL.q (q_load_ag ag47 rfl rfl (Nat.le_of_ble_eq_true rfl)) rfl ?_
 obtain ⟨⟨x5295, x5296, x5297⟩, h5293, H⟩ := bnd H
 refine WPL.c (runs_call (s := []) (t := [4]) (N := 5) (bor := []) fn31 rfl (s_dec_num_tell k (decide (x5179 < 0)) x5238 x5239 x5240 x5295 x5296 x5297 h5293) ⟨rfl, trivial, by decide, rfl, trivial⟩ rfl trivial (.ren rfl rfl .nil) rfl ⟨trivial, rfl⟩ rfl) rfl ?_
 refine WPL.q (q_mv (v := .tup _) rfl) rfl ?_
 refine WPL.q (q_extract rfl rfl) rfl ?_
 refine WPL.q (q_extract rfl rfl) rfl ?_
 refine WPL.d (d_alloc ze23 rfl) rfl ?_
 refine WPL.s (s_store sz23 rfl rfl rfl rfl rfl) ?_
 refine WPL.q (q_as (v := .lit (.int _ _)) rfl) rfl ?_
 refine WPL.nilW ?_
 refine W.now ?_
 refine Then.n ?_
 refine WP.seq ?_
 refine WP.seq ?_
 obtain ⟨x5310, H5313, H⟩ := bnd H
 refine WP.monoW (Q := fun x E M => x = .normal ∧ E = (((((Env.none.upd 3 (.ptr 0 0)).upd 4 (.ptr 1 0)).upd 7 (.ptr 2 0)).upd 8 (.lit (.int .i64 x5295))).upd 42 (.lit (.bool x5310))) ∧ M = (((Mem.nil.push (.cells 23 [.lit (.int .i64 x5181), .lit (.int .i64 x5182)])).push (.cells 23 [.lit (.int .i64 0), .lit (.int .i64 0)])).push (.cells 23 [.lit (.int .i64 x5296), .lit (.int .i64 x5297)]))) ?_ ?_
 · clear H
   have H := H5313
   clear H5313
   refine WP.region ?_
   refine WPL.q (q_mv (v := .lit (.int _ _)) rfl) rfl ?_
   refine WPL.q (q_neq rfl rfl) rfl ?_
   refine WPL.q (q_mv (v := .lit (.bool _)) rfl) rfl ?_
   refine WPL.split (t := 29) (b := (!decide (x5295 = 0))) rfl (fun hb5310 => ?_) (fun hb5310 => ?_)
   · replace H := cnt hb5310 H
     refine WPL.skipg (b' := true) rfl rfl (lb hb5310) rfl rfl ?_
     refine WPL.skipg (b' := true) rfl rfl (lb hb5310) rfl rfl ?_
     refine WPL.skipg (b' := true) rfl rfl (lb hb5310) rfl rfl ?_
     refine WPL.q (q_pickT (v := .lit (.bool _)) (lb hb5310) rfl) rfl ?_
     refine WPL.q (q_mv (v := .lit (.bool _)) rfl) rfl ?_
     refine WPL.skipg (b' := true) rfl rfl rfl rfl rfl ?_
     refine WPL.skipg (b' := true) rfl rfl rfl rfl rfl ?_
     refine WPL.skipg (b' := true) rfl rfl rfl rfl rfl ?_
     refine WPL.skipg (b' := true) rfl rfl rfl rfl rfl ?_
     refine WPL.skipg (b' := true) rfl rfl rfl rfl rfl ?_
     refine WPL.skipg (b' := true) rfl rfl rfl rfl rfl ?_
     refine WPL.skipg (b' := true) rfl rfl rfl rfl rfl ?_
     refine WPL.q (q_pickT (v := .lit (.bool _)) rfl rfl) rfl ?_
     refine WPL.nilW ?_
     have q0 := (Option.some.inj H)
     subst q0
     exact W.wk [1, 2, 5] hnp ⟨rfl, rfl, rfl⟩ ⟨rfl, ⟨⟨⟨trivial, .inr ⟨rfl, rfl, rfl⟩⟩, .inr ⟨rfl, rfl, rfl⟩⟩, .inr ⟨rfl, rfl, rfl⟩⟩, by decide, rfl, trivial⟩ (LeE.upd rfl rfl (LeE.upd rfl rfl (LeE.upd rfl rfl (LeE.upd rfl rfl (LeE.upd rfl rfl (LeE.none rfl rfl)))))) rfl
   replace H := cnf hb5310 H
   refine WPL.qg rfl rfl (lb hb5310) (q_fieldAddr fi23_0 rfl rfl) rfl ?_
   refine WPL.qg rfl rfl (lb hb5310) (q_load sc2 rfl rfl rfl) rfl ?_
   refine WPL.qg rfl rfl (lb hb5310) (q_eql rfl rfl) rfl ?_
   refine WPL.q (q_pickF (v := .lit (.bool _)) (lb hb5310) rfl) rfl ?_
   refine WPL.q (q_mv (v := .lit (.bool _)) rfl) rfl ?_
   refine WPL.split (t := 34) (b := (decide (x5296 = 0))) rfl (fun hb5311 => ?_) (fun hb5311 => ?_)
   · replace H := cnt hb5311 H
     refine WPL.skipg (b' := true) rfl rfl (lb hb5311) rfl rfl ?_
     refine WPL.skipg (b' := true) rfl rfl (lb hb5311) rfl rfl ?_
     refine WPL.skipg (b' := true) rfl rfl (lb hb5311) rfl rfl ?_
     refine WPL.skipg (b' := true) rfl rfl (lb hb5311) rfl rfl ?_
     refine WPL.skipg (b' := true) rfl rfl (lb hb5311) rfl rfl ?_
     refine WPL.skipg (b' := true) rfl rfl (lb hb5311) rfl rfl ?_
     refine WPL.skipg (b' := true) rfl rfl (lb hb5311) rfl rfl ?_
     refine WPL.q (q_pickT (v := .lit (.bool _)) (lb hb5311) rfl) rfl ?_
     refine WPL.nilW ?_
     have q0 := (Option.some.inj H)
     subst q0
     exact W.wk [1, 2, 5] hnp ⟨rfl, rfl, rfl⟩ ⟨rfl, ⟨⟨⟨trivial, .inr ⟨rfl, rfl, rfl⟩⟩, .inr ⟨rfl, rfl, rfl⟩⟩, .inr ⟨rfl, rfl, rfl⟩⟩, by decide, rfl, trivial⟩ (LeE.upd rfl rfl (LeE.upd rfl rfl (LeE.upd rfl rfl (LeE.upd rfl rfl (LeE.upd rfl rfl (LeE.none rfl rfl)))))) rfl
   replace H := cnf hb5311 H
   refine WPL.qg rfl rfl (lb hb5311) (q_fieldAddr fi23_0 rfl rfl) rfl ?_
   refine WPL.qg rfl rfl (lb hb5311) (q_load sc2 rfl rfl rfl) rfl ?_
   refine WPL.qg rfl rfl (lb hb5311) (q_lss rfl rfl) rfl ?_
   refine WPL.qg rfl rfl (lb hb5311) (q_fieldAddr fi23_0 rfl rfl) rfl ?_
   refine WPL.qg rfl rfl (lb hb5311) (q_load sc2 rfl rfl rfl) rfl ?_
   refine WPL.qg rfl rfl (lb hb5311) (q_lss rfl rfl) rfl ?_
   obtain ⟨x5313, h5313, H⟩ := bnd H
   refine WPL.qg rfl rfl (lb hb5311) (q_nm (q_eqlb Try.underlying4 rfl rfl) (nm_bool h5313)) rfl ?_
   refine WPL.q (q_pickF (v := .lit (.bool _)) (lb hb5311) rfl) rfl ?_
   refine WPL.nilW ?_
   have q0 := (Option.some.inj H)
   subst q0
   exact W.wk [1, 2, 5] hnp ⟨rfl, rfl, rfl⟩ ⟨rfl, ⟨⟨⟨trivial, .inr ⟨rfl, rfl, rfl⟩⟩, .inr ⟨rfl, rfl, rfl⟩⟩, .inr ⟨rfl, rfl, rfl⟩⟩, by decide, rfl, trivial⟩ (LeE.upd rfl rfl (LeE.upd rfl rfl (LeE.upd rfl rfl (LeE.upd rfl rfl (LeE.upd rfl rfl (LeE.none rfl rfl)))))) rfl
 rintro _ _ _ ⟨rfl, rfl, rfl⟩
 refine W.now ?_
 refine Then.n ?_
 refine WP.cond (t := x5310) rfl (fun hb5314 => ?_) (fun hb5314 => ?_)
 · replace H := cnt hb5314 H
   refine WP.seq ?_
   refine WP.region ?_
   refine WPL.q (q_load_ag ag23 rfl rfl (Nat.le_of_ble_eq_true rfl)) rfl ?_
   refine WPL.q (q_mv (v := .lit (.int _ _)) rfl) rfl ?_
   refine WPL.s (s_store sz23 rfl rfl rfl rfl rfl) ?_
   refine WPL.q (q_as (v := .lit (.int _ _)) rfl) rfl ?_
   refine WPL.nilW ?_
   refine W.now ?_
   refine Then.n ?_
   refine WP.retW ?_
   have q0 := (Prod.mk.inj (Option.some.inj H)).1
   have q1 := (Prod.mk.inj (Prod.mk.inj (Option.some.inj H)).2).1
   have q2 := (Prod.mk.inj (Prod.mk.inj (Option.some.inj H)).2).2
   subst q0
   subst q1
   subst q2
   exact W.now (Then.r (BodyR.mkR trivial rfl [1] ⟨rfl, rfl⟩ ⟨rfl, ⟨trivial, .inr ⟨rfl, rfl, rfl⟩⟩, by decide, rfl, trivial⟩ rfl rfl))
 replace H := cnf hb5314 H
 refine WP.skipW ?_
 refine W.now ?_
 refine Then.n ?_
 refine WP.seq ?_
 refine WP.region ?_
 refine WPL.q (q_load_ag ag23 rfl rfl (Nat.le_of_ble_eq_true rfl)) rfl ?_
 refine WPL.q (q_load_ag ag23 rfl rfl (Nat.le_of_ble_eq_true rfl)) rfl ?_
 obtain ⟨⟨x5317, x5318, x5319⟩, h5315, H⟩ := bnd H
 refine WPL.c (runs_call (s := []) (t := [3]) (N := 4) (bor := []) fn14 rfl (s_dec_Add k x5296 x5297 x5181 x5182 x5317 x5318 x5319 h5315) ⟨rfl, trivial, by decide, rfl, trivial⟩ rfl trivial (.ren rfl rfl (.ren rfl rfl .nil)) rfl ⟨trivial, rfl⟩ rfl) rfl ?_
 refine WPL.q (q_extract rfl rfl) rfl ?_
 refine WPL.q (q_extract rfl rfl) rfl ?_
 refine WPL.s (s_store sz23 rfl rfl rfl rfl rfl) ?_
 refine WPL.q (q_as (v := .lit (.int _ _)) rfl) rfl ?_
 refine WPL.nilW ?_
 refine W.now ?_
 refine Then.n ?_
 refine WP.retW ?_
 have q0 := (Prod.mk.inj (Option.some.inj H)).1
 have q1 := (Prod.mk.inj (Prod.mk.inj (Option.some.inj H)).2).1
 have q2 := (Prod.mk.inj (Prod.mk.inj (Option.some.inj H)).2).2
 subst q0
 subst q1
 subst q2
 exact W.now (BodyR.mkR trivial rfl [1] ⟨rfl, rfl⟩ ⟨rfl, ⟨trivial, .inr ⟨rfl, rfl, rfl⟩⟩, by decide, rfl, trivial⟩ rfl rfl)
set_option maxRecDepth 100000 in
set_option maxHeartbeats 4000000 in
theorem s_dec_clean__b (k : Nat) (x5652 : Int) (x5653 : Int) (x5679 : Bool) (x5680 : Int) (x5681 : Int) (H : g_dec_clean__b k x5652 x5653 = some (x5679, x5680, x5681)) : Go.Q.Spec Try.prog 27 2 [.sl 0 1 0 1] ((Mem.nil.push (.cells 37 [.ptr 1 0])).push (.cells 23 [.lit (.int .i64 x5652), .lit (.int .i64 x5653)])) (fun o M => o = .ret (.lit (.bool x5679)) ∧ M = ((Mem.nil.push (.cells 37 [.ptr 1 0])).push (.cells 23 [.lit (.int .i64 x5680), .lit (.int .i64 x5681)]))) := by
 unfold g_dec_clean__b at H
 refine Go.Q.Spec.of_bodyR (az := []) (rs := [.tmp 2]) (nt := 28) Try.func27 rfl rfl (by intro t T h; simp at h) rfl rfl fun cx hnp => ?_
 refine WP.seq ?_
 refine WP.region ?_
 refine WPL.q (q_as (v := .lit (.bool _)) rfl) rfl ?_
 refine WPL.nilW ?_
 refine W.now ?_
 refine Then.n ?_
 refine WP.seq ?_
 refine WP.seq ?_
 refine WP.region ?_
 refine WPL.q (q_mv (v := .sl _ _ _ _) rfl) rfl ?_
 refine WPL.q (q_len_sl (k := 1) sl81 rfl rfl) rfl ?_
 refine WPL.q (q_mv (v := .lit (.int _ _)) rfl) rfl ?_
 refine WPL.nilW ?_
 refine W.now ?_
 refine Then.n ?_
 refine WP.block ?_
 refine WP.loopU ?_
 refine WPI.round ?_
 refine WP.seq ?_
 refine WP.region ?_
 refine WPL.q (q_lss rfl rfl) rfl ?_
 refine WPL.nilW ?_
 refine W.now ?_
 refine Then.n ?_
 refine WP.seq ?_
 refine WP.condT rfl ?_
 refine WP.skipW ?_
 refine W.now ?_
 refine Then.n ?_
 refine WP.seq ?_
 refine WP.block ?_
 refine WP.seq ?_
 refine WP.region ?_
 refine WPL.q (q_index_sl (o := 0) sl81 rfl rfl rfl rfl) rfl ?_
 refine WPL.q (q_load sc37 rfl rfl rfl) rfl ?_
 refine WPL.q (q_as (v := .ptr _ _) rfl) rfl ?_
 refine WPL.nilW ?_
 refine W.now ?_
 refine Then.n ?_
 refine WP.seq ?_
 refine WP.seq ?_
 refine WP.region ?_
 refine WPL.q (q_mv (v := .ptr _ _) rfl) rfl ?_
 refine WPL.q (q_nilCheck rfl) rfl ?_
 refine WPL.q (q_load_ag ag23 rfl rfl (Nat.le_of_ble_eq_true rfl)) rfl ?_
 refine WPL.d (d_buildSlice (ds := ([(⟨x5652, x5653⟩ : S_api_Dec)] : List S_api_Dec)) (R := rdS_api_Dec) li91 rfl rfl rfl rfl rfl (JoinRows.cons (l := [.lit (.int .i64 x5652), .lit (.int .i64 x5653)]) (Joins.via (Joins.cons Joins.sc (Joins.cons Joins.sc Joins.unit))) rfl JoinRows.nil) rfl rfl) rfl ?_
 obtain ⟨x5698, h5696, H⟩ := bnd H
 refine WPL.c (runs_call (s := []) (t := []) (N := 3) (bor := [2]) fn52 rfl (s_dec_ranged k ([(⟨x5652, x5653⟩ : S_api_Dec)] : List S_api_Dec) x5698 h5696) ⟨rfl, trivial, by decide, rfl, trivial⟩ rfl ⟨trivial, rfl, rfl, trivial⟩ (.row rfl rfl .nil) rfl trivial rfl) rfl ?_
 refine WPL.q (q_not rfl) rfl ?_
 refine WPL.nilW ?_
 refine W.now ?_
 refine Then.n ?_
 refine WP.cond (t := (!x5698)) rfl (fun hb5698 => ?_) (fun hb5698 => ?_)
 · replace H := cnt hb5698 H
   refine WP.seq ?_
   refine WP.region ?_
   refine WPL.q (q_as (v := .lit (.bool _)) rfl) rfl ?_
   refine WPL.nilW ?_
   refine W.now ?_
   refine Then.n ?_
   refine WP.retW ?_
   have q0 := (Prod.mk.inj (Option.some.inj H)).1
   have q1 := (Prod.mk.inj (Prod.mk.inj (Option.some.inj H)).2).1
   have q2 := (Prod.mk.inj (Prod.mk.inj (Option.some.inj H)).2).2
   subst q0
   subst q1
   subst q2
   exact W.now (Then.r (InBlock.r (Then.r (Then.r (InBlock.r (Then.r (BodyR.mkR trivial rfl [0, 1] ⟨rfl, rfl⟩ ⟨rfl, ⟨⟨trivial, .inr ⟨rfl, rfl, rfl⟩⟩, .inr ⟨rfl, rfl, rfl⟩⟩, by decide, rfl, ⟨⟨trivial, rfl⟩, rfl⟩⟩ rfl rfl)))))))
 replace H := cnf hb5698 H
 refine WP.skipW ?_
 refine W.now ?_
 refine Then.n ?_
 refine WP.region ?_
 refine WPL.q (q_mv (v := .ptr _ _) rfl) rfl ?_
 refine WPL.q (q_mv (v := .ptr _ _) rfl) rfl ?_
 refine WPL.q (q_nilCheck rfl) rfl ?_
 refine WPL.q (q_load_ag ag23 rfl rfl (Nat.le_of_ble_eq_true rfl)) rfl ?_
 obtain ⟨x5701, h5699, H⟩ := bnd H
 refine WPL.c (runs_call (s := []) (t := [3]) (N := 4) (bor := []) fn38 rfl (s_dec_of k x5652 x5653 x5701 h5699) ⟨rfl, trivial, by decide, rfl, trivial⟩ rfl trivial (.ren rfl rfl .nil) rfl ⟨trivial, rfl⟩ rfl) rfl ?_
 obtain ⟨⟨x5703, x5704, x5705⟩, h5701, H⟩ := bnd H
 refine WPL.c (runs_call (s := []) (t := [4]) (N := 5) (bor := []) fn31 rfl (s_dec_num_tell k (decide (x5652 < 0)) 0 x5701 x5653 x5703 x5704 x5705 h5701) ⟨rfl, trivial, by decide, rfl, trivial⟩ rfl trivial (.ren rfl rfl .nil) rfl ⟨trivial, rfl⟩ rfl) rfl ?_
 refine WPL.q (q_mv (v := .tup _) rfl) rfl ?_
 refine WPL.q (q_extract rfl rfl) rfl ?_
 refine WPL.q (q_extract rfl rfl) rfl ?_
 refine WPL.q (q_nilCheck rfl) rfl ?_
 refine WPL.s (s_store sz23 rfl rfl rfl rfl rfl) ?_
 refine WPL.nilW ?_
 refine W.now ?_
 refine InBlock.n ?_
 refine Then.n ?_
 refine WP.region ?_
 refine WPL.q (q_nm (q_add rfl rfl) (fold_int (b := 1) (by decide))) rfl ?_
 refine WPL.q (q_mv (v := .lit (.int _ _)) rfl) rfl ?_
 refine WPL.nilW ?_
 refine W.now ?_
 refine Then.n ?_
 refine WPI.round ?_
 refine WP.seq ?_
 refine WP.region ?_
 refine WPL.q (q_lss rfl rfl) rfl ?_
 refine WPL.nilW ?_
 refine W.now ?_
 refine Then.n ?_
 refine WP.seq ?_
 refine WP.condF rfl ?_
 refine WP.exitW ?_
 refine W.now ?_
 refine Then.x ?_
 refine Then.x ?_
 refine InBlock.x0 ?_
 refine Then.n ?_
 refine WP.seq ?_
 refine WP.region ?_
 refine WPL.q (q_as (v := .lit (.bool _)) rfl) rfl ?_
 refine WPL.nilW ?_
 refine W.now ?_
 refine Then.n ?_
 refine WP.retW ?_
 have q0 := (Prod.mk.inj (Option.some.inj H)).1
 have q1 := (Prod.mk.inj (Prod.mk.inj (Option.some.inj H)).2).1
 have q2 := (Prod.mk.inj (Prod.mk.inj (Option.some.inj H)).2).2
 subst q0
 subst q1
 subst q2
 exact W.now (BodyR.mkR trivial rfl [0, 1] ⟨rfl, rfl⟩ ⟨rfl, ⟨⟨trivial, .inr ⟨rfl, rfl, rfl⟩⟩, .inr ⟨rfl, rfl, rfl⟩⟩, by decide, rfl, ⟨⟨trivial, rfl⟩, rfl⟩⟩ rfl rfl)
end Go.Proofs.Ytdbeblgfccjbgaa.W
namespace Go.Proofs.Ytdbeblgfccjbgaa.W
open Go Go.Q Go.Proofs
set_option linter.unusedVariables false
set_option linter.unusedSimpArgs false
set_option maxRecDepth 100000 in
set_option maxHeartbeats 4000000 in
theorem s_dec_Mul (k : Nat) (x5987 : Int) (x5988 : Int) (x5989 : Int) (x5990 : Int) (x6023 : Int) (x6024 : Int) (x6025 : Int) (H : g_dec_Mul k x5987 x5988 x5989 x5990 = some (x6023, x6024, x6025)) : Go.Q.Spec Try.prog 20 0 [.agg [.lit (.int .i64 x5987), .lit (.int .i64 x5988)], .agg [.lit (.int .i64 x5989), .lit (.int .i64 x5990)]] Mem.nil (fun o M => o = .ret (.tup [.agg [.lit (.int .i64 x6024), .lit (.int .i64 x6025)], .lit (.int .i64 x6023)]) ∧ M = (Mem.nil.push (.cells 23 [.lit (.int .i64 x6024), .lit (.int .i64 x6025)]))) := by
 unfold g_dec_Mul at H
 refine Go.Q.Spec.of_bodyR (az := [(23, 2)]) (rs := [.cell 4 23, .tmp 5]) (nt := 41) Try.func20 rfl rfl (by intro t T h; simp at h; rcases h with ⟨rfl, rfl⟩ <;> first | exact ag23) rfl rfl fun cx hnp => ?_
 refine WP.seq ?_
 refine WP.region ?_
 refine WPL.d (d_box rfl rfl) rfl ?_
 refine WPL.d (d_box rfl rfl) rfl ?_
 refine WPL.d (d_alloc ze23 rfl) rfl ?_
 refine WPL.q (q_as (v := .lit (.int _ _)) rfl) rfl ?_
 refine WPL.nilW ?_
 refine W.now ?_
 refine Then.n ?_
 refine WP.seq ?_
 refine WP.seq ?_
 refine WP.region ?_
 refine WPL.d (d_buildCells li81 rfl rfl rfl rfl rfl) rfl ?_
 obtain ⟨⟨x6034, x6035, x6036, x6037, x6038⟩, h6032, H⟩ := bnd H
 refine WPL.c (runs_call (s := [3, 0, 1]) (t := [3, 0, 1]) (N := 4) (bor := []) fn27 rfl (s_dec_clean k x5987 x5988 x5989 x5990 x6034 x6035 x6036 x6037 x6038 h6032) ⟨rfl, ⟨⟨⟨trivial, .inr ⟨rfl, rfl, rfl⟩⟩, .inr ⟨rfl, rfl, rfl⟩⟩, .inr ⟨rfl, rfl, rfl⟩⟩, by decide, rfl, trivial⟩ rfl trivial (.ren rfl rfl .nil) rfl ⟨⟨⟨trivial, rfl⟩, rfl⟩, rfl⟩ rfl) rfl ?_
 refine WPL.q (q_not rfl) rfl ?_
 refine WPL.nilW ?_
 refine W.now ?_
 refine Then.n ?_
 refine WP.cond (t := (!x6034)) rfl (fun hb6038 => ?_) (fun hb6038 => ?_)
 · replace H := cnt hb6038 H
   refine WP.seq ?_
   refine WP.region ?_
   refine WPL.q (q_build bu23 rfl) rfl ?_
   refine WPL.s (s_store sz23 rfl rfl rfl rfl rfl) ?_
   refine WPL.q (q_as (v := .lit (.int _ _)) rfl) rfl ?_
   refine WPL.nilW ?_
   refine W.now ?_
   refine Then.n ?_
   refine WP.retW ?_
   have q0 := (Prod.mk.inj (Option.some.inj H)).1
   have q1 := (Prod.mk.inj (Prod.mk.inj (Option.some.inj H)).2).1
   have q2 := (Prod.mk.inj (Prod.mk.inj (Option.some.inj H)).2).2
   subst q0
   subst q1
   subst q2
   exact W.now (Then.r (BodyR.mkR trivial rfl [2] ⟨rfl, rfl⟩ ⟨rfl, ⟨trivial, .inr ⟨rfl, rfl, rfl⟩⟩, by decide, rfl, trivial⟩ rfl rfl))
 replace H := cnf hb6038 H
 refine WP.skipW ?_
 refine W.now ?_
 refine Then.n ?_
 refine WP.seq ?_
 refine WP.regionD' 12 [0, 1] [] mixed rfl ?_
 refine WPD.takeT 0 rfl (by kernel_rfl) (q_fieldAddr fi23_0 rfl rfl) rfl ?_
 refine WPD.takeT 3 rfl (by kernel_rfl) (q_fieldAddr fi23_0 rfl rfl) rfl ?_
 refine WPD.take 1 rfl (by kernel_rfl) (q_load sc2 rfl rfl rfl) rfl rfl ?_
 refine WPD.take 4 rfl (by kernel_rfl) (q_load sc2 rfl rfl rfl) rfl rfl ?_
 obtain ⟨x6047, h6045, H⟩ := bnd H
 refine WPD.eff 2 [0, 1] [] rfl (by kernel_rfl) (runs_call (s := []) (t := []) (N := 4) (bor := []) fn28 rfl (s_dec_size k x6035 x6047 h6045) ⟨rfl, trivial, by decide, rfl, trivial⟩ rfl trivial (.ren rfl rfl .nil) rfl trivial rfl) rfl rfl ?_
 obtain ⟨x6049, h6047, H⟩ := bnd H
 refine WPD.eff 5 [0, 1] [] rfl (by kernel_rfl) (runs_call (s := []) (t := []) (N := 4) (bor := []) fn28 rfl (s_dec_size k x6037 x6049 h6047) ⟨rfl, trivial, by decide, rfl, trivial⟩ rfl trivial (.ren rfl rfl .nil) rfl trivial rfl) rfl rfl ?_
 obtain ⟨x6051, h6049, H⟩ := bnd H
 refine WPD.eff 6 [0, 1] [] rfl (by kernel_rfl) (runs_call (s := []) (t := []) (N := 4) (bor := []) fn53 rfl (s_math_bits_Mul64 k x6047 x6049 x6051 h6049) ⟨rfl, trivial, by decide, rfl, trivial⟩ rfl trivial (.ren rfl rfl (.ren rfl rfl .nil)) rfl trivial rfl) rfl rfl ?_
 refine WPD.takeT 7 rfl (by kernel_rfl) (q_mv (v := .tup _) rfl) rfl ?_
 refine WPD.takeT 8 rfl (by kernel_rfl) (q_extract rfl rfl) rfl ?_
 refine WPD.takeT 9 rfl (by kernel_rfl) (q_extract rfl rfl) rfl ?_
 refine WPD.takeT 10 rfl (by kernel_rfl) (q_as (v := .lit (.int _ _)) rfl) rfl ?_
 refine WPD.takeT 11 rfl (by kernel_rfl) (q_as (v := .lit (.int _ _)) rfl) rfl ?_
 refine WPD.doneW (by kernel_rfl) ?_
 refine W.now ?_
 refine Then.n ?_
 refine WP.seq ?_
 refine WP.region ?_
 refine WPL.q (q_fieldAddr fi23_0 rfl rfl) rfl ?_
 refine WPL.q (q_load sc2 rfl rfl rfl) rfl ?_
 refine WPL.q (q_lss rfl rfl) rfl ?_
 refine WPL.q (q_fieldAddr fi23_0 rfl rfl) rfl ?_
 refine WPL.q (q_load sc2 rfl rfl rfl) rfl ?_
 refine WPL.q (q_lss rfl rfl) rfl ?_
 obtain ⟨x6052, h6052, H⟩ := bnd H
 refine WPL.q (q_nm (q_neqb Try.underlying4 rfl rfl) (nm_bool h6052)) rfl ?_
 refine WPL.q (q_mv (v := .lit (.int _ _)) rfl) rfl ?_
 refine WPL.q (q_mv (v := .lit (.int _ _)) rfl) rfl ?_
 refine WPL.q (q_build bu43 rfl) rfl ?_
 refine WPL.q (q_fieldAddr fi23_1 rfl rfl) rfl ?_
 refine WPL.q (q_load sc3 rfl rfl rfl) rfl ?_
 refine WPL.q (q_fieldAddr fi23_1 rfl rfl) rfl ?_
 refine WPL.q (q_load sc3 rfl rfl rfl) rfl ?_
 refine WPL.q (q_add rfl rfl) rfl ?_
 refine WPL.q (q_build bu47 rfl) rfl ?_
 obtain ⟨⟨x6054, x6055, x6056⟩, h6052, H⟩ := bnd H
 refine WPL.c (runs_call (s := []) (t := [4]) (N := 5) (bor := []) fn31 rfl (s_dec_num_tell k x6052 x6051 (IntKind.wrap .u64 (x6047 * x6049)) (IntKind.wrap .i64 (x6036 + x6038)) x6054 x6055 x6056 h6052) ⟨rfl, trivial, by decide, rfl, trivial⟩ rfl trivial (.ren rfl rfl .nil) rfl ⟨trivial, rfl⟩ rfl) rfl ?_
 refine WPL.q (q_extract rfl rfl) rfl ?_
 refine WPL.q (q_extract rfl rfl) rfl ?_
 refine WPL.s (s_store sz23 rfl rfl rfl rfl rfl) ?_
 refine WPL.q (q_as (v := .lit (.int _ _)) rfl) rfl ?_
 refine WPL.nilW ?_
 refine W.now ?_
 refine Then.n ?_
 refine WP.retW ?_
 have q0 := (Prod.mk.inj (Option.some.inj H)).1
 have q1 := (Prod.mk.inj (Prod.mk.inj (Option.some.inj H)).2).1
 have q2 := (Prod.mk.inj (Prod.mk.inj (Option.some.inj H)).2).2
 subst q0
 subst q1
 subst q2
 exact W.now (BodyR.mkR trivial rfl [2] ⟨rfl, rfl⟩ ⟨rfl, ⟨trivial, .inr ⟨rfl, rfl, rfl⟩⟩, by decide, rfl, trivial⟩ rfl rfl)
end Go.Proofs.Ytdbeblgfccjbgaa.W
namespace Go.Proofs.Ytdbeblgfccjbgaa.W
open Go Go.Q Go.Proofs
set_option linter.unusedVariables false
set_option linter.unusedSimpArgs false
end Go.Proofs.Ytdbeblgfccjbgaa.W
namespace Go.Proofs.Ytdbeblgfccjbgaa.W
open Go Go.Q Go.Proofs
set_option linter.unusedVariables false
set_option linter.unusedSimpArgs false
set_option maxRecDepth 100000 in
set_option maxHeartbeats 4000000 in
theorem s_dec_Make (k : Nat) (x8742 : Int) (x8743 : Int) (x8765 : Int) (x8766 : Int) (x8767 : Int) (H : g_dec_Make k x8742 x8743 = some (x8765, x8766, x8767)) : Go.Q.Spec Try.prog 25 0 [.lit (.int .i64 x8742), .lit (.int .i64 x8743)] Mem.nil (fun o M => o = .ret (.tup [.agg [.lit (.int .i64 x8766), .lit (.int .i64 x8767)], .lit (.int .i64 x8765)]) ∧ M = (Mem.nil.push (.cells 23 [.lit (.int .i64 x8766), .lit (.int .i64 x8767)]))) := by
 unfold g_dec_Make at H
 refine Go.Q.Spec.of_bodyR (az := [(23, 2)]) (rs := [.cell 4 23, .tmp 5]) (nt := 27) Try.func25 rfl rfl (by intro t T h; simp at h; rcases h with ⟨rfl, rfl⟩ <;> first | exact ag23) rfl rfl fun cx hnp => ?_
 refine WP.seq ?_
 refine WP.region ?_
 refine WPL.d (d_alloc ze23 rfl) rfl ?_
 refine WPL.q (q_as (v := .lit (.int _ _)) rfl) rfl ?_
 refine WPL.nilW ?_
 refine W.now ?_
 refine Then.n ?_
 refine WP.seq ?_
 refine WP.seq ?_
 obtain ⟨x8777, H8779, H⟩ := bnd H
 refine WP.monoW (Q := fun x E M => x = .normal ∧ E = ((((Env.none.upd 0 (.lit (.int .i64 x8742))).upd 1 (.lit (.int .i64 x8743))).upd 4 (.ptr 0 0)).upd 15 (.lit (.bool x8777))) ∧ M = (Mem.nil.push (.cells 23 [.lit (.int .i64 0), .lit (.int .i64 0)]))) ?_ ?_
 · clear H
   have H := H8779
   clear H8779
   refine WP.region ?_
   refine WPL.q (q_mv (v := .lit (.int _ _)) rfl) rfl ?_
   refine WPL.q (q_neq rfl rfl) rfl ?_
   refine WPL.q (q_mv (v := .lit (.bool _)) rfl) rfl ?_
   refine WPL.split (t := 8) (b := (!decide (x8742 = 0))) rfl (fun hb8777 => ?_) (fun hb8777 => ?_)
   · replace H := cnt hb8777 H
     refine WPL.qg rfl rfl (lb hb8777) (q_mv (v := .lit (.int _ _)) rfl) rfl ?_
     refine WPL.qg rfl rfl (lb hb8777) (q_lss rfl rfl) rfl ?_
     refine WPL.qg rfl rfl (lb hb8777) (q_mv (v := .lit (.bool _)) rfl) rfl ?_
     refine WPL.split (t := 11) (b := (decide (x8743 < (-100)))) rfl (fun hb8778 => ?_) (fun hb8778 => ?_)
     · replace H := cnt hb8778 H
       refine WPL.skipg (b' := true) rfl rfl (lb hb8778) rfl rfl ?_
       refine WPL.skipg (b' := true) rfl rfl (lb hb8778) rfl rfl ?_
       refine WPL.qg rfl rfl (lb hb8777) (q_pickT (v := .lit (.bool _)) (lb hb8778) rfl) rfl ?_
       refine WPL.q (q_pickT (v := .lit (.bool _)) (lb hb8777) rfl) rfl ?_
       refine WPL.nilW ?_
       have q0 := (Option.some.inj H)
       subst q0
       exact W.wk [0] hnp ⟨rfl, rfl, rfl⟩ ⟨rfl, ⟨trivial, .inr ⟨rfl, rfl, rfl⟩⟩, by decide, rfl, trivial⟩ (LeE.upd rfl rfl (LeE.upd rfl rfl (LeE.upd rfl rfl (LeE.upd rfl rfl (LeE.none rfl rfl))))) rfl
     replace H := cnf hb8778 H
     refine WPL.qg rfl rfl (lb hb8778) (q_mv (v := .lit (.int _ _)) rfl) rfl ?_
     refine WPL.qg rfl rfl (lb hb8778) (q_gtr rfl rfl) rfl ?_
     refine WPL.qg rfl rfl (lb hb8777) (q_pickF (v := .lit (.bool _)) (lb hb8778) rfl) rfl ?_
     refine WPL.q (q_pickT (v := .lit (.bool _)) (lb hb8777) rfl) rfl ?_
     refine WPL.nilW ?_
     have q0 := (Option.some.inj H)
     subst q0
     exact W.wk [0] hnp ⟨rfl, rfl, rfl⟩ ⟨rfl, ⟨trivial, .inr ⟨rfl, rfl, rfl⟩⟩, by decide, rfl, trivial⟩ (LeE.upd rfl rfl (LeE.upd rfl rfl (LeE.upd rfl rfl (LeE.upd rfl rfl (LeE.none rfl rfl))))) rfl
   replace H := cnf hb8777 H
   refine WPL.skipg (b' := false) rfl rfl (lb hb8777) rfl rfl ?_
   refine WPL.skipg (b' := false) rfl rfl (lb hb8777) rfl rfl ?_
   refine WPL.skipg (b' := false) rfl rfl (lb hb8777) rfl rfl ?_
   refine WPL.skipu rfl rfl rfl rfl ?_
   refine WPL.skipu rfl rfl rfl rfl ?_
   refine WPL.skipg (b' := false) rfl rfl (lb hb8777) rfl rfl ?_
   refine WPL.q (q_pickF (v := .lit (.bool _)) (lb hb8777) rfl) rfl ?_
   refine WPL.nilW ?_
   have q0 := (Option.some.inj H)
   subst q0
   exact W.wk [0] hnp ⟨rfl, rfl, rfl⟩ ⟨rfl, ⟨trivial, .inr ⟨rfl, rfl, rfl⟩⟩, by decide, rfl, trivial⟩ (LeE.upd rfl rfl (LeE.upd rfl rfl (LeE.upd rfl rfl (LeE.upd rfl rfl (LeE.none rfl rfl))))) rfl
 rintro _ _ _ ⟨rfl, rfl, rfl⟩
 refine W.now ?_
 refine Then.n ?_
 refine WP.cond (t := x8777) rfl (fun hb8780 => ?_) (fun hb8780 => ?_)
 · replace H := cnt hb8780 H
   refine WP.seq ?_
   refine WP.region ?_
   refine WPL.q (q_build bu23 rfl) rfl ?_
   refine WPL.s (s_store sz23 rfl rfl rfl rfl rfl) ?_
   refine WPL.q (q_as (v := .lit (.int _ _)) rfl) rfl ?_
   refine WPL.nilW ?_
   refine W.now ?_
   refine Then.n ?_
   refine WP.retW ?_
   have q0 := (Prod.mk.inj (Option.some.inj H)).1
   have q1 := (Prod.mk.inj (Prod.mk.inj (Option.some.inj H)).2).1
   have q2 := (Prod.mk.inj (Prod.mk.inj (Option.some.inj H)).2).2
   subst q0
   subst q1
   subst q2
   exact W.now (Then.r (BodyR.mkR trivial rfl [0] ⟨rfl, rfl⟩ ⟨rfl, ⟨trivial, .inr ⟨rfl, rfl, rfl⟩⟩, by decide, rfl, trivial⟩ rfl rfl))
 replace H := cnf hb8780 H
 refine WP.skipW ?_
 refine W.now ?_
 refine Then.n ?_
 refine WP.seq ?_
 refine WP.region ?_
 refine WPL.q (q_mv (v := .lit (.int _ _)) rfl) rfl ?_
 refine WPL.q (q_lss rfl rfl) rfl ?_
 refine WPL.q (q_mv (v := .lit (.int _ _)) rfl) rfl ?_
 obtain ⟨x8783, h8781, H⟩ := bnd H
 refine WPL.c (runs_call (s := []) (t := []) (N := 1) (bor := []) fn28 rfl (s_dec_size k x8742 x8783 h8781) ⟨rfl, trivial, by decide, rfl, trivial⟩ rfl trivial (.ren rfl rfl .nil) rfl trivial rfl) rfl ?_
 refine WPL.q (q_build bu43 rfl) rfl ?_
 refine WPL.q (q_mv (v := .lit (.int _ _)) rfl) rfl ?_
 refine WPL.q (q_build bu47 rfl) rfl ?_
 obtain ⟨⟨x8785, x8786, x8787⟩, h8783, H⟩ := bnd H
 refine WPL.c (runs_call (s := []) (t := [1]) (N := 2) (bor := []) fn31 rfl (s_dec_num_tell k (decide (x8742 < 0)) 0 x8783 x8743 x8785 x8786 x8787 h8783) ⟨rfl, trivial, by decide, rfl, trivial⟩ rfl trivial (.ren rfl rfl .nil) rfl ⟨trivial, rfl⟩ rfl) rfl ?_
 refine WPL.q (q_extract rfl rfl) rfl ?_
 refine WPL.q (q_extract rfl rfl) rfl ?_
 refine WPL.s (s_store sz23 rfl rfl rfl rfl rfl) ?_
 refine WPL.q (q_as (v := .lit (.int _ _)) rfl) rfl ?_
 refine WPL.nilW ?_
 refine W.now ?_
 refine Then.n ?_
 refine WP.retW ?_
 have q0 := (Prod.mk.inj (Option.some.inj H)).1
 have q1 := (Prod.mk.inj (Prod.mk.inj (Option.some.inj H)).2).1
 have q2 := (Prod.mk.inj (Prod.mk.inj (Option.some.inj H)).2).2
 subst q0
 subst q1
 subst q2
 exact W.now (BodyR.mkR trivial rfl [0] ⟨rfl, rfl⟩ ⟨rfl, ⟨trivial, .inr ⟨rfl, rfl, rfl⟩⟩, by decide, rfl, trivial⟩ rfl rfl)
set_option maxRecDepth 100000 in
set_option maxHeartbeats 4000000 in
theorem s_math_bits_Mul (k : Nat) (x8866 : Int) (x8867 : Int) (x8871 : Int) (H : g_math_bits_Mul k x8866 x8867 = some x8871) : Go.Q.Spec Try.prog 70 0 [.lit (.int .u64 x8866), .lit (.int .u64 x8867)] Mem.nil (fun o M => o = .ret (.tup [.lit (.int .u64 x8871), .lit (.int .u64 (IntKind.wrap .u64 (x8866 * x8867)))]) ∧ M = Mem.nil) := by
 unfold g_math_bits_Mul at H
 refine Go.Q.Spec.of_bodyR (az := []) (rs := [.tmp 4, .tmp 5]) (nt := 30) Try.func70 rfl rfl (by intro t T h; simp at h) rfl rfl fun cx hnp => ?_
 refine WP.seq ?_
 refine WP.region ?_
 refine WPL.q (q_as (v := .lit (.int _ _)) rfl) rfl ?_
 refine WPL.q (q_as (v := .lit (.int _ _)) rfl) rfl ?_
 refine WPL.nilW ?_
 refine W.now ?_
 refine Then.n ?_
 refine WP.seq ?_
 refine WP.condF rfl ?_
 refine WP.skipW ?_
 refine W.now ?_
 refine Then.n ?_
 refine WP.seq ?_
 refine WP.region ?_
 refine WPL.q (q_mv (v := .lit (.int _ _)) rfl) rfl ?_
 refine WPL.q (q_mv (v := .lit (.int _ _)) rfl) rfl ?_
 obtain ⟨x8873, h8871, H⟩ := bnd H
 refine WPL.c (runs_call (s := []) (t := []) (N := 0) (bor := []) fn53 rfl (s_math_bits_Mul64 k x8866 x8867 x8873 h8871) ⟨rfl, trivial, by decide, rfl, trivial⟩ rfl trivial (.ren rfl rfl (.ren rfl rfl .nil)) rfl trivial rfl) rfl ?_
 refine WPL.q (q_mv (v := .tup _) rfl) rfl ?_
 refine WPL.q (q_extract rfl rfl) rfl ?_
 refine WPL.q (q_extract rfl rfl) rfl ?_
 refine WPL.q (q_as (v := .lit (.int _ _)) rfl) rfl ?_
 refine WPL.q (q_as (v := .lit (.int _ _)) rfl) rfl ?_
 refine WPL.nilW ?_
 refine W.now ?_
 refine Then.n ?_
 refine WP.seq ?_
 refine WP.region ?_
 refine WPL.q (q_mv (v := .lit (.int _ _)) rfl) rfl ?_
 refine WPL.q (q_mv (v := .lit (.int _ _)) rfl) rfl ?_
 refine WPL.q (q_as (v := .lit (.int _ _)) rfl) rfl ?_
 refine WPL.q (q_as (v := .lit (.int _ _)) rfl) rfl ?_
 refine WPL.nilW ?_
 refine W.now ?_
 refine Then.n ?_
 refine WP.retW ?_
 have q0 := (Option.some.inj H)
 subst q0
 exact W.now (BodyR.mkR trivial rfl [] ⟨rfl, rfl⟩ ⟨rfl, trivial, by decide, rfl, trivial⟩ rfl rfl)
set_option maxRecDepth 100000 in
set_option maxHeartbeats 4000000 in
theorem s_internal_stringslite_HasPrefix (k : Nat) (x8911 : ByteArray) (x8912 : ByteArray) (x8924 : Bool) (H : g_internal_stringslite_HasPrefix k x8911 x8912 = some x8924) : Go.Q.Spec Try.prog 78 0 [.lit (.string x8911), .lit (.string x8912)] Mem.nil (fun o M => o = .ret (.lit (.bool x8924)) ∧ M = Mem.nil) := by
 unfold g_internal_stringslite_HasPrefix at H
 refine Go.Q.Spec.of_bodyR (az := []) (rs := [.tmp 4]) (nt := 18) Try.func78 rfl rfl (by intro t T h; simp at h) rfl rfl fun cx hnp => ?_
 refine WP.seq ?_
 refine WP.region ?_
 refine WPL.q (q_as (v := .lit (.bool _)) rfl) rfl ?_
 refine WPL.nilW ?_
 refine W.now ?_
 refine Then.n ?_
 refine WP.seq ?_
 obtain ⟨x8929, H8933, H⟩ := bnd H
 refine WP.monoW (Q := fun x E M => x = .normal ∧ E = (Env.none.upd 4 (.lit (.bool x8929))) ∧ M = Mem.nil) ?_ ?_
 · clear H
   have H := H8933
   clear H8933
   refine WP.region ?_
   refine WPL.q (q_mv (v := .lit (.string _)) rfl) rfl ?_
   refine WPL.q (q_len_str Try.underlying9 rfl) rfl ?_
   refine WPL.q (q_mv (v := .lit (.string _)) rfl) rfl ?_
   refine WPL.q (q_len_str Try.underlying9 rfl) rfl ?_
   obtain ⟨x8930, h8930, H⟩ := bnd H
   refine WPL.q (q_nm (q_geq rfl rfl) (nm_bool h8930)) rfl ?_
   refine WPL.q (q_mv (v := .lit (.bool _)) rfl) rfl ?_
   refine WPL.split (t := 10) (b := x8930) rfl (fun hb8930 => ?_) (fun hb8930 => ?_)
   · replace H := cnt hb8930 H
     refine WPL.qg rfl rfl (lb hb8930) (q_mv (v := .lit (.string _)) rfl) rfl ?_
     refine WPL.qg rfl rfl (lb hb8930) (q_mv (v := .lit (.string _)) rfl) rfl ?_
     refine WPL.qg rfl rfl (lb hb8930) (q_len_str Try.underlying9 rfl) rfl ?_
     obtain ⟨h8931, H⟩ := grd H
     obtain ⟨x8933, h8933, H⟩ := bnd H
     refine WPL.qg rfl rfl (lb hb8930) (q_nm (q_slice_str (i := 0) (j := ((ByteArray.size x8912 : Nat) : Int)) Try.underlying9 rfl rfl ⟨_, rfl⟩ h8931) (nm_str h8933)) rfl ?_
     refine WPL.qg rfl rfl (lb hb8930) (q_mv (v := .lit (.string _)) rfl) rfl ?_
     refine WPL.qg rfl rfl (lb hb8930) (q_eqls rfl rfl) rfl ?_
     refine WPL.q (q_pickT (v := .lit (.bool _)) (lb hb8930) rfl) rfl ?_
     refine WPL.q (q_as (v := .lit (.bool _)) rfl) rfl ?_
     refine WPL.nilW ?_
     have q0 := (Option.some.inj H)
     subst q0
     exact W.wk [] hnp ⟨rfl, rfl, rfl⟩ ⟨rfl, trivial, by decide, rfl, trivial⟩ (LeE.upd rfl rfl (LeE.none rfl rfl)) rfl
   replace H := cnf hb8930 H
   refine WPL.skipg (b' := false) rfl rfl (lb hb8930) rfl rfl ?_
   refine WPL.skipg (b' := false) rfl rfl (lb hb8930) rfl rfl ?_
   refine WPL.skipg (b' := false) rfl rfl (lb hb8930) rfl rfl ?_
   refine WPL.skipg (b' := false) rfl rfl (lb hb8930) rfl rfl ?_
   refine WPL.skipg (b' := false) rfl rfl (lb hb8930) rfl rfl ?_
   refine WPL.skipg (b' := false) rfl rfl (lb hb8930) rfl rfl ?_
   refine WPL.q (q_pickF (v := .lit (.bool _)) (lb hb8930) rfl) rfl ?_
   refine WPL.q (q_as (v := .lit (.bool _)) rfl) rfl ?_
   refine WPL.nilW ?_
   have q0 := (Option.some.inj H)
   subst q0
   exact W.wk [] hnp ⟨rfl, rfl, rfl⟩ ⟨rfl, trivial, by decide, rfl, trivial⟩ (LeE.upd rfl rfl (LeE.none rfl rfl)) rfl
 rintro _ _ _ ⟨rfl, rfl, rfl⟩
 refine W.now ?_
 refine Then.n ?_
 refine WP.retW ?_
 have q0 := (Option.some.inj H)
 subst q0
 exact W.now (BodyR.mkR trivial rfl [] ⟨rfl, rfl⟩ ⟨rfl, trivial, by decide, rfl, trivial⟩ rfl rfl)
set_option maxRecDepth 100000 in
set_option maxHeartbeats 4000000 in
theorem s_strings_HasPrefix (k : Nat) (x8908 : ByteArray) (x8909 : ByteArray) (x8937 : Bool) (H : g_strings_HasPrefix k x8908 x8909 = some x8937) : Go.Q.Spec Try.prog 71 0 [.lit (.string x8908), .lit (.string x8909)] Mem.nil (fun o M => o = .ret (.lit (.bool x8937)) ∧ M = Mem.nil) := by
 unfold g_strings_HasPrefix at H
 refine Go.Q.Spec.of_bodyR (az := []) (rs := [.tmp 4]) (nt := 8) Try.func71 rfl rfl (by intro t T h; simp at h) rfl rfl fun cx hnp => ?_
 refine WP.seq ?_
 refine WP.region ?_
 refine WPL.q (q_as (v := .lit (.bool _)) rfl) rfl ?_
 refine WPL.nilW ?_
 refine W.now ?_
 refine Then.n ?_
 refine WP.seq ?_
 refine WP.region ?_
 refine WPL.q (q_mv (v := .lit (.string _)) rfl) rfl ?_
 refine WPL.q (q_mv (v := .lit (.string _)) rfl) rfl ?_
 obtain ⟨x8939, h8937, H⟩ := bnd H
 refine WPL.c (runs_call (s := []) (t := []) (N := 0) (bor := []) fn78 rfl (s_internal_stringslite_HasPrefix k x8908 x8909 x8939 h8937) ⟨rfl, trivial, by decide, rfl, trivial⟩ rfl trivial (.ren rfl rfl (.ren rfl rfl .nil)) rfl trivial rfl) rfl ?_
 refine WPL.q (q_as (v := .lit (.bool _)) rfl) rfl ?_
 refine WPL.nilW ?_
 refine W.now ?_
 refine Then.n ?_
 refine WP.retW ?_
 have q0 := (Option.some.inj H)
 subst q0
 exact W.now (BodyR.mkR trivial rfl [] ⟨rfl, rfl⟩ ⟨rfl, trivial, by decide, rfl, trivial⟩ rfl rfl)
set_option maxRecDepth 100000 in
set_option maxHeartbeats 4000000 in
theorem s_strings_Builder_copyCheck (k : Nat) (H : g_strings_Builder_copyCheck k = some ()) : Go.Q.Spec Try.prog 79 1 [.ptr 0 0] (Mem.nil.push (.cells 101 [.lit (.pointer none), .lit (.slice none 0 0)])) (fun o M => o = .ret (.tup []) ∧ M = (Mem.nil.push (.cells 101 [.ptr 0 0, .lit (.slice none 0 0)]))) := by
 unfold g_strings_Builder_copyCheck at H
 refine Go.Q.Spec.of_bodyR (az := []) (rs := []) (nt := 20) Try.func79 rfl rfl (by intro t T h; simp at h) rfl rfl fun cx hnp => ?_
 refine WP.seq ?_
 refine WP.region ?_
 refine WPL.q (q_mv (v := .ptr _ _) rfl) rfl ?_
 refine WPL.q (q_nilCheck rfl) rfl ?_
 refine WPL.q (q_fieldAddr fi101_0 rfl rfl) rfl ?_
 refine WPL.q (q_load sc99 rfl rfl rfl) rfl ?_
 refine WPL.q (q_eqlp_nil Try.underlying99 rfl) rfl ?_
 refine WPL.nilW ?_
 refine W.now ?_
 refine Then.n ?_
 refine WP.condT rfl ?_
 refine WP.region ?_
 refine WPL.q (q_mv (v := .ptr _ _) rfl) rfl ?_
 refine WPL.q (q_mv (v := .ptr _ _) rfl) rfl ?_
 refine WPL.q (q_toUnsafe Try.underlying99 Try.underlying111 in101 rfl rfl rfl) rfl ?_
 refine WPL.q (q_noEscape ex81 rfl (v := .ptr _ _) rfl) rfl ?_
 refine WPL.q (q_fromUnsafe Try.underlying111 Try.underlying99 te101 rfl rfl (by kernel_rfl)) rfl ?_
 refine WPL.q (q_nilCheck rfl) rfl ?_
 refine WPL.q (q_fieldAddr fi101_0 rfl rfl) rfl ?_
 refine WPL.s (s_store sz99 rfl rfl rfl rfl rfl) ?_
 refine WPL.nilW ?_
 exact W.now (BodyR.mkN trivial rfl [0] ⟨rfl, rfl⟩ ⟨rfl, ⟨trivial, .inr ⟨rfl, rfl, rfl⟩⟩, by decide, rfl, ⟨trivial, rfl⟩⟩ rfl rfl)
set_option maxRecDepth 100000 in
set_option maxHeartbeats 4000000 in
theorem s_strings_Builder_grow (k : Nat) (x9085 : Int) (H : g_strings_Builder_grow k x9085 = some ()) : Go.Q.Spec Try.prog 80 1 [.ptr 0 0, .lit (.int .i64 x9085)] (Mem.nil.push (.cells 101 [.ptr 0 0, .lit (.slice none 0 0)])) (fun o M => o = .ret (.tup []) ∧ M = ((Mem.nil.push (.cells 101 [.ptr 0 0, .whole 1])).push (.row 5 (Rd.int .u8) ([] : List Int)))) := by
 unfold g_strings_Builder_grow at H
 refine Go.Q.Spec.of_bodyR (az := []) (rs := []) (nt := 30) Try.func80 rfl rfl (by intro t T h; simp at h) rfl rfl fun cx hnp => ?_
 refine WP.seq ?_
 refine WP.regionD' 16 [0] [] mixed rfl ?_
 refine WPD.takeT 0 rfl (by kernel_rfl) (q_mv (v := .ptr _ _) rfl) rfl ?_
 refine WPD.takeT 1 rfl (by kernel_rfl) (q_nilCheck rfl) rfl ?_
 refine WPD.takeT 2 rfl (by kernel_rfl) (q_fieldAddr fi101_1 rfl rfl) rfl ?_
 refine WPD.takeT 6 rfl (by kernel_rfl) (q_mv (v := .lit (.int _ _)) rfl) rfl ?_
 refine WPD.takeT 9 rfl (by kernel_rfl) (q_mv (v := .ptr _ _) rfl) rfl ?_
 refine WPD.takeT 10 rfl (by kernel_rfl) (q_nilCheck rfl) rfl ?_
 refine WPD.takeT 11 rfl (by kernel_rfl) (q_fieldAddr fi101_1 rfl rfl) rfl ?_
 refine WPD.take 3 rfl (by kernel_rfl) (q_load sc89 rfl rfl rfl) rfl rfl ?_
 refine WPD.takeT 4 rfl (by kernel_rfl) (q_cap_nil Try.underlying89 rfl) rfl ?_
 refine WPD.takeT 5 rfl (by kernel_rfl) (q_mul rfl rfl) rfl ?_
 obtain ⟨x9100, h9100, H⟩ := bnd H
 refine WPD.takeT 7 rfl (by kernel_rfl) (q_nm (q_add rfl rfl) (nm_int h9100)) rfl ?_
 refine WPD.take 12 rfl (by kernel_rfl) (q_load sc89 rfl rfl rfl) rfl rfl ?_
 refine WPD.takeT 13 rfl (by kernel_rfl) (q_len_nil sl89 rfl) rfl ?_
 obtain ⟨h9100, H⟩ := grd H
 refine WPD.eff 8 [0] [] rfl (by kernel_rfl) (Does.runs (d_makeNoZero ex82 Try.underlying89 rfl rfl h9100 rfl)) rfl rfl ?_
 obtain ⟨h9102, H⟩ := grd H
 refine WPD.eff 14 [0] [] rfl (by kernel_rfl) (Does.runs (d_cut sl89 rfl rfl rfl h9102 rfl)) rfl rfl ?_
 refine WPD.takeT 15 rfl (by kernel_rfl) (q_as (v := .whole _) rfl) rfl ?_
 refine WPD.doneW (by kernel_rfl) ?_
 refine W.now ?_
 refine Then.n ?_
 refine WP.seq ?_
 refine WP.region ?_
 refine WPL.q (q_mv (v := .whole _) rfl) rfl ?_
 refine WPL.q (q_mv (v := .ptr _ _) rfl) rfl ?_
 refine WPL.q (q_nilCheck rfl) rfl ?_
 refine WPL.q (q_fieldAddr fi101_1 rfl rfl) rfl ?_
 refine WPL.q (q_load sc89 rfl rfl rfl) rfl ?_
 obtain ⟨h9103, H⟩ := grd H
 refine WPL.d (d_copyAll sl89 rfl rfl rfl rfl (src_nil (R := (Rd.int .u8)) sl89 rfl) h9103) rfl ?_
 refine WPL.nilW ?_
 refine W.now ?_
 refine Then.n ?_
 refine WP.region ?_
 refine WPL.q (q_mv (v := .ptr _ _) rfl) rfl ?_
 refine WPL.q (q_mv (v := .whole _) rfl) rfl ?_
 refine WPL.q (q_nilCheck rfl) rfl ?_
 refine WPL.q (q_fieldAddr fi101_1 rfl rfl) rfl ?_
 refine WPL.s (s_store sz89 rfl rfl rfl rfl rfl) ?_
 refine WPL.nilW ?_
 exact W.now (BodyR.mkN trivial rfl [0, 2] ⟨rfl, rfl⟩ ⟨rfl, ⟨⟨trivial, .inr ⟨rfl, rfl, rfl⟩⟩, .inr ⟨rfl, rfl, rfl⟩⟩, by decide, rfl, ⟨trivial, rfl⟩⟩ rfl rfl)
set_option maxRecDepth 100000 in
set_option maxHeartbeats 4000000 in
theorem s_strings_Builder_Grow (k : Nat) (x9076 : Int) (H : g_strings_Builder_Grow k x9076 = some ()) : Go.Q.Spec Try.prog 72 1 [.ptr 0 0, .lit (.int .i64 x9076)] (Mem.nil.push (.cells 101 [.lit (.pointer none), .lit (.slice none 0 0)])) (fun o M => o = .ret (.tup []) ∧ M = ((Mem.nil.push (.cells 101 [.ptr 0 0, .whole 1])).push (.row 5 (Rd.int .u8) ([] : List Int)))) := by
 unfold g_strings_Builder_Grow at H
 refine Go.Q.Spec.of_bodyR (az := []) (rs := []) (nt := 25) Try.func72 rfl rfl (by intro t T h; simp at h) rfl rfl fun cx hnp => ?_
 refine WP.seq ?_
 refine WP.region ?_
 refine WPL.q (q_mv (v := .ptr _ _) rfl) rfl ?_
 obtain ⟨_, h9105, H⟩ := bnd H
 refine WPL.c (runs_call (s := [0]) (t := [0]) (N := 1) (bor := []) fn79 rfl (s_strings_Builder_copyCheck k h9105) ⟨rfl, ⟨trivial, .inr ⟨rfl, rfl, rfl⟩⟩, by decide, rfl, trivial⟩ rfl trivial (.ren rfl rfl .nil) rfl ⟨trivial, rfl⟩ rfl) rfl ?_
 refine WPL.nilW ?_
 refine W.now ?_
 refine Then.n ?_
 refine WP.seq ?_
 refine WP.seq ?_
 refine WP.region ?_
 refine WPL.q (q_mv (v := .lit (.int _ _)) rfl) rfl ?_
 refine WPL.q (q_lss rfl rfl) rfl ?_
 refine WPL.nilW ?_
 refine W.now ?_
 refine Then.n ?_
 refine WP.cond (t := (decide (x9076 < 0))) rfl (fun hb9107 => ?_) (fun hb9107 => ?_)
 · replace H := cnt hb9107 H
   refine WP.region ?_
   refine WPL.q (q_mki cn9) rfl ?_
   exact nf rfl H
 replace H := cnf hb9107 H
 refine WP.skipW ?_
 refine W.now ?_
 refine Then.n ?_
 refine WP.seq ?_
 refine WP.regionD' 13 [0] [] mixed rfl ?_
 refine WPD.takeT 0 rfl (by kernel_rfl) (q_mv (v := .ptr _ _) rfl) rfl ?_
 refine WPD.takeT 1 rfl (by kernel_rfl) (q_nilCheck rfl) rfl ?_
 refine WPD.takeT 2 rfl (by kernel_rfl) (q_fieldAddr fi101_1 rfl rfl) rfl ?_
 refine WPD.takeT 5 rfl (by kernel_rfl) (q_mv (v := .ptr _ _) rfl) rfl ?_
 refine WPD.takeT 6 rfl (by kernel_rfl) (q_nilCheck rfl) rfl ?_
 refine WPD.takeT 7 rfl (by kernel_rfl) (q_fieldAddr fi101_1 rfl rfl) rfl ?_
 refine WPD.takeT 11 rfl (by kernel_rfl) (q_mv (v := .lit (.int _ _)) rfl) rfl ?_
 refine WPD.take 3 rfl (by kernel_rfl) (q_load sc89 rfl rfl rfl) rfl rfl ?_
 refine WPD.takeT 4 rfl (by kernel_rfl) (q_cap_nil Try.underlying89 rfl) rfl ?_
 refine WPD.take 8 rfl (by kernel_rfl) (q_load sc89 rfl rfl rfl) rfl rfl ?_
 refine WPD.takeT 9 rfl (by kernel_rfl) (q_len_nil sl89 rfl) rfl ?_
 refine WPD.takeT 10 rfl (by kernel_rfl) (q_sub rfl rfl) rfl ?_
 obtain ⟨x9110, h9110, H⟩ := bnd H
 refine WPD.takeT 12 rfl (by kernel_rfl) (q_nm (q_lss rfl rfl) (nm_bool h9110)) rfl ?_
 refine WPD.doneW (by kernel_rfl) ?_
 refine W.now ?_
 refine Then.n ?_
 refine WP.cond (t := x9110) rfl (fun hb9110 => ?_) (fun hb9110 => ?_)
 · replace H := cnt hb9110 H
   refine WP.region ?_
   refine WPL.q (q_mv (v := .ptr _ _) rfl) rfl ?_
   refine WPL.q (q_mv (v := .lit (.int _ _)) rfl) rfl ?_
   obtain ⟨_, h9111, H⟩ := bnd H
   refine WPL.c (runs_call (s := [0]) (t := [0, 1]) (N := 2) (bor := []) fn80 rfl (s_strings_Builder_grow k x9076 h9111) ⟨rfl, ⟨trivial, .inr ⟨rfl, rfl, rfl⟩⟩, by decide, rfl, trivial⟩ rfl trivial (.ren rfl rfl (.ren rfl rfl .nil)) rfl ⟨⟨trivial, rfl⟩, rfl⟩ rfl) rfl ?_
   refine WPL.nilW ?_
   exact W.now (BodyR.mkN trivial rfl [0, 1] ⟨rfl, rfl⟩ ⟨rfl, ⟨⟨trivial, .inr ⟨rfl, rfl, rfl⟩⟩, .inr ⟨rfl, rfl, rfl⟩⟩, by decide, rfl, ⟨trivial, rfl⟩⟩ rfl rfl)
 replace H := cnf hb9110 H
 refine WP.skipW ?_
 refine W.cv (Cv.virC 5 (Rd.int .u8) (N := 1) rfl rfl (i := 0) (off := 1) rfl rfl) rfl ?_
 exact W.now (BodyR.mkN trivial rfl [0, 1] ⟨rfl, rfl⟩ ⟨rfl, ⟨⟨trivial, .inr ⟨rfl, rfl, rfl⟩⟩, .inr ⟨rfl, rfl, rfl⟩⟩, by decide, rfl, ⟨trivial, rfl⟩⟩ rfl rfl)
set_option maxRecDepth 100000 in
set_option maxHeartbeats 4000000 in
theorem s_strings_Builder_copyCheck__b (k : Nat) (x9117 : (List Int)) (H : g_strings_Builder_copyCheck__b k x9117 = some ()) : Go.Q.Spec Try.prog 79 1 [.ptr 0 0] ((Mem.nil.push (.cells 101 [.ptr 0 0, .whole 1])).push (.row 5 (Rd.int .u8) x9117)) (fun o M => o = .ret (.tup []) ∧ M = ((Mem.nil.push (.cells 101 [.ptr 0 0, .whole 1])).push (.row 5 (Rd.int .u8) x9117))) := by
 unfold g_strings_Builder_copyCheck__b at H
 refine Go.Q.Spec.of_bodyR (az := []) (rs := []) (nt := 20) Try.func79 rfl rfl (by intro t T h; simp at h) rfl rfl fun cx hnp => ?_
 refine WP.seq ?_
 refine WP.region ?_
 refine WPL.q (q_mv (v := .ptr _ _) rfl) rfl ?_
 refine WPL.q (q_nilCheck rfl) rfl ?_
 refine WPL.q (q_fieldAddr fi101_0 rfl rfl) rfl ?_
 refine WPL.q (q_load sc99 rfl rfl rfl) rfl ?_
 refine WPL.q (q_eqlp Try.underlying99 rfl) rfl ?_
 refine WPL.nilW ?_
 refine W.now ?_
 refine Then.n ?_
 refine WP.condF rfl ?_
 refine WP.seq ?_
 refine WP.region ?_
 refine WPL.q (q_mv (v := .ptr _ _) rfl) rfl ?_
 refine WPL.q (q_nilCheck rfl) rfl ?_
 refine WPL.q (q_fieldAddr fi101_0 rfl rfl) rfl ?_
 refine WPL.q (q_load sc99 rfl rfl rfl) rfl ?_
 refine WPL.q (q_mv (v := .ptr _ _) rfl) rfl ?_
 refine WPL.q (q_neqpSelf Try.underlying99 te101 rfl rfl) rfl ?_
 refine WPL.nilW ?_
 refine W.now ?_
 refine Then.n ?_
 refine WP.condF rfl ?_
 refine WP.skipW ?_
 exact W.now (BodyR.mkN trivial rfl [0, 1] ⟨rfl, rfl⟩ ⟨rfl, ⟨⟨trivial, .inr ⟨rfl, rfl, rfl⟩⟩, .inr ⟨rfl, rfl, rfl⟩⟩, by decide, rfl, ⟨trivial, rfl⟩⟩ rfl rfl)
set_option maxRecDepth 100000 in
set_option maxHeartbeats 4000000 in
theorem s_strings_Builder_WriteString (k : Nat) (x9114 : ByteArray) (x9115 : (List Int)) (H : g_strings_Builder_WriteString k x9114 x9115 = some ()) : Go.Q.Spec Try.prog 73 1 [.ptr 0 0, .lit (.string x9114)] ((Mem.nil.push (.cells 101 [.ptr 0 0, .whole 1])).push (.row 5 (Rd.int .u8) x9115)) (fun o M => o = .ret (.tup [.lit (.int .i64 ((ByteArray.size x9114 : Nat) : Int)), .lit .nilIface]) ∧ M = ((Mem.nil.push (.cells 101 [.ptr 0 0, .whole 1])).push (.row 5 (Rd.int .u8) (x9115 ++ (strInts x9114))))) := by
 unfold g_strings_Builder_WriteString at H
 refine Go.Q.Spec.of_bodyR (az := []) (rs := [.tmp 4, .tmp 5]) (nt := 19) Try.func73 rfl rfl (by intro t T h; simp at h) rfl rfl fun cx hnp => ?_
 refine WP.seq ?_
 refine WP.region ?_
 refine WPL.q (q_as (v := .lit (.int _ _)) rfl) rfl ?_
 refine WPL.q (q_as (v := .lit _) rfl) rfl ?_
 refine WPL.nilW ?_
 refine W.now ?_
 refine Then.n ?_
 refine WP.seq ?_
 refine WP.region ?_
 refine WPL.q (q_mv (v := .ptr _ _) rfl) rfl ?_
 obtain ⟨_, h9120, H⟩ := bnd H
 refine WPL.c (runs_call (s := [0, 1]) (t := [0, 2]) (N := 3) (bor := []) fn79 rfl (s_strings_Builder_copyCheck__b k x9115 h9120) ⟨rfl, ⟨⟨trivial, .inr ⟨rfl, rfl, rfl⟩⟩, .inr ⟨rfl, rfl, rfl⟩⟩, by decide, rfl, trivial⟩ rfl trivial (.ren rfl rfl .nil) rfl ⟨⟨trivial, rfl⟩, rfl⟩ rfl) rfl ?_
 refine WPL.nilW ?_
 refine W.now ?_
 refine Then.n ?_
 refine WP.seq ?_
 refine WP.region ?_
 refine WPL.q (q_mv (v := .ptr _ _) rfl) rfl ?_
 refine WPL.q (q_mv (v := .ptr _ _) rfl) rfl ?_
 refine WPL.q (q_nilCheck rfl) rfl ?_
 refine WPL.q (q_fieldAddr fi101_1 rfl rfl) rfl ?_
 refine WPL.q (q_load sc89 rfl rfl rfl) rfl ?_
 refine WPL.q (q_mv (v := .lit (.string _)) rfl) rfl ?_
 obtain ⟨h9121, H⟩ := grd H
 refine WPL.d (d_append ap89 rfl rfl rfl rfl (src_str Try.underlying9 rfl) h9121 rfl) rfl ?_
 refine WPL.q (q_nilCheck rfl) rfl ?_
 refine WPL.q (q_fieldAddr fi101_1 rfl rfl) rfl ?_
 refine WPL.s (s_store sz89 rfl rfl rfl rfl rfl) ?_
 refine WPL.nilW ?_
 refine W.now ?_
 refine Then.n ?_
 refine WP.seq ?_
 refine WP.region ?_
 refine WPL.q (q_mv (v := .lit (.string _)) rfl) rfl ?_
 refine WPL.q (q_len_str Try.underlying9 rfl) rfl ?_
 refine WPL.q (q_as (v := .lit (.int _ _)) rfl) rfl ?_
 refine WPL.q (q_as (v := .lit _) rfl) rfl ?_
 refine WPL.nilW ?_
 refine W.now ?_
 refine Then.n ?_
 refine WP.retW ?_
 exact W.now (BodyR.mkR trivial rfl [0, 3] ⟨rfl, rfl⟩ ⟨rfl, ⟨⟨trivial, .inr ⟨rfl, rfl, rfl⟩⟩, .inr ⟨rfl, rfl, rfl⟩⟩, by decide, rfl, ⟨trivial, rfl⟩⟩ rfl rfl)
set_option maxRecDepth 100000 in
set_option maxHeartbeats 4000000 in
theorem s_strings_Builder_Len (k : Nat) (x9124 : (List Int)) (H : g_strings_Builder_Len k x9124 = some ()) : Go.Q.Spec Try.prog 74 1 [.ptr 0 0] ((Mem.nil.push (.cells 101 [.ptr 0 0, .whole 1])).push (.row 5 (Rd.int .u8) x9124)) (fun o M => o = .ret (.lit (.int .i64 ((List.length x9124 : Nat) : Int))) ∧ M = ((Mem.nil.push (.cells 101 [.ptr 0 0, .whole 1])).push (.row 5 (Rd.int .u8) x9124))) := by
 unfold g_strings_Builder_Len at H
 refine Go.Q.Spec.of_bodyR (az := []) (rs := [.tmp 2]) (nt := 8) Try.func74 rfl rfl (by intro t T h; simp at h) rfl rfl fun cx hnp => ?_
 refine WP.seq ?_
 refine WP.region ?_
 refine WPL.q (q_as (v := .lit (.int _ _)) rfl) rfl ?_
 refine WPL.nilW ?_
 refine W.now ?_
 refine Then.n ?_
 refine WP.seq ?_
 refine WP.region ?_
 refine WPL.q (q_mv (v := .ptr _ _) rfl) rfl ?_
 refine WPL.q (q_nilCheck rfl) rfl ?_
 refine WPL.q (q_fieldAddr fi101_1 rfl rfl) rfl ?_
 refine WPL.q (q_load sc89 rfl rfl rfl) rfl ?_
 refine WPL.q (q_len_row sl89 rfl rfl) rfl ?_
 refine WPL.q (q_as (v := .lit (.int _ _)) rfl) rfl ?_
 refine WPL.nilW ?_
 refine W.now ?_
 refine Then.n ?_
 refine WP.retW ?_
 exact W.now (BodyR.mkR trivial rfl [0, 1] ⟨rfl, rfl⟩ ⟨rfl, ⟨⟨trivial, .inr ⟨rfl, rfl, rfl⟩⟩, .inr ⟨rfl, rfl, rfl⟩⟩, by decide, rfl, ⟨trivial, rfl⟩⟩ rfl rfl)
set_option maxRecDepth 100000 in
set_option maxHeartbeats 4000000 in
theorem s_strings_Builder_String (k : Nat) (x9137 : (List Int)) (r : (Unit ⊕ Unit)) (H : g_strings_Builder_String k x9137 = some r) : Go.Q.Spec Try.prog 75 1 [.ptr 0 0] ((Mem.nil.push (.cells 101 [.ptr 0 0, .whole 1])).push (.row 5 (Rd.int .u8) x9137)) (fun o M => match (generalizing := false) r with | (Sum.inl _) => o = .ret (.lit (.string ByteArray.empty)) ∧ M = ((Mem.nil.push (.cells 101 [.ptr 0 0, .whole 1])).push (.row 5 (Rd.int .u8) x9137)) | (Sum.inr _) => o = .ret (.lit (.string (strOf x9137))) ∧ M = ((Mem.nil.push (.cells 101 [.ptr 0 0, .whole 1])).push (.gone))) := by
 unfold g_strings_Builder_String at H
 refine Go.Q.Spec.of_bodyR (az := []) (rs := [.tmp 2]) (nt := 14) Try.func75 rfl rfl (by intro t T h; simp at h) rfl rfl fun cx hnp => ?_
 refine WP.seq ?_
 refine WP.region ?_
 refine WPL.q (q_as (v := .lit (.string _)) rfl) rfl ?_
 refine WPL.nilW ?_
 refine W.now ?_
 refine Then.n ?_
 refine WP.seq ?_
 refine WP.regionD' 12 [0] [] mixed rfl ?_
 refine WPD.takeT 0 rfl (by kernel_rfl) (q_mv (v := .ptr _ _) rfl) rfl ?_
 refine WPD.takeT 1 rfl (by kernel_rfl) (q_nilCheck rfl) rfl ?_
 refine WPD.takeT 2 rfl (by kernel_rfl) (q_fieldAddr fi101_1 rfl rfl) rfl ?_
 refine WPD.takeT 5 rfl (by kernel_rfl) (q_mv (v := .ptr _ _) rfl) rfl ?_
 refine WPD.takeT 6 rfl (by kernel_rfl) (q_nilCheck rfl) rfl ?_
 refine WPD.takeT 7 rfl (by kernel_rfl) (q_fieldAddr fi101_1 rfl rfl) rfl ?_
 refine WPD.take 3 rfl (by kernel_rfl) (q_load sc89 rfl rfl rfl) rfl rfl ?_
 refine WPD.take 8 rfl (by kernel_rfl) (q_load sc89 rfl rfl rfl) rfl rfl ?_
 refine WPD.takeT 9 rfl (by kernel_rfl) (q_len_row sl89 rfl rfl) rfl ?_
 refine WPD.splitB (decide (List.length x9137 = 0)) (fun hb9141 => ?_) (fun hb9141 => ?_)
 · replace H := cnt hb9141 H
   refine WPD.eff 4 [0] [] rfl (by kernel_rfl) (Does.runs (d_sliceData0 Try.underlying110 rfl rfl hb9141)) rfl rfl ?_
   refine WPD.eff 10 [0] [] rfl (by kernel_rfl) (Does.runs (Quiet.does (q_unsafeStr0 rfl rfl (len0 hb9141)))) rfl rfl ?_
   refine WPD.takeT 11 rfl (by kernel_rfl) (q_as (v := .lit (.string _)) rfl) rfl ?_
   refine WPD.doneW (by kernel_rfl) ?_
   refine W.now ?_
   refine Then.n ?_
   refine WP.retW ?_
   have q0 := Option.some.inj H
   subst q0
   exact W.now (BodyR.mkR trivial rfl [0, 1] ⟨rfl, rfl⟩ ⟨rfl, ⟨⟨trivial, .inr ⟨rfl, rfl, rfl⟩⟩, .inr ⟨rfl, rfl, rfl⟩⟩, by decide, rfl, ⟨trivial, rfl⟩⟩ rfl rfl)
 replace H := cnf hb9141 H
 refine WPD.eff 4 [0] [] rfl (by kernel_rfl) (Does.runs (Quiet.does (q_sliceData rfl rfl hb9141))) rfl rfl ?_
 refine WPD.eff 10 [0] [] rfl (by kernel_rfl) (Does.runs (d_unsafeStr Try.underlying110 (by kernel_rfl) rfl rfl rfl hb9141 rfl)) rfl rfl ?_
 refine WPD.takeT 11 rfl (by kernel_rfl) (q_as (v := .lit (.string _)) rfl) rfl ?_
 refine WPD.doneW (by kernel_rfl) ?_
 refine W.now ?_
 refine Then.n ?_
 refine WP.retW ?_
 have q0 := Option.some.inj H
 subst q0
 exact W.now (BodyR.mkR trivial rfl [0, 1] ⟨rfl, rfl⟩ ⟨rfl, ⟨⟨trivial, .inr ⟨rfl, rfl, rfl⟩⟩, .inl rfl⟩, by decide, rfl, ⟨trivial, rfl⟩⟩ rfl rfl)
set_option maxRecDepth 100000 in
set_option maxHeartbeats 4000000 in
theorem s_strings_Repeat (k : Nat) (x8856 : ByteArray) (x8857 : Int) (x9172 : ByteArray) (H : g_strings_Repeat k x8856 x8857 = some x9172) : Go.Q.Spec Try.prog 66 0 [.lit (.string x8856), .lit (.int .i64 x8857)] Mem.nil (fun o M => o = .ret (.lit (.string x9172)) ∧ M = Mem.nil) := by
 unfold g_strings_Repeat at H
 refine Go.Q.Spec.of_bodyR (az := []) (rs := [.tmp 4]) (nt := 125) Try.func66 rfl rfl (by intro t T h; simp at h) rfl rfl fun cx hnp => ?_
 refine WP.seq ?_
 refine WP.region ?_
 refine WPL.q (q_as (v := .lit (.string _)) rfl) rfl ?_
 refine WPL.nilW ?_
 refine W.now ?_
 refine Then.n ?_
 refine WP.seq ?_
 refine WP.seq ?_
 refine WP.region ?_
 refine WPL.q (q_mv (v := .lit (.int _ _)) rfl) rfl ?_
 refine WPL.nilW ?_
 refine W.now ?_
 refine Then.n ?_
 refine WP.block ?_
 refine WP.seq ?_
 refine WP.region ?_
 refine WPL.q (q_eql rfl rfl) rfl ?_
 refine WPL.q (q_as (v := .lit (.bool _)) rfl) rfl ?_
 refine WPL.nilW ?_
 refine W.now ?_
 refine Then.n ?_
 refine WP.cond (t := (decide (x8857 = 0))) rfl (fun hb9174 => ?_) (fun hb9174 => ?_)
 · replace H := cnt hb9174 H
   refine WP.seq ?_
   refine WP.region ?_
   refine WPL.q (q_as (v := .lit (.string _)) rfl) rfl ?_
   refine WPL.nilW ?_
   refine W.now ?_
   refine Then.n ?_
   refine WP.retW ?_
   have q0 := (Option.some.inj H)
   subst q0
   exact W.now (InBlock.r (Then.r (BodyR.mkR trivial rfl [] ⟨rfl, rfl⟩ ⟨rfl, trivial, by decide, rfl, trivial⟩ rfl rfl)))
 replace H := cnf hb9174 H
 refine WP.seq ?_
 refine WP.region ?_
 refine WPL.q (q_eql rfl rfl) rfl ?_
 refine WPL.q (q_as (v := .lit (.bool _)) rfl) rfl ?_
 refine WPL.nilW ?_
 refine W.now ?_
 refine Then.n ?_
 refine WP.cond (t := (decide (x8857 = 1))) rfl (fun hb9175 => ?_) (fun hb9175 => ?_)
 · replace H := cnt hb9175 H
   refine WP.seq ?_
   refine WP.region ?_
   refine WPL.q (q_mv (v := .lit (.string _)) rfl) rfl ?_
   refine WPL.q (q_as (v := .lit (.string _)) rfl) rfl ?_
   refine WPL.nilW ?_
   refine W.now ?_
   refine Then.n ?_
   refine WP.retW ?_
   have q0 := (Option.some.inj H)
   subst q0
   exact W.now (InBlock.r (Then.r (BodyR.mkR trivial rfl [] ⟨rfl, rfl⟩ ⟨rfl, trivial, by decide, rfl, trivial⟩ rfl rfl)))
 replace H := cnf hb9175 H
 refine WP.skipW ?_
 refine W.now ?_
 refine InBlock.n ?_
 refine Then.n ?_
 refine WP.seq ?_
 refine WP.seq ?_
 refine WP.region ?_
 refine WPL.q (q_mv (v := .lit (.int _ _)) rfl) rfl ?_
 refine WPL.q (q_lss rfl rfl) rfl ?_
 refine WPL.nilW ?_
 refine W.now ?_
 refine Then.n ?_
 refine WP.cond (t := (decide (x8857 < 0))) rfl (fun hb9177 => ?_) (fun hb9177 => ?_)
 · replace H := cnt hb9177 H
   refine WP.region ?_
   refine WPL.q (q_mki cn9) rfl ?_
   exact nf rfl H
 replace H := cnf hb9177 H
 refine WP.skipW ?_
 refine W.now ?_
 refine Then.n ?_
 refine WP.seq ?_
 refine WP.region ?_
 refine WPL.q (q_mv (v := .lit (.string _)) rfl) rfl ?_
 refine WPL.q (q_len_str Try.underlying9 rfl) rfl ?_
 obtain ⟨x9179, h9179, H⟩ := bnd H
 refine WPL.q (q_nm (q_conv Try.underlying3 Try.underlying92 rfl) (nm_int h9179)) rfl ?_
 refine WPL.q (q_mv (v := .lit (.int _ _)) rfl) rfl ?_
 refine WPL.q (q_conv Try.underlying3 Try.underlying92 rfl) rfl ?_
 obtain ⟨x9181, h9179, H⟩ := bnd H
 refine WPL.c (runs_call (s := []) (t := []) (N := 0) (bor := []) fn70 rfl (s_math_bits_Mul k x9179 (IntKind.wrap .u64 x8857) x9181 h9179) ⟨rfl, trivial, by decide, rfl, trivial⟩ rfl trivial (.ren rfl rfl (.ren rfl rfl .nil)) rfl trivial rfl) rfl ?_
 refine WPL.q (q_mv (v := .tup _) rfl) rfl ?_
 refine WPL.q (q_extract rfl rfl) rfl ?_
 refine WPL.q (q_extract rfl rfl) rfl ?_
 refine WPL.q (q_as (v := .lit (.int _ _)) rfl) rfl ?_
 refine WPL.q (q_as (v := .lit (.int _ _)) rfl) rfl ?_
 refine WPL.nilW ?_
 refine W.now ?_
 refine Then.n ?_
 refine WP.seq ?_
 refine WP.seq ?_
 obtain ⟨x9191, H9193, H⟩ := bnd H
 refine WP.monoW (Q := fun x E M => x = .normal ∧ E = (((Env.none.upd 0 (.lit (.string x8856))).upd 6 (.lit (.int .u64 (IntKind.wrap .u64 (x9179 * (IntKind.wrap .u64 x8857)))))).upd 34 (.lit (.bool x9191))) ∧ M = Mem.nil) ?_ ?_
 · clear H
   have H := H9193
   clear H9193
   refine WP.region ?_
   refine WPL.q (q_mv (v := .lit (.int _ _)) rfl) rfl ?_
   refine WPL.q (q_gtr rfl rfl) rfl ?_
   refine WPL.q (q_mv (v := .lit (.bool _)) rfl) rfl ?_
   refine WPL.split (t := 31) (b := (decide (0 < x9181))) rfl (fun hb9191 => ?_) (fun hb9191 => ?_)
   · replace H := cnt hb9191 H
     refine WPL.skipg (b' := true) rfl rfl (lb hb9191) rfl rfl ?_
     refine WPL.skipg (b' := true) rfl rfl (lb hb9191) rfl rfl ?_
     refine WPL.q (q_pickT (v := .lit (.bool _)) (lb hb9191) rfl) rfl ?_
     refine WPL.nilW ?_
     have q0 := (Option.some.inj H)
     subst q0
     exact W.wk [] hnp ⟨rfl, rfl, rfl⟩ ⟨rfl, trivial, by decide, rfl, trivial⟩ (LeE.upd rfl rfl (LeE.upd rfl rfl (LeE.upd rfl rfl (LeE.none rfl rfl)))) rfl
   replace H := cnf hb9191 H
   refine WPL.qg rfl rfl (lb hb9191) (q_mv (v := .lit (.int _ _)) rfl) rfl ?_
   obtain ⟨x9193, h9193, H⟩ := bnd H
   refine WPL.qg rfl rfl (lb hb9191) (q_nm (q_gtr rfl rfl) (nm_bool h9193)) rfl ?_
   refine WPL.q (q_pickF (v := .lit (.bool _)) (lb hb9191) rfl) rfl ?_
   refine WPL.nilW ?_
   have q0 := (Option.some.inj H)
   subst q0
   exact W.wk [] hnp ⟨rfl, rfl, rfl⟩ ⟨rfl, trivial, by decide, rfl, trivial⟩ (LeE.upd rfl rfl (LeE.upd rfl rfl (LeE.upd rfl rfl (LeE.none rfl rfl)))) rfl
 rintro _ _ _ ⟨rfl, rfl, rfl⟩
 refine W.now ?_
 refine Then.n ?_
 refine WP.cond (t := x9191) rfl (fun hb9194 => ?_) (fun hb9194 => ?_)
 · replace H := cnt hb9194 H
   refine WP.region ?_
   refine WPL.q (q_mki cn9) rfl ?_
   exact nf rfl H
 replace H := cnf hb9194 H
 refine WP.skipW ?_
 refine W.now ?_
 refine Then.n ?_
 refine WP.seq ?_
 refine WP.region ?_
 refine WPL.q (q_mv (v := .lit (.int _ _)) rfl) rfl ?_
 obtain ⟨x9196, h9196, H⟩ := bnd H
 refine WPL.q (q_nm (q_conv Try.underlying92 Try.underlying3 rfl) (nm_int h9196)) rfl ?_
 refine WPL.q (q_as (v := .lit (.int _ _)) rfl) rfl ?_
 refine WPL.nilW ?_
 refine W.now ?_
 refine Then.n ?_
 refine WP.seq ?_
 refine WP.seq ?_
 refine WP.region ?_
 refine WPL.q (q_mv (v := .lit (.string _)) rfl) rfl ?_
 refine WPL.q (q_len_str Try.underlying9 rfl) rfl ?_
 obtain ⟨x9199, h9199, H⟩ := bnd H
 refine WPL.q (q_nm (q_eql rfl rfl) (nm_bool h9199)) rfl ?_
 refine WPL.nilW ?_
 refine W.now ?_
 refine Then.n ?_
 refine WP.cond (t := x9199) rfl (fun hb9199 => ?_) (fun hb9199 => ?_)
 · replace H := cnt hb9199 H
   refine WP.seq ?_
   refine WP.region ?_
   refine WPL.q (q_as (v := .lit (.string _)) rfl) rfl ?_
   refine WPL.nilW ?_
   refine W.now ?_
   refine Then.n ?_
   refine WP.retW ?_
   have q0 := (Option.some.inj H)
   subst q0
   exact W.now (Then.r (BodyR.mkR trivial rfl [] ⟨rfl, rfl⟩ ⟨rfl, trivial, by decide, rfl, trivial⟩ rfl rfl))
 replace H := cnf hb9199 H
 refine WP.skipW ?_
 refine W.now ?_
 refine Then.n ?_
 refine WP.seq ?_
 obtain ⟨y9337, H9335, H⟩ := bnd H
 refine WP.monoW (Q := fun x E M => match (generalizing := false) y9337 with | (Sum.inl x9268) => x = .ret ∧ E = (Env.none.upd 4 (.lit (.string x9268))) ∧ M = Mem.nil | (Sum.inr _) => x = .normal ∧ E = ((Env.none.upd 0 (.lit (.string x8856))).upd 7 (.lit (.int .i64 x9196))) ∧ M = Mem.nil) ?_ ?_
 · clear H
   have H := H9335
   clear H9335
   refine WP.seq ?_
   refine WP.region ?_
   refine WPL.q (q_mv (v := .lit (.string _)) rfl) rfl ?_
   obtain ⟨x9269, h9269, H⟩ := bnd H
   refine WPL.q (q_index_str Try.underlying9 rfl rfl h9269) rfl ?_
   refine WPL.nilW ?_
   refine W.now ?_
   refine Then.n ?_
   refine WP.block ?_
   refine WP.seq ?_
   obtain ⟨x9274, H9278, H⟩ := bnd H
   refine WP.monoW (Q := fun x E M => x = .normal ∧ E = (((Env.none.upd 0 (.lit (.string x8856))).upd 7 (.lit (.int .i64 x9196))).upd 43 (.lit (.bool x9274))) ∧ M = Mem.nil) ?_ ?_
   · clear H
     have H := H9278
     clear H9278
     refine WP.seq ?_
     refine WP.region ?_
     refine WPL.q (q_eql rfl rfl) rfl ?_
     refine WPL.q (q_as (v := .lit (.bool _)) rfl) rfl ?_
     refine WPL.nilW ?_
     refine W.now ?_
     refine Then.n ?_
     refine WP.cond (t := (decide (x9269 = 32))) rfl (fun hb9274 => ?_) (fun hb9274 => ?_)
     · replace H := cnt hb9274 H
       refine WP.skipW ?_
       have q0 := (Option.some.inj H)
       subst q0
       exact W.wk [] hnp ⟨rfl, rfl, rfl⟩ ⟨rfl, trivial, by decide, rfl, trivial⟩ (LeE.upd rfl rfl (LeE.upd rfl rfl (LeE.upd rfl rfl (LeE.none rfl rfl)))) rfl
     replace H := cnf hb9274 H
     refine WP.seq ?_
     refine WP.region ?_
     refine WPL.q (q_eql rfl rfl) rfl ?_
     refine WPL.q (q_as (v := .lit (.bool _)) rfl) rfl ?_
     refine WPL.nilW ?_
     refine W.now ?_
     refine Then.n ?_
     refine WP.cond (t := (decide (x9269 = 45))) rfl (fun hb9275 => ?_) (fun hb9275 => ?_)
     · replace H := cnt hb9275 H
       refine WP.skipW ?_
       have q0 := (Option.some.inj H)
       subst q0
       exact W.wk [] hnp ⟨rfl, rfl, rfl⟩ ⟨rfl, trivial, by decide, rfl, trivial⟩ (LeE.upd rfl rfl (LeE.upd rfl rfl (LeE.upd rfl rfl (LeE.none rfl rfl)))) rfl
     replace H := cnf hb9275 H
     refine WP.seq ?_
     refine WP.region ?_
     refine WPL.q (q_eql rfl rfl) rfl ?_
     refine WPL.q (q_as (v := .lit (.bool _)) rfl) rfl ?_
     refine WPL.nilW ?_
     refine W.now ?_
     refine Then.n ?_
     refine WP.cond (t := (decide (x9269 = 48))) rfl (fun hb9276 => ?_) (fun hb9276 => ?_)
     · replace H := cnt hb9276 H
       refine WP.skipW ?_
       have q0 := (Option.some.inj H)
       subst q0
       exact W.wk [] hnp ⟨rfl, rfl, rfl⟩ ⟨rfl, trivial, by decide, rfl, trivial⟩ (LeE.upd rfl rfl (LeE.upd rfl rfl (LeE.upd rfl rfl (LeE.none rfl rfl)))) rfl
     replace H := cnf hb9276 H
     refine WP.seq ?_
     refine WP.region ?_
     refine WPL.q (q_eql rfl rfl) rfl ?_
     refine WPL.q (q_as (v := .lit (.bool _)) rfl) rfl ?_
     refine WPL.nilW ?_
     refine W.now ?_
     refine Then.n ?_
     refine WP.cond (t := (decide (x9269 = 61))) rfl (fun hb9277 => ?_) (fun hb9277 => ?_)
     · replace H := cnt hb9277 H
       refine WP.skipW ?_
       have q0 := (Option.some.inj H)
       subst q0
       exact W.wk [] hnp ⟨rfl, rfl, rfl⟩ ⟨rfl, trivial, by decide, rfl, trivial⟩ (LeE.upd rfl rfl (LeE.upd rfl rfl (LeE.upd rfl rfl (LeE.none rfl rfl)))) rfl
     replace H := cnf hb9277 H
     refine WP.region ?_
     refine WPL.q (q_eql rfl rfl) rfl ?_
     refine WPL.q (q_as (v := .lit (.bool _)) rfl) rfl ?_
     refine WPL.nilW ?_
     have q0 := (Option.some.inj H)
     subst q0
     exact W.wk [] hnp ⟨rfl, rfl, rfl⟩ ⟨rfl, trivial, by decide, rfl, trivial⟩ (LeE.upd rfl rfl (LeE.upd rfl rfl (LeE.upd rfl rfl (LeE.none rfl rfl)))) rfl
   rintro _ _ _ ⟨rfl, rfl, rfl⟩
   refine W.now ?_
   refine Then.n ?_
   refine WP.cond (t := x9274) rfl (fun hb9279 => ?_) (fun hb9279 => ?_)
   · replace H := cnt hb9279 H
     refine WP.block ?_
     refine WP.seq ?_
     obtain ⟨x9284, H9287, H⟩ := bnd H
     refine WP.monoW (Q := fun x E M => x = .normal ∧ E = (((Env.none.upd 0 (.lit (.string x8856))).upd 7 (.lit (.int .i64 x9196))).upd 49 (.lit (.bool x9284))) ∧ M = Mem.nil) ?_ ?_
     · clear H
       have H := H9287
       clear H9287
       refine WP.region ?_
       refine WPL.q (q_mv (v := .lit (.int _ _)) rfl) rfl ?_
       refine WPL.q (q_leq rfl rfl) rfl ?_
       refine WPL.q (q_mv (v := .lit (.bool _)) rfl) rfl ?_
       refine WPL.split (t := 52) (b := (decide (x9196 ≤ 128))) rfl (fun hb9284 => ?_) (fun hb9284 => ?_)
       · replace H := cnt hb9284 H
         refine WPL.qg rfl rfl (lb hb9284) (q_mv (v := .lit (.string _)) rfl) rfl ?_
         obtain ⟨x9287, h9285, H⟩ := bnd H
         refine WPL.cg rfl rfl (lb hb9284) (runs_call (s := []) (t := []) (N := 0) (bor := []) fn71 rfl (s_strings_HasPrefix k (ByteArray.mk #[32, 32, 32, 32, 32, 32, 32, 32, 32, 32, 32, 32, 32, 32, 32, 32, 32, 32, 32, 32, 32, 32, 32, 32, 32, 32, 32, 32, 32, 32, 32, 32, 32, 32, 32, 32, 32, 32, 32, 32, 32, 32, 32, 32, 32, 32, 32, 32, 32, 32, 32, 32, 32, 32, 32, 32, 32, 32, 32, 32, 32, 32, 32, 32, 32, 32, 32, 32, 32, 32, 32, 32, 32, 32, 32, 32, 32, 32, 32, 32, 32, 32, 32, 32, 32, 32, 32, 32, 32, 32, 32, 32, 32, 32, 32, 32, 32, 32, 32, 32, 32, 32, 32, 32, 32, 32, 32, 32, 32, 32, 32, 32, 32, 32, 32, 32, 32, 32, 32, 32, 32, 32, 32, 32, 32, 32, 32, 32]) x8856 x9287 h9285) ⟨rfl, trivial, by decide, rfl, trivial⟩ rfl trivial (.ren rfl rfl (.ren rfl rfl .nil)) rfl trivial rfl) rfl ?_
         refine WPL.q (q_pickT (v := .lit (.bool _)) (lb hb9284) rfl) rfl ?_
         refine WPL.q (q_as (v := .lit (.bool _)) rfl) rfl ?_
         refine WPL.nilW ?_
         have q0 := (Option.some.inj H)
         subst q0
         exact W.wk [] hnp ⟨rfl, rfl, rfl⟩ ⟨rfl, trivial, by decide, rfl, trivial⟩ (LeE.upd rfl rfl (LeE.upd rfl rfl (LeE.upd rfl rfl (LeE.none rfl rfl)))) rfl
       replace H := cnf hb9284 H
       refine WPL.skipg (b' := false) rfl rfl (lb hb9284) rfl rfl ?_
       refine WPL.skipg (b' := false) rfl rfl (lb hb9284) rfl rfl ?_
       refine WPL.q (q_pickF (v := .lit (.bool _)) (lb hb9284) rfl) rfl ?_
       refine WPL.q (q_as (v := .lit (.bool _)) rfl) rfl ?_
       refine WPL.nilW ?_
       have q0 := (Option.some.inj H)
       subst q0
       exact W.wk [] hnp ⟨rfl, rfl, rfl⟩ ⟨rfl, trivial, by decide, rfl, trivial⟩ (LeE.upd rfl rfl (LeE.upd rfl rfl (LeE.upd rfl rfl (LeE.none rfl rfl)))) rfl
     rintro _ _ _ ⟨rfl, rfl, rfl⟩
     refine W.now ?_
     refine Then.n ?_
     refine WP.cond (t := x9284) rfl (fun hb9288 => ?_) (fun hb9288 => ?_)
     · replace H := cnt hb9288 H
       refine WP.seq ?_
       refine WP.region ?_
       refine WPL.q (q_mv (v := .lit (.int _ _)) rfl) rfl ?_
       obtain ⟨h9289, H⟩ := grd H
       obtain ⟨x9291, h9291, H⟩ := bnd H
       refine WPL.q (q_nm (q_slice_str (i := 0) (j := x9196) Try.underlying9 rfl rfl ⟨_, rfl⟩ h9289) (nm_str h9291)) rfl ?_
       refine WPL.q (q_as (v := .lit (.string _)) rfl) rfl ?_
       refine WPL.nilW ?_
       refine W.now ?_
       refine Then.n ?_
       refine WP.retW ?_
       have q0 := Option.some.inj H
       subst q0
       exact W.wk [] hnp (InBlock.r (InBlock.r ⟨rfl, rfl, rfl⟩)) ⟨rfl, trivial, by decide, rfl, trivial⟩ (LeE.upd rfl rfl (LeE.none rfl rfl)) rfl
     replace H := cnf hb9288 H
     refine WP.seq ?_
     obtain ⟨x9295, H9298, H⟩ := bnd H
     refine WP.monoW (Q := fun x E M => x = .normal ∧ E = (((Env.none.upd 0 (.lit (.string x8856))).upd 7 (.lit (.int .i64 x9196))).upd 58 (.lit (.bool x9295))) ∧ M = Mem.nil) ?_ ?_
     · clear H
       have H := H9298
       clear H9298
       refine WP.region ?_
       refine WPL.q (q_mv (v := .lit (.int _ _)) rfl) rfl ?_
       refine WPL.q (q_leq rfl rfl) rfl ?_
       refine WPL.q (q_mv (v := .lit (.bool _)) rfl) rfl ?_
       refine WPL.split (t := 61) (b := (decide (x9196 ≤ 128))) rfl (fun hb9295 => ?_) (fun hb9295 => ?_)
       · replace H := cnt hb9295 H
         refine WPL.qg rfl rfl (lb hb9295) (q_mv (v := .lit (.string _)) rfl) rfl ?_
         obtain ⟨x9298, h9296, H⟩ := bnd H
         refine WPL.cg rfl rfl (lb hb9295) (runs_call (s := []) (t := []) (N := 0) (bor := []) fn71 rfl (s_strings_HasPrefix k (ByteArray.mk #[45, 45, 45, 45, 45, 45, 45, 45, 45, 45, 45, 45, 45, 45, 45, 45, 45, 45, 45, 45, 45, 45, 45, 45, 45, 45, 45, 45, 45, 45, 45, 45, 45, 45, 45, 45, 45, 45, 45, 45, 45, 45, 45, 45, 45, 45, 45, 45, 45, 45, 45, 45, 45, 45, 45, 45, 45, 45, 45, 45, 45, 45, 45, 45, 45, 45, 45, 45, 45, 45, 45, 45, 45, 45, 45, 45, 45, 45, 45, 45, 45, 45, 45, 45, 45, 45, 45, 45, 45, 45, 45, 45, 45, 45, 45, 45, 45, 45, 45, 45, 45, 45, 45, 45, 45, 45, 45, 45, 45, 45, 45, 45, 45, 45, 45, 45, 45, 45, 45, 45, 45, 45, 45, 45, 45, 45, 45, 45]) x8856 x9298 h9296) ⟨rfl, trivial, by decide, rfl, trivial⟩ rfl trivial (.ren rfl rfl (.ren rfl rfl .nil)) rfl trivial rfl) rfl ?_
         refine WPL.q (q_pickT (v := .lit (.bool _)) (lb hb9295) rfl) rfl ?_
         refine WPL.q (q_as (v := .lit (.bool _)) rfl) rfl ?_
         refine WPL.nilW ?_
         have q0 := (Option.some.inj H)
         subst q0
         exact W.wk [] hnp ⟨rfl, rfl, rfl⟩ ⟨rfl, trivial, by decide, rfl, trivial⟩ (LeE.upd rfl rfl (LeE.upd rfl rfl (LeE.upd rfl rfl (LeE.none rfl rfl)))) rfl
       replace H := cnf hb9295 H
       refine WPL.skipg (b' := false) rfl rfl (lb hb9295) rfl rfl ?_
       refine WPL.skipg (b' := false) rfl rfl (lb hb9295) rfl rfl ?_
       refine WPL.q (q_pickF (v := .lit (.bool _)) (lb hb9295) rfl) rfl ?_
       refine WPL.q (q_as (v := .lit (.bool _)) rfl) rfl ?_
       refine WPL.nilW ?_
       have q0 := (Option.some.inj H)
       subst q0
       exact W.wk [] hnp ⟨rfl, rfl, rfl⟩ ⟨rfl, trivial, by decide, rfl, trivial⟩ (LeE.upd rfl rfl (LeE.upd rfl rfl (LeE.upd rfl rfl (LeE.none rfl rfl)))) rfl
     rintro _ _ _ ⟨rfl, rfl, rfl⟩
     refine W.now ?_
     refine Then.n ?_
     refine WP.cond (t := x9295) rfl (fun hb9299 => ?_) (fun hb9299 => ?_)
     · replace H := cnt hb9299 H
       refine WP.seq ?_
       refine WP.region ?_
       refine WPL.q (q_mv (v := .lit (.int _ _)) rfl) rfl ?_
       obtain ⟨h9300, H⟩ := grd H
       obtain ⟨x9302, h9302, H⟩ := bnd H
       refine WPL.q (q_nm (q_slice_str (i := 0) (j := x9196) Try.underlying9 rfl rfl ⟨_, rfl⟩ h9300) (nm_str h9302)) rfl ?_
       refine WPL.q (q_as (v := .lit (.string _)) rfl) rfl ?_
       refine WPL.nilW ?_
       refine W.now ?_
       refine Then.n ?_
       refine WP.retW ?_
       have q0 := Option.some.inj H
       subst q0
       exact W.wk [] hnp (InBlock.r (InBlock.r ⟨rfl, rfl, rfl⟩)) ⟨rfl, trivial, by decide, rfl, trivial⟩ (LeE.upd rfl rfl (LeE.none rfl rfl)) rfl
     replace H := cnf hb9299 H
     refine WP.seq ?_
     obtain ⟨x9306, H9309, H⟩ := bnd H
     refine WP.monoW (Q := fun x E M => x = .normal ∧ E = (((Env.none.upd 0 (.lit (.string x8856))).upd 7 (.lit (.int .i64 x9196))).upd 67 (.lit (.bool x9306))) ∧ M = Mem.nil) ?_ ?_
     · clear H
       have H := H9309
       clear H9309
       refine WP.region ?_
       refine WPL.q (q_mv (v := .lit (.int _ _)) rfl) rfl ?_
       refine WPL.q (q_leq rfl rfl) rfl ?_
       refine WPL.q (q_mv (v := .lit (.bool _)) rfl) rfl ?_
       refine WPL.split (t := 70) (b := (decide (x9196 ≤ 64))) rfl (fun hb9306 => ?_) (fun hb9306 => ?_)
       · replace H := cnt hb9306 H
         refine WPL.qg rfl rfl (lb hb9306) (q_mv (v := .lit (.string _)) rfl) rfl ?_
         obtain ⟨x9309, h9307, H⟩ := bnd H
         refine WPL.cg rfl rfl (lb hb9306) (runs_call (s := []) (t := []) (N := 0) (bor := []) fn71 rfl (s_strings_HasPrefix k (ByteArray.mk #[48, 48, 48, 48, 48, 48, 48, 48, 48, 48, 48, 48, 48, 48, 48, 48, 48, 48, 48, 48, 48, 48, 48, 48, 48, 48, 48, 48, 48, 48, 48, 48, 48, 48, 48, 48, 48, 48, 48, 48, 48, 48, 48, 48, 48, 48, 48, 48, 48, 48, 48, 48, 48, 48, 48, 48, 48, 48, 48, 48, 48, 48, 48, 48]) x8856 x9309 h9307) ⟨rfl, trivial, by decide, rfl, trivial⟩ rfl trivial (.ren rfl rfl (.ren rfl rfl .nil)) rfl trivial rfl) rfl ?_
         refine WPL.q (q_pickT (v := .lit (.bool _)) (lb hb9306) rfl) rfl ?_
         refine WPL.q (q_as (v := .lit (.bool _)) rfl) rfl ?_
         refine WPL.nilW ?_
         have q0 := (Option.some.inj H)
         subst q0
         exact W.wk [] hnp ⟨rfl, rfl, rfl⟩ ⟨rfl, trivial, by decide, rfl, trivial⟩ (LeE.upd rfl rfl (LeE.upd rfl rfl (LeE.upd rfl rfl (LeE.none rfl rfl)))) rfl
       replace H := cnf hb9306 H
       refine WPL.skipg (b' := false) rfl rfl (lb hb9306) rfl rfl ?_
       refine WPL.skipg (b' := false) rfl rfl (lb hb9306) rfl rfl ?_
       refine WPL.q (q_pickF (v := .lit (.bool _)) (lb hb9306) rfl) rfl ?_
       refine WPL.q (q_as (v := .lit (.bool _)) rfl) rfl ?_
       refine WPL.nilW ?_
       have q0 := (Option.some.inj H)
       subst q0
       exact W.wk [] hnp ⟨rfl, rfl, rfl⟩ ⟨rfl, trivial, by decide, rfl, trivial⟩ (LeE.upd rfl rfl (LeE.upd rfl rfl (LeE.upd rfl rfl (LeE.none rfl rfl)))) rfl
     rintro _ _ _ ⟨rfl, rfl, rfl⟩
     refine W.now ?_
     refine Then.n ?_
     refine WP.cond (t := x9306) rfl (fun hb9310 => ?_) (fun hb9310 => ?_)
     · replace H := cnt hb9310 H
       refine WP.seq ?_
       refine WP.region ?_
       refine WPL.q (q_mv (v := .lit (.int _ _)) rfl) rfl ?_
       obtain ⟨h9311, H⟩ := grd H
       obtain ⟨x9313, h9313, H⟩ := bnd H
       refine WPL.q (q_nm (q_slice_str (i := 0) (j := x9196) Try.underlying9 rfl rfl ⟨_, rfl⟩ h9311) (nm_str h9313)) rfl ?_
       refine WPL.q (q_as (v := .lit (.string _)) rfl) rfl ?_
       refine WPL.nilW ?_
       refine W.now ?_
       refine Then.n ?_
       refine WP.retW ?_
       have q0 := Option.some.inj H
       subst q0
       exact W.wk [] hnp (InBlock.r (InBlock.r ⟨rfl, rfl, rfl⟩)) ⟨rfl, trivial, by decide, rfl, trivial⟩ (LeE.upd rfl rfl (LeE.none rfl rfl)) rfl
     replace H := cnf hb9310 H
     refine WP.seq ?_
     obtain ⟨x9317, H9320, H⟩ := bnd H
     refine WP.monoW (Q := fun x E M => x = .normal ∧ E = (((Env.none.upd 0 (.lit (.string x8856))).upd 7 (.lit (.int .i64 x9196))).upd 76 (.lit (.bool x9317))) ∧ M = Mem.nil) ?_ ?_
     · clear H
       have H := H9320
       clear H9320
       refine WP.region ?_
       refine WPL.q (q_mv (v := .lit (.int _ _)) rfl) rfl ?_
       refine WPL.q (q_leq rfl rfl) rfl ?_
       refine WPL.q (q_mv (v := .lit (.bool _)) rfl) rfl ?_
       refine WPL.split (t := 79) (b := (decide (x9196 ≤ 128))) rfl (fun hb9317 => ?_) (fun hb9317 => ?_)
       · replace H := cnt hb9317 H
         refine WPL.qg rfl rfl (lb hb9317) (q_mv (v := .lit (.string _)) rfl) rfl ?_
         obtain ⟨x9320, h9318, H⟩ := bnd H
         refine WPL.cg rfl rfl (lb hb9317) (runs_call (s := []) (t := []) (N := 0) (bor := []) fn71 rfl (s_strings_HasPrefix k (ByteArray.mk #[61, 61, 61, 61, 61, 61, 61, 61, 61, 61, 61, 61, 61, 61, 61, 61, 61, 61, 61, 61, 61, 61, 61, 61, 61, 61, 61, 61, 61, 61, 61, 61, 61, 61, 61, 61, 61, 61, 61, 61, 61, 61, 61, 61, 61, 61, 61, 61, 61, 61, 61, 61, 61, 61, 61, 61, 61, 61, 61, 61, 61, 61, 61, 61, 61, 61, 61, 61, 61, 61, 61, 61, 61, 61, 61, 61, 61, 61, 61, 61, 61, 61, 61, 61, 61, 61, 61, 61, 61, 61, 61, 61, 61, 61, 61, 61, 61, 61, 61, 61, 61, 61, 61, 61, 61, 61, 61, 61, 61, 61, 61, 61, 61, 61, 61, 61, 61, 61, 61, 61, 61, 61, 61, 61, 61, 61, 61, 61]) x8856 x9320 h9318) ⟨rfl, trivial, by decide, rfl, trivial⟩ rfl trivial (.ren rfl rfl (.ren rfl rfl .nil)) rfl trivial rfl) rfl ?_
         refine WPL.q (q_pickT (v := .lit (.bool _)) (lb hb9317) rfl) rfl ?_
         refine WPL.q (q_as (v := .lit (.bool _)) rfl) rfl ?_
         refine WPL.nilW ?_
         have q0 := (Option.some.inj H)
         subst q0
         exact W.wk [] hnp ⟨rfl, rfl, rfl⟩ ⟨rfl, trivial, by decide, rfl, trivial⟩ (LeE.upd rfl rfl (LeE.upd rfl rfl (LeE.upd rfl rfl (LeE.none rfl rfl)))) rfl
       replace H := cnf hb9317 H
       refine WPL.skipg (b' := false) rfl rfl (lb hb9317) rfl rfl ?_
       refine WPL.skipg (b' := false) rfl rfl (lb hb9317) rfl rfl ?_
       refine WPL.q (q_pickF (v := .lit (.bool _)) (lb hb9317) rfl) rfl ?_
       refine WPL.q (q_as (v := .lit (.bool _)) rfl) rfl ?_
       refine WPL.nilW ?_
       have q0 := (Option.some.inj H)
       subst q0
       exact W.wk [] hnp ⟨rfl, rfl, rfl⟩ ⟨rfl, trivial, by decide, rfl, trivial⟩ (LeE.upd rfl rfl (LeE.upd rfl rfl (LeE.upd rfl rfl (LeE.none rfl rfl)))) rfl
     rintro _ _ _ ⟨rfl, rfl, rfl⟩
     refine W.now ?_
     refine Then.n ?_
     refine WP.cond (t := x9317) rfl (fun hb9321 => ?_) (fun hb9321 => ?_)
     · replace H := cnt hb9321 H
       refine WP.seq ?_
       refine WP.region ?_
       refine WPL.q (q_mv (v := .lit (.int _ _)) rfl) rfl ?_
       obtain ⟨h9322, H⟩ := grd H
       obtain ⟨x9324, h9324, H⟩ := bnd H
       refine WPL.q (q_nm (q_slice_str (i := 0) (j := x9196) Try.underlying9 rfl rfl ⟨_, rfl⟩ h9322) (nm_str h9324)) rfl ?_
       refine WPL.q (q_as (v := .lit (.string _)) rfl) rfl ?_
       refine WPL.nilW ?_
       refine W.now ?_
       refine Then.n ?_
       refine WP.retW ?_
       have q0 := Option.some.inj H
       subst q0
       exact W.wk [] hnp (InBlock.r (InBlock.r ⟨rfl, rfl, rfl⟩)) ⟨rfl, trivial, by decide, rfl, trivial⟩ (LeE.upd rfl rfl (LeE.none rfl rfl)) rfl
     replace H := cnf hb9321 H
     refine WP.seq ?_
     obtain ⟨x9328, H9331, H⟩ := bnd H
     refine WP.monoW (Q := fun x E M => x = .normal ∧ E = (((Env.none.upd 0 (.lit (.string x8856))).upd 7 (.lit (.int .i64 x9196))).upd 85 (.lit (.bool x9328))) ∧ M = Mem.nil) ?_ ?_
     · clear H
       have H := H9331
       clear H9331
       refine WP.region ?_
       refine WPL.q (q_mv (v := .lit (.int _ _)) rfl) rfl ?_
       refine WPL.q (q_leq rfl rfl) rfl ?_
       refine WPL.q (q_mv (v := .lit (.bool _)) rfl) rfl ?_
       refine WPL.split (t := 88) (b := (decide (x9196 ≤ 64))) rfl (fun hb9328 => ?_) (fun hb9328 => ?_)
       · replace H := cnt hb9328 H
         refine WPL.qg rfl rfl (lb hb9328) (q_mv (v := .lit (.string _)) rfl) rfl ?_
         obtain ⟨x9331, h9329, H⟩ := bnd H
         refine WPL.cg rfl rfl (lb hb9328) (runs_call (s := []) (t := []) (N := 0) (bor := []) fn71 rfl (s_strings_HasPrefix k (ByteArray.mk #[9, 9, 9, 9, 9, 9, 9, 9, 9, 9, 9, 9, 9, 9, 9, 9, 9, 9, 9, 9, 9, 9, 9, 9, 9, 9, 9, 9, 9, 9, 9, 9, 9, 9, 9, 9, 9, 9, 9, 9, 9, 9, 9, 9, 9, 9, 9, 9, 9, 9, 9, 9, 9, 9, 9, 9, 9, 9, 9, 9, 9, 9, 9, 9]) x8856 x9331 h9329) ⟨rfl, trivial, by decide, rfl, trivial⟩ rfl trivial (.ren rfl rfl (.ren rfl rfl .nil)) rfl trivial rfl) rfl ?_
         refine WPL.q (q_pickT (v := .lit (.bool _)) (lb hb9328) rfl) rfl ?_
         refine WPL.q (q_as (v := .lit (.bool _)) rfl) rfl ?_
         refine WPL.nilW ?_
         have q0 := (Option.some.inj H)
         subst q0
         exact W.wk [] hnp ⟨rfl, rfl, rfl⟩ ⟨rfl, trivial, by decide, rfl, trivial⟩ (LeE.upd rfl rfl (LeE.upd rfl rfl (LeE.upd rfl rfl (LeE.none rfl rfl)))) rfl
       replace H := cnf hb9328 H
       refine WPL.skipg (b' := false) rfl rfl (lb hb9328) rfl rfl ?_
       refine WPL.skipg (b' := false) rfl rfl (lb hb9328) rfl rfl ?_
       refine WPL.q (q_pickF (v := .lit (.bool _)) (lb hb9328) rfl) rfl ?_
       refine WPL.q (q_as (v := .lit (.bool _)) rfl) rfl ?_
       refine WPL.nilW ?_
       have q0 := (Option.some.inj H)
       subst q0
       exact W.wk [] hnp ⟨rfl, rfl, rfl⟩ ⟨rfl, trivial, by decide, rfl, trivial⟩ (LeE.upd rfl rfl (LeE.upd rfl rfl (LeE.upd rfl rfl (LeE.none rfl rfl)))) rfl
     rintro _ _ _ ⟨rfl, rfl, rfl⟩
     refine W.now ?_
     refine Then.n ?_
     refine WP.cond (t := x9328) rfl (fun hb9332 => ?_) (fun hb9332 => ?_)
     · replace H := cnt hb9332 H
       refine WP.seq ?_
       refine WP.region ?_
       refine WPL.q (q_mv (v := .lit (.int _ _)) rfl) rfl ?_
       obtain ⟨h9333, H⟩ := grd H
       obtain ⟨x9335, h9335, H⟩ := bnd H
       refine WPL.q (q_nm (q_slice_str (i := 0) (j := x9196) Try.underlying9 rfl rfl ⟨_, rfl⟩ h9333) (nm_str h9335)) rfl ?_
       refine WPL.q (q_as (v := .lit (.string _)) rfl) rfl ?_
       refine WPL.nilW ?_
       refine W.now ?_
       refine Then.n ?_
       refine WP.retW ?_
       have q0 := Option.some.inj H
       subst q0
       exact W.wk [] hnp (InBlock.r (InBlock.r ⟨rfl, rfl, rfl⟩)) ⟨rfl, trivial, by decide, rfl, trivial⟩ (LeE.upd rfl rfl (LeE.none rfl rfl)) rfl
     replace H := cnf hb9332 H
     refine WP.skipW ?_
     have q0 := Option.some.inj H
     subst q0
     exact W.wk [] hnp (InBlock.n (InBlock.n ⟨rfl, rfl, rfl⟩)) ⟨rfl, trivial, by decide, rfl, trivial⟩ (LeE.upd rfl rfl (LeE.upd rfl rfl (LeE.none rfl rfl))) rfl
   replace H := cnf hb9279 H
   refine WP.skipW ?_
   have q0 := Option.some.inj H
   subst q0
   exact W.wk [] hnp (InBlock.n ⟨rfl, rfl, rfl⟩) ⟨rfl, trivial, by decide, rfl, trivial⟩ (LeE.upd rfl rfl (LeE.upd rfl rfl (LeE.none rfl rfl))) rfl
 rcases y9337 with x9268 | _
 · rintro _ _ _ ⟨rfl, rfl, rfl⟩
   have q0 := (Option.some.inj H)
   subst q0
   exact W.now (Then.r (BodyR.mkR trivial rfl [] ⟨rfl, rfl⟩ ⟨rfl, trivial, by decide, rfl, trivial⟩ rfl rfl))
 rintro _ _ _ ⟨rfl, rfl, rfl⟩
 refine W.now ?_
 refine Then.n ?_
 refine WP.seq ?_
 refine WP.region ?_
 refine WPL.q (q_mv (v := .lit (.int _ _)) rfl) rfl ?_
 refine WPL.q (q_as (v := .lit (.int _ _)) rfl) rfl ?_
 refine WPL.nilW ?_
 refine W.now ?_
 refine Then.n ?_
 refine WP.seq ?_
 obtain ⟨x9343, H9348, H⟩ := bnd H
 refine WP.monoW (Q := fun x E M => x = .normal ∧ E = (((Env.none.upd 0 (.lit (.string x8856))).upd 7 (.lit (.int .i64 x9196))).upd 8 (.lit (.int .i64 x9343))) ∧ M = Mem.nil) ?_ ?_
 · clear H
   have H := H9348
   clear H9348
   refine WP.seq ?_
   refine WP.region ?_
   refine WPL.q (q_mv (v := .lit (.int _ _)) rfl) rfl ?_
   refine WPL.q (q_gtr rfl rfl) rfl ?_
   refine WPL.nilW ?_
   refine W.now ?_
   refine Then.n ?_
   refine WP.cond (t := (decide (8192 < x9196))) rfl (fun hb9343 => ?_) (fun hb9343 => ?_)
   · replace H := cnt hb9343 H
     refine WP.seq ?_
     refine WP.region ?_
     refine WPL.q (q_mv (v := .lit (.string _)) rfl) rfl ?_
     refine WPL.q (q_len_str Try.underlying9 rfl) rfl ?_
     obtain ⟨h9344, H⟩ := grd H
     obtain ⟨x9346, h9346, H⟩ := bnd H
     refine WPL.q (q_nm (q_quo rfl rfl (bnot h9344)) (nm_int h9346)) rfl ?_
     refine WPL.q (q_mv (v := .lit (.string _)) rfl) rfl ?_
     refine WPL.q (q_len_str Try.underlying9 rfl) rfl ?_
     obtain ⟨x9347, h9347, H⟩ := bnd H
     refine WPL.q (q_nm (q_mul rfl rfl) (nm_int h9347)) rfl ?_
     refine WPL.q (q_as (v := .lit (.int _ _)) rfl) rfl ?_
     refine WPL.nilW ?_
     refine W.now ?_
     refine Then.n ?_
     refine WP.seq ?_
     refine WP.region ?_
     refine WPL.q (q_mv (v := .lit (.int _ _)) rfl) rfl ?_
     refine WPL.q (q_eql rfl rfl) rfl ?_
     refine WPL.nilW ?_
     refine W.now ?_
     refine Then.n ?_
     refine WP.cond (t := (decide (x9347 = 0))) rfl (fun hb9347 => ?_) (fun hb9347 => ?_)
     · replace H := cnt hb9347 H
       refine WP.region ?_
       refine WPL.q (q_mv (v := .lit (.string _)) rfl) rfl ?_
       refine WPL.q (q_len_str Try.underlying9 rfl) rfl ?_
       refine WPL.q (q_as (v := .lit (.int _ _)) rfl) rfl ?_
       refine WPL.nilW ?_
       have q0 := (Option.some.inj H)
       subst q0
       exact W.wk [] hnp ⟨rfl, rfl, rfl⟩ ⟨rfl, trivial, by decide, rfl, trivial⟩ (LeE.upd rfl rfl (LeE.upd rfl rfl (LeE.upd rfl rfl (LeE.none rfl rfl)))) rfl
     replace H := cnf hb9347 H
     refine WP.skipW ?_
     have q0 := (Option.some.inj H)
     subst q0
     exact W.wk [] hnp ⟨rfl, rfl, rfl⟩ ⟨rfl, trivial, by decide, rfl, trivial⟩ (LeE.upd rfl rfl (LeE.upd rfl rfl (LeE.upd rfl rfl (LeE.none rfl rfl)))) rfl
   replace H := cnf hb9343 H
   refine WP.skipW ?_
   have q0 := (Option.some.inj H)
   subst q0
   exact W.wk [] hnp ⟨rfl, rfl, rfl⟩ ⟨rfl, trivial, by decide, rfl, trivial⟩ (LeE.upd rfl rfl (LeE.upd rfl rfl (LeE.upd rfl rfl (LeE.none rfl rfl)))) rfl
 rintro _ _ _ ⟨rfl, rfl, rfl⟩
 refine W.now ?_
 refine Then.n ?_
 refine WP.seq ?_
 refine WP.region ?_
 refine WPL.d (d_alloc ze101 rfl) rfl ?_
 refine WPL.nilW ?_
 refine W.now ?_
 refine Then.n ?_
 refine WP.seq ?_
 refine WP.region ?_
 refine WPL.q (q_mv (v := .lit (.int _ _)) rfl) rfl ?_
 obtain ⟨_, h9349, H⟩ := bnd H
 refine WPL.c (runs_call (s := [0]) (t := [0, 1]) (N := 2) (bor := []) fn72 rfl (s_strings_Builder_Grow k x9196 h9349) ⟨rfl, ⟨trivial, .inr ⟨rfl, rfl, rfl⟩⟩, by decide, rfl, trivial⟩ rfl trivial (.ren rfl rfl (.ren rfl rfl .nil)) rfl ⟨⟨trivial, rfl⟩, rfl⟩ rfl) rfl ?_
 refine WPL.nilW ?_
 refine W.now ?_
 refine Then.n ?_
 refine WP.seq ?_
 refine WP.region ?_
 refine WPL.q (q_mv (v := .lit (.string _)) rfl) rfl ?_
 obtain ⟨_, h9350, H⟩ := bnd H
 refine WPL.c (runs_call (s := [0, 1]) (t := [0, 2]) (N := 3) (bor := []) fn73 rfl (s_strings_Builder_WriteString k x8856 ([] : List Int) h9350) ⟨rfl, ⟨⟨trivial, .inr ⟨rfl, rfl, rfl⟩⟩, .inr ⟨rfl, rfl, rfl⟩⟩, by decide, rfl, trivial⟩ rfl trivial (.ren rfl rfl (.ren rfl rfl .nil)) rfl ⟨⟨trivial, rfl⟩, rfl⟩ rfl) rfl ?_
 refine WPL.nilW ?_
 refine W.now ?_
 refine Then.n ?_
 refine WP.seq ?_
 refine WP.block ?_
 refine WP.cv (Cv.weak (E' := (((Env.none.upd 7 (.lit (.int .i64 x9196))).upd 8 (.lit (.int .i64 x9343))).upd 9 (.ptr 0 0))) (M' := ((Mem.nil.push (.cells 101 [.ptr 0 0, .whole 1])).push (.row 5 (Rd.int .u8) (([] : List Int) ++ (strInts x8856))))) [0, 2] hnp ⟨rfl, ⟨⟨trivial, .inr ⟨rfl, rfl, rfl⟩⟩, .inr ⟨rfl, rfl, rfl⟩⟩, by decide, rfl, trivial⟩ (LeE.upd rfl rfl (LeE.upd rfl rfl (LeE.upd rfl rfl (LeE.none rfl rfl))))) ?_
 obtain ⟨x9388, H9405, H⟩ := bnd H
 refine WP.monoW (Q := fun x E M => x = .exit 3 ∧ E = (Env.none.upd 9 (.ptr 0 0)) ∧ M = ((Mem.nil.push (.cells 101 [.ptr 0 0, .whole 1])).push (.row 5 (Rd.int .u8) x9388))) ?_ ?_
 · refine WP.loop (β := (List Int)) (fun n b => g_strings_Repeat_l0 k x9196 x9343 n b = some x9388) (fun b => (((Env.none.upd 7 (.lit (.int .i64 x9196))).upd 8 (.lit (.int .i64 x9343))).upd 9 (.ptr 0 0))) (fun b => ((Mem.nil.push (.cells 101 [.ptr 0 0, .whole 1])).push (.row 5 (Rd.int .u8) b))) k (([] : List Int) ++ (strInts x8856)) H9405 rfl rfl ?_
   rintro n x9370 H
   obtain _ | n := n
   · exact nf rfl H
   rw [g_strings_Repeat_l0.eq_2] at H
   show WP _ _ _ _ (((Env.none.upd 7 (.lit (.int .i64 x9196))).upd 8 (.lit (.int .i64 x9343))).upd 9 (.ptr 0 0)) ((Mem.nil.push (.cells 101 [.ptr 0 0, .whole 1])).push (.row 5 (Rd.int .u8) x9370)) _
   refine WP.seq ?_
   refine WP.seq ?_
   refine WP.region ?_
   obtain ⟨_, h9391, H⟩ := bnd H
   refine WPL.c (runs_call (s := [0, 1]) (t := [0, 2]) (N := 3) (bor := []) fn74 rfl (s_strings_Builder_Len k x9370 h9391) ⟨rfl, ⟨⟨trivial, .inr ⟨rfl, rfl, rfl⟩⟩, .inr ⟨rfl, rfl, rfl⟩⟩, by decide, rfl, trivial⟩ rfl trivial (.ren rfl rfl .nil) rfl ⟨⟨trivial, rfl⟩, rfl⟩ rfl) rfl ?_
   refine WPL.q (q_mv (v := .lit (.int _ _)) rfl) rfl ?_
   obtain ⟨x9393, h9393, H⟩ := bnd H
   refine WPL.q (q_nm (q_lss rfl rfl) (nm_bool h9393)) rfl ?_
   refine WPL.nilW ?_
   refine W.now ?_
   refine Then.n ?_
   refine WP.cond (t := x9393) rfl (fun hb9393 => ?_) (fun hb9393 => ?_)
   · replace H := cnt hb9393 H
     refine WP.skipW ?_
     refine W.now ?_
     refine Then.n ?_
     refine WP.block ?_
     refine WP.seq ?_
     refine WP.region ?_
     refine WPL.q (q_mv (v := .lit (.int _ _)) rfl) rfl ?_
     obtain ⟨_, h9394, H⟩ := bnd H
     refine WPL.c (runs_call (s := [0, 2]) (t := [0, 3]) (N := 4) (bor := []) fn74 rfl (s_strings_Builder_Len k x9370 h9394) ⟨rfl, ⟨⟨trivial, .inr ⟨rfl, rfl, rfl⟩⟩, .inr ⟨rfl, rfl, rfl⟩⟩, by decide, rfl, trivial⟩ rfl trivial (.ren rfl rfl .nil) rfl ⟨⟨trivial, rfl⟩, rfl⟩ rfl) rfl ?_
     obtain ⟨x9396, h9396, H⟩ := bnd H
     refine WPL.q (q_nm (q_sub rfl rfl) (nm_int h9396)) rfl ?_
     obtain ⟨_, h9396, H⟩ := bnd H
     refine WPL.c (runs_call (s := [0, 3]) (t := [0, 4]) (N := 5) (bor := []) fn74 rfl (s_strings_Builder_Len k x9370 h9396) ⟨rfl, ⟨⟨trivial, .inr ⟨rfl, rfl, rfl⟩⟩, .inr ⟨rfl, rfl, rfl⟩⟩, by decide, rfl, trivial⟩ rfl trivial (.ren rfl rfl .nil) rfl ⟨⟨trivial, rfl⟩, rfl⟩ rfl) rfl ?_
     refine WPL.q (q_mv (v := .lit (.int _ _)) rfl) rfl ?_
     obtain ⟨x9398, h9398, H⟩ := bnd H
     obtain ⟨x9399, h9399, H⟩ := bnd H
     refine WPL.q (q_nm (q_min3 rfl rfl rfl (Option.some.inj h9398)) (nm_int h9399)) rfl ?_
     refine WPL.q (q_as (v := .lit (.int _ _)) rfl) rfl ?_
     refine WPL.nilW ?_
     refine W.now ?_
     refine Then.n ?_
     refine WP.region ?_
     obtain ⟨y9401, h9399, H⟩ := bnd H
     rcases y9401 with _ | _
     · refine WPL.c (runs_call (s := [0, 4]) (t := [0, 5]) (N := 6) (bor := []) fn75 rfl (s_strings_Builder_String k x9370 (Sum.inl ()) h9399) ⟨rfl, ⟨⟨trivial, .inr ⟨rfl, rfl, rfl⟩⟩, .inr ⟨rfl, rfl, rfl⟩⟩, by decide, rfl, trivial⟩ rfl trivial (.ren rfl rfl .nil) rfl ⟨⟨trivial, rfl⟩, rfl⟩ rfl) rfl ?_
       refine WPL.q (q_mv (v := .lit (.int _ _)) rfl) rfl ?_
       obtain ⟨h9401, H⟩ := grd H
       obtain ⟨x9403, h9403, H⟩ := bnd H
       refine WPL.q (q_nm (q_slice_str (i := 0) (j := x9399) Try.underlying9 rfl rfl ⟨_, rfl⟩ h9401) (nm_str h9403)) rfl ?_
       obtain ⟨_, h9403, H⟩ := bnd H
       refine WPL.c (runs_call (s := [0, 5]) (t := [0, 6]) (N := 7) (bor := []) fn73 rfl (s_strings_Builder_WriteString k x9403 x9370 h9403) ⟨rfl, ⟨⟨trivial, .inr ⟨rfl, rfl, rfl⟩⟩, .inr ⟨rfl, rfl, rfl⟩⟩, by decide, rfl, trivial⟩ rfl trivial (.ren rfl rfl (.ren rfl rfl .nil)) rfl ⟨⟨trivial, rfl⟩, rfl⟩ rfl) rfl ?_
       refine WPL.nilW ?_
       exact W.wk [0, 6] hnp (InBlock.n (Then.n ⟨n, (x9370 ++ (strInts x9403)), Nat.lt_succ_self n, H, rfl, rfl⟩)) ⟨rfl, ⟨⟨trivial, .inr ⟨rfl, rfl, rfl⟩⟩, .inr ⟨rfl, rfl, rfl⟩⟩, by decide, rfl, trivial⟩ (LeE.upd rfl rfl (LeE.upd rfl rfl (LeE.upd rfl rfl (LeE.none rfl rfl)))) rfl
     refine WPL.c (runs_call (s := [0, 4]) (t := [0, 5]) (N := 6) (bor := []) fn75 rfl (s_strings_Builder_String k x9370 (Sum.inr ()) h9399) ⟨rfl, ⟨⟨trivial, .inr ⟨rfl, rfl, rfl⟩⟩, .inr ⟨rfl, rfl, rfl⟩⟩, by decide, rfl, trivial⟩ rfl trivial (.ren rfl rfl .nil) rfl ⟨⟨trivial, rfl⟩, rfl⟩ rfl) rfl ?_
     refine WPL.q (q_mv (v := .lit (.int _ _)) rfl) rfl ?_
     obtain ⟨h9404, H⟩ := grd H
     refine WPL.q (q_slice_str (i := 0) (j := x9399) Try.underlying9 rfl rfl ⟨_, rfl⟩ h9404) rfl ?_
     exact nf rfl H
   replace H := cnf hb9393 H
   refine WP.exitW ?_
   have q0 := (Option.some.inj H)
   subst q0
   exact W.wk [0, 2] hnp (Then.x (Then.x ⟨rfl, rfl, rfl⟩)) ⟨rfl, ⟨⟨trivial, .inr ⟨rfl, rfl, rfl⟩⟩, .inr ⟨rfl, rfl, rfl⟩⟩, by decide, rfl, trivial⟩ (LeE.upd rfl rfl (LeE.none rfl rfl)) rfl
 rintro _ _ _ ⟨rfl, rfl, rfl⟩
 refine W.now ?_
 refine InBlock.x0 ?_
 refine Then.n ?_
 refine WP.seq ?_
 refine WP.region ?_
 obtain ⟨y9408, h9406, H⟩ := bnd H
 rcases y9408 with _ | _
 · refine WPL.c (runs_call (s := [0, 1]) (t := [0, 2]) (N := 3) (bor := []) fn75 rfl (s_strings_Builder_String k x9388 (Sum.inl ()) h9406) ⟨rfl, ⟨⟨trivial, .inr ⟨rfl, rfl, rfl⟩⟩, .inr ⟨rfl, rfl, rfl⟩⟩, by decide, rfl, trivial⟩ rfl trivial (.ren rfl rfl .nil) rfl ⟨⟨trivial, rfl⟩, rfl⟩ rfl) rfl ?_
   refine WPL.q (q_as (v := .lit (.string _)) rfl) rfl ?_
   refine WPL.nilW ?_
   refine W.now ?_
   refine Then.n ?_
   refine WP.retW ?_
   have q0 := (Option.some.inj H)
   subst q0
   exact W.now (BodyR.mkR trivial rfl [] ⟨rfl, rfl⟩ ⟨rfl, trivial, by decide, rfl, trivial⟩ rfl rfl)
 refine WPL.c (runs_call (s := [0, 1]) (t := [0, 2]) (N := 3) (bor := []) fn75 rfl (s_strings_Builder_String k x9388 (Sum.inr ()) h9406) ⟨rfl, ⟨⟨trivial, .inr ⟨rfl, rfl, rfl⟩⟩, .inr ⟨rfl, rfl, rfl⟩⟩, by decide, rfl, trivial⟩ rfl trivial (.ren rfl rfl .nil) rfl ⟨⟨trivial, rfl⟩, rfl⟩ rfl) rfl ?_
 refine WPL.q (q_as (v := .lit (.string _)) rfl) rfl ?_
 refine WPL.nilW ?_
 refine W.now ?_
 refine Then.n ?_
 refine WP.retW ?_
 have q0 := (Option.some.inj H)
 subst q0
 exact W.now (BodyR.mkR trivial rfl [] ⟨rfl, rfl⟩ ⟨rfl, trivial, by decide, rfl, trivial⟩ rfl rfl)
end Go.Proofs.Ytdbeblgfccjbgaa.W
namespace Go.Proofs.Ytdbeblgfccjbgaa.W
open Go Go.Q Go.Proofs
set_option linter.unusedVariables false
set_option linter.unusedSimpArgs false
set_option maxRecDepth 100000 in
set_option maxHeartbeats 4000000 in
theorem s_dec_Print (k : Nat) (x8826 : Int) (x8827 : Int) (x9473 : ByteArray) (H : g_dec_Print k x8826 x8827 = some x9473) : Go.Q.Spec Try.prog 45 0 [.agg [.lit (.int .i64 x8826), .lit (.int .i64 x8827)]] Mem.nil (fun o M => o = .ret (.lit (.string x9473)) ∧ M = Mem.nil) := by
 unfold g_dec_Print at H
 refine Go.Q.Spec.of_bodyR (az := []) (rs := [.tmp 2]) (nt := 72) Try.func45 rfl rfl (by intro t T h; simp at h) rfl rfl fun cx hnp => ?_
 refine WP.seq ?_
 refine WP.region ?_
 refine WPL.d (d_box rfl rfl) rfl ?_
 refine WPL.q (q_as (v := .lit (.string _)) rfl) rfl ?_
 refine WPL.nilW ?_
 refine W.now ?_
 refine Then.n ?_
 refine WP.seq ?_
 refine WP.seq ?_
 refine WP.region ?_
 refine WPL.d (d_buildCells li81 rfl rfl rfl rfl rfl) rfl ?_
 obtain ⟨⟨x9480, x9481, x9482⟩, h9478, H⟩ := bnd H
 refine WPL.c (runs_call (s := [1, 0]) (t := [1, 0]) (N := 2) (bor := []) fn27 rfl (s_dec_clean__b k x8826 x8827 x9480 x9481 x9482 h9478) ⟨rfl, ⟨⟨trivial, .inr ⟨rfl, rfl, rfl⟩⟩, .inr ⟨rfl, rfl, rfl⟩⟩, by decide, rfl, trivial⟩ rfl trivial (.ren rfl rfl .nil) rfl ⟨⟨trivial, rfl⟩, rfl⟩ rfl) rfl ?_
 refine WPL.q (q_not rfl) rfl ?_
 refine WPL.nilW ?_
 refine W.now ?_
 refine Then.n ?_
 refine WP.cond (t := (!x9480)) rfl (fun hb9482 => ?_) (fun hb9482 => ?_)
 · replace H := cnt hb9482 H
   refine WP.seq ?_
   refine WP.region ?_
   refine WPL.q (q_as (v := .lit (.string _)) rfl) rfl ?_
   refine WPL.nilW ?_
   refine W.now ?_
   refine Then.n ?_
   refine WP.retW ?_
   have q0 := (Option.some.inj H)
   subst q0
   exact W.now (Then.r (BodyR.mkR trivial rfl [] ⟨rfl, rfl⟩ ⟨rfl, trivial, by decide, rfl, trivial⟩ rfl rfl))
 replace H := cnf hb9482 H
 refine WP.skipW ?_
 refine W.now ?_
 refine Then.n ?_
 refine WP.seq ?_
 refine WP.region ?_
 refine WPL.q (q_as (v := .lit (.string _)) rfl) rfl ?_
 refine WPL.nilW ?_
 refine W.now ?_
 refine Then.n ?_
 refine WP.seq ?_
 refine WP.seq ?_
 refine WP.region ?_
 refine WPL.q (q_fieldAddr fi23_0 rfl rfl) rfl ?_
 refine WPL.q (q_load sc2 rfl rfl rfl) rfl ?_
 obtain ⟨x9485, h9483, H⟩ := bnd H
 refine WPL.c (runs_call (s := []) (t := []) (N := 2) (bor := []) fn28 rfl (s_dec_size k x9481 x9485 h9483) ⟨rfl, trivial, by decide, rfl, trivial⟩ rfl trivial (.ren rfl rfl .nil) rfl trivial rfl) rfl ?_
 refine WPL.q (q_as (v := .lit (.int _ _)) rfl) rfl ?_
 refine WPL.nilW ?_
 refine W.now ?_
 refine Then.n ?_
 refine WP.block ?_
 refine WP.cv (Cv.weak (E' := (((Env.none.upd 1 (.ptr 0 0)).upd 3 (.lit (.string (ByteArray.mk #[])))).upd 4 (.lit (.int .u64 x9485)))) (M' := (Mem.nil.push (.cells 23 [.lit (.int .i64 x9481), .lit (.int .i64 x9482)]))) [0] hnp ⟨rfl, ⟨trivial, .inr ⟨rfl, rfl, rfl⟩⟩, by decide, rfl, trivial⟩ (LeE.upd rfl rfl (LeE.upd rfl rfl (LeE.upd rfl rfl (LeE.none rfl rfl))))) ?_
 obtain ⟨x9497, H9501, H⟩ := bnd H
 refine WP.monoW (Q := fun x E M => x = .exit 0 ∧ E = ((Env.none.upd 1 (.ptr 0 0)).upd 3 (.lit (.string x9497))) ∧ M = (Mem.nil.push (.cells 23 [.lit (.int .i64 x9481), .lit (.int .i64 x9482)]))) ?_ ?_
 · refine WP.loop (β := ByteArray × Int) (fun n b => g_dec_Print_l0 k n b.1 b.2 = some x9497) (fun b => (((Env.none.upd 1 (.ptr 0 0)).upd 3 (.lit (.string b.1))).upd 4 (.lit (.int .u64 b.2)))) (fun b => (Mem.nil.push (.cells 23 [.lit (.int .i64 x9481), .lit (.int .i64 x9482)]))) k ((ByteArray.mk #[]), x9485) H9501 rfl rfl ?_
   rintro n ⟨x9491, x9492⟩ H
   obtain _ | n := n
   · exact nf rfl H
   rw [g_dec_Print_l0.eq_2] at H
   show WP _ _ _ _ (((Env.none.upd 1 (.ptr 0 0)).upd 3 (.lit (.string x9491))).upd 4 (.lit (.int .u64 x9492))) (Mem.nil.push (.cells 23 [.lit (.int .i64 x9481), .lit (.int .i64 x9482)])) _
   refine WP.seq ?_
   refine WP.seq ?_
   refine WP.region ?_
   refine WPL.q (q_mv (v := .lit (.int _ _)) rfl) rfl ?_
   refine WPL.q (q_gtr rfl rfl) rfl ?_
   refine WPL.nilW ?_
   refine W.now ?_
   refine Then.n ?_
   refine WP.cond (t := (decide (0 < x9492))) rfl (fun hb9498 => ?_) (fun hb9498 => ?_)
   · replace H := cnt hb9498 H
     refine WP.skipW ?_
     refine W.now ?_
     refine Then.n ?_
     refine WP.seq ?_
     refine WP.block ?_
     refine WP.region ?_
     refine WPL.q (q_mv (v := .lit (.int _ _)) rfl) rfl ?_
     refine WPL.q (q_rem rfl rfl rfl) rfl ?_
     obtain ⟨x9500, h9500, H⟩ := bnd H
     refine WPL.q (q_nm (q_add rfl rfl) (nm_int h9500)) rfl ?_
     refine WPL.q (q_conv Try.underlying38 Try.underlying5 rfl) rfl ?_
     refine WPL.d (d_buildSlice (ds := ([(IntKind.wrap .u8 x9500)] : List Int)) (R := (Rd.int .u8)) li89 rfl rfl rfl rfl rfl (JoinRows.cons1 Joins.sc rfl JoinRows.nil) rfl rfl) rfl ?_
     refine WPL.q (q_bytes_str_row Try.underlying89 Try.underlying5 Try.underlying9 rfl rfl) rfl ?_
     refine WPL.q (q_mv (v := .lit (.string _)) rfl) rfl ?_
     obtain ⟨h9500, H⟩ := grd H
     refine WPL.q (q_concat rfl rfl h9500) rfl ?_
     refine WPL.q (q_as (v := .lit (.string _)) rfl) rfl ?_
     refine WPL.nilW ?_
     refine W.now ?_
     refine InBlock.n ?_
     refine Then.n ?_
     refine WP.region ?_
     refine WPL.q (q_mv (v := .lit (.int _ _)) rfl) rfl ?_
     refine WPL.q (q_quo rfl rfl rfl) rfl ?_
     refine WPL.q (q_as (v := .lit (.int _ _)) rfl) rfl ?_
     refine WPL.nilW ?_
     exact W.wk [0] hnp (Then.n ⟨n, (((strOf ([(IntKind.wrap .u8 x9500)] : List Int)) ++ x9491), (IntKind.wrap .u64 (Int.tdiv x9492 10))), Nat.lt_succ_self n, H, rfl, rfl⟩) ⟨rfl, ⟨trivial, .inr ⟨rfl, rfl, rfl⟩⟩, by decide, rfl, trivial⟩ (LeE.upd rfl rfl (LeE.upd rfl rfl (LeE.upd rfl rfl (LeE.none rfl rfl)))) rfl
   replace H := cnf hb9498 H
   refine WP.exitW ?_
   have q0 := (Option.some.inj H)
   subst q0
   exact W.wk [0] hnp (Then.x (Then.x ⟨rfl, rfl, rfl⟩)) ⟨rfl, ⟨trivial, .inr ⟨rfl, rfl, rfl⟩⟩, by decide, rfl, trivial⟩ (LeE.upd rfl rfl (LeE.upd rfl rfl (LeE.none rfl rfl))) rfl
 rintro _ _ _ ⟨rfl, rfl, rfl⟩
 refine W.now ?_
 refine InBlock.x0 ?_
 refine Then.n ?_
 refine WP.seq ?_
 obtain ⟨x9532, H9561, H⟩ := bnd H
 refine WP.monoW (Q := fun x E M => x = .normal ∧ E = ((Env.none.upd 1 (.ptr 0 0)).upd 3 (.lit (.string x9532))) ∧ M = (Mem.nil.push (.cells 23 [.lit (.int .i64 x9481), .lit (.int .i64 x9482)]))) ?_ ?_
 · clear H
   have H := H9561
   clear H9561
   refine WP.block ?_
   refine WP.seq ?_
   refine WP.region ?_
   refine WPL.q (q_fieldAddr fi23_0 rfl rfl) rfl ?_
   refine WPL.q (q_load sc2 rfl rfl rfl) rfl ?_
   refine WPL.q (q_eql rfl rfl) rfl ?_
   refine WPL.q (q_as (v := .lit (.bool _)) rfl) rfl ?_
   refine WPL.nilW ?_
   refine W.now ?_
   refine Then.n ?_
   refine WP.cond (t := (decide (x9481 = 0))) rfl (fun hb9532 => ?_) (fun hb9532 => ?_)
   · replace H := cnt hb9532 H
     refine WP.region ?_
     refine WPL.q (q_as (v := .lit (.string _)) rfl) rfl ?_
     refine WPL.nilW ?_
     have q0 := (Option.some.inj H)
     subst q0
     exact W.wk [0] hnp (InBlock.n ⟨rfl, rfl, rfl⟩) ⟨rfl, ⟨trivial, .inr ⟨rfl, rfl, rfl⟩⟩, by decide, rfl, trivial⟩ (LeE.upd rfl rfl (LeE.upd rfl rfl (LeE.none rfl rfl))) rfl
   replace H := cnf hb9532 H
   refine WP.seq ?_
   refine WP.region ?_
   refine WPL.q (q_fieldAddr fi23_1 rfl rfl) rfl ?_
   refine WPL.q (q_load sc3 rfl rfl rfl) rfl ?_
   refine WPL.q (q_gtr rfl rfl) rfl ?_
   refine WPL.q (q_as (v := .lit (.bool _)) rfl) rfl ?_
   refine WPL.nilW ?_
   refine W.now ?_
   refine Then.n ?_
   refine WP.cond (t := (decide (0 < x9482))) rfl (fun hb9533 => ?_) (fun hb9533 => ?_)
   · replace H := cnt hb9533 H
     refine WP.region ?_
     refine WPL.q (q_mv (v := .lit (.string _)) rfl) rfl ?_
     refine WPL.q (q_fieldAddr fi23_1 rfl rfl) rfl ?_
     refine WPL.q (q_load sc3 rfl rfl rfl) rfl ?_
     obtain ⟨x9536, h9534, H⟩ := bnd H
     refine WPL.c (runs_call (s := []) (t := []) (N := 1) (bor := []) fn66 rfl (s_strings_Repeat k (ByteArray.mk #[48]) x9482 x9536 h9534) ⟨rfl, trivial, by decide, rfl, trivial⟩ rfl trivial (.ren rfl rfl (.ren rfl rfl .nil)) rfl trivial rfl) rfl ?_
     obtain ⟨h9536, H⟩ := grd H
     refine WPL.q (q_concat rfl rfl h9536) rfl ?_
     refine WPL.q (q_as (v := .lit (.string _)) rfl) rfl ?_
     refine WPL.nilW ?_
     have q0 := (Option.some.inj H)
     subst q0
     exact W.wk [0] hnp (InBlock.n ⟨rfl, rfl, rfl⟩) ⟨rfl, ⟨trivial, .inr ⟨rfl, rfl, rfl⟩⟩, by decide, rfl, trivial⟩ (LeE.upd rfl rfl (LeE.upd rfl rfl (LeE.none rfl rfl))) rfl
   replace H := cnf hb9533 H
   refine WP.seq ?_
   refine WP.region ?_
   refine WPL.q (q_fieldAddr fi23_1 rfl rfl) rfl ?_
   refine WPL.q (q_load sc3 rfl rfl rfl) rfl ?_
   refine WPL.q (q_lss rfl rfl) rfl ?_
   refine WPL.q (q_as (v := .lit (.bool _)) rfl) rfl ?_
   refine WPL.nilW ?_
   refine W.now ?_
   refine Then.n ?_
   refine WP.cond (t := (decide (x9482 < 0))) rfl (fun hb9537 => ?_) (fun hb9537 => ?_)
   · replace H := cnt hb9537 H
     refine WP.seq ?_
     refine WP.region ?_
     refine WPL.q (q_fieldAddr fi23_1 rfl rfl) rfl ?_
     refine WPL.q (q_load sc3 rfl rfl rfl) rfl ?_
     refine WPL.q (q_sub rfl rfl) rfl ?_
     refine WPL.q (q_mv (v := .lit (.string _)) rfl) rfl ?_
     refine WPL.q (q_len_str Try.underlying9 rfl) rfl ?_
     obtain ⟨x9539, h9539, H⟩ := bnd H
     refine WPL.q (q_nm (q_sub rfl rfl) (nm_int h9539)) rfl ?_
     obtain ⟨x9540, h9540, H⟩ := bnd H
     refine WPL.q (q_nm (q_max rfl rfl) (nm_int h9540)) rfl ?_
     obtain ⟨x9542, h9540, H⟩ := bnd H
     refine WPL.c (runs_call (s := []) (t := []) (N := 1) (bor := []) fn66 rfl (s_strings_Repeat k (ByteArray.mk #[48]) x9540 x9542 h9540) ⟨rfl, trivial, by decide, rfl, trivial⟩ rfl trivial (.ren rfl rfl (.ren rfl rfl .nil)) rfl trivial rfl) rfl ?_
     refine WPL.q (q_mv (v := .lit (.string _)) rfl) rfl ?_
     obtain ⟨h9542, H⟩ := grd H
     refine WPL.q (q_concat rfl rfl h9542) rfl ?_
     refine WPL.q (q_as (v := .lit (.string _)) rfl) rfl ?_
     refine WPL.nilW ?_
     refine W.now ?_
     refine Then.n ?_
     refine WP.regionD' 17 [0] [] mixed rfl ?_
     refine WPD.takeT 0 rfl (by kernel_rfl) (q_mv (v := .lit (.string _)) rfl) rfl ?_
     refine WPD.takeT 1 rfl (by kernel_rfl) (q_mv (v := .lit (.string _)) rfl) rfl ?_
     obtain ⟨x9554, h9554, H⟩ := bnd H
     refine WPD.takeT 2 rfl (by kernel_rfl) (q_nm (q_len_str Try.underlying9 rfl) (nm_int h9554)) rfl ?_
     refine WPD.takeT 3 rfl (by kernel_rfl) (q_fieldAddr fi23_1 rfl rfl) rfl ?_
     refine WPD.takeT 8 rfl (by kernel_rfl) (q_mv (v := .lit (.string _)) rfl) rfl ?_
     refine WPD.takeT 9 rfl (by kernel_rfl) (q_mv (v := .lit (.string _)) rfl) rfl ?_
     obtain ⟨x9555, h9555, H⟩ := bnd H
     refine WPD.takeT 10 rfl (by kernel_rfl) (q_nm (q_len_str Try.underlying9 rfl) (nm_int h9555)) rfl ?_
     refine WPD.takeT 11 rfl (by kernel_rfl) (q_fieldAddr fi23_1 rfl rfl) rfl ?_
     refine WPD.take 4 rfl (by kernel_rfl) (q_load sc3 rfl rfl rfl) rfl rfl ?_
     refine WPD.takeT 5 rfl (by kernel_rfl) (q_add rfl rfl) rfl ?_
     obtain ⟨h9555, H⟩ := grd H
     obtain ⟨x9557, h9557, H⟩ := bnd H
     refine WPD.takeT 6 rfl (by kernel_rfl) (q_nm (q_slice_str (i := 0) (j := (IntKind.wrap .i64 (x9554 + x9482))) Try.underlying9 rfl rfl ⟨_, rfl⟩ h9555) (nm_str h9557)) rfl ?_
     obtain ⟨h9557, H⟩ := grd H
     refine WPD.takeT 7 rfl (by kernel_rfl) (q_concat rfl rfl h9557) rfl ?_
     refine WPD.take 12 rfl (by kernel_rfl) (q_load sc3 rfl rfl rfl) rfl rfl ?_
     refine WPD.takeT 13 rfl (by kernel_rfl) (q_add rfl rfl) rfl ?_
     obtain ⟨h9558, H⟩ := grd H
     obtain ⟨x9560, h9560, H⟩ := bnd H
     refine WPD.takeT 14 rfl (by kernel_rfl) (q_nm (q_slice_str (i := (IntKind.wrap .i64 (x9555 + x9482))) (j := ((ByteArray.size (x9542 ++ x9497) : Nat) : Int)) Try.underlying9 rfl ⟨_, rfl⟩ rfl h9558) (nm_str h9560)) rfl ?_
     obtain ⟨h9560, H⟩ := grd H
     refine WPD.takeT 15 rfl (by kernel_rfl) (q_concat rfl rfl h9560) rfl ?_
     refine WPD.takeT 16 rfl (by kernel_rfl) (q_as (v := .lit (.string _)) rfl) rfl ?_
     refine WPD.doneW (by kernel_rfl) ?_
     have q0 := (Option.some.inj H)
     subst q0
     exact W.wk [0] hnp (InBlock.n ⟨rfl, rfl, rfl⟩) ⟨rfl, ⟨trivial, .inr ⟨rfl, rfl, rfl⟩⟩, by decide, rfl, trivial⟩ (LeE.upd rfl rfl (LeE.upd rfl rfl (LeE.none rfl rfl))) rfl
   replace H := cnf hb9537 H
   refine WP.skipW ?_
   have q0 := (Option.some.inj H)
   subst q0
   exact W.wk [0] hnp (InBlock.n ⟨rfl, rfl, rfl⟩) ⟨rfl, ⟨trivial, .inr ⟨rfl, rfl, rfl⟩⟩, by decide, rfl, trivial⟩ (LeE.upd rfl rfl (LeE.upd rfl rfl (LeE.none rfl rfl))) rfl
 rintro _ _ _ ⟨rfl, rfl, rfl⟩
 refine W.now ?_
 refine Then.n ?_
 refine WP.seq ?_
 obtain ⟨x9565, H9567, H⟩ := bnd H
 refine WP.monoW (Q := fun x E M => x = .normal ∧ E = (Env.none.upd 3 (.lit (.string x9565))) ∧ M = Mem.nil) ?_ ?_
 · clear H
   have H := H9567
   clear H9567
   refine WP.seq ?_
   refine WP.region ?_
   refine WPL.q (q_fieldAddr fi23_0 rfl rfl) rfl ?_
   refine WPL.q (q_load sc2 rfl rfl rfl) rfl ?_
   refine WPL.q (q_lss rfl rfl) rfl ?_
   refine WPL.nilW ?_
   refine W.now ?_
   refine Then.n ?_
   refine WP.cond (t := (decide (x9481 < 0))) rfl (fun hb9565 => ?_) (fun hb9565 => ?_)
   · replace H := cnt hb9565 H
     refine WP.region ?_
     refine WPL.q (q_mv (v := .lit (.string _)) rfl) rfl ?_
     obtain ⟨h9566, H⟩ := grd H
     refine WPL.q (q_concat rfl rfl h9566) rfl ?_
     refine WPL.q (q_as (v := .lit (.string _)) rfl) rfl ?_
     refine WPL.nilW ?_
     have q0 := (Option.some.inj H)
     subst q0
     exact W.wk [] hnp ⟨rfl, rfl, rfl⟩ ⟨rfl, trivial, by decide, rfl, trivial⟩ (LeE.upd rfl rfl (LeE.none rfl rfl)) rfl
   replace H := cnf hb9565 H
   refine WP.skipW ?_
   have q0 := (Option.some.inj H)
   subst q0
   exact W.wk [] hnp ⟨rfl, rfl, rfl⟩ ⟨rfl, trivial, by decide, rfl, trivial⟩ (LeE.upd rfl rfl (LeE.none rfl rfl)) rfl
 rintro _ _ _ ⟨rfl, rfl, rfl⟩
 refine W.now ?_
 refine Then.n ?_
 refine WP.seq ?_
 refine WP.region ?_
 refine WPL.q (q_mv (v := .lit (.string _)) rfl) rfl ?_
 refine WPL.q (q_as (v := .lit (.string _)) rfl) rfl ?_
 refine WPL.nilW ?_
 refine W.now ?_
 refine Then.n ?_
 refine WP.retW ?_
 have q0 := (Option.some.inj H)
 subst q0
 exact W.now (BodyR.mkR trivial rfl [] ⟨rfl, rfl⟩ ⟨rfl, trivial, by decide, rfl, trivial⟩ rfl rfl)
set_option maxRecDepth 100000 in
set_option maxHeartbeats 4000000 in
theorem s_quirelaw09_alive (k : Nat) (x9591 : Bool) (H : g_quirelaw09_alive k = some x9591) : Go.Q.Spec Try.prog 13 0 [] Mem.nil (fun o M => o = .ret (.lit (.bool x9591)) ∧ M = Mem.nil) := by
 unfold g_quirelaw09_alive at H
 refine Go.Q.Spec.of_bodyR (az := []) (rs := [.tmp 0]) (nt := 94) Try.func13 rfl rfl (by intro t T h; simp at h) rfl rfl fun cx hnp => ?_
 refine WP.seq ?_
 refine WP.region ?_
 refine WPL.q (q_as (v := .lit (.bool _)) rfl) rfl ?_
 refine WPL.nilW ?_
 refine W.now ?_
 refine Then.n ?_
 refine WP.seq ?_
 refine WP.region ?_
 obtain ⟨⟨x9593, x9594, x9595⟩, h9591, H⟩ := bnd H
 refine WPL.c (runs_call (s := []) (t := [0]) (N := 1) (bor := []) fn25 rfl (s_dec_Make k 120 0 x9593 x9594 x9595 h9591) ⟨rfl, trivial, by decide, rfl, trivial⟩ rfl trivial (.ren rfl rfl (.ren rfl rfl .nil)) rfl ⟨trivial, rfl⟩ rfl) rfl ?_
 refine WPL.q (q_mv (v := .tup _) rfl) rfl ?_
 refine WPL.q (q_extract rfl rfl) rfl ?_
 refine WPL.q (q_extract rfl rfl) rfl ?_
 refine WPL.d (d_alloc ze23 rfl) rfl ?_
 refine WPL.s (s_store sz23 rfl rfl rfl rfl rfl) ?_
 refine WPL.q (q_as (v := .lit (.int _ _)) rfl) rfl ?_
 refine WPL.nilW ?_
 refine W.now ?_
 refine Then.n ?_
 refine WP.seq ?_
 refine WP.region ?_
 refine WPL.q (q_build bu23 rfl) rfl ?_
 refine WPL.q (q_build bu23 rfl) rfl ?_
 obtain ⟨⟨x9597, x9598, x9599⟩, h9595, H⟩ := bnd H
 refine WPL.c (runs_call (s := []) (t := [2]) (N := 3) (bor := []) fn14 rfl (s_dec_Add k 1 (-1) 2 (-1) x9597 x9598 x9599 h9595) ⟨rfl, trivial, by decide, rfl, trivial⟩ rfl trivial (.ren rfl rfl (.ren rfl rfl .nil)) rfl ⟨trivial, rfl⟩ rfl) rfl ?_
 refine WPL.q (q_mv (v := .tup _) rfl) rfl ?_
 refine WPL.q (q_extract rfl rfl) rfl ?_
 refine WPL.q (q_extract rfl rfl) rfl ?_
 refine WPL.d (d_alloc ze23 rfl) rfl ?_
 refine WPL.s (s_store sz23 rfl rfl rfl rfl rfl) ?_
 refine WPL.q (q_as (v := .lit (.int _ _)) rfl) rfl ?_
 refine WPL.nilW ?_
 refine W.now ?_
 refine Then.n ?_
 refine WP.seq ?_
 refine WP.region ?_
 refine WPL.q (q_build bu23 rfl) rfl ?_
 refine WPL.q (q_build bu23 rfl) rfl ?_
 obtain ⟨⟨x9601, x9602, x9603⟩, h9599, H⟩ := bnd H
 refine WPL.c (runs_call (s := []) (t := [4]) (N := 5) (bor := []) fn7 rfl (s_dec_Div k 1 0 4 0 x9601 x9602 x9603 h9599) ⟨rfl, trivial, by decide, rfl, trivial⟩ rfl trivial (.ren rfl rfl (.ren rfl rfl .nil)) rfl ⟨trivial, rfl⟩ rfl) rfl ?_
 refine WPL.q (q_mv (v := .tup _) rfl) rfl ?_
 refine WPL.q (q_extract rfl rfl) rfl ?_
 refine WPL.q (q_extract rfl rfl) rfl ?_
 refine WPL.d (d_alloc ze23 rfl) rfl ?_
 refine WPL.s (s_store sz23 rfl rfl rfl rfl rfl) ?_
 refine WPL.q (q_as (v := .lit (.int _ _)) rfl) rfl ?_
 refine WPL.nilW ?_
 refine W.now ?_
 refine Then.n ?_
 refine WP.seq ?_
 refine WP.region ?_
 refine WPL.q (q_build bu23 rfl) rfl ?_
 refine WPL.q (q_build bu23 rfl) rfl ?_
 obtain ⟨⟨x9605, x9606, x9607⟩, h9603, H⟩ := bnd H
 refine WPL.c (runs_call (s := []) (t := [6]) (N := 7) (bor := []) fn7 rfl (s_dec_Div k 1 0 3 0 x9605 x9606 x9607 h9603) ⟨rfl, trivial, by decide, rfl, trivial⟩ rfl trivial (.ren rfl rfl (.ren rfl rfl .nil)) rfl ⟨trivial, rfl⟩ rfl) rfl ?_
 refine WPL.q (q_mv (v := .tup _) rfl) rfl ?_
 refine WPL.q (q_extract rfl rfl) rfl ?_
 refine WPL.q (q_extract rfl rfl) rfl ?_
 refine WPL.d (d_alloc ze23 rfl) rfl ?_
 refine WPL.s (s_store sz23 rfl rfl rfl rfl rfl) ?_
 refine WPL.q (q_as (v := .lit (.int _ _)) rfl) rfl ?_
 refine WPL.nilW ?_
 refine W.now ?_
 refine Then.n ?_
 refine WP.seq ?_
 refine WP.region ?_
 refine WPL.q (q_build bu23 rfl) rfl ?_
 refine WPL.q (q_build bu23 rfl) rfl ?_
 obtain ⟨⟨x9609, x9610, x9611⟩, h9607, H⟩ := bnd H
 refine WPL.c (runs_call (s := []) (t := [8]) (N := 9) (bor := []) fn7 rfl (s_dec_Div k 1 0 0 0 x9609 x9610 x9611 h9607) ⟨rfl, trivial, by decide, rfl, trivial⟩ rfl trivial (.ren rfl rfl (.ren rfl rfl .nil)) rfl ⟨trivial, rfl⟩ rfl) rfl ?_
 refine WPL.q (q_mv (v := .tup _) rfl) rfl ?_
 refine WPL.q (q_extract rfl rfl) rfl ?_
 refine WPL.q (q_extract rfl rfl) rfl ?_
 refine WPL.d (d_alloc ze23 rfl) rfl ?_
 refine WPL.s (s_store sz23 rfl rfl rfl rfl rfl) ?_
 refine WPL.q (q_as (v := .lit (.int _ _)) rfl) rfl ?_
 refine WPL.nilW ?_
 refine W.now ?_
 refine Then.n ?_
 refine WP.seq ?_
 refine WP.region ?_
 refine WPL.q (q_build bu23 rfl) rfl ?_
 refine WPL.q (q_build bu23 rfl) rfl ?_
 obtain ⟨⟨x9613, x9614, x9615⟩, h9611, H⟩ := bnd H
 refine WPL.c (runs_call (s := []) (t := [10]) (N := 11) (bor := []) fn9 rfl (s_dec_Mod k (-7) 0 3 0 x9613 x9614 x9615 h9611) ⟨rfl, trivial, by decide, rfl, trivial⟩ rfl trivial (.ren rfl rfl (.ren rfl rfl .nil)) rfl ⟨trivial, rfl⟩ rfl) rfl ?_
 refine WPL.q (q_mv (v := .tup _) rfl) rfl ?_
 refine WPL.q (q_extract rfl rfl) rfl ?_
 refine WPL.q (q_extract rfl rfl) rfl ?_
 refine WPL.d (d_alloc ze23 rfl) rfl ?_
 refine WPL.s (s_store sz23 rfl rfl rfl rfl rfl) ?_
 refine WPL.q (q_as (v := .lit (.int _ _)) rfl) rfl ?_
 refine WPL.nilW ?_
 refine W.now ?_
 refine Then.n ?_
 refine WP.seq ?_
 obtain ⟨x9633, H9650, H⟩ := bnd H
 refine WP.monoW (Q := fun x E M => x = .normal ∧ E = (Env.none.upd 0 (.lit (.bool x9633))) ∧ M = Mem.nil) ?_ ?_
 · clear H
   have H := H9650
   clear H9650
   refine WP.region ?_
   refine WPL.q (q_load_ag ag23 rfl rfl (Nat.le_of_ble_eq_true rfl)) rfl ?_
   refine WPL.q (q_build bu23 rfl) rfl ?_
   obtain ⟨x9634, h9634, H⟩ := bnd H
   refine WPL.q (q_nm (q_eqlAg (xs := [(.int .i64 x9594), (.int .i64 x9595)]) (ys := [(.int .i64 12), (.int .i64 1)]) (n := 9) rfl eg23 rfl rfl eq23) (nm_bool h9634)) rfl ?_
   refine WPL.q (q_mv (v := .lit (.bool _)) rfl) rfl ?_
   refine WPL.split (t := 50) (b := x9634) rfl (fun hb9634 => ?_) (fun hb9634 => ?_)
   · replace H := cnt hb9634 H
     refine WPL.qg rfl rfl (lb hb9634) (q_mv (v := .lit (.int _ _)) rfl) rfl ?_
     refine WPL.qg rfl rfl (lb hb9634) (q_eql rfl rfl) rfl ?_
     refine WPL.q (q_pickT (v := .lit (.bool _)) (lb hb9634) rfl) rfl ?_
     refine WPL.q (q_mv (v := .lit (.bool _)) rfl) rfl ?_
     refine WPL.split (t := 54) (b := (decide (x9593 = 0))) rfl (fun hb9635 => ?_) (fun hb9635 => ?_)
     · replace H := cnt hb9635 H
       refine WPL.qg rfl rfl (lb hb9635) (q_load_ag ag23 rfl rfl (Nat.le_of_ble_eq_true rfl)) rfl ?_
       refine WPL.qg rfl rfl (lb hb9635) (q_build bu23 rfl) rfl ?_
       obtain ⟨x9637, h9637, H⟩ := bnd H
       refine WPL.qg rfl rfl (lb hb9635) (q_nm (q_eqlAg (xs := [(.int .i64 x9598), (.int .i64 x9599)]) (ys := [(.int .i64 3), (.int .i64 (-1))]) (n := 9) rfl eg23 rfl rfl eq23) (nm_bool h9637)) rfl ?_
       refine WPL.q (q_pickT (v := .lit (.bool _)) (lb hb9635) rfl) rfl ?_
       refine WPL.q (q_mv (v := .lit (.bool _)) rfl) rfl ?_
       refine WPL.split (t := 59) (b := x9637) rfl (fun hb9637 => ?_) (fun hb9637 => ?_)
       · replace H := cnt hb9637 H
         refine WPL.qg rfl rfl (lb hb9637) (q_mv (v := .lit (.int _ _)) rfl) rfl ?_
         refine WPL.qg rfl rfl (lb hb9637) (q_eql rfl rfl) rfl ?_
         refine WPL.q (q_pickT (v := .lit (.bool _)) (lb hb9637) rfl) rfl ?_
         refine WPL.q (q_mv (v := .lit (.bool _)) rfl) rfl ?_
         refine WPL.split (t := 63) (b := (decide (x9597 = 0))) rfl (fun hb9638 => ?_) (fun hb9638 => ?_)
         · replace H := cnt hb9638 H
           refine WPL.qg rfl rfl (lb hb9638) (q_load_ag ag23 rfl rfl (Nat.le_of_ble_eq_true rfl)) rfl ?_
           refine WPL.qg rfl rfl (lb hb9638) (q_build bu23 rfl) rfl ?_
           obtain ⟨x9640, h9640, H⟩ := bnd H
           refine WPL.qg rfl rfl (lb hb9638) (q_nm (q_eqlAg (xs := [(.int .i64 x9602), (.int .i64 x9603)]) (ys := [(.int .i64 25), (.int .i64 (-2))]) (n := 9) rfl eg23 rfl rfl eq23) (nm_bool h9640)) rfl ?_
           refine WPL.q (q_pickT (v := .lit (.bool _)) (lb hb9638) rfl) rfl ?_
           refine WPL.q (q_mv (v := .lit (.bool _)) rfl) rfl ?_
           refine WPL.split (t := 68) (b := x9640) rfl (fun hb9640 => ?_) (fun hb9640 => ?_)
           · replace H := cnt hb9640 H
             refine WPL.qg rfl rfl (lb hb9640) (q_mv (v := .lit (.int _ _)) rfl) rfl ?_
             refine WPL.qg rfl rfl (lb hb9640) (q_eql rfl rfl) rfl ?_
             refine WPL.q (q_pickT (v := .lit (.bool _)) (lb hb9640) rfl) rfl ?_
             refine WPL.q (q_mv (v := .lit (.bool _)) rfl) rfl ?_
             refine WPL.split (t := 72) (b := (decide (x9601 = 0))) rfl (fun hb9641 => ?_) (fun hb9641 => ?_)
             · replace H := cnt hb9641 H
               refine WPL.qg rfl rfl (lb hb9641) (q_mv (v := .lit (.int _ _)) rfl) rfl ?_
               refine WPL.qg rfl rfl (lb hb9641) (q_eql rfl rfl) rfl ?_
               refine WPL.q (q_pickT (v := .lit (.bool _)) (lb hb9641) rfl) rfl ?_
               refine WPL.q (q_mv (v := .lit (.bool _)) rfl) rfl ?_
               refine WPL.split (t := 76) (b := (decide (x9605 = 30))) rfl (fun hb9642 => ?_) (fun hb9642 => ?_)
               · replace H := cnt hb9642 H
                 refine WPL.qg rfl rfl (lb hb9642) (q_mv (v := .lit (.int _ _)) rfl) rfl ?_
                 refine WPL.qg rfl rfl (lb hb9642) (q_eql rfl rfl) rfl ?_
                 refine WPL.q (q_pickT (v := .lit (.bool _)) (lb hb9642) rfl) rfl ?_
                 refine WPL.q (q_mv (v := .lit (.bool _)) rfl) rfl ?_
                 refine WPL.split (t := 80) (b := (decide (x9609 = 31))) rfl (fun hb9643 => ?_) (fun hb9643 => ?_)
                 · replace H := cnt hb9643 H
                   refine WPL.qg rfl rfl (lb hb9643) (q_load_ag ag23 rfl rfl (Nat.le_of_ble_eq_true rfl)) rfl ?_
                   refine WPL.qg rfl rfl (lb hb9643) (q_build bu23 rfl) rfl ?_
                   obtain ⟨x9645, h9645, H⟩ := bnd H
                   refine WPL.qg rfl rfl (lb hb9643) (q_nm (q_eqlAg (xs := [(.int .i64 x9614), (.int .i64 x9615)]) (ys := [(.int .i64 2), (.int .i64 0)]) (n := 9) rfl eg23 rfl rfl eq23) (nm_bool h9645)) rfl ?_
                   refine WPL.q (q_pickT (v := .lit (.bool _)) (lb hb9643) rfl) rfl ?_
                   refine WPL.q (q_mv (v := .lit (.bool _)) rfl) rfl ?_
                   refine WPL.split (t := 85) (b := x9645) rfl (fun hb9645 => ?_) (fun hb9645 => ?_)
                   · replace H := cnt hb9645 H
                     refine WPL.qg rfl rfl (lb hb9645) (q_mv (v := .lit (.int _ _)) rfl) rfl ?_
                     refine WPL.qg rfl rfl (lb hb9645) (q_eql rfl rfl) rfl ?_
                     refine WPL.q (q_pickT (v := .lit (.bool _)) (lb hb9645) rfl) rfl ?_
                     refine WPL.q (q_mv (v := .lit (.bool _)) rfl) rfl ?_
                     refine WPL.split (t := 89) (b := (decide (x9613 = 0))) rfl (fun hb9646 => ?_) (fun hb9646 => ?_)
                     · replace H := cnt hb9646 H
                       refine WPL.qg rfl rfl (lb hb9646) (q_build bu23 rfl) rfl ?_
                       obtain ⟨x9649, h9647, H⟩ := bnd H
                       refine WPL.cg rfl rfl (lb hb9646) (runs_call (s := []) (t := []) (N := 12) (bor := []) fn45 rfl (s_dec_Print k 5 (-3) x9649 h9647) ⟨rfl, trivial, by decide, rfl, trivial⟩ rfl trivial (.ren rfl rfl .nil) rfl trivial rfl) rfl ?_
                       obtain ⟨x9650, h9650, H⟩ := bnd H
                       refine WPL.qg rfl rfl (lb hb9646) (q_nm (q_eqls rfl rfl) (nm_bool h9650)) rfl ?_
                       refine WPL.q (q_pickT (v := .lit (.bool _)) (lb hb9646) rfl) rfl ?_
                       refine WPL.q (q_as (v := .lit (.bool _)) rfl) rfl ?_
                       refine WPL.nilW ?_
                       have q0 := (Option.some.inj H)
                       subst q0
                       exact W.wk [] hnp ⟨rfl, rfl, rfl⟩ ⟨rfl, trivial, by decide, rfl, trivial⟩ (LeE.upd rfl rfl (LeE.none rfl rfl)) rfl
                     replace H := cnf hb9646 H
                     refine WPL.skipg (b' := false) rfl rfl (lb hb9646) rfl rfl ?_
                     refine WPL.skipg (b' := false) rfl rfl (lb hb9646) rfl rfl ?_
                     refine WPL.skipg (b' := false) rfl rfl (lb hb9646) rfl rfl ?_
                     refine WPL.q (q_pickF (v := .lit (.bool _)) (lb hb9646) rfl) rfl ?_
                     refine WPL.q (q_as (v := .lit (.bool _)) rfl) rfl ?_
                     refine WPL.nilW ?_
                     have q0 := (Option.some.inj H)
                     subst q0
                     exact W.wk [] hnp ⟨rfl, rfl, rfl⟩ ⟨rfl, trivial, by decide, rfl, trivial⟩ (LeE.upd rfl rfl (LeE.none rfl rfl)) rfl
                   replace H := cnf hb9645 H
                   refine WPL.skipg (b' := false) rfl rfl (lb hb9645) rfl rfl ?_
                   refine WPL.skipg (b' := false) rfl rfl (lb hb9645) rfl rfl ?_
                   refine WPL.q (q_pickF (v := .lit (.bool _)) (lb hb9645) rfl) rfl ?_
                   refine WPL.q (q_mv (v := .lit (.bool _)) rfl) rfl ?_
                   refine WPL.skipg (b' := false) rfl rfl rfl rfl rfl ?_
                   refine WPL.skipg (b' := false) rfl rfl rfl rfl rfl ?_
                   refine WPL.skipg (b' := false) rfl rfl rfl rfl rfl ?_
                   refine WPL.q (q_pickF (v := .lit (.bool _)) rfl rfl) rfl ?_
                   refine WPL.q (q_as (v := .lit (.bool _)) rfl) rfl ?_
                   refine WPL.nilW ?_
                   have q0 := (Option.some.inj H)
                   subst q0
                   exact W.wk [] hnp ⟨rfl, rfl, rfl⟩ ⟨rfl, trivial, by decide, rfl, trivial⟩ (LeE.upd rfl rfl (LeE.none rfl rfl)) rfl
                 replace H := cnf hb9643 H
                 refine WPL.skipg (b' := false) rfl rfl (lb hb9643) rfl rfl ?_
                 refine WPL.skipg (b' := false) rfl rfl (lb hb9643) rfl rfl ?_
                 refine WPL.skipg (b' := false) rfl rfl (lb hb9643) rfl rfl ?_
                 refine WPL.q (q_pickF (v := .lit (.bool _)) (lb hb9643) rfl) rfl ?_
                 refine WPL.q (q_mv (v := .lit (.bool _)) rfl) rfl ?_
                 refine WPL.skipg (b' := false) rfl rfl rfl rfl rfl ?_
                 refine WPL.skipg (b' := false) rfl rfl rfl rfl rfl ?_
                 refine WPL.q (q_pickF (v := .lit (.bool _)) rfl rfl) rfl ?_
                 refine WPL.q (q_mv (v := .lit (.bool _)) rfl) rfl ?_
                 refine WPL.skipg (b' := false) rfl rfl rfl rfl rfl ?_
                 refine WPL.skipg (b' := false) rfl rfl rfl rfl rfl ?_
                 refine WPL.skipg (b' := false) rfl rfl rfl rfl rfl ?_
                 refine WPL.q (q_pickF (v := .lit (.bool _)) rfl rfl) rfl ?_
                 refine WPL.q (q_as (v := .lit (.bool _)) rfl) rfl ?_
                 refine WPL.nilW ?_
                 have q0 := (Option.some.inj H)
                 subst q0
                 exact W.wk [] hnp ⟨rfl, rfl, rfl⟩ ⟨rfl, trivial, by decide, rfl, trivial⟩ (LeE.upd rfl rfl (LeE.none rfl rfl)) rfl
               replace H := cnf hb9642 H
               refine WPL.skipg (b' := false) rfl rfl (lb hb9642) rfl rfl ?_
               refine WPL.skipg (b' := false) rfl rfl (lb hb9642) rfl rfl ?_
               refine WPL.q (q_pickF (v := .lit (.bool _)) (lb hb9642) rfl) rfl ?_
               refine WPL.q (q_mv (v := .lit (.bool _)) rfl) rfl ?_
               refine WPL.skipg (b' := false) rfl rfl rfl rfl rfl ?_
               refine WPL.skipg (b' := false) rfl rfl rfl rfl rfl ?_
               refine WPL.skipg (b' := false) rfl rfl rfl rfl rfl ?_
               refine WPL.q (q_pickF (v := .lit (.bool _)) rfl rfl) rfl ?_
               refine WPL.q (q_mv (v := .lit (.bool _)) rfl) rfl ?_
               refine WPL.skipg (b' := false) rfl rfl rfl rfl rfl ?_
               refine WPL.skipg (b' := false) rfl rfl rfl rfl rfl ?_
               refine WPL.q (q_pickF (v := .lit (.bool _)) rfl rfl) rfl ?_
               refine WPL.q (q_mv (v := .lit (.bool _)) rfl) rfl ?_
               refine WPL.skipg (b' := false) rfl rfl rfl rfl rfl ?_
               refine WPL.skipg (b' := false) rfl rfl rfl rfl rfl ?_
               refine WPL.skipg (b' := false) rfl rfl rfl rfl rfl ?_
               refine WPL.q (q_pickF (v := .lit (.bool _)) rfl rfl) rfl ?_
               refine WPL.q (q_as (v := .lit (.bool _)) rfl) rfl ?_
               refine WPL.nilW ?_
               have q0 := (Option.some.inj H)
               subst q0
               exact W.wk [] hnp ⟨rfl, rfl, rfl⟩ ⟨rfl, trivial, by decide, rfl, trivial⟩ (LeE.upd rfl rfl (LeE.none rfl rfl)) rfl
             replace H := cnf hb9641 H
             refine WPL.skipg (b' := false) rfl rfl (lb hb9641) rfl rfl ?_
             refine WPL.skipg (b' := false) rfl rfl (lb hb9641) rfl rfl ?_
             refine WPL.q (q_pickF (v := .lit (.bool _)) (lb hb9641) rfl) rfl ?_
             refine WPL.q (q_mv (v := .lit (.bool _)) rfl) rfl ?_
             refine WPL.skipg (b' := false) rfl rfl rfl rfl rfl ?_
             refine WPL.skipg (b' := false) rfl rfl rfl rfl rfl ?_
             refine WPL.q (q_pickF (v := .lit (.bool _)) rfl rfl) rfl ?_
             refine WPL.q (q_mv (v := .lit (.bool _)) rfl) rfl ?_
             refine WPL.skipg (b' := false) rfl rfl rfl rfl rfl ?_
             refine WPL.skipg (b' := false) rfl rfl rfl rfl rfl ?_
             refine WPL.skipg (b' := false) rfl rfl rfl rfl rfl ?_
             refine WPL.q (q_pickF (v := .lit (.bool _)) rfl rfl) rfl ?_
             refine WPL.q (q_mv (v := .lit (.bool _)) rfl) rfl ?_
             refine WPL.skipg (b' := false) rfl rfl rfl rfl rfl ?_
             refine WPL.skipg (b' := false) rfl rfl rfl rfl rfl ?_
             refine WPL.q (q_pickF (v := .lit (.bool _)) rfl rfl) rfl ?_
             refine WPL.q (q_mv (v := .lit (.bool _)) rfl) rfl ?_
             refine WPL.skipg (b' := false) rfl rfl rfl rfl rfl ?_
             refine WPL.skipg (b' := false) rfl rfl rfl rfl rfl ?_
             refine WPL.skipg (b' := false) rfl rfl rfl rfl rfl ?_
             refine WPL.q (q_pickF (v := .lit (.bool _)) rfl rfl) rfl ?_
             refine WPL.q (q_as (v := .lit (.bool _)) rfl) rfl ?_
             refine WPL.nilW ?_
             have q0 := (Option.some.inj H)
             subst q0
             exact W.wk [] hnp ⟨rfl, rfl, rfl⟩ ⟨rfl, trivial, by decide, rfl, trivial⟩ (LeE.upd rfl rfl (LeE.none rfl rfl)) rfl
           replace H := cnf hb9640 H
           refine WPL.skipg (b' := false) rfl rfl (lb hb9640) rfl rfl ?_
           refine WPL.skipg (b' := false) rfl rfl (lb hb9640) rfl rfl ?_
           refine WPL.q (q_pickF (v := .lit (.bool _)) (lb hb9640) rfl) rfl ?_
           refine WPL.q (q_mv (v := .lit (.bool _)) rfl) rfl ?_
           refine WPL.skipg (b' := false) rfl rfl rfl rfl rfl ?_
           refine WPL.skipg (b' := false) rfl rfl rfl rfl rfl ?_
           refine WPL.q (q_pickF (v := .lit (.bool _)) rfl rfl) rfl ?_
           refine WPL.q (q_mv (v := .lit (.bool _)) rfl) rfl ?_
           refine WPL.skipg (b' := false) rfl rfl rfl rfl rfl ?_
           refine WPL.skipg (b' := false) rfl rfl rfl rfl rfl ?_
           refine WPL.q (q_pickF (v := .lit (.bool _)) rfl rfl) rfl ?_
           refine WPL.q (q_mv (v := .lit (.bool _)) rfl) rfl ?_
           refine WPL.skipg (b' := false) rfl rfl rfl rfl rfl ?_
           refine WPL.skipg (b' := false) rfl rfl rfl rfl rfl ?_
           refine WPL.skipg (b' := false) rfl rfl rfl rfl rfl ?_
           refine WPL.q (q_pickF (v := .lit (.bool _)) rfl rfl) rfl ?_
           refine WPL.q (q_mv (v := .lit (.bool _)) rfl) rfl ?_
           refine WPL.skipg (b' := false) rfl rfl rfl rfl rfl ?_
           refine WPL.skipg (b' := false) rfl rfl rfl rfl rfl ?_
           refine WPL.q (q_pickF (v := .lit (.bool _)) rfl rfl) rfl ?_
           refine WPL.q (q_mv (v := .lit (.bool _)) rfl) rfl ?_
           refine WPL.skipg (b' := false) rfl rfl rfl rfl rfl ?_
           refine WPL.skipg (b' := false) rfl rfl rfl rfl rfl ?_
           refine WPL.skipg (b' := false) rfl rfl rfl rfl rfl ?_
           refine WPL.q (q_pickF (v := .lit (.bool _)) rfl rfl) rfl ?_
           refine WPL.q (q_as (v := .lit (.bool _)) rfl) rfl ?_
           refine WPL.nilW ?_
           have q0 := (Option.some.inj H)
           subst q0
           exact W.wk [] hnp ⟨rfl, rfl, rfl⟩ ⟨rfl, trivial, by decide, rfl, trivial⟩ (LeE.upd rfl rfl (LeE.none rfl rfl)) rfl
         replace H := cnf hb9638 H
         refine WPL.skipg (b' := false) rfl rfl (lb hb9638) rfl rfl ?_
         refine WPL.skipg (b' := false) rfl rfl (lb hb9638) rfl rfl ?_
         refine WPL.skipg (b' := false) rfl rfl (lb hb9638) rfl rfl ?_
         refine WPL.q (q_pickF (v := .lit (.bool _)) (lb hb9638) rfl) rfl ?_
         refine WPL.q (q_mv (v := .lit (.bool _)) rfl) rfl ?_
         refine WPL.skipg (b' := false) rfl rfl rfl rfl rfl ?_
         refine WPL.skipg (b' := false) rfl rfl rfl rfl rfl ?_
         refine WPL.q (q_pickF (v := .lit (.bool _)) rfl rfl) rfl ?_
         refine WPL.q (q_mv (v := .lit (.bool _)) rfl) rfl ?_
         refine WPL.skipg (b' := false) rfl rfl rfl rfl rfl ?_
         refine WPL.skipg (b' := false) rfl rfl rfl rfl rfl ?_
         refine WPL.q (q_pickF (v := .lit (.bool _)) rfl rfl) rfl ?_
         refine WPL.q (q_mv (v := .lit (.bool _)) rfl) rfl ?_
         refine WPL.skipg (b' := false) rfl rfl rfl rfl rfl ?_
         refine WPL.skipg (b' := false) rfl rfl rfl rfl rfl ?_
         refine WPL.q (q_pickF (v := .lit (.bool _)) rfl rfl) rfl ?_
         refine WPL.q (q_mv (v := .lit (.bool _)) rfl) rfl ?_
         refine WPL.skipg (b' := false) rfl rfl rfl rfl rfl ?_
         refine WPL.skipg (b' := false) rfl rfl rfl rfl rfl ?_
         refine WPL.skipg (b' := false) rfl rfl rfl rfl rfl ?_
         refine WPL.q (q_pickF (v := .lit (.bool _)) rfl rfl) rfl ?_
         refine WPL.q (q_mv (v := .lit (.bool _)) rfl) rfl ?_
         refine WPL.skipg (b' := false) rfl rfl rfl rfl rfl ?_
         refine WPL.skipg (b' := false) rfl rfl rfl rfl rfl ?_
         refine WPL.q (q_pickF (v := .lit (.bool _)) rfl rfl) rfl ?_
         refine WPL.q (q_mv (v := .lit (.bool _)) rfl) rfl ?_
         refine WPL.skipg (b' := false) rfl rfl rfl rfl rfl ?_
         refine WPL.skipg (b' := false) rfl rfl rfl rfl rfl ?_
         refine WPL.skipg (b' := false) rfl rfl rfl rfl rfl ?_
         refine WPL.q (q_pickF (v := .lit (.bool _)) rfl rfl) rfl ?_
         refine WPL.q (q_as (v := .lit (.bool _)) rfl) rfl ?_
         refine WPL.nilW ?_
         have q0 := (Option.some.inj H)
         subst q0
         exact W.wk [] hnp ⟨rfl, rfl, rfl⟩ ⟨rfl, trivial, by decide, rfl, trivial⟩ (LeE.upd rfl rfl (LeE.none rfl rfl)) rfl
       replace H := cnf hb9637 H
       refine WPL.skipg (b' := false) rfl rfl (lb hb9637) rfl rfl ?_
       refine WPL.skipg (b' := false) rfl rfl (lb hb9637) rfl rfl ?_
       refine WPL.q (q_pickF (v := .lit (.bool _)) (lb hb9637) rfl) rfl ?_
       refine WPL.q (q_mv (v := .lit (.bool _)) rfl) rfl ?_
       refine WPL.skipg (b' := false) rfl rfl rfl rfl rfl ?_
       refine WPL.skipg (b' := false) rfl rfl rfl rfl rfl ?_
       refine WPL.skipg (b' := false) rfl rfl rfl rfl rfl ?_
       refine WPL.q (q_pickF (v := .lit (.bool _)) rfl rfl) rfl ?_
       refine WPL.q (q_mv (v := .lit (.bool _)) rfl) rfl ?_
       refine WPL.skipg (b' := false) rfl rfl rfl rfl rfl ?_
       refine WPL.skipg (b' := false) rfl rfl rfl rfl rfl ?_
       refine WPL.q (q_pickF (v := .lit (.bool _)) rfl rfl) rfl ?_
       refine WPL.q (q_mv (v := .lit (.bool _)) rfl) rfl ?_
       refine WPL.skipg (b' := false) rfl rfl rfl rfl rfl ?_
       refine WPL.skipg (b' := false) rfl rfl rfl rfl rfl ?_
       refine WPL.q (q_pickF (v := .lit (.bool _)) rfl rfl) rfl ?_
       refine WPL.q (q_mv (v := .lit (.bool _)) rfl) rfl ?_
       refine WPL.skipg (b' := false) rfl rfl rfl rfl rfl ?_
       refine WPL.skipg (b' := false) rfl rfl rfl rfl rfl ?_
       refine WPL.q (q_pickF (v := .lit (.bool _)) rfl rfl) rfl ?_
       refine WPL.q (q_mv (v := .lit (.bool _)) rfl) rfl ?_
       refine WPL.skipg (b' := false) rfl rfl rfl rfl rfl ?_
       refine WPL.skipg (b' := false) rfl rfl rfl rfl rfl ?_
       refine WPL.skipg (b' := false) rfl rfl rfl rfl rfl ?_
       refine WPL.q (q_pickF (v := .lit (.bool _)) rfl rfl) rfl ?_
       refine WPL.q (q_mv (v := .lit (.bool _)) rfl) rfl ?_
       refine WPL.skipg (b' := false) rfl rfl rfl rfl rfl ?_
       refine WPL.skipg (b' := false) rfl rfl rfl rfl rfl ?_
       refine WPL.q (q_pickF (v := .lit (.bool _)) rfl rfl) rfl ?_
       refine WPL.q (q_mv (v := .lit (.bool _)) rfl) rfl ?_
       refine WPL.skipg (b' := false) rfl rfl rfl rfl rfl ?_
       refine WPL.skipg (b' := false) rfl rfl rfl rfl rfl ?_
       refine WPL.skipg (b' := false) rfl rfl rfl rfl rfl ?_
       refine WPL.q (q_pickF (v := .lit (.bool _)) rfl rfl) rfl ?_
       refine WPL.q (q_as (v := .lit (.bool _)) rfl) rfl ?_
       refine WPL.nilW ?_
       have q0 := (Option.some.inj H)
       subst q0
       exact W.wk [] hnp ⟨rfl, rfl, rfl⟩ ⟨rfl, trivial, by decide, rfl, trivial⟩ (LeE.upd rfl rfl (LeE.none rfl rfl)) rfl
     replace H := cnf hb9635 H
     refine WPL.skipg (b' := false) rfl rfl (lb hb9635) rfl rfl ?_
     refine WPL.skipg (b' := false) rfl rfl (lb hb9635) rfl rfl ?_
     refine WPL.skipg (b' := false) rfl rfl (lb hb9635) rfl rfl ?_
     refine WPL.q (q_pickF (v := .lit (.bool _)) (lb hb9635) rfl) rfl ?_
     refine WPL.q (q_mv (v := .lit (.bool _)) rfl) rfl ?_
     refine WPL.skipg (b' := false) rfl rfl rfl rfl rfl ?_
     refine WPL.skipg (b' := false) rfl rfl rfl rfl rfl ?_
     refine WPL.q (q_pickF (v := .lit (.bool _)) rfl rfl) rfl ?_
     refine WPL.q (q_mv (v := .lit (.bool _)) rfl) rfl ?_
     refine WPL.skipg (b' := false) rfl rfl rfl rfl rfl ?_
     refine WPL.skipg (b' := false) rfl rfl rfl rfl rfl ?_
     refine WPL.skipg (b' := false) rfl rfl rfl rfl rfl ?_
     refine WPL.q (q_pickF (v := .lit (.bool _)) rfl rfl) rfl ?_
     refine WPL.q (q_mv (v := .lit (.bool _)) rfl) rfl ?_
     refine WPL.skipg (b' := false) rfl rfl rfl rfl rfl ?_
     refine WPL.skipg (b' := false) rfl rfl rfl rfl rfl ?_
     refine WPL.q (q_pickF (v := .lit (.bool _)) rfl rfl) rfl ?_
     refine WPL.q (q_mv (v := .lit (.bool _)) rfl) rfl ?_
     refine WPL.skipg (b' := false) rfl rfl rfl rfl rfl ?_
     refine WPL.skipg (b' := false) rfl rfl rfl rfl rfl ?_
     refine WPL.q (q_pickF (v := .lit (.bool _)) rfl rfl) rfl ?_
     refine WPL.q (q_mv (v := .lit (.bool _)) rfl) rfl ?_
     refine WPL.skipg (b' := false) rfl rfl rfl rfl rfl ?_
     refine WPL.skipg (b' := false) rfl rfl rfl rfl rfl ?_
     refine WPL.q (q_pickF (v := .lit (.bool _)) rfl rfl) rfl ?_
     refine WPL.q (q_mv (v := .lit (.bool _)) rfl) rfl ?_
     refine WPL.skipg (b' := false) rfl rfl rfl rfl rfl ?_
     refine WPL.skipg (b' := false) rfl rfl rfl rfl rfl ?_
     refine WPL.skipg (b' := false) rfl rfl rfl rfl rfl ?_
     refine WPL.q (q_pickF (v := .lit (.bool _)) rfl rfl) rfl ?_
     refine WPL.q (q_mv (v := .lit (.bool _)) rfl) rfl ?_
     refine WPL.skipg (b' := false) rfl rfl rfl rfl rfl ?_
     refine WPL.skipg (b' := false) rfl rfl rfl rfl rfl ?_
     refine WPL.q (q_pickF (v := .lit (.bool _)) rfl rfl) rfl ?_
     refine WPL.q (q_mv (v := .lit (.bool _)) rfl) rfl ?_
     refine WPL.skipg (b' := false) rfl rfl rfl rfl rfl ?_
     refine WPL.skipg (b' := false) rfl rfl rfl rfl rfl ?_
     refine WPL.skipg (b' := false) rfl rfl rfl rfl rfl ?_
     refine WPL.q (q_pickF (v := .lit (.bool _)) rfl rfl) rfl ?_
     refine WPL.q (q_as (v := .lit (.bool _)) rfl) rfl ?_
     refine WPL.nilW ?_
     have q0 := (Option.some.inj H)
     subst q0
     exact W.wk [] hnp ⟨rfl, rfl, rfl⟩ ⟨rfl, trivial, by decide, rfl, trivial⟩ (LeE.upd rfl rfl (LeE.none rfl rfl)) rfl
   replace H := cnf hb9634 H
   refine WPL.skipg (b' := false) rfl rfl (lb hb9634) rfl rfl ?_
   refine WPL.skipg (b' := false) rfl rfl (lb hb9634) rfl rfl ?_
   refine WPL.q (q_pickF (v := .lit (.bool _)) (lb hb9634) rfl) rfl ?_
   refine WPL.q (q_mv (v := .lit (.bool _)) rfl) rfl ?_
   refine WPL.skipg (b' := false) rfl rfl rfl rfl rfl ?_
   refine WPL.skipg (b' := false) rfl rfl rfl rfl rfl ?_
   refine WPL.skipg (b' := false) rfl rfl rfl rfl rfl ?_
   refine WPL.q (q_pickF (v := .lit (.bool _)) rfl rfl) rfl ?_
   refine WPL.q (q_mv (v := .lit (.bool _)) rfl) rfl ?_
   refine WPL.skipg (b' := false) rfl rfl rfl rfl rfl ?_
   refine WPL.skipg (b' := false) rfl rfl rfl rfl rfl ?_
   refine WPL.q (q_pickF (v := .lit (.bool _)) rfl rfl) rfl ?_
   refine WPL.q (q_mv (v := .lit (.bool _)) rfl) rfl ?_
   refine WPL.skipg (b' := false) rfl rfl rfl rfl rfl ?_
   refine WPL.skipg (b' := false) rfl rfl rfl rfl rfl ?_
   refine WPL.skipg (b' := false) rfl rfl rfl rfl rfl ?_
   refine WPL.q (q_pickF (v := .lit (.bool _)) rfl rfl) rfl ?_
   refine WPL.q (q_mv (v := .lit (.bool _)) rfl) rfl ?_
   refine WPL.skipg (b' := false) rfl rfl rfl rfl rfl ?_
   refine WPL.skipg (b' := false) rfl rfl rfl rfl rfl ?_
   refine WPL.q (q_pickF (v := .lit (.bool _)) rfl rfl) rfl ?_
   refine WPL.q (q_mv (v := .lit (.bool _)) rfl) rfl ?_
   refine WPL.skipg (b' := false) rfl rfl rfl rfl rfl ?_
   refine WPL.skipg (b' := false) rfl rfl rfl rfl rfl ?_
   refine WPL.q (q_pickF (v := .lit (.bool _)) rfl rfl) rfl ?_
   refine WPL.q (q_mv (v := .lit (.bool _)) rfl) rfl ?_
   refine WPL.skipg (b' := false) rfl rfl rfl rfl rfl ?_
   refine WPL.skipg (b' := false) rfl rfl rfl rfl rfl ?_
   refine WPL.q (q_pickF (v := .lit (.bool _)) rfl rfl) rfl ?_
   refine WPL.q (q_mv (v := .lit (.bool _)) rfl) rfl ?_
   refine WPL.skipg (b' := false) rfl rfl rfl rfl rfl ?_
   refine WPL.skipg (b' := false) rfl rfl rfl rfl rfl ?_
   refine WPL.skipg (b' := false) rfl rfl rfl rfl rfl ?_
   refine WPL.q (q_pickF (v := .lit (.bool _)) rfl rfl) rfl ?_
   refine WPL.q (q_mv (v := .lit (.bool _)) rfl) rfl ?_
   refine WPL.skipg (b' := false) rfl rfl rfl rfl rfl ?_
   refine WPL.skipg (b' := false) rfl rfl rfl rfl rfl ?_
   refine WPL.q (q_pickF (v := .lit (.bool _)) rfl rfl) rfl ?_
   refine WPL.q (q_mv (v := .lit (.bool _)) rfl) rfl ?_
   refine WPL.skipg (b' := false) rfl rfl rfl rfl rfl ?_
   refine WPL.skipg (b' := false) rfl rfl rfl rfl rfl ?_
   refine WPL.skipg (b' := false) rfl rfl rfl rfl rfl ?_
   refine WPL.q (q_pickF (v := .lit (.bool _)) rfl rfl) rfl ?_
   refine WPL.q (q_as (v := .lit (.bool _)) rfl) rfl ?_
   refine WPL.nilW ?_
   have q0 := (Option.some.inj H)
   subst q0
   exact W.wk [] hnp ⟨rfl, rfl, rfl⟩ ⟨rfl, trivial, by decide, rfl, trivial⟩ (LeE.upd rfl rfl (LeE.none rfl rfl)) rfl
 rintro _ _ _ ⟨rfl, rfl, rfl⟩
 refine W.now ?_
 refine Then.n ?_
 refine WP.retW ?_
 have q0 := (Option.some.inj H)
 subst q0
 exact W.now (BodyR.mkR trivial rfl [] ⟨rfl, rfl⟩ ⟨rfl, trivial, by decide, rfl, trivial⟩ rfl rfl)
end Go.Proofs.Ytdbeblgfccjbgaa.W
namespace Go.Proofs.Ytdbeblgfccjbgaa.W
open Go Go.Q Go.Proofs
set_option linter.unusedVariables false
set_option linter.unusedSimpArgs false
set_option maxRecDepth 100000 in
set_option maxHeartbeats 4000000 in
theorem s_dec_lowest (k : Nat) (x9832 : Int) (x9833 : Int) (x9834 : Int) (x9835 : Int) (x9895 : Int) (x9896 : Int) (x9897 : Int) (H : g_dec_lowest k x9832 x9833 x9834 x9835 = some (x9895, x9896, x9897)) : Go.Q.Spec Try.prog 50 0 [.agg [.lit (.int .i64 x9832), .lit (.int .i64 x9833)], .agg [.lit (.int .i64 x9834), .lit (.int .i64 x9835)]] Mem.nil (fun o M => o = .ret (.tup [.agg [.lit (.int .i64 x9896), .lit (.int .i64 x9897)], .lit (.int .i64 x9895)]) ∧ M = (Mem.nil.push (.cells 23 [.lit (.int .i64 x9896), .lit (.int .i64 x9897)]))) := by
 unfold g_dec_lowest at H
 refine Go.Q.Spec.of_bodyR (az := [(23, 2)]) (rs := [.cell 4 23, .tmp 5]) (nt := 61) Try.func50 rfl rfl (by intro t T h; simp at h; rcases h with ⟨rfl, rfl⟩ <;> first | exact ag23) rfl rfl fun cx hnp => ?_
 refine WP.seq ?_
 refine WP.region ?_
 refine WPL.d (d_box rfl rfl) rfl ?_
 refine WPL.d (d_box rfl rfl) rfl ?_
 refine WPL.d (d_alloc ze23 rfl) rfl ?_
 refine WPL.q (q_as (v := .lit (.int _ _)) rfl) rfl ?_
 refine WPL.nilW ?_
 refine W.now ?_
 refine Then.n ?_
 refine WP.seq ?_
 refine WP.region ?_
 refine WPL.q (q_load_ag ag23 rfl rfl (Nat.le_of_ble_eq_true rfl)) rfl ?_
 refine WPL.q (q_load_ag ag23 rfl rfl (Nat.le_of_ble_eq_true rfl)) rfl ?_
 obtain ⟨⟨x9899, x9900, x9901, x9902, x9903, x9904, x9905⟩, h9897, H⟩ := bnd H
 refine WPL.c (runs_call (s := []) (t := [3, 4]) (N := 5) (bor := []) fn46 rfl (s_dec_even k x9832 x9833 x9834 x9835 x9899 x9900 x9901 x9902 x9903 x9904 x9905 h9897) ⟨rfl, trivial, by decide, rfl, trivial⟩ rfl trivial (.ren rfl rfl (.ren rfl rfl .nil)) rfl ⟨⟨trivial, rfl⟩, rfl⟩ rfl) rfl ?_
 refine WPL.q (q_mv (v := .tup _) rfl) rfl ?_
 refine WPL.q (q_extract rfl rfl) rfl ?_
 refine WPL.q (q_extract rfl rfl) rfl ?_
 refine WPL.q (q_extract rfl rfl) rfl ?_
 refine WPL.d (d_alloc ze47 rfl) rfl ?_
 refine WPL.d (d_alloc ze47 rfl) rfl ?_
 refine WPL.s (s_store sz47 rfl rfl rfl rfl rfl) ?_
 refine WPL.s (s_store sz47 rfl rfl rfl rfl rfl) ?_
 refine WPL.q (q_as (v := .lit (.bool _)) rfl) rfl ?_
 refine WPL.nilW ?_
 refine W.now ?_
 refine Then.n ?_
 refine WP.seq ?_
 refine WP.seq ?_
 refine WP.region ?_
 refine WPL.q (q_mv (v := .lit (.bool _)) rfl) rfl ?_
 refine WPL.q (q_not rfl) rfl ?_
 refine WPL.nilW ?_
 refine W.now ?_
 refine Then.n ?_
 refine WP.cond (t := (!x9899)) rfl (fun hb9906 => ?_) (fun hb9906 => ?_)
 · replace H := cnt hb9906 H
   refine WP.seq ?_
   refine WP.region ?_
   refine WPL.q (q_build bu23 rfl) rfl ?_
   refine WPL.s (s_store sz23 rfl rfl rfl rfl rfl) ?_
   refine WPL.q (q_as (v := .lit (.int _ _)) rfl) rfl ?_
   refine WPL.nilW ?_
   refine W.now ?_
   refine Then.n ?_
   refine WP.retW ?_
   have q0 := (Prod.mk.inj (Option.some.inj H)).1
   have q1 := (Prod.mk.inj (Prod.mk.inj (Option.some.inj H)).2).1
   have q2 := (Prod.mk.inj (Prod.mk.inj (Option.some.inj H)).2).2
   subst q0
   subst q1
   subst q2
   exact W.now (Then.r (BodyR.mkR trivial rfl [2] ⟨rfl, rfl⟩ ⟨rfl, ⟨trivial, .inr ⟨rfl, rfl, rfl⟩⟩, by decide, rfl, trivial⟩ rfl rfl))
 replace H := cnf hb9906 H
 refine WP.skipW ?_
 refine W.now ?_
 refine Then.n ?_
 refine WP.seq ?_
 refine WP.region ?_
 refine WPL.q (q_fieldAddr fi47_0 rfl rfl) rfl ?_
 refine WPL.s (s_store sz4 rfl rfl rfl rfl rfl) ?_
 refine WPL.nilW ?_
 refine W.now ?_
 refine Then.n ?_
 refine WP.seq ?_
 refine WP.seq ?_
 refine WP.region ?_
 refine WPL.q (q_fieldAddr fi47_0 rfl rfl) rfl ?_
 refine WPL.q (q_load sc4 rfl rfl rfl) rfl ?_
 refine WPL.nilW ?_
 refine W.now ?_
 refine Then.n ?_
 refine WP.cond (t := (decide (x9832 < 0))) rfl (fun hb9926 => ?_) (fun hb9926 => ?_)
 · replace H := cnt hb9926 H
   refine WP.seq ?_
   obtain ⟨⟨x9933, x9934, x9935⟩, H9940, H⟩ := bnd H
   refine WP.monoW (Q := fun x E M => x = .normal ∧ E = ((Env.none.upd 4 (.ptr 0 0)).upd 6 (.ptr 1 0)) ∧ M = ((Mem.nil.push (.cells 23 [.lit (.int .i64 0), .lit (.int .i64 0)])).push (.cells 47 [.lit (.bool x9933), .lit (.int .u64 x9934), .lit (.int .u64 x9935), .lit (.int .i64 x9902)]))) ?_ ?_
   · clear H
     have H := H9940
     clear H9940
     refine WP.seq ?_
     refine WP.region ?_
     refine WPL.q (q_fieldAddr fi47_1 rfl rfl) rfl ?_
     refine WPL.q (q_load_ag ag43 rfl rfl (Nat.le_of_ble_eq_true rfl)) rfl ?_
     refine WPL.q (q_fieldAddr fi47_1 rfl rfl) rfl ?_
     refine WPL.q (q_load_ag ag43 rfl rfl (Nat.le_of_ble_eq_true rfl)) rfl ?_
     obtain ⟨x9937, h9935, H⟩ := bnd H
     refine WPL.c (runs_call (s := []) (t := []) (N := 7) (bor := []) fn48 rfl (s_dec_wide_cmp k x9900 x9901 x9903 x9904 x9937 h9935) ⟨rfl, trivial, by decide, rfl, trivial⟩ rfl trivial (.ren rfl rfl (.ren rfl rfl .nil)) rfl trivial rfl) rfl ?_
     refine WPL.q (q_geq rfl rfl) rfl ?_
     refine WPL.nilW ?_
     refine W.now ?_
     refine Then.n ?_
     refine WP.cond (t := (decide (0 ≤ x9937))) rfl (fun hb9937 => ?_) (fun hb9937 => ?_)
     · replace H := cnt hb9937 H
       refine WP.region ?_
       refine WPL.q (q_fieldAddr fi47_1 rfl rfl) rfl ?_
       refine WPL.q (q_load_ag ag43 rfl rfl (Nat.le_of_ble_eq_true rfl)) rfl ?_
       refine WPL.q (q_fieldAddr fi47_1 rfl rfl) rfl ?_
       refine WPL.q (q_load_ag ag43 rfl rfl (Nat.le_of_ble_eq_true rfl)) rfl ?_
       obtain ⟨_, h9938, H⟩ := bnd H
       refine WPL.c (runs_call (s := []) (t := [7]) (N := 8) (bor := []) fn49 rfl (s_dec_wide_less k x9900 x9901 x9903 x9904 h9938) ⟨rfl, trivial, by decide, rfl, trivial⟩ rfl trivial (.ren rfl rfl (.ren rfl rfl .nil)) rfl ⟨trivial, rfl⟩ rfl) rfl ?_
       refine WPL.q (q_fieldAddr fi47_1 rfl rfl) rfl ?_
       refine WPL.s (s_store sz43 rfl rfl rfl rfl rfl) ?_
       refine WPL.nilW ?_
       have q0 := (Prod.mk.inj (Option.some.inj H)).1
       have q1 := (Prod.mk.inj (Prod.mk.inj (Option.some.inj H)).2).1
       have q2 := (Prod.mk.inj (Prod.mk.inj (Option.some.inj H)).2).2
       subst q0
       subst q1
       subst q2
       exact W.wk [2, 5] hnp ⟨rfl, rfl, rfl⟩ ⟨rfl, ⟨⟨trivial, .inr ⟨rfl, rfl, rfl⟩⟩, .inr ⟨rfl, rfl, rfl⟩⟩, by decide, rfl, trivial⟩ (LeE.upd rfl rfl (LeE.upd rfl rfl (LeE.none rfl rfl))) rfl
     replace H := cnf hb9937 H
     refine WP.region ?_
     refine WPL.q (q_fieldAddr fi47_1 rfl rfl) rfl ?_
     refine WPL.q (q_load_ag ag43 rfl rfl (Nat.le_of_ble_eq_true rfl)) rfl ?_
     refine WPL.q (q_fieldAddr fi47_1 rfl rfl) rfl ?_
     refine WPL.q (q_load_ag ag43 rfl rfl (Nat.le_of_ble_eq_true rfl)) rfl ?_
     obtain ⟨_, h9939, H⟩ := bnd H
     refine WPL.c (runs_call (s := []) (t := [7]) (N := 8) (bor := []) fn49 rfl (s_dec_wide_less k x9903 x9904 x9900 x9901 h9939) ⟨rfl, trivial, by decide, rfl, trivial⟩ rfl trivial (.ren rfl rfl (.ren rfl rfl .nil)) rfl ⟨trivial, rfl⟩ rfl) rfl ?_
     refine WPL.q (q_fieldAddr fi47_0 rfl rfl) rfl ?_
     refine WPL.s (s_store sz4 rfl rfl rfl rfl rfl) ?_
     refine WPL.q (q_fieldAddr fi47_1 rfl rfl) rfl ?_
     refine WPL.s (s_store sz43 rfl rfl rfl rfl rfl) ?_
     refine WPL.nilW ?_
     have q0 := (Prod.mk.inj (Option.some.inj H)).1
     have q1 := (Prod.mk.inj (Prod.mk.inj (Option.some.inj H)).2).1
     have q2 := (Prod.mk.inj (Prod.mk.inj (Option.some.inj H)).2).2
     subst q0
     subst q1
     subst q2
     exact W.wk [2, 5] hnp ⟨rfl, rfl, rfl⟩ ⟨rfl, ⟨⟨trivial, .inr ⟨rfl, rfl, rfl⟩⟩, .inr ⟨rfl, rfl, rfl⟩⟩, by decide, rfl, trivial⟩ (LeE.upd rfl rfl (LeE.upd rfl rfl (LeE.none rfl rfl))) rfl
   rintro _ _ _ ⟨rfl, rfl, rfl⟩
   refine W.now ?_
   refine Then.n ?_
   refine WP.seq ?_
   refine WP.region ?_
   refine WPL.q (q_load_ag ag47 rfl rfl (Nat.le_of_ble_eq_true rfl)) rfl ?_
   obtain ⟨⟨x9943, x9944, x9945⟩, h9941, H⟩ := bnd H
   refine WPL.c (runs_call (s := []) (t := [2]) (N := 3) (bor := []) fn31 rfl (s_dec_num_tell k x9933 x9934 x9935 x9902 x9943 x9944 x9945 h9941) ⟨rfl, trivial, by decide, rfl, trivial⟩ rfl trivial (.ren rfl rfl .nil) rfl ⟨trivial, rfl⟩ rfl) rfl ?_
   refine WPL.q (q_extract rfl rfl) rfl ?_
   refine WPL.q (q_extract rfl rfl) rfl ?_
   refine WPL.s (s_store sz23 rfl rfl rfl rfl rfl) ?_
   refine WPL.q (q_as (v := .lit (.int _ _)) rfl) rfl ?_
   refine WPL.nilW ?_
   refine W.now ?_
   refine Then.n ?_
   refine WP.retW ?_
   have q0 := (Prod.mk.inj (Option.some.inj H)).1
   have q1 := (Prod.mk.inj (Prod.mk.inj (Option.some.inj H)).2).1
   have q2 := (Prod.mk.inj (Prod.mk.inj (Option.some.inj H)).2).2
   subst q0
   subst q1
   subst q2
   exact W.now (Then.r (BodyR.mkR trivial rfl [0] ⟨rfl, rfl⟩ ⟨rfl, ⟨trivial, .inr ⟨rfl, rfl, rfl⟩⟩, by decide, rfl, trivial⟩ rfl rfl))
 replace H := cnf hb9926 H
 refine WP.skipW ?_
 refine W.now ?_
 refine Then.n ?_
 refine WP.seq ?_
 refine WP.seq ?_
 refine WP.region ?_
 refine WPL.q (q_fieldAddr fi47_1 rfl rfl) rfl ?_
 refine WPL.q (q_load_ag ag43 rfl rfl (Nat.le_of_ble_eq_true rfl)) rfl ?_
 refine WPL.q (q_fieldAddr fi47_1 rfl rfl) rfl ?_
 refine WPL.q (q_load_ag ag43 rfl rfl (Nat.le_of_ble_eq_true rfl)) rfl ?_
 obtain ⟨x9950, h9948, H⟩ := bnd H
 refine WPL.c (runs_call (s := []) (t := [7]) (N := 8) (bor := []) fn47 rfl (s_dec_wide_plus k x9900 x9901 x9903 x9904 x9950 h9948) ⟨rfl, trivial, by decide, rfl, trivial⟩ rfl trivial (.ren rfl rfl (.ren rfl rfl .nil)) rfl ⟨trivial, rfl⟩ rfl) rfl ?_
 refine WPL.q (q_mv (v := .tup _) rfl) rfl ?_
 refine WPL.q (q_extract rfl rfl) rfl ?_
 refine WPL.q (q_extract rfl rfl) rfl ?_
 refine WPL.q (q_fieldAddr fi47_1 rfl rfl) rfl ?_
 refine WPL.s (s_store sz43 rfl rfl rfl rfl rfl) ?_
 refine WPL.q (q_as (v := .lit (.bool _)) rfl) rfl ?_
 refine WPL.nilW ?_
 refine W.now ?_
 refine Then.n ?_
 refine WP.seq ?_
 refine WP.region ?_
 refine WPL.q (q_mv (v := .lit (.bool _)) rfl) rfl ?_
 refine WPL.q (q_not rfl) rfl ?_
 refine WPL.nilW ?_
 refine W.now ?_
 refine Then.n ?_
 refine WP.cond (t := (!x9950)) rfl (fun hb9950 => ?_) (fun hb9950 => ?_)
 · replace H := cnt hb9950 H
   refine WP.seq ?_
   refine WP.region ?_
   refine WPL.q (q_build bu23 rfl) rfl ?_
   refine WPL.s (s_store sz23 rfl rfl rfl rfl rfl) ?_
   refine WPL.q (q_as (v := .lit (.int _ _)) rfl) rfl ?_
   refine WPL.nilW ?_
   refine W.now ?_
   refine Then.n ?_
   refine WP.retW ?_
   have q0 := (Prod.mk.inj (Option.some.inj H)).1
   have q1 := (Prod.mk.inj (Prod.mk.inj (Option.some.inj H)).2).1
   have q2 := (Prod.mk.inj (Prod.mk.inj (Option.some.inj H)).2).2
   subst q0
   subst q1
   subst q2
   exact W.now (Then.r (BodyR.mkR trivial rfl [2] ⟨rfl, rfl⟩ ⟨rfl, ⟨trivial, .inr ⟨rfl, rfl, rfl⟩⟩, by decide, rfl, trivial⟩ rfl rfl))
 replace H := cnf hb9950 H
 refine WP.skipW ?_
 refine W.now ?_
 refine Then.n ?_
 refine WP.seq ?_
 refine WP.region ?_
 refine WPL.q (q_load_ag ag47 rfl rfl (Nat.le_of_ble_eq_true rfl)) rfl ?_
 obtain ⟨⟨x9953, x9954, x9955⟩, h9951, H⟩ := bnd H
 refine WPL.c (runs_call (s := []) (t := [8]) (N := 9) (bor := []) fn31 rfl (s_dec_num_tell k (decide (x9832 < 0)) ((add64 x9900 x9903 ((add64 x9901 x9904 0).2)).1) ((add64 x9901 x9904 0).1) x9902 x9953 x9954 x9955 h9951) ⟨rfl, trivial, by decide, rfl, trivial⟩ rfl trivial (.ren rfl rfl .nil) rfl ⟨trivial, rfl⟩ rfl) rfl ?_
 refine WPL.q (q_extract rfl rfl) rfl ?_
 refine WPL.q (q_extract rfl rfl) rfl ?_
 refine WPL.s (s_store sz23 rfl rfl rfl rfl rfl) ?_
 refine WPL.q (q_as (v := .lit (.int _ _)) rfl) rfl ?_
 refine WPL.nilW ?_
 refine W.now ?_
 refine Then.n ?_
 refine WP.retW ?_
 have q0 := (Prod.mk.inj (Option.some.inj H)).1
 have q1 := (Prod.mk.inj (Prod.mk.inj (Option.some.inj H)).2).1
 have q2 := (Prod.mk.inj (Prod.mk.inj (Option.some.inj H)).2).2
 subst q0
 subst q1
 subst q2
 exact W.now (BodyR.mkR trivial rfl [2] ⟨rfl, rfl⟩ ⟨rfl, ⟨trivial, .inr ⟨rfl, rfl, rfl⟩⟩, by decide, rfl, trivial⟩ rfl rfl)
set_option maxRecDepth 100000 in
set_option maxHeartbeats 4000000 in
theorem s_dec_Sub (k : Nat) (x9811 : Int) (x9812 : Int) (x9813 : Int) (x9814 : Int) (x9970 : Int) (x9971 : Int) (x9972 : Int) (H : g_dec_Sub k x9811 x9812 x9813 x9814 = some (x9970, x9971, x9972)) : Go.Q.Spec Try.prog 16 0 [.agg [.lit (.int .i64 x9811), .lit (.int .i64 x9812)], .agg [.lit (.int .i64 x9813), .lit (.int .i64 x9814)]] Mem.nil (fun o M => o = .ret (.tup [.agg [.lit (.int .i64 x9971), .lit (.int .i64 x9972)], .lit (.int .i64 x9970)]) ∧ M = (Mem.nil.push (.cells 23 [.lit (.int .i64 x9971), .lit (.int .i64 x9972)]))) := by
 unfold g_dec_Sub at H
 refine Go.Q.Spec.of_bodyR (az := [(23, 2)]) (rs := [.cell 4 23, .tmp 5]) (nt := 27) Try.func16 rfl rfl (by intro t T h; simp at h; rcases h with ⟨rfl, rfl⟩ <;> first | exact ag23) rfl rfl fun cx hnp => ?_
 refine WP.seq ?_
 refine WP.region ?_
 refine WPL.d (d_box rfl rfl) rfl ?_
 refine WPL.d (d_box rfl rfl) rfl ?_
 refine WPL.d (d_alloc ze23 rfl) rfl ?_
 refine WPL.q (q_as (v := .lit (.int _ _)) rfl) rfl ?_
 refine WPL.nilW ?_
 refine W.now ?_
 refine Then.n ?_
 refine WP.seq ?_
 refine WP.seq ?_
 refine WP.region ?_
 refine WPL.d (d_buildCells li81 rfl rfl rfl rfl rfl) rfl ?_
 obtain ⟨⟨x9981, x9982, x9983, x9984, x9985⟩, h9979, H⟩ := bnd H
 refine WPL.c (runs_call (s := [3, 0, 1]) (t := [3, 0, 1]) (N := 4) (bor := []) fn27 rfl (s_dec_clean k x9811 x9812 x9813 x9814 x9981 x9982 x9983 x9984 x9985 h9979) ⟨rfl, ⟨⟨⟨trivial, .inr ⟨rfl, rfl, rfl⟩⟩, .inr ⟨rfl, rfl, rfl⟩⟩, .inr ⟨rfl, rfl, rfl⟩⟩, by decide, rfl, trivial⟩ rfl trivial (.ren rfl rfl .nil) rfl ⟨⟨⟨trivial, rfl⟩, rfl⟩, rfl⟩ rfl) rfl ?_
 refine WPL.q (q_not rfl) rfl ?_
 refine WPL.nilW ?_
 refine W.now ?_
 refine Then.n ?_
 refine WP.cond (t := (!x9981)) rfl (fun hb9985 => ?_) (fun hb9985 => ?_)
 · replace H := cnt hb9985 H
   refine WP.seq ?_
   refine WP.region ?_
   refine WPL.q (q_build bu23 rfl) rfl ?_
   refine WPL.s (s_store sz23 rfl rfl rfl rfl rfl) ?_
   refine WPL.q (q_as (v := .lit (.int _ _)) rfl) rfl ?_
   refine WPL.nilW ?_
   refine W.now ?_
   refine Then.n ?_
   refine WP.retW ?_
   have q0 := (Prod.mk.inj (Option.some.inj H)).1
   have q1 := (Prod.mk.inj (Prod.mk.inj (Option.some.inj H)).2).1
   have q2 := (Prod.mk.inj (Prod.mk.inj (Option.some.inj H)).2).2
   subst q0
   subst q1
   subst q2
   exact W.now (Then.r (BodyR.mkR trivial rfl [2] ⟨rfl, rfl⟩ ⟨rfl, ⟨trivial, .inr ⟨rfl, rfl, rfl⟩⟩, by decide, rfl, trivial⟩ rfl rfl))
 replace H := cnf hb9985 H
 refine WP.skipW ?_
 refine W.now ?_
 refine Then.n ?_
 refine WP.seq ?_
 refine WP.seq ?_
 refine WP.region ?_
 refine WPL.q (q_fieldAddr fi23_0 rfl rfl) rfl ?_
 refine WPL.q (q_load sc2 rfl rfl rfl) rfl ?_
 obtain ⟨x9993, h9993, H⟩ := bnd H
 refine WPL.q (q_nm (q_eql rfl rfl) (nm_bool h9993)) rfl ?_
 refine WPL.nilW ?_
 refine W.now ?_
 refine Then.n ?_
 refine WP.cond (t := x9993) rfl (fun hb9993 => ?_) (fun hb9993 => ?_)
 · replace H := cnt hb9993 H
   refine WP.seq ?_
   refine WP.region ?_
   refine WPL.q (q_load_ag ag23 rfl rfl (Nat.le_of_ble_eq_true rfl)) rfl ?_
   refine WPL.q (q_load_ag ag23 rfl rfl (Nat.le_of_ble_eq_true rfl)) rfl ?_
   obtain ⟨⟨x9996, x9997, x9998⟩, h9994, H⟩ := bnd H
   refine WPL.c (runs_call (s := []) (t := [4]) (N := 5) (bor := []) fn50 rfl (s_dec_lowest k x9982 x9983 x9984 x9985 x9996 x9997 x9998 h9994) ⟨rfl, trivial, by decide, rfl, trivial⟩ rfl trivial (.ren rfl rfl (.ren rfl rfl .nil)) rfl ⟨trivial, rfl⟩ rfl) rfl ?_
   refine WPL.q (q_extract rfl rfl) rfl ?_
   refine WPL.q (q_extract rfl rfl) rfl ?_
   refine WPL.s (s_store sz23 rfl rfl rfl rfl rfl) ?_
   refine WPL.q (q_as (v := .lit (.int _ _)) rfl) rfl ?_
   refine WPL.nilW ?_
   refine W.now ?_
   refine Then.n ?_
   refine WP.retW ?_
   have q0 := (Prod.mk.inj (Option.some.inj H)).1
   have q1 := (Prod.mk.inj (Prod.mk.inj (Option.some.inj H)).2).1
   have q2 := (Prod.mk.inj (Prod.mk.inj (Option.some.inj H)).2).2
   subst q0
   subst q1
   subst q2
   exact W.now (Then.r (BodyR.mkR trivial rfl [2] ⟨rfl, rfl⟩ ⟨rfl, ⟨trivial, .inr ⟨rfl, rfl, rfl⟩⟩, by decide, rfl, trivial⟩ rfl rfl))
 replace H := cnf hb9993 H
 refine WP.skipW ?_
 refine W.now ?_
 refine Then.n ?_
 refine WP.seq ?_
 refine WP.region ?_
 refine WPL.q (q_fieldAddr fi23_0 rfl rfl) rfl ?_
 refine WPL.q (q_load sc2 rfl rfl rfl) rfl ?_
 refine WPL.q (q_neg rfl) rfl ?_
 refine WPL.q (q_fieldAddr fi23_0 rfl rfl) rfl ?_
 refine WPL.s (s_store sz2 rfl rfl rfl rfl rfl) ?_
 refine WPL.nilW ?_
 refine W.now ?_
 refine Then.n ?_
 refine WP.seq ?_
 refine WP.region ?_
 refine WPL.q (q_load_ag ag23 rfl rfl (Nat.le_of_ble_eq_true rfl)) rfl ?_
 refine WPL.q (q_load_ag ag23 rfl rfl (Nat.le_of_ble_eq_true rfl)) rfl ?_
 obtain ⟨⟨x10000, x10001, x10002⟩, h9998, H⟩ := bnd H
 refine WPL.c (runs_call (s := []) (t := [4]) (N := 5) (bor := []) fn14 rfl (s_dec_Add k x9982 x9983 (IntKind.wrap .i64 (0 - x9984)) x9985 x10000 x10001 x10002 h9998) ⟨rfl, trivial, by decide, rfl, trivial⟩ rfl trivial (.ren rfl rfl (.ren rfl rfl .nil)) rfl ⟨trivial, rfl⟩ rfl) rfl ?_
 refine WPL.q (q_extract rfl rfl) rfl ?_
 refine WPL.q (q_extract rfl rfl) rfl ?_
 refine WPL.s (s_store sz23 rfl rfl rfl rfl rfl) ?_
 refine WPL.q (q_as (v := .lit (.int _ _)) rfl) rfl ?_
 refine WPL.nilW ?_
 refine W.now ?_
 refine Then.n ?_
 refine WP.retW ?_
 have q0 := (Prod.mk.inj (Option.some.inj H)).1
 have q1 := (Prod.mk.inj (Prod.mk.inj (Option.some.inj H)).2).1
 have q2 := (Prod.mk.inj (Prod.mk.inj (Option.some.inj H)).2).2
 subst q0
 subst q1
 subst q2
 exact W.now (BodyR.mkR trivial rfl [2] ⟨rfl, rfl⟩ ⟨rfl, ⟨trivial, .inr ⟨rfl, rfl, rfl⟩⟩, by decide, rfl, trivial⟩ rfl rfl)
end Go.Proofs.Ytdbeblgfccjbgaa.W
namespace Go.Proofs.Ytdbeblgfccjbgaa.W
open Go Go.Q Go.Proofs
set_option linter.unusedVariables false
set_option linter.unusedSimpArgs false
set_option maxRecDepth 100000 in
set_option maxHeartbeats 4000000 in
theorem s_dec_sign (k : Nat) (x10406 : Int) (x10407 : Int) (x10413 : Int) (H : g_dec_sign k x10406 x10407 = some x10413) : Go.Q.Spec Try.prog 54 0 [.agg [.lit (.int .i64 x10406), .lit (.int .i64 x10407)]] Mem.nil (fun o M => o = .ret (.lit (.int .i64 x10413)) ∧ M = Mem.nil) := by
 unfold g_dec_sign at H
 refine Go.Q.Spec.of_bodyR (az := []) (rs := [.tmp 2]) (nt := 11) Try.func54 rfl rfl (by intro t T h; simp at h) rfl rfl fun cx hnp => ?_
 refine WP.seq ?_
 refine WP.region ?_
 refine WPL.d (d_box rfl rfl) rfl ?_
 refine WPL.q (q_as (v := .lit (.int _ _)) rfl) rfl ?_
 refine WPL.nilW ?_
 refine W.now ?_
 refine Then.n ?_
 refine WP.seq ?_
 refine WP.block ?_
 refine WP.seq ?_
 refine WP.region ?_
 refine WPL.q (q_fieldAddr fi23_0 rfl rfl) rfl ?_
 refine WPL.q (q_load sc2 rfl rfl rfl) rfl ?_
 refine WPL.q (q_lss rfl rfl) rfl ?_
 refine WPL.q (q_as (v := .lit (.bool _)) rfl) rfl ?_
 refine WPL.nilW ?_
 refine W.now ?_
 refine Then.n ?_
 refine WP.cond (t := (decide (x10406 < 0))) rfl (fun hb10415 => ?_) (fun hb10415 => ?_)
 · replace H := cnt hb10415 H
   refine WP.seq ?_
   refine WP.region ?_
   refine WPL.q (q_as (v := .lit (.int _ _)) rfl) rfl ?_
   refine WPL.nilW ?_
   refine W.now ?_
   refine Then.n ?_
   refine WP.retW ?_
   have q0 := (Option.some.inj H)
   subst q0
   exact W.now (InBlock.r (Then.r (BodyR.mkR trivial rfl [] ⟨rfl, rfl⟩ ⟨rfl, trivial, by decide, rfl, trivial⟩ rfl rfl)))
 replace H := cnf hb10415 H
 refine WP.seq ?_
 refine WP.region ?_
 refine WPL.q (q_fieldAddr fi23_0 rfl rfl) rfl ?_
 refine WPL.q (q_load sc2 rfl rfl rfl) rfl ?_
 refine WPL.q (q_gtr rfl rfl) rfl ?_
 refine WPL.q (q_as (v := .lit (.bool _)) rfl) rfl ?_
 refine WPL.nilW ?_
 refine W.now ?_
 refine Then.n ?_
 refine WP.cond (t := (decide (0 < x10406))) rfl (fun hb10416 => ?_) (fun hb10416 => ?_)
 · replace H := cnt hb10416 H
   refine WP.seq ?_
   refine WP.region ?_
   refine WPL.q (q_as (v := .lit (.int _ _)) rfl) rfl ?_
   refine WPL.nilW ?_
   refine W.now ?_
   refine Then.n ?_
   refine WP.retW ?_
   have q0 := (Option.some.inj H)
   subst q0
   exact W.now (InBlock.r (Then.r (BodyR.mkR trivial rfl [] ⟨rfl, rfl⟩ ⟨rfl, trivial, by decide, rfl, trivial⟩ rfl rfl)))
 replace H := cnf hb10416 H
 refine WP.skipW ?_
 refine W.now ?_
 refine InBlock.n ?_
 refine Then.n ?_
 refine WP.seq ?_
 refine WP.region ?_
 refine WPL.q (q_as (v := .lit (.int _ _)) rfl) rfl ?_
 refine WPL.nilW ?_
 refine W.now ?_
 refine Then.n ?_
 refine WP.retW ?_
 have q0 := (Option.some.inj H)
 subst q0
 exact W.now (BodyR.mkR trivial rfl [] ⟨rfl, rfl⟩ ⟨rfl, trivial, by decide, rfl, trivial⟩ rfl rfl)
set_option maxRecDepth 100000 in
set_option maxHeartbeats 4000000 in
theorem s_dec_digits (k : Nat) (x10442 : Int) (x10452 : Int) (H : g_dec_digits k x10442 = some x10452) : Go.Q.Spec Try.prog 55 0 [.lit (.int .u64 x10442)] Mem.nil (fun o M => o = .ret (.lit (.int .i64 x10452)) ∧ M = Mem.nil) := by
 unfold g_dec_digits at H
 refine Go.Q.Spec.of_bodyR (az := []) (rs := [.tmp 2]) (nt := 11) Try.func55 rfl rfl (by intro t T h; simp at h) rfl rfl fun cx hnp => ?_
 refine WP.seq ?_
 refine WP.region ?_
 refine WPL.q (q_as (v := .lit (.int _ _)) rfl) rfl ?_
 refine WPL.nilW ?_
 refine W.now ?_
 refine Then.n ?_
 refine WP.seq ?_
 refine WP.region ?_
 refine WPL.q (q_as (v := .lit (.int _ _)) rfl) rfl ?_
 refine WPL.nilW ?_
 refine W.now ?_
 refine Then.n ?_
 refine WP.seq ?_
 refine WP.block ?_
 refine WP.cv (Cv.weak (E' := ((Env.none.upd 0 (.lit (.int .u64 x10442))).upd 3 (.lit (.int .i64 0)))) (M' := Mem.nil) [] hnp ⟨rfl, trivial, by decide, rfl, trivial⟩ (LeE.upd rfl rfl (LeE.upd rfl rfl (LeE.none rfl rfl)))) ?_
 obtain ⟨x10459, H10461, H⟩ := bnd H
 refine WP.monoW (Q := fun x E M => x = .exit 0 ∧ E = (Env.none.upd 3 (.lit (.int .i64 x10459))) ∧ M = Mem.nil) ?_ ?_
 · refine WP.loop (β := Int × Int) (fun n b => g_dec_digits_l0 k n b.1 b.2 = some x10459) (fun b => ((Env.none.upd 0 (.lit (.int .u64 b.1))).upd 3 (.lit (.int .i64 b.2)))) (fun b => Mem.nil) k (x10442, 0) H10461 rfl rfl ?_
   rintro n ⟨x10455, x10456⟩ H
   obtain _ | n := n
   · exact nf rfl H
   rw [g_dec_digits_l0.eq_2] at H
   show WP _ _ _ _ ((Env.none.upd 0 (.lit (.int .u64 x10455))).upd 3 (.lit (.int .i64 x10456))) Mem.nil _
   refine WP.seq ?_
   refine WP.seq ?_
   refine WP.region ?_
   refine WPL.q (q_mv (v := .lit (.int _ _)) rfl) rfl ?_
   refine WPL.q (q_gtr rfl rfl) rfl ?_
   refine WPL.nilW ?_
   refine W.now ?_
   refine Then.n ?_
   refine WP.cond (t := (decide (0 < x10455))) rfl (fun hb10460 => ?_) (fun hb10460 => ?_)
   · replace H := cnt hb10460 H
     refine WP.skipW ?_
     refine W.now ?_
     refine Then.n ?_
     refine WP.seq ?_
     refine WP.block ?_
     refine WP.region ?_
     refine WPL.q (q_mv (v := .lit (.int _ _)) rfl) rfl ?_
     refine WPL.q (q_add rfl rfl) rfl ?_
     refine WPL.q (q_as (v := .lit (.int _ _)) rfl) rfl ?_
     refine WPL.nilW ?_
     refine W.now ?_
     refine InBlock.n ?_
     refine Then.n ?_
     refine WP.region ?_
     refine WPL.q (q_mv (v := .lit (.int _ _)) rfl) rfl ?_
     refine WPL.q (q_quo rfl rfl rfl) rfl ?_
     refine WPL.q (q_as (v := .lit (.int _ _)) rfl) rfl ?_
     refine WPL.nilW ?_
     exact W.wk [] hnp (Then.n ⟨n, ((IntKind.wrap .u64 (Int.tdiv x10455 10)), (IntKind.wrap .i64 (x10456 + 1))), Nat.lt_succ_self n, H, rfl, rfl⟩) ⟨rfl, trivial, by decide, rfl, trivial⟩ (LeE.upd rfl rfl (LeE.upd rfl rfl (LeE.none rfl rfl))) rfl
   replace H := cnf hb10460 H
   refine WP.exitW ?_
   have q0 := (Option.some.inj H)
   subst q0
   exact W.wk [] hnp (Then.x (Then.x ⟨rfl, rfl, rfl⟩)) ⟨rfl, trivial, by decide, rfl, trivial⟩ (LeE.upd rfl rfl (LeE.none rfl rfl)) rfl
 rintro _ _ _ ⟨rfl, rfl, rfl⟩
 refine W.now ?_
 refine InBlock.x0 ?_
 refine Then.n ?_
 refine WP.seq ?_
 refine WP.region ?_
 refine WPL.q (q_mv (v := .lit (.int _ _)) rfl) rfl ?_
 refine WPL.q (q_as (v := .lit (.int _ _)) rfl) rfl ?_
 refine WPL.nilW ?_
 refine W.now ?_
 refine Then.n ?_
 refine WP.retW ?_
 have q0 := (Option.some.inj H)
 subst q0
 exact W.now (BodyR.mkR trivial rfl [] ⟨rfl, rfl⟩ ⟨rfl, trivial, by decide, rfl, trivial⟩ rfl rfl)
set_option maxRecDepth 100000 in
set_option maxHeartbeats 4000000 in
theorem s_dec_Cmp (k : Nat) (x10387 : Int) (x10388 : Int) (x10389 : Int) (x10390 : Int) (x10497 : Int) (H : g_dec_Cmp k x10387 x10388 x10389 x10390 = some x10497) : Go.Q.Spec Try.prog 22 0 [.agg [.lit (.int .i64 x10387), .lit (.int .i64 x10388)], .agg [.lit (.int .i64 x10389), .lit (.int .i64 x10390)]] Mem.nil (fun o M => o = .ret (.lit (.int .i64 x10497)) ∧ M = Mem.nil) := by
 unfold g_dec_Cmp at H
 refine Go.Q.Spec.of_bodyR (az := []) (rs := [.tmp 4]) (nt := 69) Try.func22 rfl rfl (by intro t T h; simp at h) rfl rfl fun cx hnp => ?_
 refine WP.seq ?_
 refine WP.region ?_
 refine WPL.d (d_box rfl rfl) rfl ?_
 refine WPL.d (d_box rfl rfl) rfl ?_
 refine WPL.q (q_as (v := .lit (.int _ _)) rfl) rfl ?_
 refine WPL.nilW ?_
 refine W.now ?_
 refine Then.n ?_
 refine WP.seq ?_
 refine WP.seq ?_
 refine WP.region ?_
 refine WPL.d (d_buildCells li81 rfl rfl rfl rfl rfl) rfl ?_
 obtain ⟨⟨x10506, x10507, x10508, x10509, x10510⟩, h10504, H⟩ := bnd H
 refine WPL.c (runs_call (s := [2, 0, 1]) (t := [2, 0, 1]) (N := 3) (bor := []) fn27 rfl (s_dec_clean k x10387 x10388 x10389 x10390 x10506 x10507 x10508 x10509 x10510 h10504) ⟨rfl, ⟨⟨⟨trivial, .inr ⟨rfl, rfl, rfl⟩⟩, .inr ⟨rfl, rfl, rfl⟩⟩, .inr ⟨rfl, rfl, rfl⟩⟩, by decide, rfl, trivial⟩ rfl trivial (.ren rfl rfl .nil) rfl ⟨⟨⟨trivial, rfl⟩, rfl⟩, rfl⟩ rfl) rfl ?_
 refine WPL.q (q_not rfl) rfl ?_
 refine WPL.nilW ?_
 refine W.now ?_
 refine Then.n ?_
 refine WP.cond (t := (!x10506)) rfl (fun hb10510 => ?_) (fun hb10510 => ?_)
 · replace H := cnt hb10510 H
   refine WP.seq ?_
   refine WP.region ?_
   refine WPL.q (q_as (v := .lit (.int _ _)) rfl) rfl ?_
   refine WPL.nilW ?_
   refine W.now ?_
   refine Then.n ?_
   refine WP.retW ?_
   have q0 := (Option.some.inj H)
   subst q0
   exact W.now (Then.r (BodyR.mkR trivial rfl [] ⟨rfl, rfl⟩ ⟨rfl, trivial, by decide, rfl, trivial⟩ rfl rfl))
 replace H := cnf hb10510 H
 refine WP.skipW ?_
 refine W.now ?_
 refine Then.n ?_
 refine WP.seq ?_
 refine WP.regionD' 6 [0, 1] [] mixed rfl ?_
 refine WPD.take 0 rfl (by kernel_rfl) (q_load_ag ag23 rfl rfl (Nat.le_of_ble_eq_true rfl)) rfl rfl ?_
 refine WPD.take 2 rfl (by kernel_rfl) (q_load_ag ag23 rfl rfl (Nat.le_of_ble_eq_true rfl)) rfl rfl ?_
 obtain ⟨x10517, h10515, H⟩ := bnd H
 refine WPD.eff 1 [0, 1] [] rfl (by kernel_rfl) (runs_call (s := []) (t := []) (N := 3) (bor := []) fn54 rfl (s_dec_sign k x10507 x10508 x10517 h10515) ⟨rfl, trivial, by decide, rfl, trivial⟩ rfl trivial (.ren rfl rfl .nil) rfl trivial rfl) rfl rfl ?_
 obtain ⟨x10519, h10517, H⟩ := bnd H
 refine WPD.eff 3 [0, 1] [] rfl (by kernel_rfl) (runs_call (s := []) (t := []) (N := 3) (bor := []) fn54 rfl (s_dec_sign k x10509 x10510 x10519 h10517) ⟨rfl, trivial, by decide, rfl, trivial⟩ rfl trivial (.ren rfl rfl .nil) rfl trivial rfl) rfl rfl ?_
 refine WPD.takeT 4 rfl (by kernel_rfl) (q_as (v := .lit (.int _ _)) rfl) rfl ?_
 refine WPD.takeT 5 rfl (by kernel_rfl) (q_as (v := .lit (.int _ _)) rfl) rfl ?_
 refine WPD.doneW (by kernel_rfl) ?_
 refine W.now ?_
 refine Then.n ?_
 refine WP.seq ?_
 refine WP.seq ?_
 obtain ⟨x10528, H10529, H⟩ := bnd H
 refine WP.monoW (Q := fun x E M => x = .normal ∧ E = (((((Env.none.upd 2 (.ptr 0 0)).upd 3 (.ptr 1 0)).upd 5 (.lit (.int .i64 x10517))).upd 6 (.lit (.int .i64 x10519))).upd 25 (.lit (.bool x10528))) ∧ M = ((Mem.nil.push (.cells 23 [.lit (.int .i64 x10507), .lit (.int .i64 x10508)])).push (.cells 23 [.lit (.int .i64 x10509), .lit (.int .i64 x10510)]))) ?_ ?_
 · clear H
   have H := H10529
   clear H10529
   refine WP.region ?_
   refine WPL.q (q_mv (v := .lit (.int _ _)) rfl) rfl ?_
   refine WPL.q (q_mv (v := .lit (.int _ _)) rfl) rfl ?_
   refine WPL.q (q_neq rfl rfl) rfl ?_
   refine WPL.q (q_mv (v := .lit (.bool _)) rfl) rfl ?_
   refine WPL.split (t := 22) (b := (!decide (x10517 = x10519))) rfl (fun hb10528 => ?_) (fun hb10528 => ?_)
   · replace H := cnt hb10528 H
     refine WPL.skipg (b' := true) rfl rfl (lb hb10528) rfl rfl ?_
     refine WPL.skipg (b' := true) rfl rfl (lb hb10528) rfl rfl ?_
     refine WPL.q (q_pickT (v := .lit (.bool _)) (lb hb10528) rfl) rfl ?_
     refine WPL.nilW ?_
     have q0 := (Option.some.inj H)
     subst q0
     exact W.wk [0, 1] hnp ⟨rfl, rfl, rfl⟩ ⟨rfl, ⟨⟨trivial, .inr ⟨rfl, rfl, rfl⟩⟩, .inr ⟨rfl, rfl, rfl⟩⟩, by decide, rfl, trivial⟩ (LeE.upd rfl rfl (LeE.upd rfl rfl (LeE.upd rfl rfl (LeE.upd rfl rfl (LeE.upd rfl rfl (LeE.none rfl rfl)))))) rfl
   replace H := cnf hb10528 H
   refine WPL.qg rfl rfl (lb hb10528) (q_mv (v := .lit (.int _ _)) rfl) rfl ?_
   refine WPL.qg rfl rfl (lb hb10528) (q_eql rfl rfl) rfl ?_
   refine WPL.q (q_pickF (v := .lit (.bool _)) (lb hb10528) rfl) rfl ?_
   refine WPL.nilW ?_
   have q0 := (Option.some.inj H)
   subst q0
   exact W.wk [0, 1] hnp ⟨rfl, rfl, rfl⟩ ⟨rfl, ⟨⟨trivial, .inr ⟨rfl, rfl, rfl⟩⟩, .inr ⟨rfl, rfl, rfl⟩⟩, by decide, rfl, trivial⟩ (LeE.upd rfl rfl (LeE.upd rfl rfl (LeE.upd rfl rfl (LeE.upd rfl rfl (LeE.upd rfl rfl (LeE.none rfl rfl)))))) rfl
 rintro _ _ _ ⟨rfl, rfl, rfl⟩
 refine W.now ?_
 refine Then.n ?_
 refine WP.cond (t := x10528) rfl (fun hb10530 => ?_) (fun hb10530 => ?_)
 · replace H := cnt hb10530 H
   refine WP.seq ?_
   refine WP.region ?_
   refine WPL.q (q_mv (v := .lit (.int _ _)) rfl) rfl ?_
   refine WPL.q (q_mv (v := .lit (.int _ _)) rfl) rfl ?_
   refine WPL.q (q_sub rfl rfl) rfl ?_
   obtain ⟨x10532, h10532, H⟩ := bnd H
   refine WPL.q (q_nm (q_max rfl rfl) (nm_int h10532)) rfl ?_
   obtain ⟨x10533, h10533, H⟩ := bnd H
   refine WPL.q (q_nm (q_min rfl rfl) (nm_int h10533)) rfl ?_
   refine WPL.q (q_as (v := .lit (.int _ _)) rfl) rfl ?_
   refine WPL.nilW ?_
   refine W.now ?_
   refine Then.n ?_
   refine WP.retW ?_
   have q0 := (Option.some.inj H)
   subst q0
   exact W.now (Then.r (BodyR.mkR trivial rfl [] ⟨rfl, rfl⟩ ⟨rfl, trivial, by decide, rfl, trivial⟩ rfl rfl))
 replace H := cnf hb10530 H
 refine WP.skipW ?_
 refine W.now ?_
 refine Then.n ?_
 refine WP.seq ?_
 refine WP.regionD' 16 [0, 1] [] mixed rfl ?_
 refine WPD.takeT 0 rfl (by kernel_rfl) (q_fieldAddr fi23_0 rfl rfl) rfl ?_
 refine WPD.takeT 4 rfl (by kernel_rfl) (q_fieldAddr fi23_1 rfl rfl) rfl ?_
 refine WPD.takeT 7 rfl (by kernel_rfl) (q_fieldAddr fi23_0 rfl rfl) rfl ?_
 refine WPD.takeT 11 rfl (by kernel_rfl) (q_fieldAddr fi23_1 rfl rfl) rfl ?_
 refine WPD.take 1 rfl (by kernel_rfl) (q_load sc2 rfl rfl rfl) rfl rfl ?_
 refine WPD.take 5 rfl (by kernel_rfl) (q_load sc3 rfl rfl rfl) rfl rfl ?_
 refine WPD.take 8 rfl (by kernel_rfl) (q_load sc2 rfl rfl rfl) rfl rfl ?_
 refine WPD.take 12 rfl (by kernel_rfl) (q_load sc3 rfl rfl rfl) rfl rfl ?_
 obtain ⟨x10543, h10541, H⟩ := bnd H
 refine WPD.eff 2 [0, 1] [] rfl (by kernel_rfl) (runs_call (s := []) (t := []) (N := 2) (bor := []) fn28 rfl (s_dec_size k x10507 x10543 h10541) ⟨rfl, trivial, by decide, rfl, trivial⟩ rfl trivial (.ren rfl rfl .nil) rfl trivial rfl) rfl rfl ?_
 obtain ⟨x10545, h10543, H⟩ := bnd H
 refine WPD.eff 3 [0, 1] [] rfl (by kernel_rfl) (runs_call (s := []) (t := []) (N := 2) (bor := []) fn55 rfl (s_dec_digits k x10543 x10545 h10543) ⟨rfl, trivial, by decide, rfl, trivial⟩ rfl trivial (.ren rfl rfl .nil) rfl trivial rfl) rfl rfl ?_
 refine WPD.takeT 6 rfl (by kernel_rfl) (q_add rfl rfl) rfl ?_
 obtain ⟨x10547, h10545, H⟩ := bnd H
 refine WPD.eff 9 [0, 1] [] rfl (by kernel_rfl) (runs_call (s := []) (t := []) (N := 2) (bor := []) fn28 rfl (s_dec_size k x10509 x10547 h10545) ⟨rfl, trivial, by decide, rfl, trivial⟩ rfl trivial (.ren rfl rfl .nil) rfl trivial rfl) rfl rfl ?_
 obtain ⟨x10549, h10547, H⟩ := bnd H
 refine WPD.eff 10 [0, 1] [] rfl (by kernel_rfl) (runs_call (s := []) (t := []) (N := 2) (bor := []) fn55 rfl (s_dec_digits k x10547 x10549 h10547) ⟨rfl, trivial, by decide, rfl, trivial⟩ rfl trivial (.ren rfl rfl .nil) rfl trivial rfl) rfl rfl ?_
 refine WPD.takeT 13 rfl (by kernel_rfl) (q_add rfl rfl) rfl ?_
 refine WPD.takeT 14 rfl (by kernel_rfl) (q_as (v := .lit (.int _ _)) rfl) rfl ?_
 refine WPD.takeT 15 rfl (by kernel_rfl) (q_as (v := .lit (.int _ _)) rfl) rfl ?_
 refine WPD.doneW (by kernel_rfl) ?_
 refine W.now ?_
 refine Then.n ?_
 refine WP.seq ?_
 refine WP.seq ?_
 refine WP.region ?_
 refine WPL.q (q_mv (v := .lit (.int _ _)) rfl) rfl ?_
 refine WPL.q (q_mv (v := .lit (.int _ _)) rfl) rfl ?_
 obtain ⟨x10555, h10555, H⟩ := bnd H
 refine WPL.q (q_nm (q_neq rfl rfl) (nm_bool h10555)) rfl ?_
 refine WPL.nilW ?_
 refine W.now ?_
 refine Then.n ?_
 refine WP.cond (t := x10555) rfl (fun hb10555 => ?_) (fun hb10555 => ?_)
 · replace H := cnt hb10555 H
   refine WP.seq ?_
   refine WP.region ?_
   refine WPL.q (q_mv (v := .lit (.int _ _)) rfl) rfl ?_
   refine WPL.q (q_mv (v := .lit (.int _ _)) rfl) rfl ?_
   refine WPL.q (q_mv (v := .lit (.int _ _)) rfl) rfl ?_
   obtain ⟨x10557, h10557, H⟩ := bnd H
   refine WPL.q (q_nm (q_sub rfl rfl) (nm_int h10557)) rfl ?_
   obtain ⟨x10558, h10558, H⟩ := bnd H
   refine WPL.q (q_nm (q_max rfl rfl) (nm_int h10558)) rfl ?_
   obtain ⟨x10559, h10559, H⟩ := bnd H
   refine WPL.q (q_nm (q_min rfl rfl) (nm_int h10559)) rfl ?_
   refine WPL.q (q_mul rfl rfl) rfl ?_
   refine WPL.q (q_as (v := .lit (.int _ _)) rfl) rfl ?_
   refine WPL.nilW ?_
   refine W.now ?_
   refine Then.n ?_
   refine WP.retW ?_
   have q0 := (Option.some.inj H)
   subst q0
   exact W.now (Then.r (BodyR.mkR trivial rfl [] ⟨rfl, rfl⟩ ⟨rfl, trivial, by decide, rfl, trivial⟩ rfl rfl))
 replace H := cnf hb10555 H
 refine WP.skipW ?_
 refine W.now ?_
 refine Then.n ?_
 refine WP.seq ?_
 refine WP.region ?_
 refine WPL.q (q_load_ag ag23 rfl rfl (Nat.le_of_ble_eq_true rfl)) rfl ?_
 refine WPL.q (q_load_ag ag23 rfl rfl (Nat.le_of_ble_eq_true rfl)) rfl ?_
 obtain ⟨⟨x10561, x10562, x10563, x10564, x10565, x10566, x10567⟩, h10559, H⟩ := bnd H
 refine WPL.c (runs_call (s := []) (t := [2, 3]) (N := 4) (bor := []) fn46 rfl (s_dec_even k x10507 x10508 x10509 x10510 x10561 x10562 x10563 x10564 x10565 x10566 x10567 h10559) ⟨rfl, trivial, by decide, rfl, trivial⟩ rfl trivial (.ren rfl rfl (.ren rfl rfl .nil)) rfl ⟨⟨trivial, rfl⟩, rfl⟩ rfl) rfl ?_
 refine WPL.q (q_mv (v := .tup _) rfl) rfl ?_
 refine WPL.q (q_extract rfl rfl) rfl ?_
 refine WPL.q (q_extract rfl rfl) rfl ?_
 refine WPL.q (q_extract rfl rfl) rfl ?_
 refine WPL.d (d_alloc ze47 rfl) rfl ?_
 refine WPL.d (d_alloc ze47 rfl) rfl ?_
 refine WPL.s (s_store sz47 rfl rfl rfl rfl rfl) ?_
 refine WPL.s (s_store sz47 rfl rfl rfl rfl rfl) ?_
 refine WPL.q (q_as (v := .lit (.bool _)) rfl) rfl ?_
 refine WPL.nilW ?_
 refine W.now ?_
 refine Then.n ?_
 refine WP.seq ?_
 refine WP.region ?_
 refine WPL.q (q_mv (v := .lit (.int _ _)) rfl) rfl ?_
 refine WPL.q (q_fieldAddr fi47_1 rfl rfl) rfl ?_
 refine WPL.q (q_load_ag ag43 rfl rfl (Nat.le_of_ble_eq_true rfl)) rfl ?_
 refine WPL.q (q_fieldAddr fi47_1 rfl rfl) rfl ?_
 refine WPL.q (q_load_ag ag43 rfl rfl (Nat.le_of_ble_eq_true rfl)) rfl ?_
 obtain ⟨x10569, h10567, H⟩ := bnd H
 refine WPL.c (runs_call (s := []) (t := []) (N := 6) (bor := []) fn48 rfl (s_dec_wide_cmp k x10562 x10563 x10565 x10566 x10569 h10567) ⟨rfl, trivial, by decide, rfl, trivial⟩ rfl trivial (.ren rfl rfl (.ren rfl rfl .nil)) rfl trivial rfl) rfl ?_
 refine WPL.q (q_mul rfl rfl) rfl ?_
 refine WPL.q (q_as (v := .lit (.int _ _)) rfl) rfl ?_
 refine WPL.nilW ?_
 refine W.now ?_
 refine Then.n ?_
 refine WP.retW ?_
 have q0 := (Option.some.inj H)
 subst q0
 exact W.now (BodyR.mkR trivial rfl [] ⟨rfl, rfl⟩ ⟨rfl, trivial, by decide, rfl, trivial⟩ rfl rfl)
end Go.Proofs.Ytdbeblgfccjbgaa.W
namespace Go.Proofs.Ytdbeblgfccjbgaa.W
open Go Go.Q Go.Proofs
set_option linter.unusedVariables false
set_option linter.unusedSimpArgs false
set_option maxRecDepth 100000 in
set_option maxHeartbeats 4000000 in
theorem s_dec_Right (k : Nat) (x11126 : Int) (x11127 : Int) (x11147 : Bool) (H : g_dec_Right k x11126 x11127 = some x11147) : Go.Q.Spec Try.prog 24 0 [.agg [.lit (.int .i64 x11126), .lit (.int .i64 x11127)]] Mem.nil (fun o M => o = .ret (.lit (.bool x11147)) ∧ M = Mem.nil) := by
 unfold g_dec_Right at H
 refine Go.Q.Spec.of_bodyR (az := []) (rs := [.tmp 2]) (nt := 23) Try.func24 rfl rfl (by intro t T h; simp at h) rfl rfl fun cx hnp => ?_
 refine WP.seq ?_
 refine WP.region ?_
 refine WPL.d (d_box rfl rfl) rfl ?_
 refine WPL.q (q_as (v := .lit (.bool _)) rfl) rfl ?_
 refine WPL.nilW ?_
 refine W.now ?_
 refine Then.n ?_
 refine WP.seq ?_
 refine WP.region ?_
 refine WPL.q (q_load_ag ag23 rfl rfl (Nat.le_of_ble_eq_true rfl)) rfl ?_
 obtain ⟨x11149, h11147, H⟩ := bnd H
 refine WPL.c (runs_call (s := []) (t := [1]) (N := 2) (bor := []) fn38 rfl (s_dec_of k x11126 x11127 x11149 h11147) ⟨rfl, trivial, by decide, rfl, trivial⟩ rfl trivial (.ren rfl rfl .nil) rfl ⟨trivial, rfl⟩ rfl) rfl ?_
 obtain ⟨⟨x11151, x11152, x11153⟩, h11149, H⟩ := bnd H
 refine WPL.c (runs_call (s := []) (t := [2]) (N := 3) (bor := []) fn31 rfl (s_dec_num_tell k (decide (x11126 < 0)) 0 x11149 x11127 x11151 x11152 x11153 h11149) ⟨rfl, trivial, by decide, rfl, trivial⟩ rfl trivial (.ren rfl rfl .nil) rfl ⟨trivial, rfl⟩ rfl) rfl ?_
 refine WPL.q (q_mv (v := .tup _) rfl) rfl ?_
 refine WPL.q (q_extract rfl rfl) rfl ?_
 refine WPL.q (q_extract rfl rfl) rfl ?_
 refine WPL.d (d_alloc ze23 rfl) rfl ?_
 refine WPL.s (s_store sz23 rfl rfl rfl rfl rfl) ?_
 refine WPL.q (q_as (v := .lit (.int _ _)) rfl) rfl ?_
 refine WPL.nilW ?_
 refine W.now ?_
 refine Then.n ?_
 refine WP.seq ?_
 obtain ⟨x11159, H11164, H⟩ := bnd H
 refine WP.monoW (Q := fun x E M => x = .normal ∧ E = (Env.none.upd 2 (.lit (.bool x11159))) ∧ M = Mem.nil) ?_ ?_
 · clear H
   have H := H11164
   clear H11164
   refine WP.region ?_
   refine WPL.q (q_load_ag ag23 rfl rfl (Nat.le_of_ble_eq_true rfl)) rfl ?_
   refine WPL.d (d_buildSlice (ds := ([(⟨x11126, x11127⟩ : S_api_Dec)] : List S_api_Dec)) (R := rdS_api_Dec) li91 rfl rfl rfl rfl rfl (JoinRows.cons (l := [.lit (.int .i64 x11126), .lit (.int .i64 x11127)]) (Joins.via (Joins.cons Joins.sc (Joins.cons Joins.sc Joins.unit))) rfl JoinRows.nil) rfl rfl) rfl ?_
   obtain ⟨x11161, h11159, H⟩ := bnd H
   refine WPL.c (runs_call (s := []) (t := []) (N := 5) (bor := [4]) fn52 rfl (s_dec_ranged k ([(⟨x11126, x11127⟩ : S_api_Dec)] : List S_api_Dec) x11161 h11159) ⟨rfl, trivial, by decide, rfl, trivial⟩ rfl ⟨trivial, rfl, rfl, trivial⟩ (.row rfl rfl .nil) rfl trivial rfl) rfl ?_
   refine WPL.q (q_mv (v := .lit (.bool _)) rfl) rfl ?_
   refine WPL.split (t := 14) (b := x11161) rfl (fun hb11161 => ?_) (fun hb11161 => ?_)
   · replace H := cnt hb11161 H
     refine WPL.qg rfl rfl (lb hb11161) (q_mv (v := .lit (.int _ _)) rfl) rfl ?_
     refine WPL.qg rfl rfl (lb hb11161) (q_eql rfl rfl) rfl ?_
     refine WPL.q (q_pickT (v := .lit (.bool _)) (lb hb11161) rfl) rfl ?_
     refine WPL.q (q_mv (v := .lit (.bool _)) rfl) rfl ?_
     refine WPL.split (t := 18) (b := (decide (x11151 = 0))) rfl (fun hb11162 => ?_) (fun hb11162 => ?_)
     · replace H := cnt hb11162 H
       refine WPL.qg rfl rfl (lb hb11162) (q_load_ag ag23 rfl rfl (Nat.le_of_ble_eq_true rfl)) rfl ?_
       refine WPL.qg rfl rfl (lb hb11162) (q_load_ag ag23 rfl rfl (Nat.le_of_ble_eq_true rfl)) rfl ?_
       obtain ⟨x11164, h11164, H⟩ := bnd H
       refine WPL.qg rfl rfl (lb hb11162) (q_nm (q_eqlAg (xs := [(.int .i64 x11152), (.int .i64 x11153)]) (ys := [(.int .i64 x11126), (.int .i64 x11127)]) (n := 9) rfl eg23 rfl rfl eq23) (nm_bool h11164)) rfl ?_
       refine WPL.q (q_pickT (v := .lit (.bool _)) (lb hb11162) rfl) rfl ?_
       refine WPL.q (q_as (v := .lit (.bool _)) rfl) rfl ?_
       refine WPL.nilW ?_
       have q0 := (Option.some.inj H)
       subst q0
       exact W.wk [] hnp ⟨rfl, rfl, rfl⟩ ⟨rfl, trivial, by decide, rfl, trivial⟩ (LeE.upd rfl rfl (LeE.none rfl rfl)) rfl
     replace H := cnf hb11162 H
     refine WPL.skipg (b' := false) rfl rfl (lb hb11162) rfl rfl ?_
     refine WPL.skipg (b' := false) rfl rfl (lb hb11162) rfl rfl ?_
     refine WPL.skipg (b' := false) rfl rfl (lb hb11162) rfl rfl ?_
     refine WPL.q (q_pickF (v := .lit (.bool _)) (lb hb11162) rfl) rfl ?_
     refine WPL.q (q_as (v := .lit (.bool _)) rfl) rfl ?_
     refine WPL.nilW ?_
     have q0 := (Option.some.inj H)
     subst q0
     exact W.wk [] hnp ⟨rfl, rfl, rfl⟩ ⟨rfl, trivial, by decide, rfl, trivial⟩ (LeE.upd rfl rfl (LeE.none rfl rfl)) rfl
   replace H := cnf hb11161 H
   refine WPL.skipg (b' := false) rfl rfl (lb hb11161) rfl rfl ?_
   refine WPL.skipg (b' := false) rfl rfl (lb hb11161) rfl rfl ?_
   refine WPL.q (q_pickF (v := .lit (.bool _)) (lb hb11161) rfl) rfl ?_
   refine WPL.q (q_mv (v := .lit (.bool _)) rfl) rfl ?_
   refine WPL.skipg (b' := false) rfl rfl rfl rfl rfl ?_
   refine WPL.skipg (b' := false) rfl rfl rfl rfl rfl ?_
   refine WPL.skipg (b' := false) rfl rfl rfl rfl rfl ?_
   refine WPL.q (q_pickF (v := .lit (.bool _)) rfl rfl) rfl ?_
   refine WPL.q (q_as (v := .lit (.bool _)) rfl) rfl ?_
   refine WPL.nilW ?_
   have q0 := (Option.some.inj H)
   subst q0
   exact W.wk [] hnp ⟨rfl, rfl, rfl⟩ ⟨rfl, trivial, by decide, rfl, trivial⟩ (LeE.upd rfl rfl (LeE.none rfl rfl)) rfl
 rintro _ _ _ ⟨rfl, rfl, rfl⟩
 refine W.now ?_
 refine Then.n ?_
 refine WP.retW ?_
 have q0 := (Option.some.inj H)
 subst q0
 exact W.now (BodyR.mkR trivial rfl [] ⟨rfl, rfl⟩ ⟨rfl, trivial, by decide, rfl, trivial⟩ rfl rfl)
set_option maxRecDepth 100000 in
set_option maxHeartbeats 4000000 in
theorem s_dec_Sign (k : Nat) (x11216 : Int) (x11217 : Int) (x11221 : Int) (H : g_dec_Sign k x11216 x11217 = some x11221) : Go.Q.Spec Try.prog 26 0 [.agg [.lit (.int .i64 x11216), .lit (.int .i64 x11217)]] Mem.nil (fun o M => o = .ret (.lit (.int .i64 x11221)) ∧ M = Mem.nil) := by
 unfold g_dec_Sign at H
 refine Go.Q.Spec.of_bodyR (az := []) (rs := [.tmp 2]) (nt := 6) Try.func26 rfl rfl (by intro t T h; simp at h) rfl rfl fun cx hnp => ?_
 refine WP.seq ?_
 refine WP.region ?_
 refine WPL.d (d_box rfl rfl) rfl ?_
 refine WPL.q (q_as (v := .lit (.int _ _)) rfl) rfl ?_
 refine WPL.nilW ?_
 refine W.now ?_
 refine Then.n ?_
 refine WP.seq ?_
 refine WP.region ?_
 refine WPL.q (q_load_ag ag23 rfl rfl (Nat.le_of_ble_eq_true rfl)) rfl ?_
 refine WPL.q (q_build bu23 rfl) rfl ?_
 obtain ⟨x11223, h11221, H⟩ := bnd H
 refine WPL.c (runs_call (s := []) (t := []) (N := 1) (bor := []) fn22 rfl (s_dec_Cmp k x11216 x11217 0 0 x11223 h11221) ⟨rfl, trivial, by decide, rfl, trivial⟩ rfl trivial (.ren rfl rfl (.ren rfl rfl .nil)) rfl trivial rfl) rfl ?_
 refine WPL.q (q_as (v := .lit (.int _ _)) rfl) rfl ?_
 refine WPL.nilW ?_
 refine W.now ?_
 refine Then.n ?_
 refine WP.retW ?_
 have q0 := (Option.some.inj H)
 subst q0
 exact W.now (BodyR.mkR trivial rfl [] ⟨rfl, rfl⟩ ⟨rfl, trivial, by decide, rfl, trivial⟩ rfl rfl)
set_option maxRecDepth 100000 in
set_option maxHeartbeats 4000000 in
theorem s_quirelaw09_DecLaws (k : Nat) (x11066 : Int) (x11067 : Int) (x11068 : Int) (x11069 : Int) (x11281 : Bool) (H : g_quirelaw09_DecLaws k x11066 x11067 x11068 x11069 = some x11281) : Go.Q.Spec Try.prog 6 0 [.agg [.lit (.int .i64 x11066), .lit (.int .i64 x11067)], .agg [.lit (.int .i64 x11068), .lit (.int .i64 x11069)]] Mem.nil (fun o M => o = .ret (.lit (.bool x11281)) ∧ M = Mem.nil) := by
 unfold g_quirelaw09_DecLaws at H
 refine Go.Q.Spec.of_bodyR (az := []) (rs := [.tmp 4]) (nt := 129) Try.func6 rfl rfl (by intro t T h; simp at h) rfl rfl fun cx hnp => ?_
 refine WP.seq ?_
 refine WP.region ?_
 refine WPL.d (d_box rfl rfl) rfl ?_
 refine WPL.d (d_box rfl rfl) rfl ?_
 refine WPL.q (q_as (v := .lit (.bool _)) rfl) rfl ?_
 refine WPL.nilW ?_
 refine W.now ?_
 refine Then.n ?_
 refine WP.seq ?_
 refine WP.region ?_
 refine WPL.q (q_load_ag ag23 rfl rfl (Nat.le_of_ble_eq_true rfl)) rfl ?_
 refine WPL.q (q_load_ag ag23 rfl rfl (Nat.le_of_ble_eq_true rfl)) rfl ?_
 obtain ⟨⟨x11283, x11284, x11285⟩, h11281, H⟩ := bnd H
 refine WPL.c (runs_call (s := []) (t := [2]) (N := 3) (bor := []) fn14 rfl (s_dec_Add k x11066 x11067 x11068 x11069 x11283 x11284 x11285 h11281) ⟨rfl, trivial, by decide, rfl, trivial⟩ rfl trivial (.ren rfl rfl (.ren rfl rfl .nil)) rfl ⟨trivial, rfl⟩ rfl) rfl ?_
 refine WPL.q (q_mv (v := .tup _) rfl) rfl ?_
 refine WPL.q (q_extract rfl rfl) rfl ?_
 refine WPL.q (q_extract rfl rfl) rfl ?_
 refine WPL.d (d_alloc ze23 rfl) rfl ?_
 refine WPL.s (s_store sz23 rfl rfl rfl rfl rfl) ?_
 refine WPL.q (q_as (v := .lit (.int _ _)) rfl) rfl ?_
 refine WPL.nilW ?_
 refine W.now ?_
 refine Then.n ?_
 refine WP.seq ?_
 refine WP.region ?_
 refine WPL.q (q_load_ag ag23 rfl rfl (Nat.le_of_ble_eq_true rfl)) rfl ?_
 refine WPL.q (q_load_ag ag23 rfl rfl (Nat.le_of_ble_eq_true rfl)) rfl ?_
 obtain ⟨⟨x11287, x11288, x11289⟩, h11285, H⟩ := bnd H
 refine WPL.c (runs_call (s := []) (t := [4]) (N := 5) (bor := []) fn14 rfl (s_dec_Add k x11068 x11069 x11066 x11067 x11287 x11288 x11289 h11285) ⟨rfl, trivial, by decide, rfl, trivial⟩ rfl trivial (.ren rfl rfl (.ren rfl rfl .nil)) rfl ⟨trivial, rfl⟩ rfl) rfl ?_
 refine WPL.q (q_mv (v := .tup _) rfl) rfl ?_
 refine WPL.q (q_extract rfl rfl) rfl ?_
 refine WPL.q (q_extract rfl rfl) rfl ?_
 refine WPL.d (d_alloc ze23 rfl) rfl ?_
 refine WPL.s (s_store sz23 rfl rfl rfl rfl rfl) ?_
 refine WPL.q (q_as (v := .lit (.int _ _)) rfl) rfl ?_
 refine WPL.nilW ?_
 refine W.now ?_
 refine Then.n ?_
 refine WP.seq ?_
 refine WP.region ?_
 refine WPL.q (q_load_ag ag23 rfl rfl (Nat.le_of_ble_eq_true rfl)) rfl ?_
 refine WPL.q (q_load_ag ag23 rfl rfl (Nat.le_of_ble_eq_true rfl)) rfl ?_
 obtain ⟨⟨x11291, x11292, x11293⟩, h11289, H⟩ := bnd H
 refine WPL.c (runs_call (s := []) (t := [6]) (N := 7) (bor := []) fn20 rfl (s_dec_Mul k x11066 x11067 x11068 x11069 x11291 x11292 x11293 h11289) ⟨rfl, trivial, by decide, rfl, trivial⟩ rfl trivial (.ren rfl rfl (.ren rfl rfl .nil)) rfl ⟨trivial, rfl⟩ rfl) rfl ?_
 refine WPL.q (q_mv (v := .tup _) rfl) rfl ?_
 refine WPL.q (q_extract rfl rfl) rfl ?_
 refine WPL.q (q_extract rfl rfl) rfl ?_
 refine WPL.d (d_alloc ze23 rfl) rfl ?_
 refine WPL.s (s_store sz23 rfl rfl rfl rfl rfl) ?_
 refine WPL.q (q_as (v := .lit (.int _ _)) rfl) rfl ?_
 refine WPL.nilW ?_
 refine W.now ?_
 refine Then.n ?_
 refine WP.seq ?_
 refine WP.region ?_
 refine WPL.q (q_load_ag ag23 rfl rfl (Nat.le_of_ble_eq_true rfl)) rfl ?_
 refine WPL.q (q_load_ag ag23 rfl rfl (Nat.le_of_ble_eq_true rfl)) rfl ?_
 obtain ⟨⟨x11295, x11296, x11297⟩, h11293, H⟩ := bnd H
 refine WPL.c (runs_call (s := []) (t := [8]) (N := 9) (bor := []) fn20 rfl (s_dec_Mul k x11068 x11069 x11066 x11067 x11295 x11296 x11297 h11293) ⟨rfl, trivial, by decide, rfl, trivial⟩ rfl trivial (.ren rfl rfl (.ren rfl rfl .nil)) rfl ⟨trivial, rfl⟩ rfl) rfl ?_
 refine WPL.q (q_mv (v := .tup _) rfl) rfl ?_
 refine WPL.q (q_extract rfl rfl) rfl ?_
 refine WPL.q (q_extract rfl rfl) rfl ?_
 refine WPL.d (d_alloc ze23 rfl) rfl ?_
 refine WPL.s (s_store sz23 rfl rfl rfl rfl rfl) ?_
 refine WPL.q (q_as (v := .lit (.int _ _)) rfl) rfl ?_
 refine WPL.nilW ?_
 refine W.now ?_
 refine Then.n ?_
 refine WP.seq ?_
 refine WP.seq ?_
 obtain ⟨x11325, H11333, H⟩ := bnd H
 refine WP.monoW (Q := fun x E M => x = .normal ∧ E = (((((((Env.none.upd 2 (.ptr 0 0)).upd 3 (.ptr 1 0)).upd 5 (.ptr 2 0)).upd 6 (.lit (.int .i64 x11283))).upd 9 (.ptr 3 0)).upd 10 (.lit (.int .i64 x11291))).upd 66 (.lit (.bool x11325))) ∧ M = ((((Mem.nil.push (.cells 23 [.lit (.int .i64 x11066), .lit (.int .i64 x11067)])).push (.cells 23 [.lit (.int .i64 x11068), .lit (.int .i64 x11069)])).push (.cells 23 [.lit (.int .i64 x11284), .lit (.int .i64 x11285)])).push (.cells 23 [.lit (.int .i64 x11292), .lit (.int .i64 x11293)]))) ?_ ?_
 · clear H
   have H := H11333
   clear H11333
   refine WP.region ?_
   refine WPL.q (q_load_ag ag23 rfl rfl (Nat.le_of_ble_eq_true rfl)) rfl ?_
   refine WPL.q (q_load_ag ag23 rfl rfl (Nat.le_of_ble_eq_true rfl)) rfl ?_
   obtain ⟨x11326, h11326, H⟩ := bnd H
   refine WPL.q (q_nm (q_neqAg (xs := [(.int .i64 x11284), (.int .i64 x11285)]) (ys := [(.int .i64 x11288), (.int .i64 x11289)]) (n := 9) rfl eg23 rfl rfl eq23) (nm_bool h11326)) rfl ?_
   refine WPL.q (q_mv (v := .lit (.bool _)) rfl) rfl ?_
   refine WPL.split (t := 48) (b := x11326) rfl (fun hb11326 => ?_) (fun hb11326 => ?_)
   · replace H := cnt hb11326 H
     refine WPL.skipg (b' := true) rfl rfl (lb hb11326) rfl rfl ?_
     refine WPL.skipg (b' := true) rfl rfl (lb hb11326) rfl rfl ?_
     refine WPL.skipg (b' := true) rfl rfl (lb hb11326) rfl rfl ?_
     refine WPL.q (q_pickT (v := .lit (.bool _)) (lb hb11326) rfl) rfl ?_
     refine WPL.q (q_mv (v := .lit (.bool _)) rfl) rfl ?_
     refine WPL.skipg (b' := true) rfl rfl rfl rfl rfl ?_
     refine WPL.skipg (b' := true) rfl rfl rfl rfl rfl ?_
     refine WPL.skipg (b' := true) rfl rfl rfl rfl rfl ?_
     refine WPL.q (q_pickT (v := .lit (.bool _)) rfl rfl) rfl ?_
     refine WPL.q (q_mv (v := .lit (.bool _)) rfl) rfl ?_
     refine WPL.skipg (b' := true) rfl rfl rfl rfl rfl ?_
     refine WPL.skipg (b' := true) rfl rfl rfl rfl rfl ?_
     refine WPL.skipg (b' := true) rfl rfl rfl rfl rfl ?_
     refine WPL.q (q_pickT (v := .lit (.bool _)) rfl rfl) rfl ?_
     refine WPL.q (q_mv (v := .lit (.bool _)) rfl) rfl ?_
     refine WPL.skipg (b' := true) rfl rfl rfl rfl rfl ?_
     refine WPL.skipg (b' := true) rfl rfl rfl rfl rfl ?_
     refine WPL.q (q_pickT (v := .lit (.bool _)) rfl rfl) rfl ?_
     refine WPL.nilW ?_
     have q0 := (Option.some.inj H)
     subst q0
     exact W.wk [0, 1, 3, 7] hnp ⟨rfl, rfl, rfl⟩ ⟨rfl, ⟨⟨⟨⟨trivial, .inr ⟨rfl, rfl, rfl⟩⟩, .inr ⟨rfl, rfl, rfl⟩⟩, .inr ⟨rfl, rfl, rfl⟩⟩, .inr ⟨rfl, rfl, rfl⟩⟩, by decide, rfl, trivial⟩ (LeE.upd rfl rfl (LeE.upd rfl rfl (LeE.upd rfl rfl (LeE.upd rfl rfl (LeE.upd rfl rfl (LeE.upd rfl rfl (LeE.upd rfl rfl (LeE.none rfl rfl)))))))) rfl
   replace H := cnf hb11326 H
   refine WPL.qg rfl rfl (lb hb11326) (q_mv (v := .lit (.int _ _)) rfl) rfl ?_
   refine WPL.qg rfl rfl (lb hb11326) (q_mv (v := .lit (.int _ _)) rfl) rfl ?_
   refine WPL.qg rfl rfl (lb hb11326) (q_neq rfl rfl) rfl ?_
   refine WPL.q (q_pickF (v := .lit (.bool _)) (lb hb11326) rfl) rfl ?_
   refine WPL.q (q_mv (v := .lit (.bool _)) rfl) rfl ?_
   refine WPL.split (t := 53) (b := (!decide (x11283 = x11287))) rfl (fun hb11327 => ?_) (fun hb11327 => ?_)
   · replace H := cnt hb11327 H
     refine WPL.skipg (b' := true) rfl rfl (lb hb11327) rfl rfl ?_
     refine WPL.skipg (b' := true) rfl rfl (lb hb11327) rfl rfl ?_
     refine WPL.skipg (b' := true) rfl rfl (lb hb11327) rfl rfl ?_
     refine WPL.q (q_pickT (v := .lit (.bool _)) (lb hb11327) rfl) rfl ?_
     refine WPL.q (q_mv (v := .lit (.bool _)) rfl) rfl ?_
     refine WPL.skipg (b' := true) rfl rfl rfl rfl rfl ?_
     refine WPL.skipg (b' := true) rfl rfl rfl rfl rfl ?_
     refine WPL.skipg (b' := true) rfl rfl rfl rfl rfl ?_
     refine WPL.q (q_pickT (v := .lit (.bool _)) rfl rfl) rfl ?_
     refine WPL.q (q_mv (v := .lit (.bool _)) rfl) rfl ?_
     refine WPL.skipg (b' := true) rfl rfl rfl rfl rfl ?_
     refine WPL.skipg (b' := true) rfl rfl rfl rfl rfl ?_
     refine WPL.q (q_pickT (v := .lit (.bool _)) rfl rfl) rfl ?_
     refine WPL.nilW ?_
     have q0 := (Option.some.inj H)
     subst q0
     exact W.wk [0, 1, 3, 7] hnp ⟨rfl, rfl, rfl⟩ ⟨rfl, ⟨⟨⟨⟨trivial, .inr ⟨rfl, rfl, rfl⟩⟩, .inr ⟨rfl, rfl, rfl⟩⟩, .inr ⟨rfl, rfl, rfl⟩⟩, .inr ⟨rfl, rfl, rfl⟩⟩, by decide, rfl, trivial⟩ (LeE.upd rfl rfl (LeE.upd rfl rfl (LeE.upd rfl rfl (LeE.upd rfl rfl (LeE.upd rfl rfl (LeE.upd rfl rfl (LeE.upd rfl rfl (LeE.none rfl rfl)))))))) rfl
   replace H := cnf hb11327 H
   refine WPL.qg rfl rfl (lb hb11327) (q_load_ag ag23 rfl rfl (Nat.le_of_ble_eq_true rfl)) rfl ?_
   refine WPL.qg rfl rfl (lb hb11327) (q_load_ag ag23 rfl rfl (Nat.le_of_ble_eq_true rfl)) rfl ?_
   obtain ⟨x11329, h11329, H⟩ := bnd H
   refine WPL.qg rfl rfl (lb hb11327) (q_nm (q_neqAg (xs := [(.int .i64 x11292), (.int .i64 x11293)]) (ys := [(.int .i64 x11296), (.int .i64 x11297)]) (n := 9) rfl eg23 rfl rfl eq23) (nm_bool h11329)) rfl ?_
   refine WPL.q (q_pickF (v := .lit (.bool _)) (lb hb11327) rfl) rfl ?_
   refine WPL.q (q_mv (v := .lit (.bool _)) rfl) rfl ?_
   refine WPL.split (t := 58) (b := x11329) rfl (fun hb11329 => ?_) (fun hb11329 => ?_)
   · replace H := cnt hb11329 H
     refine WPL.skipg (b' := true) rfl rfl (lb hb11329) rfl rfl ?_
     refine WPL.skipg (b' := true) rfl rfl (lb hb11329) rfl rfl ?_
     refine WPL.skipg (b' := true) rfl rfl (lb hb11329) rfl rfl ?_
     refine WPL.q (q_pickT (v := .lit (.bool _)) (lb hb11329) rfl) rfl ?_
     refine WPL.q (q_mv (v := .lit (.bool _)) rfl) rfl ?_
     refine WPL.skipg (b' := true) rfl rfl rfl rfl rfl ?_
     refine WPL.skipg (b' := true) rfl rfl rfl rfl rfl ?_
     refine WPL.q (q_pickT (v := .lit (.bool _)) rfl rfl) rfl ?_
     refine WPL.nilW ?_
     have q0 := (Option.some.inj H)
     subst q0
     exact W.wk [0, 1, 3, 7] hnp ⟨rfl, rfl, rfl⟩ ⟨rfl, ⟨⟨⟨⟨trivial, .inr ⟨rfl, rfl, rfl⟩⟩, .inr ⟨rfl, rfl, rfl⟩⟩, .inr ⟨rfl, rfl, rfl⟩⟩, .inr ⟨rfl, rfl, rfl⟩⟩, by decide, rfl, trivial⟩ (LeE.upd rfl rfl (LeE.upd rfl rfl (LeE.upd rfl rfl (LeE.upd rfl rfl (LeE.upd rfl rfl (LeE.upd rfl rfl (LeE.upd rfl rfl (LeE.none rfl rfl)))))))) rfl
   replace H := cnf hb11329 H
   refine WPL.qg rfl rfl (lb hb11329) (q_mv (v := .lit (.int _ _)) rfl) rfl ?_
   refine WPL.qg rfl rfl (lb hb11329) (q_mv (v := .lit (.int _ _)) rfl) rfl ?_
   refine WPL.qg rfl rfl (lb hb11329) (q_neq rfl rfl) rfl ?_
   refine WPL.q (q_pickF (v := .lit (.bool _)) (lb hb11329) rfl) rfl ?_
   refine WPL.q (q_mv (v := .lit (.bool _)) rfl) rfl ?_
   refine WPL.split (t := 63) (b := (!decide (x11291 = x11295))) rfl (fun hb11330 => ?_) (fun hb11330 => ?_)
   · replace H := cnt hb11330 H
     refine WPL.skipg (b' := true) rfl rfl (lb hb11330) rfl rfl ?_
     refine WPL.skipg (b' := true) rfl rfl (lb hb11330) rfl rfl ?_
     refine WPL.q (q_pickT (v := .lit (.bool _)) (lb hb11330) rfl) rfl ?_
     refine WPL.nilW ?_
     have q0 := (Option.some.inj H)
     subst q0
     exact W.wk [0, 1, 3, 7] hnp ⟨rfl, rfl, rfl⟩ ⟨rfl, ⟨⟨⟨⟨trivial, .inr ⟨rfl, rfl, rfl⟩⟩, .inr ⟨rfl, rfl, rfl⟩⟩, .inr ⟨rfl, rfl, rfl⟩⟩, .inr ⟨rfl, rfl, rfl⟩⟩, by decide, rfl, trivial⟩ (LeE.upd rfl rfl (LeE.upd rfl rfl (LeE.upd rfl rfl (LeE.upd rfl rfl (LeE.upd rfl rfl (LeE.upd rfl rfl (LeE.upd rfl rfl (LeE.none rfl rfl)))))))) rfl
   replace H := cnf hb11330 H
   obtain ⟨x11333, h11331, H⟩ := bnd H
   refine WPL.cg rfl rfl (lb hb11330) (runs_call (s := []) (t := []) (N := 10) (bor := []) fn13 rfl (s_quirelaw09_alive k x11333 h11331) ⟨rfl, trivial, by decide, rfl, trivial⟩ rfl trivial .nil rfl trivial rfl) rfl ?_
   refine WPL.qg rfl rfl (lb hb11330) (q_not rfl) rfl ?_
   refine WPL.q (q_pickF (v := .lit (.bool _)) (lb hb11330) rfl) rfl ?_
   refine WPL.nilW ?_
   have q0 := (Option.some.inj H)
   subst q0
   exact W.wk [0, 1, 3, 7] hnp ⟨rfl, rfl, rfl⟩ ⟨rfl, ⟨⟨⟨⟨trivial, .inr ⟨rfl, rfl, rfl⟩⟩, .inr ⟨rfl, rfl, rfl⟩⟩, .inr ⟨rfl, rfl, rfl⟩⟩, .inr ⟨rfl, rfl, rfl⟩⟩, by decide, rfl, trivial⟩ (LeE.upd rfl rfl (LeE.upd rfl rfl (LeE.upd rfl rfl (LeE.upd rfl rfl (LeE.upd rfl rfl (LeE.upd rfl rfl (LeE.upd rfl rfl (LeE.none rfl rfl)))))))) rfl
 rintro _ _ _ ⟨rfl, rfl, rfl⟩
 refine W.now ?_
 refine Then.n ?_
 refine WP.cond (t := x11325) rfl (fun hb11334 => ?_) (fun hb11334 => ?_)
 · replace H := cnt hb11334 H
   refine WP.seq ?_
   refine WP.region ?_
   refine WPL.q (q_as (v := .lit (.bool _)) rfl) rfl ?_
   refine WPL.nilW ?_
   refine W.now ?_
   refine Then.n ?_
   refine WP.retW ?_
   have q0 := (Option.some.inj H)
   subst q0
   exact W.now (Then.r (BodyR.mkR trivial rfl [] ⟨rfl, rfl⟩ ⟨rfl, trivial, by decide, rfl, trivial⟩ rfl rfl))
 replace H := cnf hb11334 H
 refine WP.skipW ?_
 refine W.now ?_
 refine Then.n ?_
 refine WP.seq ?_
 obtain ⟨y11385, H11383, H⟩ := bnd H
 refine WP.monoW (Q := fun x E M => match (generalizing := false) y11385 with | (Sum.inl _) => x = .ret ∧ E = (Env.none.upd 4 (.lit (.bool false))) ∧ M = Mem.nil | (Sum.inr _) => x = .normal ∧ E = ((((Env.none.upd 2 (.ptr 0 0)).upd 3 (.ptr 1 0)).upd 9 (.ptr 2 0)).upd 10 (.lit (.int .i64 x11291))) ∧ M = (((Mem.nil.push (.cells 23 [.lit (.int .i64 x11066), .lit (.int .i64 x11067)])).push (.cells 23 [.lit (.int .i64 x11068), .lit (.int .i64 x11069)])).push (.cells 23 [.lit (.int .i64 x11292), .lit (.int .i64 x11293)]))) ?_ ?_
 · clear H
   have H := H11383
   clear H11383
   refine WP.seq ?_
   refine WP.region ?_
   refine WPL.q (q_mv (v := .lit (.int _ _)) rfl) rfl ?_
   refine WPL.q (q_eql rfl rfl) rfl ?_
   refine WPL.nilW ?_
   refine W.now ?_
   refine Then.n ?_
   refine WP.cond (t := (decide (x11283 = 0))) rfl (fun hb11359 => ?_) (fun hb11359 => ?_)
   · replace H := cnt hb11359 H
     refine WP.seq ?_
     refine WP.seq ?_
     refine WP.region ?_
     refine WPL.q (q_load_ag ag23 rfl rfl (Nat.le_of_ble_eq_true rfl)) rfl ?_
     obtain ⟨x11365, h11363, H⟩ := bnd H
     refine WPL.c (runs_call (s := []) (t := []) (N := 4) (bor := []) fn24 rfl (s_dec_Right k x11284 x11285 x11365 h11363) ⟨rfl, trivial, by decide, rfl, trivial⟩ rfl trivial (.ren rfl rfl .nil) rfl trivial rfl) rfl ?_
     refine WPL.q (q_not rfl) rfl ?_
     refine WPL.nilW ?_
     refine W.now ?_
     refine Then.n ?_
     refine WP.cond (t := (!x11365)) rfl (fun hb11365 => ?_) (fun hb11365 => ?_)
     · replace H := cnt hb11365 H
       refine WP.seq ?_
       refine WP.region ?_
       refine WPL.q (q_as (v := .lit (.bool _)) rfl) rfl ?_
       refine WPL.nilW ?_
       refine W.now ?_
       refine Then.n ?_
       refine WP.retW ?_
       have q0 := Option.some.inj H
       subst q0
       exact W.wk [] hnp (Then.r ⟨rfl, rfl, rfl⟩) ⟨rfl, trivial, by decide, rfl, trivial⟩ (LeE.upd rfl rfl (LeE.none rfl rfl)) rfl
     replace H := cnf hb11365 H
     refine WP.skipW ?_
     refine W.now ?_
     refine Then.n ?_
     refine WP.seq ?_
     refine WP.region ?_
     refine WPL.q (q_load_ag ag23 rfl rfl (Nat.le_of_ble_eq_true rfl)) rfl ?_
     refine WPL.q (q_load_ag ag23 rfl rfl (Nat.le_of_ble_eq_true rfl)) rfl ?_
     obtain ⟨⟨x11368, x11369, x11370⟩, h11366, H⟩ := bnd H
     refine WPL.c (runs_call (s := []) (t := [4]) (N := 5) (bor := []) fn16 rfl (s_dec_Sub k x11284 x11285 x11068 x11069 x11368 x11369 x11370 h11366) ⟨rfl, trivial, by decide, rfl, trivial⟩ rfl trivial (.ren rfl rfl (.ren rfl rfl .nil)) rfl ⟨trivial, rfl⟩ rfl) rfl ?_
     refine WPL.q (q_mv (v := .tup _) rfl) rfl ?_
     refine WPL.q (q_extract rfl rfl) rfl ?_
     refine WPL.q (q_extract rfl rfl) rfl ?_
     refine WPL.d (d_alloc ze23 rfl) rfl ?_
     refine WPL.s (s_store sz23 rfl rfl rfl rfl rfl) ?_
     refine WPL.q (q_as (v := .lit (.int _ _)) rfl) rfl ?_
     refine WPL.nilW ?_
     refine W.now ?_
     refine Then.n ?_
     refine WP.seq ?_
     refine WP.region ?_
     refine WPL.q (q_fieldAddr fi23_0 rfl rfl) rfl ?_
     refine WPL.q (q_load sc2 rfl rfl rfl) rfl ?_
     refine WPL.q (q_fieldAddr fi23_1 rfl rfl) rfl ?_
     refine WPL.q (q_load sc3 rfl rfl rfl) rfl ?_
     obtain ⟨⟨x11372, x11373, x11374⟩, h11370, H⟩ := bnd H
     refine WPL.c (runs_call (s := []) (t := [6]) (N := 7) (bor := []) fn25 rfl (s_dec_Make k x11066 x11067 x11372 x11373 x11374 h11370) ⟨rfl, trivial, by decide, rfl, trivial⟩ rfl trivial (.ren rfl rfl (.ren rfl rfl .nil)) rfl ⟨trivial, rfl⟩ rfl) rfl ?_
     refine WPL.q (q_mv (v := .tup _) rfl) rfl ?_
     refine WPL.q (q_extract rfl rfl) rfl ?_
     refine WPL.q (q_extract rfl rfl) rfl ?_
     refine WPL.d (d_alloc ze23 rfl) rfl ?_
     refine WPL.s (s_store sz23 rfl rfl rfl rfl rfl) ?_
     refine WPL.q (q_as (v := .lit (.int _ _)) rfl) rfl ?_
     refine WPL.nilW ?_
     refine W.now ?_
     refine Then.n ?_
     refine WP.seq ?_
     obtain ⟨x11378, H11381, H⟩ := bnd H
     refine WP.monoW (Q := fun x E M => x = .normal ∧ E = (((((Env.none.upd 2 (.ptr 0 0)).upd 3 (.ptr 1 0)).upd 9 (.ptr 2 0)).upd 10 (.lit (.int .i64 x11291))).upd 96 (.lit (.bool x11378))) ∧ M = (((Mem.nil.push (.cells 23 [.lit (.int .i64 x11066), .lit (.int .i64 x11067)])).push (.cells 23 [.lit (.int .i64 x11068), .lit (.int .i64 x11069)])).push (.cells 23 [.lit (.int .i64 x11292), .lit (.int .i64 x11293)]))) ?_ ?_
     · clear H
       have H := H11381
       clear H11381
       refine WP.region ?_
       refine WPL.q (q_mv (v := .lit (.int _ _)) rfl) rfl ?_
       refine WPL.q (q_neq rfl rfl) rfl ?_
       refine WPL.q (q_mv (v := .lit (.bool _)) rfl) rfl ?_
       refine WPL.split (t := 88) (b := (!decide (x11368 = 0))) rfl (fun hb11378 => ?_) (fun hb11378 => ?_)
       · replace H := cnt hb11378 H
         refine WPL.skipg (b' := true) rfl rfl (lb hb11378) rfl rfl ?_
         refine WPL.skipg (b' := true) rfl rfl (lb hb11378) rfl rfl ?_
         refine WPL.q (q_pickT (v := .lit (.bool _)) (lb hb11378) rfl) rfl ?_
         refine WPL.q (q_mv (v := .lit (.bool _)) rfl) rfl ?_
         refine WPL.skipg (b' := true) rfl rfl rfl rfl rfl ?_
         refine WPL.skipg (b' := true) rfl rfl rfl rfl rfl ?_
         refine WPL.skipg (b' := true) rfl rfl rfl rfl rfl ?_
         refine WPL.q (q_pickT (v := .lit (.bool _)) rfl rfl) rfl ?_
         refine WPL.nilW ?_
         have q0 := (Option.some.inj H)
         subst q0
         exact W.wk [0, 1, 3] hnp ⟨rfl, rfl, rfl⟩ ⟨rfl, ⟨⟨⟨trivial, .inr ⟨rfl, rfl, rfl⟩⟩, .inr ⟨rfl, rfl, rfl⟩⟩, .inr ⟨rfl, rfl, rfl⟩⟩, by decide, rfl, trivial⟩ (LeE.upd rfl rfl (LeE.upd rfl rfl (LeE.upd rfl rfl (LeE.upd rfl rfl (LeE.upd rfl rfl (LeE.none rfl rfl)))))) rfl
       replace H := cnf hb11378 H
       refine WPL.qg rfl rfl (lb hb11378) (q_mv (v := .lit (.int _ _)) rfl) rfl ?_
       refine WPL.qg rfl rfl (lb hb11378) (q_neq rfl rfl) rfl ?_
       refine WPL.q (q_pickF (v := .lit (.bool _)) (lb hb11378) rfl) rfl ?_
       refine WPL.q (q_mv (v := .lit (.bool _)) rfl) rfl ?_
       refine WPL.split (t := 92) (b := (!decide (x11372 = 0))) rfl (fun hb11379 => ?_) (fun hb11379 => ?_)
       · replace H := cnt hb11379 H
         refine WPL.skipg (b' := true) rfl rfl (lb hb11379) rfl rfl ?_
         refine WPL.skipg (b' := true) rfl rfl (lb hb11379) rfl rfl ?_
         refine WPL.skipg (b' := true) rfl rfl (lb hb11379) rfl rfl ?_
         refine WPL.q (q_pickT (v := .lit (.bool _)) (lb hb11379) rfl) rfl ?_
         refine WPL.nilW ?_
         have q0 := (Option.some.inj H)
         subst q0
         exact W.wk [0, 1, 3] hnp ⟨rfl, rfl, rfl⟩ ⟨rfl, ⟨⟨⟨trivial, .inr ⟨rfl, rfl, rfl⟩⟩, .inr ⟨rfl, rfl, rfl⟩⟩, .inr ⟨rfl, rfl, rfl⟩⟩, by decide, rfl, trivial⟩ (LeE.upd rfl rfl (LeE.upd rfl rfl (LeE.upd rfl rfl (LeE.upd rfl rfl (LeE.upd rfl rfl (LeE.none rfl rfl)))))) rfl
       replace H := cnf hb11379 H
       refine WPL.qg rfl rfl (lb hb11379) (q_load_ag ag23 rfl rfl (Nat.le_of_ble_eq_true rfl)) rfl ?_
       refine WPL.qg rfl rfl (lb hb11379) (q_load_ag ag23 rfl rfl (Nat.le_of_ble_eq_true rfl)) rfl ?_
       obtain ⟨x11381, h11381, H⟩ := bnd H
       refine WPL.qg rfl rfl (lb hb11379) (q_nm (q_neqAg (xs := [(.int .i64 x11369), (.int .i64 x11370)]) (ys := [(.int .i64 x11373), (.int .i64 x11374)]) (n := 9) rfl eg23 rfl rfl eq23) (nm_bool h11381)) rfl ?_
       refine WPL.q (q_pickF (v := .lit (.bool _)) (lb hb11379) rfl) rfl ?_
       refine WPL.nilW ?_
       have q0 := (Option.some.inj H)
       subst q0
       exact W.wk [0, 1, 3] hnp ⟨rfl, rfl, rfl⟩ ⟨rfl, ⟨⟨⟨trivial, .inr ⟨rfl, rfl, rfl⟩⟩, .inr ⟨rfl, rfl, rfl⟩⟩, .inr ⟨rfl, rfl, rfl⟩⟩, by decide, rfl, trivial⟩ (LeE.upd rfl rfl (LeE.upd rfl rfl (LeE.upd rfl rfl (LeE.upd rfl rfl (LeE.upd rfl rfl (LeE.none rfl rfl)))))) rfl
     rintro _ _ _ ⟨rfl, rfl, rfl⟩
     refine W.now ?_
     refine Then.n ?_
     refine WP.cond (t := x11378) rfl (fun hb11382 => ?_) (fun hb11382 => ?_)
     · replace H := cnt hb11382 H
       refine WP.seq ?_
       refine WP.region ?_
       refine WPL.q (q_as (v := .lit (.bool _)) rfl) rfl ?_
       refine WPL.nilW ?_
       refine W.now ?_
       refine Then.n ?_
       refine WP.retW ?_
       have q0 := Option.some.inj H
       subst q0
       exact W.wk [] hnp ⟨rfl, rfl, rfl⟩ ⟨rfl, trivial, by decide, rfl, trivial⟩ (LeE.upd rfl rfl (LeE.none rfl rfl)) rfl
     replace H := cnf hb11382 H
     refine WP.skipW ?_
     have q0 := Option.some.inj H
     subst q0
     exact W.wk [0, 1, 2] hnp ⟨rfl, rfl, rfl⟩ ⟨rfl, ⟨⟨⟨trivial, .inr ⟨rfl, rfl, rfl⟩⟩, .inr ⟨rfl, rfl, rfl⟩⟩, .inr ⟨rfl, rfl, rfl⟩⟩, by decide, rfl, trivial⟩ (LeE.upd rfl rfl (LeE.upd rfl rfl (LeE.upd rfl rfl (LeE.upd rfl rfl (LeE.none rfl rfl))))) rfl
   replace H := cnf hb11359 H
   refine WP.skipW ?_
   have q0 := Option.some.inj H
   subst q0
   exact W.wk [0, 1, 3] hnp ⟨rfl, rfl, rfl⟩ ⟨rfl, ⟨⟨⟨trivial, .inr ⟨rfl, rfl, rfl⟩⟩, .inr ⟨rfl, rfl, rfl⟩⟩, .inr ⟨rfl, rfl, rfl⟩⟩, by decide, rfl, trivial⟩ (LeE.upd rfl rfl (LeE.upd rfl rfl (LeE.upd rfl rfl (LeE.upd rfl rfl (LeE.none rfl rfl))))) rfl
 rcases y11385 with _ | _
 · rintro _ _ _ ⟨rfl, rfl, rfl⟩
   have q0 := (Option.some.inj H)
   subst q0
   exact W.now (Then.r (BodyR.mkR trivial rfl [] ⟨rfl, rfl⟩ ⟨rfl, trivial, by decide, rfl, trivial⟩ rfl rfl))
 rintro _ _ _ ⟨rfl, rfl, rfl⟩
 refine W.now ?_
 refine Then.n ?_
 refine WP.seq ?_
 refine WP.seq ?_
 obtain ⟨x11418, H11421, H⟩ := bnd H
 refine WP.monoW (Q := fun x E M => x = .normal ∧ E = ((((Env.none.upd 2 (.ptr 0 0)).upd 3 (.ptr 1 0)).upd 9 (.ptr 2 0)).upd 103 (.lit (.bool x11418))) ∧ M = (((Mem.nil.push (.cells 23 [.lit (.int .i64 x11066), .lit (.int .i64 x11067)])).push (.cells 23 [.lit (.int .i64 x11068), .lit (.int .i64 x11069)])).push (.cells 23 [.lit (.int .i64 x11292), .lit (.int .i64 x11293)]))) ?_ ?_
 · clear H
   have H := H11421
   clear H11421
   refine WP.region ?_
   refine WPL.q (q_mv (v := .lit (.int _ _)) rfl) rfl ?_
   refine WPL.q (q_eql rfl rfl) rfl ?_
   refine WPL.q (q_mv (v := .lit (.bool _)) rfl) rfl ?_
   refine WPL.split (t := 99) (b := (decide (x11291 = 0))) rfl (fun hb11418 => ?_) (fun hb11418 => ?_)
   · replace H := cnt hb11418 H
     refine WPL.qg rfl rfl (lb hb11418) (q_load_ag ag23 rfl rfl (Nat.le_of_ble_eq_true rfl)) rfl ?_
     obtain ⟨x11421, h11419, H⟩ := bnd H
     refine WPL.cg rfl rfl (lb hb11418) (runs_call (s := []) (t := []) (N := 3) (bor := []) fn26 rfl (s_dec_Sign k x11068 x11069 x11421 h11419) ⟨rfl, trivial, by decide, rfl, trivial⟩ rfl trivial (.ren rfl rfl .nil) rfl trivial rfl) rfl ?_
     refine WPL.qg rfl rfl (lb hb11418) (q_neq rfl rfl) rfl ?_
     refine WPL.q (q_pickT (v := .lit (.bool _)) (lb hb11418) rfl) rfl ?_
     refine WPL.nilW ?_
     have q0 := (Option.some.inj H)
     subst q0
     exact W.wk [0, 1, 2] hnp ⟨rfl, rfl, rfl⟩ ⟨rfl, ⟨⟨⟨trivial, .inr ⟨rfl, rfl, rfl⟩⟩, .inr ⟨rfl, rfl, rfl⟩⟩, .inr ⟨rfl, rfl, rfl⟩⟩, by decide, rfl, trivial⟩ (LeE.upd rfl rfl (LeE.upd rfl rfl (LeE.upd rfl rfl (LeE.upd rfl rfl (LeE.none rfl rfl))))) rfl
   replace H := cnf hb11418 H
   refine WPL.skipg (b' := false) rfl rfl (lb hb11418) rfl rfl ?_
   refine WPL.skipg (b' := false) rfl rfl (lb hb11418) rfl rfl ?_
   refine WPL.skipg (b' := false) rfl rfl (lb hb11418) rfl rfl ?_
   refine WPL.q (q_pickF (v := .lit (.bool _)) (lb hb11418) rfl) rfl ?_
   refine WPL.nilW ?_
   have q0 := (Option.some.inj H)
   subst q0
   exact W.wk [0, 1, 2] hnp ⟨rfl, rfl, rfl⟩ ⟨rfl, ⟨⟨⟨trivial, .inr ⟨rfl, rfl, rfl⟩⟩, .inr ⟨rfl, rfl, rfl⟩⟩, .inr ⟨rfl, rfl, rfl⟩⟩, by decide, rfl, trivial⟩ (LeE.upd rfl rfl (LeE.upd rfl rfl (LeE.upd rfl rfl (LeE.upd rfl rfl (LeE.none rfl rfl))))) rfl
 rintro _ _ _ ⟨rfl, rfl, rfl⟩
 refine W.now ?_
 refine Then.n ?_
 refine WP.cond (t := x11418) rfl (fun hb11422 => ?_) (fun hb11422 => ?_)
 · replace H := cnt hb11422 H
   refine WP.seq ?_
   refine WP.region ?_
   refine WPL.q (q_load_ag ag23 rfl rfl (Nat.le_of_ble_eq_true rfl)) rfl ?_
   refine WPL.q (q_load_ag ag23 rfl rfl (Nat.le_of_ble_eq_true rfl)) rfl ?_
   obtain ⟨⟨x11425, x11426, x11427⟩, h11423, H⟩ := bnd H
   refine WPL.c (runs_call (s := []) (t := [3]) (N := 4) (bor := []) fn7 rfl (s_dec_Div k x11292 x11293 x11068 x11069 x11425 x11426 x11427 h11423) ⟨rfl, trivial, by decide, rfl, trivial⟩ rfl trivial (.ren rfl rfl (.ren rfl rfl .nil)) rfl ⟨trivial, rfl⟩ rfl) rfl ?_
   refine WPL.q (q_mv (v := .tup _) rfl) rfl ?_
   refine WPL.q (q_extract rfl rfl) rfl ?_
   refine WPL.q (q_extract rfl rfl) rfl ?_
   refine WPL.d (d_alloc ze23 rfl) rfl ?_
   refine WPL.s (s_store sz23 rfl rfl rfl rfl rfl) ?_
   refine WPL.q (q_as (v := .lit (.int _ _)) rfl) rfl ?_
   refine WPL.nilW ?_
   refine W.now ?_
   refine Then.n ?_
   refine WP.seq ?_
   refine WP.region ?_
   refine WPL.q (q_fieldAddr fi23_0 rfl rfl) rfl ?_
   refine WPL.q (q_load sc2 rfl rfl rfl) rfl ?_
   refine WPL.q (q_fieldAddr fi23_1 rfl rfl) rfl ?_
   refine WPL.q (q_load sc3 rfl rfl rfl) rfl ?_
   obtain ⟨⟨x11429, x11430, x11431⟩, h11427, H⟩ := bnd H
   refine WPL.c (runs_call (s := []) (t := [5]) (N := 6) (bor := []) fn25 rfl (s_dec_Make k x11066 x11067 x11429 x11430 x11431 h11427) ⟨rfl, trivial, by decide, rfl, trivial⟩ rfl trivial (.ren rfl rfl (.ren rfl rfl .nil)) rfl ⟨trivial, rfl⟩ rfl) rfl ?_
   refine WPL.q (q_mv (v := .tup _) rfl) rfl ?_
   refine WPL.q (q_extract rfl rfl) rfl ?_
   refine WPL.q (q_extract rfl rfl) rfl ?_
   refine WPL.d (d_alloc ze23 rfl) rfl ?_
   refine WPL.s (s_store sz23 rfl rfl rfl rfl rfl) ?_
   refine WPL.q (q_as (v := .lit (.int _ _)) rfl) rfl ?_
   refine WPL.nilW ?_
   refine W.now ?_
   refine Then.n ?_
   refine WP.seq ?_
   obtain ⟨x11437, H11442, H⟩ := bnd H
   refine WP.monoW (Q := fun x E M => x = .normal ∧ E = (Env.none.upd 4 (.lit (.bool x11437))) ∧ M = Mem.nil) ?_ ?_
   · clear H
     have H := H11442
     clear H11442
     refine WP.region ?_
     refine WPL.q (q_mv (v := .lit (.int _ _)) rfl) rfl ?_
     refine WPL.q (q_eql rfl rfl) rfl ?_
     refine WPL.q (q_mv (v := .lit (.bool _)) rfl) rfl ?_
     refine WPL.split (t := 120) (b := (decide (x11425 = 0))) rfl (fun hb11437 => ?_) (fun hb11437 => ?_)
     · replace H := cnt hb11437 H
       refine WPL.qg rfl rfl (lb hb11437) (q_load_ag ag23 rfl rfl (Nat.le_of_ble_eq_true rfl)) rfl ?_
       refine WPL.qg rfl rfl (lb hb11437) (q_load_ag ag23 rfl rfl (Nat.le_of_ble_eq_true rfl)) rfl ?_
       obtain ⟨x11439, h11439, H⟩ := bnd H
       refine WPL.qg rfl rfl (lb hb11437) (q_nm (q_eqlAg (xs := [(.int .i64 x11426), (.int .i64 x11427)]) (ys := [(.int .i64 x11430), (.int .i64 x11431)]) (n := 9) rfl eg23 rfl rfl eq23) (nm_bool h11439)) rfl ?_
       refine WPL.q (q_pickT (v := .lit (.bool _)) (lb hb11437) rfl) rfl ?_
       refine WPL.q (q_mv (v := .lit (.bool _)) rfl) rfl ?_
       refine WPL.split (t := 125) (b := x11439) rfl (fun hb11439 => ?_) (fun hb11439 => ?_)
       · replace H := cnt hb11439 H
         refine WPL.qg rfl rfl (lb hb11439) (q_load_ag ag23 rfl rfl (Nat.le_of_ble_eq_true rfl)) rfl ?_
         obtain ⟨x11442, h11440, H⟩ := bnd H
         refine WPL.cg rfl rfl (lb hb11439) (runs_call (s := []) (t := []) (N := 7) (bor := []) fn24 rfl (s_dec_Right k x11292 x11293 x11442 h11440) ⟨rfl, trivial, by decide, rfl, trivial⟩ rfl trivial (.ren rfl rfl .nil) rfl trivial rfl) rfl ?_
         refine WPL.q (q_pickT (v := .lit (.bool _)) (lb hb11439) rfl) rfl ?_
         refine WPL.q (q_as (v := .lit (.bool _)) rfl) rfl ?_
         refine WPL.nilW ?_
         have q0 := (Option.some.inj H)
         subst q0
         exact W.wk [] hnp ⟨rfl, rfl, rfl⟩ ⟨rfl, trivial, by decide, rfl, trivial⟩ (LeE.upd rfl rfl (LeE.none rfl rfl)) rfl
       replace H := cnf hb11439 H
       refine WPL.skipg (b' := false) rfl rfl (lb hb11439) rfl rfl ?_
       refine WPL.skipg (b' := false) rfl rfl (lb hb11439) rfl rfl ?_
       refine WPL.q (q_pickF (v := .lit (.bool _)) (lb hb11439) rfl) rfl ?_
       refine WPL.q (q_as (v := .lit (.bool _)) rfl) rfl ?_
       refine WPL.nilW ?_
       have q0 := (Option.some.inj H)
       subst q0
       exact W.wk [] hnp ⟨rfl, rfl, rfl⟩ ⟨rfl, trivial, by decide, rfl, trivial⟩ (LeE.upd rfl rfl (LeE.none rfl rfl)) rfl
     replace H := cnf hb11437 H
     refine WPL.skipg (b' := false) rfl rfl (lb hb11437) rfl rfl ?_
     refine WPL.skipg (b' := false) rfl rfl (lb hb11437) rfl rfl ?_
     refine WPL.skipg (b' := false) rfl rfl (lb hb11437) rfl rfl ?_
     refine WPL.q (q_pickF (v := .lit (.bool _)) (lb hb11437) rfl) rfl ?_
     refine WPL.q (q_mv (v := .lit (.bool _)) rfl) rfl ?_
     refine WPL.skipg (b' := false) rfl rfl rfl rfl rfl ?_
     refine WPL.skipg (b' := false) rfl rfl rfl rfl rfl ?_
     refine WPL.q (q_pickF (v := .lit (.bool _)) rfl rfl) rfl ?_
     refine WPL.q (q_as (v := .lit (.bool _)) rfl) rfl ?_
     refine WPL.nilW ?_
     have q0 := (Option.some.inj H)
     subst q0
     exact W.wk [] hnp ⟨rfl, rfl, rfl⟩ ⟨rfl, trivial, by decide, rfl, trivial⟩ (LeE.upd rfl rfl (LeE.none rfl rfl)) rfl
   rintro _ _ _ ⟨rfl, rfl, rfl⟩
   refine W.now ?_
   refine Then.n ?_
   refine WP.retW ?_
   have q0 := (Option.some.inj H)
   subst q0
   exact W.now (Then.r (BodyR.mkR trivial rfl [] ⟨rfl, rfl⟩ ⟨rfl, trivial, by decide, rfl, trivial⟩ rfl rfl))
 replace H := cnf hb11422 H
 refine WP.skipW ?_
 refine W.now ?_
 refine Then.n ?_
 refine WP.seq ?_
 refine WP.region ?_
 refine WPL.q (q_as (v := .lit (.bool _)) rfl) rfl ?_
 refine WPL.nilW ?_
 refine W.now ?_
 refine Then.n ?_
 refine WP.retW ?_
 have q0 := (Option.some.inj H)
 subst q0
 exact W.now (BodyR.mkR trivial rfl [] ⟨rfl, rfl⟩ ⟨rfl, trivial, by decide, rfl, trivial⟩ rfl rfl)
end Go.Proofs.Ytdbeblgfccjbgaa.W
