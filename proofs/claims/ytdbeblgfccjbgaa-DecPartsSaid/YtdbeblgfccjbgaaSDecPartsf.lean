/- Texts joined: part 6 of what LDecParts stands on. -/
import Derived.Test.YtdbeblgfccjbgaaSDecPartse
namespace Go.Proofs.Ytdbeblgfccjbgaa.W
open Go Go.Q Go.Proofs
set_option linter.unusedVariables false
set_option linter.unusedSimpArgs false
set_option maxRecDepth 100000 in
set_option maxHeartbeats 4000000 in
theorem s_dec_wide_cmp (k : Nat) (x4385 : Int) (x4386 : Int) (x4387 : Int) (x4388 : Int) (x4408 : Int) (H : g_dec_wide_cmp k x4385 x4386 x4387 x4388 = some x4408) : Go.Q.Spec Try.prog 48 0 [.agg [.lit (.int .u64 x4385), .lit (.int .u64 x4386)], .agg [.lit (.int .u64 x4387), .lit (.int .u64 x4388)]] Mem.nil (fun o M => o = .ret (.lit (.int .i64 x4408)) ∧ M = Mem.nil) := by
 unfold g_dec_wide_cmp at H
 refine Go.Q.Spec.of_bodyR (az := []) (rs := [.tmp 4]) (nt := 29) Try.func48 rfl rfl (by intro t T h; simp at h) rfl rfl fun cx hnp => ?_
 refine WP.seq ?_
 refine WP.region ?_
 refine WPL.d (d_box rfl rfl) rfl ?_
 refine WPL.d (d_box rfl rfl) rfl ?_
 refine WPL.q (q_as (v := .lit (.int _ _)) rfl) rfl ?_
 refine WPL.nilW ?_
 refine W.now ?_
 refine Then.n ?_
 refine WP.seq ?_
 refine WP.block ?_
 refine WP.seq ?_
 refine WP.region ?_
 refine WPL.q (q_load_ag ag43 rfl rfl (Nat.le_of_ble_eq_true rfl)) rfl ?_
 refine WPL.q (q_load_ag ag43 rfl rfl (Nat.le_of_ble_eq_true rfl)) rfl ?_
 obtain ⟨x4418, h4418, H⟩ := bnd H
 refine WPL.q (q_nm (q_eqlAg (xs := [(.int .u64 x4385), (.int .u64 x4386)]) (ys := [(.int .u64 x4387), (.int .u64 x4388)]) (n := 9) rfl eg43 rfl rfl eq43) (nm_bool h4418)) rfl ?_
 refine WPL.q (q_as (v := .lit (.bool _)) rfl) rfl ?_
 refine WPL.nilW ?_
 refine W.now ?_
 refine Then.n ?_
 refine WP.cond (t := x4418) rfl (fun hb4418 => ?_) (fun hb4418 => ?_)
 · replace H := cnt hb4418 H
   refine WP.seq ?_
   refine WP.region ?_
   refine WPL.q (q_as (v := .lit (.int _ _)) rfl) rfl ?_
   refine WPL.nilW ?_
   refine W.now ?_
   refine Then.n ?_
   refine WP.retW ?_
   have q0 := (Option.some.inj H)
   subst q0
   exact W.now (InBlock.r (Then.r (BodyR.mkR trivial rfl [] ⟨rfl, rfl⟩ ⟨rfl, trivial, by decide, rfl, trivial⟩ rfl rfl)))
 replace H := cnf hb4418 H
 refine WP.seq ?_
 obtain ⟨x4422, H4424, H⟩ := bnd H
 refine WP.monoW (Q := fun x E M => x = .normal ∧ E = (Env.none.upd 9 (.lit (.bool x4422))) ∧ M = Mem.nil) ?_ ?_
 · clear H
   have H := H4424
   clear H4424
   refine WP.region ?_
   refine WPL.q (q_fieldAddr fi43_0 rfl rfl) rfl ?_
   refine WPL.q (q_load sc38 rfl rfl rfl) rfl ?_
   refine WPL.q (q_fieldAddr fi43_0 rfl rfl) rfl ?_
   refine WPL.q (q_load sc38 rfl rfl rfl) rfl ?_
   refine WPL.q (q_lss rfl rfl) rfl ?_
   refine WPL.q (q_mv (v := .lit (.bool _)) rfl) rfl ?_
   refine WPL.split (t := 15) (b := (decide (x4385 < x4387))) rfl (fun hb4422 => ?_) (fun hb4422 => ?_)
   · replace H := cnt hb4422 H
     refine WPL.skipg (b' := true) rfl rfl (lb hb4422) rfl rfl ?_
     refine WPL.skipg (b' := true) rfl rfl (lb hb4422) rfl rfl ?_
     refine WPL.skipg (b' := true) rfl rfl (lb hb4422) rfl rfl ?_
     refine WPL.skipg (b' := true) rfl rfl (lb hb4422) rfl rfl ?_
     refine WPL.skipg (b' := true) rfl rfl (lb hb4422) rfl rfl ?_
     refine WPL.skipg (b' := true) rfl rfl (lb hb4422) rfl rfl ?_
     refine WPL.skipu rfl rfl rfl rfl ?_
     refine WPL.skipu rfl rfl rfl rfl ?_
     refine WPL.skipu rfl rfl rfl rfl ?_
     refine WPL.skipu rfl rfl rfl rfl ?_
     refine WPL.skipu rfl rfl rfl rfl ?_
     refine WPL.skipg (b' := true) rfl rfl (lb hb4422) rfl rfl ?_
     refine WPL.q (q_pickT (v := .lit (.bool _)) (lb hb4422) rfl) rfl ?_
     refine WPL.q (q_as (v := .lit (.bool _)) rfl) rfl ?_
     refine WPL.nilW ?_
     have q0 := (Option.some.inj H)
     subst q0
     exact W.wk [] hnp ⟨rfl, rfl, rfl⟩ ⟨rfl, trivial, by decide, rfl, trivial⟩ (LeE.upd rfl rfl (LeE.none rfl rfl)) rfl
   replace H := cnf hb4422 H
   refine WPL.qg rfl rfl (lb hb4422) (q_fieldAddr fi43_0 rfl rfl) rfl ?_
   refine WPL.qg rfl rfl (lb hb4422) (q_load sc38 rfl rfl rfl) rfl ?_
   refine WPL.qg rfl rfl (lb hb4422) (q_fieldAddr fi43_0 rfl rfl) rfl ?_
   refine WPL.qg rfl rfl (lb hb4422) (q_load sc38 rfl rfl rfl) rfl ?_
   refine WPL.qg rfl rfl (lb hb4422) (q_eql rfl rfl) rfl ?_
   refine WPL.qg rfl rfl (lb hb4422) (q_mv (v := .lit (.bool _)) rfl) rfl ?_
   refine WPL.split (t := 21) (b := (decide (x4385 = x4387))) rfl (fun hb4423 => ?_) (fun hb4423 => ?_)
   · replace H := cnt hb4423 H
     refine WPL.qg rfl rfl (lb hb4423) (q_fieldAddr fi43_1 rfl rfl) rfl ?_
     refine WPL.qg rfl rfl (lb hb4423) (q_load sc38 rfl rfl rfl) rfl ?_
     refine WPL.qg rfl rfl (lb hb4423) (q_fieldAddr fi43_1 rfl rfl) rfl ?_
     refine WPL.qg rfl rfl (lb hb4423) (q_load sc38 rfl rfl rfl) rfl ?_
     refine WPL.qg rfl rfl (lb hb4423) (q_lss rfl rfl) rfl ?_
     refine WPL.qg rfl rfl (lb hb4422) (q_pickT (v := .lit (.bool _)) (lb hb4423) rfl) rfl ?_
     refine WPL.q (q_pickF (v := .lit (.bool _)) (lb hb4422) rfl) rfl ?_
     refine WPL.q (q_as (v := .lit (.bool _)) rfl) rfl ?_
     refine WPL.nilW ?_
     have q0 := (Option.some.inj H)
     subst q0
     exact W.wk [] hnp ⟨rfl, rfl, rfl⟩ ⟨rfl, trivial, by decide, rfl, trivial⟩ (LeE.upd rfl rfl (LeE.none rfl rfl)) rfl
   replace H := cnf hb4423 H
   refine WPL.skipg (b' := false) rfl rfl (lb hb4423) rfl rfl ?_
   refine WPL.skipg (b' := false) rfl rfl (lb hb4423) rfl rfl ?_
   refine WPL.skipg (b' := false) rfl rfl (lb hb4423) rfl rfl ?_
   refine WPL.skipg (b' := false) rfl rfl (lb hb4423) rfl rfl ?_
   refine WPL.skipg (b' := false) rfl rfl (lb hb4423) rfl rfl ?_
   refine WPL.qg rfl rfl (lb hb4422) (q_pickF (v := .lit (.bool _)) (lb hb4423) rfl) rfl ?_
   refine WPL.q (q_pickF (v := .lit (.bool _)) (lb hb4422) rfl) rfl ?_
   refine WPL.q (q_as (v := .lit (.bool _)) rfl) rfl ?_
   refine WPL.nilW ?_
   have q0 := (Option.some.inj H)
   subst q0
   exact W.wk [] hnp ⟨rfl, rfl, rfl⟩ ⟨rfl, trivial, by decide, rfl, trivial⟩ (LeE.upd rfl rfl (LeE.none rfl rfl)) rfl
 rintro _ _ _ ⟨rfl, rfl, rfl⟩
 refine W.now ?_
 refine Then.n ?_
 refine WP.cond (t := x4422) rfl (fun hb4425 => ?_) (fun hb4425 => ?_)
 · replace H := cnt hb4425 H
   refine WP.seq ?_
   refine WP.region ?_
   refine WPL.q (q_as (v := .lit (.int _ _)) rfl) rfl ?_
   refine WPL.nilW ?_
   refine W.now ?_
   refine Then.n ?_
   refine WP.retW ?_
   have q0 := (Option.some.inj H)
   subst q0
   exact W.now (InBlock.r (Then.r (BodyR.mkR trivial rfl [] ⟨rfl, rfl⟩ ⟨rfl, trivial, by decide, rfl, trivial⟩ rfl rfl)))
 replace H := cnf hb4425 H
 refine WP.skipW ?_
 refine W.now ?_
 refine InBlock.n ?_
 refine Then.n ?_
 refine WP.seq ?_
 refine WP.region ?_
 refine WPL.q (q_as (v := .lit (.int _ _)) rfl) rfl ?_
 refine WPL.nilW ?_
 refine W.now ?_
 refine Then.n ?_
 refine WP.retW ?_
 have q0 := (Option.some.inj H)
 subst q0
 exact W.now (BodyR.mkR trivial rfl [] ⟨rfl, rfl⟩ ⟨rfl, trivial, by decide, rfl, trivial⟩ rfl rfl)
set_option maxRecDepth 100000 in
set_option maxHeartbeats 4000000 in
theorem s_dec_left (k : Nat) (x4307 : Bool) (x4308 : Int) (x4309 : Int) (x4310 : Int) (x4311 : Bool) (x4312 : Int) (x4313 : Int) (x4314 : Int) (x4446 : Int) (x4447 : Int) (x4448 : Int) (H : g_dec_left k x4307 x4308 x4309 x4310 x4311 x4312 x4313 x4314 = some (x4446, x4447, x4448)) : Go.Q.Spec Try.prog 37 0 [.agg [.lit (.bool x4307), .lit (.int .u64 x4308), .lit (.int .u64 x4309), .lit (.int .i64 x4310)], .agg [.lit (.bool x4311), .lit (.int .u64 x4312), .lit (.int .u64 x4313), .lit (.int .i64 x4314)]] Mem.nil (fun o M => o = .ret (.agg [.lit (.bool x4307), .lit (.int .u64 x4446), .lit (.int .u64 x4447), .lit (.int .i64 x4448)]) ∧ M = (Mem.nil.push (.cells 47 [.lit (.bool x4307), .lit (.int .u64 x4446), .lit (.int .u64 x4447), .lit (.int .i64 x4448)]))) := by
 unfold g_dec_left at H
 refine Go.Q.Spec.of_bodyR (az := [(47, 4)]) (rs := [.cell 4 47]) (nt := 88) Try.func37 rfl rfl (by intro t T h; simp at h; rcases h with ⟨rfl, rfl⟩ <;> first | exact ag47) rfl rfl fun cx hnp => ?_
 refine WP.seq ?_
 refine WP.region ?_
 refine WPL.d (d_box rfl rfl) rfl ?_
 refine WPL.d (d_box rfl rfl) rfl ?_
 refine WPL.d (d_alloc ze47 rfl) rfl ?_
 refine WPL.nilW ?_
 refine W.now ?_
 refine Then.n ?_
 refine WP.seq ?_
 refine WP.seq ?_
 refine WP.region ?_
 refine WPL.q (q_fieldAddr fi47_2 rfl rfl) rfl ?_
 refine WPL.q (q_load sc3 rfl rfl rfl) rfl ?_
 refine WPL.q (q_fieldAddr fi47_2 rfl rfl) rfl ?_
 refine WPL.q (q_load sc3 rfl rfl rfl) rfl ?_
 refine WPL.q (q_geq rfl rfl) rfl ?_
 refine WPL.nilW ?_
 refine W.now ?_
 refine Then.n ?_
 refine WP.cond (t := (decide (x4314 ≤ x4310))) rfl (fun hb4480 => ?_) (fun hb4480 => ?_)
 · replace H := cnt hb4480 H
   refine WP.seq ?_
   refine WP.region ?_
   refine WPL.q (q_fieldAddr fi47_1 rfl rfl) rfl ?_
   refine WPL.q (q_fieldAddr fi43_1 rfl rfl) rfl ?_
   refine WPL.q (q_load sc38 rfl rfl rfl) rfl ?_
   refine WPL.q (q_fieldAddr fi47_1 rfl rfl) rfl ?_
   refine WPL.q (q_fieldAddr fi43_1 rfl rfl) rfl ?_
   refine WPL.q (q_load sc38 rfl rfl rfl) rfl ?_
   obtain ⟨h4481, H⟩ := grd H
   refine WPL.q (q_rem rfl rfl (bnot h4481)) rfl ?_
   refine WPL.q (q_as (v := .lit (.int _ _)) rfl) rfl ?_
   refine WPL.nilW ?_
   refine W.now ?_
   refine Then.n ?_
   refine WP.seq ?_
   refine WP.seq ?_
   refine WP.region ?_
   refine WPL.q (q_fieldAddr fi47_2 rfl rfl) rfl ?_
   refine WPL.q (q_load sc3 rfl rfl rfl) rfl ?_
   refine WPL.q (q_fieldAddr fi47_2 rfl rfl) rfl ?_
   refine WPL.q (q_load sc3 rfl rfl rfl) rfl ?_
   refine WPL.q (q_sub rfl rfl) rfl ?_
   refine WPL.q (q_mv (v := .lit (.int _ _)) rfl) rfl ?_
   refine WPL.nilW ?_
   refine W.now ?_
   refine Then.n ?_
   refine WP.block ?_
   refine WP.cv (Cv.weak (E' := ((((((Env.none.upd 2 (.ptr 0 0)).upd 3 (.ptr 1 0)).upd 4 (.ptr 2 0)).upd 5 (.lit (.int .u64 (Int.tmod x4309 x4313)))).upd 26 (.lit (.int .i64 (IntKind.wrap .i64 (x4310 - x4314))))).upd 27 (.lit (.int .i64 0)))) (M' := (((Mem.nil.push (.cells 47 [.lit (.bool x4307), .lit (.int .u64 x4308), .lit (.int .u64 x4309), .lit (.int .i64 x4310)])).push (.cells 47 [.lit (.bool x4311), .lit (.int .u64 x4312), .lit (.int .u64 x4313), .lit (.int .i64 x4314)])).push (.cells 47 [.lit (.bool false), .lit (.int .u64 0), .lit (.int .u64 0), .lit (.int .i64 0)]))) [0, 1, 2] hnp ⟨rfl, ⟨⟨⟨trivial, .inr ⟨rfl, rfl, rfl⟩⟩, .inr ⟨rfl, rfl, rfl⟩⟩, .inr ⟨rfl, rfl, rfl⟩⟩, by decide, rfl, trivial⟩ (LeE.upd rfl rfl (LeE.upd rfl rfl (LeE.upd rfl rfl (LeE.upd rfl rfl (LeE.upd rfl rfl (LeE.upd rfl rfl (LeE.none rfl rfl)))))))) ?_
   obtain ⟨x4511, H4524, H⟩ := bnd H
   refine WP.monoW (Q := fun x E M => x = .exit 0 ∧ E = ((((Env.none.upd 2 (.ptr 0 0)).upd 3 (.ptr 1 0)).upd 4 (.ptr 2 0)).upd 5 (.lit (.int .u64 x4511))) ∧ M = (((Mem.nil.push (.cells 47 [.lit (.bool x4307), .lit (.int .u64 x4308), .lit (.int .u64 x4309), .lit (.int .i64 x4310)])).push (.cells 47 [.lit (.bool x4311), .lit (.int .u64 x4312), .lit (.int .u64 x4313), .lit (.int .i64 x4314)])).push (.cells 47 [.lit (.bool false), .lit (.int .u64 0), .lit (.int .u64 0), .lit (.int .i64 0)]))) ?_ ?_
   · refine WP.loop (β := Int × Int) (fun n b => g_dec_left_l0 k x4310 x4313 x4314 n b.1 b.2 = some x4511) (fun b => ((((((Env.none.upd 2 (.ptr 0 0)).upd 3 (.ptr 1 0)).upd 4 (.ptr 2 0)).upd 5 (.lit (.int .u64 b.1))).upd 26 (.lit (.int .i64 (IntKind.wrap .i64 (x4310 - x4314))))).upd 27 (.lit (.int .i64 b.2)))) (fun b => (((Mem.nil.push (.cells 47 [.lit (.bool x4307), .lit (.int .u64 x4308), .lit (.int .u64 x4309), .lit (.int .i64 x4310)])).push (.cells 47 [.lit (.bool x4311), .lit (.int .u64 x4312), .lit (.int .u64 x4313), .lit (.int .i64 x4314)])).push (.cells 47 [.lit (.bool false), .lit (.int .u64 0), .lit (.int .u64 0), .lit (.int .i64 0)]))) k ((Int.tmod x4309 x4313), 0) H4524 rfl rfl ?_
     rintro n ⟨x4496, x4497⟩ H
     obtain _ | n := n
     · exact nf rfl H
     rw [g_dec_left_l0.eq_2] at H
     show WP _ _ _ _ ((((((Env.none.upd 2 (.ptr 0 0)).upd 3 (.ptr 1 0)).upd 4 (.ptr 2 0)).upd 5 (.lit (.int .u64 x4496))).upd 26 (.lit (.int .i64 (IntKind.wrap .i64 (x4310 - x4314))))).upd 27 (.lit (.int .i64 x4497))) (((Mem.nil.push (.cells 47 [.lit (.bool x4307), .lit (.int .u64 x4308), .lit (.int .u64 x4309), .lit (.int .i64 x4310)])).push (.cells 47 [.lit (.bool x4311), .lit (.int .u64 x4312), .lit (.int .u64 x4313), .lit (.int .i64 x4314)])).push (.cells 47 [.lit (.bool false), .lit (.int .u64 0), .lit (.int .u64 0), .lit (.int .i64 0)])) _
     refine WP.seq ?_
     refine WP.region ?_
     obtain ⟨x4512, h4512, H⟩ := bnd H
     refine WPL.q (q_nm (q_lss rfl rfl) (nm_bool h4512)) rfl ?_
     refine WPL.nilW ?_
     refine W.now ?_
     refine Then.n ?_
     refine WP.seq ?_
     refine WP.cond (t := x4512) rfl (fun hb4513 => ?_) (fun hb4513 => ?_)
     · replace H := cnt hb4513 H
       refine WP.skipW ?_
       refine W.now ?_
       refine Then.n ?_
       refine WP.seq ?_
       refine WP.block ?_
       refine WP.seq ?_
       refine WP.region ?_
       refine WPL.q (q_mv (v := .lit (.int _ _)) rfl) rfl ?_
       obtain ⟨x4516, h4514, H⟩ := bnd H
       refine WPL.c (runs_call (s := []) (t := []) (N := 3) (bor := []) fn53 rfl (s_math_bits_Mul64 k x4496 10 x4516 h4514) ⟨rfl, trivial, by decide, rfl, trivial⟩ rfl trivial (.ren rfl rfl (.ren rfl rfl .nil)) rfl trivial rfl) rfl ?_
       refine WPL.q (q_mv (v := .tup _) rfl) rfl ?_
       refine WPL.q (q_extract rfl rfl) rfl ?_
       refine WPL.q (q_extract rfl rfl) rfl ?_
       refine WPL.q (q_as (v := .lit (.int _ _)) rfl) rfl ?_
       refine WPL.q (q_as (v := .lit (.int _ _)) rfl) rfl ?_
       refine WPL.nilW ?_
       refine W.now ?_
       refine Then.n ?_
       refine WP.regionD' 14 [1] [] mixed rfl ?_
       refine WPD.takeT 0 rfl (by kernel_rfl) (q_mv (v := .lit (.int _ _)) rfl) rfl ?_
       refine WPD.takeT 1 rfl (by kernel_rfl) (q_fieldAddr fi47_1 rfl rfl) rfl ?_
       refine WPD.takeT 2 rfl (by kernel_rfl) (q_fieldAddr fi43_1 rfl rfl) rfl ?_
       refine WPD.takeT 5 rfl (by kernel_rfl) (q_mv (v := .lit (.int _ _)) rfl) rfl ?_
       refine WPD.takeT 6 rfl (by kernel_rfl) (q_fieldAddr fi47_1 rfl rfl) rfl ?_
       refine WPD.takeT 7 rfl (by kernel_rfl) (q_fieldAddr fi43_1 rfl rfl) rfl ?_
       refine WPD.take 3 rfl (by kernel_rfl) (q_load sc38 rfl rfl rfl) rfl rfl ?_
       obtain ⟨h4520, H⟩ := grd H
       refine WPD.takeT 4 rfl (by kernel_rfl) (q_rem rfl rfl (bnot h4520)) rfl ?_
       refine WPD.take 8 rfl (by kernel_rfl) (q_load sc38 rfl rfl rfl) rfl rfl ?_
       obtain ⟨⟨x4523, x4524⟩, h4521, H⟩ := bnd H
       refine WPD.eff 9 [1] [] rfl (by kernel_rfl) (runs_call (s := []) (t := []) (N := 3) (bor := []) fn64 rfl (s_math_bits_Div64 k (Int.tmod x4516 x4313) (IntKind.wrap .u64 (x4496 * 10)) x4313 x4523 x4524 h4521) ⟨rfl, trivial, by decide, rfl, trivial⟩ rfl trivial (.ren rfl rfl (.ren rfl rfl (.ren rfl rfl .nil))) rfl trivial rfl) rfl rfl ?_
       refine WPD.takeT 10 rfl (by kernel_rfl) (q_mv (v := .tup _) rfl) rfl ?_
       refine WPD.takeT 11 rfl (by kernel_rfl) (q_extract rfl rfl) rfl ?_
       refine WPD.takeT 12 rfl (by kernel_rfl) (q_extract rfl rfl) rfl ?_
       refine WPD.takeT 13 rfl (by kernel_rfl) (q_as (v := .lit (.int _ _)) rfl) rfl ?_
       refine WPD.doneW (by kernel_rfl) ?_
       refine W.now ?_
       refine InBlock.n ?_
       refine Then.n ?_
       refine WP.region ?_
       refine WPL.q (q_add rfl rfl) rfl ?_
       refine WPL.q (q_mv (v := .lit (.int _ _)) rfl) rfl ?_
       refine WPL.nilW ?_
       exact W.wk [0, 1, 2] hnp (Then.n ⟨n, (x4524, (IntKind.wrap .i64 (x4497 + 1))), Nat.lt_succ_self n, H, rfl, rfl⟩) ⟨rfl, ⟨⟨⟨trivial, .inr ⟨rfl, rfl, rfl⟩⟩, .inr ⟨rfl, rfl, rfl⟩⟩, .inr ⟨rfl, rfl, rfl⟩⟩, by decide, rfl, trivial⟩ (LeE.upd rfl rfl (LeE.upd rfl rfl (LeE.upd rfl rfl (LeE.upd rfl rfl (LeE.upd rfl rfl (LeE.upd rfl rfl (LeE.none rfl rfl))))))) rfl
     replace H := cnf hb4513 H
     refine WP.exitW ?_
     have q0 := (Option.some.inj H)
     subst q0
     exact W.wk [0, 1, 2] hnp (Then.x (Then.x ⟨rfl, rfl, rfl⟩)) ⟨rfl, ⟨⟨⟨trivial, .inr ⟨rfl, rfl, rfl⟩⟩, .inr ⟨rfl, rfl, rfl⟩⟩, .inr ⟨rfl, rfl, rfl⟩⟩, by decide, rfl, trivial⟩ (LeE.upd rfl rfl (LeE.upd rfl rfl (LeE.upd rfl rfl (LeE.upd rfl rfl (LeE.none rfl rfl))))) rfl
   rintro _ _ _ ⟨rfl, rfl, rfl⟩
   refine W.now ?_
   refine InBlock.x0 ?_
   refine Then.n ?_
   refine WP.seq ?_
   refine WP.region ?_
   refine WPL.q (q_fieldAddr fi47_0 rfl rfl) rfl ?_
   refine WPL.q (q_load sc4 rfl rfl rfl) rfl ?_
   refine WPL.q (q_mv (v := .lit (.int _ _)) rfl) rfl ?_
   refine WPL.q (q_build bu43 rfl) rfl ?_
   refine WPL.q (q_fieldAddr fi47_2 rfl rfl) rfl ?_
   refine WPL.q (q_load sc3 rfl rfl rfl) rfl ?_
   refine WPL.q (q_build bu47 rfl) rfl ?_
   refine WPL.s (s_store sz47 rfl rfl rfl rfl rfl) ?_
   refine WPL.nilW ?_
   refine W.now ?_
   refine Then.n ?_
   refine WP.retW ?_
   have q0 := (Prod.mk.inj (Option.some.inj H)).1
   have q1 := (Prod.mk.inj (Prod.mk.inj (Option.some.inj H)).2).1
   have q2 := (Prod.mk.inj (Prod.mk.inj (Option.some.inj H)).2).2
   subst q0
   subst q1
   subst q2
   exact W.now (Then.r (BodyR.mkR trivial rfl [2] ⟨rfl, rfl⟩ ⟨rfl, ⟨trivial, .inr ⟨rfl, rfl, rfl⟩⟩, by decide, rfl, trivial⟩ rfl rfl))
 replace H := cnf hb4480 H
 refine WP.skipW ?_
 refine W.now ?_
 refine Then.n ?_
 refine WP.seq ?_
 refine WP.region ?_
 refine WPL.q (q_fieldAddr fi47_1 rfl rfl) rfl ?_
 refine WPL.q (q_load_ag ag43 rfl rfl (Nat.le_of_ble_eq_true rfl)) rfl ?_
 refine WPL.q (q_fieldAddr fi47_2 rfl rfl) rfl ?_
 refine WPL.q (q_load sc3 rfl rfl rfl) rfl ?_
 refine WPL.q (q_fieldAddr fi47_2 rfl rfl) rfl ?_
 refine WPL.q (q_load sc3 rfl rfl rfl) rfl ?_
 refine WPL.q (q_sub rfl rfl) rfl ?_
 obtain ⟨⟨x4527, x4528, x4529⟩, h4525, H⟩ := bnd H
 refine WPL.c (runs_call (s := []) (t := [3]) (N := 4) (bor := []) fn60 rfl (s_dec_wide_tens k x4312 x4313 (IntKind.wrap .i64 (x4314 - x4310)) x4527 x4528 x4529 h4525) ⟨rfl, trivial, by decide, rfl, trivial⟩ rfl trivial (.ren rfl rfl (.ren rfl rfl .nil)) rfl ⟨trivial, rfl⟩ rfl) rfl ?_
 refine WPL.q (q_mv (v := .tup _) rfl) rfl ?_
 refine WPL.q (q_extract rfl rfl) rfl ?_
 refine WPL.q (q_extract rfl rfl) rfl ?_
 refine WPL.d (d_alloc ze43 rfl) rfl ?_
 refine WPL.s (s_store sz43 rfl rfl rfl rfl rfl) ?_
 refine WPL.q (q_as (v := .lit (.bool _)) rfl) rfl ?_
 refine WPL.nilW ?_
 refine W.now ?_
 refine Then.n ?_
 refine WP.seq ?_
 refine WP.seq ?_
 obtain ⟨x4542, H4545, H⟩ := bnd H
 refine WP.monoW (Q := fun x E M => x = .normal ∧ E = ((((Env.none.upd 2 (.ptr 0 0)).upd 4 (.ptr 1 0)).upd 8 (.ptr 2 0)).upd 74 (.lit (.bool x4542))) ∧ M = (((Mem.nil.push (.cells 47 [.lit (.bool x4307), .lit (.int .u64 x4308), .lit (.int .u64 x4309), .lit (.int .i64 x4310)])).push (.cells 47 [.lit (.bool false), .lit (.int .u64 0), .lit (.int .u64 0), .lit (.int .i64 0)])).push (.cells 43 [.lit (.int .u64 x4528), .lit (.int .u64 x4529)]))) ?_ ?_
 · clear H
   have H := H4545
   clear H4545
   refine WP.region ?_
   refine WPL.q (q_mv (v := .lit (.bool _)) rfl) rfl ?_
   refine WPL.q (q_not rfl) rfl ?_
   refine WPL.q (q_mv (v := .lit (.bool _)) rfl) rfl ?_
   refine WPL.split (t := 68) (b := (!x4527)) rfl (fun hb4542 => ?_) (fun hb4542 => ?_)
   · replace H := cnt hb4542 H
     refine WPL.skipg (b' := true) rfl rfl (lb hb4542) rfl rfl ?_
     refine WPL.skipg (b' := true) rfl rfl (lb hb4542) rfl rfl ?_
     refine WPL.skipg (b' := true) rfl rfl (lb hb4542) rfl rfl ?_
     refine WPL.skipg (b' := true) rfl rfl (lb hb4542) rfl rfl ?_
     refine WPL.skipg (b' := true) rfl rfl (lb hb4542) rfl rfl ?_
     refine WPL.q (q_pickT (v := .lit (.bool _)) (lb hb4542) rfl) rfl ?_
     refine WPL.nilW ?_
     have q0 := (Option.some.inj H)
     subst q0
     exact W.wk [0, 2, 4] hnp ⟨rfl, rfl, rfl⟩ ⟨rfl, ⟨⟨⟨trivial, .inr ⟨rfl, rfl, rfl⟩⟩, .inr ⟨rfl, rfl, rfl⟩⟩, .inr ⟨rfl, rfl, rfl⟩⟩, by decide, rfl, trivial⟩ (LeE.upd rfl rfl (LeE.upd rfl rfl (LeE.upd rfl rfl (LeE.upd rfl rfl (LeE.none rfl rfl))))) rfl
   replace H := cnf hb4542 H
   refine WPL.qg rfl rfl (lb hb4542) (q_load_ag ag43 rfl rfl (Nat.le_of_ble_eq_true rfl)) rfl ?_
   refine WPL.qg rfl rfl (lb hb4542) (q_fieldAddr fi47_1 rfl rfl) rfl ?_
   refine WPL.qg rfl rfl (lb hb4542) (q_load_ag ag43 rfl rfl (Nat.le_of_ble_eq_true rfl)) rfl ?_
   obtain ⟨x4545, h4543, H⟩ := bnd H
   refine WPL.cg rfl rfl (lb hb4542) (runs_call (s := []) (t := []) (N := 5) (bor := []) fn48 rfl (s_dec_wide_cmp k x4528 x4529 x4308 x4309 x4545 h4543) ⟨rfl, trivial, by decide, rfl, trivial⟩ rfl trivial (.ren rfl rfl (.ren rfl rfl .nil)) rfl trivial rfl) rfl ?_
   refine WPL.qg rfl rfl (lb hb4542) (q_gtr rfl rfl) rfl ?_
   refine WPL.q (q_pickF (v := .lit (.bool _)) (lb hb4542) rfl) rfl ?_
   refine WPL.nilW ?_
   have q0 := (Option.some.inj H)
   subst q0
   exact W.wk [0, 2, 4] hnp ⟨rfl, rfl, rfl⟩ ⟨rfl, ⟨⟨⟨trivial, .inr ⟨rfl, rfl, rfl⟩⟩, .inr ⟨rfl, rfl, rfl⟩⟩, .inr ⟨rfl, rfl, rfl⟩⟩, by decide, rfl, trivial⟩ (LeE.upd rfl rfl (LeE.upd rfl rfl (LeE.upd rfl rfl (LeE.upd rfl rfl (LeE.none rfl rfl))))) rfl
 rintro _ _ _ ⟨rfl, rfl, rfl⟩
 refine W.now ?_
 refine Then.n ?_
 refine WP.cond (t := x4542) rfl (fun hb4546 => ?_) (fun hb4546 => ?_)
 · replace H := cnt hb4546 H
   refine WP.seq ?_
   refine WP.region ?_
   refine WPL.q (q_load_ag ag47 rfl rfl (Nat.le_of_ble_eq_true rfl)) rfl ?_
   refine WPL.s (s_store sz47 rfl rfl rfl rfl rfl) ?_
   refine WPL.nilW ?_
   refine W.now ?_
   refine Then.n ?_
   refine WP.retW ?_
   have q0 := (Prod.mk.inj (Option.some.inj H)).1
   have q1 := (Prod.mk.inj (Prod.mk.inj (Option.some.inj H)).2).1
   have q2 := (Prod.mk.inj (Prod.mk.inj (Option.some.inj H)).2).2
   subst q0
   subst q1
   subst q2
   exact W.now (Then.r (BodyR.mkR trivial rfl [1] ⟨rfl, rfl⟩ ⟨rfl, ⟨trivial, .inr ⟨rfl, rfl, rfl⟩⟩, by decide, rfl, trivial⟩ rfl rfl))
 replace H := cnf hb4546 H
 refine WP.skipW ?_
 refine W.now ?_
 refine Then.n ?_
 refine WP.seq ?_
 refine WP.regionD' 13 [0, 2] [] mixed rfl ?_
 refine WPD.takeT 0 rfl (by kernel_rfl) (q_fieldAddr fi47_0 rfl rfl) rfl ?_
 refine WPD.takeT 2 rfl (by kernel_rfl) (q_fieldAddr fi47_1 rfl rfl) rfl ?_
 refine WPD.takeT 3 rfl (by kernel_rfl) (q_fieldAddr fi43_1 rfl rfl) rfl ?_
 refine WPD.takeT 5 rfl (by kernel_rfl) (q_fieldAddr fi43_1 rfl rfl) rfl ?_
 refine WPD.takeT 9 rfl (by kernel_rfl) (q_fieldAddr fi47_2 rfl rfl) rfl ?_
 refine WPD.take 1 rfl (by kernel_rfl) (q_load sc4 rfl rfl rfl) rfl rfl ?_
 refine WPD.take 4 rfl (by kernel_rfl) (q_load sc38 rfl rfl rfl) rfl rfl ?_
 refine WPD.take 6 rfl (by kernel_rfl) (q_load sc38 rfl rfl rfl) rfl rfl ?_
 obtain ⟨h4548, H⟩ := grd H
 refine WPD.takeT 7 rfl (by kernel_rfl) (q_rem rfl rfl (bnot h4548)) rfl ?_
 refine WPD.takeT 8 rfl (by kernel_rfl) (q_build bu43 rfl) rfl ?_
 refine WPD.take 10 rfl (by kernel_rfl) (q_load sc3 rfl rfl rfl) rfl rfl ?_
 refine WPD.takeT 11 rfl (by kernel_rfl) (q_build bu47 rfl) rfl ?_
 refine WPD.effS 12 [0, 2] [] rfl (by kernel_rfl) (s_store sz47 rfl rfl rfl rfl rfl) rfl ?_
 refine WPD.doneW (by kernel_rfl) ?_
 refine W.now ?_
 refine Then.n ?_
 refine WP.retW ?_
 have q0 := (Prod.mk.inj (Option.some.inj H)).1
 have q1 := (Prod.mk.inj (Prod.mk.inj (Option.some.inj H)).2).1
 have q2 := (Prod.mk.inj (Prod.mk.inj (Option.some.inj H)).2).2
 subst q0
 subst q1
 subst q2
 exact W.now (BodyR.mkR trivial rfl [1] ⟨rfl, rfl⟩ ⟨rfl, ⟨trivial, .inr ⟨rfl, rfl, rfl⟩⟩, by decide, rfl, trivial⟩ rfl rfl)
set_option maxRecDepth 100000 in
set_option maxHeartbeats 4000000 in
theorem s_dec_even (k : Nat) (x4695 : Int) (x4696 : Int) (x4697 : Int) (x4698 : Int) (x4867 : Bool) (x4868 : Int) (x4869 : Int) (x4870 : Int) (x4871 : Int) (x4872 : Int) (x4873 : Int) (H : g_dec_even k x4695 x4696 x4697 x4698 = some (x4867, x4868, x4869, x4870, x4871, x4872, x4873)) : Go.Q.Spec Try.prog 46 0 [.agg [.lit (.int .i64 x4695), .lit (.int .i64 x4696)], .agg [.lit (.int .i64 x4697), .lit (.int .i64 x4698)]] Mem.nil (fun o M => o = .ret (.tup [.agg [.lit (.bool (decide (x4695 < 0))), .lit (.int .u64 x4868), .lit (.int .u64 x4869), .lit (.int .i64 x4870)], .agg [.lit (.bool (decide (x4697 < 0))), .lit (.int .u64 x4871), .lit (.int .u64 x4872), .lit (.int .i64 x4873)], .lit (.bool x4867)]) ∧ M = ((Mem.nil.push (.cells 47 [.lit (.bool (decide (x4695 < 0))), .lit (.int .u64 x4868), .lit (.int .u64 x4869), .lit (.int .i64 x4870)])).push (.cells 47 [.lit (.bool (decide (x4697 < 0))), .lit (.int .u64 x4871), .lit (.int .u64 x4872), .lit (.int .i64 x4873)]))) := by
 unfold g_dec_even at H
 refine Go.Q.Spec.of_bodyR (az := [(47, 4)]) (rs := [.cell 4 47, .cell 5 47, .tmp 6]) (nt := 73) Try.func46 rfl rfl (by intro t T h; simp at h; rcases h with ⟨rfl, rfl⟩ | ⟨rfl, rfl⟩ <;> first | exact ag47 | exact ag47) rfl rfl fun cx hnp => ?_
 refine WP.seq ?_
 refine WP.region ?_
 refine WPL.d (d_box rfl rfl) rfl ?_
 refine WPL.d (d_box rfl rfl) rfl ?_
 refine WPL.d (d_alloc ze47 rfl) rfl ?_
 refine WPL.d (d_alloc ze47 rfl) rfl ?_
 refine WPL.q (q_as (v := .lit (.bool _)) rfl) rfl ?_
 refine WPL.nilW ?_
 refine W.now ?_
 refine Then.n ?_
 refine WP.seq ?_
 obtain ⟨⟨x4938, x4939⟩, H5003, H⟩ := bnd H
 refine WP.monoW (Q := fun x E M => x = .normal ∧ E = ((((Env.none.upd 4 (.ptr 0 0)).upd 5 (.ptr 1 0)).upd 7 (.ptr 2 0)).upd 8 (.ptr 3 0)) ∧ M = ((((Mem.nil.push (.cells 47 [.lit (.bool false), .lit (.int .u64 0), .lit (.int .u64 0), .lit (.int .i64 0)])).push (.cells 47 [.lit (.bool false), .lit (.int .u64 0), .lit (.int .u64 0), .lit (.int .i64 0)])).push (.cells 47 [.lit (.bool (decide (x4695 < 0))), .lit (.int .u64 0), .lit (.int .u64 x4938), .lit (.int .i64 x4696)])).push (.cells 47 [.lit (.bool (decide (x4697 < 0))), .lit (.int .u64 0), .lit (.int .u64 x4939), .lit (.int .i64 x4698)]))) ?_ ?_
 · clear H
   have H := H5003
   clear H5003
   refine WP.regionD' 8 [0, 1] [] mixed rfl ?_
   refine WPD.take 0 rfl (by kernel_rfl) (q_load_ag ag23 rfl rfl (Nat.le_of_ble_eq_true rfl)) rfl rfl ?_
   refine WPD.take 2 rfl (by kernel_rfl) (q_load_ag ag23 rfl rfl (Nat.le_of_ble_eq_true rfl)) rfl rfl ?_
   refine WPD.of3 1 4 5 (by kernel_rfl) ?_ ?_ ?_
   · obtain ⟨x4973, h4971, H⟩ := bnd H
     refine WPD1.eff 1 [0, 1] [] rfl (runs_call (s := []) (t := [4]) (N := 5) (bor := []) fn38 rfl (s_dec_of k x4695 x4696 x4973 h4971) ⟨rfl, trivial, by decide, rfl, trivial⟩ rfl trivial (.ren rfl rfl .nil) rfl ⟨trivial, rfl⟩ rfl) rfl rfl ?_
     refine WPD.of3 3 4 5 (by kernel_rfl) ?_ ?_ ?_
     · obtain ⟨x4975, h4973, H⟩ := bnd H
       refine WPD1.eff 3 [0, 1] [] rfl (runs_call (s := []) (t := [5]) (N := 6) (bor := []) fn38 rfl (s_dec_of k x4697 x4698 x4975 h4973) ⟨rfl, trivial, by decide, rfl, trivial⟩ rfl trivial (.ren rfl rfl .nil) rfl ⟨trivial, rfl⟩ rfl) rfl rfl ?_
       refine WPD.of2 4 5 (by kernel_rfl) ?_ ?_
       · refine WPD1.eff 4 [0, 1] [] rfl (Does.runs (d_alloc ze47 rfl)) rfl rfl ?_
         refine WPD.eff 5 [0, 1] [] rfl (by kernel_rfl) (Does.runs (d_alloc ze47 rfl)) rfl rfl ?_
         refine WPD.effS 6 [0, 1] [] rfl (by kernel_rfl) (s_store sz47 rfl rfl rfl rfl rfl) rfl ?_
         refine WPD.effS 7 [0, 1] [] rfl (by kernel_rfl) (s_store sz47 rfl rfl rfl rfl rfl) rfl ?_
         refine WPD.doneW (by kernel_rfl) ?_
         have q0 := (Prod.mk.inj (Option.some.inj H)).1
         have q1 := (Prod.mk.inj (Option.some.inj H)).2
         subst q0
         subst q1
         exact W.wk [2, 3, 6, 7] hnp ⟨rfl, rfl, rfl⟩ ⟨rfl, ⟨⟨⟨⟨trivial, .inr ⟨rfl, rfl, rfl⟩⟩, .inr ⟨rfl, rfl, rfl⟩⟩, .inr ⟨rfl, rfl, rfl⟩⟩, .inr ⟨rfl, rfl, rfl⟩⟩, by decide, rfl, trivial⟩ (LeE.upd rfl rfl (LeE.upd rfl rfl (LeE.upd rfl rfl (LeE.upd rfl rfl (LeE.none rfl rfl))))) rfl
       refine WPD1.eff 5 [0, 1] [] rfl (Does.runs (d_alloc ze47 rfl)) rfl rfl ?_
       refine WPD.eff 4 [0, 1] [] rfl (by kernel_rfl) (Does.runs (d_alloc ze47 rfl)) rfl rfl ?_
       refine WPD.effS 6 [0, 1] [] rfl (by kernel_rfl) (s_store sz47 rfl rfl rfl rfl rfl) rfl ?_
       refine WPD.effS 7 [0, 1] [] rfl (by kernel_rfl) (s_store sz47 rfl rfl rfl rfl rfl) rfl ?_
       refine WPD.doneW (by kernel_rfl) ?_
       have q0 := (Prod.mk.inj (Option.some.inj H)).1
       have q1 := (Prod.mk.inj (Option.some.inj H)).2
       subst q0
       subst q1
       exact W.wk [2, 3, 7, 6] hnp ⟨rfl, rfl, rfl⟩ ⟨rfl, ⟨⟨⟨⟨trivial, .inr ⟨rfl, rfl, rfl⟩⟩, .inr ⟨rfl, rfl, rfl⟩⟩, .inr ⟨rfl, rfl, rfl⟩⟩, .inr ⟨rfl, rfl, rfl⟩⟩, by decide, rfl, trivial⟩ (LeE.upd rfl rfl (LeE.upd rfl rfl (LeE.upd rfl rfl (LeE.upd rfl rfl (LeE.none rfl rfl))))) rfl
     · refine WPD1.eff 4 [0, 1] [] rfl (Does.runs (d_alloc ze47 rfl)) rfl rfl ?_
       refine WPD.of2 3 5 (by kernel_rfl) ?_ ?_
       · obtain ⟨x4977, h4975, H⟩ := bnd H
         refine WPD1.eff 3 [0, 1] [] rfl (runs_call (s := []) (t := [6]) (N := 7) (bor := []) fn38 rfl (s_dec_of k x4697 x4698 x4977 h4975) ⟨rfl, trivial, by decide, rfl, trivial⟩ rfl trivial (.ren rfl rfl .nil) rfl ⟨trivial, rfl⟩ rfl) rfl rfl ?_
         refine WPD.eff 5 [0, 1] [] rfl (by kernel_rfl) (Does.runs (d_alloc ze47 rfl)) rfl rfl ?_
         refine WPD.effS 6 [0, 1] [] rfl (by kernel_rfl) (s_store sz47 rfl rfl rfl rfl rfl) rfl ?_
         refine WPD.effS 7 [0, 1] [] rfl (by kernel_rfl) (s_store sz47 rfl rfl rfl rfl rfl) rfl ?_
         refine WPD.doneW (by kernel_rfl) ?_
         have q0 := (Prod.mk.inj (Option.some.inj H)).1
         have q1 := (Prod.mk.inj (Option.some.inj H)).2
         subst q0
         subst q1
         exact W.wk [2, 3, 5, 7] hnp ⟨rfl, rfl, rfl⟩ ⟨rfl, ⟨⟨⟨⟨trivial, .inr ⟨rfl, rfl, rfl⟩⟩, .inr ⟨rfl, rfl, rfl⟩⟩, .inr ⟨rfl, rfl, rfl⟩⟩, .inr ⟨rfl, rfl, rfl⟩⟩, by decide, rfl, trivial⟩ (LeE.upd rfl rfl (LeE.upd rfl rfl (LeE.upd rfl rfl (LeE.upd rfl rfl (LeE.none rfl rfl))))) rfl
       refine WPD1.eff 5 [0, 1] [] rfl (Does.runs (d_alloc ze47 rfl)) rfl rfl ?_
       obtain ⟨x4979, h4977, H⟩ := bnd H
       refine WPD.eff 3 [0, 1] [] rfl (by kernel_rfl) (runs_call (s := []) (t := [7]) (N := 8) (bor := []) fn38 rfl (s_dec_of k x4697 x4698 x4979 h4977) ⟨rfl, trivial, by decide, rfl, trivial⟩ rfl trivial (.ren rfl rfl .nil) rfl ⟨trivial, rfl⟩ rfl) rfl rfl ?_
       refine WPD.effS 6 [0, 1] [] rfl (by kernel_rfl) (s_store sz47 rfl rfl rfl rfl rfl) rfl ?_
       refine WPD.effS 7 [0, 1] [] rfl (by kernel_rfl) (s_store sz47 rfl rfl rfl rfl rfl) rfl ?_
       refine WPD.doneW (by kernel_rfl) ?_
       have q0 := (Prod.mk.inj (Option.some.inj H)).1
       have q1 := (Prod.mk.inj (Option.some.inj H)).2
       subst q0
       subst q1
       exact W.wk [2, 3, 5, 6] hnp ⟨rfl, rfl, rfl⟩ ⟨rfl, ⟨⟨⟨⟨trivial, .inr ⟨rfl, rfl, rfl⟩⟩, .inr ⟨rfl, rfl, rfl⟩⟩, .inr ⟨rfl, rfl, rfl⟩⟩, .inr ⟨rfl, rfl, rfl⟩⟩, by decide, rfl, trivial⟩ (LeE.upd rfl rfl (LeE.upd rfl rfl (LeE.upd rfl rfl (LeE.upd rfl rfl (LeE.none rfl rfl))))) rfl
     refine WPD1.eff 5 [0, 1] [] rfl (Does.runs (d_alloc ze47 rfl)) rfl rfl ?_
     refine WPD.of2 3 4 (by kernel_rfl) ?_ ?_
     · obtain ⟨x4981, h4979, H⟩ := bnd H
       refine WPD1.eff 3 [0, 1] [] rfl (runs_call (s := []) (t := [6]) (N := 7) (bor := []) fn38 rfl (s_dec_of k x4697 x4698 x4981 h4979) ⟨rfl, trivial, by decide, rfl, trivial⟩ rfl trivial (.ren rfl rfl .nil) rfl ⟨trivial, rfl⟩ rfl) rfl rfl ?_
       refine WPD.eff 4 [0, 1] [] rfl (by kernel_rfl) (Does.runs (d_alloc ze47 rfl)) rfl rfl ?_
       refine WPD.effS 6 [0, 1] [] rfl (by kernel_rfl) (s_store sz47 rfl rfl rfl rfl rfl) rfl ?_
       refine WPD.effS 7 [0, 1] [] rfl (by kernel_rfl) (s_store sz47 rfl rfl rfl rfl rfl) rfl ?_
       refine WPD.doneW (by kernel_rfl) ?_
       have q0 := (Prod.mk.inj (Option.some.inj H)).1
       have q1 := (Prod.mk.inj (Option.some.inj H)).2
       subst q0
       subst q1
       exact W.wk [2, 3, 7, 5] hnp ⟨rfl, rfl, rfl⟩ ⟨rfl, ⟨⟨⟨⟨trivial, .inr ⟨rfl, rfl, rfl⟩⟩, .inr ⟨rfl, rfl, rfl⟩⟩, .inr ⟨rfl, rfl, rfl⟩⟩, .inr ⟨rfl, rfl, rfl⟩⟩, by decide, rfl, trivial⟩ (LeE.upd rfl rfl (LeE.upd rfl rfl (LeE.upd rfl rfl (LeE.upd rfl rfl (LeE.none rfl rfl))))) rfl
     refine WPD1.eff 4 [0, 1] [] rfl (Does.runs (d_alloc ze47 rfl)) rfl rfl ?_
     obtain ⟨x4983, h4981, H⟩ := bnd H
     refine WPD.eff 3 [0, 1] [] rfl (by kernel_rfl) (runs_call (s := []) (t := [7]) (N := 8) (bor := []) fn38 rfl (s_dec_of k x4697 x4698 x4983 h4981) ⟨rfl, trivial, by decide, rfl, trivial⟩ rfl trivial (.ren rfl rfl .nil) rfl ⟨trivial, rfl⟩ rfl) rfl rfl ?_
     refine WPD.effS 6 [0, 1] [] rfl (by kernel_rfl) (s_store sz47 rfl rfl rfl rfl rfl) rfl ?_
     refine WPD.effS 7 [0, 1] [] rfl (by kernel_rfl) (s_store sz47 rfl rfl rfl rfl rfl) rfl ?_
     refine WPD.doneW (by kernel_rfl) ?_
     have q0 := (Prod.mk.inj (Option.some.inj H)).1
     have q1 := (Prod.mk.inj (Option.some.inj H)).2
     subst q0
     subst q1
     exact W.wk [2, 3, 6, 5] hnp ⟨rfl, rfl, rfl⟩ ⟨rfl, ⟨⟨⟨⟨trivial, .inr ⟨rfl, rfl, rfl⟩⟩, .inr ⟨rfl, rfl, rfl⟩⟩, .inr ⟨rfl, rfl, rfl⟩⟩, .inr ⟨rfl, rfl, rfl⟩⟩, by decide, rfl, trivial⟩ (LeE.upd rfl rfl (LeE.upd rfl rfl (LeE.upd rfl rfl (LeE.upd rfl rfl (LeE.none rfl rfl))))) rfl
   · refine WPD1.eff 4 [0, 1] [] rfl (Does.runs (d_alloc ze47 rfl)) rfl rfl ?_
     refine WPD.of2 1 5 (by kernel_rfl) ?_ ?_
     · obtain ⟨x4985, h4983, H⟩ := bnd H
       refine WPD1.eff 1 [0, 1] [] rfl (runs_call (s := []) (t := [5]) (N := 6) (bor := []) fn38 rfl (s_dec_of k x4695 x4696 x4985 h4983) ⟨rfl, trivial, by decide, rfl, trivial⟩ rfl trivial (.ren rfl rfl .nil) rfl ⟨trivial, rfl⟩ rfl) rfl rfl ?_
       refine WPD.of2 3 5 (by kernel_rfl) ?_ ?_
       · obtain ⟨x4987, h4985, H⟩ := bnd H
         refine WPD1.eff 3 [0, 1] [] rfl (runs_call (s := []) (t := [6]) (N := 7) (bor := []) fn38 rfl (s_dec_of k x4697 x4698 x4987 h4985) ⟨rfl, trivial, by decide, rfl, trivial⟩ rfl trivial (.ren rfl rfl .nil) rfl ⟨trivial, rfl⟩ rfl) rfl rfl ?_
         refine WPD.eff 5 [0, 1] [] rfl (by kernel_rfl) (Does.runs (d_alloc ze47 rfl)) rfl rfl ?_
         refine WPD.effS 6 [0, 1] [] rfl (by kernel_rfl) (s_store sz47 rfl rfl rfl rfl rfl) rfl ?_
         refine WPD.effS 7 [0, 1] [] rfl (by kernel_rfl) (s_store sz47 rfl rfl rfl rfl rfl) rfl ?_
         refine WPD.doneW (by kernel_rfl) ?_
         have q0 := (Prod.mk.inj (Option.some.inj H)).1
         have q1 := (Prod.mk.inj (Option.some.inj H)).2
         subst q0
         subst q1
         exact W.wk [2, 3, 4, 7] hnp ⟨rfl, rfl, rfl⟩ ⟨rfl, ⟨⟨⟨⟨trivial, .inr ⟨rfl, rfl, rfl⟩⟩, .inr ⟨rfl, rfl, rfl⟩⟩, .inr ⟨rfl, rfl, rfl⟩⟩, .inr ⟨rfl, rfl, rfl⟩⟩, by decide, rfl, trivial⟩ (LeE.upd rfl rfl (LeE.upd rfl rfl (LeE.upd rfl rfl (LeE.upd rfl rfl (LeE.none rfl rfl))))) rfl
       refine WPD1.eff 5 [0, 1] [] rfl (Does.runs (d_alloc ze47 rfl)) rfl rfl ?_
       obtain ⟨x4989, h4987, H⟩ := bnd H
       refine WPD.eff 3 [0, 1] [] rfl (by kernel_rfl) (runs_call (s := []) (t := [7]) (N := 8) (bor := []) fn38 rfl (s_dec_of k x4697 x4698 x4989 h4987) ⟨rfl, trivial, by decide, rfl, trivial⟩ rfl trivial (.ren rfl rfl .nil) rfl ⟨trivial, rfl⟩ rfl) rfl rfl ?_
       refine WPD.effS 6 [0, 1] [] rfl (by kernel_rfl) (s_store sz47 rfl rfl rfl rfl rfl) rfl ?_
       refine WPD.effS 7 [0, 1] [] rfl (by kernel_rfl) (s_store sz47 rfl rfl rfl rfl rfl) rfl ?_
       refine WPD.doneW (by kernel_rfl) ?_
       have q0 := (Prod.mk.inj (Option.some.inj H)).1
       have q1 := (Prod.mk.inj (Option.some.inj H)).2
       subst q0
       subst q1
       exact W.wk [2, 3, 4, 6] hnp ⟨rfl, rfl, rfl⟩ ⟨rfl, ⟨⟨⟨⟨trivial, .inr ⟨rfl, rfl, rfl⟩⟩, .inr ⟨rfl, rfl, rfl⟩⟩, .inr ⟨rfl, rfl, rfl⟩⟩, .inr ⟨rfl, rfl, rfl⟩⟩, by decide, rfl, trivial⟩ (LeE.upd rfl rfl (LeE.upd rfl rfl (LeE.upd rfl rfl (LeE.upd rfl rfl (LeE.none rfl rfl))))) rfl
     refine WPD1.eff 5 [0, 1] [] rfl (Does.runs (d_alloc ze47 rfl)) rfl rfl ?_
     obtain ⟨x4991, h4989, H⟩ := bnd H
     refine WPD.eff 1 [0, 1] [] rfl (by kernel_rfl) (runs_call (s := []) (t := [6]) (N := 7) (bor := []) fn38 rfl (s_dec_of k x4695 x4696 x4991 h4989) ⟨rfl, trivial, by decide, rfl, trivial⟩ rfl trivial (.ren rfl rfl .nil) rfl ⟨trivial, rfl⟩ rfl) rfl rfl ?_
     obtain ⟨x4993, h4991, H⟩ := bnd H
     refine WPD.eff 3 [0, 1] [] rfl (by kernel_rfl) (runs_call (s := []) (t := [7]) (N := 8) (bor := []) fn38 rfl (s_dec_of k x4697 x4698 x4993 h4991) ⟨rfl, trivial, by decide, rfl, trivial⟩ rfl trivial (.ren rfl rfl .nil) rfl ⟨trivial, rfl⟩ rfl) rfl rfl ?_
     refine WPD.effS 6 [0, 1] [] rfl (by kernel_rfl) (s_store sz47 rfl rfl rfl rfl rfl) rfl ?_
     refine WPD.effS 7 [0, 1] [] rfl (by kernel_rfl) (s_store sz47 rfl rfl rfl rfl rfl) rfl ?_
     refine WPD.doneW (by kernel_rfl) ?_
     have q0 := (Prod.mk.inj (Option.some.inj H)).1
     have q1 := (Prod.mk.inj (Option.some.inj H)).2
     subst q0
     subst q1
     exact W.wk [2, 3, 4, 5] hnp ⟨rfl, rfl, rfl⟩ ⟨rfl, ⟨⟨⟨⟨trivial, .inr ⟨rfl, rfl, rfl⟩⟩, .inr ⟨rfl, rfl, rfl⟩⟩, .inr ⟨rfl, rfl, rfl⟩⟩, .inr ⟨rfl, rfl, rfl⟩⟩, by decide, rfl, trivial⟩ (LeE.upd rfl rfl (LeE.upd rfl rfl (LeE.upd rfl rfl (LeE.upd rfl rfl (LeE.none rfl rfl))))) rfl
   refine WPD1.eff 5 [0, 1] [] rfl (Does.runs (d_alloc ze47 rfl)) rfl rfl ?_
   refine WPD.of2 1 4 (by kernel_rfl) ?_ ?_
   · obtain ⟨x4995, h4993, H⟩ := bnd H
     refine WPD1.eff 1 [0, 1] [] rfl (runs_call (s := []) (t := [5]) (N := 6) (bor := []) fn38 rfl (s_dec_of k x4695 x4696 x4995 h4993) ⟨rfl, trivial, by decide, rfl, trivial⟩ rfl trivial (.ren rfl rfl .nil) rfl ⟨trivial, rfl⟩ rfl) rfl rfl ?_
     refine WPD.of2 3 4 (by kernel_rfl) ?_ ?_
     · obtain ⟨x4997, h4995, H⟩ := bnd H
       refine WPD1.eff 3 [0, 1] [] rfl (runs_call (s := []) (t := [6]) (N := 7) (bor := []) fn38 rfl (s_dec_of k x4697 x4698 x4997 h4995) ⟨rfl, trivial, by decide, rfl, trivial⟩ rfl trivial (.ren rfl rfl .nil) rfl ⟨trivial, rfl⟩ rfl) rfl rfl ?_
       refine WPD.eff 4 [0, 1] [] rfl (by kernel_rfl) (Does.runs (d_alloc ze47 rfl)) rfl rfl ?_
       refine WPD.effS 6 [0, 1] [] rfl (by kernel_rfl) (s_store sz47 rfl rfl rfl rfl rfl) rfl ?_
       refine WPD.effS 7 [0, 1] [] rfl (by kernel_rfl) (s_store sz47 rfl rfl rfl rfl rfl) rfl ?_
       refine WPD.doneW (by kernel_rfl) ?_
       have q0 := (Prod.mk.inj (Option.some.inj H)).1
       have q1 := (Prod.mk.inj (Option.some.inj H)).2
       subst q0
       subst q1
       exact W.wk [2, 3, 7, 4] hnp ⟨rfl, rfl, rfl⟩ ⟨rfl, ⟨⟨⟨⟨trivial, .inr ⟨rfl, rfl, rfl⟩⟩, .inr ⟨rfl, rfl, rfl⟩⟩, .inr ⟨rfl, rfl, rfl⟩⟩, .inr ⟨rfl, rfl, rfl⟩⟩, by decide, rfl, trivial⟩ (LeE.upd rfl rfl (LeE.upd rfl rfl (LeE.upd rfl rfl (LeE.upd rfl rfl (LeE.none rfl rfl))))) rfl
     refine WPD1.eff 4 [0, 1] [] rfl (Does.runs (d_alloc ze47 rfl)) rfl rfl ?_
     obtain ⟨x4999, h4997, H⟩ := bnd H
     refine WPD.eff 3 [0, 1] [] rfl (by kernel_rfl) (runs_call (s := []) (t := [7]) (N := 8) (bor := []) fn38 rfl (s_dec_of k x4697 x4698 x4999 h4997) ⟨rfl, trivial, by decide, rfl, trivial⟩ rfl trivial (.ren rfl rfl .nil) rfl ⟨trivial, rfl⟩ rfl) rfl rfl ?_
     refine WPD.effS 6 [0, 1] [] rfl (by kernel_rfl) (s_store sz47 rfl rfl rfl rfl rfl) rfl ?_
     refine WPD.effS 7 [0, 1] [] rfl (by kernel_rfl) (s_store sz47 rfl rfl rfl rfl rfl) rfl ?_
     refine WPD.doneW (by kernel_rfl) ?_
     have q0 := (Prod.mk.inj (Option.some.inj H)).1
     have q1 := (Prod.mk.inj (Option.some.inj H)).2
     subst q0
     subst q1
     exact W.wk [2, 3, 6, 4] hnp ⟨rfl, rfl, rfl⟩ ⟨rfl, ⟨⟨⟨⟨trivial, .inr ⟨rfl, rfl, rfl⟩⟩, .inr ⟨rfl, rfl, rfl⟩⟩, .inr ⟨rfl, rfl, rfl⟩⟩, .inr ⟨rfl, rfl, rfl⟩⟩, by decide, rfl, trivial⟩ (LeE.upd rfl rfl (LeE.upd rfl rfl (LeE.upd rfl rfl (LeE.upd rfl rfl (LeE.none rfl rfl))))) rfl
   refine WPD1.eff 4 [0, 1] [] rfl (Does.runs (d_alloc ze47 rfl)) rfl rfl ?_
   obtain ⟨x5001, h4999, H⟩ := bnd H
   refine WPD.eff 1 [0, 1] [] rfl (by kernel_rfl) (runs_call (s := []) (t := [6]) (N := 7) (bor := []) fn38 rfl (s_dec_of k x4695 x4696 x5001 h4999) ⟨rfl, trivial, by decide, rfl, trivial⟩ rfl trivial (.ren rfl rfl .nil) rfl ⟨trivial, rfl⟩ rfl) rfl rfl ?_
   obtain ⟨x5003, h5001, H⟩ := bnd H
   refine WPD.eff 3 [0, 1] [] rfl (by kernel_rfl) (runs_call (s := []) (t := [7]) (N := 8) (bor := []) fn38 rfl (s_dec_of k x4697 x4698 x5003 h5001) ⟨rfl, trivial, by decide, rfl, trivial⟩ rfl trivial (.ren rfl rfl .nil) rfl ⟨trivial, rfl⟩ rfl) rfl rfl ?_
   refine WPD.effS 6 [0, 1] [] rfl (by kernel_rfl) (s_store sz47 rfl rfl rfl rfl rfl) rfl ?_
   refine WPD.effS 7 [0, 1] [] rfl (by kernel_rfl) (s_store sz47 rfl rfl rfl rfl rfl) rfl ?_
   refine WPD.doneW (by kernel_rfl) ?_
   have q0 := (Prod.mk.inj (Option.some.inj H)).1
   have q1 := (Prod.mk.inj (Option.some.inj H)).2
   subst q0
   subst q1
   exact W.wk [2, 3, 5, 4] hnp ⟨rfl, rfl, rfl⟩ ⟨rfl, ⟨⟨⟨⟨trivial, .inr ⟨rfl, rfl, rfl⟩⟩, .inr ⟨rfl, rfl, rfl⟩⟩, .inr ⟨rfl, rfl, rfl⟩⟩, .inr ⟨rfl, rfl, rfl⟩⟩, by decide, rfl, trivial⟩ (LeE.upd rfl rfl (LeE.upd rfl rfl (LeE.upd rfl rfl (LeE.upd rfl rfl (LeE.none rfl rfl))))) rfl
 rintro _ _ _ ⟨rfl, rfl, rfl⟩
 refine W.now ?_
 refine Then.n ?_
 refine WP.seq ?_
 refine WP.region ?_
 refine WPL.q (q_as (v := .lit (.bool _)) rfl) rfl ?_
 refine WPL.nilW ?_
 refine W.now ?_
 refine Then.n ?_
 refine WP.seq ?_
 obtain ⟨⟨x5019, x5020, x5021, x5022, x5023, x5024, x5025⟩, H5039, H⟩ := bnd H
 refine WP.monoW (Q := fun x E M => x = .normal ∧ E = (((((Env.none.upd 4 (.ptr 0 0)).upd 5 (.ptr 1 0)).upd 7 (.ptr 2 0)).upd 8 (.ptr 3 0)).upd 9 (.lit (.bool x5019))) ∧ M = ((((Mem.nil.push (.cells 47 [.lit (.bool false), .lit (.int .u64 0), .lit (.int .u64 0), .lit (.int .i64 0)])).push (.cells 47 [.lit (.bool false), .lit (.int .u64 0), .lit (.int .u64 0), .lit (.int .i64 0)])).push (.cells 47 [.lit (.bool (decide (x4695 < 0))), .lit (.int .u64 x5020), .lit (.int .u64 x5021), .lit (.int .i64 x5022)])).push (.cells 47 [.lit (.bool (decide (x4697 < 0))), .lit (.int .u64 x5023), .lit (.int .u64 x5024), .lit (.int .i64 x5025)]))) ?_ ?_
 · clear H
   have H := H5039
   clear H5039
   refine WP.block ?_
   refine WP.seq ?_
   refine WP.region ?_
   refine WPL.q (q_fieldAddr fi47_1 rfl rfl) rfl ?_
   refine WPL.q (q_load_ag ag43 rfl rfl (Nat.le_of_ble_eq_true rfl)) rfl ?_
   obtain ⟨_, h5025, H⟩ := bnd H
   refine WPL.c (runs_call (s := []) (t := []) (N := 4) (bor := []) fn58 rfl (s_dec_wide_zero k 0 x4938 h5025) ⟨rfl, trivial, by decide, rfl, trivial⟩ rfl trivial (.ren rfl rfl .nil) rfl trivial rfl) rfl ?_
   refine WPL.q (q_as (v := .lit (.bool _)) rfl) rfl ?_
   refine WPL.nilW ?_
   refine W.now ?_
   refine Then.n ?_
   refine WP.cond (t := (decide ((bits .or .u64 0 x4938) = 0))) rfl (fun hb5026 => ?_) (fun hb5026 => ?_)
   · replace H := cnt hb5026 H
     refine WP.region ?_
     refine WPL.q (q_fieldAddr fi47_2 rfl rfl) rfl ?_
     refine WPL.q (q_load sc3 rfl rfl rfl) rfl ?_
     refine WPL.q (q_fieldAddr fi47_2 rfl rfl) rfl ?_
     refine WPL.s (s_store sz3 rfl rfl rfl rfl rfl) ?_
     refine WPL.nilW ?_
     have q0 := (Prod.mk.inj (Option.some.inj H)).1
     have q1 := (Prod.mk.inj (Prod.mk.inj (Option.some.inj H)).2).1
     have q2 := (Prod.mk.inj (Prod.mk.inj (Prod.mk.inj (Option.some.inj H)).2).2).1
     have q3 := (Prod.mk.inj (Prod.mk.inj (Prod.mk.inj (Prod.mk.inj (Option.some.inj H)).2).2).2).1
     have q4 := (Prod.mk.inj (Prod.mk.inj (Prod.mk.inj (Prod.mk.inj (Prod.mk.inj (Option.some.inj H)).2).2).2).2).1
     have q5 := (Prod.mk.inj (Prod.mk.inj (Prod.mk.inj (Prod.mk.inj (Prod.mk.inj (Prod.mk.inj (Option.some.inj H)).2).2).2).2).2).1
     have q6 := (Prod.mk.inj (Prod.mk.inj (Prod.mk.inj (Prod.mk.inj (Prod.mk.inj (Prod.mk.inj (Option.some.inj H)).2).2).2).2).2).2
     subst q0
     subst q1
     subst q2
     subst q3
     subst q4
     subst q5
     subst q6
     exact W.wk [0, 1, 2, 3] hnp (InBlock.n ⟨rfl, rfl, rfl⟩) ⟨rfl, ⟨⟨⟨⟨trivial, .inr ⟨rfl, rfl, rfl⟩⟩, .inr ⟨rfl, rfl, rfl⟩⟩, .inr ⟨rfl, rfl, rfl⟩⟩, .inr ⟨rfl, rfl, rfl⟩⟩, by decide, rfl, trivial⟩ (LeE.upd rfl rfl (LeE.upd rfl rfl (LeE.upd rfl rfl (LeE.upd rfl rfl (LeE.upd rfl rfl (LeE.none rfl rfl)))))) rfl
   replace H := cnf hb5026 H
   refine WP.seq ?_
   refine WP.region ?_
   refine WPL.q (q_fieldAddr fi47_1 rfl rfl) rfl ?_
   refine WPL.q (q_load_ag ag43 rfl rfl (Nat.le_of_ble_eq_true rfl)) rfl ?_
   obtain ⟨_, h5027, H⟩ := bnd H
   refine WPL.c (runs_call (s := []) (t := []) (N := 4) (bor := []) fn58 rfl (s_dec_wide_zero k 0 x4939 h5027) ⟨rfl, trivial, by decide, rfl, trivial⟩ rfl trivial (.ren rfl rfl .nil) rfl trivial rfl) rfl ?_
   refine WPL.q (q_as (v := .lit (.bool _)) rfl) rfl ?_
   refine WPL.nilW ?_
   refine W.now ?_
   refine Then.n ?_
   refine WP.cond (t := (decide ((bits .or .u64 0 x4939) = 0))) rfl (fun hb5028 => ?_) (fun hb5028 => ?_)
   · replace H := cnt hb5028 H
     refine WP.region ?_
     refine WPL.q (q_fieldAddr fi47_2 rfl rfl) rfl ?_
     refine WPL.q (q_load sc3 rfl rfl rfl) rfl ?_
     refine WPL.q (q_fieldAddr fi47_2 rfl rfl) rfl ?_
     refine WPL.s (s_store sz3 rfl rfl rfl rfl rfl) ?_
     refine WPL.nilW ?_
     have q0 := (Prod.mk.inj (Option.some.inj H)).1
     have q1 := (Prod.mk.inj (Prod.mk.inj (Option.some.inj H)).2).1
     have q2 := (Prod.mk.inj (Prod.mk.inj (Prod.mk.inj (Option.some.inj H)).2).2).1
     have q3 := (Prod.mk.inj (Prod.mk.inj (Prod.mk.inj (Prod.mk.inj (Option.some.inj H)).2).2).2).1
     have q4 := (Prod.mk.inj (Prod.mk.inj (Prod.mk.inj (Prod.mk.inj (Prod.mk.inj (Option.some.inj H)).2).2).2).2).1
     have q5 := (Prod.mk.inj (Prod.mk.inj (Prod.mk.inj (Prod.mk.inj (Prod.mk.inj (Prod.mk.inj (Option.some.inj H)).2).2).2).2).2).1
     have q6 := (Prod.mk.inj (Prod.mk.inj (Prod.mk.inj (Prod.mk.inj (Prod.mk.inj (Prod.mk.inj (Option.some.inj H)).2).2).2).2).2).2
     subst q0
     subst q1
     subst q2
     subst q3
     subst q4
     subst q5
     subst q6
     exact W.wk [0, 1, 2, 3] hnp (InBlock.n ⟨rfl, rfl, rfl⟩) ⟨rfl, ⟨⟨⟨⟨trivial, .inr ⟨rfl, rfl, rfl⟩⟩, .inr ⟨rfl, rfl, rfl⟩⟩, .inr ⟨rfl, rfl, rfl⟩⟩, .inr ⟨rfl, rfl, rfl⟩⟩, by decide, rfl, trivial⟩ (LeE.upd rfl rfl (LeE.upd rfl rfl (LeE.upd rfl rfl (LeE.upd rfl rfl (LeE.upd rfl rfl (LeE.none rfl rfl)))))) rfl
   replace H := cnf hb5028 H
   refine WP.seq ?_
   refine WP.region ?_
   refine WPL.q (q_fieldAddr fi47_2 rfl rfl) rfl ?_
   refine WPL.q (q_load sc3 rfl rfl rfl) rfl ?_
   refine WPL.q (q_fieldAddr fi47_2 rfl rfl) rfl ?_
   refine WPL.q (q_load sc3 rfl rfl rfl) rfl ?_
   refine WPL.q (q_gtr rfl rfl) rfl ?_
   refine WPL.q (q_as (v := .lit (.bool _)) rfl) rfl ?_
   refine WPL.nilW ?_
   refine W.now ?_
   refine Then.n ?_
   refine WP.cond (t := (decide (x4698 < x4696))) rfl (fun hb5029 => ?_) (fun hb5029 => ?_)
   · replace H := cnt hb5029 H
     refine WP.seq ?_
     refine WP.region ?_
     refine WPL.q (q_fieldAddr fi47_1 rfl rfl) rfl ?_
     refine WPL.q (q_load_ag ag43 rfl rfl (Nat.le_of_ble_eq_true rfl)) rfl ?_
     refine WPL.q (q_fieldAddr fi47_2 rfl rfl) rfl ?_
     refine WPL.q (q_load sc3 rfl rfl rfl) rfl ?_
     refine WPL.q (q_fieldAddr fi47_2 rfl rfl) rfl ?_
     refine WPL.q (q_load sc3 rfl rfl rfl) rfl ?_
     refine WPL.q (q_sub rfl rfl) rfl ?_
     obtain ⟨⟨x5032, x5033, x5034⟩, h5030, H⟩ := bnd H
     refine WPL.c (runs_call (s := []) (t := [4]) (N := 5) (bor := []) fn60 rfl (s_dec_wide_tens k 0 x4938 (IntKind.wrap .i64 (x4696 - x4698)) x5032 x5033 x5034 h5030) ⟨rfl, trivial, by decide, rfl, trivial⟩ rfl trivial (.ren rfl rfl (.ren rfl rfl .nil)) rfl ⟨trivial, rfl⟩ rfl) rfl ?_
     refine WPL.q (q_mv (v := .tup _) rfl) rfl ?_
     refine WPL.q (q_extract rfl rfl) rfl ?_
     refine WPL.q (q_extract rfl rfl) rfl ?_
     refine WPL.q (q_fieldAddr fi47_1 rfl rfl) rfl ?_
     refine WPL.s (s_store sz43 rfl rfl rfl rfl rfl) ?_
     refine WPL.q (q_as (v := .lit (.bool _)) rfl) rfl ?_
     refine WPL.nilW ?_
     refine W.now ?_
     refine Then.n ?_
     refine WP.region ?_
     refine WPL.q (q_fieldAddr fi47_2 rfl rfl) rfl ?_
     refine WPL.q (q_load sc3 rfl rfl rfl) rfl ?_
     refine WPL.q (q_fieldAddr fi47_2 rfl rfl) rfl ?_
     refine WPL.s (s_store sz3 rfl rfl rfl rfl rfl) ?_
     refine WPL.nilW ?_
     have q0 := (Prod.mk.inj (Option.some.inj H)).1
     have q1 := (Prod.mk.inj (Prod.mk.inj (Option.some.inj H)).2).1
     have q2 := (Prod.mk.inj (Prod.mk.inj (Prod.mk.inj (Option.some.inj H)).2).2).1
     have q3 := (Prod.mk.inj (Prod.mk.inj (Prod.mk.inj (Prod.mk.inj (Option.some.inj H)).2).2).2).1
     have q4 := (Prod.mk.inj (Prod.mk.inj (Prod.mk.inj (Prod.mk.inj (Prod.mk.inj (Option.some.inj H)).2).2).2).2).1
     have q5 := (Prod.mk.inj (Prod.mk.inj (Prod.mk.inj (Prod.mk.inj (Prod.mk.inj (Prod.mk.inj (Option.some.inj H)).2).2).2).2).2).1
     have q6 := (Prod.mk.inj (Prod.mk.inj (Prod.mk.inj (Prod.mk.inj (Prod.mk.inj (Prod.mk.inj (Option.some.inj H)).2).2).2).2).2).2
     subst q0
     subst q1
     subst q2
     subst q3
     subst q4
     subst q5
     subst q6
     exact W.wk [0, 1, 2, 3] hnp (InBlock.n ⟨rfl, rfl, rfl⟩) ⟨rfl, ⟨⟨⟨⟨trivial, .inr ⟨rfl, rfl, rfl⟩⟩, .inr ⟨rfl, rfl, rfl⟩⟩, .inr ⟨rfl, rfl, rfl⟩⟩, .inr ⟨rfl, rfl, rfl⟩⟩, by decide, rfl, trivial⟩ (LeE.upd rfl rfl (LeE.upd rfl rfl (LeE.upd rfl rfl (LeE.upd rfl rfl (LeE.upd rfl rfl (LeE.none rfl rfl)))))) rfl
   replace H := cnf hb5029 H
   refine WP.seq ?_
   refine WP.region ?_
   refine WPL.q (q_fieldAddr fi47_2 rfl rfl) rfl ?_
   refine WPL.q (q_load sc3 rfl rfl rfl) rfl ?_
   refine WPL.q (q_fieldAddr fi47_2 rfl rfl) rfl ?_
   refine WPL.q (q_load sc3 rfl rfl rfl) rfl ?_
   refine WPL.q (q_gtr rfl rfl) rfl ?_
   refine WPL.q (q_as (v := .lit (.bool _)) rfl) rfl ?_
   refine WPL.nilW ?_
   refine W.now ?_
   refine Then.n ?_
   refine WP.cond (t := (decide (x4696 < x4698))) rfl (fun hb5034 => ?_) (fun hb5034 => ?_)
   · replace H := cnt hb5034 H
     refine WP.seq ?_
     refine WP.region ?_
     refine WPL.q (q_fieldAddr fi47_1 rfl rfl) rfl ?_
     refine WPL.q (q_load_ag ag43 rfl rfl (Nat.le_of_ble_eq_true rfl)) rfl ?_
     refine WPL.q (q_fieldAddr fi47_2 rfl rfl) rfl ?_
     refine WPL.q (q_load sc3 rfl rfl rfl) rfl ?_
     refine WPL.q (q_fieldAddr fi47_2 rfl rfl) rfl ?_
     refine WPL.q (q_load sc3 rfl rfl rfl) rfl ?_
     refine WPL.q (q_sub rfl rfl) rfl ?_
     obtain ⟨⟨x5037, x5038, x5039⟩, h5035, H⟩ := bnd H
     refine WPL.c (runs_call (s := []) (t := [4]) (N := 5) (bor := []) fn60 rfl (s_dec_wide_tens k 0 x4939 (IntKind.wrap .i64 (x4698 - x4696)) x5037 x5038 x5039 h5035) ⟨rfl, trivial, by decide, rfl, trivial⟩ rfl trivial (.ren rfl rfl (.ren rfl rfl .nil)) rfl ⟨trivial, rfl⟩ rfl) rfl ?_
     refine WPL.q (q_mv (v := .tup _) rfl) rfl ?_
     refine WPL.q (q_extract rfl rfl) rfl ?_
     refine WPL.q (q_extract rfl rfl) rfl ?_
     refine WPL.q (q_fieldAddr fi47_1 rfl rfl) rfl ?_
     refine WPL.s (s_store sz43 rfl rfl rfl rfl rfl) ?_
     refine WPL.q (q_as (v := .lit (.bool _)) rfl) rfl ?_
     refine WPL.nilW ?_
     refine W.now ?_
     refine Then.n ?_
     refine WP.region ?_
     refine WPL.q (q_fieldAddr fi47_2 rfl rfl) rfl ?_
     refine WPL.q (q_load sc3 rfl rfl rfl) rfl ?_
     refine WPL.q (q_fieldAddr fi47_2 rfl rfl) rfl ?_
     refine WPL.s (s_store sz3 rfl rfl rfl rfl rfl) ?_
     refine WPL.nilW ?_
     have q0 := (Prod.mk.inj (Option.some.inj H)).1
     have q1 := (Prod.mk.inj (Prod.mk.inj (Option.some.inj H)).2).1
     have q2 := (Prod.mk.inj (Prod.mk.inj (Prod.mk.inj (Option.some.inj H)).2).2).1
     have q3 := (Prod.mk.inj (Prod.mk.inj (Prod.mk.inj (Prod.mk.inj (Option.some.inj H)).2).2).2).1
     have q4 := (Prod.mk.inj (Prod.mk.inj (Prod.mk.inj (Prod.mk.inj (Prod.mk.inj (Option.some.inj H)).2).2).2).2).1
     have q5 := (Prod.mk.inj (Prod.mk.inj (Prod.mk.inj (Prod.mk.inj (Prod.mk.inj (Prod.mk.inj (Option.some.inj H)).2).2).2).2).2).1
     have q6 := (Prod.mk.inj (Prod.mk.inj (Prod.mk.inj (Prod.mk.inj (Prod.mk.inj (Prod.mk.inj (Option.some.inj H)).2).2).2).2).2).2
     subst q0
     subst q1
     subst q2
     subst q3
     subst q4
     subst q5
     subst q6
     exact W.wk [0, 1, 2, 3] hnp (InBlock.n ⟨rfl, rfl, rfl⟩) ⟨rfl, ⟨⟨⟨⟨trivial, .inr ⟨rfl, rfl, rfl⟩⟩, .inr ⟨rfl, rfl, rfl⟩⟩, .inr ⟨rfl, rfl, rfl⟩⟩, .inr ⟨rfl, rfl, rfl⟩⟩, by decide, rfl, trivial⟩ (LeE.upd rfl rfl (LeE.upd rfl rfl (LeE.upd rfl rfl (LeE.upd rfl rfl (LeE.upd rfl rfl (LeE.none rfl rfl)))))) rfl
   replace H := cnf hb5034 H
   refine WP.skipW ?_
   have q0 := (Prod.mk.inj (Option.some.inj H)).1
   have q1 := (Prod.mk.inj (Prod.mk.inj (Option.some.inj H)).2).1
   have q2 := (Prod.mk.inj (Prod.mk.inj (Prod.mk.inj (Option.some.inj H)).2).2).1
   have q3 := (Prod.mk.inj (Prod.mk.inj (Prod.mk.inj (Prod.mk.inj (Option.some.inj H)).2).2).2).1
   have q4 := (Prod.mk.inj (Prod.mk.inj (Prod.mk.inj (Prod.mk.inj (Prod.mk.inj (Option.some.inj H)).2).2).2).2).1
   have q5 := (Prod.mk.inj (Prod.mk.inj (Prod.mk.inj (Prod.mk.inj (Prod.mk.inj (Prod.mk.inj (Option.some.inj H)).2).2).2).2).2).1
   have q6 := (Prod.mk.inj (Prod.mk.inj (Prod.mk.inj (Prod.mk.inj (Prod.mk.inj (Prod.mk.inj (Option.some.inj H)).2).2).2).2).2).2
   subst q0
   subst q1
   subst q2
   subst q3
   subst q4
   subst q5
   subst q6
   exact W.wk [0, 1, 2, 3] hnp (InBlock.n ⟨rfl, rfl, rfl⟩) ⟨rfl, ⟨⟨⟨⟨trivial, .inr ⟨rfl, rfl, rfl⟩⟩, .inr ⟨rfl, rfl, rfl⟩⟩, .inr ⟨rfl, rfl, rfl⟩⟩, .inr ⟨rfl, rfl, rfl⟩⟩, by decide, rfl, trivial⟩ (LeE.upd rfl rfl (LeE.upd rfl rfl (LeE.upd rfl rfl (LeE.upd rfl rfl (LeE.upd rfl rfl (LeE.none rfl rfl)))))) rfl
 rintro _ _ _ ⟨rfl, rfl, rfl⟩
 refine W.now ?_
 refine Then.n ?_
 refine WP.seq ?_
 refine WP.regionD' 6 [2, 3] [] mixed rfl ?_
 refine WPD.takeT 2 rfl (by kernel_rfl) (q_mv (v := .lit (.bool _)) rfl) rfl ?_
 refine WPD.take 0 rfl (by kernel_rfl) (q_load_ag ag47 rfl rfl (Nat.le_of_ble_eq_true rfl)) rfl rfl ?_
 refine WPD.take 1 rfl (by kernel_rfl) (q_load_ag ag47 rfl rfl (Nat.le_of_ble_eq_true rfl)) rfl rfl ?_
 refine WPD.effS 3 [2, 3] [] rfl (by kernel_rfl) (s_store sz47 rfl rfl rfl rfl rfl) rfl ?_
 refine WPD.effS 4 [2, 3] [] rfl (by kernel_rfl) (s_store sz47 rfl rfl rfl rfl rfl) rfl ?_
 refine WPD.takeT 5 rfl (by kernel_rfl) (q_as (v := .lit (.bool _)) rfl) rfl ?_
 refine WPD.doneW (by kernel_rfl) ?_
 refine W.now ?_
 refine Then.n ?_
 refine WP.retW ?_
 have q0 := (Prod.mk.inj (Option.some.inj H)).1
 have q1 := (Prod.mk.inj (Prod.mk.inj (Option.some.inj H)).2).1
 have q2 := (Prod.mk.inj (Prod.mk.inj (Prod.mk.inj (Option.some.inj H)).2).2).1
 have q3 := (Prod.mk.inj (Prod.mk.inj (Prod.mk.inj (Prod.mk.inj (Option.some.inj H)).2).2).2).1
 have q4 := (Prod.mk.inj (Prod.mk.inj (Prod.mk.inj (Prod.mk.inj (Prod.mk.inj (Option.some.inj H)).2).2).2).2).1
 have q5 := (Prod.mk.inj (Prod.mk.inj (Prod.mk.inj (Prod.mk.inj (Prod.mk.inj (Prod.mk.inj (Option.some.inj H)).2).2).2).2).2).1
 have q6 := (Prod.mk.inj (Prod.mk.inj (Prod.mk.inj (Prod.mk.inj (Prod.mk.inj (Prod.mk.inj (Option.some.inj H)).2).2).2).2).2).2
 subst q0
 subst q1
 subst q2
 subst q3
 subst q4
 subst q5
 subst q6
 exact W.now (BodyR.mkR trivial rfl [0, 1] ⟨rfl, rfl⟩ ⟨rfl, ⟨⟨trivial, .inr ⟨rfl, rfl, rfl⟩⟩, .inr ⟨rfl, rfl, rfl⟩⟩, by decide, rfl, trivial⟩ rfl rfl)
set_option maxRecDepth 100000 in
set_option maxHeartbeats 4000000 in
theorem s_dec_wide_plus (k : Nat) (x5052 : Int) (x5053 : Int) (x5054 : Int) (x5055 : Int) (x5059 : Bool) (H : g_dec_wide_plus k x5052 x5053 x5054 x5055 = some x5059) : Go.Q.Spec Try.prog 47 0 [.agg [.lit (.int .u64 x5052), .lit (.int .u64 x5053)], .agg [.lit (.int .u64 x5054), .lit (.int .u64 x5055)]] Mem.nil (fun o M => o = .ret (.tup [.agg [.lit (.int .u64 ((add64 x5052 x5054 ((add64 x5053 x5055 0).2)).1)), .lit (.int .u64 ((add64 x5053 x5055 0).1))], .lit (.bool x5059)]) ∧ M = (Mem.nil.push (.cells 43 [.lit (.int .u64 ((add64 x5052 x5054 ((add64 x5053 x5055 0).2)).1)), .lit (.int .u64 ((add64 x5053 x5055 0).1))]))) := by
 unfold g_dec_wide_plus at H
 refine Go.Q.Spec.of_bodyR (az := [(43, 2)]) (rs := [.cell 4 43, .tmp 5]) (nt := 31) Try.func47 rfl rfl (by intro t T h; simp at h; rcases h with ⟨rfl, rfl⟩ <;> first | exact ag43) rfl rfl fun cx hnp => ?_
 refine WP.seq ?_
 refine WP.region ?_
 refine WPL.d (d_box rfl rfl) rfl ?_
 refine WPL.d (d_box rfl rfl) rfl ?_
 refine WPL.d (d_alloc ze43 rfl) rfl ?_
 refine WPL.q (q_as (v := .lit (.bool _)) rfl) rfl ?_
 refine WPL.nilW ?_
 refine W.now ?_
 refine Then.n ?_
 refine WP.seq ?_
 refine WP.region ?_
 refine WPL.q (q_fieldAddr fi43_1 rfl rfl) rfl ?_
 refine WPL.q (q_load sc38 rfl rfl rfl) rfl ?_
 refine WPL.q (q_fieldAddr fi43_1 rfl rfl) rfl ?_
 refine WPL.q (q_load sc38 rfl rfl rfl) rfl ?_
 refine WPL.q (q_add64 ex57 rfl rfl rfl rfl rfl) rfl ?_
 refine WPL.q (q_mv (v := .tup _) rfl) rfl ?_
 refine WPL.q (q_extract rfl rfl) rfl ?_
 refine WPL.q (q_extract rfl rfl) rfl ?_
 refine WPL.q (q_as (v := .lit (.int _ _)) rfl) rfl ?_
 refine WPL.q (q_as (v := .lit (.int _ _)) rfl) rfl ?_
 refine WPL.nilW ?_
 refine W.now ?_
 refine Then.n ?_
 refine WP.seq ?_
 refine WP.region ?_
 refine WPL.q (q_fieldAddr fi43_0 rfl rfl) rfl ?_
 refine WPL.q (q_load sc38 rfl rfl rfl) rfl ?_
 refine WPL.q (q_fieldAddr fi43_0 rfl rfl) rfl ?_
 refine WPL.q (q_load sc38 rfl rfl rfl) rfl ?_
 refine WPL.q (q_mv (v := .lit (.int _ _)) rfl) rfl ?_
 obtain ⟨h5059, H⟩ := grd H
 refine WPL.q (q_add64 ex57 rfl rfl rfl rfl h5059) rfl ?_
 refine WPL.q (q_mv (v := .tup _) rfl) rfl ?_
 refine WPL.q (q_extract rfl rfl) rfl ?_
 refine WPL.q (q_extract rfl rfl) rfl ?_
 refine WPL.q (q_as (v := .lit (.int _ _)) rfl) rfl ?_
 refine WPL.q (q_as (v := .lit (.int _ _)) rfl) rfl ?_
 refine WPL.nilW ?_
 refine W.now ?_
 refine Then.n ?_
 refine WP.seq ?_
 refine WP.region ?_
 refine WPL.q (q_mv (v := .lit (.int _ _)) rfl) rfl ?_
 refine WPL.q (q_mv (v := .lit (.int _ _)) rfl) rfl ?_
 refine WPL.q (q_build bu43 rfl) rfl ?_
 refine WPL.q (q_mv (v := .lit (.int _ _)) rfl) rfl ?_
 obtain ⟨x5061, h5061, H⟩ := bnd H
 refine WPL.q (q_nm (q_eql rfl rfl) (nm_bool h5061)) rfl ?_
 refine WPL.s (s_store sz43 rfl rfl rfl rfl rfl) ?_
 refine WPL.q (q_as (v := .lit (.bool _)) rfl) rfl ?_
 refine WPL.nilW ?_
 refine W.now ?_
 refine Then.n ?_
 refine WP.retW ?_
 have q0 := (Option.some.inj H)
 subst q0
 exact W.now (BodyR.mkR trivial rfl [2] ⟨rfl, rfl⟩ ⟨rfl, ⟨trivial, .inr ⟨rfl, rfl, rfl⟩⟩, by decide, rfl, trivial⟩ rfl rfl)
set_option maxRecDepth 100000 in
set_option maxHeartbeats 4000000 in
theorem s_dec_wide_less (k : Nat) (x5067 : Int) (x5068 : Int) (x5069 : Int) (x5070 : Int) (H : g_dec_wide_less k x5067 x5068 x5069 x5070 = some ()) : Go.Q.Spec Try.prog 49 0 [.agg [.lit (.int .u64 x5067), .lit (.int .u64 x5068)], .agg [.lit (.int .u64 x5069), .lit (.int .u64 x5070)]] Mem.nil (fun o M => o = .ret (.agg [.lit (.int .u64 ((sub64 x5067 x5069 ((sub64 x5068 x5070 0).2)).1)), .lit (.int .u64 ((sub64 x5068 x5070 0).1))]) ∧ M = (Mem.nil.push (.cells 43 [.lit (.int .u64 ((sub64 x5067 x5069 ((sub64 x5068 x5070 0).2)).1)), .lit (.int .u64 ((sub64 x5068 x5070 0).1))]))) := by
 unfold g_dec_wide_less at H
 refine Go.Q.Spec.of_bodyR (az := [(43, 2)]) (rs := [.cell 4 43]) (nt := 29) Try.func49 rfl rfl (by intro t T h; simp at h; rcases h with ⟨rfl, rfl⟩ <;> first | exact ag43) rfl rfl fun cx hnp => ?_
 refine WP.seq ?_
 refine WP.region ?_
 refine WPL.d (d_box rfl rfl) rfl ?_
 refine WPL.d (d_box rfl rfl) rfl ?_
 refine WPL.d (d_alloc ze43 rfl) rfl ?_
 refine WPL.nilW ?_
 refine W.now ?_
 refine Then.n ?_
 refine WP.seq ?_
 refine WP.region ?_
 refine WPL.q (q_fieldAddr fi43_1 rfl rfl) rfl ?_
 refine WPL.q (q_load sc38 rfl rfl rfl) rfl ?_
 refine WPL.q (q_fieldAddr fi43_1 rfl rfl) rfl ?_
 refine WPL.q (q_load sc38 rfl rfl rfl) rfl ?_
 refine WPL.q (q_sub64 ex67 rfl rfl rfl rfl rfl) rfl ?_
 refine WPL.q (q_mv (v := .tup _) rfl) rfl ?_
 refine WPL.q (q_extract rfl rfl) rfl ?_
 refine WPL.q (q_extract rfl rfl) rfl ?_
 refine WPL.q (q_as (v := .lit (.int _ _)) rfl) rfl ?_
 refine WPL.q (q_as (v := .lit (.int _ _)) rfl) rfl ?_
 refine WPL.nilW ?_
 refine W.now ?_
 refine Then.n ?_
 refine WP.seq ?_
 refine WP.region ?_
 refine WPL.q (q_fieldAddr fi43_0 rfl rfl) rfl ?_
 refine WPL.q (q_load sc38 rfl rfl rfl) rfl ?_
 refine WPL.q (q_fieldAddr fi43_0 rfl rfl) rfl ?_
 refine WPL.q (q_load sc38 rfl rfl rfl) rfl ?_
 refine WPL.q (q_mv (v := .lit (.int _ _)) rfl) rfl ?_
 obtain ⟨h5072, H⟩ := grd H
 refine WPL.q (q_sub64 ex67 rfl rfl rfl rfl h5072) rfl ?_
 refine WPL.q (q_mv (v := .tup _) rfl) rfl ?_
 refine WPL.q (q_extract rfl rfl) rfl ?_
 refine WPL.q (q_extract rfl rfl) rfl ?_
 refine WPL.q (q_as (v := .lit (.int _ _)) rfl) rfl ?_
 refine WPL.q (q_as (v := .lit (.int _ _)) rfl) rfl ?_
 refine WPL.nilW ?_
 refine W.now ?_
 refine Then.n ?_
 refine WP.seq ?_
 refine WP.region ?_
 refine WPL.q (q_mv (v := .lit (.int _ _)) rfl) rfl ?_
 refine WPL.q (q_mv (v := .lit (.int _ _)) rfl) rfl ?_
 refine WPL.q (q_build bu43 rfl) rfl ?_
 refine WPL.s (s_store sz43 rfl rfl rfl rfl rfl) ?_
 refine WPL.nilW ?_
 refine W.now ?_
 refine Then.n ?_
 refine WP.retW ?_
 exact W.now (BodyR.mkR trivial rfl [2] ⟨rfl, rfl⟩ ⟨rfl, ⟨trivial, .inr ⟨rfl, rfl, rfl⟩⟩, by decide, rfl, trivial⟩ rfl rfl)
set_option maxRecDepth 100000 in
set_option maxHeartbeats 4000000 in
theorem s_dec_Add (k : Nat) (x4676 : Int) (x4677 : Int) (x4678 : Int) (x4679 : Int) (x5102 : Int) (x5103 : Int) (x5104 : Int) (H : g_dec_Add k x4676 x4677 x4678 x4679 = some (x5102, x5103, x5104)) : Go.Q.Spec Try.prog 14 0 [.agg [.lit (.int .i64 x4676), .lit (.int .i64 x4677)], .agg [.lit (.int .i64 x4678), .lit (.int .i64 x4679)]] Mem.nil (fun o M => o = .ret (.tup [.agg [.lit (.int .i64 x5103), .lit (.int .i64 x5104)], .lit (.int .i64 x5102)]) ∧ M = (Mem.nil.push (.cells 23 [.lit (.int .i64 x5103), .lit (.int .i64 x5104)]))) := by
 unfold g_dec_Add at H
 refine Go.Q.Spec.of_bodyR (az := [(23, 2)]) (rs := [.cell 4 23, .tmp 5]) (nt := 68) Try.func14 rfl rfl (by intro t T h; simp at h; rcases h with ⟨rfl, rfl⟩ <;> first | exact ag23) rfl rfl fun cx hnp => ?_
 refine WP.seq ?_
 refine WP.region ?_
 refine WPL.d (d_box rfl rfl) rfl ?_
 refine WPL.d (d_box rfl rfl) rfl ?_
 refine WPL.d (d_alloc ze23 rfl) rfl ?_
 refine WPL.q (q_as (v := .lit (.int _ _)) rfl) rfl ?_
 refine WPL.nilW ?_
 refine W.now ?_
 refine Then.n ?_
 refine WP.seq ?_
 refine WP.seq ?_
 refine WP.region ?_
 refine WPL.d (d_buildCells li81 rfl rfl rfl rfl rfl) rfl ?_
 obtain ⟨⟨x5113, x5114, x5115, x5116, x5117⟩, h5111, H⟩ := bnd H
 refine WPL.c (runs_call (s := [3, 0, 1]) (t := [3, 0, 1]) (N := 4) (bor := []) fn27 rfl (s_dec_clean k x4676 x4677 x4678 x4679 x5113 x5114 x5115 x5116 x5117 h5111) ⟨rfl, ⟨⟨⟨trivial, .inr ⟨rfl, rfl, rfl⟩⟩, .inr ⟨rfl, rfl, rfl⟩⟩, .inr ⟨rfl, rfl, rfl⟩⟩, by decide, rfl, trivial⟩ rfl trivial (.ren rfl rfl .nil) rfl ⟨⟨⟨trivial, rfl⟩, rfl⟩, rfl⟩ rfl) rfl ?_
 refine WPL.q (q_not rfl) rfl ?_
 refine WPL.nilW ?_
 refine W.now ?_
 refine Then.n ?_
 refine WP.cond (t := (!x5113)) rfl (fun hb5117 => ?_) (fun hb5117 => ?_)
 · replace H := cnt hb5117 H
   refine WP.seq ?_
   refine WP.region ?_
   refine WPL.q (q_build bu23 rfl) rfl ?_
   refine WPL.s (s_store sz23 rfl rfl rfl rfl rfl) ?_
   refine WPL.q (q_as (v := .lit (.int _ _)) rfl) rfl ?_
   refine WPL.nilW ?_
   refine W.now ?_
   refine Then.n ?_
   refine WP.retW ?_
   have q0 := (Prod.mk.inj (Option.some.inj H)).1
   have q1 := (Prod.mk.inj (Prod.mk.inj (Option.some.inj H)).2).1
   have q2 := (Prod.mk.inj (Prod.mk.inj (Option.some.inj H)).2).2
   subst q0
   subst q1
   subst q2
   exact W.now (Then.r (BodyR.mkR trivial rfl [2] ⟨rfl, rfl⟩ ⟨rfl, ⟨trivial, .inr ⟨rfl, rfl, rfl⟩⟩, by decide, rfl, trivial⟩ rfl rfl))
 replace H := cnf hb5117 H
 refine WP.skipW ?_
 refine W.now ?_
 refine Then.n ?_
 refine WP.seq ?_
 refine WP.region ?_
 refine WPL.q (q_load_ag ag23 rfl rfl (Nat.le_of_ble_eq_true rfl)) rfl ?_
 refine WPL.q (q_load_ag ag23 rfl rfl (Nat.le_of_ble_eq_true rfl)) rfl ?_
 obtain ⟨⟨x5120, x5121, x5122, x5123, x5124, x5125, x5126⟩, h5118, H⟩ := bnd H
 refine WPL.c (runs_call (s := []) (t := [4, 5]) (N := 6) (bor := []) fn46 rfl (s_dec_even k x5114 x5115 x5116 x5117 x5120 x5121 x5122 x5123 x5124 x5125 x5126 h5118) ⟨rfl, trivial, by decide, rfl, trivial⟩ rfl trivial (.ren rfl rfl (.ren rfl rfl .nil)) rfl ⟨⟨trivial, rfl⟩, rfl⟩ rfl) rfl ?_
 refine WPL.q (q_mv (v := .tup _) rfl) rfl ?_
 refine WPL.q (q_extract rfl rfl) rfl ?_
 refine WPL.q (q_extract rfl rfl) rfl ?_
 refine WPL.q (q_extract rfl rfl) rfl ?_
 refine WPL.d (d_alloc ze47 rfl) rfl ?_
 refine WPL.d (d_alloc ze47 rfl) rfl ?_
 refine WPL.s (s_store sz47 rfl rfl rfl rfl rfl) ?_
 refine WPL.s (s_store sz47 rfl rfl rfl rfl rfl) ?_
 refine WPL.q (q_as (v := .lit (.bool _)) rfl) rfl ?_
 refine WPL.nilW ?_
 refine W.now ?_
 refine Then.n ?_
 refine WP.seq ?_
 obtain ⟨y5156, H5154, H⟩ := bnd H
 refine WP.monoW (Q := fun x E M => match (generalizing := false) y5156 with | (Sum.inl _) => x = .ret ∧ E = ((Env.none.upd 4 (.ptr 0 0)).upd 5 (.lit (.int .i64 30))) ∧ M = (Mem.nil.push (.cells 23 [.lit (.int .i64 0), .lit (.int .i64 0)])) | (Sum.inr (x5139, x5140, x5141, x5142)) => x = .normal ∧ E = (((Env.none.upd 4 (.ptr 0 0)).upd 6 (.ptr 1 0)).upd 8 (.lit (.bool x5139))) ∧ M = ((Mem.nil.push (.cells 23 [.lit (.int .i64 0), .lit (.int .i64 0)])).push (.cells 47 [.lit (.bool x5140), .lit (.int .u64 x5141), .lit (.int .u64 x5142), .lit (.int .i64 x5123)]))) ?_ ?_
 · clear H
   have H := H5154
   clear H5154
   refine WP.block ?_
   refine WP.seq ?_
   refine WP.region ?_
   refine WPL.q (q_mv (v := .lit (.bool _)) rfl) rfl ?_
   refine WPL.q (q_not rfl) rfl ?_
   refine WPL.q (q_as (v := .lit (.bool _)) rfl) rfl ?_
   refine WPL.nilW ?_
   refine W.now ?_
   refine Then.n ?_
   refine WP.cond (t := (!x5120)) rfl (fun hb5142 => ?_) (fun hb5142 => ?_)
   · replace H := cnt hb5142 H
     refine WP.seq ?_
     refine WP.region ?_
     refine WPL.q (q_build bu23 rfl) rfl ?_
     refine WPL.s (s_store sz23 rfl rfl rfl rfl rfl) ?_
     refine WPL.q (q_as (v := .lit (.int _ _)) rfl) rfl ?_
     refine WPL.nilW ?_
     refine W.now ?_
     refine Then.n ?_
     refine WP.retW ?_
     have q0 := Option.some.inj H
     subst q0
     exact W.wk [2] hnp (InBlock.r ⟨rfl, rfl, rfl⟩) ⟨rfl, ⟨trivial, .inr ⟨rfl, rfl, rfl⟩⟩, by decide, rfl, trivial⟩ (LeE.upd rfl rfl (LeE.upd rfl rfl (LeE.none rfl rfl))) rfl
   replace H := cnf hb5142 H
   refine WP.seq ?_
   refine WP.region ?_
   refine WPL.q (q_fieldAddr fi47_0 rfl rfl) rfl ?_
   refine WPL.q (q_load sc4 rfl rfl rfl) rfl ?_
   refine WPL.q (q_fieldAddr fi47_0 rfl rfl) rfl ?_
   refine WPL.q (q_load sc4 rfl rfl rfl) rfl ?_
   obtain ⟨x5144, h5144, H⟩ := bnd H
   refine WPL.q (q_nm (q_eqlb Try.underlying4 rfl rfl) (nm_bool h5144)) rfl ?_
   refine WPL.q (q_as (v := .lit (.bool _)) rfl) rfl ?_
   refine WPL.nilW ?_
   refine W.now ?_
   refine Then.n ?_
   refine WP.cond (t := x5144) rfl (fun hb5144 => ?_) (fun hb5144 => ?_)
   · replace H := cnt hb5144 H
     refine WP.region ?_
     refine WPL.q (q_fieldAddr fi47_1 rfl rfl) rfl ?_
     refine WPL.q (q_load_ag ag43 rfl rfl (Nat.le_of_ble_eq_true rfl)) rfl ?_
     refine WPL.q (q_fieldAddr fi47_1 rfl rfl) rfl ?_
     refine WPL.q (q_load_ag ag43 rfl rfl (Nat.le_of_ble_eq_true rfl)) rfl ?_
     obtain ⟨x5147, h5145, H⟩ := bnd H
     refine WPL.c (runs_call (s := []) (t := [8]) (N := 9) (bor := []) fn47 rfl (s_dec_wide_plus k x5121 x5122 x5124 x5125 x5147 h5145) ⟨rfl, trivial, by decide, rfl, trivial⟩ rfl trivial (.ren rfl rfl (.ren rfl rfl .nil)) rfl ⟨trivial, rfl⟩ rfl) rfl ?_
     refine WPL.q (q_mv (v := .tup _) rfl) rfl ?_
     refine WPL.q (q_extract rfl rfl) rfl ?_
     refine WPL.q (q_extract rfl rfl) rfl ?_
     refine WPL.q (q_fieldAddr fi47_1 rfl rfl) rfl ?_
     refine WPL.s (s_store sz43 rfl rfl rfl rfl rfl) ?_
     refine WPL.q (q_as (v := .lit (.bool _)) rfl) rfl ?_
     refine WPL.nilW ?_
     have q0 := Option.some.inj H
     subst q0
     exact W.wk [2, 6] hnp (InBlock.n ⟨rfl, rfl, rfl⟩) ⟨rfl, ⟨⟨trivial, .inr ⟨rfl, rfl, rfl⟩⟩, .inr ⟨rfl, rfl, rfl⟩⟩, by decide, rfl, trivial⟩ (LeE.upd rfl rfl (LeE.upd rfl rfl (LeE.upd rfl rfl (LeE.none rfl rfl)))) rfl
   replace H := cnf hb5144 H
   refine WP.seq ?_
   refine WP.region ?_
   refine WPL.q (q_fieldAddr fi47_1 rfl rfl) rfl ?_
   refine WPL.q (q_load_ag ag43 rfl rfl (Nat.le_of_ble_eq_true rfl)) rfl ?_
   refine WPL.q (q_fieldAddr fi47_1 rfl rfl) rfl ?_
   refine WPL.q (q_load_ag ag43 rfl rfl (Nat.le_of_ble_eq_true rfl)) rfl ?_
   obtain ⟨x5149, h5147, H⟩ := bnd H
   refine WPL.c (runs_call (s := []) (t := []) (N := 8) (bor := []) fn48 rfl (s_dec_wide_cmp k x5121 x5122 x5124 x5125 x5149 h5147) ⟨rfl, trivial, by decide, rfl, trivial⟩ rfl trivial (.ren rfl rfl (.ren rfl rfl .nil)) rfl trivial rfl) rfl ?_
   refine WPL.q (q_geq rfl rfl) rfl ?_
   refine WPL.q (q_as (v := .lit (.bool _)) rfl) rfl ?_
   refine WPL.nilW ?_
   refine W.now ?_
   refine Then.n ?_
   refine WP.cond (t := (decide (0 ≤ x5149))) rfl (fun hb5149 => ?_) (fun hb5149 => ?_)
   · replace H := cnt hb5149 H
     refine WP.region ?_
     refine WPL.q (q_fieldAddr fi47_1 rfl rfl) rfl ?_
     refine WPL.q (q_load_ag ag43 rfl rfl (Nat.le_of_ble_eq_true rfl)) rfl ?_
     refine WPL.q (q_fieldAddr fi47_1 rfl rfl) rfl ?_
     refine WPL.q (q_load_ag ag43 rfl rfl (Nat.le_of_ble_eq_true rfl)) rfl ?_
     obtain ⟨_, h5150, H⟩ := bnd H
     refine WPL.c (runs_call (s := []) (t := [8]) (N := 9) (bor := []) fn49 rfl (s_dec_wide_less k x5121 x5122 x5124 x5125 h5150) ⟨rfl, trivial, by decide, rfl, trivial⟩ rfl trivial (.ren rfl rfl (.ren rfl rfl .nil)) rfl ⟨trivial, rfl⟩ rfl) rfl ?_
     refine WPL.q (q_fieldAddr fi47_1 rfl rfl) rfl ?_
     refine WPL.s (s_store sz43 rfl rfl rfl rfl rfl) ?_
     refine WPL.nilW ?_
     have q0 := Option.some.inj H
     subst q0
     exact W.wk [2, 6] hnp (InBlock.n ⟨rfl, rfl, rfl⟩) ⟨rfl, ⟨⟨trivial, .inr ⟨rfl, rfl, rfl⟩⟩, .inr ⟨rfl, rfl, rfl⟩⟩, by decide, rfl, trivial⟩ (LeE.upd rfl rfl (LeE.upd rfl rfl (LeE.upd rfl rfl (LeE.none rfl rfl)))) rfl
   replace H := cnf hb5149 H
   refine WP.regionD' 11 [6, 7] [8] mixed rfl ?_
   refine WPD.takeT 0 rfl (by kernel_rfl) (q_fieldAddr fi47_0 rfl rfl) rfl ?_
   refine WPD.takeT 2 rfl (by kernel_rfl) (q_fieldAddr fi47_1 rfl rfl) rfl ?_
   refine WPD.takeT 4 rfl (by kernel_rfl) (q_fieldAddr fi47_1 rfl rfl) rfl ?_
   refine WPD.take 1 rfl (by kernel_rfl) (q_load sc4 rfl rfl rfl) rfl rfl ?_
   refine WPD.take 3 rfl (by kernel_rfl) (q_load_ag ag43 rfl rfl (Nat.le_of_ble_eq_true rfl)) rfl rfl ?_
   refine WPD.take 5 rfl (by kernel_rfl) (q_load_ag ag43 rfl rfl (Nat.le_of_ble_eq_true rfl)) rfl rfl ?_
   refine WPD.takeT 7 rfl (by kernel_rfl) (q_fieldAddr fi47_0 rfl rfl) rfl ?_
   obtain ⟨_, h5153, H⟩ := bnd H
   refine WPD.eff 6 [6, 7] [8] rfl (by kernel_rfl) (runs_call (s := []) (t := [8]) (N := 9) (bor := []) fn49 rfl (s_dec_wide_less k x5124 x5125 x5121 x5122 h5153) ⟨rfl, trivial, by decide, rfl, trivial⟩ rfl trivial (.ren rfl rfl (.ren rfl rfl .nil)) rfl ⟨trivial, rfl⟩ rfl) rfl rfl ?_
   refine WPD.effS 8 [] [] rfl (by kernel_rfl) (s_store sz4 rfl rfl rfl rfl rfl) rfl ?_
   refine WPD.takeT 9 rfl (by kernel_rfl) (q_fieldAddr fi47_1 rfl rfl) rfl ?_
   refine WPD.effS 10 [] [] rfl (by kernel_rfl) (s_store sz43 rfl rfl rfl rfl rfl) rfl ?_
   refine WPD.doneW (by kernel_rfl) ?_
   have q0 := Option.some.inj H
   subst q0
   exact W.wk [2, 6] hnp (InBlock.n ⟨rfl, rfl, rfl⟩) ⟨rfl, ⟨⟨trivial, .inr ⟨rfl, rfl, rfl⟩⟩, .inr ⟨rfl, rfl, rfl⟩⟩, by decide, rfl, trivial⟩ (LeE.upd rfl rfl (LeE.upd rfl rfl (LeE.upd rfl rfl (LeE.none rfl rfl)))) rfl
 rcases y5156 with _ | ⟨x5139, x5140, x5141, x5142⟩
 · rintro _ _ _ ⟨rfl, rfl, rfl⟩
   have q0 := (Prod.mk.inj (Option.some.inj H)).1
   have q1 := (Prod.mk.inj (Prod.mk.inj (Option.some.inj H)).2).1
   have q2 := (Prod.mk.inj (Prod.mk.inj (Option.some.inj H)).2).2
   subst q0
   subst q1
   subst q2
   exact W.now (Then.r (BodyR.mkR trivial rfl [0] ⟨rfl, rfl⟩ ⟨rfl, ⟨trivial, .inr ⟨rfl, rfl, rfl⟩⟩, by decide, rfl, trivial⟩ rfl rfl))
 rintro _ _ _ ⟨rfl, rfl, rfl⟩
 refine W.now ?_
 refine Then.n ?_
 refine WP.seq ?_
 refine WP.seq ?_
 refine WP.region ?_
 refine WPL.q (q_mv (v := .lit (.bool _)) rfl) rfl ?_
 refine WPL.q (q_not rfl) rfl ?_
 refine WPL.nilW ?_
 refine W.now ?_
 refine Then.n ?_
 refine WP.cond (t := (!x5139)) rfl (fun hb5157 => ?_) (fun hb5157 => ?_)
 · replace H := cnt hb5157 H
   refine WP.seq ?_
   refine WP.region ?_
   refine WPL.q (q_build bu23 rfl) rfl ?_
   refine WPL.s (s_store sz23 rfl rfl rfl rfl rfl) ?_
   refine WPL.q (q_as (v := .lit (.int _ _)) rfl) rfl ?_
   refine WPL.nilW ?_
   refine W.now ?_
   refine Then.n ?_
   refine WP.retW ?_
   have q0 := (Prod.mk.inj (Option.some.inj H)).1
   have q1 := (Prod.mk.inj (Prod.mk.inj (Option.some.inj H)).2).1
   have q2 := (Prod.mk.inj (Prod.mk.inj (Option.some.inj H)).2).2
   subst q0
   subst q1
   subst q2
   exact W.now (Then.r (BodyR.mkR trivial rfl [0] ⟨rfl, rfl⟩ ⟨rfl, ⟨trivial, .inr ⟨rfl, rfl, rfl⟩⟩, by decide, rfl, trivial⟩ rfl rfl))
 replace H := cnf hb5157 H
 refine WP.skipW ?_
 refine W.now ?_
 refine Then.n ?_
 refine WP.seq ?_
 refine WP.region ?_
 refine WPL.q (q_load_ag ag47 rfl rfl (Nat.le_of_ble_eq_true rfl)) rfl ?_
 obtain ⟨⟨x5160, x5161, x5162⟩, h5158, H⟩ := bnd H
 refine WPL.c (runs_call (s := []) (t := [2]) (N := 3) (bor := []) fn31 rfl (s_dec_num_tell k x5140 x5141 x5142 x5123 x5160 x5161 x5162 h5158) ⟨rfl, trivial, by decide, rfl, trivial⟩ rfl trivial (.ren rfl rfl .nil) rfl ⟨trivial, rfl⟩ rfl) rfl ?_
 refine WPL.q (q_extract rfl rfl) rfl ?_
 refine WPL.q (q_extract rfl rfl) rfl ?_
 refine WPL.s (s_store sz23 rfl rfl rfl rfl rfl) ?_
 refine WPL.q (q_as (v := .lit (.int _ _)) rfl) rfl ?_
 refine WPL.nilW ?_
 refine W.now ?_
 refine Then.n ?_
 refine WP.retW ?_
 have q0 := (Prod.mk.inj (Option.some.inj H)).1
 have q1 := (Prod.mk.inj (Prod.mk.inj (Option.some.inj H)).2).1
 have q2 := (Prod.mk.inj (Prod.mk.inj (Option.some.inj H)).2).2
 subst q0
 subst q1
 subst q2
 exact W.now (BodyR.mkR trivial rfl [0] ⟨rfl, rfl⟩ ⟨rfl, ⟨trivial, .inr ⟨rfl, rfl, rfl⟩⟩, by decide, rfl, trivial⟩ rfl rfl)
end Go.Proofs.Ytdbeblgfccjbgaa.W
namespace Go.Proofs.Ytdbeblgfccjbgaa.W
open Go Go.Q Go.Proofs
set_option linter.unusedVariables false
set_option linter.unusedSimpArgs false
set_option maxRecDepth 100000 in
set_option maxHeartbeats 4000000 in
theorem s_dec_Mod (k : Nat) (x4282 : Int) (x4283 : Int) (x4284 : Int) (x4285 : Int) (x5167 : Int) (x5168 : Int) (x5169 : Int) (H : g_dec_Mod k x4282 x4283 x4284 x4285 = some (x5167, x5168, x5169)) : Go.Q.Spec Try.prog 9 0 [.agg [.lit (.int .i64 x4282), .lit (.int .i64 x4283)], .agg [.lit (.int .i64 x4284), .lit (.int .i64 x4285)]] Mem.nil (fun o M => o = .ret (.tup [.agg [.lit (.int .i64 x5168), .lit (.int .i64 x5169)], .lit (.int .i64 x5167)]) ∧ M = (Mem.nil.push (.cells 23 [.lit (.int .i64 x5168), .lit (.int .i64 x5169)]))) := by
 unfold g_dec_Mod at H
 refine Go.Q.Spec.of_bodyR (az := [(23, 2)]) (rs := [.cell 4 23, .tmp 5]) (nt := 50) Try.func9 rfl rfl (by intro t T h; simp at h; rcases h with ⟨rfl, rfl⟩ <;> first | exact ag23) rfl rfl fun cx hnp => ?_
 refine WP.seq ?_
 refine WP.region ?_
 refine WPL.d (d_box rfl rfl) rfl ?_
 refine WPL.d (d_box rfl rfl) rfl ?_
 refine WPL.d (d_alloc ze23 rfl) rfl ?_
 refine WPL.q (q_as (v := .lit (.int _ _)) rfl) rfl ?_
 refine WPL.nilW ?_
 refine W.now ?_
 refine Then.n ?_
 refine WP.seq ?_
 refine WP.seq ?_
 refine WP.region ?_
 refine WPL.d (d_buildCells li81 rfl rfl rfl rfl rfl) rfl ?_
 obtain ⟨⟨x5178, x5179, x5180, x5181, x5182⟩, h5176, H⟩ := bnd H
 refine WPL.c (runs_call (s := [3, 0, 1]) (t := [3, 0, 1]) (N := 4) (bor := []) fn27 rfl (s_dec_clean k x4282 x4283 x4284 x4285 x5178 x5179 x5180 x5181 x5182 h5176) ⟨rfl, ⟨⟨⟨trivial, .inr ⟨rfl, rfl, rfl⟩⟩, .inr ⟨rfl, rfl, rfl⟩⟩, .inr ⟨rfl, rfl, rfl⟩⟩, by decide, rfl, trivial⟩ rfl trivial (.ren rfl rfl .nil) rfl ⟨⟨⟨trivial, rfl⟩, rfl⟩, rfl⟩ rfl) rfl ?_
 refine WPL.q (q_not rfl) rfl ?_
 refine WPL.nilW ?_
 refine W.now ?_
 refine Then.n ?_
 refine WP.cond (t := (!x5178)) rfl (fun hb5182 => ?_) (fun hb5182 => ?_)
 · replace H := cnt hb5182 H
   refine WP.seq ?_
   refine WP.region ?_
   refine WPL.q (q_build bu23 rfl) rfl ?_
   refine WPL.s (s_store sz23 rfl rfl rfl rfl rfl) ?_
   refine WPL.q (q_as (v := .lit (.int _ _)) rfl) rfl ?_
   refine WPL.nilW ?_
   refine W.now ?_
   refine Then.n ?_
   refine WP.retW ?_
   have q0 := (Prod.mk.inj (Option.some.inj H)).1
   have q1 := (Prod.mk.inj (Prod.mk.inj (Option.some.inj H)).2).1
   have q2 := (Prod.mk.inj (Prod.mk.inj (Option.some.inj H)).2).2
   subst q0
   subst q1
   subst q2
   exact W.now (Then.r (BodyR.mkR trivial rfl [2] ⟨rfl, rfl⟩ ⟨rfl, ⟨trivial, .inr ⟨rfl, rfl, rfl⟩⟩, by decide, rfl, trivial⟩ rfl rfl))
 replace H := cnf hb5182 H
 refine WP.skipW ?_
 refine W.now ?_
 refine Then.n ?_
 refine WP.seq ?_
 refine WP.seq ?_
 refine WP.region ?_
 refine WPL.q (q_fieldAddr fi23_0 rfl rfl) rfl ?_
 refine WPL.q (q_load sc2 rfl rfl rfl) rfl ?_
 refine WPL.q (q_eql rfl rfl) rfl ?_
 refine WPL.nilW ?_
 refine W.now ?_
 refine Then.n ?_
 refine WP.cond (t := (decide (x5181 = 0))) rfl (fun hb5184 => ?_) (fun hb5184 => ?_)
 · replace H := cnt hb5184 H
   refine WP.seq ?_
   refine WP.region ?_
   refine WPL.q (q_build bu23 rfl) rfl ?_
   refine WPL.s (s_store sz23 rfl rfl rfl rfl rfl) ?_
   refine WPL.q (q_as (v := .lit (.int _ _)) rfl) rfl ?_
   refine WPL.nilW ?_
   refine W.now ?_
   refine Then.n ?_
   refine WP.retW ?_
   have q0 := (Prod.mk.inj (Option.some.inj H)).1
   have q1 := (Prod.mk.inj (Prod.mk.inj (Option.some.inj H)).2).1
   have q2 := (Prod.mk.inj (Prod.mk.inj (Option.some.inj H)).2).2
   subst q0
   subst q1
   subst q2
   exact W.now (Then.r (BodyR.mkR trivial rfl [2] ⟨rfl, rfl⟩ ⟨rfl, ⟨trivial, .inr ⟨rfl, rfl, rfl⟩⟩, by decide, rfl, trivial⟩ rfl rfl))
 replace H := cnf hb5184 H
 refine WP.skipW ?_
 refine W.now ?_
 refine Then.n ?_
 refine WP.seq ?_
 obtain ⟨⟨x5238, x5239, x5240⟩, H5292, H⟩ := bnd H
 refine WP.monoW (Q := fun x E M => x = .normal ∧ E = ((((Env.none.upd 2 (.ptr 0 0)).upd 3 (.ptr 1 0)).upd 4 (.ptr 2 0)).upd 6 (.ptr 3 0)) ∧ M = ((((Mem.nil.push (.cells 23 [.lit (.int .i64 x5179), .lit (.int .i64 x5180)])).push (.cells 23 [.lit (.int .i64 x5181), .lit (.int .i64 x5182)])).push (.cells 23 [.lit (.int .i64 0), .lit (.int .i64 0)])).push (.cells 47 [.lit (.bool (decide (x5179 < 0))), .lit (.int .u64 x5238), .lit (.int .u64 x5239), .lit (.int .i64 x5240)]))) ?_ ?_
 · clear H
   have H := H5292
   clear H5292
   refine WP.regionD' 7 [0, 1] [] mixed rfl ?_
   refine WPD.take 0 rfl (by kernel_rfl) (q_load_ag ag23 rfl rfl (Nat.le_of_ble_eq_true rfl)) rfl rfl ?_
   refine WPD.take 2 rfl (by kernel_rfl) (q_load_ag ag23 rfl rfl (Nat.le_of_ble_eq_true rfl)) rfl rfl ?_
   refine WPD.of2 1 5 (by kernel_rfl) ?_ ?_
   · obtain ⟨x5268, h5266, H⟩ := bnd H
     refine WPD1.eff 1 [0, 1] [] rfl (runs_call (s := []) (t := [4]) (N := 5) (bor := []) fn38 rfl (s_dec_of k x5179 x5180 x5268 h5266) ⟨rfl, trivial, by decide, rfl, trivial⟩ rfl trivial (.ren rfl rfl .nil) rfl ⟨trivial, rfl⟩ rfl) rfl rfl ?_
     refine WPD.of2 3 5 (by kernel_rfl) ?_ ?_
     · obtain ⟨x5270, h5268, H⟩ := bnd H
       refine WPD1.eff 3 [0, 1] [] rfl (runs_call (s := []) (t := [5]) (N := 6) (bor := []) fn38 rfl (s_dec_of k x5181 x5182 x5270 h5268) ⟨rfl, trivial, by decide, rfl, trivial⟩ rfl trivial (.ren rfl rfl .nil) rfl ⟨trivial, rfl⟩ rfl) rfl rfl ?_
       refine WPD.of2 4 5 (by kernel_rfl) ?_ ?_
       · obtain ⟨⟨x5272, x5273, x5274⟩, h5270, H⟩ := bnd H
         refine WPD1.eff 4 [0, 1] [] rfl (runs_call (s := []) (t := [6]) (N := 7) (bor := []) fn37 rfl (s_dec_left k (decide (x5179 < 0)) 0 x5268 x5180 (decide (x5181 < 0)) 0 x5270 x5182 x5272 x5273 x5274 h5270) ⟨rfl, trivial, by decide, rfl, trivial⟩ rfl trivial (.ren rfl rfl (.ren rfl rfl .nil)) rfl ⟨trivial, rfl⟩ rfl) rfl rfl ?_
         refine WPD.eff 5 [0, 1] [] rfl (by kernel_rfl) (Does.runs (d_alloc ze47 rfl)) rfl rfl ?_
         refine WPD.effS 6 [0, 1] [] rfl (by kernel_rfl) (s_store sz47 rfl rfl rfl rfl rfl) rfl ?_
         refine WPD.doneW (by kernel_rfl) ?_
         have q0 := (Prod.mk.inj (Option.some.inj H)).1
         have q1 := (Prod.mk.inj (Prod.mk.inj (Option.some.inj H)).2).1
         have q2 := (Prod.mk.inj (Prod.mk.inj (Option.some.inj H)).2).2
         subst q0
         subst q1
         subst q2
         exact W.wk [0, 1, 2, 7] hnp ⟨rfl, rfl, rfl⟩ ⟨rfl, ⟨⟨⟨⟨trivial, .inr ⟨rfl, rfl, rfl⟩⟩, .inr ⟨rfl, rfl, rfl⟩⟩, .inr ⟨rfl, rfl, rfl⟩⟩, .inr ⟨rfl, rfl, rfl⟩⟩, by decide, rfl, trivial⟩ (LeE.upd rfl rfl (LeE.upd rfl rfl (LeE.upd rfl rfl (LeE.upd rfl rfl (LeE.none rfl rfl))))) rfl
       refine WPD1.eff 5 [0, 1] [] rfl (Does.runs (d_alloc ze47 rfl)) rfl rfl ?_
       obtain ⟨⟨x5276, x5277, x5278⟩, h5274, H⟩ := bnd H
       refine WPD.eff 4 [0, 1] [] rfl (by kernel_rfl) (runs_call (s := []) (t := [7]) (N := 8) (bor := []) fn37 rfl (s_dec_left k (decide (x5179 < 0)) 0 x5268 x5180 (decide (x5181 < 0)) 0 x5270 x5182 x5276 x5277 x5278 h5274) ⟨rfl, trivial, by decide, rfl, trivial⟩ rfl trivial (.ren rfl rfl (.ren rfl rfl .nil)) rfl ⟨trivial, rfl⟩ rfl) rfl rfl ?_
       refine WPD.effS 6 [0, 1] [] rfl (by kernel_rfl) (s_store sz47 rfl rfl rfl rfl rfl) rfl ?_
       refine WPD.doneW (by kernel_rfl) ?_
       have q0 := (Prod.mk.inj (Option.some.inj H)).1
       have q1 := (Prod.mk.inj (Prod.mk.inj (Option.some.inj H)).2).1
       have q2 := (Prod.mk.inj (Prod.mk.inj (Option.some.inj H)).2).2
       subst q0
       subst q1
       subst q2
       exact W.wk [0, 1, 2, 6] hnp ⟨rfl, rfl, rfl⟩ ⟨rfl, ⟨⟨⟨⟨trivial, .inr ⟨rfl, rfl, rfl⟩⟩, .inr ⟨rfl, rfl, rfl⟩⟩, .inr ⟨rfl, rfl, rfl⟩⟩, .inr ⟨rfl, rfl, rfl⟩⟩, by decide, rfl, trivial⟩ (LeE.upd rfl rfl (LeE.upd rfl rfl (LeE.upd rfl rfl (LeE.upd rfl rfl (LeE.none rfl rfl))))) rfl
     refine WPD1.eff 5 [0, 1] [] rfl (Does.runs (d_alloc ze47 rfl)) rfl rfl ?_
     obtain ⟨x5280, h5278, H⟩ := bnd H
     refine WPD.eff 3 [0, 1] [] rfl (by kernel_rfl) (runs_call (s := []) (t := [6]) (N := 7) (bor := []) fn38 rfl (s_dec_of k x5181 x5182 x5280 h5278) ⟨rfl, trivial, by decide, rfl, trivial⟩ rfl trivial (.ren rfl rfl .nil) rfl ⟨trivial, rfl⟩ rfl) rfl rfl ?_
     obtain ⟨⟨x5282, x5283, x5284⟩, h5280, H⟩ := bnd H
     refine WPD.eff 4 [0, 1] [] rfl (by kernel_rfl) (runs_call (s := []) (t := [7]) (N := 8) (bor := []) fn37 rfl (s_dec_left k (decide (x5179 < 0)) 0 x5268 x5180 (decide (x5181 < 0)) 0 x5280 x5182 x5282 x5283 x5284 h5280) ⟨rfl, trivial, by decide, rfl, trivial⟩ rfl trivial (.ren rfl rfl (.ren rfl rfl .nil)) rfl ⟨trivial, rfl⟩ rfl) rfl rfl ?_
     refine WPD.effS 6 [0, 1] [] rfl (by kernel_rfl) (s_store sz47 rfl rfl rfl rfl rfl) rfl ?_
     refine WPD.doneW (by kernel_rfl) ?_
     have q0 := (Prod.mk.inj (Option.some.inj H)).1
     have q1 := (Prod.mk.inj (Prod.mk.inj (Option.some.inj H)).2).1
     have q2 := (Prod.mk.inj (Prod.mk.inj (Option.some.inj H)).2).2
     subst q0
     subst q1
     subst q2
     exact W.wk [0, 1, 2, 5] hnp ⟨rfl, rfl, rfl⟩ ⟨rfl, ⟨⟨⟨⟨trivial, .inr ⟨rfl, rfl, rfl⟩⟩, .inr ⟨rfl, rfl, rfl⟩⟩, .inr ⟨rfl, rfl, rfl⟩⟩, .inr ⟨rfl, rfl, rfl⟩⟩, by decide, rfl, trivial⟩ (LeE.upd rfl rfl (LeE.upd rfl rfl (LeE.upd rfl rfl (LeE.upd rfl rfl (LeE.none rfl rfl))))) rfl
   refine WPD1.eff 5 [0, 1] [] rfl (Does.runs (d_alloc ze47 rfl)) rfl rfl ?_
   obtain ⟨x5286, h5284, H⟩ := bnd H
   refine WPD.eff 1 [0, 1] [] rfl (by kernel_rfl) (runs_call (s := []) (t := [5]) (N := 6) (bor := []) fn38 rfl (s_dec_of k x5179 x5180 x5286 h5284) ⟨rfl, trivial, by decide, rfl, trivial⟩ rfl trivial (.ren rfl rfl .nil) rfl ⟨trivial, rfl⟩ rfl) rfl rfl ?_
   obtain ⟨x5288, h5286, H⟩ := bnd H
   refine WPD.eff 3 [0, 1] [] rfl (by kernel_rfl) (runs_call (s := []) (t := [6]) (N := 7) (bor := []) fn38 rfl (s_dec_of k x5181 x5182 x5288 h5286) ⟨rfl, trivial, by decide, rfl, trivial⟩ rfl trivial (.ren rfl rfl .nil) rfl ⟨trivial, rfl⟩ rfl) rfl rfl ?_
   obtain ⟨⟨x5290, x5291, x5292⟩, h5288, H⟩ := bnd H
   refine WPD.eff 4 [0, 1] [] rfl (by kernel_rfl) (runs_call (s := []) (t := [7]) (N := 8) (bor := []) fn37 rfl (s_dec_left k (decide (x5179 < 0)) 0 x5286 x5180 (decide (x5181 < 0)) 0 x5288 x5182 x5290 x5291 x5292 h5288) ⟨rfl, trivial, by decide, rfl, trivial⟩ rfl trivial (.ren rfl rfl (.ren rfl rfl .nil)) rfl ⟨trivial, rfl⟩ rfl) rfl rfl ?_
   refine WPD.effS 6 [0, 1] [] rfl (by kernel_rfl) (s_store sz47 rfl rfl rfl rfl rfl) rfl ?_
   refine WPD.doneW (by kernel_rfl) ?_
   have q0 := (Prod.mk.inj (Option.some.inj H)).1
   have q1 := (Prod.mk.inj (Prod.mk.inj (Option.some.inj H)).2).1
   have q2 := (Prod.mk.inj (Prod.mk.inj (Option.some.inj H)).2).2
   subst q0
   subst q1
   subst q2
   exact W.wk [0, 1, 2, 4] hnp ⟨rfl, rfl, rfl⟩ ⟨rfl, ⟨⟨⟨⟨trivial, .inr ⟨rfl, rfl, rfl⟩⟩, .inr ⟨rfl, rfl, rfl⟩⟩, .inr ⟨rfl, rfl, rfl⟩⟩, .inr ⟨rfl, rfl, rfl⟩⟩, by decide, rfl, trivial⟩ (LeE.upd rfl rfl (LeE.upd rfl rfl (LeE.upd rfl rfl (LeE.upd rfl rfl (LeE.none rfl rfl))))) rfl
 rintro _ _ _ ⟨rfl, rfl, rfl⟩
 refine W.now ?_
 refine Then.n ?_
 refine WP.seq ?_
 refine WP.region ?_
 refine WPL.q (q_load_ag ag47 rfl rfl (Nat.le_of_ble_eq_true rfl)) rfl ?_
 obtain ⟨⟨x5295, x5296, x5297⟩, h5293, H⟩ := bnd H
 refine WPL.c (runs_call (s := []) (t := [4]) (N := 5) (bor := []) fn31 rfl (s_dec_num_tell k (decide (x5179 < 0)) x5238 x5239 x5240 x5295 x5296 x5297 h5293) ⟨rfl, trivial, by decide, rfl, trivial⟩ rfl trivial (.ren rfl rfl .nil) rfl ⟨trivial, rfl⟩ rfl) rfl ?_
 refine WPL.q (q_mv (v := .tup _) rfl) rfl ?_
 refine WPL.q (q_extract rfl rfl) rfl ?_
 refine WPL.q (q_extract rfl rfl) rfl ?_
 refine WPL.d (d_alloc ze23 rfl) rfl ?_
 refine WPL.s (s_store sz23 rfl rfl rfl rfl rfl) ?_
 refine WPL.q (q_as (v := .lit (.int _ _)) rfl) rfl ?_
 refine WPL.nilW ?_
 refine W.now ?_
 refine Then.n ?_
 refine WP.seq ?_
 refine WP.seq ?_
 obtain ⟨x5310, H5313, H⟩ := bnd H
 refine WP.monoW (Q := fun x E M => x = .normal ∧ E = (((((Env.none.upd 3 (.ptr 0 0)).upd 4 (.ptr 1 0)).upd 7 (.ptr 2 0)).upd 8 (.lit (.int .i64 x5295))).upd 42 (.lit (.bool x5310))) ∧ M = (((Mem.nil.push (.cells 23 [.lit (.int .i64 x5181), .lit (.int .i64 x5182)])).push (.cells 23 [.lit (.int .i64 0), .lit (.int .i64 0)])).push (.cells 23 [.lit (.int .i64 x5296), .lit (.int .i64 x5297)]))) ?_ ?_
 · clear H
   have H := H5313
   clear H5313
   refine WP.region ?_
   refine WPL.q (q_mv (v := .lit (.int _ _)) rfl) rfl ?_
   refine WPL.q (q_neq rfl rfl) rfl ?_
   refine WPL.q (q_mv (v := .lit (.bool _)) rfl) rfl ?_
   refine WPL.split (t := 29) (b := (!decide (x5295 = 0))) rfl (fun hb5310 => ?_) (fun hb5310 => ?_)
   · replace H := cnt hb5310 H
     refine WPL.skipg (b' := true) rfl rfl (lb hb5310) rfl rfl ?_
     refine WPL.skipg (b' := true) rfl rfl (lb hb5310) rfl rfl ?_
     refine WPL.skipg (b' := true) rfl rfl (lb hb5310) rfl rfl ?_
     refine WPL.q (q_pickT (v := .lit (.bool _)) (lb hb5310) rfl) rfl ?_
     refine WPL.q (q_mv (v := .lit (.bool _)) rfl) rfl ?_
     refine WPL.skipg (b' := true) rfl rfl rfl rfl rfl ?_
     refine WPL.skipg (b' := true) rfl rfl rfl rfl rfl ?_
     refine WPL.skipg (b' := true) rfl rfl rfl rfl rfl ?_
     refine WPL.skipg (b' := true) rfl rfl rfl rfl rfl ?_
     refine WPL.skipg (b' := true) rfl rfl rfl rfl rfl ?_
     refine WPL.skipg (b' := true) rfl rfl rfl rfl rfl ?_
     refine WPL.skipg (b' := true) rfl rfl rfl rfl rfl ?_
     refine WPL.q (q_pickT (v := .lit (.bool _)) rfl rfl) rfl ?_
     refine WPL.nilW ?_
     have q0 := (Option.some.inj H)
     subst q0
     exact W.wk [1, 2, 5] hnp ⟨rfl, rfl, rfl⟩ ⟨rfl, ⟨⟨⟨trivial, .inr ⟨rfl, rfl, rfl⟩⟩, .inr ⟨rfl, rfl, rfl⟩⟩, .inr ⟨rfl, rfl, rfl⟩⟩, by decide, rfl, trivial⟩ (LeE.upd rfl rfl (LeE.upd rfl rfl (LeE.upd rfl rfl (LeE.upd rfl rfl (LeE.upd rfl rfl (LeE.none rfl rfl)))))) rfl
   replace H := cnf hb5310 H
   refine WPL.qg rfl rfl (lb hb5310) (q_fieldAddr fi23_0 rfl rfl) rfl ?_
   refine WPL.qg rfl rfl (lb hb5310) (q_load sc2 rfl rfl rfl) rfl ?_
   refine WPL.qg rfl rfl (lb hb5310) (q_eql rfl rfl) rfl ?_
   refine WPL.q (q_pickF (v := .lit (.bool _)) (lb hb5310) rfl) rfl ?_
   refine WPL.q (q_mv (v := .lit (.bool _)) rfl) rfl ?_
   refine WPL.split (t := 34) (b := (decide (x5296 = 0))) rfl (fun hb5311 => ?_) (fun hb5311 => ?_)
   · replace H := cnt hb5311 H
     refine WPL.skipg (b' := true) rfl rfl (lb hb5311) rfl rfl ?_
     refine WPL.skipg (b' := true) rfl rfl (lb hb5311) rfl rfl ?_
     refine WPL.skipg (b' := true) rfl rfl (lb hb5311) rfl rfl ?_
     refine WPL.skipg (b' := true) rfl rfl (lb hb5311) rfl rfl ?_
     refine WPL.skipg (b' := true) rfl rfl (lb hb5311) rfl rfl ?_
     refine WPL.skipg (b' := true) rfl rfl (lb hb5311) rfl rfl ?_
     refine WPL.skipg (b' := true) rfl rfl (lb hb5311) rfl rfl ?_
     refine WPL.q (q_pickT (v := .lit (.bool _)) (lb hb5311) rfl) rfl ?_
     refine WPL.nilW ?_
     have q0 := (Option.some.inj H)
     subst q0
     exact W.wk [1, 2, 5] hnp ⟨rfl, rfl, rfl⟩ ⟨rfl, ⟨⟨⟨trivial, .inr ⟨rfl, rfl, rfl⟩⟩, .inr ⟨rfl, rfl, rfl⟩⟩, .inr ⟨rfl, rfl, rfl⟩⟩, by decide, rfl, trivial⟩ (LeE.upd rfl rfl (LeE.upd rfl rfl (LeE.upd rfl rfl (LeE.upd rfl rfl (LeE.upd rfl rfl (LeE.none rfl rfl)))))) rfl
   replace H := cnf hb5311 H
   refine WPL.qg rfl rfl (lb hb5311) (q_fieldAddr fi23_0 rfl rfl) rfl ?_
   refine WPL.qg rfl rfl (lb hb5311) (q_load sc2 rfl rfl rfl) rfl ?_
   refine WPL.qg rfl rfl (lb hb5311) (q_lss rfl rfl) rfl ?_
   refine WPL.qg rfl rfl (lb hb5311) (q_fieldAddr fi23_0 rfl rfl) rfl ?_
   refine WPL.qg rfl rfl (lb hb5311) (q_load sc2 rfl rfl rfl) rfl ?_
   refine WPL.qg rfl rfl (lb hb5311) (q_lss rfl rfl) rfl ?_
   obtain ⟨x5313, h5313, H⟩ := bnd H
   refine WPL.qg rfl rfl (lb hb5311) (q_nm (q_eqlb Try.underlying4 rfl rfl) (nm_bool h5313)) rfl ?_
   refine WPL.q (q_pickF (v := .lit (.bool _)) (lb hb5311) rfl) rfl ?_
   refine WPL.nilW ?_
   have q0 := (Option.some.inj H)
   subst q0
   exact W.wk [1, 2, 5] hnp ⟨rfl, rfl, rfl⟩ ⟨rfl, ⟨⟨⟨trivial, .inr ⟨rfl, rfl, rfl⟩⟩, .inr ⟨rfl, rfl, rfl⟩⟩, .inr ⟨rfl, rfl, rfl⟩⟩, by decide, rfl, trivial⟩ (LeE.upd rfl rfl (LeE.upd rfl rfl (LeE.upd rfl rfl (LeE.upd rfl rfl (LeE.upd rfl rfl (LeE.none rfl rfl)))))) rfl
 rintro _ _ _ ⟨rfl, rfl, rfl⟩
 refine W.now ?_
 refine Then.n ?_
 refine WP.cond (t := x5310) rfl (fun hb5314 => ?_) (fun hb5314 => ?_)
 · replace H := cnt hb5314 H
   refine WP.seq ?_
   refine WP.region ?_
   refine WPL.q (q_load_ag ag23 rfl rfl (Nat.le_of_ble_eq_true rfl)) rfl ?_
   refine WPL.q (q_mv (v := .lit (.int _ _)) rfl) rfl ?_
   refine WPL.s (s_store sz23 rfl rfl rfl rfl rfl) ?_
   refine WPL.q (q_as (v := .lit (.int _ _)) rfl) rfl ?_
   refine WPL.nilW ?_
   refine W.now ?_
   refine Then.n ?_
   refine WP.retW ?_
   have q0 := (Prod.mk.inj (Option.some.inj H)).1
   have q1 := (Prod.mk.inj (Prod.mk.inj (Option.some.inj H)).2).1
   have q2 := (Prod.mk.inj (Prod.mk.inj (Option.some.inj H)).2).2
   subst q0
   subst q1
   subst q2
   exact W.now (Then.r (BodyR.mkR trivial rfl [1] ⟨rfl, rfl⟩ ⟨rfl, ⟨trivial, .inr ⟨rfl, rfl, rfl⟩⟩, by decide, rfl, trivial⟩ rfl rfl))
 replace H := cnf hb5314 H
 refine WP.skipW ?_
 refine W.now ?_
 refine Then.n ?_
 refine WP.seq ?_
 refine WP.region ?_
 refine WPL.q (q_load_ag ag23 rfl rfl (Nat.le_of_ble_eq_true rfl)) rfl ?_
 refine WPL.q (q_load_ag ag23 rfl rfl (Nat.le_of_ble_eq_true rfl)) rfl ?_
 obtain ⟨⟨x5317, x5318, x5319⟩, h5315, H⟩ := bnd H
 refine WPL.c (runs_call (s := []) (t := [3]) (N := 4) (bor := []) fn14 rfl (s_dec_Add k x5296 x5297 x5181 x5182 x5317 x5318 x5319 h5315) ⟨rfl, trivial, by decide, rfl, trivial⟩ rfl trivial (.ren rfl rfl (.ren rfl rfl .nil)) rfl ⟨trivial, rfl⟩ rfl) rfl ?_
 refine WPL.q (q_extract rfl rfl) rfl ?_
 refine WPL.q (q_extract rfl rfl) rfl ?_
 refine WPL.s (s_store sz23 rfl rfl rfl rfl rfl) ?_
 refine WPL.q (q_as (v := .lit (.int _ _)) rfl) rfl ?_
 refine WPL.nilW ?_
 refine W.now ?_
 refine Then.n ?_
 refine WP.retW ?_
 have q0 := (Prod.mk.inj (Option.some.inj H)).1
 have q1 := (Prod.mk.inj (Prod.mk.inj (Option.some.inj H)).2).1
 have q2 := (Prod.mk.inj (Prod.mk.inj (Option.some.inj H)).2).2
 subst q0
 subst q1
 subst q2
 exact W.now (BodyR.mkR trivial rfl [1] ⟨rfl, rfl⟩ ⟨rfl, ⟨trivial, .inr ⟨rfl, rfl, rfl⟩⟩, by decide, rfl, trivial⟩ rfl rfl)
set_option maxRecDepth 100000 in
set_option maxHeartbeats 4000000 in
theorem s_quireref09_two (k : Nat) (x5329 : Int) (x5330 : Int) (x5331 : Int) (x5332 : Int) (x5408 : Bool) (x5409 : Bool) (x5410 : (List Int)) (x5411 : Int) (x5412 : Bool) (x5413 : (List Int)) (x5414 : Int) (H : g_quireref09_two k x5329 x5330 x5331 x5332 = some (x5408, x5409, x5410, x5411, x5412, x5413, x5414)) : Go.Q.Spec Try.prog 39 0 [.agg [.lit (.int .i64 x5329), .lit (.int .i64 x5330)], .agg [.lit (.int .i64 x5331), .lit (.int .i64 x5332)]] Mem.nil (fun o M => o = .ret (.tup [.agg [.lit (.bool x5409), .ro (Rd.slice (Rd.int .i64)) false x5410, .lit (.int .i64 x5411)], .agg [.lit (.bool x5412), .ro (Rd.slice (Rd.int .i64)) false x5413, .lit (.int .i64 x5414)], .lit (.bool x5408)]) ∧ M = ((Mem.nil.push (.cells 53 [.lit (.bool x5409), .ro (Rd.slice (Rd.int .i64)) false x5410, .lit (.int .i64 x5411)])).push (.cells 53 [.lit (.bool x5412), .ro (Rd.slice (Rd.int .i64)) false x5413, .lit (.int .i64 x5414)]))) := by
 unfold g_quireref09_two at H
 refine Go.Q.Spec.of_bodyR (az := [(53, 3)]) (rs := [.cell 4 53, .cell 5 53, .tmp 6]) (nt := 55) Try.func39 rfl rfl (by intro t T h; simp at h; rcases h with ⟨rfl, rfl⟩ | ⟨rfl, rfl⟩ <;> first | exact ag53 | exact ag53) rfl rfl fun cx hnp => ?_
 refine WP.seq ?_
 refine WP.region ?_
 refine WPL.d (d_box rfl rfl) rfl ?_
 refine WPL.d (d_box rfl rfl) rfl ?_
 refine WPL.d (d_alloc ze53 rfl) rfl ?_
 refine WPL.d (d_alloc ze53 rfl) rfl ?_
 refine WPL.q (q_as (v := .lit (.bool _)) rfl) rfl ?_
 refine WPL.nilW ?_
 refine W.now ?_
 refine Then.n ?_
 refine WP.seq ?_
 refine WP.region ?_
 refine WPL.q (q_load_ag ag23 rfl rfl (Nat.le_of_ble_eq_true rfl)) rfl ?_
 obtain ⟨⟨x5416, x5417⟩, h5414, H⟩ := bnd H
 refine WPL.c (runs_call (s := []) (t := [4]) (N := 5) (bor := []) fn32 rfl (s_quireref09_num k x5329 x5330 x5416 x5417 h5414) ⟨rfl, trivial, by decide, rfl, trivial⟩ rfl trivial (.ren rfl rfl .nil) rfl ⟨trivial, rfl⟩ rfl) rfl ?_
 refine WPL.q (q_mv (v := .tup _) rfl) rfl ?_
 refine WPL.q (q_extract rfl rfl) rfl ?_
 refine WPL.q (q_extract rfl rfl) rfl ?_
 refine WPL.d (d_alloc ze53 rfl) rfl ?_
 refine WPL.s (s_store sz53 rfl rfl rfl rfl rfl) ?_
 refine WPL.q (q_as (v := .lit (.bool _)) rfl) rfl ?_
 refine WPL.nilW ?_
 refine W.now ?_
 refine Then.n ?_
 refine WP.seq ?_
 refine WP.region ?_
 refine WPL.q (q_load_ag ag23 rfl rfl (Nat.le_of_ble_eq_true rfl)) rfl ?_
 obtain ⟨⟨x5419, x5420⟩, h5417, H⟩ := bnd H
 refine WPL.c (runs_call (s := []) (t := [6]) (N := 7) (bor := []) fn32 rfl (s_quireref09_num k x5331 x5332 x5419 x5420 h5417) ⟨rfl, trivial, by decide, rfl, trivial⟩ rfl trivial (.ren rfl rfl .nil) rfl ⟨trivial, rfl⟩ rfl) rfl ?_
 refine WPL.q (q_mv (v := .tup _) rfl) rfl ?_
 refine WPL.q (q_extract rfl rfl) rfl ?_
 refine WPL.q (q_extract rfl rfl) rfl ?_
 refine WPL.d (d_alloc ze53 rfl) rfl ?_
 refine WPL.s (s_store sz53 rfl rfl rfl rfl rfl) ?_
 refine WPL.q (q_as (v := .lit (.bool _)) rfl) rfl ?_
 refine WPL.nilW ?_
 refine W.now ?_
 refine Then.n ?_
 refine WP.seq ?_
 refine WP.seq ?_
 obtain ⟨x5427, H5428, H⟩ := bnd H
 refine WP.monoW (Q := fun x E M => x = .normal ∧ E = (((((Env.none.upd 4 (.ptr 0 0)).upd 5 (.ptr 1 0)).upd 7 (.ptr 2 0)).upd 9 (.ptr 3 0)).upd 26 (.lit (.bool x5427))) ∧ M = ((((Mem.nil.push (.cells 53 [.lit (.bool false), .lit (.slice none 0 0), .lit (.int .i64 0)])).push (.cells 53 [.lit (.bool false), .lit (.slice none 0 0), .lit (.int .i64 0)])).push (.cells 53 [.lit (.bool (decide (x5329 < 0))), .ro (Rd.slice (Rd.int .i64)) false x5417, .lit (.int .i64 x5330)])).push (.cells 53 [.lit (.bool (decide (x5331 < 0))), .ro (Rd.slice (Rd.int .i64)) false x5420, .lit (.int .i64 x5332)]))) ?_ ?_
 · clear H
   have H := H5428
   clear H5428
   refine WP.region ?_
   refine WPL.q (q_mv (v := .lit (.bool _)) rfl) rfl ?_
   refine WPL.q (q_not rfl) rfl ?_
   refine WPL.q (q_mv (v := .lit (.bool _)) rfl) rfl ?_
   refine WPL.split (t := 23) (b := (!x5416)) rfl (fun hb5427 => ?_) (fun hb5427 => ?_)
   · replace H := cnt hb5427 H
     refine WPL.skipg (b' := true) rfl rfl (lb hb5427) rfl rfl ?_
     refine WPL.skipg (b' := true) rfl rfl (lb hb5427) rfl rfl ?_
     refine WPL.q (q_pickT (v := .lit (.bool _)) (lb hb5427) rfl) rfl ?_
     refine WPL.nilW ?_
     have q0 := (Option.some.inj H)
     subst q0
     exact W.wk [2, 3, 5, 7] hnp ⟨rfl, rfl, rfl⟩ ⟨rfl, ⟨⟨⟨⟨trivial, .inr ⟨rfl, rfl, rfl⟩⟩, .inr ⟨rfl, rfl, rfl⟩⟩, .inr ⟨rfl, rfl, rfl⟩⟩, .inr ⟨rfl, rfl, rfl⟩⟩, by decide, rfl, trivial⟩ (LeE.upd rfl rfl (LeE.upd rfl rfl (LeE.upd rfl rfl (LeE.upd rfl rfl (LeE.upd rfl rfl (LeE.none rfl rfl)))))) rfl
   replace H := cnf hb5427 H
   refine WPL.qg rfl rfl (lb hb5427) (q_mv (v := .lit (.bool _)) rfl) rfl ?_
   refine WPL.qg rfl rfl (lb hb5427) (q_not rfl) rfl ?_
   refine WPL.q (q_pickF (v := .lit (.bool _)) (lb hb5427) rfl) rfl ?_
   refine WPL.nilW ?_
   have q0 := (Option.some.inj H)
   subst q0
   exact W.wk [2, 3, 5, 7] hnp ⟨rfl, rfl, rfl⟩ ⟨rfl, ⟨⟨⟨⟨trivial, .inr ⟨rfl, rfl, rfl⟩⟩, .inr ⟨rfl, rfl, rfl⟩⟩, .inr ⟨rfl, rfl, rfl⟩⟩, .inr ⟨rfl, rfl, rfl⟩⟩, by decide, rfl, trivial⟩ (LeE.upd rfl rfl (LeE.upd rfl rfl (LeE.upd rfl rfl (LeE.upd rfl rfl (LeE.upd rfl rfl (LeE.none rfl rfl)))))) rfl
 rintro _ _ _ ⟨rfl, rfl, rfl⟩
 refine W.now ?_
 refine Then.n ?_
 refine WP.cond (t := x5427) rfl (fun hb5429 => ?_) (fun hb5429 => ?_)
 · replace H := cnt hb5429 H
   refine WP.seq ?_
   refine WP.region ?_
   refine WPL.q (q_build bu53 rfl) rfl ?_
   refine WPL.q (q_build bu53 rfl) rfl ?_
   refine WPL.s (s_store sz53 rfl rfl rfl rfl rfl) ?_
   refine WPL.s (s_store sz53 rfl rfl rfl rfl rfl) ?_
   refine WPL.q (q_as (v := .lit (.bool _)) rfl) rfl ?_
   refine WPL.nilW ?_
   refine W.now ?_
   refine Then.n ?_
   refine WP.retW ?_
   refine W.cv (Cv.nilRoC (Rd.int .i64) false (i := 0) (off := 1) rfl rfl rfl) rfl ?_
   refine W.cv (Cv.nilRoC (Rd.int .i64) false (i := 1) (off := 1) rfl rfl rfl) rfl ?_
   have q0 := (Prod.mk.inj (Option.some.inj H)).1
   have q1 := (Prod.mk.inj (Prod.mk.inj (Option.some.inj H)).2).1
   have q2 := (Prod.mk.inj (Prod.mk.inj (Prod.mk.inj (Option.some.inj H)).2).2).1
   have q3 := (Prod.mk.inj (Prod.mk.inj (Prod.mk.inj (Prod.mk.inj (Option.some.inj H)).2).2).2).1
   have q4 := (Prod.mk.inj (Prod.mk.inj (Prod.mk.inj (Prod.mk.inj (Prod.mk.inj (Option.some.inj H)).2).2).2).2).1
   have q5 := (Prod.mk.inj (Prod.mk.inj (Prod.mk.inj (Prod.mk.inj (Prod.mk.inj (Prod.mk.inj (Option.some.inj H)).2).2).2).2).2).1
   have q6 := (Prod.mk.inj (Prod.mk.inj (Prod.mk.inj (Prod.mk.inj (Prod.mk.inj (Prod.mk.inj (Option.some.inj H)).2).2).2).2).2).2
   subst q0
   subst q1
   subst q2
   subst q3
   subst q4
   subst q5
   subst q6
   exact W.now (Then.r (BodyR.mkR trivial rfl [0, 1] ⟨rfl, rfl⟩ ⟨rfl, ⟨⟨trivial, .inr ⟨rfl, rfl, rfl⟩⟩, .inr ⟨rfl, rfl, rfl⟩⟩, by decide, rfl, trivial⟩ rfl rfl))
 replace H := cnf hb5429 H
 refine WP.skipW ?_
 refine W.now ?_
 refine Then.n ?_
 refine WP.seq ?_
 refine WP.block ?_
 refine WP.cv (Cv.weak (E' := ((((Env.none.upd 4 (.ptr 0 0)).upd 5 (.ptr 1 0)).upd 7 (.ptr 2 0)).upd 9 (.ptr 3 0))) (M' := ((((Mem.nil.push (.cells 53 [.lit (.bool false), .lit (.slice none 0 0), .lit (.int .i64 0)])).push (.cells 53 [.lit (.bool false), .lit (.slice none 0 0), .lit (.int .i64 0)])).push (.cells 53 [.lit (.bool (decide (x5329 < 0))), .ro (Rd.slice (Rd.int .i64)) false x5417, .lit (.int .i64 x5330)])).push (.cells 53 [.lit (.bool (decide (x5331 < 0))), .ro (Rd.slice (Rd.int .i64)) false x5420, .lit (.int .i64 x5332)]))) [0, 1, 2, 3] hnp ⟨rfl, ⟨⟨⟨⟨trivial, .inr ⟨rfl, rfl, rfl⟩⟩, .inr ⟨rfl, rfl, rfl⟩⟩, .inr ⟨rfl, rfl, rfl⟩⟩, .inr ⟨rfl, rfl, rfl⟩⟩, by decide, rfl, trivial⟩ (LeE.upd rfl rfl (LeE.upd rfl rfl (LeE.upd rfl rfl (LeE.upd rfl rfl (LeE.none rfl rfl)))))) ?_
 obtain ⟨⟨x5456, x5457, x5458⟩, H5469, H⟩ := bnd H
 refine WP.monoW (Q := fun x E M => x = .exit 0 ∧ E = ((((Env.none.upd 4 (.ptr 0 0)).upd 5 (.ptr 1 0)).upd 7 (.ptr 2 0)).upd 9 (.ptr 3 0)) ∧ M = ((((Mem.nil.push (.cells 53 [.lit (.bool false), .lit (.slice none 0 0), .lit (.int .i64 0)])).push (.cells 53 [.lit (.bool false), .lit (.slice none 0 0), .lit (.int .i64 0)])).push (.cells 53 [.lit (.bool x5456), .ro (Rd.slice (Rd.int .i64)) false x5457, .lit (.int .i64 x5458)])).push (.cells 53 [.lit (.bool (decide (x5331 < 0))), .ro (Rd.slice (Rd.int .i64)) false x5420, .lit (.int .i64 x5332)]))) ?_ ?_
 · refine WP.loop (β := Bool × (List Int) × Int) (fun n b => g_quireref09_two_l0 k x5332 n b.1 b.2.1 b.2.2 = some (x5456, x5457, x5458)) (fun b => ((((Env.none.upd 4 (.ptr 0 0)).upd 5 (.ptr 1 0)).upd 7 (.ptr 2 0)).upd 9 (.ptr 3 0))) (fun b => ((((Mem.nil.push (.cells 53 [.lit (.bool false), .lit (.slice none 0 0), .lit (.int .i64 0)])).push (.cells 53 [.lit (.bool false), .lit (.slice none 0 0), .lit (.int .i64 0)])).push (.cells 53 [.lit (.bool b.1), .ro (Rd.slice (Rd.int .i64)) false b.2.1, .lit (.int .i64 b.2.2)])).push (.cells 53 [.lit (.bool (decide (x5331 < 0))), .ro (Rd.slice (Rd.int .i64)) false x5420, .lit (.int .i64 x5332)]))) k ((decide (x5329 < 0)), x5417, x5330) H5469 rfl rfl ?_
   rintro n ⟨x5442, x5443, x5444⟩ H
   obtain _ | n := n
   · exact nf rfl H
   rw [g_quireref09_two_l0.eq_2] at H
   show WP _ _ _ _ ((((Env.none.upd 4 (.ptr 0 0)).upd 5 (.ptr 1 0)).upd 7 (.ptr 2 0)).upd 9 (.ptr 3 0)) ((((Mem.nil.push (.cells 53 [.lit (.bool false), .lit (.slice none 0 0), .lit (.int .i64 0)])).push (.cells 53 [.lit (.bool false), .lit (.slice none 0 0), .lit (.int .i64 0)])).push (.cells 53 [.lit (.bool x5442), .ro (Rd.slice (Rd.int .i64)) false x5443, .lit (.int .i64 x5444)])).push (.cells 53 [.lit (.bool (decide (x5331 < 0))), .ro (Rd.slice (Rd.int .i64)) false x5420, .lit (.int .i64 x5332)])) _
   refine WP.seq ?_
   refine WP.seq ?_
   refine WP.region ?_
   refine WPL.q (q_fieldAddr fi53_1 rfl rfl) rfl ?_
   refine WPL.q (q_load sc3 rfl rfl rfl) rfl ?_
   refine WPL.q (q_fieldAddr fi53_1 rfl rfl) rfl ?_
   refine WPL.q (q_load sc3 rfl rfl rfl) rfl ?_
   refine WPL.q (q_gtr rfl rfl) rfl ?_
   refine WPL.nilW ?_
   refine W.now ?_
   refine Then.n ?_
   refine WP.cond (t := (decide (x5332 < x5444))) rfl (fun hb5459 => ?_) (fun hb5459 => ?_)
   · replace H := cnt hb5459 H
     refine WP.skipW ?_
     refine W.now ?_
     refine Then.n ?_
     refine WP.block ?_
     refine WP.regionD' 8 [2] [7] mixed rfl ?_
     refine WPD.takeT 0 rfl (by kernel_rfl) (q_fieldAddr fi53_0 rfl rfl) rfl ?_
     refine WPD.takeT 3 rfl (by kernel_rfl) (q_fieldAddr fi53_1 rfl rfl) rfl ?_
     refine WPD.take 1 rfl (by kernel_rfl) (q_load_ag ag51 rfl rfl (Nat.le_of_ble_eq_true rfl)) rfl rfl ?_
     refine WPD.take 4 rfl (by kernel_rfl) (q_load sc3 rfl rfl rfl) rfl rfl ?_
     refine WPD.takeT 5 rfl (by kernel_rfl) (q_sub rfl rfl) rfl ?_
     obtain ⟨⟨x5468, x5469⟩, h5466, H⟩ := bnd H
     refine WPD.eff 2 [2] [7] rfl (by kernel_rfl) (runs_call (s := []) (t := [4]) (N := 5) (bor := []) fn34 rfl (s_quireref09_Shift k x5442 x5443 1 x5468 x5469 h5466) ⟨rfl, trivial, by decide, rfl, trivial⟩ rfl trivial (.ren rfl rfl (.ren rfl rfl .nil)) rfl ⟨trivial, rfl⟩ rfl) rfl rfl ?_
     refine WPD.takeT 6 rfl (by kernel_rfl) (q_build bu53 rfl) rfl ?_
     refine WPD.effS 7 [] [] rfl (by kernel_rfl) (s_store sz53 rfl rfl rfl rfl rfl) rfl ?_
     refine WPD.doneW (by kernel_rfl) ?_
     exact W.wk [0, 1, 2, 3] hnp (InBlock.n (Then.n ⟨n, (x5468, x5469, (IntKind.wrap .i64 (x5444 - 1))), Nat.lt_succ_self n, H, rfl, rfl⟩)) ⟨rfl, ⟨⟨⟨⟨trivial, .inr ⟨rfl, rfl, rfl⟩⟩, .inr ⟨rfl, rfl, rfl⟩⟩, .inr ⟨rfl, rfl, rfl⟩⟩, .inr ⟨rfl, rfl, rfl⟩⟩, by decide, rfl, trivial⟩ (LeE.upd rfl rfl (LeE.upd rfl rfl (LeE.upd rfl rfl (LeE.upd rfl rfl (LeE.none rfl rfl))))) rfl
   replace H := cnf hb5459 H
   refine WP.exitW ?_
   have q0 := (Prod.mk.inj (Option.some.inj H)).1
   have q1 := (Prod.mk.inj (Prod.mk.inj (Option.some.inj H)).2).1
   have q2 := (Prod.mk.inj (Prod.mk.inj (Option.some.inj H)).2).2
   subst q0
   subst q1
   subst q2
   exact W.wk [0, 1, 2, 3] hnp (Then.x (Then.x ⟨rfl, rfl, rfl⟩)) ⟨rfl, ⟨⟨⟨⟨trivial, .inr ⟨rfl, rfl, rfl⟩⟩, .inr ⟨rfl, rfl, rfl⟩⟩, .inr ⟨rfl, rfl, rfl⟩⟩, .inr ⟨rfl, rfl, rfl⟩⟩, by decide, rfl, trivial⟩ (LeE.upd rfl rfl (LeE.upd rfl rfl (LeE.upd rfl rfl (LeE.upd rfl rfl (LeE.none rfl rfl))))) rfl
 rintro _ _ _ ⟨rfl, rfl, rfl⟩
 refine W.now ?_
 refine InBlock.x0 ?_
 refine Then.n ?_
 refine WP.seq ?_
 refine WP.block ?_
 refine WP.cv (Cv.weak (E' := ((((Env.none.upd 4 (.ptr 0 0)).upd 5 (.ptr 1 0)).upd 7 (.ptr 2 0)).upd 9 (.ptr 3 0))) (M' := ((((Mem.nil.push (.cells 53 [.lit (.bool false), .lit (.slice none 0 0), .lit (.int .i64 0)])).push (.cells 53 [.lit (.bool false), .lit (.slice none 0 0), .lit (.int .i64 0)])).push (.cells 53 [.lit (.bool x5456), .ro (Rd.slice (Rd.int .i64)) false x5457, .lit (.int .i64 x5458)])).push (.cells 53 [.lit (.bool (decide (x5331 < 0))), .ro (Rd.slice (Rd.int .i64)) false x5420, .lit (.int .i64 x5332)]))) [0, 1, 2, 3] hnp ⟨rfl, ⟨⟨⟨⟨trivial, .inr ⟨rfl, rfl, rfl⟩⟩, .inr ⟨rfl, rfl, rfl⟩⟩, .inr ⟨rfl, rfl, rfl⟩⟩, .inr ⟨rfl, rfl, rfl⟩⟩, by decide, rfl, trivial⟩ (LeE.upd rfl rfl (LeE.upd rfl rfl (LeE.upd rfl rfl (LeE.upd rfl rfl (LeE.none rfl rfl)))))) ?_
 obtain ⟨⟨x5496, x5497, x5498⟩, H5509, H⟩ := bnd H
 refine WP.monoW (Q := fun x E M => x = .exit 2 ∧ E = ((((Env.none.upd 4 (.ptr 0 0)).upd 5 (.ptr 1 0)).upd 7 (.ptr 2 0)).upd 9 (.ptr 3 0)) ∧ M = ((((Mem.nil.push (.cells 53 [.lit (.bool false), .lit (.slice none 0 0), .lit (.int .i64 0)])).push (.cells 53 [.lit (.bool false), .lit (.slice none 0 0), .lit (.int .i64 0)])).push (.cells 53 [.lit (.bool x5456), .ro (Rd.slice (Rd.int .i64)) false x5457, .lit (.int .i64 x5458)])).push (.cells 53 [.lit (.bool x5496), .ro (Rd.slice (Rd.int .i64)) false x5497, .lit (.int .i64 x5498)]))) ?_ ?_
 · refine WP.loop (β := Bool × (List Int) × Int) (fun n b => g_quireref09_two_l1 k x5458 n b.1 b.2.1 b.2.2 = some (x5496, x5497, x5498)) (fun b => ((((Env.none.upd 4 (.ptr 0 0)).upd 5 (.ptr 1 0)).upd 7 (.ptr 2 0)).upd 9 (.ptr 3 0))) (fun b => ((((Mem.nil.push (.cells 53 [.lit (.bool false), .lit (.slice none 0 0), .lit (.int .i64 0)])).push (.cells 53 [.lit (.bool false), .lit (.slice none 0 0), .lit (.int .i64 0)])).push (.cells 53 [.lit (.bool x5456), .ro (Rd.slice (Rd.int .i64)) false x5457, .lit (.int .i64 x5458)])).push (.cells 53 [.lit (.bool b.1), .ro (Rd.slice (Rd.int .i64)) false b.2.1, .lit (.int .i64 b.2.2)]))) k ((decide (x5331 < 0)), x5420, x5332) H5509 rfl rfl ?_
   rintro n ⟨x5482, x5483, x5484⟩ H
   obtain _ | n := n
   · exact nf rfl H
   rw [g_quireref09_two_l1.eq_2] at H
   show WP _ _ _ _ ((((Env.none.upd 4 (.ptr 0 0)).upd 5 (.ptr 1 0)).upd 7 (.ptr 2 0)).upd 9 (.ptr 3 0)) ((((Mem.nil.push (.cells 53 [.lit (.bool false), .lit (.slice none 0 0), .lit (.int .i64 0)])).push (.cells 53 [.lit (.bool false), .lit (.slice none 0 0), .lit (.int .i64 0)])).push (.cells 53 [.lit (.bool x5456), .ro (Rd.slice (Rd.int .i64)) false x5457, .lit (.int .i64 x5458)])).push (.cells 53 [.lit (.bool x5482), .ro (Rd.slice (Rd.int .i64)) false x5483, .lit (.int .i64 x5484)])) _
   refine WP.seq ?_
   refine WP.seq ?_
   refine WP.region ?_
   refine WPL.q (q_fieldAddr fi53_1 rfl rfl) rfl ?_
   refine WPL.q (q_load sc3 rfl rfl rfl) rfl ?_
   refine WPL.q (q_fieldAddr fi53_1 rfl rfl) rfl ?_
   refine WPL.q (q_load sc3 rfl rfl rfl) rfl ?_
   refine WPL.q (q_gtr rfl rfl) rfl ?_
   refine WPL.nilW ?_
   refine W.now ?_
   refine Then.n ?_
   refine WP.cond (t := (decide (x5458 < x5484))) rfl (fun hb5499 => ?_) (fun hb5499 => ?_)
   · replace H := cnt hb5499 H
     refine WP.skipW ?_
     refine W.now ?_
     refine Then.n ?_
     refine WP.block ?_
     refine WP.regionD' 8 [3] [7] mixed rfl ?_
     refine WPD.takeT 0 rfl (by kernel_rfl) (q_fieldAddr fi53_0 rfl rfl) rfl ?_
     refine WPD.takeT 3 rfl (by kernel_rfl) (q_fieldAddr fi53_1 rfl rfl) rfl ?_
     refine WPD.take 1 rfl (by kernel_rfl) (q_load_ag ag51 rfl rfl (Nat.le_of_ble_eq_true rfl)) rfl rfl ?_
     refine WPD.take 4 rfl (by kernel_rfl) (q_load sc3 rfl rfl rfl) rfl rfl ?_
     refine WPD.takeT 5 rfl (by kernel_rfl) (q_sub rfl rfl) rfl ?_
     obtain ⟨⟨x5508, x5509⟩, h5506, H⟩ := bnd H
     refine WPD.eff 2 [3] [7] rfl (by kernel_rfl) (runs_call (s := []) (t := [4]) (N := 5) (bor := []) fn34 rfl (s_quireref09_Shift k x5482 x5483 1 x5508 x5509 h5506) ⟨rfl, trivial, by decide, rfl, trivial⟩ rfl trivial (.ren rfl rfl (.ren rfl rfl .nil)) rfl ⟨trivial, rfl⟩ rfl) rfl rfl ?_
     refine WPD.takeT 6 rfl (by kernel_rfl) (q_build bu53 rfl) rfl ?_
     refine WPD.effS 7 [] [] rfl (by kernel_rfl) (s_store sz53 rfl rfl rfl rfl rfl) rfl ?_
     refine WPD.doneW (by kernel_rfl) ?_
     exact W.wk [0, 1, 2, 3] hnp (InBlock.n (Then.n ⟨n, (x5508, x5509, (IntKind.wrap .i64 (x5484 - 1))), Nat.lt_succ_self n, H, rfl, rfl⟩)) ⟨rfl, ⟨⟨⟨⟨trivial, .inr ⟨rfl, rfl, rfl⟩⟩, .inr ⟨rfl, rfl, rfl⟩⟩, .inr ⟨rfl, rfl, rfl⟩⟩, .inr ⟨rfl, rfl, rfl⟩⟩, by decide, rfl, trivial⟩ (LeE.upd rfl rfl (LeE.upd rfl rfl (LeE.upd rfl rfl (LeE.upd rfl rfl (LeE.none rfl rfl))))) rfl
   replace H := cnf hb5499 H
   refine WP.exitW ?_
   have q0 := (Prod.mk.inj (Option.some.inj H)).1
   have q1 := (Prod.mk.inj (Prod.mk.inj (Option.some.inj H)).2).1
   have q2 := (Prod.mk.inj (Prod.mk.inj (Option.some.inj H)).2).2
   subst q0
   subst q1
   subst q2
   exact W.wk [0, 1, 2, 3] hnp (Then.x (Then.x ⟨rfl, rfl, rfl⟩)) ⟨rfl, ⟨⟨⟨⟨trivial, .inr ⟨rfl, rfl, rfl⟩⟩, .inr ⟨rfl, rfl, rfl⟩⟩, .inr ⟨rfl, rfl, rfl⟩⟩, .inr ⟨rfl, rfl, rfl⟩⟩, by decide, rfl, trivial⟩ (LeE.upd rfl rfl (LeE.upd rfl rfl (LeE.upd rfl rfl (LeE.upd rfl rfl (LeE.none rfl rfl))))) rfl
 rintro _ _ _ ⟨rfl, rfl, rfl⟩
 refine W.now ?_
 refine InBlock.x0 ?_
 refine Then.n ?_
 refine WP.seq ?_
 refine WP.regionD' 5 [2, 3] [] mixed rfl ?_
 refine WPD.take 0 rfl (by kernel_rfl) (q_load_ag ag53 rfl rfl (Nat.le_of_ble_eq_true rfl)) rfl rfl ?_
 refine WPD.take 1 rfl (by kernel_rfl) (q_load_ag ag53 rfl rfl (Nat.le_of_ble_eq_true rfl)) rfl rfl ?_
 refine WPD.effS 2 [2, 3] [] rfl (by kernel_rfl) (s_store sz53 rfl rfl rfl rfl rfl) rfl ?_
 refine WPD.effS 3 [2, 3] [] rfl (by kernel_rfl) (s_store sz53 rfl rfl rfl rfl rfl) rfl ?_
 refine WPD.takeT 4 rfl (by kernel_rfl) (q_as (v := .lit (.bool _)) rfl) rfl ?_
 refine WPD.doneW (by kernel_rfl) ?_
 refine W.now ?_
 refine Then.n ?_
 refine WP.retW ?_
 have q0 := (Prod.mk.inj (Option.some.inj H)).1
 have q1 := (Prod.mk.inj (Prod.mk.inj (Option.some.inj H)).2).1
 have q2 := (Prod.mk.inj (Prod.mk.inj (Prod.mk.inj (Option.some.inj H)).2).2).1
 have q3 := (Prod.mk.inj (Prod.mk.inj (Prod.mk.inj (Prod.mk.inj (Option.some.inj H)).2).2).2).1
 have q4 := (Prod.mk.inj (Prod.mk.inj (Prod.mk.inj (Prod.mk.inj (Prod.mk.inj (Option.some.inj H)).2).2).2).2).1
 have q5 := (Prod.mk.inj (Prod.mk.inj (Prod.mk.inj (Prod.mk.inj (Prod.mk.inj (Prod.mk.inj (Option.some.inj H)).2).2).2).2).2).1
 have q6 := (Prod.mk.inj (Prod.mk.inj (Prod.mk.inj (Prod.mk.inj (Prod.mk.inj (Prod.mk.inj (Option.some.inj H)).2).2).2).2).2).2
 subst q0
 subst q1
 subst q2
 subst q3
 subst q4
 subst q5
 subst q6
 exact W.now (BodyR.mkR trivial rfl [0, 1] ⟨rfl, rfl⟩ ⟨rfl, ⟨⟨trivial, .inr ⟨rfl, rfl, rfl⟩⟩, .inr ⟨rfl, rfl, rfl⟩⟩, by decide, rfl, trivial⟩ rfl rfl)
set_option maxRecDepth 100000 in
set_option maxHeartbeats 4000000 in
theorem s_quireref09_Mod (k : Nat) (x5324 : Int) (x5325 : Int) (x5326 : Int) (x5327 : Int) (x5560 : Int) (x5561 : Int) (x5562 : Int) (H : g_quireref09_Mod k x5324 x5325 x5326 x5327 = some (x5560, x5561, x5562)) : Go.Q.Spec Try.prog 10 0 [.agg [.lit (.int .i64 x5324), .lit (.int .i64 x5325)], .agg [.lit (.int .i64 x5326), .lit (.int .i64 x5327)]] Mem.nil (fun o M => o = .ret (.tup [.agg [.lit (.int .i64 x5561), .lit (.int .i64 x5562)], .lit (.int .i64 x5560)]) ∧ M = (Mem.nil.push (.cells 23 [.lit (.int .i64 x5561), .lit (.int .i64 x5562)]))) := by
 unfold g_quireref09_Mod at H
 refine Go.Q.Spec.of_bodyR (az := [(23, 2)]) (rs := [.cell 4 23, .tmp 5]) (nt := 64) Try.func10 rfl rfl (by intro t T h; simp at h; rcases h with ⟨rfl, rfl⟩ <;> first | exact ag23) rfl rfl fun cx hnp => ?_
 refine WP.seq ?_
 refine WP.region ?_
 refine WPL.d (d_box rfl rfl) rfl ?_
 refine WPL.d (d_box rfl rfl) rfl ?_
 refine WPL.d (d_alloc ze23 rfl) rfl ?_
 refine WPL.q (q_as (v := .lit (.int _ _)) rfl) rfl ?_
 refine WPL.nilW ?_
 refine W.now ?_
 refine Then.n ?_
 refine WP.seq ?_
 refine WP.region ?_
 refine WPL.q (q_load_ag ag23 rfl rfl (Nat.le_of_ble_eq_true rfl)) rfl ?_
 refine WPL.q (q_load_ag ag23 rfl rfl (Nat.le_of_ble_eq_true rfl)) rfl ?_
 obtain ⟨⟨x5564, x5565, x5566, x5567, x5568, x5569, x5570⟩, h5562, H⟩ := bnd H
 refine WPL.c (runs_call (s := []) (t := [3, 4]) (N := 5) (bor := []) fn39 rfl (s_quireref09_two k x5324 x5325 x5326 x5327 x5564 x5565 x5566 x5567 x5568 x5569 x5570 h5562) ⟨rfl, trivial, by decide, rfl, trivial⟩ rfl trivial (.ren rfl rfl (.ren rfl rfl .nil)) rfl ⟨⟨trivial, rfl⟩, rfl⟩ rfl) rfl ?_
 refine WPL.q (q_mv (v := .tup _) rfl) rfl ?_
 refine WPL.q (q_extract rfl rfl) rfl ?_
 refine WPL.q (q_extract rfl rfl) rfl ?_
 refine WPL.q (q_extract rfl rfl) rfl ?_
 refine WPL.d (d_alloc ze53 rfl) rfl ?_
 refine WPL.d (d_alloc ze53 rfl) rfl ?_
 refine WPL.s (s_store sz53 rfl rfl rfl rfl rfl) ?_
 refine WPL.s (s_store sz53 rfl rfl rfl rfl rfl) ?_
 refine WPL.q (q_as (v := .lit (.bool _)) rfl) rfl ?_
 refine WPL.nilW ?_
 refine W.now ?_
 refine Then.n ?_
 refine WP.seq ?_
 refine WP.seq ?_
 refine WP.region ?_
 refine WPL.q (q_mv (v := .lit (.bool _)) rfl) rfl ?_
 refine WPL.q (q_not rfl) rfl ?_
 refine WPL.nilW ?_
 refine W.now ?_
 refine Then.n ?_
 refine WP.cond (t := (!x5564)) rfl (fun hb5571 => ?_) (fun hb5571 => ?_)
 · replace H := cnt hb5571 H
   refine WP.seq ?_
   refine WP.region ?_
   refine WPL.q (q_build bu23 rfl) rfl ?_
   refine WPL.s (s_store sz23 rfl rfl rfl rfl rfl) ?_
   refine WPL.q (q_as (v := .lit (.int _ _)) rfl) rfl ?_
   refine WPL.nilW ?_
   refine W.now ?_
   refine Then.n ?_
   refine WP.retW ?_
   have q0 := (Prod.mk.inj (Option.some.inj H)).1
   have q1 := (Prod.mk.inj (Prod.mk.inj (Option.some.inj H)).2).1
   have q2 := (Prod.mk.inj (Prod.mk.inj (Option.some.inj H)).2).2
   subst q0
   subst q1
   subst q2
   exact W.now (Then.r (BodyR.mkR trivial rfl [2] ⟨rfl, rfl⟩ ⟨rfl, ⟨trivial, .inr ⟨rfl, rfl, rfl⟩⟩, by decide, rfl, trivial⟩ rfl rfl))
 replace H := cnf hb5571 H
 refine WP.skipW ?_
 refine W.now ?_
 refine Then.n ?_
 refine WP.seq ?_
 refine WP.seq ?_
 refine WP.region ?_
 refine WPL.q (q_fieldAddr fi53_0 rfl rfl) rfl ?_
 refine WPL.q (q_fieldAddr fi51_1 rfl rfl) rfl ?_
 refine WPL.q (q_load sc49 rfl rfl rfl) rfl ?_
 refine WPL.q (q_len_ro sl49 rfl) rfl ?_
 obtain ⟨x5575, h5575, H⟩ := bnd H
 refine WPL.q (q_nm (q_eql rfl rfl) (nm_bool h5575)) rfl ?_
 refine WPL.nilW ?_
 refine W.now ?_
 refine Then.n ?_
 refine WP.cond (t := x5575) rfl (fun hb5575 => ?_) (fun hb5575 => ?_)
 · replace H := cnt hb5575 H
   refine WP.seq ?_
   refine WP.region ?_
   refine WPL.q (q_build bu23 rfl) rfl ?_
   refine WPL.s (s_store sz23 rfl rfl rfl rfl rfl) ?_
   refine WPL.q (q_as (v := .lit (.int _ _)) rfl) rfl ?_
   refine WPL.nilW ?_
   refine W.now ?_
   refine Then.n ?_
   refine WP.retW ?_
   have q0 := (Prod.mk.inj (Option.some.inj H)).1
   have q1 := (Prod.mk.inj (Prod.mk.inj (Option.some.inj H)).2).1
   have q2 := (Prod.mk.inj (Prod.mk.inj (Option.some.inj H)).2).2
   subst q0
   subst q1
   subst q2
   exact W.now (Then.r (BodyR.mkR trivial rfl [2] ⟨rfl, rfl⟩ ⟨rfl, ⟨trivial, .inr ⟨rfl, rfl, rfl⟩⟩, by decide, rfl, trivial⟩ rfl rfl))
 replace H := cnf hb5575 H
 refine WP.skipW ?_
 refine W.now ?_
 refine Then.n ?_
 refine WP.seq ?_
 refine WP.region ?_
 refine WPL.q (q_fieldAddr fi53_0 rfl rfl) rfl ?_
 refine WPL.q (q_load_ag ag51 rfl rfl (Nat.le_of_ble_eq_true rfl)) rfl ?_
 refine WPL.q (q_fieldAddr fi53_0 rfl rfl) rfl ?_
 refine WPL.q (q_load_ag ag51 rfl rfl (Nat.le_of_ble_eq_true rfl)) rfl ?_
 obtain ⟨⟨x5578, x5579, x5580, x5581⟩, h5576, H⟩ := bnd H
 refine WPL.c (runs_call (s := []) (t := [7, 8]) (N := 9) (bor := []) fn33 rfl (s_quireref09_Quo k x5565 x5566 x5568 x5569 x5578 x5579 x5580 x5581 h5576) ⟨rfl, trivial, by decide, rfl, trivial⟩ rfl trivial (.ren rfl rfl (.ren rfl rfl .nil)) rfl ⟨⟨trivial, rfl⟩, rfl⟩ rfl) rfl ?_
 refine WPL.q (q_mv (v := .tup _) rfl) rfl ?_
 refine WPL.q (q_extract rfl rfl) rfl ?_
 refine WPL.q (q_extract rfl rfl) rfl ?_
 refine WPL.d (d_alloc ze51 rfl) rfl ?_
 refine WPL.d (d_alloc ze51 rfl) rfl ?_
 refine WPL.s (s_store sz51 rfl rfl rfl rfl rfl) ?_
 refine WPL.s (s_store sz51 rfl rfl rfl rfl rfl) ?_
 refine WPL.nilW ?_
 refine W.now ?_
 refine Then.n ?_
 refine WP.seq ?_
 refine WP.region ?_
 refine WPL.q (q_fieldAddr fi53_0 rfl rfl) rfl ?_
 refine WPL.q (q_fieldAddr fi51_0 rfl rfl) rfl ?_
 refine WPL.q (q_load sc4 rfl rfl rfl) rfl ?_
 refine WPL.q (q_fieldAddr fi51_0 rfl rfl) rfl ?_
 refine WPL.s (s_store sz4 rfl rfl rfl rfl rfl) ?_
 refine WPL.nilW ?_
 refine W.now ?_
 refine Then.n ?_
 refine WP.seq ?_
 refine WP.region ?_
 refine WPL.q (q_load_ag ag51 rfl rfl (Nat.le_of_ble_eq_true rfl)) rfl ?_
 obtain ⟨⟨x5583, x5584⟩, h5581, H⟩ := bnd H
 refine WPL.c (runs_call (s := []) (t := [11]) (N := 12) (bor := []) fn36 rfl (s_quireref09_trim__b k x5565 x5581 x5583 x5584 h5581) ⟨rfl, trivial, by decide, rfl, trivial⟩ rfl trivial (.ren rfl rfl .nil) rfl ⟨trivial, rfl⟩ rfl) rfl ?_
 refine WPL.s (s_store sz51 rfl rfl rfl rfl rfl) ?_
 refine WPL.nilW ?_
 refine W.now ?_
 refine Then.n ?_
 refine WP.seq ?_
 obtain ⟨⟨x5595, x5596⟩, H5606, H⟩ := bnd H
 refine WP.monoW (Q := fun x E M => x = .normal ∧ E = (((Env.none.upd 4 (.ptr 0 0)).upd 6 (.ptr 1 0)).upd 10 (.ptr 2 0)) ∧ M = (((Mem.nil.push (.cells 23 [.lit (.int .i64 0), .lit (.int .i64 0)])).push (.cells 53 [.lit (.bool x5565), .ro (Rd.slice (Rd.int .i64)) false x5566, .lit (.int .i64 x5567)])).push (.cells 51 [.lit (.bool x5595), .ro (Rd.slice (Rd.int .i64)) false x5596]))) ?_ ?_
 · clear H
   have H := H5606
   clear H5606
   refine WP.seq ?_
   obtain ⟨x5599, H5601, H⟩ := bnd H
   refine WP.monoW (Q := fun x E M => x = .normal ∧ E = (((((Env.none.upd 4 (.ptr 0 0)).upd 6 (.ptr 1 0)).upd 7 (.ptr 2 0)).upd 10 (.ptr 3 0)).upd 52 (.lit (.bool x5599))) ∧ M = ((((Mem.nil.push (.cells 23 [.lit (.int .i64 0), .lit (.int .i64 0)])).push (.cells 53 [.lit (.bool x5565), .ro (Rd.slice (Rd.int .i64)) false x5566, .lit (.int .i64 x5567)])).push (.cells 53 [.lit (.bool x5568), .ro (Rd.slice (Rd.int .i64)) false x5569, .lit (.int .i64 x5570)])).push (.cells 51 [.lit (.bool x5583), .ro (Rd.slice (Rd.int .i64)) false x5584]))) ?_ ?_
   · clear H
     have H := H5601
     clear H5601
     refine WP.region ?_
     refine WPL.q (q_fieldAddr fi51_1 rfl rfl) rfl ?_
     refine WPL.q (q_load sc49 rfl rfl rfl) rfl ?_
     refine WPL.q (q_len_ro sl49 rfl) rfl ?_
     obtain ⟨x5600, h5600, H⟩ := bnd H
     refine WPL.q (q_nm (q_gtr rfl rfl) (nm_bool h5600)) rfl ?_
     refine WPL.q (q_mv (v := .lit (.bool _)) rfl) rfl ?_
     refine WPL.split (t := 45) (b := x5600) rfl (fun hb5600 => ?_) (fun hb5600 => ?_)
     · replace H := cnt hb5600 H
       refine WPL.qg rfl rfl (lb hb5600) (q_fieldAddr fi51_0 rfl rfl) rfl ?_
       refine WPL.qg rfl rfl (lb hb5600) (q_load sc4 rfl rfl rfl) rfl ?_
       refine WPL.qg rfl rfl (lb hb5600) (q_fieldAddr fi53_0 rfl rfl) rfl ?_
       refine WPL.qg rfl rfl (lb hb5600) (q_fieldAddr fi51_0 rfl rfl) rfl ?_
       refine WPL.qg rfl rfl (lb hb5600) (q_load sc4 rfl rfl rfl) rfl ?_
       refine WPL.qg rfl rfl (lb hb5600) (q_neqb Try.underlying4 rfl rfl) rfl ?_
       refine WPL.q (q_pickT (v := .lit (.bool _)) (lb hb5600) rfl) rfl ?_
       refine WPL.nilW ?_
       have q0 := (Option.some.inj H)
       subst q0
       exact W.wk [2, 5, 6, 10] hnp ⟨rfl, rfl, rfl⟩ ⟨rfl, ⟨⟨⟨⟨trivial, .inr ⟨rfl, rfl, rfl⟩⟩, .inr ⟨rfl, rfl, rfl⟩⟩, .inr ⟨rfl, rfl, rfl⟩⟩, .inr ⟨rfl, rfl, rfl⟩⟩, by decide, rfl, trivial⟩ (LeE.upd rfl rfl (LeE.upd rfl rfl (LeE.upd rfl rfl (LeE.upd rfl rfl (LeE.upd rfl rfl (LeE.none rfl rfl)))))) rfl
     replace H := cnf hb5600 H
     refine WPL.skipg (b' := false) rfl rfl (lb hb5600) rfl rfl ?_
     refine WPL.skipg (b' := false) rfl rfl (lb hb5600) rfl rfl ?_
     refine WPL.skipg (b' := false) rfl rfl (lb hb5600) rfl rfl ?_
     refine WPL.skipg (b' := false) rfl rfl (lb hb5600) rfl rfl ?_
     refine WPL.skipg (b' := false) rfl rfl (lb hb5600) rfl rfl ?_
     refine WPL.skipg (b' := false) rfl rfl (lb hb5600) rfl rfl ?_
     refine WPL.q (q_pickF (v := .lit (.bool _)) (lb hb5600) rfl) rfl ?_
     refine WPL.nilW ?_
     have q0 := (Option.some.inj H)
     subst q0
     exact W.wk [2, 5, 6, 10] hnp ⟨rfl, rfl, rfl⟩ ⟨rfl, ⟨⟨⟨⟨trivial, .inr ⟨rfl, rfl, rfl⟩⟩, .inr ⟨rfl, rfl, rfl⟩⟩, .inr ⟨rfl, rfl, rfl⟩⟩, .inr ⟨rfl, rfl, rfl⟩⟩, by decide, rfl, trivial⟩ (LeE.upd rfl rfl (LeE.upd rfl rfl (LeE.upd rfl rfl (LeE.upd rfl rfl (LeE.upd rfl rfl (LeE.none rfl rfl)))))) rfl
   rintro _ _ _ ⟨rfl, rfl, rfl⟩
   refine W.now ?_
   refine Then.n ?_
   refine WP.cond (t := x5599) rfl (fun hb5602 => ?_) (fun hb5602 => ?_)
   · replace H := cnt hb5602 H
     refine WP.region ?_
     refine WPL.q (q_load_ag ag51 rfl rfl (Nat.le_of_ble_eq_true rfl)) rfl ?_
     refine WPL.q (q_fieldAddr fi53_0 rfl rfl) rfl ?_
     refine WPL.q (q_load_ag ag51 rfl rfl (Nat.le_of_ble_eq_true rfl)) rfl ?_
     obtain ⟨⟨x5605, x5606⟩, h5603, H⟩ := bnd H
     refine WPL.c (runs_call (s := []) (t := [4]) (N := 5) (bor := []) fn40 rfl (s_quireref09_Plus k x5583 x5584 x5568 x5569 x5605 x5606 h5603) ⟨rfl, trivial, by decide, rfl, trivial⟩ rfl trivial (.ren rfl rfl (.ren rfl rfl .nil)) rfl ⟨trivial, rfl⟩ rfl) rfl ?_
     refine WPL.s (s_store sz51 rfl rfl rfl rfl rfl) ?_
     refine WPL.nilW ?_
     have q0 := (Prod.mk.inj (Option.some.inj H)).1
     have q1 := (Prod.mk.inj (Option.some.inj H)).2
     subst q0
     subst q1
     exact W.wk [0, 1, 3] hnp ⟨rfl, rfl, rfl⟩ ⟨rfl, ⟨⟨⟨trivial, .inr ⟨rfl, rfl, rfl⟩⟩, .inr ⟨rfl, rfl, rfl⟩⟩, .inr ⟨rfl, rfl, rfl⟩⟩, by decide, rfl, trivial⟩ (LeE.upd rfl rfl (LeE.upd rfl rfl (LeE.upd rfl rfl (LeE.none rfl rfl)))) rfl
   replace H := cnf hb5602 H
   refine WP.skipW ?_
   have q0 := (Prod.mk.inj (Option.some.inj H)).1
   have q1 := (Prod.mk.inj (Option.some.inj H)).2
   subst q0
   subst q1
   exact W.wk [0, 1, 3] hnp ⟨rfl, rfl, rfl⟩ ⟨rfl, ⟨⟨⟨trivial, .inr ⟨rfl, rfl, rfl⟩⟩, .inr ⟨rfl, rfl, rfl⟩⟩, .inr ⟨rfl, rfl, rfl⟩⟩, by decide, rfl, trivial⟩ (LeE.upd rfl rfl (LeE.upd rfl rfl (LeE.upd rfl rfl (LeE.none rfl rfl)))) rfl
 rintro _ _ _ ⟨rfl, rfl, rfl⟩
 refine W.now ?_
 refine Then.n ?_
 refine WP.seq ?_
 refine WP.region ?_
 refine WPL.q (q_load_ag ag51 rfl rfl (Nat.le_of_ble_eq_true rfl)) rfl ?_
 refine WPL.q (q_fieldAddr fi53_1 rfl rfl) rfl ?_
 refine WPL.q (q_load sc3 rfl rfl rfl) rfl ?_
 refine WPL.q (q_build bu53 rfl) rfl ?_
 obtain ⟨⟨x5609, x5610, x5611⟩, h5607, H⟩ := bnd H
 refine WPL.c (runs_call (s := []) (t := [3]) (N := 4) (bor := []) fn35 rfl (s_quireref09_Tell k x5595 x5596 x5567 x5609 x5610 x5611 h5607) ⟨rfl, trivial, by decide, rfl, trivial⟩ rfl trivial (.ren rfl rfl .nil) rfl ⟨trivial, rfl⟩ rfl) rfl ?_
 refine WPL.q (q_extract rfl rfl) rfl ?_
 refine WPL.q (q_extract rfl rfl) rfl ?_
 refine WPL.s (s_store sz23 rfl rfl rfl rfl rfl) ?_
 refine WPL.q (q_as (v := .lit (.int _ _)) rfl) rfl ?_
 refine WPL.nilW ?_
 refine W.now ?_
 refine Then.n ?_
 refine WP.retW ?_
 have q0 := (Prod.mk.inj (Option.some.inj H)).1
 have q1 := (Prod.mk.inj (Prod.mk.inj (Option.some.inj H)).2).1
 have q2 := (Prod.mk.inj (Prod.mk.inj (Option.some.inj H)).2).2
 subst q0
 subst q1
 subst q2
 exact W.now (BodyR.mkR trivial rfl [0] ⟨rfl, rfl⟩ ⟨rfl, ⟨trivial, .inr ⟨rfl, rfl, rfl⟩⟩, by decide, rfl, trivial⟩ rfl rfl)
set_option maxRecDepth 100000 in
set_option maxHeartbeats 4000000 in
theorem s_dec_clean__b (k : Nat) (x5652 : Int) (x5653 : Int) (x5679 : Bool) (x5680 : Int) (x5681 : Int) (H : g_dec_clean__b k x5652 x5653 = some (x5679, x5680, x5681)) : Go.Q.Spec Try.prog 27 2 [.sl 0 1 0 1] ((Mem.nil.push (.cells 37 [.ptr 1 0])).push (.cells 23 [.lit (.int .i64 x5652), .lit (.int .i64 x5653)])) (fun o M => o = .ret (.lit (.bool x5679)) ∧ M = ((Mem.nil.push (.cells 37 [.ptr 1 0])).push (.cells 23 [.lit (.int .i64 x5680), .lit (.int .i64 x5681)]))) := by
 unfold g_dec_clean__b at H
 refine Go.Q.Spec.of_bodyR (az := []) (rs := [.tmp 2]) (nt := 28) Try.func27 rfl rfl (by intro t T h; simp at h) rfl rfl fun cx hnp => ?_
 refine WP.seq ?_
 refine WP.region ?_
 refine WPL.q (q_as (v := .lit (.bool _)) rfl) rfl ?_
 refine WPL.nilW ?_
 refine W.now ?_
 refine Then.n ?_
 refine WP.seq ?_
 refine WP.seq ?_
 refine WP.region ?_
 refine WPL.q (q_mv (v := .sl _ _ _ _) rfl) rfl ?_
 refine WPL.q (q_len_sl (k := 1) sl81 rfl rfl) rfl ?_
 refine WPL.q (q_mv (v := .lit (.int _ _)) rfl) rfl ?_
 refine WPL.nilW ?_
 refine W.now ?_
 refine Then.n ?_
 refine WP.block ?_
 refine WP.loopU ?_
 refine WPI.round ?_
 refine WP.seq ?_
 refine WP.region ?_
 refine WPL.q (q_lss rfl rfl) rfl ?_
 refine WPL.nilW ?_
 refine W.now ?_
 refine Then.n ?_
 refine WP.seq ?_
 refine WP.condT rfl ?_
 refine WP.skipW ?_
 refine W.now ?_
 refine Then.n ?_
 refine WP.seq ?_
 refine WP.block ?_
 refine WP.seq ?_
 refine WP.region ?_
 refine WPL.q (q_index_sl (o := 0) sl81 rfl rfl rfl rfl) rfl ?_
 refine WPL.q (q_load sc37 rfl rfl rfl) rfl ?_
 refine WPL.q (q_as (v := .ptr _ _) rfl) rfl ?_
 refine WPL.nilW ?_
 refine W.now ?_
 refine Then.n ?_
 refine WP.seq ?_
 refine WP.seq ?_
 refine WP.region ?_
 refine WPL.q (q_mv (v := .ptr _ _) rfl) rfl ?_
 refine WPL.q (q_nilCheck rfl) rfl ?_
 refine WPL.q (q_load_ag ag23 rfl rfl (Nat.le_of_ble_eq_true rfl)) rfl ?_
 refine WPL.d (d_buildSlice (ds := ([(⟨x5652, x5653⟩ : S_api_Dec)] : List S_api_Dec)) (R := rdS_api_Dec) li91 rfl rfl rfl rfl rfl (JoinRows.cons (l := [.lit (.int .i64 x5652), .lit (.int .i64 x5653)]) (Joins.via (Joins.cons Joins.sc (Joins.cons Joins.sc Joins.unit))) rfl JoinRows.nil) rfl rfl) rfl ?_
 obtain ⟨x5698, h5696, H⟩ := bnd H
 refine WPL.c (runs_call (s := []) (t := []) (N := 3) (bor := [2]) fn52 rfl (s_dec_ranged k ([(⟨x5652, x5653⟩ : S_api_Dec)] : List S_api_Dec) x5698 h5696) ⟨rfl, trivial, by decide, rfl, trivial⟩ rfl ⟨trivial, rfl, rfl, trivial⟩ (.row rfl rfl .nil) rfl trivial rfl) rfl ?_
 refine WPL.q (q_not rfl) rfl ?_
 refine WPL.nilW ?_
 refine W.now ?_
 refine Then.n ?_
 refine WP.cond (t := (!x5698)) rfl (fun hb5698 => ?_) (fun hb5698 => ?_)
 · replace H := cnt hb5698 H
   refine WP.seq ?_
   refine WP.region ?_
   refine WPL.q (q_as (v := .lit (.bool _)) rfl) rfl ?_
   refine WPL.nilW ?_
   refine W.now ?_
   refine Then.n ?_
   refine WP.retW ?_
   have q0 := (Prod.mk.inj (Option.some.inj H)).1
   have q1 := (Prod.mk.inj (Prod.mk.inj (Option.some.inj H)).2).1
   have q2 := (Prod.mk.inj (Prod.mk.inj (Option.some.inj H)).2).2
   subst q0
   subst q1
   subst q2
   exact W.now (Then.r (InBlock.r (Then.r (Then.r (InBlock.r (Then.r (BodyR.mkR trivial rfl [0, 1] ⟨rfl, rfl⟩ ⟨rfl, ⟨⟨trivial, .inr ⟨rfl, rfl, rfl⟩⟩, .inr ⟨rfl, rfl, rfl⟩⟩, by decide, rfl, ⟨⟨trivial, rfl⟩, rfl⟩⟩ rfl rfl)))))))
 replace H := cnf hb5698 H
 refine WP.skipW ?_
 refine W.now ?_
 refine Then.n ?_
 refine WP.region ?_
 refine WPL.q (q_mv (v := .ptr _ _) rfl) rfl ?_
 refine WPL.q (q_mv (v := .ptr _ _) rfl) rfl ?_
 refine WPL.q (q_nilCheck rfl) rfl ?_
 refine WPL.q (q_load_ag ag23 rfl rfl (Nat.le_of_ble_eq_true rfl)) rfl ?_
 obtain ⟨x5701, h5699, H⟩ := bnd H
 refine WPL.c (runs_call (s := []) (t := [3]) (N := 4) (bor := []) fn38 rfl (s_dec_of k x5652 x5653 x5701 h5699) ⟨rfl, trivial, by decide, rfl, trivial⟩ rfl trivial (.ren rfl rfl .nil) rfl ⟨trivial, rfl⟩ rfl) rfl ?_
 obtain ⟨⟨x5703, x5704, x5705⟩, h5701, H⟩ := bnd H
 refine WPL.c (runs_call (s := []) (t := [4]) (N := 5) (bor := []) fn31 rfl (s_dec_num_tell k (decide (x5652 < 0)) 0 x5701 x5653 x5703 x5704 x5705 h5701) ⟨rfl, trivial, by decide, rfl, trivial⟩ rfl trivial (.ren rfl rfl .nil) rfl ⟨trivial, rfl⟩ rfl) rfl ?_
 refine WPL.q (q_mv (v := .tup _) rfl) rfl ?_
 refine WPL.q (q_extract rfl rfl) rfl ?_
 refine WPL.q (q_extract rfl rfl) rfl ?_
 refine WPL.q (q_nilCheck rfl) rfl ?_
 refine WPL.s (s_store sz23 rfl rfl rfl rfl rfl) ?_
 refine WPL.nilW ?_
 refine W.now ?_
 refine InBlock.n ?_
 refine Then.n ?_
 refine WP.region ?_
 refine WPL.q (q_nm (q_add rfl rfl) (fold_int (b := 1) (by decide))) rfl ?_
 refine WPL.q (q_mv (v := .lit (.int _ _)) rfl) rfl ?_
 refine WPL.nilW ?_
 refine W.now ?_
 refine Then.n ?_
 refine WPI.round ?_
 refine WP.seq ?_
 refine WP.region ?_
 refine WPL.q (q_lss rfl rfl) rfl ?_
 refine WPL.nilW ?_
 refine W.now ?_
 refine Then.n ?_
 refine WP.seq ?_
 refine WP.condF rfl ?_
 refine WP.exitW ?_
 refine W.now ?_
 refine Then.x ?_
 refine Then.x ?_
 refine InBlock.x0 ?_
 refine Then.n ?_
 refine WP.seq ?_
 refine WP.region ?_
 refine WPL.q (q_as (v := .lit (.bool _)) rfl) rfl ?_
 refine WPL.nilW ?_
 refine W.now ?_
 refine Then.n ?_
 refine WP.retW ?_
 have q0 := (Prod.mk.inj (Option.some.inj H)).1
 have q1 := (Prod.mk.inj (Prod.mk.inj (Option.some.inj H)).2).1
 have q2 := (Prod.mk.inj (Prod.mk.inj (Option.some.inj H)).2).2
 subst q0
 subst q1
 subst q2
 exact W.now (BodyR.mkR trivial rfl [0, 1] ⟨rfl, rfl⟩ ⟨rfl, ⟨⟨trivial, .inr ⟨rfl, rfl, rfl⟩⟩, .inr ⟨rfl, rfl, rfl⟩⟩, by decide, rfl, ⟨⟨trivial, rfl⟩, rfl⟩⟩ rfl rfl)
set_option maxRecDepth 100000 in
set_option maxHeartbeats 4000000 in
theorem s_dec_Int (k : Nat) (x5649 : Int) (x5650 : Int) (x5822 : Int) (x5823 : Bool) (H : g_dec_Int k x5649 x5650 = some (x5822, x5823)) : Go.Q.Spec Try.prog 41 0 [.agg [.lit (.int .i64 x5649), .lit (.int .i64 x5650)]] Mem.nil (fun o M => o = .ret (.tup [.lit (.int .i64 x5822), .lit (.bool x5823)]) ∧ M = Mem.nil) := by
 unfold g_dec_Int at H
 refine Go.Q.Spec.of_bodyR (az := []) (rs := [.tmp 2, .tmp 3]) (nt := 46) Try.func41 rfl rfl (by intro t T h; simp at h) rfl rfl fun cx hnp => ?_
 refine WP.seq ?_
 refine WP.region ?_
 refine WPL.d (d_box rfl rfl) rfl ?_
 refine WPL.q (q_as (v := .lit (.int _ _)) rfl) rfl ?_
 refine WPL.q (q_as (v := .lit (.bool _)) rfl) rfl ?_
 refine WPL.nilW ?_
 refine W.now ?_
 refine Then.n ?_
 refine WP.seq ?_
 refine WP.seq ?_
 obtain ⟨⟨x5844, x5845, x5846⟩, H5851, H⟩ := bnd H
 refine WP.monoW (Q := fun x E M => x = .normal ∧ E = ((Env.none.upd 1 (.ptr 0 0)).upd 13 (.lit (.bool x5844))) ∧ M = (Mem.nil.push (.cells 23 [.lit (.int .i64 x5845), .lit (.int .i64 x5846)]))) ?_ ?_
 · clear H
   have H := H5851
   clear H5851
   refine WP.region ?_
   refine WPL.d (d_buildCells li81 rfl rfl rfl rfl rfl) rfl ?_
   obtain ⟨⟨x5848, x5849, x5850⟩, h5846, H⟩ := bnd H
   refine WPL.c (runs_call (s := [1, 0]) (t := [1, 0]) (N := 2) (bor := []) fn27 rfl (s_dec_clean__b k x5649 x5650 x5848 x5849 x5850 h5846) ⟨rfl, ⟨⟨trivial, .inr ⟨rfl, rfl, rfl⟩⟩, .inr ⟨rfl, rfl, rfl⟩⟩, by decide, rfl, trivial⟩ rfl trivial (.ren rfl rfl .nil) rfl ⟨⟨trivial, rfl⟩, rfl⟩ rfl) rfl ?_
   refine WPL.q (q_not rfl) rfl ?_
   refine WPL.q (q_mv (v := .lit (.bool _)) rfl) rfl ?_
   refine WPL.split (t := 9) (b := (!x5848)) rfl (fun hb5850 => ?_) (fun hb5850 => ?_)
   · replace H := cnt hb5850 H
     refine WPL.skipg (b' := true) rfl rfl (lb hb5850) rfl rfl ?_
     refine WPL.skipg (b' := true) rfl rfl (lb hb5850) rfl rfl ?_
     refine WPL.skipg (b' := true) rfl rfl (lb hb5850) rfl rfl ?_
     refine WPL.q (q_pickT (v := .lit (.bool _)) (lb hb5850) rfl) rfl ?_
     refine WPL.nilW ?_
     have q0 := (Prod.mk.inj (Option.some.inj H)).1
     have q1 := (Prod.mk.inj (Prod.mk.inj (Option.some.inj H)).2).1
     have q2 := (Prod.mk.inj (Prod.mk.inj (Option.some.inj H)).2).2
     subst q0
     subst q1
     subst q2
     exact W.wk [0] hnp ⟨rfl, rfl, rfl⟩ ⟨rfl, ⟨trivial, .inr ⟨rfl, rfl, rfl⟩⟩, by decide, rfl, trivial⟩ (LeE.upd rfl rfl (LeE.upd rfl rfl (LeE.none rfl rfl))) rfl
   replace H := cnf hb5850 H
   refine WPL.qg rfl rfl (lb hb5850) (q_fieldAddr fi23_1 rfl rfl) rfl ?_
   refine WPL.qg rfl rfl (lb hb5850) (q_load sc3 rfl rfl rfl) rfl ?_
   refine WPL.qg rfl rfl (lb hb5850) (q_lss rfl rfl) rfl ?_
   refine WPL.q (q_pickF (v := .lit (.bool _)) (lb hb5850) rfl) rfl ?_
   refine WPL.nilW ?_
   have q0 := (Prod.mk.inj (Option.some.inj H)).1
   have q1 := (Prod.mk.inj (Prod.mk.inj (Option.some.inj H)).2).1
   have q2 := (Prod.mk.inj (Prod.mk.inj (Option.some.inj H)).2).2
   subst q0
   subst q1
   subst q2
   exact W.wk [0] hnp ⟨rfl, rfl, rfl⟩ ⟨rfl, ⟨trivial, .inr ⟨rfl, rfl, rfl⟩⟩, by decide, rfl, trivial⟩ (LeE.upd rfl rfl (LeE.upd rfl rfl (LeE.none rfl rfl))) rfl
 rintro _ _ _ ⟨rfl, rfl, rfl⟩
 refine W.now ?_
 refine Then.n ?_
 refine WP.cond (t := x5844) rfl (fun hb5852 => ?_) (fun hb5852 => ?_)
 · replace H := cnt hb5852 H
   refine WP.seq ?_
   refine WP.region ?_
   refine WPL.q (q_as (v := .lit (.int _ _)) rfl) rfl ?_
   refine WPL.q (q_as (v := .lit (.bool _)) rfl) rfl ?_
   refine WPL.nilW ?_
   refine W.now ?_
   refine Then.n ?_
   refine WP.retW ?_
   have q0 := (Prod.mk.inj (Option.some.inj H)).1
   have q1 := (Prod.mk.inj (Option.some.inj H)).2
   subst q0
   subst q1
   exact W.now (Then.r (BodyR.mkR trivial rfl [] ⟨rfl, rfl⟩ ⟨rfl, trivial, by decide, rfl, trivial⟩ rfl rfl))
 replace H := cnf hb5852 H
 refine WP.skipW ?_
 refine W.now ?_
 refine Then.n ?_
 refine WP.seq ?_
 obtain ⟨⟨x5886, x5887, x5888⟩, H5920, H⟩ := bnd H
 refine WP.monoW (Q := fun x E M => x = .normal ∧ E = (((Env.none.upd 1 (.ptr 0 0)).upd 4 (.ptr 1 0)).upd 5 (.lit (.bool x5886))) ∧ M = ((Mem.nil.push (.cells 23 [.lit (.int .i64 x5845), .lit (.int .i64 x5846)])).push (.cells 43 [.lit (.int .u64 x5887), .lit (.int .u64 x5888)]))) ?_ ?_
 · clear H
   have H := H5920
   clear H5920
   refine WP.regionD' 13 [0] [] mixed rfl ?_
   refine WPD.takeT 0 rfl (by kernel_rfl) (q_fieldAddr fi23_0 rfl rfl) rfl ?_
   refine WPD.takeT 4 rfl (by kernel_rfl) (q_fieldAddr fi23_1 rfl rfl) rfl ?_
   refine WPD.take 1 rfl (by kernel_rfl) (q_load sc2 rfl rfl rfl) rfl rfl ?_
   refine WPD.take 5 rfl (by kernel_rfl) (q_load sc3 rfl rfl rfl) rfl rfl ?_
   refine WPD.of2 2 10 (by kernel_rfl) ?_ ?_
   · obtain ⟨x5906, h5904, H⟩ := bnd H
     refine WPD1.eff 2 [0] [] rfl (runs_call (s := []) (t := []) (N := 1) (bor := []) fn28 rfl (s_dec_size k x5845 x5906 h5904) ⟨rfl, trivial, by decide, rfl, trivial⟩ rfl trivial (.ren rfl rfl .nil) rfl trivial rfl) rfl rfl ?_
     refine WPD.takeT 3 rfl (by kernel_rfl) (q_build bu43 rfl) rfl ?_
     refine WPD.of2 6 10 (by kernel_rfl) ?_ ?_
     · obtain ⟨⟨x5908, x5909, x5910⟩, h5906, H⟩ := bnd H
       refine WPD1.eff 6 [0] [] rfl (runs_call (s := []) (t := [1]) (N := 2) (bor := []) fn60 rfl (s_dec_wide_tens k 0 x5906 x5846 x5908 x5909 x5910 h5906) ⟨rfl, trivial, by decide, rfl, trivial⟩ rfl trivial (.ren rfl rfl (.ren rfl rfl .nil)) rfl ⟨trivial, rfl⟩ rfl) rfl rfl ?_
       refine WPD.takeT 7 rfl (by kernel_rfl) (q_mv (v := .tup _) rfl) rfl ?_
       refine WPD.takeT 8 rfl (by kernel_rfl) (q_extract rfl rfl) rfl ?_
       refine WPD.takeT 9 rfl (by kernel_rfl) (q_extract rfl rfl) rfl ?_
       refine WPD.eff 10 [0] [] rfl (by kernel_rfl) (Does.runs (d_alloc ze43 rfl)) rfl rfl ?_
       refine WPD.effS 11 [0] [] rfl (by kernel_rfl) (s_store sz43 rfl rfl rfl rfl rfl) rfl ?_
       refine WPD.takeT 12 rfl (by kernel_rfl) (q_as (v := .lit (.bool _)) rfl) rfl ?_
       refine WPD.doneW (by kernel_rfl) ?_
       have q0 := (Prod.mk.inj (Option.some.inj H)).1
       have q1 := (Prod.mk.inj (Prod.mk.inj (Option.some.inj H)).2).1
       have q2 := (Prod.mk.inj (Prod.mk.inj (Option.some.inj H)).2).2
       subst q0
       subst q1
       subst q2
       exact W.wk [0, 2] hnp ⟨rfl, rfl, rfl⟩ ⟨rfl, ⟨⟨trivial, .inr ⟨rfl, rfl, rfl⟩⟩, .inr ⟨rfl, rfl, rfl⟩⟩, by decide, rfl, trivial⟩ (LeE.upd rfl rfl (LeE.upd rfl rfl (LeE.upd rfl rfl (LeE.none rfl rfl)))) rfl
     refine WPD1.eff 10 [0] [] rfl (Does.runs (d_alloc ze43 rfl)) rfl rfl ?_
     obtain ⟨⟨x5912, x5913, x5914⟩, h5910, H⟩ := bnd H
     refine WPD.eff 6 [0] [] rfl (by kernel_rfl) (runs_call (s := []) (t := [2]) (N := 3) (bor := []) fn60 rfl (s_dec_wide_tens k 0 x5906 x5846 x5912 x5913 x5914 h5910) ⟨rfl, trivial, by decide, rfl, trivial⟩ rfl trivial (.ren rfl rfl (.ren rfl rfl .nil)) rfl ⟨trivial, rfl⟩ rfl) rfl rfl ?_
     refine WPD.takeT 7 rfl (by kernel_rfl) (q_mv (v := .tup _) rfl) rfl ?_
     refine WPD.takeT 8 rfl (by kernel_rfl) (q_extract rfl rfl) rfl ?_
     refine WPD.takeT 9 rfl (by kernel_rfl) (q_extract rfl rfl) rfl ?_
     refine WPD.effS 11 [0] [] rfl (by kernel_rfl) (s_store sz43 rfl rfl rfl rfl rfl) rfl ?_
     refine WPD.takeT 12 rfl (by kernel_rfl) (q_as (v := .lit (.bool _)) rfl) rfl ?_
     refine WPD.doneW (by kernel_rfl) ?_
     have q0 := (Prod.mk.inj (Option.some.inj H)).1
     have q1 := (Prod.mk.inj (Prod.mk.inj (Option.some.inj H)).2).1
     have q2 := (Prod.mk.inj (Prod.mk.inj (Option.some.inj H)).2).2
     subst q0
     subst q1
     subst q2
     exact W.wk [0, 1] hnp ⟨rfl, rfl, rfl⟩ ⟨rfl, ⟨⟨trivial, .inr ⟨rfl, rfl, rfl⟩⟩, .inr ⟨rfl, rfl, rfl⟩⟩, by decide, rfl, trivial⟩ (LeE.upd rfl rfl (LeE.upd rfl rfl (LeE.upd rfl rfl (LeE.none rfl rfl)))) rfl
   refine WPD1.eff 10 [0] [] rfl (Does.runs (d_alloc ze43 rfl)) rfl rfl ?_
   obtain ⟨x5916, h5914, H⟩ := bnd H
   refine WPD.eff 2 [0] [] rfl (by kernel_rfl) (runs_call (s := []) (t := []) (N := 2) (bor := []) fn28 rfl (s_dec_size k x5845 x5916 h5914) ⟨rfl, trivial, by decide, rfl, trivial⟩ rfl trivial (.ren rfl rfl .nil) rfl trivial rfl) rfl rfl ?_
   refine WPD.takeT 3 rfl (by kernel_rfl) (q_build bu43 rfl) rfl ?_
   obtain ⟨⟨x5918, x5919, x5920⟩, h5916, H⟩ := bnd H
   refine WPD.eff 6 [0] [] rfl (by kernel_rfl) (runs_call (s := []) (t := [2]) (N := 3) (bor := []) fn60 rfl (s_dec_wide_tens k 0 x5916 x5846 x5918 x5919 x5920 h5916) ⟨rfl, trivial, by decide, rfl, trivial⟩ rfl trivial (.ren rfl rfl (.ren rfl rfl .nil)) rfl ⟨trivial, rfl⟩ rfl) rfl rfl ?_
   refine WPD.takeT 7 rfl (by kernel_rfl) (q_mv (v := .tup _) rfl) rfl ?_
   refine WPD.takeT 8 rfl (by kernel_rfl) (q_extract rfl rfl) rfl ?_
   refine WPD.takeT 9 rfl (by kernel_rfl) (q_extract rfl rfl) rfl ?_
   refine WPD.effS 11 [0] [] rfl (by kernel_rfl) (s_store sz43 rfl rfl rfl rfl rfl) rfl ?_
   refine WPD.takeT 12 rfl (by kernel_rfl) (q_as (v := .lit (.bool _)) rfl) rfl ?_
   refine WPD.doneW (by kernel_rfl) ?_
   have q0 := (Prod.mk.inj (Option.some.inj H)).1
   have q1 := (Prod.mk.inj (Prod.mk.inj (Option.some.inj H)).2).1
   have q2 := (Prod.mk.inj (Prod.mk.inj (Option.some.inj H)).2).2
   subst q0
   subst q1
   subst q2
   exact W.wk [0, 1] hnp ⟨rfl, rfl, rfl⟩ ⟨rfl, ⟨⟨trivial, .inr ⟨rfl, rfl, rfl⟩⟩, .inr ⟨rfl, rfl, rfl⟩⟩, by decide, rfl, trivial⟩ (LeE.upd rfl rfl (LeE.upd rfl rfl (LeE.upd rfl rfl (LeE.none rfl rfl)))) rfl
 rintro _ _ _ ⟨rfl, rfl, rfl⟩
 refine W.now ?_
 refine Then.n ?_
 refine WP.seq ?_
 refine WP.seq ?_
 obtain ⟨x5931, H5933, H⟩ := bnd H
 refine WP.monoW (Q := fun x E M => x = .normal ∧ E = (((Env.none.upd 1 (.ptr 0 0)).upd 4 (.ptr 1 0)).upd 35 (.lit (.bool x5931))) ∧ M = ((Mem.nil.push (.cells 23 [.lit (.int .i64 x5845), .lit (.int .i64 x5846)])).push (.cells 43 [.lit (.int .u64 x5887), .lit (.int .u64 x5888)]))) ?_ ?_
 · clear H
   have H := H5933
   clear H5933
   refine WP.region ?_
   refine WPL.q (q_mv (v := .lit (.bool _)) rfl) rfl ?_
   refine WPL.q (q_not rfl) rfl ?_
   refine WPL.q (q_mv (v := .lit (.bool _)) rfl) rfl ?_
   refine WPL.split (t := 26) (b := (!x5886)) rfl (fun hb5931 => ?_) (fun hb5931 => ?_)
   · replace H := cnt hb5931 H
     refine WPL.skipg (b' := true) rfl rfl (lb hb5931) rfl rfl ?_
     refine WPL.skipg (b' := true) rfl rfl (lb hb5931) rfl rfl ?_
     refine WPL.skipg (b' := true) rfl rfl (lb hb5931) rfl rfl ?_
     refine WPL.q (q_pickT (v := .lit (.bool _)) (lb hb5931) rfl) rfl ?_
     refine WPL.q (q_mv (v := .lit (.bool _)) rfl) rfl ?_
     refine WPL.skipg (b' := true) rfl rfl rfl rfl rfl ?_
     refine WPL.skipg (b' := true) rfl rfl rfl rfl rfl ?_
     refine WPL.skipg (b' := true) rfl rfl rfl rfl rfl ?_
     refine WPL.q (q_pickT (v := .lit (.bool _)) rfl rfl) rfl ?_
     refine WPL.nilW ?_
     have q0 := (Option.some.inj H)
     subst q0
     exact W.wk [0, 1] hnp ⟨rfl, rfl, rfl⟩ ⟨rfl, ⟨⟨trivial, .inr ⟨rfl, rfl, rfl⟩⟩, .inr ⟨rfl, rfl, rfl⟩⟩, by decide, rfl, trivial⟩ (LeE.upd rfl rfl (LeE.upd rfl rfl (LeE.upd rfl rfl (LeE.none rfl rfl)))) rfl
   replace H := cnf hb5931 H
   refine WPL.qg rfl rfl (lb hb5931) (q_fieldAddr fi43_0 rfl rfl) rfl ?_
   refine WPL.qg rfl rfl (lb hb5931) (q_load sc38 rfl rfl rfl) rfl ?_
   refine WPL.qg rfl rfl (lb hb5931) (q_gtr rfl rfl) rfl ?_
   refine WPL.q (q_pickF (v := .lit (.bool _)) (lb hb5931) rfl) rfl ?_
   refine WPL.q (q_mv (v := .lit (.bool _)) rfl) rfl ?_
   refine WPL.split (t := 31) (b := (decide (0 < x5887))) rfl (fun hb5932 => ?_) (fun hb5932 => ?_)
   · replace H := cnt hb5932 H
     refine WPL.skipg (b' := true) rfl rfl (lb hb5932) rfl rfl ?_
     refine WPL.skipg (b' := true) rfl rfl (lb hb5932) rfl rfl ?_
     refine WPL.skipg (b' := true) rfl rfl (lb hb5932) rfl rfl ?_
     refine WPL.q (q_pickT (v := .lit (.bool _)) (lb hb5932) rfl) rfl ?_
     refine WPL.nilW ?_
     have q0 := (Option.some.inj H)
     subst q0
     exact W.wk [0, 1] hnp ⟨rfl, rfl, rfl⟩ ⟨rfl, ⟨⟨trivial, .inr ⟨rfl, rfl, rfl⟩⟩, .inr ⟨rfl, rfl, rfl⟩⟩, by decide, rfl, trivial⟩ (LeE.upd rfl rfl (LeE.upd rfl rfl (LeE.upd rfl rfl (LeE.none rfl rfl)))) rfl
   replace H := cnf hb5932 H
   refine WPL.qg rfl rfl (lb hb5932) (q_fieldAddr fi43_1 rfl rfl) rfl ?_
   refine WPL.qg rfl rfl (lb hb5932) (q_load sc38 rfl rfl rfl) rfl ?_
   refine WPL.qg rfl rfl (lb hb5932) (q_gtr rfl rfl) rfl ?_
   refine WPL.q (q_pickF (v := .lit (.bool _)) (lb hb5932) rfl) rfl ?_
   refine WPL.nilW ?_
   have q0 := (Option.some.inj H)
   subst q0
   exact W.wk [0, 1] hnp ⟨rfl, rfl, rfl⟩ ⟨rfl, ⟨⟨trivial, .inr ⟨rfl, rfl, rfl⟩⟩, .inr ⟨rfl, rfl, rfl⟩⟩, by decide, rfl, trivial⟩ (LeE.upd rfl rfl (LeE.upd rfl rfl (LeE.upd rfl rfl (LeE.none rfl rfl)))) rfl
 rintro _ _ _ ⟨rfl, rfl, rfl⟩
 refine W.now ?_
 refine Then.n ?_
 refine WP.cond (t := x5931) rfl (fun hb5934 => ?_) (fun hb5934 => ?_)
 · replace H := cnt hb5934 H
   refine WP.seq ?_
   refine WP.region ?_
   refine WPL.q (q_as (v := .lit (.int _ _)) rfl) rfl ?_
   refine WPL.q (q_as (v := .lit (.bool _)) rfl) rfl ?_
   refine WPL.nilW ?_
   refine W.now ?_
   refine Then.n ?_
   refine WP.retW ?_
   have q0 := (Prod.mk.inj (Option.some.inj H)).1
   have q1 := (Prod.mk.inj (Option.some.inj H)).2
   subst q0
   subst q1
   exact W.now (Then.r (BodyR.mkR trivial rfl [] ⟨rfl, rfl⟩ ⟨rfl, trivial, by decide, rfl, trivial⟩ rfl rfl))
 replace H := cnf hb5934 H
 refine WP.skipW ?_
 refine W.now ?_
 refine Then.n ?_
 refine WP.seq ?_
 refine WP.seq ?_
 refine WP.region ?_
 refine WPL.q (q_fieldAddr fi23_0 rfl rfl) rfl ?_
 refine WPL.q (q_load sc2 rfl rfl rfl) rfl ?_
 refine WPL.q (q_lss rfl rfl) rfl ?_
 refine WPL.nilW ?_
 refine W.now ?_
 refine Then.n ?_
 refine WP.cond (t := (decide (x5845 < 0))) rfl (fun hb5937 => ?_) (fun hb5937 => ?_)
 · replace H := cnt hb5937 H
   refine WP.seq ?_
   refine WP.region ?_
   refine WPL.q (q_fieldAddr fi43_1 rfl rfl) rfl ?_
   refine WPL.q (q_load sc38 rfl rfl rfl) rfl ?_
   refine WPL.q (q_conv Try.underlying38 Try.underlying3 rfl) rfl ?_
   obtain ⟨x5939, h5939, H⟩ := bnd H
   refine WPL.q (q_nm (q_neg rfl) (nm_int h5939)) rfl ?_
   refine WPL.q (q_as (v := .lit (.int _ _)) rfl) rfl ?_
   refine WPL.q (q_as (v := .lit (.bool _)) rfl) rfl ?_
   refine WPL.nilW ?_
   refine W.now ?_
   refine Then.n ?_
   refine WP.retW ?_
   have q0 := (Prod.mk.inj (Option.some.inj H)).1
   have q1 := (Prod.mk.inj (Option.some.inj H)).2
   subst q0
   subst q1
   exact W.now (Then.r (BodyR.mkR trivial rfl [] ⟨rfl, rfl⟩ ⟨rfl, trivial, by decide, rfl, trivial⟩ rfl rfl))
 replace H := cnf hb5937 H
 refine WP.skipW ?_
 refine W.now ?_
 refine Then.n ?_
 refine WP.seq ?_
 refine WP.region ?_
 refine WPL.q (q_fieldAddr fi43_1 rfl rfl) rfl ?_
 refine WPL.q (q_load sc38 rfl rfl rfl) rfl ?_
 refine WPL.q (q_conv Try.underlying38 Try.underlying3 rfl) rfl ?_
 refine WPL.q (q_as (v := .lit (.int _ _)) rfl) rfl ?_
 refine WPL.q (q_as (v := .lit (.bool _)) rfl) rfl ?_
 refine WPL.nilW ?_
 refine W.now ?_
 refine Then.n ?_
 refine WP.retW ?_
 have q0 := (Prod.mk.inj (Option.some.inj H)).1
 have q1 := (Prod.mk.inj (Option.some.inj H)).2
 subst q0
 subst q1
 exact W.now (BodyR.mkR trivial rfl [] ⟨rfl, rfl⟩ ⟨rfl, trivial, by decide, rfl, trivial⟩ rfl rfl)
end Go.Proofs.Ytdbeblgfccjbgaa.W
namespace Go.Proofs.Ytdbeblgfccjbgaa.W
open Go Go.Q Go.Proofs
set_option linter.unusedVariables false
set_option linter.unusedSimpArgs false
set_option maxRecDepth 100000 in
set_option maxHeartbeats 4000000 in
theorem s_dec_Mul (k : Nat) (x5987 : Int) (x5988 : Int) (x5989 : Int) (x5990 : Int) (x6023 : Int) (x6024 : Int) (x6025 : Int) (H : g_dec_Mul k x5987 x5988 x5989 x5990 = some (x6023, x6024, x6025)) : Go.Q.Spec Try.prog 20 0 [.agg [.lit (.int .i64 x5987), .lit (.int .i64 x5988)], .agg [.lit (.int .i64 x5989), .lit (.int .i64 x5990)]] Mem.nil (fun o M => o = .ret (.tup [.agg [.lit (.int .i64 x6024), .lit (.int .i64 x6025)], .lit (.int .i64 x6023)]) ∧ M = (Mem.nil.push (.cells 23 [.lit (.int .i64 x6024), .lit (.int .i64 x6025)]))) := by
 unfold g_dec_Mul at H
 refine Go.Q.Spec.of_bodyR (az := [(23, 2)]) (rs := [.cell 4 23, .tmp 5]) (nt := 41) Try.func20 rfl rfl (by intro t T h; simp at h; rcases h with ⟨rfl, rfl⟩ <;> first | exact ag23) rfl rfl fun cx hnp => ?_
 refine WP.seq ?_
 refine WP.region ?_
 refine WPL.d (d_box rfl rfl) rfl ?_
 refine WPL.d (d_box rfl rfl) rfl ?_
 refine WPL.d (d_alloc ze23 rfl) rfl ?_
 refine WPL.q (q_as (v := .lit (.int _ _)) rfl) rfl ?_
 refine WPL.nilW ?_
 refine W.now ?_
 refine Then.n ?_
 refine WP.seq ?_
 refine WP.seq ?_
 refine WP.region ?_
 refine WPL.d (d_buildCells li81 rfl rfl rfl rfl rfl) rfl ?_
 obtain ⟨⟨x6034, x6035, x6036, x6037, x6038⟩, h6032, H⟩ := bnd H
 refine WPL.c (runs_call (s := [3, 0, 1]) (t := [3, 0, 1]) (N := 4) (bor := []) fn27 rfl (s_dec_clean k x5987 x5988 x5989 x5990 x6034 x6035 x6036 x6037 x6038 h6032) ⟨rfl, ⟨⟨⟨trivial, .inr ⟨rfl, rfl, rfl⟩⟩, .inr ⟨rfl, rfl, rfl⟩⟩, .inr ⟨rfl, rfl, rfl⟩⟩, by decide, rfl, trivial⟩ rfl trivial (.ren rfl rfl .nil) rfl ⟨⟨⟨trivial, rfl⟩, rfl⟩, rfl⟩ rfl) rfl ?_
 refine WPL.q (q_not rfl) rfl ?_
 refine WPL.nilW ?_
 refine W.now ?_
 refine Then.n ?_
 refine WP.cond (t := (!x6034)) rfl (fun hb6038 => ?_) (fun hb6038 => ?_)
 · replace H := cnt hb6038 H
   refine WP.seq ?_
   refine WP.region ?_
   refine WPL.q (q_build bu23 rfl) rfl ?_
   refine WPL.s (s_store sz23 rfl rfl rfl rfl rfl) ?_
   refine WPL.q (q_as (v := .lit (.int _ _)) rfl) rfl ?_
   refine WPL.nilW ?_
   refine W.now ?_
   refine Then.n ?_
   refine WP.retW ?_
   have q0 := (Prod.mk.inj (Option.some.inj H)).1
   have q1 := (Prod.mk.inj (Prod.mk.inj (Option.some.inj H)).2).1
   have q2 := (Prod.mk.inj (Prod.mk.inj (Option.some.inj H)).2).2
   subst q0
   subst q1
   subst q2
   exact W.now (Then.r (BodyR.mkR trivial rfl [2] ⟨rfl, rfl⟩ ⟨rfl, ⟨trivial, .inr ⟨rfl, rfl, rfl⟩⟩, by decide, rfl, trivial⟩ rfl rfl))
 replace H := cnf hb6038 H
 refine WP.skipW ?_
 refine W.now ?_
 refine Then.n ?_
 refine WP.seq ?_
 refine WP.regionD' 12 [0, 1] [] mixed rfl ?_
 refine WPD.takeT 0 rfl (by kernel_rfl) (q_fieldAddr fi23_0 rfl rfl) rfl ?_
 refine WPD.takeT 3 rfl (by kernel_rfl) (q_fieldAddr fi23_0 rfl rfl) rfl ?_
 refine WPD.take 1 rfl (by kernel_rfl) (q_load sc2 rfl rfl rfl) rfl rfl ?_
 refine WPD.take 4 rfl (by kernel_rfl) (q_load sc2 rfl rfl rfl) rfl rfl ?_
 obtain ⟨x6047, h6045, H⟩ := bnd H
 refine WPD.eff 2 [0, 1] [] rfl (by kernel_rfl) (runs_call (s := []) (t := []) (N := 4) (bor := []) fn28 rfl (s_dec_size k x6035 x6047 h6045) ⟨rfl, trivial, by decide, rfl, trivial⟩ rfl trivial (.ren rfl rfl .nil) rfl trivial rfl) rfl rfl ?_
 obtain ⟨x6049, h6047, H⟩ := bnd H
 refine WPD.eff 5 [0, 1] [] rfl (by kernel_rfl) (runs_call (s := []) (t := []) (N := 4) (bor := []) fn28 rfl (s_dec_size k x6037 x6049 h6047) ⟨rfl, trivial, by decide, rfl, trivial⟩ rfl trivial (.ren rfl rfl .nil) rfl trivial rfl) rfl rfl ?_
 obtain ⟨x6051, h6049, H⟩ := bnd H
 refine WPD.eff 6 [0, 1] [] rfl (by kernel_rfl) (runs_call (s := []) (t := []) (N := 4) (bor := []) fn53 rfl (s_math_bits_Mul64 k x6047 x6049 x6051 h6049) ⟨rfl, trivial, by decide, rfl, trivial⟩ rfl trivial (.ren rfl rfl (.ren rfl rfl .nil)) rfl trivial rfl) rfl rfl ?_
 refine WPD.takeT 7 rfl (by kernel_rfl) (q_mv (v := .tup _) rfl) rfl ?_
 refine WPD.takeT 8 rfl (by kernel_rfl) (q_extract rfl rfl) rfl ?_
 refine WPD.takeT 9 rfl (by kernel_rfl) (q_extract rfl rfl) rfl ?_
 refine WPD.takeT 10 rfl (by kernel_rfl) (q_as (v := .lit (.int _ _)) rfl) rfl ?_
 refine WPD.takeT 11 rfl (by kernel_rfl) (q_as (v := .lit (.int _ _)) rfl) rfl ?_
 refine WPD.doneW (by kernel_rfl) ?_
 refine W.now ?_
 refine Then.n ?_
 refine WP.seq ?_
 refine WP.region ?_
 refine WPL.q (q_fieldAddr fi23_0 rfl rfl) rfl ?_
 refine WPL.q (q_load sc2 rfl rfl rfl) rfl ?_
 refine WPL.q (q_lss rfl rfl) rfl ?_
 refine WPL.q (q_fieldAddr fi23_0 rfl rfl) rfl ?_
 refine WPL.q (q_load sc2 rfl rfl rfl) rfl ?_
 refine WPL.q (q_lss rfl rfl) rfl ?_
 obtain ⟨x6052, h6052, H⟩ := bnd H
 refine WPL.q (q_nm (q_neqb Try.underlying4 rfl rfl) (nm_bool h6052)) rfl ?_
 refine WPL.q (q_mv (v := .lit (.int _ _)) rfl) rfl ?_
 refine WPL.q (q_mv (v := .lit (.int _ _)) rfl) rfl ?_
 refine WPL.q (q_build bu43 rfl) rfl ?_
 refine WPL.q (q_fieldAddr fi23_1 rfl rfl) rfl ?_
 refine WPL.q (q_load sc3 rfl rfl rfl) rfl ?_
 refine WPL.q (q_fieldAddr fi23_1 rfl rfl) rfl ?_
 refine WPL.q (q_load sc3 rfl rfl rfl) rfl ?_
 refine WPL.q (q_add rfl rfl) rfl ?_
 refine WPL.q (q_build bu47 rfl) rfl ?_
 obtain ⟨⟨x6054, x6055, x6056⟩, h6052, H⟩ := bnd H
 refine WPL.c (runs_call (s := []) (t := [4]) (N := 5) (bor := []) fn31 rfl (s_dec_num_tell k x6052 x6051 (IntKind.wrap .u64 (x6047 * x6049)) (IntKind.wrap .i64 (x6036 + x6038)) x6054 x6055 x6056 h6052) ⟨rfl, trivial, by decide, rfl, trivial⟩ rfl trivial (.ren rfl rfl .nil) rfl ⟨trivial, rfl⟩ rfl) rfl ?_
 refine WPL.q (q_extract rfl rfl) rfl ?_
 refine WPL.q (q_extract rfl rfl) rfl ?_
 refine WPL.s (s_store sz23 rfl rfl rfl rfl rfl) ?_
 refine WPL.q (q_as (v := .lit (.int _ _)) rfl) rfl ?_
 refine WPL.nilW ?_
 refine W.now ?_
 refine Then.n ?_
 refine WP.retW ?_
 have q0 := (Prod.mk.inj (Option.some.inj H)).1
 have q1 := (Prod.mk.inj (Prod.mk.inj (Option.some.inj H)).2).1
 have q2 := (Prod.mk.inj (Prod.mk.inj (Option.some.inj H)).2).2
 subst q0
 subst q1
 subst q2
 exact W.now (BodyR.mkR trivial rfl [2] ⟨rfl, rfl⟩ ⟨rfl, ⟨trivial, .inr ⟨rfl, rfl, rfl⟩⟩, by decide, rfl, trivial⟩ rfl rfl)
set_option maxRecDepth 100000 in
set_option maxHeartbeats 4000000 in
theorem s_dec_Pow (k : Nat) (x5630 : Int) (x5631 : Int) (x5632 : Int) (x5633 : Int) (x6083 : Int) (x6084 : Int) (x6085 : Int) (H : g_dec_Pow k x5630 x5631 x5632 x5633 = some (x6083, x6084, x6085)) : Go.Q.Spec Try.prog 11 0 [.agg [.lit (.int .i64 x5630), .lit (.int .i64 x5631)], .agg [.lit (.int .i64 x5632), .lit (.int .i64 x5633)]] Mem.nil (fun o M => o = .ret (.tup [.agg [.lit (.int .i64 x6084), .lit (.int .i64 x6085)], .lit (.int .i64 x6083)]) ∧ M = (Mem.nil.push (.cells 23 [.lit (.int .i64 x6084), .lit (.int .i64 x6085)]))) := by
 unfold g_dec_Pow at H
 refine Go.Q.Spec.of_bodyR (az := [(23, 2)]) (rs := [.cell 4 23, .tmp 5]) (nt := 66) Try.func11 rfl rfl (by intro t T h; simp at h; rcases h with ⟨rfl, rfl⟩ <;> first | exact ag23) rfl rfl fun cx hnp => ?_
 refine WP.seq ?_
 refine WP.region ?_
 refine WPL.d (d_box rfl rfl) rfl ?_
 refine WPL.d (d_box rfl rfl) rfl ?_
 refine WPL.d (d_alloc ze23 rfl) rfl ?_
 refine WPL.q (q_as (v := .lit (.int _ _)) rfl) rfl ?_
 refine WPL.nilW ?_
 refine W.now ?_
 refine Then.n ?_
 refine WP.seq ?_
 refine WP.seq ?_
 refine WP.region ?_
 refine WPL.d (d_buildCells li81 rfl rfl rfl rfl rfl) rfl ?_
 obtain ⟨⟨x6094, x6095, x6096, x6097, x6098⟩, h6092, H⟩ := bnd H
 refine WPL.c (runs_call (s := [3, 0, 1]) (t := [3, 0, 1]) (N := 4) (bor := []) fn27 rfl (s_dec_clean k x5630 x5631 x5632 x5633 x6094 x6095 x6096 x6097 x6098 h6092) ⟨rfl, ⟨⟨⟨trivial, .inr ⟨rfl, rfl, rfl⟩⟩, .inr ⟨rfl, rfl, rfl⟩⟩, .inr ⟨rfl, rfl, rfl⟩⟩, by decide, rfl, trivial⟩ rfl trivial (.ren rfl rfl .nil) rfl ⟨⟨⟨trivial, rfl⟩, rfl⟩, rfl⟩ rfl) rfl ?_
 refine WPL.q (q_not rfl) rfl ?_
 refine WPL.nilW ?_
 refine W.now ?_
 refine Then.n ?_
 refine WP.cond (t := (!x6094)) rfl (fun hb6098 => ?_) (fun hb6098 => ?_)
 · replace H := cnt hb6098 H
   refine WP.seq ?_
   refine WP.region ?_
   refine WPL.q (q_build bu23 rfl) rfl ?_
   refine WPL.s (s_store sz23 rfl rfl rfl rfl rfl) ?_
   refine WPL.q (q_as (v := .lit (.int _ _)) rfl) rfl ?_
   refine WPL.nilW ?_
   refine W.now ?_
   refine Then.n ?_
   refine WP.retW ?_
   have q0 := (Prod.mk.inj (Option.some.inj H)).1
   have q1 := (Prod.mk.inj (Prod.mk.inj (Option.some.inj H)).2).1
   have q2 := (Prod.mk.inj (Prod.mk.inj (Option.some.inj H)).2).2
   subst q0
   subst q1
   subst q2
   exact W.now (Then.r (BodyR.mkR trivial rfl [2] ⟨rfl, rfl⟩ ⟨rfl, ⟨trivial, .inr ⟨rfl, rfl, rfl⟩⟩, by decide, rfl, trivial⟩ rfl rfl))
 replace H := cnf hb6098 H
 refine WP.skipW ?_
 refine W.now ?_
 refine Then.n ?_
 refine WP.seq ?_
 refine WP.region ?_
 refine WPL.q (q_load_ag ag23 rfl rfl (Nat.le_of_ble_eq_true rfl)) rfl ?_
 obtain ⟨⟨x6101, x6102⟩, h6099, H⟩ := bnd H
 refine WPL.c (runs_call (s := []) (t := []) (N := 4) (bor := []) fn41 rfl (s_dec_Int k x6097 x6098 x6101 x6102 h6099) ⟨rfl, trivial, by decide, rfl, trivial⟩ rfl trivial (.ren rfl rfl .nil) rfl trivial rfl) rfl ?_
 refine WPL.q (q_mv (v := .tup _) rfl) rfl ?_
 refine WPL.q (q_extract rfl rfl) rfl ?_
 refine WPL.q (q_extract rfl rfl) rfl ?_
 refine WPL.q (q_as (v := .lit (.int _ _)) rfl) rfl ?_
 refine WPL.q (q_as (v := .lit (.bool _)) rfl) rfl ?_
 refine WPL.nilW ?_
 refine W.now ?_
 refine Then.n ?_
 refine WP.seq ?_
 refine WP.seq ?_
 obtain ⟨x6112, H6114, H⟩ := bnd H
 refine WP.monoW (Q := fun x E M => x = .normal ∧ E = ((((Env.none.upd 2 (.ptr 0 0)).upd 4 (.ptr 1 0)).upd 6 (.lit (.int .i64 x6101))).upd 31 (.lit (.bool x6112))) ∧ M = ((Mem.nil.push (.cells 23 [.lit (.int .i64 x6095), .lit (.int .i64 x6096)])).push (.cells 23 [.lit (.int .i64 0), .lit (.int .i64 0)]))) ?_ ?_
 · clear H
   have H := H6114
   clear H6114
   refine WP.region ?_
   refine WPL.q (q_mv (v := .lit (.bool _)) rfl) rfl ?_
   refine WPL.q (q_not rfl) rfl ?_
   refine WPL.q (q_mv (v := .lit (.bool _)) rfl) rfl ?_
   refine WPL.split (t := 24) (b := (!x6102)) rfl (fun hb6112 => ?_) (fun hb6112 => ?_)
   · replace H := cnt hb6112 H
     refine WPL.skipg (b' := true) rfl rfl (lb hb6112) rfl rfl ?_
     refine WPL.skipg (b' := true) rfl rfl (lb hb6112) rfl rfl ?_
     refine WPL.q (q_pickT (v := .lit (.bool _)) (lb hb6112) rfl) rfl ?_
     refine WPL.q (q_mv (v := .lit (.bool _)) rfl) rfl ?_
     refine WPL.skipg (b' := true) rfl rfl rfl rfl rfl ?_
     refine WPL.skipg (b' := true) rfl rfl rfl rfl rfl ?_
     refine WPL.q (q_pickT (v := .lit (.bool _)) rfl rfl) rfl ?_
     refine WPL.nilW ?_
     have q0 := (Option.some.inj H)
     subst q0
     exact W.wk [0, 2] hnp ⟨rfl, rfl, rfl⟩ ⟨rfl, ⟨⟨trivial, .inr ⟨rfl, rfl, rfl⟩⟩, .inr ⟨rfl, rfl, rfl⟩⟩, by decide, rfl, trivial⟩ (LeE.upd rfl rfl (LeE.upd rfl rfl (LeE.upd rfl rfl (LeE.upd rfl rfl (LeE.none rfl rfl))))) rfl
   replace H := cnf hb6112 H
   refine WPL.qg rfl rfl (lb hb6112) (q_mv (v := .lit (.int _ _)) rfl) rfl ?_
   refine WPL.qg rfl rfl (lb hb6112) (q_lss rfl rfl) rfl ?_
   refine WPL.q (q_pickF (v := .lit (.bool _)) (lb hb6112) rfl) rfl ?_
   refine WPL.q (q_mv (v := .lit (.bool _)) rfl) rfl ?_
   refine WPL.split (t := 28) (b := (decide (x6101 < (-64)))) rfl (fun hb6113 => ?_) (fun hb6113 => ?_)
   · replace H := cnt hb6113 H
     refine WPL.skipg (b' := true) rfl rfl (lb hb6113) rfl rfl ?_
     refine WPL.skipg (b' := true) rfl rfl (lb hb6113) rfl rfl ?_
     refine WPL.q (q_pickT (v := .lit (.bool _)) (lb hb6113) rfl) rfl ?_
     refine WPL.nilW ?_
     have q0 := (Option.some.inj H)
     subst q0
     exact W.wk [0, 2] hnp ⟨rfl, rfl, rfl⟩ ⟨rfl, ⟨⟨trivial, .inr ⟨rfl, rfl, rfl⟩⟩, .inr ⟨rfl, rfl, rfl⟩⟩, by decide, rfl, trivial⟩ (LeE.upd rfl rfl (LeE.upd rfl rfl (LeE.upd rfl rfl (LeE.upd rfl rfl (LeE.none rfl rfl))))) rfl
   replace H := cnf hb6113 H
   refine WPL.qg rfl rfl (lb hb6113) (q_mv (v := .lit (.int _ _)) rfl) rfl ?_
   refine WPL.qg rfl rfl (lb hb6113) (q_gtr rfl rfl) rfl ?_
   refine WPL.q (q_pickF (v := .lit (.bool _)) (lb hb6113) rfl) rfl ?_
   refine WPL.nilW ?_
   have q0 := (Option.some.inj H)
   subst q0
   exact W.wk [0, 2] hnp ⟨rfl, rfl, rfl⟩ ⟨rfl, ⟨⟨trivial, .inr ⟨rfl, rfl, rfl⟩⟩, .inr ⟨rfl, rfl, rfl⟩⟩, by decide, rfl, trivial⟩ (LeE.upd rfl rfl (LeE.upd rfl rfl (LeE.upd rfl rfl (LeE.upd rfl rfl (LeE.none rfl rfl))))) rfl
 rintro _ _ _ ⟨rfl, rfl, rfl⟩
 refine W.now ?_
 refine Then.n ?_
 refine WP.cond (t := x6112) rfl (fun hb6115 => ?_) (fun hb6115 => ?_)
 · replace H := cnt hb6115 H
   refine WP.seq ?_
   refine WP.region ?_
   refine WPL.q (q_build bu23 rfl) rfl ?_
   refine WPL.s (s_store sz23 rfl rfl rfl rfl rfl) ?_
   refine WPL.q (q_as (v := .lit (.int _ _)) rfl) rfl ?_
   refine WPL.nilW ?_
   refine W.now ?_
   refine Then.n ?_
   refine WP.retW ?_
   have q0 := (Prod.mk.inj (Option.some.inj H)).1
   have q1 := (Prod.mk.inj (Prod.mk.inj (Option.some.inj H)).2).1
   have q2 := (Prod.mk.inj (Prod.mk.inj (Option.some.inj H)).2).2
   subst q0
   subst q1
   subst q2
   exact W.now (Then.r (BodyR.mkR trivial rfl [1] ⟨rfl, rfl⟩ ⟨rfl, ⟨trivial, .inr ⟨rfl, rfl, rfl⟩⟩, by decide, rfl, trivial⟩ rfl rfl))
 replace H := cnf hb6115 H
 refine WP.skipW ?_
 refine W.now ?_
 refine Then.n ?_
 refine WP.seq ?_
 obtain ⟨y6136, H6134, H⟩ := bnd H
 refine WP.monoW (Q := fun x E M => match (generalizing := false) y6136 with | (Sum.inl x6124) => x = .ret ∧ E = ((Env.none.upd 4 (.ptr 0 0)).upd 5 (.lit (.int .i64 x6124))) ∧ M = (Mem.nil.push (.cells 23 [.lit (.int .i64 0), .lit (.int .i64 0)])) | (Sum.inr (x6125, x6126, x6127)) => x = .normal ∧ E = (((Env.none.upd 2 (.ptr 0 0)).upd 4 (.ptr 1 0)).upd 6 (.lit (.int .i64 x6125))) ∧ M = ((Mem.nil.push (.cells 23 [.lit (.int .i64 x6126), .lit (.int .i64 x6127)])).push (.cells 23 [.lit (.int .i64 0), .lit (.int .i64 0)]))) ?_ ?_
 · clear H
   have H := H6134
   clear H6134
   refine WP.seq ?_
   refine WP.region ?_
   refine WPL.q (q_mv (v := .lit (.int _ _)) rfl) rfl ?_
   refine WPL.q (q_lss rfl rfl) rfl ?_
   refine WPL.nilW ?_
   refine W.now ?_
   refine Then.n ?_
   refine WP.cond (t := (decide (x6101 < 0))) rfl (fun hb6127 => ?_) (fun hb6127 => ?_)
   · replace H := cnt hb6127 H
     refine WP.seq ?_
     refine WP.region ?_
     refine WPL.q (q_build bu23 rfl) rfl ?_
     refine WPL.q (q_load_ag ag23 rfl rfl (Nat.le_of_ble_eq_true rfl)) rfl ?_
     obtain ⟨⟨x6130, x6131, x6132⟩, h6128, H⟩ := bnd H
     refine WPL.c (runs_call (s := []) (t := [2]) (N := 3) (bor := []) fn7 rfl (s_dec_Div k 1 0 x6095 x6096 x6130 x6131 x6132 h6128) ⟨rfl, trivial, by decide, rfl, trivial⟩ rfl trivial (.ren rfl rfl (.ren rfl rfl .nil)) rfl ⟨trivial, rfl⟩ rfl) rfl ?_
     refine WPL.q (q_mv (v := .tup _) rfl) rfl ?_
     refine WPL.q (q_extract rfl rfl) rfl ?_
     refine WPL.q (q_extract rfl rfl) rfl ?_
     refine WPL.d (d_alloc ze23 rfl) rfl ?_
     refine WPL.s (s_store sz23 rfl rfl rfl rfl rfl) ?_
     refine WPL.q (q_as (v := .lit (.int _ _)) rfl) rfl ?_
     refine WPL.nilW ?_
     refine W.now ?_
     refine Then.n ?_
     refine WP.seq ?_
     refine WP.seq ?_
     refine WP.region ?_
     refine WPL.q (q_mv (v := .lit (.int _ _)) rfl) rfl ?_
     refine WPL.q (q_neq rfl rfl) rfl ?_
     refine WPL.nilW ?_
     refine W.now ?_
     refine Then.n ?_
     refine WP.cond (t := (!decide (x6130 = 0))) rfl (fun hb6133 => ?_) (fun hb6133 => ?_)
     · replace H := cnt hb6133 H
       refine WP.seq ?_
       refine WP.region ?_
       refine WPL.q (q_build bu23 rfl) rfl ?_
       refine WPL.q (q_mv (v := .lit (.int _ _)) rfl) rfl ?_
       refine WPL.s (s_store sz23 rfl rfl rfl rfl rfl) ?_
       refine WPL.q (q_as (v := .lit (.int _ _)) rfl) rfl ?_
       refine WPL.nilW ?_
       refine W.now ?_
       refine Then.n ?_
       refine WP.retW ?_
       have q0 := Option.some.inj H
       subst q0
       exact W.wk [1] hnp (Then.r ⟨rfl, rfl, rfl⟩) ⟨rfl, ⟨trivial, .inr ⟨rfl, rfl, rfl⟩⟩, by decide, rfl, trivial⟩ (LeE.upd rfl rfl (LeE.upd rfl rfl (LeE.none rfl rfl))) rfl
     replace H := cnf hb6133 H
     refine WP.skipW ?_
     refine W.now ?_
     refine Then.n ?_
     refine WP.region ?_
     refine WPL.q (q_load_ag ag23 rfl rfl (Nat.le_of_ble_eq_true rfl)) rfl ?_
     refine WPL.q (q_mv (v := .lit (.int _ _)) rfl) rfl ?_
     refine WPL.q (q_neg rfl) rfl ?_
     refine WPL.s (s_store sz23 rfl rfl rfl rfl rfl) ?_
     refine WPL.q (q_as (v := .lit (.int _ _)) rfl) rfl ?_
     refine WPL.nilW ?_
     have q0 := Option.some.inj H
     subst q0
     exact W.wk [0, 1] hnp ⟨rfl, rfl, rfl⟩ ⟨rfl, ⟨⟨trivial, .inr ⟨rfl, rfl, rfl⟩⟩, .inr ⟨rfl, rfl, rfl⟩⟩, by decide, rfl, trivial⟩ (LeE.upd rfl rfl (LeE.upd rfl rfl (LeE.upd rfl rfl (LeE.none rfl rfl)))) rfl
   replace H := cnf hb6127 H
   refine WP.skipW ?_
   have q0 := Option.some.inj H
   subst q0
   exact W.wk [0, 1] hnp ⟨rfl, rfl, rfl⟩ ⟨rfl, ⟨⟨trivial, .inr ⟨rfl, rfl, rfl⟩⟩, .inr ⟨rfl, rfl, rfl⟩⟩, by decide, rfl, trivial⟩ (LeE.upd rfl rfl (LeE.upd rfl rfl (LeE.upd rfl rfl (LeE.none rfl rfl)))) rfl
 rcases y6136 with x6124 | ⟨x6125, x6126, x6127⟩
 · rintro _ _ _ ⟨rfl, rfl, rfl⟩
   have q0 := (Prod.mk.inj (Option.some.inj H)).1
   have q1 := (Prod.mk.inj (Prod.mk.inj (Option.some.inj H)).2).1
   have q2 := (Prod.mk.inj (Prod.mk.inj (Option.some.inj H)).2).2
   subst q0
   subst q1
   subst q2
   exact W.now (Then.r (BodyR.mkR trivial rfl [0] ⟨rfl, rfl⟩ ⟨rfl, ⟨trivial, .inr ⟨rfl, rfl, rfl⟩⟩, by decide, rfl, trivial⟩ rfl rfl))
 rintro _ _ _ ⟨rfl, rfl, rfl⟩
 refine W.now ?_
 refine Then.n ?_
 refine WP.seq ?_
 refine WP.region ?_
 refine WPL.q (q_build bu23 rfl) rfl ?_
 refine WPL.d (d_alloc ze23 rfl) rfl ?_
 refine WPL.s (s_store sz23 rfl rfl rfl rfl rfl) ?_
 refine WPL.q (q_as (v := .lit (.int _ _)) rfl) rfl ?_
 refine WPL.nilW ?_
 refine W.now ?_
 refine Then.n ?_
 refine WP.seq ?_
 refine WP.seq ?_
 refine WP.region ?_
 refine WPL.q (q_as (v := .lit (.int _ _)) rfl) rfl ?_
 refine WPL.nilW ?_
 refine W.now ?_
 refine Then.n ?_
 refine WP.block ?_
 refine WP.cv (Cv.weak (E' := ((((((Env.none.upd 2 (.ptr 0 0)).upd 4 (.ptr 1 0)).upd 6 (.lit (.int .i64 x6125))).upd 10 (.ptr 2 0)).upd 11 (.lit (.int .i64 0))).upd 12 (.lit (.int .i64 0)))) (M' := (((Mem.nil.push (.cells 23 [.lit (.int .i64 x6126), .lit (.int .i64 x6127)])).push (.cells 23 [.lit (.int .i64 0), .lit (.int .i64 0)])).push (.cells 23 [.lit (.int .i64 1), .lit (.int .i64 0)]))) [0, 1, 2] hnp ⟨rfl, ⟨⟨⟨trivial, .inr ⟨rfl, rfl, rfl⟩⟩, .inr ⟨rfl, rfl, rfl⟩⟩, .inr ⟨rfl, rfl, rfl⟩⟩, by decide, rfl, trivial⟩ (LeE.upd rfl rfl (LeE.upd rfl rfl (LeE.upd rfl rfl (LeE.upd rfl rfl (LeE.upd rfl rfl (LeE.upd rfl rfl (LeE.none rfl rfl)))))))) ?_
 obtain ⟨⟨x6169, x6170, x6171⟩, H6185, H⟩ := bnd H
 refine WP.monoW (Q := fun x E M => x = .exit 0 ∧ E = (((Env.none.upd 4 (.ptr 0 0)).upd 10 (.ptr 1 0)).upd 11 (.lit (.int .i64 x6169))) ∧ M = ((Mem.nil.push (.cells 23 [.lit (.int .i64 0), .lit (.int .i64 0)])).push (.cells 23 [.lit (.int .i64 x6170), .lit (.int .i64 x6171)]))) ?_ ?_
 · refine WP.loop (β := Int × Int × Int × Int) (fun n b => g_dec_Pow_l0 k x6125 x6126 x6127 n b.1 b.2.1 b.2.2.1 b.2.2.2 = some (x6169, x6170, x6171)) (fun b => ((((((Env.none.upd 2 (.ptr 0 0)).upd 4 (.ptr 1 0)).upd 6 (.lit (.int .i64 x6125))).upd 10 (.ptr 2 0)).upd 11 (.lit (.int .i64 b.1))).upd 12 (.lit (.int .i64 b.2.1)))) (fun b => (((Mem.nil.push (.cells 23 [.lit (.int .i64 x6126), .lit (.int .i64 x6127)])).push (.cells 23 [.lit (.int .i64 0), .lit (.int .i64 0)])).push (.cells 23 [.lit (.int .i64 b.2.2.1), .lit (.int .i64 b.2.2.2)]))) k (0, 0, 1, 0) H6185 rfl rfl ?_
   rintro n ⟨x6151, x6152, x6153, x6154⟩ H
   obtain _ | n := n
   · exact nf rfl H
   rw [g_dec_Pow_l0.eq_2] at H
   show WP _ _ _ _ ((((((Env.none.upd 2 (.ptr 0 0)).upd 4 (.ptr 1 0)).upd 6 (.lit (.int .i64 x6125))).upd 10 (.ptr 2 0)).upd 11 (.lit (.int .i64 x6151))).upd 12 (.lit (.int .i64 x6152))) (((Mem.nil.push (.cells 23 [.lit (.int .i64 x6126), .lit (.int .i64 x6127)])).push (.cells 23 [.lit (.int .i64 0), .lit (.int .i64 0)])).push (.cells 23 [.lit (.int .i64 x6153), .lit (.int .i64 x6154)])) _
   refine WP.seq ?_
   refine WP.seq ?_
   obtain ⟨x6178, H6179, H⟩ := bnd H
   refine WP.monoW (Q := fun x E M => x = .normal ∧ E = (((((((Env.none.upd 2 (.ptr 0 0)).upd 4 (.ptr 1 0)).upd 6 (.lit (.int .i64 x6125))).upd 10 (.ptr 2 0)).upd 11 (.lit (.int .i64 x6151))).upd 12 (.lit (.int .i64 x6152))).upd 55 (.lit (.bool x6178))) ∧ M = (((Mem.nil.push (.cells 23 [.lit (.int .i64 x6126), .lit (.int .i64 x6127)])).push (.cells 23 [.lit (.int .i64 0), .lit (.int .i64 0)])).push (.cells 23 [.lit (.int .i64 x6153), .lit (.int .i64 x6154)]))) ?_ ?_
   · clear H
     have H := H6179
     clear H6179
     refine WP.region ?_
     refine WPL.q (q_mv (v := .lit (.int _ _)) rfl) rfl ?_
     refine WPL.q (q_mv (v := .lit (.int _ _)) rfl) rfl ?_
     refine WPL.q (q_lss rfl rfl) rfl ?_
     refine WPL.q (q_mv (v := .lit (.bool _)) rfl) rfl ?_
     refine WPL.split (t := 52) (b := (decide (x6152 < x6125))) rfl (fun hb6178 => ?_) (fun hb6178 => ?_)
     · replace H := cnt hb6178 H
       refine WPL.qg rfl rfl (lb hb6178) (q_mv (v := .lit (.int _ _)) rfl) rfl ?_
       refine WPL.qg rfl rfl (lb hb6178) (q_eql rfl rfl) rfl ?_
       refine WPL.q (q_pickT (v := .lit (.bool _)) (lb hb6178) rfl) rfl ?_
       refine WPL.nilW ?_
       have q0 := (Option.some.inj H)
       subst q0
       exact W.wk [0, 1, 2] hnp ⟨rfl, rfl, rfl⟩ ⟨rfl, ⟨⟨⟨trivial, .inr ⟨rfl, rfl, rfl⟩⟩, .inr ⟨rfl, rfl, rfl⟩⟩, .inr ⟨rfl, rfl, rfl⟩⟩, by decide, rfl, trivial⟩ (LeE.upd rfl rfl (LeE.upd rfl rfl (LeE.upd rfl rfl (LeE.upd rfl rfl (LeE.upd rfl rfl (LeE.upd rfl rfl (LeE.upd rfl rfl (LeE.none rfl rfl)))))))) rfl
     replace H := cnf hb6178 H
     refine WPL.skipg (b' := false) rfl rfl (lb hb6178) rfl rfl ?_
     refine WPL.skipg (b' := false) rfl rfl (lb hb6178) rfl rfl ?_
     refine WPL.q (q_pickF (v := .lit (.bool _)) (lb hb6178) rfl) rfl ?_
     refine WPL.nilW ?_
     have q0 := (Option.some.inj H)
     subst q0
     exact W.wk [0, 1, 2] hnp ⟨rfl, rfl, rfl⟩ ⟨rfl, ⟨⟨⟨trivial, .inr ⟨rfl, rfl, rfl⟩⟩, .inr ⟨rfl, rfl, rfl⟩⟩, .inr ⟨rfl, rfl, rfl⟩⟩, by decide, rfl, trivial⟩ (LeE.upd rfl rfl (LeE.upd rfl rfl (LeE.upd rfl rfl (LeE.upd rfl rfl (LeE.upd rfl rfl (LeE.upd rfl rfl (LeE.upd rfl rfl (LeE.none rfl rfl)))))))) rfl
   rintro _ _ _ ⟨rfl, rfl, rfl⟩
   refine W.now ?_
   refine Then.n ?_
   refine WP.cond (t := x6178) rfl (fun hb6180 => ?_) (fun hb6180 => ?_)
   · replace H := cnt hb6180 H
     refine WP.skipW ?_
     refine W.now ?_
     refine Then.n ?_
     refine WP.seq ?_
     refine WP.block ?_
     refine WP.region ?_
     refine WPL.q (q_load_ag ag23 rfl rfl (Nat.le_of_ble_eq_true rfl)) rfl ?_
     refine WPL.q (q_load_ag ag23 rfl rfl (Nat.le_of_ble_eq_true rfl)) rfl ?_
     obtain ⟨⟨x6183, x6184, x6185⟩, h6181, H⟩ := bnd H
     refine WPL.c (runs_call (s := []) (t := [3]) (N := 4) (bor := []) fn20 rfl (s_dec_Mul k x6153 x6154 x6126 x6127 x6183 x6184 x6185 h6181) ⟨rfl, trivial, by decide, rfl, trivial⟩ rfl trivial (.ren rfl rfl (.ren rfl rfl .nil)) rfl ⟨trivial, rfl⟩ rfl) rfl ?_
     refine WPL.q (q_mv (v := .tup _) rfl) rfl ?_
     refine WPL.q (q_extract rfl rfl) rfl ?_
     refine WPL.q (q_extract rfl rfl) rfl ?_
     refine WPL.s (s_store sz23 rfl rfl rfl rfl rfl) ?_
     refine WPL.q (q_as (v := .lit (.int _ _)) rfl) rfl ?_
     refine WPL.nilW ?_
     refine W.now ?_
     refine InBlock.n ?_
     refine Then.n ?_
     refine WP.region ?_
     refine WPL.q (q_mv (v := .lit (.int _ _)) rfl) rfl ?_
     refine WPL.q (q_add rfl rfl) rfl ?_
     refine WPL.q (q_as (v := .lit (.int _ _)) rfl) rfl ?_
     refine WPL.nilW ?_
     exact W.wk [0, 1, 2] hnp (Then.n ⟨n, (x6183, (IntKind.wrap .i64 (x6152 + 1)), x6184, x6185), Nat.lt_succ_self n, H, rfl, rfl⟩) ⟨rfl, ⟨⟨⟨trivial, .inr ⟨rfl, rfl, rfl⟩⟩, .inr ⟨rfl, rfl, rfl⟩⟩, .inr ⟨rfl, rfl, rfl⟩⟩, by decide, rfl, trivial⟩ (LeE.upd rfl rfl (LeE.upd rfl rfl (LeE.upd rfl rfl (LeE.upd rfl rfl (LeE.upd rfl rfl (LeE.upd rfl rfl (LeE.none rfl rfl))))))) rfl
   replace H := cnf hb6180 H
   refine WP.exitW ?_
   have q0 := (Prod.mk.inj (Option.some.inj H)).1
   have q1 := (Prod.mk.inj (Prod.mk.inj (Option.some.inj H)).2).1
   have q2 := (Prod.mk.inj (Prod.mk.inj (Option.some.inj H)).2).2
   subst q0
   subst q1
   subst q2
   exact W.wk [1, 2] hnp (Then.x (Then.x ⟨rfl, rfl, rfl⟩)) ⟨rfl, ⟨⟨trivial, .inr ⟨rfl, rfl, rfl⟩⟩, .inr ⟨rfl, rfl, rfl⟩⟩, by decide, rfl, trivial⟩ (LeE.upd rfl rfl (LeE.upd rfl rfl (LeE.upd rfl rfl (LeE.none rfl rfl)))) rfl
 rintro _ _ _ ⟨rfl, rfl, rfl⟩
 refine W.now ?_
 refine InBlock.x0 ?_
 refine Then.n ?_
 refine WP.seq ?_
 refine WP.region ?_
 refine WPL.q (q_load_ag ag23 rfl rfl (Nat.le_of_ble_eq_true rfl)) rfl ?_
 refine WPL.q (q_mv (v := .lit (.int _ _)) rfl) rfl ?_
 refine WPL.s (s_store sz23 rfl rfl rfl rfl rfl) ?_
 refine WPL.q (q_as (v := .lit (.int _ _)) rfl) rfl ?_
 refine WPL.nilW ?_
 refine W.now ?_
 refine Then.n ?_
 refine WP.retW ?_
 have q0 := (Prod.mk.inj (Option.some.inj H)).1
 have q1 := (Prod.mk.inj (Prod.mk.inj (Option.some.inj H)).2).1
 have q2 := (Prod.mk.inj (Prod.mk.inj (Option.some.inj H)).2).2
 subst q0
 subst q1
 subst q2
 exact W.now (BodyR.mkR trivial rfl [0] ⟨rfl, rfl⟩ ⟨rfl, ⟨trivial, .inr ⟨rfl, rfl, rfl⟩⟩, by decide, rfl, trivial⟩ rfl rfl)
set_option maxRecDepth 100000 in
set_option maxHeartbeats 4000000 in
theorem s_quireref09_Int (k : Nat) (x6212 : Int) (x6213 : Int) (x6410 : Int) (x6411 : Bool) (H : g_quireref09_Int k x6212 x6213 = some (x6410, x6411)) : Go.Q.Spec Try.prog 42 0 [.agg [.lit (.int .i64 x6212), .lit (.int .i64 x6213)]] Mem.nil (fun o M => o = .ret (.tup [.lit (.int .i64 x6410), .lit (.bool x6411)]) ∧ M = Mem.nil) := by
 unfold g_quireref09_Int at H
 refine Go.Q.Spec.of_bodyR (az := []) (rs := [.tmp 2, .tmp 3]) (nt := 96) Try.func42 rfl rfl (by intro t T h; simp at h) rfl rfl fun cx hnp => ?_
 refine WP.seq ?_
 refine WP.region ?_
 refine WPL.d (d_box rfl rfl) rfl ?_
 refine WPL.q (q_as (v := .lit (.int _ _)) rfl) rfl ?_
 refine WPL.q (q_as (v := .lit (.bool _)) rfl) rfl ?_
 refine WPL.nilW ?_
 refine W.now ?_
 refine Then.n ?_
 refine WP.seq ?_
 refine WP.region ?_
 refine WPL.q (q_load_ag ag23 rfl rfl (Nat.le_of_ble_eq_true rfl)) rfl ?_
 obtain ⟨⟨x6413, x6414⟩, h6411, H⟩ := bnd H
 refine WPL.c (runs_call (s := []) (t := [1]) (N := 2) (bor := []) fn32 rfl (s_quireref09_num k x6212 x6213 x6413 x6414 h6411) ⟨rfl, trivial, by decide, rfl, trivial⟩ rfl trivial (.ren rfl rfl .nil) rfl ⟨trivial, rfl⟩ rfl) rfl ?_
 refine WPL.q (q_mv (v := .tup _) rfl) rfl ?_
 refine WPL.q (q_extract rfl rfl) rfl ?_
 refine WPL.q (q_extract rfl rfl) rfl ?_
 refine WPL.d (d_alloc ze53 rfl) rfl ?_
 refine WPL.s (s_store sz53 rfl rfl rfl rfl rfl) ?_
 refine WPL.q (q_as (v := .lit (.bool _)) rfl) rfl ?_
 refine WPL.nilW ?_
 refine W.now ?_
 refine Then.n ?_
 refine WP.seq ?_
 refine WP.seq ?_
 refine WP.region ?_
 refine WPL.q (q_mv (v := .lit (.bool _)) rfl) rfl ?_
 refine WPL.q (q_not rfl) rfl ?_
 refine WPL.nilW ?_
 refine W.now ?_
 refine Then.n ?_
 refine WP.cond (t := (!x6413)) rfl (fun hb6415 => ?_) (fun hb6415 => ?_)
 · replace H := cnt hb6415 H
   refine WP.seq ?_
   refine WP.region ?_
   refine WPL.q (q_as (v := .lit (.int _ _)) rfl) rfl ?_
   refine WPL.q (q_as (v := .lit (.bool _)) rfl) rfl ?_
   refine WPL.nilW ?_
   refine W.now ?_
   refine Then.n ?_
   refine WP.retW ?_
   have q0 := (Prod.mk.inj (Option.some.inj H)).1
   have q1 := (Prod.mk.inj (Option.some.inj H)).2
   subst q0
   subst q1
   exact W.now (Then.r (BodyR.mkR trivial rfl [] ⟨rfl, rfl⟩ ⟨rfl, trivial, by decide, rfl, trivial⟩ rfl rfl))
 replace H := cnf hb6415 H
 refine WP.skipW ?_
 refine W.now ?_
 refine Then.n ?_
 refine WP.seq ?_
 refine WP.block ?_
 refine WP.cv (Cv.weak (E' := (Env.none.upd 4 (.ptr 0 0))) (M' := (Mem.nil.push (.cells 53 [.lit (.bool (decide (x6212 < 0))), .ro (Rd.slice (Rd.int .i64)) false x6414, .lit (.int .i64 x6213)]))) [2] hnp ⟨rfl, ⟨trivial, .inr ⟨rfl, rfl, rfl⟩⟩, by decide, rfl, trivial⟩ (LeE.upd rfl rfl (LeE.none rfl rfl))) ?_
 obtain ⟨⟨x6466, x6467, x6468⟩, H6491, H⟩ := bnd H
 refine WP.monoW (Q := fun x E M => x = .exit 0 ∧ E = (Env.none.upd 4 (.ptr 0 0)) ∧ M = (Mem.nil.push (.cells 53 [.lit (.bool x6466), .ro (Rd.slice (Rd.int .i64)) false x6467, .lit (.int .i64 x6468)]))) ?_ ?_
 · refine WP.loop (β := Bool × (List Int) × Int) (fun n b => g_quireref09_Int_l0 k n b.1 b.2.1 b.2.2 = some (x6466, x6467, x6468)) (fun b => (Env.none.upd 4 (.ptr 0 0))) (fun b => (Mem.nil.push (.cells 53 [.lit (.bool b.1), .ro (Rd.slice (Rd.int .i64)) false b.2.1, .lit (.int .i64 b.2.2)]))) k ((decide (x6212 < 0)), x6414, x6213) H6491 rfl rfl ?_
   rintro n ⟨x6440, x6441, x6442⟩ H
   obtain _ | n := n
   · exact nf rfl H
   rw [g_quireref09_Int_l0.eq_2] at H
   show WP _ _ _ _ (Env.none.upd 4 (.ptr 0 0)) (Mem.nil.push (.cells 53 [.lit (.bool x6440), .ro (Rd.slice (Rd.int .i64)) false x6441, .lit (.int .i64 x6442)])) _
   refine WP.seq ?_
   refine WP.seq ?_
   obtain ⟨x6478, H6480, H⟩ := bnd H
   refine WP.monoW (Q := fun x E M => x = .normal ∧ E = ((Env.none.upd 4 (.ptr 0 0)).upd 26 (.lit (.bool x6478))) ∧ M = (Mem.nil.push (.cells 53 [.lit (.bool x6440), .ro (Rd.slice (Rd.int .i64)) false x6441, .lit (.int .i64 x6442)]))) ?_ ?_
   · clear H
     have H := H6480
     clear H6480
     refine WP.region ?_
     refine WPL.q (q_fieldAddr fi53_1 rfl rfl) rfl ?_
     refine WPL.q (q_load sc3 rfl rfl rfl) rfl ?_
     refine WPL.q (q_gtr rfl rfl) rfl ?_
     refine WPL.q (q_mv (v := .lit (.bool _)) rfl) rfl ?_
     refine WPL.split (t := 20) (b := (decide (0 < x6442))) rfl (fun hb6478 => ?_) (fun hb6478 => ?_)
     · replace H := cnt hb6478 H
       refine WPL.qg rfl rfl (lb hb6478) (q_fieldAddr fi53_0 rfl rfl) rfl ?_
       refine WPL.qg rfl rfl (lb hb6478) (q_fieldAddr fi51_1 rfl rfl) rfl ?_
       refine WPL.qg rfl rfl (lb hb6478) (q_load sc49 rfl rfl rfl) rfl ?_
       refine WPL.qg rfl rfl (lb hb6478) (q_len_ro sl49 rfl) rfl ?_
       obtain ⟨x6480, h6480, H⟩ := bnd H
       refine WPL.qg rfl rfl (lb hb6478) (q_nm (q_lss rfl rfl) (nm_bool h6480)) rfl ?_
       refine WPL.q (q_pickT (v := .lit (.bool _)) (lb hb6478) rfl) rfl ?_
       refine WPL.nilW ?_
       have q0 := (Option.some.inj H)
       subst q0
       exact W.wk [0] hnp ⟨rfl, rfl, rfl⟩ ⟨rfl, ⟨trivial, .inr ⟨rfl, rfl, rfl⟩⟩, by decide, rfl, trivial⟩ (LeE.upd rfl rfl (LeE.upd rfl rfl (LeE.none rfl rfl))) rfl
     replace H := cnf hb6478 H
     refine WPL.skipg (b' := false) rfl rfl (lb hb6478) rfl rfl ?_
     refine WPL.skipg (b' := false) rfl rfl (lb hb6478) rfl rfl ?_
     refine WPL.skipg (b' := false) rfl rfl (lb hb6478) rfl rfl ?_
     refine WPL.skipg (b' := false) rfl rfl (lb hb6478) rfl rfl ?_
     refine WPL.skipg (b' := false) rfl rfl (lb hb6478) rfl rfl ?_
     refine WPL.q (q_pickF (v := .lit (.bool _)) (lb hb6478) rfl) rfl ?_
     refine WPL.nilW ?_
     have q0 := (Option.some.inj H)
     subst q0
     exact W.wk [0] hnp ⟨rfl, rfl, rfl⟩ ⟨rfl, ⟨trivial, .inr ⟨rfl, rfl, rfl⟩⟩, by decide, rfl, trivial⟩ (LeE.upd rfl rfl (LeE.upd rfl rfl (LeE.none rfl rfl))) rfl
   rintro _ _ _ ⟨rfl, rfl, rfl⟩
   refine W.now ?_
   refine Then.n ?_
   refine WP.cond (t := x6478) rfl (fun hb6481 => ?_) (fun hb6481 => ?_)
   · replace H := cnt hb6481 H
     refine WP.skipW ?_
     refine W.now ?_
     refine Then.n ?_
     refine WP.block ?_
     refine WP.regionD' 8 [0] [7] mixed rfl ?_
     refine WPD.takeT 0 rfl (by kernel_rfl) (q_fieldAddr fi53_0 rfl rfl) rfl ?_
     refine WPD.takeT 3 rfl (by kernel_rfl) (q_fieldAddr fi53_1 rfl rfl) rfl ?_
     refine WPD.take 1 rfl (by kernel_rfl) (q_load_ag ag51 rfl rfl (Nat.le_of_ble_eq_true rfl)) rfl rfl ?_
     refine WPD.take 4 rfl (by kernel_rfl) (q_load sc3 rfl rfl rfl) rfl rfl ?_
     refine WPD.takeT 5 rfl (by kernel_rfl) (q_sub rfl rfl) rfl ?_
     obtain ⟨⟨x6490, x6491⟩, h6488, H⟩ := bnd H
     refine WPD.eff 2 [0] [7] rfl (by kernel_rfl) (runs_call (s := []) (t := [1]) (N := 2) (bor := []) fn34 rfl (s_quireref09_Shift k x6440 x6441 1 x6490 x6491 h6488) ⟨rfl, trivial, by decide, rfl, trivial⟩ rfl trivial (.ren rfl rfl (.ren rfl rfl .nil)) rfl ⟨trivial, rfl⟩ rfl) rfl rfl ?_
     refine WPD.takeT 6 rfl (by kernel_rfl) (q_build bu53 rfl) rfl ?_
     refine WPD.effS 7 [] [] rfl (by kernel_rfl) (s_store sz53 rfl rfl rfl rfl rfl) rfl ?_
     refine WPD.doneW (by kernel_rfl) ?_
     exact W.wk [0] hnp (InBlock.n (Then.n ⟨n, (x6490, x6491, (IntKind.wrap .i64 (x6442 - 1))), Nat.lt_succ_self n, H, rfl, rfl⟩)) ⟨rfl, ⟨trivial, .inr ⟨rfl, rfl, rfl⟩⟩, by decide, rfl, trivial⟩ (LeE.upd rfl rfl (LeE.none rfl rfl)) rfl
   replace H := cnf hb6481 H
   refine WP.exitW ?_
   have q0 := (Prod.mk.inj (Option.some.inj H)).1
   have q1 := (Prod.mk.inj (Prod.mk.inj (Option.some.inj H)).2).1
   have q2 := (Prod.mk.inj (Prod.mk.inj (Option.some.inj H)).2).2
   subst q0
   subst q1
   subst q2
   exact W.wk [0] hnp (Then.x (Then.x ⟨rfl, rfl, rfl⟩)) ⟨rfl, ⟨trivial, .inr ⟨rfl, rfl, rfl⟩⟩, by decide, rfl, trivial⟩ (LeE.upd rfl rfl (LeE.none rfl rfl)) rfl
 rintro _ _ _ ⟨rfl, rfl, rfl⟩
 refine W.now ?_
 refine InBlock.x0 ?_
 refine Then.n ?_
 refine WP.seq ?_
 refine WP.block ?_
 refine WP.cv (Cv.weak (E' := (Env.none.upd 4 (.ptr 0 0))) (M' := (Mem.nil.push (.cells 53 [.lit (.bool x6466), .ro (Rd.slice (Rd.int .i64)) false x6467, .lit (.int .i64 x6468)]))) [0] hnp ⟨rfl, ⟨trivial, .inr ⟨rfl, rfl, rfl⟩⟩, by decide, rfl, trivial⟩ (LeE.upd rfl rfl (LeE.none rfl rfl))) ?_
 obtain ⟨⟨x6564, x6565, x6566⟩, H6600, H⟩ := bnd H
 refine WP.monoW (Q := fun x E M => x = .exit 2 ∧ E = (Env.none.upd 4 (.ptr 0 0)) ∧ M = (Mem.nil.push (.cells 53 [.lit (.bool x6564), .ro (Rd.slice (Rd.int .i64)) false x6565, .lit (.int .i64 x6566)]))) ?_ ?_
 · refine WP.loop (β := Bool × (List Int) × Int) (fun n b => g_quireref09_Int_l1 k n b.1 b.2.1 b.2.2 = some (x6564, x6565, x6566)) (fun b => (Env.none.upd 4 (.ptr 0 0))) (fun b => (Mem.nil.push (.cells 53 [.lit (.bool b.1), .ro (Rd.slice (Rd.int .i64)) false b.2.1, .lit (.int .i64 b.2.2)]))) k (x6466, x6467, x6468) H6600 rfl rfl ?_
   rintro n ⟨x6527, x6528, x6529⟩ H
   obtain _ | n := n
   · exact nf rfl H
   rw [g_quireref09_Int_l1.eq_2] at H
   show WP _ _ _ _ (Env.none.upd 4 (.ptr 0 0)) (Mem.nil.push (.cells 53 [.lit (.bool x6527), .ro (Rd.slice (Rd.int .i64)) false x6528, .lit (.int .i64 x6529)])) _
   refine WP.seq ?_
   refine WP.seq ?_
   obtain ⟨x6582, H6586, H⟩ := bnd H
   refine WP.monoW (Q := fun x E M => x = .normal ∧ E = ((Env.none.upd 4 (.ptr 0 0)).upd 51 (.lit (.bool x6582))) ∧ M = (Mem.nil.push (.cells 53 [.lit (.bool x6527), .ro (Rd.slice (Rd.int .i64)) false x6528, .lit (.int .i64 x6529)]))) ?_ ?_
   · clear H
     have H := H6586
     clear H6586
     refine WP.region ?_
     refine WPL.q (q_fieldAddr fi53_1 rfl rfl) rfl ?_
     refine WPL.q (q_load sc3 rfl rfl rfl) rfl ?_
     refine WPL.q (q_lss rfl rfl) rfl ?_
     refine WPL.q (q_mv (v := .lit (.bool _)) rfl) rfl ?_
     refine WPL.split (t := 37) (b := (decide (x6529 < 0))) rfl (fun hb6582 => ?_) (fun hb6582 => ?_)
     · replace H := cnt hb6582 H
       refine WPL.qg rfl rfl (lb hb6582) (q_fieldAddr fi53_0 rfl rfl) rfl ?_
       refine WPL.qg rfl rfl (lb hb6582) (q_fieldAddr fi51_1 rfl rfl) rfl ?_
       refine WPL.qg rfl rfl (lb hb6582) (q_load sc49 rfl rfl rfl) rfl ?_
       refine WPL.qg rfl rfl (lb hb6582) (q_len_ro sl49 rfl) rfl ?_
       obtain ⟨x6584, h6584, H⟩ := bnd H
       refine WPL.qg rfl rfl (lb hb6582) (q_nm (q_gtr rfl rfl) (nm_bool h6584)) rfl ?_
       refine WPL.q (q_pickT (v := .lit (.bool _)) (lb hb6582) rfl) rfl ?_
       refine WPL.q (q_mv (v := .lit (.bool _)) rfl) rfl ?_
       refine WPL.split (t := 44) (b := x6584) rfl (fun hb6584 => ?_) (fun hb6584 => ?_)
       · replace H := cnt hb6584 H
         refine WPL.qg rfl rfl (lb hb6584) (q_fieldAddr fi53_0 rfl rfl) rfl ?_
         refine WPL.qg rfl rfl (lb hb6584) (q_fieldAddr fi51_1 rfl rfl) rfl ?_
         refine WPL.qg rfl rfl (lb hb6584) (q_load sc49 rfl rfl rfl) rfl ?_
         obtain ⟨x6586, h6586, H⟩ := bnd H
         refine WPL.qg rfl rfl (lb hb6584) (q_index_ro sl49 rfl rfl rfl h6586) rfl ?_
         refine WPL.qg rfl rfl (lb hb6584) (q_load_sc sc3 rfl) rfl ?_
         refine WPL.qg rfl rfl (lb hb6584) (q_eql rfl rfl) rfl ?_
         refine WPL.q (q_pickT (v := .lit (.bool _)) (lb hb6584) rfl) rfl ?_
         refine WPL.nilW ?_
         have q0 := (Option.some.inj H)
         subst q0
         exact W.wk [0] hnp ⟨rfl, rfl, rfl⟩ ⟨rfl, ⟨trivial, .inr ⟨rfl, rfl, rfl⟩⟩, by decide, rfl, trivial⟩ (LeE.upd rfl rfl (LeE.upd rfl rfl (LeE.none rfl rfl))) rfl
       replace H := cnf hb6584 H
       refine WPL.skipg (b' := false) rfl rfl (lb hb6584) rfl rfl ?_
       refine WPL.skipg (b' := false) rfl rfl (lb hb6584) rfl rfl ?_
       refine WPL.skipg (b' := false) rfl rfl (lb hb6584) rfl rfl ?_
       refine WPL.skipg (b' := false) rfl rfl (lb hb6584) rfl rfl ?_
       refine WPL.skipg (b' := false) rfl rfl (lb hb6584) rfl rfl ?_
       refine WPL.skipg (b' := false) rfl rfl (lb hb6584) rfl rfl ?_
       refine WPL.q (q_pickF (v := .lit (.bool _)) (lb hb6584) rfl) rfl ?_
       refine WPL.nilW ?_
       have q0 := (Option.some.inj H)
       subst q0
       exact W.wk [0] hnp ⟨rfl, rfl, rfl⟩ ⟨rfl, ⟨trivial, .inr ⟨rfl, rfl, rfl⟩⟩, by decide, rfl, trivial⟩ (LeE.upd rfl rfl (LeE.upd rfl rfl (LeE.none rfl rfl))) rfl
     replace H := cnf hb6582 H
     refine WPL.skipg (b' := false) rfl rfl (lb hb6582) rfl rfl ?_
     refine WPL.skipg (b' := false) rfl rfl (lb hb6582) rfl rfl ?_
     refine WPL.skipg (b' := false) rfl rfl (lb hb6582) rfl rfl ?_
     refine WPL.skipg (b' := false) rfl rfl (lb hb6582) rfl rfl ?_
     refine WPL.skipg (b' := false) rfl rfl (lb hb6582) rfl rfl ?_
     refine WPL.q (q_pickF (v := .lit (.bool _)) (lb hb6582) rfl) rfl ?_
     refine WPL.q (q_mv (v := .lit (.bool _)) rfl) rfl ?_
     refine WPL.skipg (b' := false) rfl rfl rfl rfl rfl ?_
     refine WPL.skipg (b' := false) rfl rfl rfl rfl rfl ?_
     refine WPL.skipg (b' := false) rfl rfl rfl rfl rfl ?_
     refine WPL.skipg (b' := false) rfl rfl rfl rfl rfl ?_
     refine WPL.skipg (b' := false) rfl rfl rfl rfl rfl ?_
     refine WPL.skipg (b' := false) rfl rfl rfl rfl rfl ?_
     refine WPL.q (q_pickF (v := .lit (.bool _)) rfl rfl) rfl ?_
     refine WPL.nilW ?_
     have q0 := (Option.some.inj H)
     subst q0
     exact W.wk [0] hnp ⟨rfl, rfl, rfl⟩ ⟨rfl, ⟨trivial, .inr ⟨rfl, rfl, rfl⟩⟩, by decide, rfl, trivial⟩ (LeE.upd rfl rfl (LeE.upd rfl rfl (LeE.none rfl rfl))) rfl
   rintro _ _ _ ⟨rfl, rfl, rfl⟩
   refine W.now ?_
   refine Then.n ?_
   refine WP.cond (t := x6582) rfl (fun hb6587 => ?_) (fun hb6587 => ?_)
   · replace H := cnt hb6587 H
     refine WP.skipW ?_
     refine W.now ?_
     refine Then.n ?_
     refine WP.block ?_
     refine WP.regionD' 14 [0] [13] mixed rfl ?_
     refine WPD.takeT 0 rfl (by kernel_rfl) (q_fieldAddr fi53_0 rfl rfl) rfl ?_
     refine WPD.takeT 1 rfl (by kernel_rfl) (q_fieldAddr fi51_0 rfl rfl) rfl ?_
     refine WPD.takeT 3 rfl (by kernel_rfl) (q_fieldAddr fi53_0 rfl rfl) rfl ?_
     refine WPD.takeT 4 rfl (by kernel_rfl) (q_fieldAddr fi51_1 rfl rfl) rfl ?_
     refine WPD.takeT 9 rfl (by kernel_rfl) (q_fieldAddr fi53_1 rfl rfl) rfl ?_
     refine WPD.take 2 rfl (by kernel_rfl) (q_load sc4 rfl rfl rfl) rfl rfl ?_
     refine WPD.take 5 rfl (by kernel_rfl) (q_load sc49 rfl rfl rfl) rfl rfl ?_
     obtain ⟨h6596, H⟩ := grd H
     refine WPD.takeT 6 rfl (by kernel_rfl) (q_slice_ro (i := 1) (j := ((List.length x6528 : Nat) : Int)) sl49 rfl rfl ⟨_, rfl⟩ rfl h6596) rfl ?_
     refine WPD.takeT 7 rfl (by kernel_rfl) (q_build bu51 rfl) rfl ?_
     refine WPD.take 10 rfl (by kernel_rfl) (q_load sc3 rfl rfl rfl) rfl rfl ?_
     refine WPD.takeT 11 rfl (by kernel_rfl) (q_add rfl rfl) rfl ?_
     obtain ⟨⟨x6599, x6600⟩, h6597, H⟩ := bnd H
     refine WPD.eff 8 [0] [13] rfl (by kernel_rfl) (runs_call (s := []) (t := [1]) (N := 2) (bor := []) fn36 rfl (s_quireref09_trim__b k x6527 (List.drop (Int.toNat 1) (List.take (Int.toNat ((List.length x6528 : Nat) : Int)) x6528)) x6599 x6600 h6597) ⟨rfl, trivial, by decide, rfl, trivial⟩ rfl trivial (.ren rfl rfl .nil) rfl ⟨trivial, rfl⟩ rfl) rfl rfl ?_
     refine WPD.takeT 12 rfl (by kernel_rfl) (q_build bu53 rfl) rfl ?_
     refine WPD.effS 13 [] [] rfl (by kernel_rfl) (s_store sz53 rfl rfl rfl rfl rfl) rfl ?_
     refine WPD.doneW (by kernel_rfl) ?_
     exact W.wk [0] hnp (InBlock.n (Then.n ⟨n, (x6599, x6600, (IntKind.wrap .i64 (x6529 + 1))), Nat.lt_succ_self n, H, rfl, rfl⟩)) ⟨rfl, ⟨trivial, .inr ⟨rfl, rfl, rfl⟩⟩, by decide, rfl, trivial⟩ (LeE.upd rfl rfl (LeE.none rfl rfl)) rfl
   replace H := cnf hb6587 H
   refine WP.exitW ?_
   have q0 := (Prod.mk.inj (Option.some.inj H)).1
   have q1 := (Prod.mk.inj (Prod.mk.inj (Option.some.inj H)).2).1
   have q2 := (Prod.mk.inj (Prod.mk.inj (Option.some.inj H)).2).2
   subst q0
   subst q1
   subst q2
   exact W.wk [0] hnp (Then.x (Then.x ⟨rfl, rfl, rfl⟩)) ⟨rfl, ⟨trivial, .inr ⟨rfl, rfl, rfl⟩⟩, by decide, rfl, trivial⟩ (LeE.upd rfl rfl (LeE.none rfl rfl)) rfl
 rintro _ _ _ ⟨rfl, rfl, rfl⟩
 refine W.now ?_
 refine InBlock.x0 ?_
 refine Then.n ?_
 refine WP.seq ?_
 refine WP.seq ?_
 refine WP.region ?_
 refine WPL.q (q_fieldAddr fi53_0 rfl rfl) rfl ?_
 refine WPL.q (q_fieldAddr fi51_1 rfl rfl) rfl ?_
 refine WPL.q (q_load sc49 rfl rfl rfl) rfl ?_
 refine WPL.q (q_len_ro sl49 rfl) rfl ?_
 obtain ⟨x6604, h6604, H⟩ := bnd H
 refine WPL.q (q_nm (q_eql rfl rfl) (nm_bool h6604)) rfl ?_
 refine WPL.nilW ?_
 refine W.now ?_
 refine Then.n ?_
 refine WP.cond (t := x6604) rfl (fun hb6604 => ?_) (fun hb6604 => ?_)
 · replace H := cnt hb6604 H
   refine WP.seq ?_
   refine WP.region ?_
   refine WPL.q (q_as (v := .lit (.int _ _)) rfl) rfl ?_
   refine WPL.q (q_as (v := .lit (.bool _)) rfl) rfl ?_
   refine WPL.nilW ?_
   refine W.now ?_
   refine Then.n ?_
   refine WP.retW ?_
   have q0 := (Prod.mk.inj (Option.some.inj H)).1
   have q1 := (Prod.mk.inj (Option.some.inj H)).2
   subst q0
   subst q1
   exact W.now (Then.r (BodyR.mkR trivial rfl [] ⟨rfl, rfl⟩ ⟨rfl, trivial, by decide, rfl, trivial⟩ rfl rfl))
 replace H := cnf hb6604 H
 refine WP.skipW ?_
 refine W.now ?_
 refine Then.n ?_
 refine WP.seq ?_
 refine WP.seq ?_
 obtain ⟨x6639, H6649, H⟩ := bnd H
 refine WP.monoW (Q := fun x E M => x = .normal ∧ E = ((Env.none.upd 4 (.ptr 0 0)).upd 79 (.lit (.bool x6639))) ∧ M = (Mem.nil.push (.cells 53 [.lit (.bool x6564), .ro (Rd.slice (Rd.int .i64)) false x6565, .lit (.int .i64 x6566)]))) ?_ ?_
 · clear H
   have H := H6649
   clear H6649
   refine WP.regionD' 10 [0] [] mixed rfl ?_
   refine WPD.takeT 0 rfl (by kernel_rfl) (q_fieldAddr fi53_1 rfl rfl) rfl ?_
   refine WPD.take 1 rfl (by kernel_rfl) (q_load sc3 rfl rfl rfl) rfl rfl ?_
   refine WPD.takeT 2 rfl (by kernel_rfl) (q_neq rfl rfl) rfl ?_
   refine WPD.takeT 3 rfl (by kernel_rfl) (q_mv (v := .lit (.bool _)) rfl) rfl ?_
   refine WPD.split (t := 73) (b := (!decide (x6566 = 0))) rfl (fun hb6644 => ?_) (fun hb6644 => ?_)
   · replace H := cnt hb6644 H
     refine WPD.pass (b' := true) 4 rfl (by kernel_rfl) rfl rfl (lb hb6644) rfl rfl ?_
     refine WPD.pass (b' := true) 5 rfl (by kernel_rfl) rfl rfl (lb hb6644) rfl rfl ?_
     refine WPD.pass (b' := true) 6 rfl (by kernel_rfl) rfl rfl (lb hb6644) rfl rfl ?_
     refine WPD.pass (b' := true) 7 rfl (by kernel_rfl) rfl rfl (lb hb6644) rfl rfl ?_
     refine WPD.pass (b' := true) 8 rfl (by kernel_rfl) rfl rfl (lb hb6644) rfl rfl ?_
     refine WPD.takeT 9 rfl (by kernel_rfl) (q_pickT (v := .lit (.bool _)) (lb hb6644) rfl) rfl ?_
     refine WPD.doneW (by kernel_rfl) ?_
     have q0 := (Option.some.inj H)
     subst q0
     exact W.wk [0] hnp ⟨rfl, rfl, rfl⟩ ⟨rfl, ⟨trivial, .inr ⟨rfl, rfl, rfl⟩⟩, by decide, rfl, trivial⟩ (LeE.upd rfl rfl (LeE.upd rfl rfl (LeE.none rfl rfl))) rfl
   replace H := cnf hb6644 H
   refine WPD.takegT 4 rfl (by kernel_rfl) rfl rfl (lb hb6644) (q_fieldAddr fi53_0 rfl rfl) rfl ?_
   refine WPD.takeg 5 rfl (by kernel_rfl) rfl rfl (lb hb6644) (q_load_ag ag51 rfl rfl (Nat.le_of_ble_eq_true rfl)) rfl rfl ?_
   obtain ⟨x6647, h6645, H⟩ := bnd H
   refine WPD.effg 6 [0] [] rfl (by kernel_rfl) rfl rfl (lb hb6644) (runs_call (s := []) (t := [1]) (N := 2) (bor := []) fn43 rfl (s_quireref09_Of k 9007199254740992 x6647 h6645) ⟨rfl, trivial, by decide, rfl, trivial⟩ rfl trivial (.ren rfl rfl .nil) rfl ⟨trivial, rfl⟩ rfl) rfl rfl ?_
   obtain ⟨x6649, h6647, H⟩ := bnd H
   refine WPD.effg 7 [0] [] rfl (by kernel_rfl) rfl rfl (lb hb6644) (runs_call (s := []) (t := []) (N := 2) (bor := []) fn61 rfl (s_quireref09_more k x6564 x6565 (decide (9007199254740992 < 0)) x6647 x6649 h6647) ⟨rfl, trivial, by decide, rfl, trivial⟩ rfl trivial (.ren rfl rfl (.ren rfl rfl .nil)) rfl trivial rfl) rfl rfl ?_
   refine WPD.takegT 8 rfl (by kernel_rfl) rfl rfl (lb hb6644) (q_gtr rfl rfl) rfl ?_
   refine WPD.takeT 9 rfl (by kernel_rfl) (q_pickF (v := .lit (.bool _)) (lb hb6644) rfl) rfl ?_
   refine WPD.doneW (by kernel_rfl) ?_
   have q0 := (Option.some.inj H)
   subst q0
   exact W.wk [0] hnp ⟨rfl, rfl, rfl⟩ ⟨rfl, ⟨trivial, .inr ⟨rfl, rfl, rfl⟩⟩, by decide, rfl, trivial⟩ (LeE.upd rfl rfl (LeE.upd rfl rfl (LeE.none rfl rfl))) rfl
 rintro _ _ _ ⟨rfl, rfl, rfl⟩
 refine W.now ?_
 refine Then.n ?_
 refine WP.cond (t := x6639) rfl (fun hb6650 => ?_) (fun hb6650 => ?_)
 · replace H := cnt hb6650 H
   refine WP.seq ?_
   refine WP.region ?_
   refine WPL.q (q_as (v := .lit (.int _ _)) rfl) rfl ?_
   refine WPL.q (q_as (v := .lit (.bool _)) rfl) rfl ?_
   refine WPL.nilW ?_
   refine W.now ?_
   refine Then.n ?_
   refine WP.retW ?_
   have q0 := (Prod.mk.inj (Option.some.inj H)).1
   have q1 := (Prod.mk.inj (Option.some.inj H)).2
   subst q0
   subst q1
   exact W.now (Then.r (BodyR.mkR trivial rfl [] ⟨rfl, rfl⟩ ⟨rfl, trivial, by decide, rfl, trivial⟩ rfl rfl))
 replace H := cnf hb6650 H
 refine WP.skipW ?_
 refine W.now ?_
 refine Then.n ?_
 refine WP.seq ?_
 refine WP.region ?_
 refine WPL.q (q_load_ag ag53 rfl rfl (Nat.le_of_ble_eq_true rfl)) rfl ?_
 obtain ⟨⟨x6653, x6654, x6655⟩, h6651, H⟩ := bnd H
 refine WPL.c (runs_call (s := []) (t := [1]) (N := 2) (bor := []) fn35 rfl (s_quireref09_Tell k x6564 x6565 x6566 x6653 x6654 x6655 h6651) ⟨rfl, trivial, by decide, rfl, trivial⟩ rfl trivial (.ren rfl rfl .nil) rfl ⟨trivial, rfl⟩ rfl) rfl ?_
 refine WPL.q (q_mv (v := .tup _) rfl) rfl ?_
 refine WPL.q (q_extract rfl rfl) rfl ?_
 refine WPL.q (q_extract rfl rfl) rfl ?_
 refine WPL.d (d_alloc ze23 rfl) rfl ?_
 refine WPL.s (s_store sz23 rfl rfl rfl rfl rfl) ?_
 refine WPL.q (q_as (v := .lit (.int _ _)) rfl) rfl ?_
 refine WPL.nilW ?_
 refine W.now ?_
 refine Then.n ?_
 refine WP.seq ?_
 refine WP.region ?_
 refine WPL.q (q_fieldAddr fi23_0 rfl rfl) rfl ?_
 refine WPL.q (q_load sc2 rfl rfl rfl) rfl ?_
 refine WPL.q (q_as (v := .lit (.int _ _)) rfl) rfl ?_
 refine WPL.nilW ?_
 refine W.now ?_
 refine Then.n ?_
 refine WP.seq ?_
 refine WP.seq ?_
 refine WP.region ?_
 refine WPL.q (q_as (v := .lit (.int _ _)) rfl) rfl ?_
 refine WPL.nilW ?_
 refine W.now ?_
 refine Then.n ?_
 refine WP.block ?_
 refine WP.cv (Cv.weak (E' := (((Env.none.upd 6 (.ptr 0 0)).upd 8 (.lit (.int .i64 x6654))).upd 9 (.lit (.int .i64 0)))) (M' := (Mem.nil.push (.cells 23 [.lit (.int .i64 x6654), .lit (.int .i64 x6655)]))) [2] hnp ⟨rfl, ⟨trivial, .inr ⟨rfl, rfl, rfl⟩⟩, by decide, rfl, trivial⟩ (LeE.upd rfl rfl (LeE.upd rfl rfl (LeE.upd rfl rfl (LeE.none rfl rfl))))) ?_
 obtain ⟨x6662, H6664, H⟩ := bnd H
 refine WP.monoW (Q := fun x E M => x = .exit 4 ∧ E = (Env.none.upd 8 (.lit (.int .i64 x6662))) ∧ M = Mem.nil) ?_ ?_
 · refine WP.loop (β := Int × Int) (fun n b => g_quireref09_Int_l2 k x6655 n b.1 b.2 = some x6662) (fun b => (((Env.none.upd 6 (.ptr 0 0)).upd 8 (.lit (.int .i64 b.1))).upd 9 (.lit (.int .i64 b.2)))) (fun b => (Mem.nil.push (.cells 23 [.lit (.int .i64 x6654), .lit (.int .i64 x6655)]))) k (x6654, 0) H6664 rfl rfl ?_
   rintro n ⟨x6658, x6659⟩ H
   obtain _ | n := n
   · exact nf rfl H
   rw [g_quireref09_Int_l2.eq_2] at H
   show WP _ _ _ _ (((Env.none.upd 6 (.ptr 0 0)).upd 8 (.lit (.int .i64 x6658))).upd 9 (.lit (.int .i64 x6659))) (Mem.nil.push (.cells 23 [.lit (.int .i64 x6654), .lit (.int .i64 x6655)])) _
   refine WP.seq ?_
   refine WP.seq ?_
   refine WP.region ?_
   refine WPL.q (q_mv (v := .lit (.int _ _)) rfl) rfl ?_
   refine WPL.q (q_fieldAddr fi23_1 rfl rfl) rfl ?_
   refine WPL.q (q_load sc3 rfl rfl rfl) rfl ?_
   refine WPL.q (q_lss rfl rfl) rfl ?_
   refine WPL.nilW ?_
   refine W.now ?_
   refine Then.n ?_
   refine WP.cond (t := (decide (x6659 < x6655))) rfl (fun hb6663 => ?_) (fun hb6663 => ?_)
   · replace H := cnt hb6663 H
     refine WP.skipW ?_
     refine W.now ?_
     refine Then.n ?_
     refine WP.seq ?_
     refine WP.block ?_
     refine WP.region ?_
     refine WPL.q (q_mv (v := .lit (.int _ _)) rfl) rfl ?_
     refine WPL.q (q_mul rfl rfl) rfl ?_
     refine WPL.q (q_as (v := .lit (.int _ _)) rfl) rfl ?_
     refine WPL.nilW ?_
     refine W.now ?_
     refine InBlock.n ?_
     refine Then.n ?_
     refine WP.region ?_
     refine WPL.q (q_mv (v := .lit (.int _ _)) rfl) rfl ?_
     refine WPL.q (q_add rfl rfl) rfl ?_
     refine WPL.q (q_as (v := .lit (.int _ _)) rfl) rfl ?_
     refine WPL.nilW ?_
     exact W.wk [0] hnp (Then.n ⟨n, ((IntKind.wrap .i64 (x6658 * 10)), (IntKind.wrap .i64 (x6659 + 1))), Nat.lt_succ_self n, H, rfl, rfl⟩) ⟨rfl, ⟨trivial, .inr ⟨rfl, rfl, rfl⟩⟩, by decide, rfl, trivial⟩ (LeE.upd rfl rfl (LeE.upd rfl rfl (LeE.upd rfl rfl (LeE.none rfl rfl)))) rfl
   replace H := cnf hb6663 H
   refine WP.exitW ?_
   have q0 := (Option.some.inj H)
   subst q0
   exact W.wk [] hnp (Then.x (Then.x ⟨rfl, rfl, rfl⟩)) ⟨rfl, trivial, by decide, rfl, trivial⟩ (LeE.upd rfl rfl (LeE.none rfl rfl)) rfl
 rintro _ _ _ ⟨rfl, rfl, rfl⟩
 refine W.now ?_
 refine InBlock.x0 ?_
 refine Then.n ?_
 refine WP.seq ?_
 refine WP.region ?_
 refine WPL.q (q_mv (v := .lit (.int _ _)) rfl) rfl ?_
 refine WPL.q (q_as (v := .lit (.int _ _)) rfl) rfl ?_
 refine WPL.q (q_as (v := .lit (.bool _)) rfl) rfl ?_
 refine WPL.nilW ?_
 refine W.now ?_
 refine Then.n ?_
 refine WP.retW ?_
 have q0 := (Prod.mk.inj (Option.some.inj H)).1
 have q1 := (Prod.mk.inj (Option.some.inj H)).2
 subst q0
 subst q1
 exact W.now (BodyR.mkR trivial rfl [] ⟨rfl, rfl⟩ ⟨rfl, trivial, by decide, rfl, trivial⟩ rfl rfl)
set_option maxRecDepth 100000 in
set_option maxHeartbeats 4000000 in
theorem s_quireref09_Times (k : Nat) (x6705 : Bool) (x6706 : (List Int)) (x6707 : Bool) (x6708 : (List Int)) (x6915 : Bool) (x6916 : (List Int)) (H : g_quireref09_Times k x6705 x6706 x6707 x6708 = some (x6915, x6916)) : Go.Q.Spec Try.prog 44 0 [.agg [.lit (.bool x6705), .ro (Rd.slice (Rd.int .i64)) false x6706], .agg [.lit (.bool x6707), .ro (Rd.slice (Rd.int .i64)) false x6708]] Mem.nil (fun o M => o = .ret (.agg [.lit (.bool x6915), .ro (Rd.slice (Rd.int .i64)) false x6916]) ∧ M = (Mem.nil.push (.cells 51 [.lit (.bool x6915), .ro (Rd.slice (Rd.int .i64)) false x6916]))) := by
 unfold g_quireref09_Times at H
 refine Go.Q.Spec.of_bodyR (az := [(51, 2)]) (rs := [.cell 4 51]) (nt := 93) Try.func44 rfl rfl (by intro t T h; simp at h; rcases h with ⟨rfl, rfl⟩ <;> first | exact ag51) rfl rfl fun cx hnp => ?_
 refine WP.seq ?_
 refine WP.region ?_
 refine WPL.d (d_box rfl rfl) rfl ?_
 refine WPL.d (d_box rfl rfl) rfl ?_
 refine WPL.d (d_alloc ze51 rfl) rfl ?_
 refine WPL.nilW ?_
 refine W.now ?_
 refine Then.n ?_
 refine WP.seq ?_
 refine WP.region ?_
 refine WPL.q (q_fieldAddr fi51_1 rfl rfl) rfl ?_
 refine WPL.q (q_load sc49 rfl rfl rfl) rfl ?_
 refine WPL.q (q_len_ro sl49 rfl) rfl ?_
 refine WPL.q (q_fieldAddr fi51_1 rfl rfl) rfl ?_
 refine WPL.q (q_load sc49 rfl rfl rfl) rfl ?_
 refine WPL.q (q_len_ro sl49 rfl) rfl ?_
 obtain ⟨x6917, h6917, H⟩ := bnd H
 refine WPL.q (q_nm (q_add rfl rfl) (nm_int h6917)) rfl ?_
 refine WPL.q (q_add rfl rfl) rfl ?_
 obtain ⟨h6917, H⟩ := grd H
 refine WPL.d (d_make (d := (0 : Int)) (R := (Rd.int .i64)) li49 by3 rfl rfl rfl Joins.sc rfl rfl h6917 rfl) rfl ?_
 refine WPL.q (q_as (v := .whole _) rfl) rfl ?_
 refine WPL.nilW ?_
 refine W.now ?_
 refine Then.n ?_
 refine WP.seq ?_
 refine WP.seq ?_
 refine WP.region ?_
 refine WPL.q (q_as (v := .lit (.int _ _)) rfl) rfl ?_
 refine WPL.nilW ?_
 refine W.now ?_
 refine Then.n ?_
 refine WP.block ?_
 refine WP.cv (Cv.weak (E' := (((((Env.none.upd 2 (.ptr 0 0)).upd 3 (.ptr 1 0)).upd 4 (.ptr 2 0)).upd 5 (.whole 3)).upd 6 (.lit (.int .i64 0)))) (M' := ((((Mem.nil.push (.cells 51 [.lit (.bool x6705), .ro (Rd.slice (Rd.int .i64)) false x6706])).push (.cells 51 [.lit (.bool x6707), .ro (Rd.slice (Rd.int .i64)) false x6708])).push (.cells 51 [.lit (.bool false), .lit (.slice none 0 0)])).push (.row 3 (Rd.int .i64) (List.replicate (Int.toNat (IntKind.wrap .i64 (x6917 + 1))) (0 : Int))))) [0, 1, 2, 3] hnp ⟨rfl, ⟨⟨⟨⟨trivial, .inr ⟨rfl, rfl, rfl⟩⟩, .inr ⟨rfl, rfl, rfl⟩⟩, .inr ⟨rfl, rfl, rfl⟩⟩, .inr ⟨rfl, rfl, rfl⟩⟩, by decide, rfl, trivial⟩ (LeE.upd rfl rfl (LeE.upd rfl rfl (LeE.upd rfl rfl (LeE.upd rfl rfl (LeE.upd rfl rfl (LeE.none rfl rfl))))))) ?_
 obtain ⟨x7117, H7258, H⟩ := bnd H
 refine WP.monoW (Q := fun x E M => x = .exit 0 ∧ E = ((((Env.none.upd 2 (.ptr 0 0)).upd 3 (.ptr 1 0)).upd 4 (.ptr 2 0)).upd 5 (.whole 3)) ∧ M = ((((Mem.nil.push (.cells 51 [.lit (.bool x6705), .ro (Rd.slice (Rd.int .i64)) false x6706])).push (.cells 51 [.lit (.bool x6707), .ro (Rd.slice (Rd.int .i64)) false x6708])).push (.cells 51 [.lit (.bool false), .lit (.slice none 0 0)])).push (.row 3 (Rd.int .i64) x7117))) ?_ ?_
 · refine WP.loop (β := Int × (List Int)) (fun n b => g_quireref09_Times_l0 k x6706 x6708 n b.1 b.2 = some x7117) (fun b => (((((Env.none.upd 2 (.ptr 0 0)).upd 3 (.ptr 1 0)).upd 4 (.ptr 2 0)).upd 5 (.whole 3)).upd 6 (.lit (.int .i64 b.1)))) (fun b => ((((Mem.nil.push (.cells 51 [.lit (.bool x6705), .ro (Rd.slice (Rd.int .i64)) false x6706])).push (.cells 51 [.lit (.bool x6707), .ro (Rd.slice (Rd.int .i64)) false x6708])).push (.cells 51 [.lit (.bool false), .lit (.slice none 0 0)])).push (.row 3 (Rd.int .i64) b.2))) k (0, (List.replicate (Int.toNat (IntKind.wrap .i64 (x6917 + 1))) (0 : Int))) H7258 rfl rfl ?_
   rintro n ⟨x7017, x7018⟩ H
   obtain _ | n := n
   · exact nf rfl H
   rw [g_quireref09_Times_l0.eq_2] at H
   show WP _ _ _ _ (((((Env.none.upd 2 (.ptr 0 0)).upd 3 (.ptr 1 0)).upd 4 (.ptr 2 0)).upd 5 (.whole 3)).upd 6 (.lit (.int .i64 x7017))) ((((Mem.nil.push (.cells 51 [.lit (.bool x6705), .ro (Rd.slice (Rd.int .i64)) false x6706])).push (.cells 51 [.lit (.bool x6707), .ro (Rd.slice (Rd.int .i64)) false x6708])).push (.cells 51 [.lit (.bool false), .lit (.slice none 0 0)])).push (.row 3 (Rd.int .i64) x7018)) _
   refine WP.seq ?_
   refine WP.seq ?_
   refine WP.region ?_
   refine WPL.q (q_mv (v := .lit (.int _ _)) rfl) rfl ?_
   refine WPL.q (q_fieldAddr fi51_1 rfl rfl) rfl ?_
   refine WPL.q (q_load sc49 rfl rfl rfl) rfl ?_
   refine WPL.q (q_len_ro sl49 rfl) rfl ?_
   obtain ⟨x7120, h7120, H⟩ := bnd H
   refine WPL.q (q_nm (q_lss rfl rfl) (nm_bool h7120)) rfl ?_
   refine WPL.nilW ?_
   refine W.now ?_
   refine Then.n ?_
   refine WP.cond (t := x7120) rfl (fun hb7120 => ?_) (fun hb7120 => ?_)
   · replace H := cnt hb7120 H
     refine WP.skipW ?_
     refine W.now ?_
     refine Then.n ?_
     refine WP.seq ?_
     refine WP.block ?_
     refine WP.seq ?_
     refine WP.seq ?_
     refine WP.region ?_
     refine WPL.q (q_as (v := .lit (.int _ _)) rfl) rfl ?_
     refine WPL.nilW ?_
     refine W.now ?_
     refine Then.n ?_
     refine WP.block ?_
     refine WP.cv (Cv.weak (E' := ((((((Env.none.upd 2 (.ptr 0 0)).upd 3 (.ptr 1 0)).upd 4 (.ptr 2 0)).upd 5 (.whole 3)).upd 6 (.lit (.int .i64 x7017))).upd 7 (.lit (.int .i64 0)))) (M' := ((((Mem.nil.push (.cells 51 [.lit (.bool x6705), .ro (Rd.slice (Rd.int .i64)) false x6706])).push (.cells 51 [.lit (.bool x6707), .ro (Rd.slice (Rd.int .i64)) false x6708])).push (.cells 51 [.lit (.bool false), .lit (.slice none 0 0)])).push (.row 3 (Rd.int .i64) x7018))) [0, 1, 2, 3] hnp ⟨rfl, ⟨⟨⟨⟨trivial, .inr ⟨rfl, rfl, rfl⟩⟩, .inr ⟨rfl, rfl, rfl⟩⟩, .inr ⟨rfl, rfl, rfl⟩⟩, .inr ⟨rfl, rfl, rfl⟩⟩, by decide, rfl, trivial⟩ (LeE.upd rfl rfl (LeE.upd rfl rfl (LeE.upd rfl rfl (LeE.upd rfl rfl (LeE.upd rfl rfl (LeE.upd rfl rfl (LeE.none rfl rfl)))))))) ?_
     obtain ⟨x7170, H7193, H⟩ := bnd H
     refine WP.monoW (Q := fun x E M => x = .exit 2 ∧ E = (((((Env.none.upd 2 (.ptr 0 0)).upd 3 (.ptr 1 0)).upd 4 (.ptr 2 0)).upd 5 (.whole 3)).upd 6 (.lit (.int .i64 x7017))) ∧ M = ((((Mem.nil.push (.cells 51 [.lit (.bool x6705), .ro (Rd.slice (Rd.int .i64)) false x6706])).push (.cells 51 [.lit (.bool x6707), .ro (Rd.slice (Rd.int .i64)) false x6708])).push (.cells 51 [.lit (.bool false), .lit (.slice none 0 0)])).push (.row 3 (Rd.int .i64) x7170))) ?_ ?_
     · refine WP.loop (β := Int × (List Int)) (fun n b => g_quireref09_Times_l1 k x6706 x6708 x7017 n b.1 b.2 = some x7170) (fun b => ((((((Env.none.upd 2 (.ptr 0 0)).upd 3 (.ptr 1 0)).upd 4 (.ptr 2 0)).upd 5 (.whole 3)).upd 6 (.lit (.int .i64 x7017))).upd 7 (.lit (.int .i64 b.1)))) (fun b => ((((Mem.nil.push (.cells 51 [.lit (.bool x6705), .ro (Rd.slice (Rd.int .i64)) false x6706])).push (.cells 51 [.lit (.bool x6707), .ro (Rd.slice (Rd.int .i64)) false x6708])).push (.cells 51 [.lit (.bool false), .lit (.slice none 0 0)])).push (.row 3 (Rd.int .i64) b.2))) k (0, x7018) H7193 rfl rfl ?_
       rintro n ⟨x7145, x7146⟩ H
       obtain _ | n := n
       · exact nf rfl H
       rw [g_quireref09_Times_l1.eq_2] at H
       show WP _ _ _ _ ((((((Env.none.upd 2 (.ptr 0 0)).upd 3 (.ptr 1 0)).upd 4 (.ptr 2 0)).upd 5 (.whole 3)).upd 6 (.lit (.int .i64 x7017))).upd 7 (.lit (.int .i64 x7145))) ((((Mem.nil.push (.cells 51 [.lit (.bool x6705), .ro (Rd.slice (Rd.int .i64)) false x6706])).push (.cells 51 [.lit (.bool x6707), .ro (Rd.slice (Rd.int .i64)) false x6708])).push (.cells 51 [.lit (.bool false), .lit (.slice none 0 0)])).push (.row 3 (Rd.int .i64) x7146)) _
       refine WP.seq ?_
       refine WP.seq ?_
       refine WP.region ?_
       refine WPL.q (q_mv (v := .lit (.int _ _)) rfl) rfl ?_
       refine WPL.q (q_fieldAddr fi51_1 rfl rfl) rfl ?_
       refine WPL.q (q_load sc49 rfl rfl rfl) rfl ?_
       refine WPL.q (q_len_ro sl49 rfl) rfl ?_
       obtain ⟨x7173, h7173, H⟩ := bnd H
       refine WPL.q (q_nm (q_lss rfl rfl) (nm_bool h7173)) rfl ?_
       refine WPL.nilW ?_
       refine W.now ?_
       refine Then.n ?_
       refine WP.cond (t := x7173) rfl (fun hb7173 => ?_) (fun hb7173 => ?_)
       · replace H := cnt hb7173 H
         refine WP.skipW ?_
         refine W.now ?_
         refine Then.n ?_
         refine WP.seq ?_
         refine WP.block ?_
         refine WP.regionD' 24 [0, 1, 3] [23] mixed rfl ?_
         refine WPD.takeT 0 rfl (by kernel_rfl) (q_mv (v := .whole _) rfl) rfl ?_
         refine WPD.takeT 1 rfl (by kernel_rfl) (q_mv (v := .lit (.int _ _)) rfl) rfl ?_
         refine WPD.takeT 2 rfl (by kernel_rfl) (q_mv (v := .lit (.int _ _)) rfl) rfl ?_
         refine WPD.takeT 3 rfl (by kernel_rfl) (q_add rfl rfl) rfl ?_
         refine WPD.takeT 4 rfl (by kernel_rfl) (q_mv (v := .whole _) rfl) rfl ?_
         refine WPD.takeT 5 rfl (by kernel_rfl) (q_mv (v := .lit (.int _ _)) rfl) rfl ?_
         refine WPD.takeT 6 rfl (by kernel_rfl) (q_mv (v := .lit (.int _ _)) rfl) rfl ?_
         refine WPD.takeT 7 rfl (by kernel_rfl) (q_add rfl rfl) rfl ?_
         obtain ⟨x7189, h7189, H⟩ := bnd H
         refine WPD.takeT 8 rfl (by kernel_rfl) (q_index_row sl49 rfl rfl rfl (ixs h7189)) rfl ?_
         refine WPD.takeT 10 rfl (by kernel_rfl) (q_fieldAddr fi51_1 rfl rfl) rfl ?_
         refine WPD.takeT 12 rfl (by kernel_rfl) (q_mv (v := .lit (.int _ _)) rfl) rfl ?_
         refine WPD.takeT 15 rfl (by kernel_rfl) (q_fieldAddr fi51_1 rfl rfl) rfl ?_
         refine WPD.takeT 17 rfl (by kernel_rfl) (q_mv (v := .lit (.int _ _)) rfl) rfl ?_
         refine WPD.take 9 rfl (by kernel_rfl) (q_load_row (j := (Int.toNat (IntKind.wrap .i64 (x7017 + x7145)))) sc3 rfl rfl (ixj h7189)) rfl rfl ?_
         refine WPD.take 11 rfl (by kernel_rfl) (q_load sc49 rfl rfl rfl) rfl rfl ?_
         obtain ⟨x7190, h7190, H⟩ := bnd H
         refine WPD.takeT 13 rfl (by kernel_rfl) (q_index_ro sl49 rfl rfl rfl h7190) rfl ?_
         refine WPD.takeT 14 rfl (by kernel_rfl) (q_load_sc sc3 rfl) rfl ?_
         refine WPD.take 16 rfl (by kernel_rfl) (q_load sc49 rfl rfl rfl) rfl rfl ?_
         obtain ⟨x7191, h7191, H⟩ := bnd H
         refine WPD.takeT 18 rfl (by kernel_rfl) (q_index_ro sl49 rfl rfl rfl h7191) rfl ?_
         refine WPD.takeT 19 rfl (by kernel_rfl) (q_load_sc sc3 rfl) rfl ?_
         refine WPD.takeT 20 rfl (by kernel_rfl) (q_mul rfl rfl) rfl ?_
         obtain ⟨x7192, h7192, H⟩ := bnd H
         refine WPD.takeT 21 rfl (by kernel_rfl) (q_nm (q_add rfl rfl) (nm_int h7192)) rfl ?_
         obtain ⟨x7193, h7193, H⟩ := bnd H
         refine WPD.takeT 22 rfl (by kernel_rfl) (q_index_row sl49 rfl rfl rfl (ixs h7193)) rfl ?_
         refine WPD.effS 23 [] [] rfl (by kernel_rfl) (s_store_row (j := (Int.toNat (IntKind.wrap .i64 (x7017 + x7145)))) (d := x7192) sz3 rfl rfl rfl rfl Joins.sc (ixl h7193)) rfl ?_
         refine WPD.doneW (by kernel_rfl) ?_
         refine W.now ?_
         refine InBlock.n ?_
         refine Then.n ?_
         refine WP.region ?_
         refine WPL.q (q_mv (v := .lit (.int _ _)) rfl) rfl ?_
         refine WPL.q (q_add rfl rfl) rfl ?_
         refine WPL.q (q_as (v := .lit (.int _ _)) rfl) rfl ?_
         refine WPL.nilW ?_
         exact W.wk [0, 1, 2, 3] hnp (Then.n ⟨n, ((IntKind.wrap .i64 (x7145 + 1)), (List.set x7146 (Int.toNat (IntKind.wrap .i64 (x7017 + x7145))) x7192)), Nat.lt_succ_self n, H, rfl, rfl⟩) ⟨rfl, ⟨⟨⟨⟨trivial, .inr ⟨rfl, rfl, rfl⟩⟩, .inr ⟨rfl, rfl, rfl⟩⟩, .inr ⟨rfl, rfl, rfl⟩⟩, .inr ⟨rfl, rfl, rfl⟩⟩, by decide, rfl, trivial⟩ (LeE.upd rfl rfl (LeE.upd rfl rfl (LeE.upd rfl rfl (LeE.upd rfl rfl (LeE.upd rfl rfl (LeE.upd rfl rfl (LeE.none rfl rfl))))))) rfl
       replace H := cnf hb7173 H
       refine WP.exitW ?_
       have q0 := (Option.some.inj H)
       subst q0
       exact W.wk [0, 1, 2, 3] hnp (Then.x (Then.x ⟨rfl, rfl, rfl⟩)) ⟨rfl, ⟨⟨⟨⟨trivial, .inr ⟨rfl, rfl, rfl⟩⟩, .inr ⟨rfl, rfl, rfl⟩⟩, .inr ⟨rfl, rfl, rfl⟩⟩, .inr ⟨rfl, rfl, rfl⟩⟩, by decide, rfl, trivial⟩ (LeE.upd rfl rfl (LeE.upd rfl rfl (LeE.upd rfl rfl (LeE.upd rfl rfl (LeE.upd rfl rfl (LeE.none rfl rfl)))))) rfl
     rintro _ _ _ ⟨rfl, rfl, rfl⟩
     refine W.now ?_
     refine InBlock.x0 ?_
     refine Then.n ?_
     refine WP.seq ?_
     refine WP.region ?_
     refine WPL.q (q_as (v := .lit (.int _ _)) rfl) rfl ?_
     refine WPL.nilW ?_
     refine W.now ?_
     refine Then.n ?_
     refine WP.block ?_
     refine WP.cv (Cv.weak (E' := ((((((Env.none.upd 2 (.ptr 0 0)).upd 3 (.ptr 1 0)).upd 4 (.ptr 2 0)).upd 5 (.whole 3)).upd 6 (.lit (.int .i64 x7017))).upd 8 (.lit (.int .i64 0)))) (M' := ((((Mem.nil.push (.cells 51 [.lit (.bool x6705), .ro (Rd.slice (Rd.int .i64)) false x6706])).push (.cells 51 [.lit (.bool x6707), .ro (Rd.slice (Rd.int .i64)) false x6708])).push (.cells 51 [.lit (.bool false), .lit (.slice none 0 0)])).push (.row 3 (Rd.int .i64) x7170))) [0, 1, 2, 3] hnp ⟨rfl, ⟨⟨⟨⟨trivial, .inr ⟨rfl, rfl, rfl⟩⟩, .inr ⟨rfl, rfl, rfl⟩⟩, .inr ⟨rfl, rfl, rfl⟩⟩, .inr ⟨rfl, rfl, rfl⟩⟩, by decide, rfl, trivial⟩ (LeE.upd rfl rfl (LeE.upd rfl rfl (LeE.upd rfl rfl (LeE.upd rfl rfl (LeE.upd rfl rfl (LeE.upd rfl rfl (LeE.none rfl rfl)))))))) ?_
     obtain ⟨x7237, H7257, H⟩ := bnd H
     refine WP.monoW (Q := fun x E M => x = .exit 4 ∧ E = (((((Env.none.upd 2 (.ptr 0 0)).upd 3 (.ptr 1 0)).upd 4 (.ptr 2 0)).upd 5 (.whole 3)).upd 6 (.lit (.int .i64 x7017))) ∧ M = ((((Mem.nil.push (.cells 51 [.lit (.bool x6705), .ro (Rd.slice (Rd.int .i64)) false x6706])).push (.cells 51 [.lit (.bool x6707), .ro (Rd.slice (Rd.int .i64)) false x6708])).push (.cells 51 [.lit (.bool false), .lit (.slice none 0 0)])).push (.row 3 (Rd.int .i64) x7237))) ?_ ?_
     · refine WP.loop (β := Int × (List Int)) (fun n b => g_quireref09_Times_l2 k n b.1 b.2 = some x7237) (fun b => ((((((Env.none.upd 2 (.ptr 0 0)).upd 3 (.ptr 1 0)).upd 4 (.ptr 2 0)).upd 5 (.whole 3)).upd 6 (.lit (.int .i64 x7017))).upd 8 (.lit (.int .i64 b.1)))) (fun b => ((((Mem.nil.push (.cells 51 [.lit (.bool x6705), .ro (Rd.slice (Rd.int .i64)) false x6706])).push (.cells 51 [.lit (.bool x6707), .ro (Rd.slice (Rd.int .i64)) false x6708])).push (.cells 51 [.lit (.bool false), .lit (.slice none 0 0)])).push (.row 3 (Rd.int .i64) b.2))) k (0, x7170) H7257 rfl rfl ?_
       rintro n ⟨x7215, x7216⟩ H
       obtain _ | n := n
       · exact nf rfl H
       rw [g_quireref09_Times_l2.eq_2] at H
       show WP _ _ _ _ ((((((Env.none.upd 2 (.ptr 0 0)).upd 3 (.ptr 1 0)).upd 4 (.ptr 2 0)).upd 5 (.whole 3)).upd 6 (.lit (.int .i64 x7017))).upd 8 (.lit (.int .i64 x7215))) ((((Mem.nil.push (.cells 51 [.lit (.bool x6705), .ro (Rd.slice (Rd.int .i64)) false x6706])).push (.cells 51 [.lit (.bool x6707), .ro (Rd.slice (Rd.int .i64)) false x6708])).push (.cells 51 [.lit (.bool false), .lit (.slice none 0 0)])).push (.row 3 (Rd.int .i64) x7216)) _
       refine WP.seq ?_
       refine WP.seq ?_
       refine WP.region ?_
       refine WPL.q (q_mv (v := .lit (.int _ _)) rfl) rfl ?_
       refine WPL.q (q_add rfl rfl) rfl ?_
       refine WPL.q (q_mv (v := .whole _) rfl) rfl ?_
       refine WPL.q (q_len_row sl49 rfl rfl) rfl ?_
       obtain ⟨x7240, h7240, H⟩ := bnd H
       refine WPL.q (q_nm (q_lss rfl rfl) (nm_bool h7240)) rfl ?_
       refine WPL.nilW ?_
       refine W.now ?_
       refine Then.n ?_
       refine WP.cond (t := x7240) rfl (fun hb7240 => ?_) (fun hb7240 => ?_)
       · replace H := cnt hb7240 H
         refine WP.skipW ?_
         refine W.now ?_
         refine Then.n ?_
         refine WP.seq ?_
         refine WP.block ?_
         refine WP.seq ?_
         refine WP.regionD' 16 [3] [15] mixed rfl ?_
         refine WPD.takeT 0 rfl (by kernel_rfl) (q_mv (v := .whole _) rfl) rfl ?_
         refine WPD.takeT 1 rfl (by kernel_rfl) (q_mv (v := .lit (.int _ _)) rfl) rfl ?_
         refine WPD.takeT 2 rfl (by kernel_rfl) (q_add rfl rfl) rfl ?_
         refine WPD.takeT 3 rfl (by kernel_rfl) (q_mv (v := .whole _) rfl) rfl ?_
         refine WPD.takeT 4 rfl (by kernel_rfl) (q_mv (v := .lit (.int _ _)) rfl) rfl ?_
         refine WPD.takeT 5 rfl (by kernel_rfl) (q_add rfl rfl) rfl ?_
         obtain ⟨x7252, h7252, H⟩ := bnd H
         refine WPD.takeT 6 rfl (by kernel_rfl) (q_index_row sl49 rfl rfl rfl (ixs h7252)) rfl ?_
         refine WPD.takeT 8 rfl (by kernel_rfl) (q_mv (v := .whole _) rfl) rfl ?_
         refine WPD.takeT 9 rfl (by kernel_rfl) (q_mv (v := .lit (.int _ _)) rfl) rfl ?_
         obtain ⟨x7253, h7253, H⟩ := bnd H
         refine WPD.takeT 10 rfl (by kernel_rfl) (q_index_row sl49 rfl rfl rfl (ixs h7253)) rfl ?_
         refine WPD.take 7 rfl (by kernel_rfl) (q_load_row (j := (Int.toNat (IntKind.wrap .i64 (x7215 + 1)))) sc3 rfl rfl (ixj h7252)) rfl rfl ?_
         refine WPD.take 11 rfl (by kernel_rfl) (q_load_row (j := (Int.toNat x7215)) sc3 rfl rfl (ixj h7253)) rfl rfl ?_
         refine WPD.takeT 12 rfl (by kernel_rfl) (q_quo rfl rfl rfl) rfl ?_
         obtain ⟨x7254, h7254, H⟩ := bnd H
         refine WPD.takeT 13 rfl (by kernel_rfl) (q_nm (q_add rfl rfl) (nm_int h7254)) rfl ?_
         obtain ⟨x7255, h7255, H⟩ := bnd H
         refine WPD.takeT 14 rfl (by kernel_rfl) (q_index_row sl49 rfl rfl rfl (ixs h7255)) rfl ?_
         refine WPD.effS 15 [] [] rfl (by kernel_rfl) (s_store_row (j := (Int.toNat (IntKind.wrap .i64 (x7215 + 1)))) (d := x7254) sz3 rfl rfl rfl rfl Joins.sc (ixl h7255)) rfl ?_
         refine WPD.doneW (by kernel_rfl) ?_
         refine W.now ?_
         refine Then.n ?_
         refine WP.region ?_
         refine WPL.q (q_mv (v := .whole _) rfl) rfl ?_
         refine WPL.q (q_mv (v := .lit (.int _ _)) rfl) rfl ?_
         refine WPL.q (q_mv (v := .whole _) rfl) rfl ?_
         refine WPL.q (q_mv (v := .lit (.int _ _)) rfl) rfl ?_
         obtain ⟨x7256, h7256, H⟩ := bnd H
         refine WPL.q (q_index_row sl49 rfl rfl rfl (ixs h7256)) rfl ?_
         refine WPL.q (q_load_row (j := (Int.toNat x7215)) sc3 rfl rfl (ixj h7256)) rfl ?_
         refine WPL.q (q_rem rfl rfl rfl) rfl ?_
         obtain ⟨x7257, h7257, H⟩ := bnd H
         refine WPL.q (q_index_row sl49 rfl rfl rfl (ixs h7257)) rfl ?_
         refine WPL.s (s_store_row (j := (Int.toNat x7215)) (d := (Int.tmod x7256 10)) sz3 rfl rfl rfl rfl Joins.sc (ixl h7257)) ?_
         refine WPL.nilW ?_
         refine W.now ?_
         refine InBlock.n ?_
         refine Then.n ?_
         refine WP.region ?_
         refine WPL.q (q_mv (v := .lit (.int _ _)) rfl) rfl ?_
         refine WPL.q (q_add rfl rfl) rfl ?_
         refine WPL.q (q_as (v := .lit (.int _ _)) rfl) rfl ?_
         refine WPL.nilW ?_
         exact W.wk [0, 1, 2, 3] hnp (Then.n ⟨n, ((IntKind.wrap .i64 (x7215 + 1)), (List.set (List.set x7216 (Int.toNat (IntKind.wrap .i64 (x7215 + 1))) x7254) (Int.toNat x7215) (Int.tmod x7256 10))), Nat.lt_succ_self n, H, rfl, rfl⟩) ⟨rfl, ⟨⟨⟨⟨trivial, .inr ⟨rfl, rfl, rfl⟩⟩, .inr ⟨rfl, rfl, rfl⟩⟩, .inr ⟨rfl, rfl, rfl⟩⟩, .inr ⟨rfl, rfl, rfl⟩⟩, by decide, rfl, trivial⟩ (LeE.upd rfl rfl (LeE.upd rfl rfl (LeE.upd rfl rfl (LeE.upd rfl rfl (LeE.upd rfl rfl (LeE.upd rfl rfl (LeE.none rfl rfl))))))) rfl
       replace H := cnf hb7240 H
       refine WP.exitW ?_
       have q0 := (Option.some.inj H)
       subst q0
       exact W.wk [0, 1, 2, 3] hnp (Then.x (Then.x ⟨rfl, rfl, rfl⟩)) ⟨rfl, ⟨⟨⟨⟨trivial, .inr ⟨rfl, rfl, rfl⟩⟩, .inr ⟨rfl, rfl, rfl⟩⟩, .inr ⟨rfl, rfl, rfl⟩⟩, .inr ⟨rfl, rfl, rfl⟩⟩, by decide, rfl, trivial⟩ (LeE.upd rfl rfl (LeE.upd rfl rfl (LeE.upd rfl rfl (LeE.upd rfl rfl (LeE.upd rfl rfl (LeE.none rfl rfl)))))) rfl
     rintro _ _ _ ⟨rfl, rfl, rfl⟩
     refine W.now ?_
     refine InBlock.x0 ?_
     refine InBlock.n ?_
     refine Then.n ?_
     refine WP.region ?_
     refine WPL.q (q_mv (v := .lit (.int _ _)) rfl) rfl ?_
     refine WPL.q (q_add rfl rfl) rfl ?_
     refine WPL.q (q_as (v := .lit (.int _ _)) rfl) rfl ?_
     refine WPL.nilW ?_
     exact W.wk [0, 1, 2, 3] hnp (Then.n ⟨n, ((IntKind.wrap .i64 (x7017 + 1)), x7237), Nat.lt_succ_self n, H, rfl, rfl⟩) ⟨rfl, ⟨⟨⟨⟨trivial, .inr ⟨rfl, rfl, rfl⟩⟩, .inr ⟨rfl, rfl, rfl⟩⟩, .inr ⟨rfl, rfl, rfl⟩⟩, .inr ⟨rfl, rfl, rfl⟩⟩, by decide, rfl, trivial⟩ (LeE.upd rfl rfl (LeE.upd rfl rfl (LeE.upd rfl rfl (LeE.upd rfl rfl (LeE.upd rfl rfl (LeE.none rfl rfl)))))) rfl
   replace H := cnf hb7120 H
   refine WP.exitW ?_
   have q0 := (Option.some.inj H)
   subst q0
   exact W.wk [0, 1, 2, 3] hnp (Then.x (Then.x ⟨rfl, rfl, rfl⟩)) ⟨rfl, ⟨⟨⟨⟨trivial, .inr ⟨rfl, rfl, rfl⟩⟩, .inr ⟨rfl, rfl, rfl⟩⟩, .inr ⟨rfl, rfl, rfl⟩⟩, .inr ⟨rfl, rfl, rfl⟩⟩, by decide, rfl, trivial⟩ (LeE.upd rfl rfl (LeE.upd rfl rfl (LeE.upd rfl rfl (LeE.upd rfl rfl (LeE.none rfl rfl))))) rfl
 rintro _ _ _ ⟨rfl, rfl, rfl⟩
 refine W.now ?_
 refine InBlock.x0 ?_
 refine Then.n ?_
 refine WP.seq ?_
 refine WP.region ?_
 refine WPL.q (q_fieldAddr fi51_0 rfl rfl) rfl ?_
 refine WPL.q (q_load sc4 rfl rfl rfl) rfl ?_
 refine WPL.q (q_fieldAddr fi51_0 rfl rfl) rfl ?_
 refine WPL.q (q_load sc4 rfl rfl rfl) rfl ?_
 refine WPL.q (q_neqb Try.underlying4 rfl rfl) rfl ?_
 refine WPL.q (q_mv (v := .whole _) rfl) rfl ?_
 refine WPL.q (q_build bu51 rfl) rfl ?_
 obtain ⟨⟨x7261, x7262⟩, h7259, H⟩ := bnd H
 refine WPL.c (runs_call (s := [3]) (t := [4]) (N := 5) (bor := []) fn36 rfl (s_quireref09_trim k (!(x6705 == x6707)) x7117 x7261 x7262 h7259) ⟨rfl, ⟨trivial, .inr ⟨rfl, rfl, rfl⟩⟩, by decide, rfl, trivial⟩ rfl trivial (.ren rfl rfl .nil) rfl ⟨trivial, rfl⟩ rfl) rfl ?_
 refine WPL.s (s_store sz51 rfl rfl rfl rfl rfl) ?_
 refine WPL.nilW ?_
 refine W.now ?_
 refine Then.n ?_
 refine WP.retW ?_
 have q0 := (Prod.mk.inj (Option.some.inj H)).1
 have q1 := (Prod.mk.inj (Option.some.inj H)).2
 subst q0
 subst q1
 exact W.now (BodyR.mkR trivial rfl [2] ⟨rfl, rfl⟩ ⟨rfl, ⟨trivial, .inr ⟨rfl, rfl, rfl⟩⟩, by decide, rfl, trivial⟩ rfl rfl)
end Go.Proofs.Ytdbeblgfccjbgaa.W
