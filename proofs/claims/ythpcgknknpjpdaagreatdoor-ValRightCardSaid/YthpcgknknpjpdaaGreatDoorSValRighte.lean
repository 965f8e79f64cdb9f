/- Texts joined: part 5 of what LValRight stands on. -/
import Derived.Test.YthpcgknknpjpdaaGreatDoorSValRightd
namespace Go.Proofs.YthpcgknknpjpdaaGreatDoor.W
open Go Go.Q Go.Proofs
set_option linter.unusedVariables false
set_option linter.unusedSimpArgs false
set_option maxRecDepth 100000
set_option maxHeartbeats 4000000
theorem s_dec_even (k : Nat) (x1 : Int) (x2 : Int) (x3 : Int) (x4 : Int) (x5 : Bool) (x6 : Int) (x7 : Int) (x8 : Int) (x9 : Int) (x10 : Int) (x11 : Int) (H : g_dec_even k x1 x2 x3 x4 = some (x5, x6, x7, x8, x9, x10, x11)) : Go.Q.Spec Tryz.prog 103 0 [.agg [.lit (.int .i64 x1), .lit (.int .i64 x2)], .agg [.lit (.int .i64 x3), .lit (.int .i64 x4)]] Mem.nil (fun o M => o = .ret (.tup [.agg [.lit (.bool (decide (x1 < 0))), .lit (.int .u64 x6), .lit (.int .u64 x7), .lit (.int .i64 x8)], .agg [.lit (.bool (decide (x3 < 0))), .lit (.int .u64 x9), .lit (.int .u64 x10), .lit (.int .i64 x11)], .lit (.bool x5)]) ∧ M = ((Mem.nil.push (.cells 71 [.lit (.bool (decide (x1 < 0))), .lit (.int .u64 x6), .lit (.int .u64 x7), .lit (.int .i64 x8)])).push (.cells 71 [.lit (.bool (decide (x3 < 0))), .lit (.int .u64 x9), .lit (.int .u64 x10), .lit (.int .i64 x11)]))) := by
 unfold g_dec_even at H
 refine Go.Q.Spec.of_bodyR (az := [(71, 4)]) (rs := [.cell 4 71, .cell 5 71, .tmp 6]) (nt := 73) Tryz.func103 rfl rfl (by intro t T h; simp at h; rcases h with ⟨rfl, rfl⟩ | ⟨rfl, rfl⟩ <;> first | exact ag71 | exact ag71) rfl rfl fun cx hnp => ?_
 refine WP.sr ?_
 refine WPL.d (d_box rfl rfl) rfl ?_
 refine WPL.d (d_box rfl rfl) rfl ?_
 refine WPL.d (d_alloc ze71 rfl) rfl ?_
 refine WPL.d (d_alloc ze71 rfl) rfl ?_
 refine WPL.qq (q_as (v := .lit (.bool _)) rfl) ?_
 refine WPL.nx ?_
 refine WP.seq ?_
 obtain ⟨⟨x12, x13⟩, H1, H⟩ := bnd H
 refine WP.monoW (Q := fun x E M => x = .normal ∧ E = ((((Env.none.upd 4 (.ptr 0 0)).upd 5 (.ptr 1 0)).upd 7 (.ptr 2 0)).upd 8 (.ptr 3 0)) ∧ M = ((((Mem.nil.push (.cells 71 [.lit (.bool false), .lit (.int .u64 0), .lit (.int .u64 0), .lit (.int .i64 0)])).push (.cells 71 [.lit (.bool false), .lit (.int .u64 0), .lit (.int .u64 0), .lit (.int .i64 0)])).push (.cells 71 [.lit (.bool (decide (x1 < 0))), .lit (.int .u64 0), .lit (.int .u64 x12), .lit (.int .i64 x2)])).push (.cells 71 [.lit (.bool (decide (x3 < 0))), .lit (.int .u64 0), .lit (.int .u64 x13), .lit (.int .i64 x4)]))) ?_ ?_
 · clear H
   have H := H1
   clear H1
   refine WP.regionD' 8 [0, 1] [] mixed rfl ?_
   refine WPD.take 0 rfl (by kernel_rfl) (q_load_ag ag23 rfl rfl (Nat.le_of_ble_eq_true rfl)) rfl rfl ?_
   refine WPD.take 2 rfl (by kernel_rfl) (q_load_ag ag23 rfl rfl (Nat.le_of_ble_eq_true rfl)) rfl rfl ?_
   refine WPD.of3 1 4 5 (by kernel_rfl) ?_ ?_ ?_
   · obtain ⟨x14, h1, H⟩ := bnd H
     refine WPD1.eff 1 [0, 1] [] rfl (runs_call (s := []) (t := [4]) (N := 5) (bor := []) fn81 rfl (s_dec_of k x1 x2 x14 h1) ⟨rfl, trivial, by decide, rfl, trivial⟩ rfl trivial (.ren rfl rfl .nil) rfl BB1 rfl) rfl rfl ?_
     refine WPD.of3 3 4 5 (by kernel_rfl) ?_ ?_ ?_
     · obtain ⟨x15, h2, H⟩ := bnd H
       refine WPD1.eff 3 [0, 1] [] rfl (runs_call (s := []) (t := [5]) (N := 6) (bor := []) fn81 rfl (s_dec_of k x3 x4 x15 h2) ⟨rfl, trivial, by decide, rfl, trivial⟩ rfl trivial (.ren rfl rfl .nil) rfl BB1 rfl) rfl rfl ?_
       refine WPD.of2 4 5 (by kernel_rfl) ?_ ?_
       · refine WPD1.eff 4 [0, 1] [] rfl (Does.runs (d_alloc ze71 rfl)) rfl rfl ?_
         refine WPD.ef 5 [0, 1] [] rfl (Does.runs (d_alloc ze71 rfl)) ?_
         refine WPD.effS 6 [0, 1] [] rfl (by kernel_rfl) (s_store sz71 rfl rfl rfl rfl rfl) rfl ?_
         refine WPD.effS 7 [0, 1] [] rfl (by kernel_rfl) (s_store sz71 rfl rfl rfl rfl rfl) rfl ?_
         refine WPD.doneW (by kernel_rfl) ?_
         obtain ⟨rfl, rfl⟩ := j2 H
         exact W.wk [2, 3, 6, 7] hnp r3 ⟨rfl, AA4, by decide, rfl, trivial⟩ (LeE.u (LeE.u (LeE.u (LeE.u (LeE.none rfl rfl))))) rfl
       refine WPD1.eff 5 [0, 1] [] rfl (Does.runs (d_alloc ze71 rfl)) rfl rfl ?_
       refine WPD.ef 4 [0, 1] [] rfl (Does.runs (d_alloc ze71 rfl)) ?_
       refine WPD.effS 6 [0, 1] [] rfl (by kernel_rfl) (s_store sz71 rfl rfl rfl rfl rfl) rfl ?_
       refine WPD.effS 7 [0, 1] [] rfl (by kernel_rfl) (s_store sz71 rfl rfl rfl rfl rfl) rfl ?_
       refine WPD.doneW (by kernel_rfl) ?_
       obtain ⟨rfl, rfl⟩ := j2 H
       exact W.wk [2, 3, 7, 6] hnp r3 ⟨rfl, AA4, by decide, rfl, trivial⟩ (LeE.u (LeE.u (LeE.u (LeE.u (LeE.none rfl rfl))))) rfl
     · refine WPD1.eff 4 [0, 1] [] rfl (Does.runs (d_alloc ze71 rfl)) rfl rfl ?_
       refine WPD.of2 3 5 (by kernel_rfl) ?_ ?_
       · obtain ⟨x16, h3, H⟩ := bnd H
         refine WPD1.eff 3 [0, 1] [] rfl (runs_call (s := []) (t := [6]) (N := 7) (bor := []) fn81 rfl (s_dec_of k x3 x4 x16 h3) ⟨rfl, trivial, by decide, rfl, trivial⟩ rfl trivial (.ren rfl rfl .nil) rfl BB1 rfl) rfl rfl ?_
         refine WPD.ef 5 [0, 1] [] rfl (Does.runs (d_alloc ze71 rfl)) ?_
         refine WPD.effS 6 [0, 1] [] rfl (by kernel_rfl) (s_store sz71 rfl rfl rfl rfl rfl) rfl ?_
         refine WPD.effS 7 [0, 1] [] rfl (by kernel_rfl) (s_store sz71 rfl rfl rfl rfl rfl) rfl ?_
         refine WPD.doneW (by kernel_rfl) ?_
         obtain ⟨rfl, rfl⟩ := j2 H
         exact W.wk [2, 3, 5, 7] hnp r3 ⟨rfl, AA4, by decide, rfl, trivial⟩ (LeE.u (LeE.u (LeE.u (LeE.u (LeE.none rfl rfl))))) rfl
       refine WPD1.eff 5 [0, 1] [] rfl (Does.runs (d_alloc ze71 rfl)) rfl rfl ?_
       obtain ⟨x17, h4, H⟩ := bnd H
       refine WPD.ef 3 [0, 1] [] rfl (runs_call (s := []) (t := [7]) (N := 8) (bor := []) fn81 rfl (s_dec_of k x3 x4 x17 h4) ⟨rfl, trivial, by decide, rfl, trivial⟩ rfl trivial (.ren rfl rfl .nil) rfl BB1 rfl) ?_
       refine WPD.effS 6 [0, 1] [] rfl (by kernel_rfl) (s_store sz71 rfl rfl rfl rfl rfl) rfl ?_
       refine WPD.effS 7 [0, 1] [] rfl (by kernel_rfl) (s_store sz71 rfl rfl rfl rfl rfl) rfl ?_
       refine WPD.doneW (by kernel_rfl) ?_
       obtain ⟨rfl, rfl⟩ := j2 H
       exact W.wk [2, 3, 5, 6] hnp r3 ⟨rfl, AA4, by decide, rfl, trivial⟩ (LeE.u (LeE.u (LeE.u (LeE.u (LeE.none rfl rfl))))) rfl
     refine WPD1.eff 5 [0, 1] [] rfl (Does.runs (d_alloc ze71 rfl)) rfl rfl ?_
     refine WPD.of2 3 4 (by kernel_rfl) ?_ ?_
     · obtain ⟨x18, h5, H⟩ := bnd H
       refine WPD1.eff 3 [0, 1] [] rfl (runs_call (s := []) (t := [6]) (N := 7) (bor := []) fn81 rfl (s_dec_of k x3 x4 x18 h5) ⟨rfl, trivial, by decide, rfl, trivial⟩ rfl trivial (.ren rfl rfl .nil) rfl BB1 rfl) rfl rfl ?_
       refine WPD.ef 4 [0, 1] [] rfl (Does.runs (d_alloc ze71 rfl)) ?_
       refine WPD.effS 6 [0, 1] [] rfl (by kernel_rfl) (s_store sz71 rfl rfl rfl rfl rfl) rfl ?_
       refine WPD.effS 7 [0, 1] [] rfl (by kernel_rfl) (s_store sz71 rfl rfl rfl rfl rfl) rfl ?_
       refine WPD.doneW (by kernel_rfl) ?_
       obtain ⟨rfl, rfl⟩ := j2 H
       exact W.wk [2, 3, 7, 5] hnp r3 ⟨rfl, AA4, by decide, rfl, trivial⟩ (LeE.u (LeE.u (LeE.u (LeE.u (LeE.none rfl rfl))))) rfl
     refine WPD1.eff 4 [0, 1] [] rfl (Does.runs (d_alloc ze71 rfl)) rfl rfl ?_
     obtain ⟨x19, h6, H⟩ := bnd H
     refine WPD.ef 3 [0, 1] [] rfl (runs_call (s := []) (t := [7]) (N := 8) (bor := []) fn81 rfl (s_dec_of k x3 x4 x19 h6) ⟨rfl, trivial, by decide, rfl, trivial⟩ rfl trivial (.ren rfl rfl .nil) rfl BB1 rfl) ?_
     refine WPD.effS 6 [0, 1] [] rfl (by kernel_rfl) (s_store sz71 rfl rfl rfl rfl rfl) rfl ?_
     refine WPD.effS 7 [0, 1] [] rfl (by kernel_rfl) (s_store sz71 rfl rfl rfl rfl rfl) rfl ?_
     refine WPD.doneW (by kernel_rfl) ?_
     obtain ⟨rfl, rfl⟩ := j2 H
     exact W.wk [2, 3, 6, 5] hnp r3 ⟨rfl, AA4, by decide, rfl, trivial⟩ (LeE.u (LeE.u (LeE.u (LeE.u (LeE.none rfl rfl))))) rfl
   · refine WPD1.eff 4 [0, 1] [] rfl (Does.runs (d_alloc ze71 rfl)) rfl rfl ?_
     refine WPD.of2 1 5 (by kernel_rfl) ?_ ?_
     · obtain ⟨x20, h7, H⟩ := bnd H
       refine WPD1.eff 1 [0, 1] [] rfl (runs_call (s := []) (t := [5]) (N := 6) (bor := []) fn81 rfl (s_dec_of k x1 x2 x20 h7) ⟨rfl, trivial, by decide, rfl, trivial⟩ rfl trivial (.ren rfl rfl .nil) rfl BB1 rfl) rfl rfl ?_
       refine WPD.of2 3 5 (by kernel_rfl) ?_ ?_
       · obtain ⟨x21, h8, H⟩ := bnd H
         refine WPD1.eff 3 [0, 1] [] rfl (runs_call (s := []) (t := [6]) (N := 7) (bor := []) fn81 rfl (s_dec_of k x3 x4 x21 h8) ⟨rfl, trivial, by decide, rfl, trivial⟩ rfl trivial (.ren rfl rfl .nil) rfl BB1 rfl) rfl rfl ?_
         refine WPD.ef 5 [0, 1] [] rfl (Does.runs (d_alloc ze71 rfl)) ?_
         refine WPD.effS 6 [0, 1] [] rfl (by kernel_rfl) (s_store sz71 rfl rfl rfl rfl rfl) rfl ?_
         refine WPD.effS 7 [0, 1] [] rfl (by kernel_rfl) (s_store sz71 rfl rfl rfl rfl rfl) rfl ?_
         refine WPD.doneW (by kernel_rfl) ?_
         obtain ⟨rfl, rfl⟩ := j2 H
         exact W.wk [2, 3, 4, 7] hnp r3 ⟨rfl, AA4, by decide, rfl, trivial⟩ (LeE.u (LeE.u (LeE.u (LeE.u (LeE.none rfl rfl))))) rfl
       refine WPD1.eff 5 [0, 1] [] rfl (Does.runs (d_alloc ze71 rfl)) rfl rfl ?_
       obtain ⟨x22, h9, H⟩ := bnd H
       refine WPD.ef 3 [0, 1] [] rfl (runs_call (s := []) (t := [7]) (N := 8) (bor := []) fn81 rfl (s_dec_of k x3 x4 x22 h9) ⟨rfl, trivial, by decide, rfl, trivial⟩ rfl trivial (.ren rfl rfl .nil) rfl BB1 rfl) ?_
       refine WPD.effS 6 [0, 1] [] rfl (by kernel_rfl) (s_store sz71 rfl rfl rfl rfl rfl) rfl ?_
       refine WPD.effS 7 [0, 1] [] rfl (by kernel_rfl) (s_store sz71 rfl rfl rfl rfl rfl) rfl ?_
       refine WPD.doneW (by kernel_rfl) ?_
       obtain ⟨rfl, rfl⟩ := j2 H
       exact W.wk [2, 3, 4, 6] hnp r3 ⟨rfl, AA4, by decide, rfl, trivial⟩ (LeE.u (LeE.u (LeE.u (LeE.u (LeE.none rfl rfl))))) rfl
     refine WPD1.eff 5 [0, 1] [] rfl (Does.runs (d_alloc ze71 rfl)) rfl rfl ?_
     obtain ⟨x23, h10, H⟩ := bnd H
     refine WPD.ef 1 [0, 1] [] rfl (runs_call (s := []) (t := [6]) (N := 7) (bor := []) fn81 rfl (s_dec_of k x1 x2 x23 h10) ⟨rfl, trivial, by decide, rfl, trivial⟩ rfl trivial (.ren rfl rfl .nil) rfl BB1 rfl) ?_
     obtain ⟨x24, h11, H⟩ := bnd H
     refine WPD.ef 3 [0, 1] [] rfl (runs_call (s := []) (t := [7]) (N := 8) (bor := []) fn81 rfl (s_dec_of k x3 x4 x24 h11) ⟨rfl, trivial, by decide, rfl, trivial⟩ rfl trivial (.ren rfl rfl .nil) rfl BB1 rfl) ?_
     refine WPD.effS 6 [0, 1] [] rfl (by kernel_rfl) (s_store sz71 rfl rfl rfl rfl rfl) rfl ?_
     refine WPD.effS 7 [0, 1] [] rfl (by kernel_rfl) (s_store sz71 rfl rfl rfl rfl rfl) rfl ?_
     refine WPD.doneW (by kernel_rfl) ?_
     obtain ⟨rfl, rfl⟩ := j2 H
     exact W.wk [2, 3, 4, 5] hnp r3 ⟨rfl, AA4, by decide, rfl, trivial⟩ (LeE.u (LeE.u (LeE.u (LeE.u (LeE.none rfl rfl))))) rfl
   refine WPD1.eff 5 [0, 1] [] rfl (Does.runs (d_alloc ze71 rfl)) rfl rfl ?_
   refine WPD.of2 1 4 (by kernel_rfl) ?_ ?_
   · obtain ⟨x25, h12, H⟩ := bnd H
     refine WPD1.eff 1 [0, 1] [] rfl (runs_call (s := []) (t := [5]) (N := 6) (bor := []) fn81 rfl (s_dec_of k x1 x2 x25 h12) ⟨rfl, trivial, by decide, rfl, trivial⟩ rfl trivial (.ren rfl rfl .nil) rfl BB1 rfl) rfl rfl ?_
     refine WPD.of2 3 4 (by kernel_rfl) ?_ ?_
     · obtain ⟨x26, h13, H⟩ := bnd H
       refine WPD1.eff 3 [0, 1] [] rfl (runs_call (s := []) (t := [6]) (N := 7) (bor := []) fn81 rfl (s_dec_of k x3 x4 x26 h13) ⟨rfl, trivial, by decide, rfl, trivial⟩ rfl trivial (.ren rfl rfl .nil) rfl BB1 rfl) rfl rfl ?_
       refine WPD.ef 4 [0, 1] [] rfl (Does.runs (d_alloc ze71 rfl)) ?_
       refine WPD.effS 6 [0, 1] [] rfl (by kernel_rfl) (s_store sz71 rfl rfl rfl rfl rfl) rfl ?_
       refine WPD.effS 7 [0, 1] [] rfl (by kernel_rfl) (s_store sz71 rfl rfl rfl rfl rfl) rfl ?_
       refine WPD.doneW (by kernel_rfl) ?_
       obtain ⟨rfl, rfl⟩ := j2 H
       exact W.wk [2, 3, 7, 4] hnp r3 ⟨rfl, AA4, by decide, rfl, trivial⟩ (LeE.u (LeE.u (LeE.u (LeE.u (LeE.none rfl rfl))))) rfl
     refine WPD1.eff 4 [0, 1] [] rfl (Does.runs (d_alloc ze71 rfl)) rfl rfl ?_
     obtain ⟨x27, h14, H⟩ := bnd H
     refine WPD.ef 3 [0, 1] [] rfl (runs_call (s := []) (t := [7]) (N := 8) (bor := []) fn81 rfl (s_dec_of k x3 x4 x27 h14) ⟨rfl, trivial, by decide, rfl, trivial⟩ rfl trivial (.ren rfl rfl .nil) rfl BB1 rfl) ?_
     refine WPD.effS 6 [0, 1] [] rfl (by kernel_rfl) (s_store sz71 rfl rfl rfl rfl rfl) rfl ?_
     refine WPD.effS 7 [0, 1] [] rfl (by kernel_rfl) (s_store sz71 rfl rfl rfl rfl rfl) rfl ?_
     refine WPD.doneW (by kernel_rfl) ?_
     obtain ⟨rfl, rfl⟩ := j2 H
     exact W.wk [2, 3, 6, 4] hnp r3 ⟨rfl, AA4, by decide, rfl, trivial⟩ (LeE.u (LeE.u (LeE.u (LeE.u (LeE.none rfl rfl))))) rfl
   refine WPD1.eff 4 [0, 1] [] rfl (Does.runs (d_alloc ze71 rfl)) rfl rfl ?_
   obtain ⟨x28, h15, H⟩ := bnd H
   refine WPD.ef 1 [0, 1] [] rfl (runs_call (s := []) (t := [6]) (N := 7) (bor := []) fn81 rfl (s_dec_of k x1 x2 x28 h15) ⟨rfl, trivial, by decide, rfl, trivial⟩ rfl trivial (.ren rfl rfl .nil) rfl BB1 rfl) ?_
   obtain ⟨x29, h16, H⟩ := bnd H
   refine WPD.ef 3 [0, 1] [] rfl (runs_call (s := []) (t := [7]) (N := 8) (bor := []) fn81 rfl (s_dec_of k x3 x4 x29 h16) ⟨rfl, trivial, by decide, rfl, trivial⟩ rfl trivial (.ren rfl rfl .nil) rfl BB1 rfl) ?_
   refine WPD.effS 6 [0, 1] [] rfl (by kernel_rfl) (s_store sz71 rfl rfl rfl rfl rfl) rfl ?_
   refine WPD.effS 7 [0, 1] [] rfl (by kernel_rfl) (s_store sz71 rfl rfl rfl rfl rfl) rfl ?_
   refine WPD.doneW (by kernel_rfl) ?_
   obtain ⟨rfl, rfl⟩ := j2 H
   exact W.wk [2, 3, 5, 4] hnp r3 ⟨rfl, AA4, by decide, rfl, trivial⟩ (LeE.u (LeE.u (LeE.u (LeE.u (LeE.none rfl rfl))))) rfl
 rintro _ _ _ ⟨rfl, rfl, rfl⟩
 refine W.now ?_
 refine Then.n ?_
 refine WP.sr ?_
 refine WPL.qq (q_as (v := .lit (.bool _)) rfl) ?_
 refine WPL.nx ?_
 refine WP.seq ?_
 obtain ⟨⟨x30, x31, x32, x33, x34, x35, x36⟩, H2, H⟩ := bnd H
 refine WP.monoW (Q := fun x E M => x = .normal ∧ E = (((((Env.none.upd 4 (.ptr 0 0)).upd 5 (.ptr 1 0)).upd 7 (.ptr 2 0)).upd 8 (.ptr 3 0)).upd 9 (.lit (.bool x30))) ∧ M = ((((Mem.nil.push (.cells 71 [.lit (.bool false), .lit (.int .u64 0), .lit (.int .u64 0), .lit (.int .i64 0)])).push (.cells 71 [.lit (.bool false), .lit (.int .u64 0), .lit (.int .u64 0), .lit (.int .i64 0)])).push (.cells 71 [.lit (.bool (decide (x1 < 0))), .lit (.int .u64 x31), .lit (.int .u64 x32), .lit (.int .i64 x33)])).push (.cells 71 [.lit (.bool (decide (x3 < 0))), .lit (.int .u64 x34), .lit (.int .u64 x35), .lit (.int .i64 x36)]))) ?_ ?_
 · clear H
   have H := H2
   clear H2
   refine WP.block ?_
   refine WP.sr ?_
   refine WPL.qq (q_fieldAddr fi71_1 rfl rfl) ?_
   refine WPL.qq (q_load_ag ag69 rfl rfl (Nat.le_of_ble_eq_true rfl)) ?_
   obtain ⟨_, h17, H⟩ := bnd H
   refine WPL.c (runs_call (s := []) (t := []) (N := 4) (bor := []) fn131 rfl (s_dec_wide_zero k 0 x12 h17) ⟨rfl, trivial, by decide, rfl, trivial⟩ rfl trivial (.ren rfl rfl .nil) rfl trivial rfl) rfl ?_
   refine WPL.qq (q_as (v := .lit (.bool _)) rfl) ?_
   refine WPL.nx ?_
   refine WP.cond (t := (decide ((bits .or .u64 0 x12) = 0))) rfl (fun hb1 => ?_) (fun hb1 => ?_)
   · replace H := cnt hb1 H
     refine WP.region ?_
     refine WPL.qq (q_fieldAddr fi71_2 rfl rfl) ?_
     refine WPL.qq (q_load sc3 rfl rfl rfl) ?_
     refine WPL.qq (q_fieldAddr fi71_2 rfl rfl) ?_
     refine WPL.s (s_store sz3 rfl rfl rfl rfl rfl) ?_
     refine WPL.nilW ?_
     obtain ⟨rfl, rfl, rfl, rfl, rfl, rfl, rfl⟩ := j7 H
     exact W.wk [0, 1, 2, 3] hnp (InBlock.n r3) ⟨rfl, AA4, by decide, rfl, trivial⟩ (LeE.u (LeE.u (LeE.u (LeE.u (LeE.u (LeE.none rfl rfl)))))) rfl
   replace H := cnf hb1 H
   refine WP.sr ?_
   refine WPL.qq (q_fieldAddr fi71_1 rfl rfl) ?_
   refine WPL.qq (q_load_ag ag69 rfl rfl (Nat.le_of_ble_eq_true rfl)) ?_
   obtain ⟨_, h18, H⟩ := bnd H
   refine WPL.c (runs_call (s := []) (t := []) (N := 4) (bor := []) fn131 rfl (s_dec_wide_zero k 0 x13 h18) ⟨rfl, trivial, by decide, rfl, trivial⟩ rfl trivial (.ren rfl rfl .nil) rfl trivial rfl) rfl ?_
   refine WPL.qq (q_as (v := .lit (.bool _)) rfl) ?_
   refine WPL.nx ?_
   refine WP.cond (t := (decide ((bits .or .u64 0 x13) = 0))) rfl (fun hb2 => ?_) (fun hb2 => ?_)
   · replace H := cnt hb2 H
     refine WP.region ?_
     refine WPL.qq (q_fieldAddr fi71_2 rfl rfl) ?_
     refine WPL.qq (q_load sc3 rfl rfl rfl) ?_
     refine WPL.qq (q_fieldAddr fi71_2 rfl rfl) ?_
     refine WPL.s (s_store sz3 rfl rfl rfl rfl rfl) ?_
     refine WPL.nilW ?_
     obtain ⟨rfl, rfl, rfl, rfl, rfl, rfl, rfl⟩ := j7 H
     exact W.wk [0, 1, 2, 3] hnp (InBlock.n r3) ⟨rfl, AA4, by decide, rfl, trivial⟩ (LeE.u (LeE.u (LeE.u (LeE.u (LeE.u (LeE.none rfl rfl)))))) rfl
   replace H := cnf hb2 H
   refine WP.sr ?_
   refine WPL.qq (q_fieldAddr fi71_2 rfl rfl) ?_
   refine WPL.qq (q_load sc3 rfl rfl rfl) ?_
   refine WPL.qq (q_fieldAddr fi71_2 rfl rfl) ?_
   refine WPL.qq (q_load sc3 rfl rfl rfl) ?_
   refine WPL.qq (q_gtr rfl rfl) ?_
   refine WPL.qq (q_as (v := .lit (.bool _)) rfl) ?_
   refine WPL.nx ?_
   refine WP.cond (t := (decide (x4 < x2))) rfl (fun hb3 => ?_) (fun hb3 => ?_)
   · replace H := cnt hb3 H
     refine WP.sr ?_
     refine WPL.qq (q_fieldAddr fi71_1 rfl rfl) ?_
     refine WPL.qq (q_load_ag ag69 rfl rfl (Nat.le_of_ble_eq_true rfl)) ?_
     refine WPL.qq (q_fieldAddr fi71_2 rfl rfl) ?_
     refine WPL.qq (q_load sc3 rfl rfl rfl) ?_
     refine WPL.qq (q_fieldAddr fi71_2 rfl rfl) ?_
     refine WPL.qq (q_load sc3 rfl rfl rfl) ?_
     refine WPL.qq (q_sub rfl rfl) ?_
     obtain ⟨⟨x37, x38, x39⟩, h19, H⟩ := bnd H
     refine WPL.c (runs_call (s := []) (t := [4]) (N := 5) (bor := []) fn133 rfl (s_dec_wide_tens k 0 x12 (IntKind.wrap .i64 (x2 - x4)) x37 x38 x39 h19) ⟨rfl, trivial, by decide, rfl, trivial⟩ rfl trivial (.ren rfl rfl (.ren rfl rfl .nil)) rfl BB1 rfl) rfl ?_
     refine WPL.qq (q_mv (v := .tup _) rfl) ?_
     refine WPL.qq (q_extract rfl rfl) ?_
     refine WPL.qq (q_extract rfl rfl) ?_
     refine WPL.qq (q_fieldAddr fi71_1 rfl rfl) ?_
     refine WPL.s (s_store sz69 rfl rfl rfl rfl rfl) ?_
     refine WPL.qq (q_as (v := .lit (.bool _)) rfl) ?_
     refine WPL.nx ?_
     refine WP.region ?_
     refine WPL.qq (q_fieldAddr fi71_2 rfl rfl) ?_
     refine WPL.qq (q_load sc3 rfl rfl rfl) ?_
     refine WPL.qq (q_fieldAddr fi71_2 rfl rfl) ?_
     refine WPL.s (s_store sz3 rfl rfl rfl rfl rfl) ?_
     refine WPL.nilW ?_
     obtain ⟨rfl, rfl, rfl, rfl, rfl, rfl, rfl⟩ := j7 H
     exact W.wk [0, 1, 2, 3] hnp (InBlock.n r3) ⟨rfl, AA4, by decide, rfl, trivial⟩ (LeE.u (LeE.u (LeE.u (LeE.u (LeE.u (LeE.none rfl rfl)))))) rfl
   replace H := cnf hb3 H
   refine WP.sr ?_
   refine WPL.qq (q_fieldAddr fi71_2 rfl rfl) ?_
   refine WPL.qq (q_load sc3 rfl rfl rfl) ?_
   refine WPL.qq (q_fieldAddr fi71_2 rfl rfl) ?_
   refine WPL.qq (q_load sc3 rfl rfl rfl) ?_
   refine WPL.qq (q_gtr rfl rfl) ?_
   refine WPL.qq (q_as (v := .lit (.bool _)) rfl) ?_
   refine WPL.nx ?_
   refine WP.cond (t := (decide (x2 < x4))) rfl (fun hb4 => ?_) (fun hb4 => ?_)
   · replace H := cnt hb4 H
     refine WP.sr ?_
     refine WPL.qq (q_fieldAddr fi71_1 rfl rfl) ?_
     refine WPL.qq (q_load_ag ag69 rfl rfl (Nat.le_of_ble_eq_true rfl)) ?_
     refine WPL.qq (q_fieldAddr fi71_2 rfl rfl) ?_
     refine WPL.qq (q_load sc3 rfl rfl rfl) ?_
     refine WPL.qq (q_fieldAddr fi71_2 rfl rfl) ?_
     refine WPL.qq (q_load sc3 rfl rfl rfl) ?_
     refine WPL.qq (q_sub rfl rfl) ?_
     obtain ⟨⟨x40, x41, x42⟩, h20, H⟩ := bnd H
     refine WPL.c (runs_call (s := []) (t := [4]) (N := 5) (bor := []) fn133 rfl (s_dec_wide_tens k 0 x13 (IntKind.wrap .i64 (x4 - x2)) x40 x41 x42 h20) ⟨rfl, trivial, by decide, rfl, trivial⟩ rfl trivial (.ren rfl rfl (.ren rfl rfl .nil)) rfl BB1 rfl) rfl ?_
     refine WPL.qq (q_mv (v := .tup _) rfl) ?_
     refine WPL.qq (q_extract rfl rfl) ?_
     refine WPL.qq (q_extract rfl rfl) ?_
     refine WPL.qq (q_fieldAddr fi71_1 rfl rfl) ?_
     refine WPL.s (s_store sz69 rfl rfl rfl rfl rfl) ?_
     refine WPL.qq (q_as (v := .lit (.bool _)) rfl) ?_
     refine WPL.nx ?_
     refine WP.region ?_
     refine WPL.qq (q_fieldAddr fi71_2 rfl rfl) ?_
     refine WPL.qq (q_load sc3 rfl rfl rfl) ?_
     refine WPL.qq (q_fieldAddr fi71_2 rfl rfl) ?_
     refine WPL.s (s_store sz3 rfl rfl rfl rfl rfl) ?_
     refine WPL.nilW ?_
     obtain ⟨rfl, rfl, rfl, rfl, rfl, rfl, rfl⟩ := j7 H
     exact W.wk [0, 1, 2, 3] hnp (InBlock.n r3) ⟨rfl, AA4, by decide, rfl, trivial⟩ (LeE.u (LeE.u (LeE.u (LeE.u (LeE.u (LeE.none rfl rfl)))))) rfl
   replace H := cnf hb4 H
   refine WP.skipW ?_
   obtain ⟨rfl, rfl, rfl, rfl, rfl, rfl, rfl⟩ := j7 H
   exact W.wk [0, 1, 2, 3] hnp (InBlock.n r3) ⟨rfl, AA4, by decide, rfl, trivial⟩ (LeE.u (LeE.u (LeE.u (LeE.u (LeE.u (LeE.none rfl rfl)))))) rfl
 rintro _ _ _ ⟨rfl, rfl, rfl⟩
 refine W.now ?_
 refine Then.n ?_
 refine WP.seq ?_
 refine WP.regionD' 6 [2, 3] [] mixed rfl ?_
 refine WPD.tT 2 rfl (q_mv (v := .lit (.bool _)) rfl) ?_
 refine WPD.take 0 rfl (by kernel_rfl) (q_load_ag ag71 rfl rfl (Nat.le_of_ble_eq_true rfl)) rfl rfl ?_
 refine WPD.take 1 rfl (by kernel_rfl) (q_load_ag ag71 rfl rfl (Nat.le_of_ble_eq_true rfl)) rfl rfl ?_
 refine WPD.effS 3 [2, 3] [] rfl (by kernel_rfl) (s_store sz71 rfl rfl rfl rfl rfl) rfl ?_
 refine WPD.effS 4 [2, 3] [] rfl (by kernel_rfl) (s_store sz71 rfl rfl rfl rfl rfl) rfl ?_
 refine WPD.tT 5 rfl (q_as (v := .lit (.bool _)) rfl) ?_
 refine WPD.doneW (by kernel_rfl) ?_
 refine W.now ?_
 refine Then.n ?_
 refine WP.retW ?_
 obtain ⟨rfl, rfl, rfl, rfl, rfl, rfl, rfl⟩ := j7 H
 exact W.now (BodyR.mkR trivial rfl [0, 1] ⟨rfl, rfl⟩ ⟨rfl, AA2, by decide, rfl, trivial⟩ rfl rfl)
theorem s_dec_wide_cmp (k : Nat) (x1 : Int) (x2 : Int) (x3 : Int) (x4 : Int) (x5 : Int) (H : g_dec_wide_cmp k x1 x2 x3 x4 = some x5) : Go.Q.Spec Tryz.prog 104 0 [.agg [.lit (.int .u64 x1), .lit (.int .u64 x2)], .agg [.lit (.int .u64 x3), .lit (.int .u64 x4)]] Mem.nil (fun o M => o = .ret (.lit (.int .i64 x5)) ∧ M = Mem.nil) := by
 unfold g_dec_wide_cmp at H
 refine Go.Q.Spec.of_bodyR (az := []) (rs := [.tmp 4]) (nt := 29) Tryz.func104 rfl rfl (by intro t T h; simp at h) rfl rfl fun cx hnp => ?_
 refine WP.sr ?_
 refine WPL.d (d_box rfl rfl) rfl ?_
 refine WPL.d (d_box rfl rfl) rfl ?_
 refine WPL.qq (q_as (v := .lit (.int _ _)) rfl) ?_
 refine WPL.nx ?_
 refine WP.seq ?_
 refine WP.block ?_
 refine WP.sr ?_
 refine WPL.qq (q_load_ag ag69 rfl rfl (Nat.le_of_ble_eq_true rfl)) ?_
 refine WPL.qq (q_load_ag ag69 rfl rfl (Nat.le_of_ble_eq_true rfl)) ?_
 obtain ⟨x6, h1, H⟩ := bnd H
 refine WPL.qq (q_nm (q_eqlAg (xs := [(.int .u64 x1), (.int .u64 x2)]) (ys := [(.int .u64 x3), (.int .u64 x4)]) (n := 9) rfl eg69 rfl rfl eq69) (nm_bool h1)) ?_
 refine WPL.qq (q_as (v := .lit (.bool _)) rfl) ?_
 refine WPL.nx ?_
 refine WP.cond (t := x6) rfl (fun hb1 => ?_) (fun hb1 => ?_)
 · replace H := cnt hb1 H
   refine WP.sr ?_
   refine WPL.qq (q_as (v := .lit (.int _ _)) rfl) ?_
   refine WPL.nx ?_
   refine WP.retW ?_
   have q0 := j1 H
   subst q0
   exact W.now (InBlock.r (Then.r (BodyR.mkR trivial rfl [] ⟨rfl, rfl⟩ ⟨rfl, trivial, by decide, rfl, trivial⟩ rfl rfl)))
 replace H := cnf hb1 H
 refine WP.seq ?_
 obtain ⟨x7, H1, H⟩ := bnd H
 refine WP.monoW (Q := fun x E M => x = .normal ∧ E = (Env.none.upd 9 (.lit (.bool x7))) ∧ M = Mem.nil) ?_ ?_
 · clear H
   have H := H1
   clear H1
   refine WP.region ?_
   refine WPL.qq (q_fieldAddr fi69_0 rfl rfl) ?_
   refine WPL.qq (q_load sc67 rfl rfl rfl) ?_
   refine WPL.qq (q_fieldAddr fi69_0 rfl rfl) ?_
   refine WPL.qq (q_load sc67 rfl rfl rfl) ?_
   refine WPL.qq (q_lss rfl rfl) ?_
   refine WPL.qq (q_mv (v := .lit (.bool _)) rfl) ?_
   refine WPL.split (t := 15) (b := (decide (x1 < x3))) rfl (fun hb2 => ?_) (fun hb2 => ?_)
   · replace H := cnt hb2 H
     refine WPL.sg true rfl (lb hb2) ?_
     refine WPL.sg true rfl (lb hb2) ?_
     refine WPL.sg true rfl (lb hb2) ?_
     refine WPL.sg true rfl (lb hb2) ?_
     refine WPL.sg true rfl (lb hb2) ?_
     refine WPL.sg true rfl (lb hb2) ?_
     refine WPL.skipu rfl rfl rfl rfl (.inl trivial) ?_
     refine WPL.skipu rfl rfl rfl rfl (.inl trivial) ?_
     refine WPL.skipu rfl rfl rfl rfl (.inl trivial) ?_
     refine WPL.skipu rfl rfl rfl rfl (.inl trivial) ?_
     refine WPL.skipu rfl rfl rfl rfl (.inl trivial) ?_
     refine WPL.sg true rfl (lb hb2) ?_
     refine WPL.qq (q_pickT (v := .lit (.bool _)) (lb hb2) rfl) ?_
     refine WPL.qq (q_as (v := .lit (.bool _)) rfl) ?_
     refine WPL.nilW ?_
     have q0 := j1 H
     subst q0
     exact W.wk [] hnp r3 ⟨rfl, trivial, by decide, rfl, trivial⟩ (LeE.u (LeE.none rfl rfl)) rfl
   replace H := cnf hb2 H
   refine WPL.gq rfl (lb hb2) (q_fieldAddr fi69_0 rfl rfl) ?_
   refine WPL.gq rfl (lb hb2) (q_load sc67 rfl rfl rfl) ?_
   refine WPL.gq rfl (lb hb2) (q_fieldAddr fi69_0 rfl rfl) ?_
   refine WPL.gq rfl (lb hb2) (q_load sc67 rfl rfl rfl) ?_
   refine WPL.gq rfl (lb hb2) (q_eql rfl rfl) ?_
   refine WPL.gq rfl (lb hb2) (q_mv (v := .lit (.bool _)) rfl) ?_
   refine WPL.split (t := 21) (b := (decide (x1 = x3))) rfl (fun hb3 => ?_) (fun hb3 => ?_)
   · replace H := cnt hb3 H
     refine WPL.gq rfl (lb hb3) (q_fieldAddr fi69_1 rfl rfl) ?_
     refine WPL.gq rfl (lb hb3) (q_load sc67 rfl rfl rfl) ?_
     refine WPL.gq rfl (lb hb3) (q_fieldAddr fi69_1 rfl rfl) ?_
     refine WPL.gq rfl (lb hb3) (q_load sc67 rfl rfl rfl) ?_
     refine WPL.gq rfl (lb hb3) (q_lss rfl rfl) ?_
     refine WPL.gq rfl (lb hb2) (q_pickT (v := .lit (.bool _)) (lb hb3) rfl) ?_
     refine WPL.qq (q_pickF (v := .lit (.bool _)) (lb hb2) rfl) ?_
     refine WPL.qq (q_as (v := .lit (.bool _)) rfl) ?_
     refine WPL.nilW ?_
     have q0 := j1 H
     subst q0
     exact W.wk [] hnp r3 ⟨rfl, trivial, by decide, rfl, trivial⟩ (LeE.u (LeE.none rfl rfl)) rfl
   replace H := cnf hb3 H
   refine WPL.sg false rfl (lb hb3) ?_
   refine WPL.sg false rfl (lb hb3) ?_
   refine WPL.sg false rfl (lb hb3) ?_
   refine WPL.sg false rfl (lb hb3) ?_
   refine WPL.sg false rfl (lb hb3) ?_
   refine WPL.gq rfl (lb hb2) (q_pickF (v := .lit (.bool _)) (lb hb3) rfl) ?_
   refine WPL.qq (q_pickF (v := .lit (.bool _)) (lb hb2) rfl) ?_
   refine WPL.qq (q_as (v := .lit (.bool _)) rfl) ?_
   refine WPL.nilW ?_
   have q0 := j1 H
   subst q0
   exact W.wk [] hnp r3 ⟨rfl, trivial, by decide, rfl, trivial⟩ (LeE.u (LeE.none rfl rfl)) rfl
 rintro _ _ _ ⟨rfl, rfl, rfl⟩
 refine W.now ?_
 refine Then.n ?_
 refine WP.cond (t := x7) rfl (fun hb4 => ?_) (fun hb4 => ?_)
 · replace H := cnt hb4 H
   refine WP.sr ?_
   refine WPL.qq (q_as (v := .lit (.int _ _)) rfl) ?_
   refine WPL.nx ?_
   refine WP.retW ?_
   have q0 := j1 H
   subst q0
   exact W.now (InBlock.r (Then.r (BodyR.mkR trivial rfl [] ⟨rfl, rfl⟩ ⟨rfl, trivial, by decide, rfl, trivial⟩ rfl rfl)))
 replace H := cnf hb4 H
 refine WP.skipW ?_
 refine W.now ?_
 refine InBlock.n ?_
 refine Then.n ?_
 refine WP.sr ?_
 refine WPL.qq (q_as (v := .lit (.int _ _)) rfl) ?_
 refine WPL.nx ?_
 refine WP.retW ?_
 have q0 := j1 H
 subst q0
 exact W.now (BodyR.mkR trivial rfl [] ⟨rfl, rfl⟩ ⟨rfl, trivial, by decide, rfl, trivial⟩ rfl rfl)
theorem s_dec_wide_less (k : Nat) (x1 : Int) (x2 : Int) (x3 : Int) (x4 : Int) (H : g_dec_wide_less k x1 x2 x3 x4 = some ()) : Go.Q.Spec Tryz.prog 147 0 [.agg [.lit (.int .u64 x1), .lit (.int .u64 x2)], .agg [.lit (.int .u64 x3), .lit (.int .u64 x4)]] Mem.nil (fun o M => o = .ret (.agg [.lit (.int .u64 ((sub64 x1 x3 ((sub64 x2 x4 0).2)).1)), .lit (.int .u64 ((sub64 x2 x4 0).1))]) ∧ M = (Mem.nil.push (.cells 69 [.lit (.int .u64 ((sub64 x1 x3 ((sub64 x2 x4 0).2)).1)), .lit (.int .u64 ((sub64 x2 x4 0).1))]))) := by
 unfold g_dec_wide_less at H
 refine Go.Q.Spec.of_bodyR (az := [(69, 2)]) (rs := [.cell 4 69]) (nt := 29) Tryz.func147 rfl rfl (by intro t T h; simp at h; rcases h with ⟨rfl, rfl⟩ <;> first | exact ag69) rfl rfl fun cx hnp => ?_
 refine WP.sr ?_
 refine WPL.d (d_box rfl rfl) rfl ?_
 refine WPL.d (d_box rfl rfl) rfl ?_
 refine WPL.d (d_alloc ze69 rfl) rfl ?_
 refine WPL.nx ?_
 refine WP.sr ?_
 refine WPL.qq (q_fieldAddr fi69_1 rfl rfl) ?_
 refine WPL.qq (q_load sc67 rfl rfl rfl) ?_
 refine WPL.qq (q_fieldAddr fi69_1 rfl rfl) ?_
 refine WPL.qq (q_load sc67 rfl rfl rfl) ?_
 refine WPL.qq (q_sub64 ex165 rfl rfl rfl rfl rfl) ?_
 refine WPL.qq (q_mv (v := .tup _) rfl) ?_
 refine WPL.qq (q_extract rfl rfl) ?_
 refine WPL.qq (q_extract rfl rfl) ?_
 refine WPL.qq (q_as (v := .lit (.int _ _)) rfl) ?_
 refine WPL.qq (q_as (v := .lit (.int _ _)) rfl) ?_
 refine WPL.nx ?_
 refine WP.sr ?_
 refine WPL.qq (q_fieldAddr fi69_0 rfl rfl) ?_
 refine WPL.qq (q_load sc67 rfl rfl rfl) ?_
 refine WPL.qq (q_fieldAddr fi69_0 rfl rfl) ?_
 refine WPL.qq (q_load sc67 rfl rfl rfl) ?_
 refine WPL.qq (q_mv (v := .lit (.int _ _)) rfl) ?_
 obtain ⟨h1, H⟩ := grd H
 refine WPL.qq (q_sub64 ex165 rfl rfl rfl rfl h1) ?_
 refine WPL.qq (q_mv (v := .tup _) rfl) ?_
 refine WPL.qq (q_extract rfl rfl) ?_
 refine WPL.qq (q_extract rfl rfl) ?_
 refine WPL.qq (q_as (v := .lit (.int _ _)) rfl) ?_
 refine WPL.qq (q_as (v := .lit (.int _ _)) rfl) ?_
 refine WPL.nx ?_
 refine WP.sr ?_
 refine WPL.qq (q_mv (v := .lit (.int _ _)) rfl) ?_
 refine WPL.qq (q_mv (v := .lit (.int _ _)) rfl) ?_
 refine WPL.qq (q_build bu69 rfl) ?_
 refine WPL.s (s_store sz69 rfl rfl rfl rfl rfl) ?_
 refine WPL.nx ?_
 refine WP.retW ?_
 exact W.now (BodyR.mkR trivial rfl [2] ⟨rfl, rfl⟩ ⟨rfl, AA1, by decide, rfl, trivial⟩ rfl rfl)
theorem s_dec_Add (k : Nat) (x1 : Int) (x2 : Int) (x3 : Int) (x4 : Int) (x5 : Int) (x6 : Int) (x7 : Int) (H : g_dec_Add k x1 x2 x3 x4 = some (x5, x6, x7)) : Go.Q.Spec Tryz.prog 108 0 [.agg [.lit (.int .i64 x1), .lit (.int .i64 x2)], .agg [.lit (.int .i64 x3), .lit (.int .i64 x4)]] Mem.nil (fun o M => o = .ret (.tup [.agg [.lit (.int .i64 x6), .lit (.int .i64 x7)], .lit (.int .i64 x5)]) ∧ M = (Mem.nil.push (.cells 23 [.lit (.int .i64 x6), .lit (.int .i64 x7)]))) := by
 unfold g_dec_Add at H
 refine Go.Q.Spec.of_bodyR (az := [(23, 2)]) (rs := [.cell 4 23, .tmp 5]) (nt := 68) Tryz.func108 rfl rfl (by intro t T h; simp at h; rcases h with ⟨rfl, rfl⟩ <;> first | exact ag23) rfl rfl fun cx hnp => ?_
 refine WP.sr ?_
 refine WPL.d (d_box rfl rfl) rfl ?_
 refine WPL.d (d_box rfl rfl) rfl ?_
 refine WPL.d (d_alloc ze23 rfl) rfl ?_
 refine WPL.qq (q_as (v := .lit (.int _ _)) rfl) ?_
 refine WPL.nx ?_
 refine WP.seq ?_
 refine WP.sr ?_
 refine WPL.d (d_buildCells li144 rfl rfl rfl rfl rfl) rfl ?_
 obtain ⟨⟨x8, x9, x10, x11, x12⟩, h1, H⟩ := bnd H
 refine WPL.c (runs_call (s := [3, 0, 1]) (t := [3, 0, 1]) (N := 4) (bor := []) fn99 rfl (s_dec_clean k x1 x2 x3 x4 x8 x9 x10 x11 x12 h1) ⟨rfl, AA3, by decide, rfl, trivial⟩ rfl trivial (.ren rfl rfl .nil) rfl BB3 rfl) rfl ?_
 refine WPL.qq (q_not rfl) ?_
 refine WPL.nx ?_
 refine WP.cond (t := (!x8)) rfl (fun hb1 => ?_) (fun hb1 => ?_)
 · replace H := cnt hb1 H
   refine WP.sr ?_
   refine WPL.qq (q_build bu23 rfl) ?_
   refine WPL.s (s_store sz23 rfl rfl rfl rfl rfl) ?_
   refine WPL.qq (q_as (v := .lit (.int _ _)) rfl) ?_
   refine WPL.nx ?_
   refine WP.retW ?_
   obtain ⟨rfl, rfl, rfl⟩ := j3 H
   exact W.now (Then.r (BodyR.mkR trivial rfl [2] ⟨rfl, rfl⟩ ⟨rfl, AA1, by decide, rfl, trivial⟩ rfl rfl))
 replace H := cnf hb1 H
 refine WP.skipW ?_
 refine W.now ?_
 refine Then.n ?_
 refine WP.sr ?_
 refine WPL.qq (q_load_ag ag23 rfl rfl (Nat.le_of_ble_eq_true rfl)) ?_
 refine WPL.qq (q_load_ag ag23 rfl rfl (Nat.le_of_ble_eq_true rfl)) ?_
 obtain ⟨⟨x13, x14, x15, x16, x17, x18, x19⟩, h2, H⟩ := bnd H
 refine WPL.c (runs_call (s := []) (t := [4, 5]) (N := 6) (bor := []) fn103 rfl (s_dec_even k x9 x10 x11 x12 x13 x14 x15 x16 x17 x18 x19 h2) ⟨rfl, trivial, by decide, rfl, trivial⟩ rfl trivial (.ren rfl rfl (.ren rfl rfl .nil)) rfl BB2 rfl) rfl ?_
 refine WPL.qq (q_mv (v := .tup _) rfl) ?_
 refine WPL.qq (q_extract rfl rfl) ?_
 refine WPL.qq (q_extract rfl rfl) ?_
 refine WPL.qq (q_extract rfl rfl) ?_
 refine WPL.d (d_alloc ze71 rfl) rfl ?_
 refine WPL.d (d_alloc ze71 rfl) rfl ?_
 refine WPL.s (s_store sz71 rfl rfl rfl rfl rfl) ?_
 refine WPL.s (s_store sz71 rfl rfl rfl rfl rfl) ?_
 refine WPL.qq (q_as (v := .lit (.bool _)) rfl) ?_
 refine WPL.nx ?_
 refine WP.seq ?_
 obtain ⟨y1, H1, H⟩ := bnd H
 refine WP.monoW (Q := fun x E M => match (generalizing := false) y1 with | (Sum.inl _) => x = .ret ∧ E = ((Env.none.upd 4 (.ptr 0 0)).upd 5 (.lit (.int .i64 30))) ∧ M = (Mem.nil.push (.cells 23 [.lit (.int .i64 0), .lit (.int .i64 0)])) | (Sum.inr (x20, x21, x22, x23)) => x = .normal ∧ E = (((Env.none.upd 4 (.ptr 0 0)).upd 6 (.ptr 1 0)).upd 8 (.lit (.bool x20))) ∧ M = ((Mem.nil.push (.cells 23 [.lit (.int .i64 0), .lit (.int .i64 0)])).push (.cells 71 [.lit (.bool x21), .lit (.int .u64 x22), .lit (.int .u64 x23), .lit (.int .i64 x16)]))) ?_ ?_
 · clear H
   have H := H1
   clear H1
   refine WP.block ?_
   refine WP.sr ?_
   refine WPL.qq (q_mv (v := .lit (.bool _)) rfl) ?_
   refine WPL.qq (q_not rfl) ?_
   refine WPL.qq (q_as (v := .lit (.bool _)) rfl) ?_
   refine WPL.nx ?_
   refine WP.cond (t := (!x13)) rfl (fun hb2 => ?_) (fun hb2 => ?_)
   · replace H := cnt hb2 H
     refine WP.sr ?_
     refine WPL.qq (q_build bu23 rfl) ?_
     refine WPL.s (s_store sz23 rfl rfl rfl rfl rfl) ?_
     refine WPL.qq (q_as (v := .lit (.int _ _)) rfl) ?_
     refine WPL.nx ?_
     refine WP.retW ?_
     have q0 := j1 H
     subst q0
     exact W.wk [2] hnp (InBlock.r r3) ⟨rfl, AA1, by decide, rfl, trivial⟩ (LeE.u (LeE.u (LeE.none rfl rfl))) rfl
   replace H := cnf hb2 H
   refine WP.sr ?_
   refine WPL.qq (q_fieldAddr fi71_0 rfl rfl) ?_
   refine WPL.qq (q_load sc4 rfl rfl rfl) ?_
   refine WPL.qq (q_fieldAddr fi71_0 rfl rfl) ?_
   refine WPL.qq (q_load sc4 rfl rfl rfl) ?_
   obtain ⟨x24, h3, H⟩ := bnd H
   refine WPL.qq (q_nm (q_eqlb Tryz.underlying4 rfl rfl) (nm_bool h3)) ?_
   refine WPL.qq (q_as (v := .lit (.bool _)) rfl) ?_
   refine WPL.nx ?_
   refine WP.cond (t := x24) rfl (fun hb3 => ?_) (fun hb3 => ?_)
   · replace H := cnt hb3 H
     refine WP.region ?_
     refine WPL.qq (q_fieldAddr fi71_1 rfl rfl) ?_
     refine WPL.qq (q_load_ag ag69 rfl rfl (Nat.le_of_ble_eq_true rfl)) ?_
     refine WPL.qq (q_fieldAddr fi71_1 rfl rfl) ?_
     refine WPL.qq (q_load_ag ag69 rfl rfl (Nat.le_of_ble_eq_true rfl)) ?_
     obtain ⟨x25, h4, H⟩ := bnd H
     refine WPL.c (runs_call (s := []) (t := [8]) (N := 9) (bor := []) fn94 rfl (s_dec_wide_plus k x14 x15 x17 x18 x25 h4) ⟨rfl, trivial, by decide, rfl, trivial⟩ rfl trivial (.ren rfl rfl (.ren rfl rfl .nil)) rfl BB1 rfl) rfl ?_
     refine WPL.qq (q_mv (v := .tup _) rfl) ?_
     refine WPL.qq (q_extract rfl rfl) ?_
     refine WPL.qq (q_extract rfl rfl) ?_
     refine WPL.qq (q_fieldAddr fi71_1 rfl rfl) ?_
     refine WPL.s (s_store sz69 rfl rfl rfl rfl rfl) ?_
     refine WPL.qq (q_as (v := .lit (.bool _)) rfl) ?_
     refine WPL.nilW ?_
     have q0 := j1 H
     subst q0
     exact W.wk [2, 6] hnp (InBlock.n r3) ⟨rfl, AA2, by decide, rfl, trivial⟩ (LeE.u (LeE.u (LeE.u (LeE.none rfl rfl)))) rfl
   replace H := cnf hb3 H
   refine WP.sr ?_
   refine WPL.qq (q_fieldAddr fi71_1 rfl rfl) ?_
   refine WPL.qq (q_load_ag ag69 rfl rfl (Nat.le_of_ble_eq_true rfl)) ?_
   refine WPL.qq (q_fieldAddr fi71_1 rfl rfl) ?_
   refine WPL.qq (q_load_ag ag69 rfl rfl (Nat.le_of_ble_eq_true rfl)) ?_
   obtain ⟨x26, h5, H⟩ := bnd H
   refine WPL.c (runs_call (s := []) (t := []) (N := 8) (bor := []) fn104 rfl (s_dec_wide_cmp k x14 x15 x17 x18 x26 h5) ⟨rfl, trivial, by decide, rfl, trivial⟩ rfl trivial (.ren rfl rfl (.ren rfl rfl .nil)) rfl trivial rfl) rfl ?_
   refine WPL.qq (q_geq rfl rfl) ?_
   refine WPL.qq (q_as (v := .lit (.bool _)) rfl) ?_
   refine WPL.nx ?_
   refine WP.cond (t := (decide (0 ≤ x26))) rfl (fun hb4 => ?_) (fun hb4 => ?_)
   · replace H := cnt hb4 H
     refine WP.region ?_
     refine WPL.qq (q_fieldAddr fi71_1 rfl rfl) ?_
     refine WPL.qq (q_load_ag ag69 rfl rfl (Nat.le_of_ble_eq_true rfl)) ?_
     refine WPL.qq (q_fieldAddr fi71_1 rfl rfl) ?_
     refine WPL.qq (q_load_ag ag69 rfl rfl (Nat.le_of_ble_eq_true rfl)) ?_
     obtain ⟨_, h6, H⟩ := bnd H
     refine WPL.c (runs_call (s := []) (t := [8]) (N := 9) (bor := []) fn147 rfl (s_dec_wide_less k x14 x15 x17 x18 h6) ⟨rfl, trivial, by decide, rfl, trivial⟩ rfl trivial (.ren rfl rfl (.ren rfl rfl .nil)) rfl BB1 rfl) rfl ?_
     refine WPL.qq (q_fieldAddr fi71_1 rfl rfl) ?_
     refine WPL.s (s_store sz69 rfl rfl rfl rfl rfl) ?_
     refine WPL.nilW ?_
     have q0 := j1 H
     subst q0
     exact W.wk [2, 6] hnp (InBlock.n r3) ⟨rfl, AA2, by decide, rfl, trivial⟩ (LeE.u (LeE.u (LeE.u (LeE.none rfl rfl)))) rfl
   replace H := cnf hb4 H
   refine WP.regionD' 11 [6, 7] [8] mixed rfl ?_
   refine WPD.tT 0 rfl (q_fieldAddr fi71_0 rfl rfl) ?_
   refine WPD.tT 2 rfl (q_fieldAddr fi71_1 rfl rfl) ?_
   refine WPD.tT 4 rfl (q_fieldAddr fi71_1 rfl rfl) ?_
   refine WPD.take 1 rfl (by kernel_rfl) (q_load sc4 rfl rfl rfl) rfl rfl ?_
   refine WPD.take 3 rfl (by kernel_rfl) (q_load_ag ag69 rfl rfl (Nat.le_of_ble_eq_true rfl)) rfl rfl ?_
   refine WPD.take 5 rfl (by kernel_rfl) (q_load_ag ag69 rfl rfl (Nat.le_of_ble_eq_true rfl)) rfl rfl ?_
   refine WPD.tT 7 rfl (q_fieldAddr fi71_0 rfl rfl) ?_
   obtain ⟨_, h7, H⟩ := bnd H
   refine WPD.ef 6 [6, 7] [8] rfl (runs_call (s := []) (t := [8]) (N := 9) (bor := []) fn147 rfl (s_dec_wide_less k x17 x18 x14 x15 h7) ⟨rfl, trivial, by decide, rfl, trivial⟩ rfl trivial (.ren rfl rfl (.ren rfl rfl .nil)) rfl BB1 rfl) ?_
   refine WPD.effS 8 [] [] rfl (by kernel_rfl) (s_store sz4 rfl rfl rfl rfl rfl) rfl ?_
   refine WPD.tT 9 rfl (q_fieldAddr fi71_1 rfl rfl) ?_
   refine WPD.effS 10 [] [] rfl (by kernel_rfl) (s_store sz69 rfl rfl rfl rfl rfl) rfl ?_
   refine WPD.doneW (by kernel_rfl) ?_
   have q0 := j1 H
   subst q0
   exact W.wk [2, 6] hnp (InBlock.n r3) ⟨rfl, AA2, by decide, rfl, trivial⟩ (LeE.u (LeE.u (LeE.u (LeE.none rfl rfl)))) rfl
 rcases y1 with _ | ⟨x20, x21, x22, x23⟩
 · rintro _ _ _ ⟨rfl, rfl, rfl⟩
   obtain ⟨rfl, rfl, rfl⟩ := j3 H
   exact W.now (Then.r (BodyR.mkR trivial rfl [0] ⟨rfl, rfl⟩ ⟨rfl, AA1, by decide, rfl, trivial⟩ rfl rfl))
 rintro _ _ _ ⟨rfl, rfl, rfl⟩
 refine W.now ?_
 refine Then.n ?_
 refine WP.seq ?_
 refine WP.sr ?_
 refine WPL.qq (q_mv (v := .lit (.bool _)) rfl) ?_
 refine WPL.qq (q_not rfl) ?_
 refine WPL.nx ?_
 refine WP.cond (t := (!x20)) rfl (fun hb5 => ?_) (fun hb5 => ?_)
 · replace H := cnt hb5 H
   refine WP.sr ?_
   refine WPL.qq (q_build bu23 rfl) ?_
   refine WPL.s (s_store sz23 rfl rfl rfl rfl rfl) ?_
   refine WPL.qq (q_as (v := .lit (.int _ _)) rfl) ?_
   refine WPL.nx ?_
   refine WP.retW ?_
   obtain ⟨rfl, rfl, rfl⟩ := j3 H
   exact W.now (Then.r (BodyR.mkR trivial rfl [0] ⟨rfl, rfl⟩ ⟨rfl, AA1, by decide, rfl, trivial⟩ rfl rfl))
 replace H := cnf hb5 H
 refine WP.skipW ?_
 refine W.now ?_
 refine Then.n ?_
 refine WP.sr ?_
 refine WPL.qq (q_load_ag ag71 rfl rfl (Nat.le_of_ble_eq_true rfl)) ?_
 obtain ⟨⟨x27, x28, x29⟩, h8, H⟩ := bnd H
 refine WPL.c (runs_call (s := []) (t := [2]) (N := 3) (bor := []) fn82 rfl (s_dec_num_tell k x21 x22 x23 x16 x27 x28 x29 h8) ⟨rfl, trivial, by decide, rfl, trivial⟩ rfl trivial (.ren rfl rfl .nil) rfl BB1 rfl) rfl ?_
 refine WPL.qq (q_extract rfl rfl) ?_
 refine WPL.qq (q_extract rfl rfl) ?_
 refine WPL.s (s_store sz23 rfl rfl rfl rfl rfl) ?_
 refine WPL.qq (q_as (v := .lit (.int _ _)) rfl) ?_
 refine WPL.nx ?_
 refine WP.retW ?_
 obtain ⟨rfl, rfl, rfl⟩ := j3 H
 exact W.now (BodyR.mkR trivial rfl [0] ⟨rfl, rfl⟩ ⟨rfl, AA1, by decide, rfl, trivial⟩ rfl rfl)
theorem s_dec_lowest (k : Nat) (x1 : Int) (x2 : Int) (x3 : Int) (x4 : Int) (x5 : Int) (x6 : Int) (x7 : Int) (H : g_dec_lowest k x1 x2 x3 x4 = some (x5, x6, x7)) : Go.Q.Spec Tryz.prog 148 0 [.agg [.lit (.int .i64 x1), .lit (.int .i64 x2)], .agg [.lit (.int .i64 x3), .lit (.int .i64 x4)]] Mem.nil (fun o M => o = .ret (.tup [.agg [.lit (.int .i64 x6), .lit (.int .i64 x7)], .lit (.int .i64 x5)]) ∧ M = (Mem.nil.push (.cells 23 [.lit (.int .i64 x6), .lit (.int .i64 x7)]))) := by
 unfold g_dec_lowest at H
 refine Go.Q.Spec.of_bodyR (az := [(23, 2)]) (rs := [.cell 4 23, .tmp 5]) (nt := 61) Tryz.func148 rfl rfl (by intro t T h; simp at h; rcases h with ⟨rfl, rfl⟩ <;> first | exact ag23) rfl rfl fun cx hnp => ?_
 refine WP.sr ?_
 refine WPL.d (d_box rfl rfl) rfl ?_
 refine WPL.d (d_box rfl rfl) rfl ?_
 refine WPL.d (d_alloc ze23 rfl) rfl ?_
 refine WPL.qq (q_as (v := .lit (.int _ _)) rfl) ?_
 refine WPL.nx ?_
 refine WP.sr ?_
 refine WPL.qq (q_load_ag ag23 rfl rfl (Nat.le_of_ble_eq_true rfl)) ?_
 refine WPL.qq (q_load_ag ag23 rfl rfl (Nat.le_of_ble_eq_true rfl)) ?_
 obtain ⟨⟨x8, x9, x10, x11, x12, x13, x14⟩, h1, H⟩ := bnd H
 refine WPL.c (runs_call (s := []) (t := [3, 4]) (N := 5) (bor := []) fn103 rfl (s_dec_even k x1 x2 x3 x4 x8 x9 x10 x11 x12 x13 x14 h1) ⟨rfl, trivial, by decide, rfl, trivial⟩ rfl trivial (.ren rfl rfl (.ren rfl rfl .nil)) rfl BB2 rfl) rfl ?_
 refine WPL.qq (q_mv (v := .tup _) rfl) ?_
 refine WPL.qq (q_extract rfl rfl) ?_
 refine WPL.qq (q_extract rfl rfl) ?_
 refine WPL.qq (q_extract rfl rfl) ?_
 refine WPL.d (d_alloc ze71 rfl) rfl ?_
 refine WPL.d (d_alloc ze71 rfl) rfl ?_
 refine WPL.s (s_store sz71 rfl rfl rfl rfl rfl) ?_
 refine WPL.s (s_store sz71 rfl rfl rfl rfl rfl) ?_
 refine WPL.qq (q_as (v := .lit (.bool _)) rfl) ?_
 refine WPL.nx ?_
 refine WP.seq ?_
 refine WP.sr ?_
 refine WPL.qq (q_mv (v := .lit (.bool _)) rfl) ?_
 refine WPL.qq (q_not rfl) ?_
 refine WPL.nx ?_
 refine WP.cond (t := (!x8)) rfl (fun hb1 => ?_) (fun hb1 => ?_)
 · replace H := cnt hb1 H
   refine WP.sr ?_
   refine WPL.qq (q_build bu23 rfl) ?_
   refine WPL.s (s_store sz23 rfl rfl rfl rfl rfl) ?_
   refine WPL.qq (q_as (v := .lit (.int _ _)) rfl) ?_
   refine WPL.nx ?_
   refine WP.retW ?_
   obtain ⟨rfl, rfl, rfl⟩ := j3 H
   exact W.now (Then.r (BodyR.mkR trivial rfl [2] ⟨rfl, rfl⟩ ⟨rfl, AA1, by decide, rfl, trivial⟩ rfl rfl))
 replace H := cnf hb1 H
 refine WP.skipW ?_
 refine W.now ?_
 refine Then.n ?_
 refine WP.sr ?_
 refine WPL.qq (q_fieldAddr fi71_0 rfl rfl) ?_
 refine WPL.s (s_store sz4 rfl rfl rfl rfl rfl) ?_
 refine WPL.nx ?_
 refine WP.seq ?_
 refine WP.sr ?_
 refine WPL.qq (q_fieldAddr fi71_0 rfl rfl) ?_
 refine WPL.qq (q_load sc4 rfl rfl rfl) ?_
 refine WPL.nx ?_
 refine WP.cond (t := (decide (x1 < 0))) rfl (fun hb2 => ?_) (fun hb2 => ?_)
 · replace H := cnt hb2 H
   refine WP.seq ?_
   obtain ⟨⟨x15, x16, x17⟩, H1, H⟩ := bnd H
   refine WP.monoW (Q := fun x E M => x = .normal ∧ E = ((Env.none.upd 4 (.ptr 0 0)).upd 6 (.ptr 1 0)) ∧ M = ((Mem.nil.push (.cells 23 [.lit (.int .i64 0), .lit (.int .i64 0)])).push (.cells 71 [.lit (.bool x15), .lit (.int .u64 x16), .lit (.int .u64 x17), .lit (.int .i64 x11)]))) ?_ ?_
   · clear H
     have H := H1
     clear H1
     refine WP.sr ?_
     refine WPL.qq (q_fieldAddr fi71_1 rfl rfl) ?_
     refine WPL.qq (q_load_ag ag69 rfl rfl (Nat.le_of_ble_eq_true rfl)) ?_
     refine WPL.qq (q_fieldAddr fi71_1 rfl rfl) ?_
     refine WPL.qq (q_load_ag ag69 rfl rfl (Nat.le_of_ble_eq_true rfl)) ?_
     obtain ⟨x18, h2, H⟩ := bnd H
     refine WPL.c (runs_call (s := []) (t := []) (N := 7) (bor := []) fn104 rfl (s_dec_wide_cmp k x9 x10 x12 x13 x18 h2) ⟨rfl, trivial, by decide, rfl, trivial⟩ rfl trivial (.ren rfl rfl (.ren rfl rfl .nil)) rfl trivial rfl) rfl ?_
     refine WPL.qq (q_geq rfl rfl) ?_
     refine WPL.nx ?_
     refine WP.cond (t := (decide (0 ≤ x18))) rfl (fun hb3 => ?_) (fun hb3 => ?_)
     · replace H := cnt hb3 H
       refine WP.region ?_
       refine WPL.qq (q_fieldAddr fi71_1 rfl rfl) ?_
       refine WPL.qq (q_load_ag ag69 rfl rfl (Nat.le_of_ble_eq_true rfl)) ?_
       refine WPL.qq (q_fieldAddr fi71_1 rfl rfl) ?_
       refine WPL.qq (q_load_ag ag69 rfl rfl (Nat.le_of_ble_eq_true rfl)) ?_
       obtain ⟨_, h3, H⟩ := bnd H
       refine WPL.c (runs_call (s := []) (t := [7]) (N := 8) (bor := []) fn147 rfl (s_dec_wide_less k x9 x10 x12 x13 h3) ⟨rfl, trivial, by decide, rfl, trivial⟩ rfl trivial (.ren rfl rfl (.ren rfl rfl .nil)) rfl BB1 rfl) rfl ?_
       refine WPL.qq (q_fieldAddr fi71_1 rfl rfl) ?_
       refine WPL.s (s_store sz69 rfl rfl rfl rfl rfl) ?_
       refine WPL.nilW ?_
       obtain ⟨rfl, rfl, rfl⟩ := j3 H
       exact W.wk [2, 5] hnp r3 ⟨rfl, AA2, by decide, rfl, trivial⟩ (LeE.u (LeE.u (LeE.none rfl rfl))) rfl
     replace H := cnf hb3 H
     refine WP.region ?_
     refine WPL.qq (q_fieldAddr fi71_1 rfl rfl) ?_
     refine WPL.qq (q_load_ag ag69 rfl rfl (Nat.le_of_ble_eq_true rfl)) ?_
     refine WPL.qq (q_fieldAddr fi71_1 rfl rfl) ?_
     refine WPL.qq (q_load_ag ag69 rfl rfl (Nat.le_of_ble_eq_true rfl)) ?_
     obtain ⟨_, h4, H⟩ := bnd H
     refine WPL.c (runs_call (s := []) (t := [7]) (N := 8) (bor := []) fn147 rfl (s_dec_wide_less k x12 x13 x9 x10 h4) ⟨rfl, trivial, by decide, rfl, trivial⟩ rfl trivial (.ren rfl rfl (.ren rfl rfl .nil)) rfl BB1 rfl) rfl ?_
     refine WPL.qq (q_fieldAddr fi71_0 rfl rfl) ?_
     refine WPL.s (s_store sz4 rfl rfl rfl rfl rfl) ?_
     refine WPL.qq (q_fieldAddr fi71_1 rfl rfl) ?_
     refine WPL.s (s_store sz69 rfl rfl rfl rfl rfl) ?_
     refine WPL.nilW ?_
     obtain ⟨rfl, rfl, rfl⟩ := j3 H
     exact W.wk [2, 5] hnp r3 ⟨rfl, AA2, by decide, rfl, trivial⟩ (LeE.u (LeE.u (LeE.none rfl rfl))) rfl
   rintro _ _ _ ⟨rfl, rfl, rfl⟩
   refine W.now ?_
   refine Then.n ?_
   refine WP.sr ?_
   refine WPL.qq (q_load_ag ag71 rfl rfl (Nat.le_of_ble_eq_true rfl)) ?_
   obtain ⟨⟨x19, x20, x21⟩, h5, H⟩ := bnd H
   refine WPL.c (runs_call (s := []) (t := [2]) (N := 3) (bor := []) fn82 rfl (s_dec_num_tell k x15 x16 x17 x11 x19 x20 x21 h5) ⟨rfl, trivial, by decide, rfl, trivial⟩ rfl trivial (.ren rfl rfl .nil) rfl BB1 rfl) rfl ?_
   refine WPL.qq (q_extract rfl rfl) ?_
   refine WPL.qq (q_extract rfl rfl) ?_
   refine WPL.s (s_store sz23 rfl rfl rfl rfl rfl) ?_
   refine WPL.qq (q_as (v := .lit (.int _ _)) rfl) ?_
   refine WPL.nx ?_
   refine WP.retW ?_
   obtain ⟨rfl, rfl, rfl⟩ := j3 H
   exact W.now (Then.r (BodyR.mkR trivial rfl [0] ⟨rfl, rfl⟩ ⟨rfl, AA1, by decide, rfl, trivial⟩ rfl rfl))
 replace H := cnf hb2 H
 refine WP.skipW ?_
 refine W.now ?_
 refine Then.n ?_
 refine WP.seq ?_
 refine WP.sr ?_
 refine WPL.qq (q_fieldAddr fi71_1 rfl rfl) ?_
 refine WPL.qq (q_load_ag ag69 rfl rfl (Nat.le_of_ble_eq_true rfl)) ?_
 refine WPL.qq (q_fieldAddr fi71_1 rfl rfl) ?_
 refine WPL.qq (q_load_ag ag69 rfl rfl (Nat.le_of_ble_eq_true rfl)) ?_
 obtain ⟨x22, h6, H⟩ := bnd H
 refine WPL.c (runs_call (s := []) (t := [7]) (N := 8) (bor := []) fn94 rfl (s_dec_wide_plus k x9 x10 x12 x13 x22 h6) ⟨rfl, trivial, by decide, rfl, trivial⟩ rfl trivial (.ren rfl rfl (.ren rfl rfl .nil)) rfl BB1 rfl) rfl ?_
 refine WPL.qq (q_mv (v := .tup _) rfl) ?_
 refine WPL.qq (q_extract rfl rfl) ?_
 refine WPL.qq (q_extract rfl rfl) ?_
 refine WPL.qq (q_fieldAddr fi71_1 rfl rfl) ?_
 refine WPL.s (s_store sz69 rfl rfl rfl rfl rfl) ?_
 refine WPL.qq (q_as (v := .lit (.bool _)) rfl) ?_
 refine WPL.nx ?_
 refine WP.sr ?_
 refine WPL.qq (q_mv (v := .lit (.bool _)) rfl) ?_
 refine WPL.qq (q_not rfl) ?_
 refine WPL.nx ?_
 refine WP.cond (t := (!x22)) rfl (fun hb4 => ?_) (fun hb4 => ?_)
 · replace H := cnt hb4 H
   refine WP.sr ?_
   refine WPL.qq (q_build bu23 rfl) ?_
   refine WPL.s (s_store sz23 rfl rfl rfl rfl rfl) ?_
   refine WPL.qq (q_as (v := .lit (.int _ _)) rfl) ?_
   refine WPL.nx ?_
   refine WP.retW ?_
   obtain ⟨rfl, rfl, rfl⟩ := j3 H
   exact W.now (Then.r (BodyR.mkR trivial rfl [2] ⟨rfl, rfl⟩ ⟨rfl, AA1, by decide, rfl, trivial⟩ rfl rfl))
 replace H := cnf hb4 H
 refine WP.skipW ?_
 refine W.now ?_
 refine Then.n ?_
 refine WP.sr ?_
 refine WPL.qq (q_load_ag ag71 rfl rfl (Nat.le_of_ble_eq_true rfl)) ?_
 obtain ⟨⟨x23, x24, x25⟩, h7, H⟩ := bnd H
 refine WPL.c (runs_call (s := []) (t := [8]) (N := 9) (bor := []) fn82 rfl (s_dec_num_tell k (decide (x1 < 0)) ((add64 x9 x12 ((add64 x10 x13 0).2)).1) ((add64 x10 x13 0).1) x11 x23 x24 x25 h7) ⟨rfl, trivial, by decide, rfl, trivial⟩ rfl trivial (.ren rfl rfl .nil) rfl BB1 rfl) rfl ?_
 refine WPL.qq (q_extract rfl rfl) ?_
 refine WPL.qq (q_extract rfl rfl) ?_
 refine WPL.s (s_store sz23 rfl rfl rfl rfl rfl) ?_
 refine WPL.qq (q_as (v := .lit (.int _ _)) rfl) ?_
 refine WPL.nx ?_
 refine WP.retW ?_
 obtain ⟨rfl, rfl, rfl⟩ := j3 H
 exact W.now (BodyR.mkR trivial rfl [2] ⟨rfl, rfl⟩ ⟨rfl, AA1, by decide, rfl, trivial⟩ rfl rfl)
end Go.Proofs.YthpcgknknpjpdaaGreatDoor.W
namespace Go.Proofs.YthpcgknknpjpdaaGreatDoor.W
open Go Go.Q Go.Proofs
set_option linter.unusedVariables false
set_option linter.unusedSimpArgs false
set_option maxRecDepth 100000
set_option maxHeartbeats 4000000
theorem s_dec_Sub (k : Nat) (x1 : Int) (x2 : Int) (x3 : Int) (x4 : Int) (x5 : Int) (x6 : Int) (x7 : Int) (H : g_dec_Sub k x1 x2 x3 x4 = some (x5, x6, x7)) : Go.Q.Spec Tryz.prog 109 0 [.agg [.lit (.int .i64 x1), .lit (.int .i64 x2)], .agg [.lit (.int .i64 x3), .lit (.int .i64 x4)]] Mem.nil (fun o M => o = .ret (.tup [.agg [.lit (.int .i64 x6), .lit (.int .i64 x7)], .lit (.int .i64 x5)]) ∧ M = (Mem.nil.push (.cells 23 [.lit (.int .i64 x6), .lit (.int .i64 x7)]))) := by
 unfold g_dec_Sub at H
 refine Go.Q.Spec.of_bodyR (az := [(23, 2)]) (rs := [.cell 4 23, .tmp 5]) (nt := 27) Tryz.func109 rfl rfl (by intro t T h; simp at h; rcases h with ⟨rfl, rfl⟩ <;> first | exact ag23) rfl rfl fun cx hnp => ?_
 refine WP.sr ?_
 refine WPL.d (d_box rfl rfl) rfl ?_
 refine WPL.d (d_box rfl rfl) rfl ?_
 refine WPL.d (d_alloc ze23 rfl) rfl ?_
 refine WPL.qq (q_as (v := .lit (.int _ _)) rfl) ?_
 refine WPL.nx ?_
 refine WP.seq ?_
 refine WP.sr ?_
 refine WPL.d (d_buildCells li144 rfl rfl rfl rfl rfl) rfl ?_
 obtain ⟨⟨x8, x9, x10, x11, x12⟩, h1, H⟩ := bnd H
 refine WPL.c (runs_call (s := [3, 0, 1]) (t := [3, 0, 1]) (N := 4) (bor := []) fn99 rfl (s_dec_clean k x1 x2 x3 x4 x8 x9 x10 x11 x12 h1) ⟨rfl, AA3, by decide, rfl, trivial⟩ rfl trivial (.ren rfl rfl .nil) rfl BB3 rfl) rfl ?_
 refine WPL.qq (q_not rfl) ?_
 refine WPL.nx ?_
 refine WP.cond (t := (!x8)) rfl (fun hb1 => ?_) (fun hb1 => ?_)
 · replace H := cnt hb1 H
   refine WP.sr ?_
   refine WPL.qq (q_build bu23 rfl) ?_
   refine WPL.s (s_store sz23 rfl rfl rfl rfl rfl) ?_
   refine WPL.qq (q_as (v := .lit (.int _ _)) rfl) ?_
   refine WPL.nx ?_
   refine WP.retW ?_
   obtain ⟨rfl, rfl, rfl⟩ := j3 H
   exact W.now (Then.r (BodyR.mkR trivial rfl [2] ⟨rfl, rfl⟩ ⟨rfl, AA1, by decide, rfl, trivial⟩ rfl rfl))
 replace H := cnf hb1 H
 refine WP.skipW ?_
 refine W.now ?_
 refine Then.n ?_
 refine WP.seq ?_
 refine WP.sr ?_
 refine WPL.qq (q_fieldAddr fi23_0 rfl rfl) ?_
 refine WPL.qq (q_load sc2 rfl rfl rfl) ?_
 obtain ⟨x13, h2, H⟩ := bnd H
 refine WPL.qq (q_nm (q_eql rfl rfl) (nm_bool h2)) ?_
 refine WPL.nx ?_
 refine WP.cond (t := x13) rfl (fun hb2 => ?_) (fun hb2 => ?_)
 · replace H := cnt hb2 H
   refine WP.sr ?_
   refine WPL.qq (q_load_ag ag23 rfl rfl (Nat.le_of_ble_eq_true rfl)) ?_
   refine WPL.qq (q_load_ag ag23 rfl rfl (Nat.le_of_ble_eq_true rfl)) ?_
   obtain ⟨⟨x14, x15, x16⟩, h3, H⟩ := bnd H
   refine WPL.c (runs_call (s := []) (t := [4]) (N := 5) (bor := []) fn148 rfl (s_dec_lowest k x9 x10 x11 x12 x14 x15 x16 h3) ⟨rfl, trivial, by decide, rfl, trivial⟩ rfl trivial (.ren rfl rfl (.ren rfl rfl .nil)) rfl BB1 rfl) rfl ?_
   refine WPL.qq (q_extract rfl rfl) ?_
   refine WPL.qq (q_extract rfl rfl) ?_
   refine WPL.s (s_store sz23 rfl rfl rfl rfl rfl) ?_
   refine WPL.qq (q_as (v := .lit (.int _ _)) rfl) ?_
   refine WPL.nx ?_
   refine WP.retW ?_
   obtain ⟨rfl, rfl, rfl⟩ := j3 H
   exact W.now (Then.r (BodyR.mkR trivial rfl [2] ⟨rfl, rfl⟩ ⟨rfl, AA1, by decide, rfl, trivial⟩ rfl rfl))
 replace H := cnf hb2 H
 refine WP.skipW ?_
 refine W.now ?_
 refine Then.n ?_
 refine WP.sr ?_
 refine WPL.qq (q_fieldAddr fi23_0 rfl rfl) ?_
 refine WPL.qq (q_load sc2 rfl rfl rfl) ?_
 refine WPL.qq (q_neg rfl) ?_
 refine WPL.qq (q_fieldAddr fi23_0 rfl rfl) ?_
 refine WPL.s (s_store sz2 rfl rfl rfl rfl rfl) ?_
 refine WPL.nx ?_
 refine WP.sr ?_
 refine WPL.qq (q_load_ag ag23 rfl rfl (Nat.le_of_ble_eq_true rfl)) ?_
 refine WPL.qq (q_load_ag ag23 rfl rfl (Nat.le_of_ble_eq_true rfl)) ?_
 obtain ⟨⟨x17, x18, x19⟩, h4, H⟩ := bnd H
 refine WPL.c (runs_call (s := []) (t := [4]) (N := 5) (bor := []) fn108 rfl (s_dec_Add k x9 x10 (IntKind.wrap .i64 (0 - x11)) x12 x17 x18 x19 h4) ⟨rfl, trivial, by decide, rfl, trivial⟩ rfl trivial (.ren rfl rfl (.ren rfl rfl .nil)) rfl BB1 rfl) rfl ?_
 refine WPL.qq (q_extract rfl rfl) ?_
 refine WPL.qq (q_extract rfl rfl) ?_
 refine WPL.s (s_store sz23 rfl rfl rfl rfl rfl) ?_
 refine WPL.qq (q_as (v := .lit (.int _ _)) rfl) ?_
 refine WPL.nx ?_
 refine WP.retW ?_
 obtain ⟨rfl, rfl, rfl⟩ := j3 H
 exact W.now (BodyR.mkR trivial rfl [2] ⟨rfl, rfl⟩ ⟨rfl, AA1, by decide, rfl, trivial⟩ rfl rfl)
theorem s_dec_Mul (k : Nat) (x1 : Int) (x2 : Int) (x3 : Int) (x4 : Int) (x5 : Int) (x6 : Int) (x7 : Int) (H : g_dec_Mul k x1 x2 x3 x4 = some (x5, x6, x7)) : Go.Q.Spec Tryz.prog 75 0 [.agg [.lit (.int .i64 x1), .lit (.int .i64 x2)], .agg [.lit (.int .i64 x3), .lit (.int .i64 x4)]] Mem.nil (fun o M => o = .ret (.tup [.agg [.lit (.int .i64 x6), .lit (.int .i64 x7)], .lit (.int .i64 x5)]) ∧ M = (Mem.nil.push (.cells 23 [.lit (.int .i64 x6), .lit (.int .i64 x7)]))) := by
 unfold g_dec_Mul at H
 refine Go.Q.Spec.of_bodyR (az := [(23, 2)]) (rs := [.cell 4 23, .tmp 5]) (nt := 41) Tryz.func75 rfl rfl (by intro t T h; simp at h; rcases h with ⟨rfl, rfl⟩ <;> first | exact ag23) rfl rfl fun cx hnp => ?_
 refine WP.sr ?_
 refine WPL.d (d_box rfl rfl) rfl ?_
 refine WPL.d (d_box rfl rfl) rfl ?_
 refine WPL.d (d_alloc ze23 rfl) rfl ?_
 refine WPL.qq (q_as (v := .lit (.int _ _)) rfl) ?_
 refine WPL.nx ?_
 refine WP.seq ?_
 refine WP.sr ?_
 refine WPL.d (d_buildCells li144 rfl rfl rfl rfl rfl) rfl ?_
 obtain ⟨⟨x8, x9, x10, x11, x12⟩, h1, H⟩ := bnd H
 refine WPL.c (runs_call (s := [3, 0, 1]) (t := [3, 0, 1]) (N := 4) (bor := []) fn99 rfl (s_dec_clean k x1 x2 x3 x4 x8 x9 x10 x11 x12 h1) ⟨rfl, AA3, by decide, rfl, trivial⟩ rfl trivial (.ren rfl rfl .nil) rfl BB3 rfl) rfl ?_
 refine WPL.qq (q_not rfl) ?_
 refine WPL.nx ?_
 refine WP.cond (t := (!x8)) rfl (fun hb1 => ?_) (fun hb1 => ?_)
 · replace H := cnt hb1 H
   refine WP.sr ?_
   refine WPL.qq (q_build bu23 rfl) ?_
   refine WPL.s (s_store sz23 rfl rfl rfl rfl rfl) ?_
   refine WPL.qq (q_as (v := .lit (.int _ _)) rfl) ?_
   refine WPL.nx ?_
   refine WP.retW ?_
   obtain ⟨rfl, rfl, rfl⟩ := j3 H
   exact W.now (Then.r (BodyR.mkR trivial rfl [2] ⟨rfl, rfl⟩ ⟨rfl, AA1, by decide, rfl, trivial⟩ rfl rfl))
 replace H := cnf hb1 H
 refine WP.skipW ?_
 refine W.now ?_
 refine Then.n ?_
 refine WP.seq ?_
 refine WP.regionD' 12 [0, 1] [] mixed rfl ?_
 refine WPD.tT 0 rfl (q_fieldAddr fi23_0 rfl rfl) ?_
 refine WPD.tT 3 rfl (q_fieldAddr fi23_0 rfl rfl) ?_
 refine WPD.take 1 rfl (by kernel_rfl) (q_load sc2 rfl rfl rfl) rfl rfl ?_
 refine WPD.take 4 rfl (by kernel_rfl) (q_load sc2 rfl rfl rfl) rfl rfl ?_
 obtain ⟨x13, h2, H⟩ := bnd H
 refine WPD.ef 2 [0, 1] [] rfl (runs_call (s := []) (t := []) (N := 4) (bor := []) fn102 rfl (s_dec_size k x9 x13 h2) ⟨rfl, trivial, by decide, rfl, trivial⟩ rfl trivial (.ren rfl rfl .nil) rfl trivial rfl) ?_
 obtain ⟨x14, h3, H⟩ := bnd H
 refine WPD.ef 5 [0, 1] [] rfl (runs_call (s := []) (t := []) (N := 4) (bor := []) fn102 rfl (s_dec_size k x11 x14 h3) ⟨rfl, trivial, by decide, rfl, trivial⟩ rfl trivial (.ren rfl rfl .nil) rfl trivial rfl) ?_
 obtain ⟨x15, h4, H⟩ := bnd H
 refine WPD.ef 6 [0, 1] [] rfl (runs_call (s := []) (t := []) (N := 4) (bor := []) fn121 rfl (s_mb_Mul64 k x13 x14 x15 h4) ⟨rfl, trivial, by decide, rfl, trivial⟩ rfl trivial (.ren rfl rfl (.ren rfl rfl .nil)) rfl trivial rfl) ?_
 refine WPD.tT 7 rfl (q_mv (v := .tup _) rfl) ?_
 refine WPD.tT 8 rfl (q_extract rfl rfl) ?_
 refine WPD.tT 9 rfl (q_extract rfl rfl) ?_
 refine WPD.tT 10 rfl (q_as (v := .lit (.int _ _)) rfl) ?_
 refine WPD.tT 11 rfl (q_as (v := .lit (.int _ _)) rfl) ?_
 refine WPD.doneW (by kernel_rfl) ?_
 refine W.now ?_
 refine Then.n ?_
 refine WP.sr ?_
 refine WPL.qq (q_fieldAddr fi23_0 rfl rfl) ?_
 refine WPL.qq (q_load sc2 rfl rfl rfl) ?_
 refine WPL.qq (q_lss rfl rfl) ?_
 refine WPL.qq (q_fieldAddr fi23_0 rfl rfl) ?_
 refine WPL.qq (q_load sc2 rfl rfl rfl) ?_
 refine WPL.qq (q_lss rfl rfl) ?_
 obtain ⟨x16, h5, H⟩ := bnd H
 refine WPL.qq (q_nm (q_neqb Tryz.underlying4 rfl rfl) (nm_bool h5)) ?_
 refine WPL.qq (q_mv (v := .lit (.int _ _)) rfl) ?_
 refine WPL.qq (q_mv (v := .lit (.int _ _)) rfl) ?_
 refine WPL.qq (q_build bu69 rfl) ?_
 refine WPL.qq (q_fieldAddr fi23_1 rfl rfl) ?_
 refine WPL.qq (q_load sc3 rfl rfl rfl) ?_
 refine WPL.qq (q_fieldAddr fi23_1 rfl rfl) ?_
 refine WPL.qq (q_load sc3 rfl rfl rfl) ?_
 refine WPL.qq (q_add rfl rfl) ?_
 refine WPL.qq (q_build bu71 rfl) ?_
 obtain ⟨⟨x17, x18, x19⟩, h5, H⟩ := bnd H
 refine WPL.c (runs_call (s := []) (t := [4]) (N := 5) (bor := []) fn82 rfl (s_dec_num_tell k x16 x15 (IntKind.wrap .u64 (x13 * x14)) (IntKind.wrap .i64 (x10 + x12)) x17 x18 x19 h5) ⟨rfl, trivial, by decide, rfl, trivial⟩ rfl trivial (.ren rfl rfl .nil) rfl BB1 rfl) rfl ?_
 refine WPL.qq (q_extract rfl rfl) ?_
 refine WPL.qq (q_extract rfl rfl) ?_
 refine WPL.s (s_store sz23 rfl rfl rfl rfl rfl) ?_
 refine WPL.qq (q_as (v := .lit (.int _ _)) rfl) ?_
 refine WPL.nx ?_
 refine WP.retW ?_
 obtain ⟨rfl, rfl, rfl⟩ := j3 H
 exact W.now (BodyR.mkR trivial rfl [2] ⟨rfl, rfl⟩ ⟨rfl, AA1, by decide, rfl, trivial⟩ rfl rfl)
theorem s_dec_factors (k : Nat) (x1 : Int) (x2 : Int) (x3 : Int) (x4 : Int) (H : g_dec_factors k x1 x2 = some (x3, x4)) : Go.Q.Spec Tryz.prog 149 0 [.lit (.int .u64 x1), .lit (.int .u64 x2)] Mem.nil (fun o M => o = .ret (.tup [.lit (.int .i64 x3), .lit (.int .u64 x4)]) ∧ M = Mem.nil) := by
 unfold g_dec_factors at H
 refine Go.Q.Spec.of_bodyR (az := []) (rs := [.tmp 4, .tmp 5]) (nt := 18) Tryz.func149 rfl rfl (by intro t T h; simp at h) rfl rfl fun cx hnp => ?_
 refine WP.sr ?_
 refine WPL.qq (q_as (v := .lit (.int _ _)) rfl) ?_
 refine WPL.qq (q_as (v := .lit (.int _ _)) rfl) ?_
 refine WPL.nx ?_
 refine WP.sr ?_
 refine WPL.qq (q_as (v := .lit (.int _ _)) rfl) ?_
 refine WPL.nx ?_
 refine WP.seq ?_
 refine WP.block ?_
 refine WP.cv (Cv.weak (E' := (((Env.none.upd 0 (.lit (.int .u64 x1))).upd 1 (.lit (.int .u64 x2))).upd 6 (.lit (.int .i64 0)))) (M' := Mem.nil) [] hnp ⟨rfl, trivial, by decide, rfl, trivial⟩ (LeE.u (LeE.u (LeE.u (LeE.none rfl rfl))))) ?_
 obtain ⟨⟨x5, x6⟩, H1, H⟩ := bnd H
 refine WP.monoW (Q := fun x E M => x = .exit 0 ∧ E = ((Env.none.upd 0 (.lit (.int .u64 x5))).upd 6 (.lit (.int .i64 x6))) ∧ M = Mem.nil) ?_ ?_
 · refine WP.loop (β := Int × Int) (fun n b => g_dec_factors_l0 k x2 n b.1 b.2 = some (x5, x6)) (fun b => (((Env.none.upd 0 (.lit (.int .u64 b.1))).upd 1 (.lit (.int .u64 x2))).upd 6 (.lit (.int .i64 b.2)))) (fun b => Mem.nil) k (x1, 0) H1 rfl rfl ?_
   rintro n ⟨x7, x8⟩ H
   obtain _ | n := n
   · exact nf rfl H
   rw [g_dec_factors_l0.eq_2] at H
   show WP _ _ _ _ (((Env.none.upd 0 (.lit (.int .u64 x7))).upd 1 (.lit (.int .u64 x2))).upd 6 (.lit (.int .i64 x8))) Mem.nil _
   refine WP.seq ?_
   refine WP.sr ?_
   refine WPL.qq (q_mv (v := .lit (.int _ _)) rfl) ?_
   refine WPL.qq (q_mv (v := .lit (.int _ _)) rfl) ?_
   obtain ⟨h1, H⟩ := grd H
   refine WPL.qq (q_rem rfl rfl (bnot h1)) ?_
   refine WPL.qq (q_eql rfl rfl) ?_
   refine WPL.nx ?_
   refine WP.cond (t := (decide ((Int.tmod x7 x2) = 0))) rfl (fun hb1 => ?_) (fun hb1 => ?_)
   · replace H := cnt hb1 H
     refine WP.skipW ?_
     refine W.now ?_
     refine Then.n ?_
     refine WP.block ?_
     refine WP.sr ?_
     refine WPL.qq (q_mv (v := .lit (.int _ _)) rfl) ?_
     refine WPL.qq (q_mv (v := .lit (.int _ _)) rfl) ?_
     obtain ⟨h2, H⟩ := grd H
     refine WPL.qq (q_quo rfl rfl (bnot h2)) ?_
     refine WPL.qq (q_as (v := .lit (.int _ _)) rfl) ?_
     refine WPL.nx ?_
     refine WP.region ?_
     refine WPL.qq (q_mv (v := .lit (.int _ _)) rfl) ?_
     refine WPL.qq (q_add rfl rfl) ?_
     refine WPL.qq (q_as (v := .lit (.int _ _)) rfl) ?_
     refine WPL.nilW ?_
     exact W.wk [] hnp (InBlock.n (Then.n ⟨n, ((IntKind.wrap .u64 (Int.tdiv x7 x2)), (IntKind.wrap .i64 (x8 + 1))), Nat.lt_succ_self n, H, rfl, rfl⟩)) ⟨rfl, trivial, by decide, rfl, trivial⟩ (LeE.u (LeE.u (LeE.u (LeE.none rfl rfl)))) rfl
   replace H := cnf hb1 H
   refine WP.exitW ?_
   obtain ⟨rfl, rfl⟩ := j2 H
   exact W.wk [] hnp (Then.x (Then.x r3)) ⟨rfl, trivial, by decide, rfl, trivial⟩ (LeE.u (LeE.u (LeE.none rfl rfl))) rfl
 rintro _ _ _ ⟨rfl, rfl, rfl⟩
 refine W.now ?_
 refine InBlock.x0 ?_
 refine Then.n ?_
 refine WP.sr ?_
 refine WPL.qq (q_mv (v := .lit (.int _ _)) rfl) ?_
 refine WPL.qq (q_mv (v := .lit (.int _ _)) rfl) ?_
 refine WPL.qq (q_as (v := .lit (.int _ _)) rfl) ?_
 refine WPL.qq (q_as (v := .lit (.int _ _)) rfl) ?_
 refine WPL.nx ?_
 refine WP.retW ?_
 obtain ⟨rfl, rfl⟩ := j2 H
 exact W.now (BodyR.mkR trivial rfl [] ⟨rfl, rfl⟩ ⟨rfl, trivial, by decide, rfl, trivial⟩ rfl rfl)
theorem s_dec_Div (k : Nat) (x1 : Int) (x2 : Int) (x3 : Int) (x4 : Int) (x5 : Int) (x6 : Int) (x7 : Int) (H : g_dec_Div k x1 x2 x3 x4 = some (x5, x6, x7)) : Go.Q.Spec Tryz.prog 110 0 [.agg [.lit (.int .i64 x1), .lit (.int .i64 x2)], .agg [.lit (.int .i64 x3), .lit (.int .i64 x4)]] Mem.nil (fun o M => o = .ret (.tup [.agg [.lit (.int .i64 x6), .lit (.int .i64 x7)], .lit (.int .i64 x5)]) ∧ M = (Mem.nil.push (.cells 23 [.lit (.int .i64 x6), .lit (.int .i64 x7)]))) := by
 unfold g_dec_Div at H
 refine Go.Q.Spec.of_bodyR (az := [(23, 2)]) (rs := [.cell 4 23, .tmp 5]) (nt := 118) Tryz.func110 rfl rfl (by intro t T h; simp at h; rcases h with ⟨rfl, rfl⟩ <;> first | exact ag23) rfl rfl fun cx hnp => ?_
 refine WP.sr ?_
 refine WPL.d (d_box rfl rfl) rfl ?_
 refine WPL.d (d_box rfl rfl) rfl ?_
 refine WPL.d (d_alloc ze23 rfl) rfl ?_
 refine WPL.qq (q_as (v := .lit (.int _ _)) rfl) ?_
 refine WPL.nx ?_
 refine WP.seq ?_
 refine WP.sr ?_
 refine WPL.d (d_buildCells li144 rfl rfl rfl rfl rfl) rfl ?_
 obtain ⟨⟨x8, x9, x10, x11, x12⟩, h1, H⟩ := bnd H
 refine WPL.c (runs_call (s := [3, 0, 1]) (t := [3, 0, 1]) (N := 4) (bor := []) fn99 rfl (s_dec_clean k x1 x2 x3 x4 x8 x9 x10 x11 x12 h1) ⟨rfl, AA3, by decide, rfl, trivial⟩ rfl trivial (.ren rfl rfl .nil) rfl BB3 rfl) rfl ?_
 refine WPL.qq (q_not rfl) ?_
 refine WPL.nx ?_
 refine WP.cond (t := (!x8)) rfl (fun hb1 => ?_) (fun hb1 => ?_)
 · replace H := cnt hb1 H
   refine WP.sr ?_
   refine WPL.qq (q_build bu23 rfl) ?_
   refine WPL.s (s_store sz23 rfl rfl rfl rfl rfl) ?_
   refine WPL.qq (q_as (v := .lit (.int _ _)) rfl) ?_
   refine WPL.nx ?_
   refine WP.retW ?_
   obtain ⟨rfl, rfl, rfl⟩ := j3 H
   exact W.now (Then.r (BodyR.mkR trivial rfl [2] ⟨rfl, rfl⟩ ⟨rfl, AA1, by decide, rfl, trivial⟩ rfl rfl))
 replace H := cnf hb1 H
 refine WP.skipW ?_
 refine W.now ?_
 refine Then.n ?_
 refine WP.seq ?_
 refine WP.sr ?_
 refine WPL.qq (q_fieldAddr fi23_0 rfl rfl) ?_
 refine WPL.qq (q_load sc2 rfl rfl rfl) ?_
 refine WPL.qq (q_eql rfl rfl) ?_
 refine WPL.nx ?_
 refine WP.cond (t := (decide (x11 = 0))) rfl (fun hb2 => ?_) (fun hb2 => ?_)
 · replace H := cnt hb2 H
   refine WP.sr ?_
   refine WPL.qq (q_build bu23 rfl) ?_
   refine WPL.s (s_store sz23 rfl rfl rfl rfl rfl) ?_
   refine WPL.qq (q_as (v := .lit (.int _ _)) rfl) ?_
   refine WPL.nx ?_
   refine WP.retW ?_
   obtain ⟨rfl, rfl, rfl⟩ := j3 H
   exact W.now (Then.r (BodyR.mkR trivial rfl [2] ⟨rfl, rfl⟩ ⟨rfl, AA1, by decide, rfl, trivial⟩ rfl rfl))
 replace H := cnf hb2 H
 refine WP.skipW ?_
 refine W.now ?_
 refine Then.n ?_
 refine WP.seq ?_
 refine WP.sr ?_
 refine WPL.qq (q_fieldAddr fi23_0 rfl rfl) ?_
 refine WPL.qq (q_load sc2 rfl rfl rfl) ?_
 refine WPL.qq (q_eql rfl rfl) ?_
 refine WPL.nx ?_
 refine WP.cond (t := (decide (x9 = 0))) rfl (fun hb3 => ?_) (fun hb3 => ?_)
 · replace H := cnt hb3 H
   refine WP.sr ?_
   refine WPL.qq (q_build bu23 rfl) ?_
   refine WPL.s (s_store sz23 rfl rfl rfl rfl rfl) ?_
   refine WPL.qq (q_as (v := .lit (.int _ _)) rfl) ?_
   refine WPL.nx ?_
   refine WP.retW ?_
   obtain ⟨rfl, rfl, rfl⟩ := j3 H
   exact W.now (Then.r (BodyR.mkR trivial rfl [2] ⟨rfl, rfl⟩ ⟨rfl, AA1, by decide, rfl, trivial⟩ rfl rfl))
 replace H := cnf hb3 H
 refine WP.skipW ?_
 refine W.now ?_
 refine Then.n ?_
 refine WP.seq ?_
 refine WP.regionD' 8 [0, 1] [] mixed rfl ?_
 refine WPD.tT 0 rfl (q_fieldAddr fi23_0 rfl rfl) ?_
 refine WPD.tT 3 rfl (q_fieldAddr fi23_0 rfl rfl) ?_
 refine WPD.take 1 rfl (by kernel_rfl) (q_load sc2 rfl rfl rfl) rfl rfl ?_
 refine WPD.take 4 rfl (by kernel_rfl) (q_load sc2 rfl rfl rfl) rfl rfl ?_
 obtain ⟨x13, h2, H⟩ := bnd H
 refine WPD.ef 2 [0, 1] [] rfl (runs_call (s := []) (t := []) (N := 4) (bor := []) fn102 rfl (s_dec_size k x9 x13 h2) ⟨rfl, trivial, by decide, rfl, trivial⟩ rfl trivial (.ren rfl rfl .nil) rfl trivial rfl) ?_
 obtain ⟨x14, h3, H⟩ := bnd H
 refine WPD.ef 5 [0, 1] [] rfl (runs_call (s := []) (t := []) (N := 4) (bor := []) fn102 rfl (s_dec_size k x11 x14 h3) ⟨rfl, trivial, by decide, rfl, trivial⟩ rfl trivial (.ren rfl rfl .nil) rfl trivial rfl) ?_
 refine WPD.tT 6 rfl (q_as (v := .lit (.int _ _)) rfl) ?_
 refine WPD.tT 7 rfl (q_as (v := .lit (.int _ _)) rfl) ?_
 refine WPD.doneW (by kernel_rfl) ?_
 refine W.now ?_
 refine Then.n ?_
 refine WP.sr ?_
 refine WPL.qq (q_mv (v := .lit (.int _ _)) rfl) ?_
 refine WPL.qq (q_mv (v := .lit (.int _ _)) rfl) ?_
 refine WPL.qq (q_as (v := .lit (.int _ _)) rfl) ?_
 refine WPL.qq (q_as (v := .lit (.int _ _)) rfl) ?_
 refine WPL.nx ?_
 refine WP.seq ?_
 refine WP.block ?_
 refine WP.cv (Cv.weak (E' := (((((((Env.none.upd 2 (.ptr 0 0)).upd 3 (.ptr 1 0)).upd 4 (.ptr 2 0)).upd 6 (.lit (.int .u64 x13))).upd 7 (.lit (.int .u64 x14))).upd 8 (.lit (.int .u64 x13))).upd 9 (.lit (.int .u64 x14)))) (M' := (((Mem.nil.push (.cells 23 [.lit (.int .i64 x9), .lit (.int .i64 x10)])).push (.cells 23 [.lit (.int .i64 x11), .lit (.int .i64 x12)])).push (.cells 23 [.lit (.int .i64 0), .lit (.int .i64 0)]))) [0, 1, 2] hnp ⟨rfl, AA3, by decide, rfl, trivial⟩ (LeE.u (LeE.u (LeE.u (LeE.u (LeE.u (LeE.u (LeE.u (LeE.none rfl rfl))))))))) ?_
 obtain ⟨x15, H1, H⟩ := bnd H
 refine WP.monoW (Q := fun x E M => x = .exit 0 ∧ E = ((((((Env.none.upd 2 (.ptr 0 0)).upd 3 (.ptr 1 0)).upd 4 (.ptr 2 0)).upd 6 (.lit (.int .u64 x13))).upd 7 (.lit (.int .u64 x14))).upd 8 (.lit (.int .u64 x15))) ∧ M = (((Mem.nil.push (.cells 23 [.lit (.int .i64 x9), .lit (.int .i64 x10)])).push (.cells 23 [.lit (.int .i64 x11), .lit (.int .i64 x12)])).push (.cells 23 [.lit (.int .i64 0), .lit (.int .i64 0)]))) ?_ ?_
 · refine WP.loop (β := Int × Int) (fun n b => g_dec_Div_l0 k n b.1 b.2 = some x15) (fun b => (((((((Env.none.upd 2 (.ptr 0 0)).upd 3 (.ptr 1 0)).upd 4 (.ptr 2 0)).upd 6 (.lit (.int .u64 x13))).upd 7 (.lit (.int .u64 x14))).upd 8 (.lit (.int .u64 b.1))).upd 9 (.lit (.int .u64 b.2)))) (fun b => (((Mem.nil.push (.cells 23 [.lit (.int .i64 x9), .lit (.int .i64 x10)])).push (.cells 23 [.lit (.int .i64 x11), .lit (.int .i64 x12)])).push (.cells 23 [.lit (.int .i64 0), .lit (.int .i64 0)]))) k (x13, x14) H1 rfl rfl ?_
   rintro n ⟨x16, x17⟩ H
   obtain _ | n := n
   · exact nf rfl H
   rw [g_dec_Div_l0.eq_2] at H
   show WP _ _ _ _ (((((((Env.none.upd 2 (.ptr 0 0)).upd 3 (.ptr 1 0)).upd 4 (.ptr 2 0)).upd 6 (.lit (.int .u64 x13))).upd 7 (.lit (.int .u64 x14))).upd 8 (.lit (.int .u64 x16))).upd 9 (.lit (.int .u64 x17))) (((Mem.nil.push (.cells 23 [.lit (.int .i64 x9), .lit (.int .i64 x10)])).push (.cells 23 [.lit (.int .i64 x11), .lit (.int .i64 x12)])).push (.cells 23 [.lit (.int .i64 0), .lit (.int .i64 0)])) _
   refine WP.seq ?_
   refine WP.sr ?_
   refine WPL.qq (q_mv (v := .lit (.int _ _)) rfl) ?_
   refine WPL.qq (q_neq rfl rfl) ?_
   refine WPL.nx ?_
   refine WP.cond (t := (!decide (x17 = 0))) rfl (fun hb4 => ?_) (fun hb4 => ?_)
   · replace H := cnt hb4 H
     refine WP.skipW ?_
     refine W.now ?_
     refine Then.n ?_
     refine WP.block ?_
     refine WP.regionD' 6 [] [] mixed rfl ?_
     refine WPD.tT 0 rfl (q_mv (v := .lit (.int _ _)) rfl) ?_
     refine WPD.tT 1 rfl (q_mv (v := .lit (.int _ _)) rfl) ?_
     refine WPD.tT 2 rfl (q_mv (v := .lit (.int _ _)) rfl) ?_
     obtain ⟨h4, H⟩ := grd H
     refine WPD.tT 3 rfl (q_rem rfl rfl (bnot h4)) ?_
     refine WPD.tT 4 rfl (q_as (v := .lit (.int _ _)) rfl) ?_
     refine WPD.tT 5 rfl (q_as (v := .lit (.int _ _)) rfl) ?_
     refine WPD.doneW (by kernel_rfl) ?_
     exact W.wk [0, 1, 2] hnp (InBlock.n (Then.n ⟨n, (x17, (Int.tmod x16 x17)), Nat.lt_succ_self n, H, rfl, rfl⟩)) ⟨rfl, AA3, by decide, rfl, trivial⟩ (LeE.u (LeE.u (LeE.u (LeE.u (LeE.u (LeE.u (LeE.u (LeE.none rfl rfl)))))))) rfl
   replace H := cnf hb4 H
   refine WP.exitW ?_
   have q0 := j1 H
   subst q0
   exact W.wk [0, 1, 2] hnp (Then.x (Then.x r3)) ⟨rfl, AA3, by decide, rfl, trivial⟩ (LeE.u (LeE.u (LeE.u (LeE.u (LeE.u (LeE.u (LeE.none rfl rfl))))))) rfl
 rintro _ _ _ ⟨rfl, rfl, rfl⟩
 refine W.now ?_
 refine InBlock.x0 ?_
 refine Then.n ?_
 refine WP.sr ?_
 refine WPL.qq (q_mv (v := .lit (.int _ _)) rfl) ?_
 refine WPL.qq (q_mv (v := .lit (.int _ _)) rfl) ?_
 obtain ⟨h5, H⟩ := grd H
 refine WPL.qq (q_quo rfl rfl (bnot h5)) ?_
 obtain ⟨⟨x18, x19⟩, h6, H⟩ := bnd H
 refine WPL.c (runs_call (s := []) (t := []) (N := 3) (bor := []) fn149 rfl (s_dec_factors k (IntKind.wrap .u64 (Int.tdiv x14 x15)) 2 x18 x19 h6) ⟨rfl, trivial, by decide, rfl, trivial⟩ rfl trivial (.ren rfl rfl (.ren rfl rfl .nil)) rfl trivial rfl) rfl ?_
 refine WPL.qq (q_mv (v := .tup _) rfl) ?_
 refine WPL.qq (q_extract rfl rfl) ?_
 refine WPL.qq (q_extract rfl rfl) ?_
 refine WPL.qq (q_as (v := .lit (.int _ _)) rfl) ?_
 refine WPL.qq (q_as (v := .lit (.int _ _)) rfl) ?_
 refine WPL.nx ?_
 refine WP.sr ?_
 refine WPL.qq (q_mv (v := .lit (.int _ _)) rfl) ?_
 obtain ⟨⟨x20, x21⟩, h7, H⟩ := bnd H
 refine WPL.c (runs_call (s := []) (t := []) (N := 3) (bor := []) fn149 rfl (s_dec_factors k x19 5 x20 x21 h7) ⟨rfl, trivial, by decide, rfl, trivial⟩ rfl trivial (.ren rfl rfl (.ren rfl rfl .nil)) rfl trivial rfl) rfl ?_
 refine WPL.qq (q_mv (v := .tup _) rfl) ?_
 refine WPL.qq (q_extract rfl rfl) ?_
 refine WPL.qq (q_extract rfl rfl) ?_
 refine WPL.qq (q_as (v := .lit (.int _ _)) rfl) ?_
 refine WPL.qq (q_as (v := .lit (.int _ _)) rfl) ?_
 refine WPL.nx ?_
 refine WP.seq ?_
 refine WP.sr ?_
 refine WPL.qq (q_mv (v := .lit (.int _ _)) rfl) ?_
 refine WPL.qq (q_neq rfl rfl) ?_
 refine WPL.nx ?_
 refine WP.cond (t := (!decide (x21 = 1))) rfl (fun hb5 => ?_) (fun hb5 => ?_)
 · replace H := cnt hb5 H
   refine WP.sr ?_
   refine WPL.qq (q_build bu23 rfl) ?_
   refine WPL.s (s_store sz23 rfl rfl rfl rfl rfl) ?_
   refine WPL.qq (q_as (v := .lit (.int _ _)) rfl) ?_
   refine WPL.nx ?_
   refine WP.retW ?_
   obtain ⟨rfl, rfl, rfl⟩ := j3 H
   exact W.now (Then.r (BodyR.mkR trivial rfl [2] ⟨rfl, rfl⟩ ⟨rfl, AA1, by decide, rfl, trivial⟩ rfl rfl))
 replace H := cnf hb5 H
 refine WP.skipW ?_
 refine W.now ?_
 refine Then.n ?_
 refine WP.sr ?_
 refine WPL.qq (q_mv (v := .lit (.int _ _)) rfl) ?_
 refine WPL.qq (q_mv (v := .lit (.int _ _)) rfl) ?_
 obtain ⟨x22, h8, H⟩ := bnd H
 refine WPL.qq (q_nm (q_max rfl rfl) (nm_int h8)) ?_
 refine WPL.qq (q_as (v := .lit (.int _ _)) rfl) ?_
 refine WPL.nx ?_
 refine WP.sr ?_
 refine WPL.qq (q_mv (v := .lit (.int _ _)) rfl) ?_
 refine WPL.qq (q_mv (v := .lit (.int _ _)) rfl) ?_
 obtain ⟨h8, H⟩ := grd H
 refine WPL.qq (q_quo rfl rfl (bnot h8)) ?_
 refine WPL.qq (q_build bu69 rfl) ?_
 refine WPL.d (d_alloc ze69 rfl) rfl ?_
 refine WPL.s (s_store sz69 rfl rfl rfl rfl rfl) ?_
 refine WPL.qq (q_as (v := .lit (.bool _)) rfl) ?_
 refine WPL.nx ?_
 refine WP.seq ?_
 refine WP.sr ?_
 refine WPL.qq (q_as (v := .lit (.int _ _)) rfl) ?_
 refine WPL.nx ?_
 refine WP.block ?_
 refine WP.cv (Cv.weak (E' := (((((((((Env.none.upd 2 (.ptr 0 0)).upd 3 (.ptr 1 0)).upd 4 (.ptr 2 0)).upd 10 (.lit (.int .i64 x18))).upd 12 (.lit (.int .i64 x20))).upd 13 (.lit (.int .i64 x22))).upd 14 (.ptr 3 0)).upd 15 (.lit (.bool true))).upd 16 (.lit (.int .i64 0)))) (M' := ((((Mem.nil.push (.cells 23 [.lit (.int .i64 x9), .lit (.int .i64 x10)])).push (.cells 23 [.lit (.int .i64 x11), .lit (.int .i64 x12)])).push (.cells 23 [.lit (.int .i64 0), .lit (.int .i64 0)])).push (.cells 69 [.lit (.int .u64 0), .lit (.int .u64 (IntKind.wrap .u64 (Int.tdiv x13 x15)))]))) [0, 1, 2, 3] hnp ⟨rfl, AA4, by decide, rfl, trivial⟩ (LeE.u (LeE.u (LeE.u (LeE.u (LeE.u (LeE.u (LeE.u (LeE.u (LeE.u (LeE.none rfl rfl))))))))))) ?_
 obtain ⟨⟨x23, x24, x25⟩, H2, H⟩ := bnd H
 refine WP.monoW (Q := fun x E M => x = .exit 2 ∧ E = (((((((Env.none.upd 2 (.ptr 0 0)).upd 3 (.ptr 1 0)).upd 4 (.ptr 2 0)).upd 12 (.lit (.int .i64 x20))).upd 13 (.lit (.int .i64 x22))).upd 14 (.ptr 3 0)).upd 15 (.lit (.bool x23))) ∧ M = ((((Mem.nil.push (.cells 23 [.lit (.int .i64 x9), .lit (.int .i64 x10)])).push (.cells 23 [.lit (.int .i64 x11), .lit (.int .i64 x12)])).push (.cells 23 [.lit (.int .i64 0), .lit (.int .i64 0)])).push (.cells 69 [.lit (.int .u64 x24), .lit (.int .u64 x25)]))) ?_ ?_
 · refine WP.loop (β := Bool × Int × Int × Int) (fun n b => g_dec_Div_l1 k x18 x22 n b.1 b.2.1 b.2.2.1 b.2.2.2 = some (x23, x24, x25)) (fun b => (((((((((Env.none.upd 2 (.ptr 0 0)).upd 3 (.ptr 1 0)).upd 4 (.ptr 2 0)).upd 10 (.lit (.int .i64 x18))).upd 12 (.lit (.int .i64 x20))).upd 13 (.lit (.int .i64 x22))).upd 14 (.ptr 3 0)).upd 15 (.lit (.bool b.1))).upd 16 (.lit (.int .i64 b.2.1)))) (fun b => ((((Mem.nil.push (.cells 23 [.lit (.int .i64 x9), .lit (.int .i64 x10)])).push (.cells 23 [.lit (.int .i64 x11), .lit (.int .i64 x12)])).push (.cells 23 [.lit (.int .i64 0), .lit (.int .i64 0)])).push (.cells 69 [.lit (.int .u64 b.2.2.1), .lit (.int .u64 b.2.2.2)]))) k (true, 0, 0, (IntKind.wrap .u64 (Int.tdiv x13 x15))) H2 rfl rfl ?_
   rintro n ⟨x26, x27, x28, x29⟩ H
   obtain _ | n := n
   · exact nf rfl H
   rw [g_dec_Div_l1.eq_2] at H
   show WP _ _ _ _ (((((((((Env.none.upd 2 (.ptr 0 0)).upd 3 (.ptr 1 0)).upd 4 (.ptr 2 0)).upd 10 (.lit (.int .i64 x18))).upd 12 (.lit (.int .i64 x20))).upd 13 (.lit (.int .i64 x22))).upd 14 (.ptr 3 0)).upd 15 (.lit (.bool x26))).upd 16 (.lit (.int .i64 x27))) ((((Mem.nil.push (.cells 23 [.lit (.int .i64 x9), .lit (.int .i64 x10)])).push (.cells 23 [.lit (.int .i64 x11), .lit (.int .i64 x12)])).push (.cells 23 [.lit (.int .i64 0), .lit (.int .i64 0)])).push (.cells 69 [.lit (.int .u64 x28), .lit (.int .u64 x29)])) _
   refine WP.seq ?_
   refine WP.seq ?_
   obtain ⟨x30, H3, H⟩ := bnd H
   refine WP.monoW (Q := fun x E M => x = .normal ∧ E = ((((((((((Env.none.upd 2 (.ptr 0 0)).upd 3 (.ptr 1 0)).upd 4 (.ptr 2 0)).upd 10 (.lit (.int .i64 x18))).upd 12 (.lit (.int .i64 x20))).upd 13 (.lit (.int .i64 x22))).upd 14 (.ptr 3 0)).upd 15 (.lit (.bool x26))).upd 16 (.lit (.int .i64 x27))).upd 73 (.lit (.bool x30))) ∧ M = ((((Mem.nil.push (.cells 23 [.lit (.int .i64 x9), .lit (.int .i64 x10)])).push (.cells 23 [.lit (.int .i64 x11), .lit (.int .i64 x12)])).push (.cells 23 [.lit (.int .i64 0), .lit (.int .i64 0)])).push (.cells 69 [.lit (.int .u64 x28), .lit (.int .u64 x29)]))) ?_ ?_
   · clear H
     have H := H3
     clear H3
     refine WP.region ?_
     refine WPL.qq (q_mv (v := .lit (.int _ _)) rfl) ?_
     refine WPL.qq (q_mv (v := .lit (.int _ _)) rfl) ?_
     refine WPL.qq (q_mv (v := .lit (.int _ _)) rfl) ?_
     refine WPL.qq (q_sub rfl rfl) ?_
     obtain ⟨x31, h9, H⟩ := bnd H
     refine WPL.qq (q_nm (q_lss rfl rfl) (nm_bool h9)) ?_
     refine WPL.qq (q_mv (v := .lit (.bool _)) rfl) ?_
     refine WPL.split (t := 71) (b := x31) rfl (fun hb6 => ?_) (fun hb6 => ?_)
     · replace H := cnt hb6 H
       refine WPL.gq rfl (lb hb6) (q_mv (v := .lit (.bool _)) rfl) ?_
       refine WPL.qq (q_pickT (v := .lit (.bool _)) (lb hb6) rfl) ?_
       refine WPL.nilW ?_
       have q0 := j1 H
       subst q0
       exact W.wk [0, 1, 2, 3] hnp r3 ⟨rfl, AA4, by decide, rfl, trivial⟩ (LeE.u (LeE.u (LeE.u (LeE.u (LeE.u (LeE.u (LeE.u (LeE.u (LeE.u (LeE.u (LeE.none rfl rfl))))))))))) rfl
     replace H := cnf hb6 H
     refine WPL.sg false rfl (lb hb6) ?_
     refine WPL.qq (q_pickF (v := .lit (.bool _)) (lb hb6) rfl) ?_
     refine WPL.nilW ?_
     have q0 := j1 H
     subst q0
     exact W.wk [0, 1, 2, 3] hnp r3 ⟨rfl, AA4, by decide, rfl, trivial⟩ (LeE.u (LeE.u (LeE.u (LeE.u (LeE.u (LeE.u (LeE.u (LeE.u (LeE.u (LeE.u (LeE.none rfl rfl))))))))))) rfl
   rintro _ _ _ ⟨rfl, rfl, rfl⟩
   refine W.now ?_
   refine Then.n ?_
   refine WP.cond (t := x30) rfl (fun hb7 => ?_) (fun hb7 => ?_)
   · replace H := cnt hb7 H
     refine WP.skipW ?_
     refine W.now ?_
     refine Then.n ?_
     refine WP.seq ?_
     refine WP.block ?_
     refine WP.region ?_
     refine WPL.qq (q_load_ag ag69 rfl rfl (Nat.le_of_ble_eq_true rfl)) ?_
     obtain ⟨⟨x32, x33⟩, h10, H⟩ := bnd H
     refine WPL.c (runs_call (s := []) (t := [4]) (N := 5) (bor := []) fn93 rfl (s_dec_wide_times k x28 x29 2 x32 x33 h10) ⟨rfl, trivial, by decide, rfl, trivial⟩ rfl trivial (.ren rfl rfl (.ren rfl rfl .nil)) rfl BB1 rfl) rfl ?_
     refine WPL.qq (q_mv (v := .tup _) rfl) ?_
     refine WPL.qq (q_extract rfl rfl) ?_
     refine WPL.qq (q_extract rfl rfl) ?_
     refine WPL.s (s_store sz69 rfl rfl rfl rfl rfl) ?_
     refine WPL.qq (q_as (v := .lit (.bool _)) rfl) ?_
     refine WPL.nilW ?_
     refine W.now ?_
     refine InBlock.n ?_
     refine Then.n ?_
     refine WP.region ?_
     refine WPL.qq (q_mv (v := .lit (.int _ _)) rfl) ?_
     refine WPL.qq (q_add rfl rfl) ?_
     refine WPL.qq (q_as (v := .lit (.int _ _)) rfl) ?_
     refine WPL.nilW ?_
     exact W.wk [0, 1, 2, 3] hnp (Then.n ⟨n, (x32, (IntKind.wrap .i64 (x27 + 1)), x33, (IntKind.wrap .u64 (x29 * 2))), Nat.lt_succ_self n, H, rfl, rfl⟩) ⟨rfl, AA4, by decide, rfl, trivial⟩ (LeE.u (LeE.u (LeE.u (LeE.u (LeE.u (LeE.u (LeE.u (LeE.u (LeE.u (LeE.none rfl rfl)))))))))) rfl
   replace H := cnf hb7 H
   refine WP.exitW ?_
   obtain ⟨rfl, rfl, rfl⟩ := j3 H
   exact W.wk [0, 1, 2, 3] hnp (Then.x (Then.x r3)) ⟨rfl, AA4, by decide, rfl, trivial⟩ (LeE.u (LeE.u (LeE.u (LeE.u (LeE.u (LeE.u (LeE.u (LeE.none rfl rfl)))))))) rfl
 rintro _ _ _ ⟨rfl, rfl, rfl⟩
 refine W.now ?_
 refine InBlock.x0 ?_
 refine Then.n ?_
 refine WP.seq ?_
 refine WP.sr ?_
 refine WPL.qq (q_as (v := .lit (.int _ _)) rfl) ?_
 refine WPL.nx ?_
 refine WP.block ?_
 refine WP.cv (Cv.weak (E' := ((((((((Env.none.upd 2 (.ptr 0 0)).upd 3 (.ptr 1 0)).upd 4 (.ptr 2 0)).upd 12 (.lit (.int .i64 x20))).upd 13 (.lit (.int .i64 x22))).upd 14 (.ptr 3 0)).upd 15 (.lit (.bool x23))).upd 17 (.lit (.int .i64 0)))) (M' := ((((Mem.nil.push (.cells 23 [.lit (.int .i64 x9), .lit (.int .i64 x10)])).push (.cells 23 [.lit (.int .i64 x11), .lit (.int .i64 x12)])).push (.cells 23 [.lit (.int .i64 0), .lit (.int .i64 0)])).push (.cells 69 [.lit (.int .u64 x24), .lit (.int .u64 x25)]))) [0, 1, 2, 3] hnp ⟨rfl, AA4, by decide, rfl, trivial⟩ (LeE.u (LeE.u (LeE.u (LeE.u (LeE.u (LeE.u (LeE.u (LeE.u (LeE.none rfl rfl)))))))))) ?_
 obtain ⟨⟨x34, x35, x36⟩, H4, H⟩ := bnd H
 refine WP.monoW (Q := fun x E M => x = .exit 4 ∧ E = ((((((Env.none.upd 2 (.ptr 0 0)).upd 3 (.ptr 1 0)).upd 4 (.ptr 2 0)).upd 13 (.lit (.int .i64 x22))).upd 14 (.ptr 3 0)).upd 15 (.lit (.bool x34))) ∧ M = ((((Mem.nil.push (.cells 23 [.lit (.int .i64 x9), .lit (.int .i64 x10)])).push (.cells 23 [.lit (.int .i64 x11), .lit (.int .i64 x12)])).push (.cells 23 [.lit (.int .i64 0), .lit (.int .i64 0)])).push (.cells 69 [.lit (.int .u64 x35), .lit (.int .u64 x36)]))) ?_ ?_
 · refine WP.loop (β := Bool × Int × Int × Int) (fun n b => g_dec_Div_l2 k x20 x22 n b.1 b.2.1 b.2.2.1 b.2.2.2 = some (x34, x35, x36)) (fun b => ((((((((Env.none.upd 2 (.ptr 0 0)).upd 3 (.ptr 1 0)).upd 4 (.ptr 2 0)).upd 12 (.lit (.int .i64 x20))).upd 13 (.lit (.int .i64 x22))).upd 14 (.ptr 3 0)).upd 15 (.lit (.bool b.1))).upd 17 (.lit (.int .i64 b.2.1)))) (fun b => ((((Mem.nil.push (.cells 23 [.lit (.int .i64 x9), .lit (.int .i64 x10)])).push (.cells 23 [.lit (.int .i64 x11), .lit (.int .i64 x12)])).push (.cells 23 [.lit (.int .i64 0), .lit (.int .i64 0)])).push (.cells 69 [.lit (.int .u64 b.2.2.1), .lit (.int .u64 b.2.2.2)]))) k (x23, 0, x24, x25) H4 rfl rfl ?_
   rintro n ⟨x37, x38, x39, x40⟩ H
   obtain _ | n := n
   · exact nf rfl H
   rw [g_dec_Div_l2.eq_2] at H
   show WP _ _ _ _ ((((((((Env.none.upd 2 (.ptr 0 0)).upd 3 (.ptr 1 0)).upd 4 (.ptr 2 0)).upd 12 (.lit (.int .i64 x20))).upd 13 (.lit (.int .i64 x22))).upd 14 (.ptr 3 0)).upd 15 (.lit (.bool x37))).upd 17 (.lit (.int .i64 x38))) ((((Mem.nil.push (.cells 23 [.lit (.int .i64 x9), .lit (.int .i64 x10)])).push (.cells 23 [.lit (.int .i64 x11), .lit (.int .i64 x12)])).push (.cells 23 [.lit (.int .i64 0), .lit (.int .i64 0)])).push (.cells 69 [.lit (.int .u64 x39), .lit (.int .u64 x40)])) _
   refine WP.seq ?_
   refine WP.seq ?_
   obtain ⟨x41, H5, H⟩ := bnd H
   refine WP.monoW (Q := fun x E M => x = .normal ∧ E = (((((((((Env.none.upd 2 (.ptr 0 0)).upd 3 (.ptr 1 0)).upd 4 (.ptr 2 0)).upd 12 (.lit (.int .i64 x20))).upd 13 (.lit (.int .i64 x22))).upd 14 (.ptr 3 0)).upd 15 (.lit (.bool x37))).upd 17 (.lit (.int .i64 x38))).upd 88 (.lit (.bool x41))) ∧ M = ((((Mem.nil.push (.cells 23 [.lit (.int .i64 x9), .lit (.int .i64 x10)])).push (.cells 23 [.lit (.int .i64 x11), .lit (.int .i64 x12)])).push (.cells 23 [.lit (.int .i64 0), .lit (.int .i64 0)])).push (.cells 69 [.lit (.int .u64 x39), .lit (.int .u64 x40)]))) ?_ ?_
   · clear H
     have H := H5
     clear H5
     refine WP.region ?_
     refine WPL.qq (q_mv (v := .lit (.int _ _)) rfl) ?_
     refine WPL.qq (q_mv (v := .lit (.int _ _)) rfl) ?_
     refine WPL.qq (q_mv (v := .lit (.int _ _)) rfl) ?_
     refine WPL.qq (q_sub rfl rfl) ?_
     obtain ⟨x42, h11, H⟩ := bnd H
     refine WPL.qq (q_nm (q_lss rfl rfl) (nm_bool h11)) ?_
     refine WPL.qq (q_mv (v := .lit (.bool _)) rfl) ?_
     refine WPL.split (t := 86) (b := x42) rfl (fun hb8 => ?_) (fun hb8 => ?_)
     · replace H := cnt hb8 H
       refine WPL.gq rfl (lb hb8) (q_mv (v := .lit (.bool _)) rfl) ?_
       refine WPL.qq (q_pickT (v := .lit (.bool _)) (lb hb8) rfl) ?_
       refine WPL.nilW ?_
       have q0 := j1 H
       subst q0
       exact W.wk [0, 1, 2, 3] hnp r3 ⟨rfl, AA4, by decide, rfl, trivial⟩ (LeE.u (LeE.u (LeE.u (LeE.u (LeE.u (LeE.u (LeE.u (LeE.u (LeE.u (LeE.none rfl rfl)))))))))) rfl
     replace H := cnf hb8 H
     refine WPL.sg false rfl (lb hb8) ?_
     refine WPL.qq (q_pickF (v := .lit (.bool _)) (lb hb8) rfl) ?_
     refine WPL.nilW ?_
     have q0 := j1 H
     subst q0
     exact W.wk [0, 1, 2, 3] hnp r3 ⟨rfl, AA4, by decide, rfl, trivial⟩ (LeE.u (LeE.u (LeE.u (LeE.u (LeE.u (LeE.u (LeE.u (LeE.u (LeE.u (LeE.none rfl rfl)))))))))) rfl
   rintro _ _ _ ⟨rfl, rfl, rfl⟩
   refine W.now ?_
   refine Then.n ?_
   refine WP.cond (t := x41) rfl (fun hb9 => ?_) (fun hb9 => ?_)
   · replace H := cnt hb9 H
     refine WP.skipW ?_
     refine W.now ?_
     refine Then.n ?_
     refine WP.seq ?_
     refine WP.block ?_
     refine WP.region ?_
     refine WPL.qq (q_load_ag ag69 rfl rfl (Nat.le_of_ble_eq_true rfl)) ?_
     obtain ⟨⟨x43, x44⟩, h12, H⟩ := bnd H
     refine WPL.c (runs_call (s := []) (t := [4]) (N := 5) (bor := []) fn93 rfl (s_dec_wide_times k x39 x40 5 x43 x44 h12) ⟨rfl, trivial, by decide, rfl, trivial⟩ rfl trivial (.ren rfl rfl (.ren rfl rfl .nil)) rfl BB1 rfl) rfl ?_
     refine WPL.qq (q_mv (v := .tup _) rfl) ?_
     refine WPL.qq (q_extract rfl rfl) ?_
     refine WPL.qq (q_extract rfl rfl) ?_
     refine WPL.s (s_store sz69 rfl rfl rfl rfl rfl) ?_
     refine WPL.qq (q_as (v := .lit (.bool _)) rfl) ?_
     refine WPL.nilW ?_
     refine W.now ?_
     refine InBlock.n ?_
     refine Then.n ?_
     refine WP.region ?_
     refine WPL.qq (q_mv (v := .lit (.int _ _)) rfl) ?_
     refine WPL.qq (q_add rfl rfl) ?_
     refine WPL.qq (q_as (v := .lit (.int _ _)) rfl) ?_
     refine WPL.nilW ?_
     exact W.wk [0, 1, 2, 3] hnp (Then.n ⟨n, (x43, (IntKind.wrap .i64 (x38 + 1)), x44, (IntKind.wrap .u64 (x40 * 5))), Nat.lt_succ_self n, H, rfl, rfl⟩) ⟨rfl, AA4, by decide, rfl, trivial⟩ (LeE.u (LeE.u (LeE.u (LeE.u (LeE.u (LeE.u (LeE.u (LeE.u (LeE.none rfl rfl))))))))) rfl
   replace H := cnf hb9 H
   refine WP.exitW ?_
   obtain ⟨rfl, rfl, rfl⟩ := j3 H
   exact W.wk [0, 1, 2, 3] hnp (Then.x (Then.x r3)) ⟨rfl, AA4, by decide, rfl, trivial⟩ (LeE.u (LeE.u (LeE.u (LeE.u (LeE.u (LeE.u (LeE.none rfl rfl))))))) rfl
 rintro _ _ _ ⟨rfl, rfl, rfl⟩
 refine W.now ?_
 refine InBlock.x0 ?_
 refine Then.n ?_
 refine WP.seq ?_
 refine WP.sr ?_
 refine WPL.qq (q_mv (v := .lit (.bool _)) rfl) ?_
 refine WPL.qq (q_not rfl) ?_
 refine WPL.nx ?_
 refine WP.cond (t := (!x34)) rfl (fun hb10 => ?_) (fun hb10 => ?_)
 · replace H := cnt hb10 H
   refine WP.sr ?_
   refine WPL.qq (q_build bu23 rfl) ?_
   refine WPL.s (s_store sz23 rfl rfl rfl rfl rfl) ?_
   refine WPL.qq (q_as (v := .lit (.int _ _)) rfl) ?_
   refine WPL.nx ?_
   refine WP.retW ?_
   obtain ⟨rfl, rfl, rfl⟩ := j3 H
   exact W.now (Then.r (BodyR.mkR trivial rfl [2] ⟨rfl, rfl⟩ ⟨rfl, AA1, by decide, rfl, trivial⟩ rfl rfl))
 replace H := cnf hb10 H
 refine WP.skipW ?_
 refine W.now ?_
 refine Then.n ?_
 refine WP.sr ?_
 refine WPL.qq (q_fieldAddr fi23_0 rfl rfl) ?_
 refine WPL.qq (q_load sc2 rfl rfl rfl) ?_
 refine WPL.qq (q_lss rfl rfl) ?_
 refine WPL.qq (q_fieldAddr fi23_0 rfl rfl) ?_
 refine WPL.qq (q_load sc2 rfl rfl rfl) ?_
 refine WPL.qq (q_lss rfl rfl) ?_
 obtain ⟨x45, h13, H⟩ := bnd H
 refine WPL.qq (q_nm (q_neqb Tryz.underlying4 rfl rfl) (nm_bool h13)) ?_
 refine WPL.qq (q_load_ag ag69 rfl rfl (Nat.le_of_ble_eq_true rfl)) ?_
 refine WPL.qq (q_fieldAddr fi23_1 rfl rfl) ?_
 refine WPL.qq (q_load sc3 rfl rfl rfl) ?_
 refine WPL.qq (q_fieldAddr fi23_1 rfl rfl) ?_
 refine WPL.qq (q_load sc3 rfl rfl rfl) ?_
 refine WPL.qq (q_sub rfl rfl) ?_
 refine WPL.qq (q_mv (v := .lit (.int _ _)) rfl) ?_
 obtain ⟨x46, h14, H⟩ := bnd H
 refine WPL.qq (q_nm (q_sub rfl rfl) (nm_int h14)) ?_
 refine WPL.qq (q_build bu71 rfl) ?_
 obtain ⟨⟨x47, x48, x49⟩, h14, H⟩ := bnd H
 refine WPL.c (runs_call (s := []) (t := [4]) (N := 5) (bor := []) fn82 rfl (s_dec_num_tell k x45 x35 x36 x46 x47 x48 x49 h14) ⟨rfl, trivial, by decide, rfl, trivial⟩ rfl trivial (.ren rfl rfl .nil) rfl BB1 rfl) rfl ?_
 refine WPL.qq (q_extract rfl rfl) ?_
 refine WPL.qq (q_extract rfl rfl) ?_
 refine WPL.s (s_store sz23 rfl rfl rfl rfl rfl) ?_
 refine WPL.qq (q_as (v := .lit (.int _ _)) rfl) ?_
 refine WPL.nx ?_
 refine WP.retW ?_
 obtain ⟨rfl, rfl, rfl⟩ := j3 H
 exact W.now (BodyR.mkR trivial rfl [2] ⟨rfl, rfl⟩ ⟨rfl, AA1, by decide, rfl, trivial⟩ rfl rfl)
theorem s_dec_clean__b (k : Nat) (x1 : Int) (x2 : Int) (x3 : Bool) (x4 : Int) (x5 : Int) (H : g_dec_clean__b k x1 x2 = some (x3, x4, x5)) : Go.Q.Spec Tryz.prog 99 2 [.sl 0 1 0 1] ((Mem.nil.push (.cells 96 [.ptr 1 0])).push (.cells 23 [.lit (.int .i64 x1), .lit (.int .i64 x2)])) (fun o M => o = .ret (.lit (.bool x3)) ∧ M = ((Mem.nil.push (.cells 96 [.ptr 1 0])).push (.cells 23 [.lit (.int .i64 x4), .lit (.int .i64 x5)]))) := by
 unfold g_dec_clean__b at H
 refine Go.Q.Spec.of_bodyR (az := []) (rs := [.tmp 2]) (nt := 28) Tryz.func99 rfl rfl (by intro t T h; simp at h) rfl rfl fun cx hnp => ?_
 refine WP.sr ?_
 refine WPL.qq (q_as (v := .lit (.bool _)) rfl) ?_
 refine WPL.nx ?_
 refine WP.seq ?_
 refine WP.sr ?_
 refine WPL.qq (q_mv (v := .sl _ _ _ _) rfl) ?_
 refine WPL.qq (q_len_sl (k := 1) sl144 rfl rfl) ?_
 refine WPL.qq (q_mv (v := .lit (.int _ _)) rfl) ?_
 refine WPL.nx ?_
 refine WP.block ?_
 refine WP.loopU ?_
 refine WPI.round ?_
 refine WP.sr ?_
 refine WPL.qq (q_lss rfl rfl) ?_
 refine WPL.nx ?_
 refine WP.seq ?_
 refine WP.condT rfl ?_
 refine WP.skipW ?_
 refine W.now ?_
 refine Then.n ?_
 refine WP.seq ?_
 refine WP.block ?_
 refine WP.sr ?_
 refine WPL.qq (q_index_sl (o := 0) sl144 rfl rfl rfl rfl) ?_
 refine WPL.qq (q_load sc96 rfl rfl rfl) ?_
 refine WPL.qq (q_as (v := .ptr _ _) rfl) ?_
 refine WPL.nx ?_
 refine WP.seq ?_
 refine WP.sr ?_
 refine WPL.qq (q_mv (v := .ptr _ _) rfl) ?_
 refine WPL.qq (q_nilCheck rfl) ?_
 refine WPL.qq (q_load_ag ag23 rfl rfl (Nat.le_of_ble_eq_true rfl)) ?_
 refine WPL.d (d_buildSlice (ds := ([(⟨x1, x2⟩ : S_api_Dec)] : List S_api_Dec)) (R := rdS_api_Dec) li130 rfl rfl rfl rfl rfl (JoinRows.cons (l := [.lit (.int .i64 x1), .lit (.int .i64 x2)]) (Joins.via (Joins.cons Joins.sc (Joins.cons Joins.sc Joins.unit))) rfl JoinRows.nil) rfl rfl) rfl ?_
 obtain ⟨x6, h1, H⟩ := bnd H
 refine WPL.c (runs_call (s := []) (t := []) (N := 3) (bor := [2]) fn83 rfl (s_dec_ranged k ([(⟨x1, x2⟩ : S_api_Dec)] : List S_api_Dec) x6 h1) ⟨rfl, trivial, by decide, rfl, trivial⟩ rfl ⟨trivial, rfl, rfl, trivial⟩ (.row rfl rfl .nil) rfl trivial rfl) rfl ?_
 refine WPL.qq (q_not rfl) ?_
 refine WPL.nx ?_
 refine WP.cond (t := (!x6)) rfl (fun hb1 => ?_) (fun hb1 => ?_)
 · replace H := cnt hb1 H
   refine WP.sr ?_
   refine WPL.qq (q_as (v := .lit (.bool _)) rfl) ?_
   refine WPL.nx ?_
   refine WP.retW ?_
   obtain ⟨rfl, rfl, rfl⟩ := j3 H
   exact W.now (Then.r (InBlock.r (Then.r (Then.r (InBlock.r (Then.r (BodyR.mkR trivial rfl [0, 1] ⟨rfl, rfl⟩ ⟨rfl, AA2, by decide, rfl, BB2⟩ rfl rfl)))))))
 replace H := cnf hb1 H
 refine WP.skipW ?_
 refine W.now ?_
 refine Then.n ?_
 refine WP.region ?_
 refine WPL.qq (q_mv (v := .ptr _ _) rfl) ?_
 refine WPL.qq (q_mv (v := .ptr _ _) rfl) ?_
 refine WPL.qq (q_nilCheck rfl) ?_
 refine WPL.qq (q_load_ag ag23 rfl rfl (Nat.le_of_ble_eq_true rfl)) ?_
 obtain ⟨x7, h2, H⟩ := bnd H
 refine WPL.c (runs_call (s := []) (t := [3]) (N := 4) (bor := []) fn81 rfl (s_dec_of k x1 x2 x7 h2) ⟨rfl, trivial, by decide, rfl, trivial⟩ rfl trivial (.ren rfl rfl .nil) rfl BB1 rfl) rfl ?_
 obtain ⟨⟨x8, x9, x10⟩, h3, H⟩ := bnd H
 refine WPL.c (runs_call (s := []) (t := [4]) (N := 5) (bor := []) fn82 rfl (s_dec_num_tell k (decide (x1 < 0)) 0 x7 x2 x8 x9 x10 h3) ⟨rfl, trivial, by decide, rfl, trivial⟩ rfl trivial (.ren rfl rfl .nil) rfl BB1 rfl) rfl ?_
 refine WPL.qq (q_mv (v := .tup _) rfl) ?_
 refine WPL.qq (q_extract rfl rfl) ?_
 refine WPL.qq (q_extract rfl rfl) ?_
 refine WPL.qq (q_nilCheck rfl) ?_
 refine WPL.s (s_store sz23 rfl rfl rfl rfl rfl) ?_
 refine WPL.nilW ?_
 refine W.now ?_
 refine InBlock.n ?_
 refine Then.n ?_
 refine WP.region ?_
 refine WPL.qq (q_nm (q_add rfl rfl) (fold_int (b := 1) (by decide))) ?_
 refine WPL.qq (q_mv (v := .lit (.int _ _)) rfl) ?_
 refine WPL.nx ?_
 refine WPI.round ?_
 refine WP.sr ?_
 refine WPL.qq (q_lss rfl rfl) ?_
 refine WPL.nx ?_
 refine WP.seq ?_
 refine WP.condF rfl ?_
 refine WP.exitW ?_
 refine W.now ?_
 refine Then.x ?_
 refine Then.x ?_
 refine InBlock.x0 ?_
 refine Then.n ?_
 refine WP.sr ?_
 refine WPL.qq (q_as (v := .lit (.bool _)) rfl) ?_
 refine WPL.nx ?_
 refine WP.retW ?_
 obtain ⟨rfl, rfl, rfl⟩ := j3 H
 exact W.now (BodyR.mkR trivial rfl [0, 1] ⟨rfl, rfl⟩ ⟨rfl, AA2, by decide, rfl, BB2⟩ rfl rfl)
theorem s_dec_Int (k : Nat) (x1 : Int) (x2 : Int) (x3 : Int) (x4 : Bool) (H : g_dec_Int k x1 x2 = some (x3, x4)) : Go.Q.Spec Tryz.prog 150 0 [.agg [.lit (.int .i64 x1), .lit (.int .i64 x2)]] Mem.nil (fun o M => o = .ret (.tup [.lit (.int .i64 x3), .lit (.bool x4)]) ∧ M = Mem.nil) := by
 unfold g_dec_Int at H
 refine Go.Q.Spec.of_bodyR (az := []) (rs := [.tmp 2, .tmp 3]) (nt := 46) Tryz.func150 rfl rfl (by intro t T h; simp at h) rfl rfl fun cx hnp => ?_
 refine WP.sr ?_
 refine WPL.d (d_box rfl rfl) rfl ?_
 refine WPL.qq (q_as (v := .lit (.int _ _)) rfl) ?_
 refine WPL.qq (q_as (v := .lit (.bool _)) rfl) ?_
 refine WPL.nx ?_
 refine WP.seq ?_
 refine WP.seq ?_
 obtain ⟨⟨x5, x6, x7⟩, H1, H⟩ := bnd H
 refine WP.monoW (Q := fun x E M => x = .normal ∧ E = ((Env.none.upd 1 (.ptr 0 0)).upd 13 (.lit (.bool x5))) ∧ M = (Mem.nil.push (.cells 23 [.lit (.int .i64 x6), .lit (.int .i64 x7)]))) ?_ ?_
 · clear H
   have H := H1
   clear H1
   refine WP.region ?_
   refine WPL.d (d_buildCells li144 rfl rfl rfl rfl rfl) rfl ?_
   obtain ⟨⟨x8, x9, x10⟩, h1, H⟩ := bnd H
   refine WPL.c (runs_call (s := [1, 0]) (t := [1, 0]) (N := 2) (bor := []) fn99 rfl (s_dec_clean__b k x1 x2 x8 x9 x10 h1) ⟨rfl, AA2, by decide, rfl, trivial⟩ rfl trivial (.ren rfl rfl .nil) rfl BB2 rfl) rfl ?_
   refine WPL.qq (q_not rfl) ?_
   refine WPL.qq (q_mv (v := .lit (.bool _)) rfl) ?_
   refine WPL.split (t := 9) (b := (!x8)) rfl (fun hb1 => ?_) (fun hb1 => ?_)
   · replace H := cnt hb1 H
     refine WPL.sg true rfl (lb hb1) ?_
     refine WPL.sg true rfl (lb hb1) ?_
     refine WPL.sg true rfl (lb hb1) ?_
     refine WPL.qq (q_pickT (v := .lit (.bool _)) (lb hb1) rfl) ?_
     refine WPL.nilW ?_
     obtain ⟨rfl, rfl, rfl⟩ := j3 H
     exact W.wk [0] hnp r3 ⟨rfl, AA1, by decide, rfl, trivial⟩ (LeE.u (LeE.u (LeE.none rfl rfl))) rfl
   replace H := cnf hb1 H
   refine WPL.gq rfl (lb hb1) (q_fieldAddr fi23_1 rfl rfl) ?_
   refine WPL.gq rfl (lb hb1) (q_load sc3 rfl rfl rfl) ?_
   refine WPL.gq rfl (lb hb1) (q_lss rfl rfl) ?_
   refine WPL.qq (q_pickF (v := .lit (.bool _)) (lb hb1) rfl) ?_
   refine WPL.nilW ?_
   obtain ⟨rfl, rfl, rfl⟩ := j3 H
   exact W.wk [0] hnp r3 ⟨rfl, AA1, by decide, rfl, trivial⟩ (LeE.u (LeE.u (LeE.none rfl rfl))) rfl
 rintro _ _ _ ⟨rfl, rfl, rfl⟩
 refine W.now ?_
 refine Then.n ?_
 refine WP.cond (t := x5) rfl (fun hb2 => ?_) (fun hb2 => ?_)
 · replace H := cnt hb2 H
   refine WP.sr ?_
   refine WPL.qq (q_as (v := .lit (.int _ _)) rfl) ?_
   refine WPL.qq (q_as (v := .lit (.bool _)) rfl) ?_
   refine WPL.nx ?_
   refine WP.retW ?_
   obtain ⟨rfl, rfl⟩ := j2 H
   exact W.now (Then.r (BodyR.mkR trivial rfl [] ⟨rfl, rfl⟩ ⟨rfl, trivial, by decide, rfl, trivial⟩ rfl rfl))
 replace H := cnf hb2 H
 refine WP.skipW ?_
 refine W.now ?_
 refine Then.n ?_
 refine WP.seq ?_
 obtain ⟨⟨x11, x12, x13⟩, H2, H⟩ := bnd H
 refine WP.monoW (Q := fun x E M => x = .normal ∧ E = (((Env.none.upd 1 (.ptr 0 0)).upd 4 (.ptr 1 0)).upd 5 (.lit (.bool x11))) ∧ M = ((Mem.nil.push (.cells 23 [.lit (.int .i64 x6), .lit (.int .i64 x7)])).push (.cells 69 [.lit (.int .u64 x12), .lit (.int .u64 x13)]))) ?_ ?_
 · clear H
   have H := H2
   clear H2
   refine WP.regionD' 13 [0] [] mixed rfl ?_
   refine WPD.tT 0 rfl (q_fieldAddr fi23_0 rfl rfl) ?_
   refine WPD.tT 4 rfl (q_fieldAddr fi23_1 rfl rfl) ?_
   refine WPD.take 1 rfl (by kernel_rfl) (q_load sc2 rfl rfl rfl) rfl rfl ?_
   refine WPD.take 5 rfl (by kernel_rfl) (q_load sc3 rfl rfl rfl) rfl rfl ?_
   refine WPD.of2 2 10 (by kernel_rfl) ?_ ?_
   · obtain ⟨x14, h2, H⟩ := bnd H
     refine WPD1.eff 2 [0] [] rfl (runs_call (s := []) (t := []) (N := 1) (bor := []) fn102 rfl (s_dec_size k x6 x14 h2) ⟨rfl, trivial, by decide, rfl, trivial⟩ rfl trivial (.ren rfl rfl .nil) rfl trivial rfl) rfl rfl ?_
     refine WPD.tT 3 rfl (q_build bu69 rfl) ?_
     refine WPD.of2 6 10 (by kernel_rfl) ?_ ?_
     · obtain ⟨⟨x15, x16, x17⟩, h3, H⟩ := bnd H
       refine WPD1.eff 6 [0] [] rfl (runs_call (s := []) (t := [1]) (N := 2) (bor := []) fn133 rfl (s_dec_wide_tens k 0 x14 x7 x15 x16 x17 h3) ⟨rfl, trivial, by decide, rfl, trivial⟩ rfl trivial (.ren rfl rfl (.ren rfl rfl .nil)) rfl BB1 rfl) rfl rfl ?_
       refine WPD.tT 7 rfl (q_mv (v := .tup _) rfl) ?_
       refine WPD.tT 8 rfl (q_extract rfl rfl) ?_
       refine WPD.tT 9 rfl (q_extract rfl rfl) ?_
       refine WPD.ef 10 [0] [] rfl (Does.runs (d_alloc ze69 rfl)) ?_
       refine WPD.effS 11 [0] [] rfl (by kernel_rfl) (s_store sz69 rfl rfl rfl rfl rfl) rfl ?_
       refine WPD.tT 12 rfl (q_as (v := .lit (.bool _)) rfl) ?_
       refine WPD.doneW (by kernel_rfl) ?_
       obtain ⟨rfl, rfl, rfl⟩ := j3 H
       exact W.wk [0, 2] hnp r3 ⟨rfl, AA2, by decide, rfl, trivial⟩ (LeE.u (LeE.u (LeE.u (LeE.none rfl rfl)))) rfl
     refine WPD1.eff 10 [0] [] rfl (Does.runs (d_alloc ze69 rfl)) rfl rfl ?_
     obtain ⟨⟨x18, x19, x20⟩, h4, H⟩ := bnd H
     refine WPD.ef 6 [0] [] rfl (runs_call (s := []) (t := [2]) (N := 3) (bor := []) fn133 rfl (s_dec_wide_tens k 0 x14 x7 x18 x19 x20 h4) ⟨rfl, trivial, by decide, rfl, trivial⟩ rfl trivial (.ren rfl rfl (.ren rfl rfl .nil)) rfl BB1 rfl) ?_
     refine WPD.tT 7 rfl (q_mv (v := .tup _) rfl) ?_
     refine WPD.tT 8 rfl (q_extract rfl rfl) ?_
     refine WPD.tT 9 rfl (q_extract rfl rfl) ?_
     refine WPD.effS 11 [0] [] rfl (by kernel_rfl) (s_store sz69 rfl rfl rfl rfl rfl) rfl ?_
     refine WPD.tT 12 rfl (q_as (v := .lit (.bool _)) rfl) ?_
     refine WPD.doneW (by kernel_rfl) ?_
     obtain ⟨rfl, rfl, rfl⟩ := j3 H
     exact W.wk [0, 1] hnp r3 ⟨rfl, AA2, by decide, rfl, trivial⟩ (LeE.u (LeE.u (LeE.u (LeE.none rfl rfl)))) rfl
   refine WPD1.eff 10 [0] [] rfl (Does.runs (d_alloc ze69 rfl)) rfl rfl ?_
   obtain ⟨x21, h5, H⟩ := bnd H
   refine WPD.ef 2 [0] [] rfl (runs_call (s := []) (t := []) (N := 2) (bor := []) fn102 rfl (s_dec_size k x6 x21 h5) ⟨rfl, trivial, by decide, rfl, trivial⟩ rfl trivial (.ren rfl rfl .nil) rfl trivial rfl) ?_
   refine WPD.tT 3 rfl (q_build bu69 rfl) ?_
   obtain ⟨⟨x22, x23, x24⟩, h6, H⟩ := bnd H
   refine WPD.ef 6 [0] [] rfl (runs_call (s := []) (t := [2]) (N := 3) (bor := []) fn133 rfl (s_dec_wide_tens k 0 x21 x7 x22 x23 x24 h6) ⟨rfl, trivial, by decide, rfl, trivial⟩ rfl trivial (.ren rfl rfl (.ren rfl rfl .nil)) rfl BB1 rfl) ?_
   refine WPD.tT 7 rfl (q_mv (v := .tup _) rfl) ?_
   refine WPD.tT 8 rfl (q_extract rfl rfl) ?_
   refine WPD.tT 9 rfl (q_extract rfl rfl) ?_
   refine WPD.effS 11 [0] [] rfl (by kernel_rfl) (s_store sz69 rfl rfl rfl rfl rfl) rfl ?_
   refine WPD.tT 12 rfl (q_as (v := .lit (.bool _)) rfl) ?_
   refine WPD.doneW (by kernel_rfl) ?_
   obtain ⟨rfl, rfl, rfl⟩ := j3 H
   exact W.wk [0, 1] hnp r3 ⟨rfl, AA2, by decide, rfl, trivial⟩ (LeE.u (LeE.u (LeE.u (LeE.none rfl rfl)))) rfl
 rintro _ _ _ ⟨rfl, rfl, rfl⟩
 refine W.now ?_
 refine Then.n ?_
 refine WP.seq ?_
 refine WP.seq ?_
 obtain ⟨x25, H3, H⟩ := bnd H
 refine WP.monoW (Q := fun x E M => x = .normal ∧ E = (((Env.none.upd 1 (.ptr 0 0)).upd 4 (.ptr 1 0)).upd 35 (.lit (.bool x25))) ∧ M = ((Mem.nil.push (.cells 23 [.lit (.int .i64 x6), .lit (.int .i64 x7)])).push (.cells 69 [.lit (.int .u64 x12), .lit (.int .u64 x13)]))) ?_ ?_
 · clear H
   have H := H3
   clear H3
   refine WP.region ?_
   refine WPL.qq (q_mv (v := .lit (.bool _)) rfl) ?_
   refine WPL.qq (q_not rfl) ?_
   refine WPL.qq (q_mv (v := .lit (.bool _)) rfl) ?_
   refine WPL.split (t := 26) (b := (!x11)) rfl (fun hb3 => ?_) (fun hb3 => ?_)
   · replace H := cnt hb3 H
     refine WPL.sg true rfl (lb hb3) ?_
     refine WPL.sg true rfl (lb hb3) ?_
     refine WPL.sg true rfl (lb hb3) ?_
     refine WPL.qq (q_pickT (v := .lit (.bool _)) (lb hb3) rfl) ?_
     refine WPL.qq (q_mv (v := .lit (.bool _)) rfl) ?_
     refine WPL.sg true rfl rfl ?_
     refine WPL.sg true rfl rfl ?_
     refine WPL.sg true rfl rfl ?_
     refine WPL.qq (q_pickT (v := .lit (.bool _)) rfl rfl) ?_
     refine WPL.nilW ?_
     have q0 := j1 H
     subst q0
     exact W.wk [0, 1] hnp r3 ⟨rfl, AA2, by decide, rfl, trivial⟩ (LeE.u (LeE.u (LeE.u (LeE.none rfl rfl)))) rfl
   replace H := cnf hb3 H
   refine WPL.gq rfl (lb hb3) (q_fieldAddr fi69_0 rfl rfl) ?_
   refine WPL.gq rfl (lb hb3) (q_load sc67 rfl rfl rfl) ?_
   refine WPL.gq rfl (lb hb3) (q_gtr rfl rfl) ?_
   refine WPL.qq (q_pickF (v := .lit (.bool _)) (lb hb3) rfl) ?_
   refine WPL.qq (q_mv (v := .lit (.bool _)) rfl) ?_
   refine WPL.split (t := 31) (b := (decide (0 < x12))) rfl (fun hb4 => ?_) (fun hb4 => ?_)
   · replace H := cnt hb4 H
     refine WPL.sg true rfl (lb hb4) ?_
     refine WPL.sg true rfl (lb hb4) ?_
     refine WPL.sg true rfl (lb hb4) ?_
     refine WPL.qq (q_pickT (v := .lit (.bool _)) (lb hb4) rfl) ?_
     refine WPL.nilW ?_
     have q0 := j1 H
     subst q0
     exact W.wk [0, 1] hnp r3 ⟨rfl, AA2, by decide, rfl, trivial⟩ (LeE.u (LeE.u (LeE.u (LeE.none rfl rfl)))) rfl
   replace H := cnf hb4 H
   refine WPL.gq rfl (lb hb4) (q_fieldAddr fi69_1 rfl rfl) ?_
   refine WPL.gq rfl (lb hb4) (q_load sc67 rfl rfl rfl) ?_
   refine WPL.gq rfl (lb hb4) (q_gtr rfl rfl) ?_
   refine WPL.qq (q_pickF (v := .lit (.bool _)) (lb hb4) rfl) ?_
   refine WPL.nilW ?_
   have q0 := j1 H
   subst q0
   exact W.wk [0, 1] hnp r3 ⟨rfl, AA2, by decide, rfl, trivial⟩ (LeE.u (LeE.u (LeE.u (LeE.none rfl rfl)))) rfl
 rintro _ _ _ ⟨rfl, rfl, rfl⟩
 refine W.now ?_
 refine Then.n ?_
 refine WP.cond (t := x25) rfl (fun hb5 => ?_) (fun hb5 => ?_)
 · replace H := cnt hb5 H
   refine WP.sr ?_
   refine WPL.qq (q_as (v := .lit (.int _ _)) rfl) ?_
   refine WPL.qq (q_as (v := .lit (.bool _)) rfl) ?_
   refine WPL.nx ?_
   refine WP.retW ?_
   obtain ⟨rfl, rfl⟩ := j2 H
   exact W.now (Then.r (BodyR.mkR trivial rfl [] ⟨rfl, rfl⟩ ⟨rfl, trivial, by decide, rfl, trivial⟩ rfl rfl))
 replace H := cnf hb5 H
 refine WP.skipW ?_
 refine W.now ?_
 refine Then.n ?_
 refine WP.seq ?_
 refine WP.sr ?_
 refine WPL.qq (q_fieldAddr fi23_0 rfl rfl) ?_
 refine WPL.qq (q_load sc2 rfl rfl rfl) ?_
 refine WPL.qq (q_lss rfl rfl) ?_
 refine WPL.nx ?_
 refine WP.cond (t := (decide (x6 < 0))) rfl (fun hb6 => ?_) (fun hb6 => ?_)
 · replace H := cnt hb6 H
   refine WP.sr ?_
   refine WPL.qq (q_fieldAddr fi69_1 rfl rfl) ?_
   refine WPL.qq (q_load sc67 rfl rfl rfl) ?_
   refine WPL.qq (q_conv Tryz.underlying67 Tryz.underlying3 rfl) ?_
   obtain ⟨x26, h7, H⟩ := bnd H
   refine WPL.qq (q_nm (q_neg rfl) (nm_int h7)) ?_
   refine WPL.qq (q_as (v := .lit (.int _ _)) rfl) ?_
   refine WPL.qq (q_as (v := .lit (.bool _)) rfl) ?_
   refine WPL.nx ?_
   refine WP.retW ?_
   obtain ⟨rfl, rfl⟩ := j2 H
   exact W.now (Then.r (BodyR.mkR trivial rfl [] ⟨rfl, rfl⟩ ⟨rfl, trivial, by decide, rfl, trivial⟩ rfl rfl))
 replace H := cnf hb6 H
 refine WP.skipW ?_
 refine W.now ?_
 refine Then.n ?_
 refine WP.sr ?_
 refine WPL.qq (q_fieldAddr fi69_1 rfl rfl) ?_
 refine WPL.qq (q_load sc67 rfl rfl rfl) ?_
 refine WPL.qq (q_conv Tryz.underlying67 Tryz.underlying3 rfl) ?_
 refine WPL.qq (q_as (v := .lit (.int _ _)) rfl) ?_
 refine WPL.qq (q_as (v := .lit (.bool _)) rfl) ?_
 refine WPL.nx ?_
 refine WP.retW ?_
 obtain ⟨rfl, rfl⟩ := j2 H
 exact W.now (BodyR.mkR trivial rfl [] ⟨rfl, rfl⟩ ⟨rfl, trivial, by decide, rfl, trivial⟩ rfl rfl)
end Go.Proofs.YthpcgknknpjpdaaGreatDoor.W
namespace Go.Proofs.YthpcgknknpjpdaaGreatDoor.W
open Go Go.Q Go.Proofs
set_option linter.unusedVariables false
set_option linter.unusedSimpArgs false
set_option maxRecDepth 100000
set_option maxHeartbeats 4000000
theorem s_dec_Pow (k : Nat) (x1 : Int) (x2 : Int) (x3 : Int) (x4 : Int) (x5 : Int) (x6 : Int) (x7 : Int) (H : g_dec_Pow k x1 x2 x3 x4 = some (x5, x6, x7)) : Go.Q.Spec Tryz.prog 111 0 [.agg [.lit (.int .i64 x1), .lit (.int .i64 x2)], .agg [.lit (.int .i64 x3), .lit (.int .i64 x4)]] Mem.nil (fun o M => o = .ret (.tup [.agg [.lit (.int .i64 x6), .lit (.int .i64 x7)], .lit (.int .i64 x5)]) ∧ M = (Mem.nil.push (.cells 23 [.lit (.int .i64 x6), .lit (.int .i64 x7)]))) := by
 unfold g_dec_Pow at H
 refine Go.Q.Spec.of_bodyR (az := [(23, 2)]) (rs := [.cell 4 23, .tmp 5]) (nt := 66) Tryz.func111 rfl rfl (by intro t T h; simp at h; rcases h with ⟨rfl, rfl⟩ <;> first | exact ag23) rfl rfl fun cx hnp => ?_
 refine WP.sr ?_
 refine WPL.d (d_box rfl rfl) rfl ?_
 refine WPL.d (d_box rfl rfl) rfl ?_
 refine WPL.d (d_alloc ze23 rfl) rfl ?_
 refine WPL.qq (q_as (v := .lit (.int _ _)) rfl) ?_
 refine WPL.nx ?_
 refine WP.seq ?_
 refine WP.sr ?_
 refine WPL.d (d_buildCells li144 rfl rfl rfl rfl rfl) rfl ?_
 obtain ⟨⟨x8, x9, x10, x11, x12⟩, h1, H⟩ := bnd H
 refine WPL.c (runs_call (s := [3, 0, 1]) (t := [3, 0, 1]) (N := 4) (bor := []) fn99 rfl (s_dec_clean k x1 x2 x3 x4 x8 x9 x10 x11 x12 h1) ⟨rfl, AA3, by decide, rfl, trivial⟩ rfl trivial (.ren rfl rfl .nil) rfl BB3 rfl) rfl ?_
 refine WPL.qq (q_not rfl) ?_
 refine WPL.nx ?_
 refine WP.cond (t := (!x8)) rfl (fun hb1 => ?_) (fun hb1 => ?_)
 · replace H := cnt hb1 H
   refine WP.sr ?_
   refine WPL.qq (q_build bu23 rfl) ?_
   refine WPL.s (s_store sz23 rfl rfl rfl rfl rfl) ?_
   refine WPL.qq (q_as (v := .lit (.int _ _)) rfl) ?_
   refine WPL.nx ?_
   refine WP.retW ?_
   obtain ⟨rfl, rfl, rfl⟩ := j3 H
   exact W.now (Then.r (BodyR.mkR trivial rfl [2] ⟨rfl, rfl⟩ ⟨rfl, AA1, by decide, rfl, trivial⟩ rfl rfl))
 replace H := cnf hb1 H
 refine WP.skipW ?_
 refine W.now ?_
 refine Then.n ?_
 refine WP.sr ?_
 refine WPL.qq (q_load_ag ag23 rfl rfl (Nat.le_of_ble_eq_true rfl)) ?_
 obtain ⟨⟨x13, x14⟩, h2, H⟩ := bnd H
 refine WPL.c (runs_call (s := []) (t := []) (N := 4) (bor := []) fn150 rfl (s_dec_Int k x11 x12 x13 x14 h2) ⟨rfl, trivial, by decide, rfl, trivial⟩ rfl trivial (.ren rfl rfl .nil) rfl trivial rfl) rfl ?_
 refine WPL.qq (q_mv (v := .tup _) rfl) ?_
 refine WPL.qq (q_extract rfl rfl) ?_
 refine WPL.qq (q_extract rfl rfl) ?_
 refine WPL.qq (q_as (v := .lit (.int _ _)) rfl) ?_
 refine WPL.qq (q_as (v := .lit (.bool _)) rfl) ?_
 refine WPL.nx ?_
 refine WP.seq ?_
 refine WP.seq ?_
 obtain ⟨x15, H1, H⟩ := bnd H
 refine WP.monoW (Q := fun x E M => x = .normal ∧ E = ((((Env.none.upd 2 (.ptr 0 0)).upd 4 (.ptr 1 0)).upd 6 (.lit (.int .i64 x13))).upd 31 (.lit (.bool x15))) ∧ M = ((Mem.nil.push (.cells 23 [.lit (.int .i64 x9), .lit (.int .i64 x10)])).push (.cells 23 [.lit (.int .i64 0), .lit (.int .i64 0)]))) ?_ ?_
 · clear H
   have H := H1
   clear H1
   refine WP.region ?_
   refine WPL.qq (q_mv (v := .lit (.bool _)) rfl) ?_
   refine WPL.qq (q_not rfl) ?_
   refine WPL.qq (q_mv (v := .lit (.bool _)) rfl) ?_
   refine WPL.split (t := 24) (b := (!x14)) rfl (fun hb2 => ?_) (fun hb2 => ?_)
   · replace H := cnt hb2 H
     refine WPL.sg true rfl (lb hb2) ?_
     refine WPL.sg true rfl (lb hb2) ?_
     refine WPL.qq (q_pickT (v := .lit (.bool _)) (lb hb2) rfl) ?_
     refine WPL.qq (q_mv (v := .lit (.bool _)) rfl) ?_
     refine WPL.sg true rfl rfl ?_
     refine WPL.sg true rfl rfl ?_
     refine WPL.qq (q_pickT (v := .lit (.bool _)) rfl rfl) ?_
     refine WPL.nilW ?_
     have q0 := j1 H
     subst q0
     exact W.wk [0, 2] hnp r3 ⟨rfl, AA2, by decide, rfl, trivial⟩ (LeE.u (LeE.u (LeE.u (LeE.u (LeE.none rfl rfl))))) rfl
   replace H := cnf hb2 H
   refine WPL.gq rfl (lb hb2) (q_mv (v := .lit (.int _ _)) rfl) ?_
   refine WPL.gq rfl (lb hb2) (q_lss rfl rfl) ?_
   refine WPL.qq (q_pickF (v := .lit (.bool _)) (lb hb2) rfl) ?_
   refine WPL.qq (q_mv (v := .lit (.bool _)) rfl) ?_
   refine WPL.split (t := 28) (b := (decide (x13 < (-64)))) rfl (fun hb3 => ?_) (fun hb3 => ?_)
   · replace H := cnt hb3 H
     refine WPL.sg true rfl (lb hb3) ?_
     refine WPL.sg true rfl (lb hb3) ?_
     refine WPL.qq (q_pickT (v := .lit (.bool _)) (lb hb3) rfl) ?_
     refine WPL.nilW ?_
     have q0 := j1 H
     subst q0
     exact W.wk [0, 2] hnp r3 ⟨rfl, AA2, by decide, rfl, trivial⟩ (LeE.u (LeE.u (LeE.u (LeE.u (LeE.none rfl rfl))))) rfl
   replace H := cnf hb3 H
   refine WPL.gq rfl (lb hb3) (q_mv (v := .lit (.int _ _)) rfl) ?_
   refine WPL.gq rfl (lb hb3) (q_gtr rfl rfl) ?_
   refine WPL.qq (q_pickF (v := .lit (.bool _)) (lb hb3) rfl) ?_
   refine WPL.nilW ?_
   have q0 := j1 H
   subst q0
   exact W.wk [0, 2] hnp r3 ⟨rfl, AA2, by decide, rfl, trivial⟩ (LeE.u (LeE.u (LeE.u (LeE.u (LeE.none rfl rfl))))) rfl
 rintro _ _ _ ⟨rfl, rfl, rfl⟩
 refine W.now ?_
 refine Then.n ?_
 refine WP.cond (t := x15) rfl (fun hb4 => ?_) (fun hb4 => ?_)
 · replace H := cnt hb4 H
   refine WP.sr ?_
   refine WPL.qq (q_build bu23 rfl) ?_
   refine WPL.s (s_store sz23 rfl rfl rfl rfl rfl) ?_
   refine WPL.qq (q_as (v := .lit (.int _ _)) rfl) ?_
   refine WPL.nx ?_
   refine WP.retW ?_
   obtain ⟨rfl, rfl, rfl⟩ := j3 H
   exact W.now (Then.r (BodyR.mkR trivial rfl [1] ⟨rfl, rfl⟩ ⟨rfl, AA1, by decide, rfl, trivial⟩ rfl rfl))
 replace H := cnf hb4 H
 refine WP.skipW ?_
 refine W.now ?_
 refine Then.n ?_
 refine WP.seq ?_
 obtain ⟨y1, H2, H⟩ := bnd H
 refine WP.monoW (Q := fun x E M => match (generalizing := false) y1 with | (Sum.inl x16) => x = .ret ∧ E = ((Env.none.upd 4 (.ptr 0 0)).upd 5 (.lit (.int .i64 x16))) ∧ M = (Mem.nil.push (.cells 23 [.lit (.int .i64 0), .lit (.int .i64 0)])) | (Sum.inr (x17, x18, x19)) => x = .normal ∧ E = (((Env.none.upd 2 (.ptr 0 0)).upd 4 (.ptr 1 0)).upd 6 (.lit (.int .i64 x17))) ∧ M = ((Mem.nil.push (.cells 23 [.lit (.int .i64 x18), .lit (.int .i64 x19)])).push (.cells 23 [.lit (.int .i64 0), .lit (.int .i64 0)]))) ?_ ?_
 · clear H
   have H := H2
   clear H2
   refine WP.sr ?_
   refine WPL.qq (q_mv (v := .lit (.int _ _)) rfl) ?_
   refine WPL.qq (q_lss rfl rfl) ?_
   refine WPL.nx ?_
   refine WP.cond (t := (decide (x13 < 0))) rfl (fun hb5 => ?_) (fun hb5 => ?_)
   · replace H := cnt hb5 H
     refine WP.sr ?_
     refine WPL.qq (q_build bu23 rfl) ?_
     refine WPL.qq (q_load_ag ag23 rfl rfl (Nat.le_of_ble_eq_true rfl)) ?_
     obtain ⟨⟨x20, x21, x22⟩, h3, H⟩ := bnd H
     refine WPL.c (runs_call (s := []) (t := [2]) (N := 3) (bor := []) fn110 rfl (s_dec_Div k 1 0 x9 x10 x20 x21 x22 h3) ⟨rfl, trivial, by decide, rfl, trivial⟩ rfl trivial (.ren rfl rfl (.ren rfl rfl .nil)) rfl BB1 rfl) rfl ?_
     refine WPL.qq (q_mv (v := .tup _) rfl) ?_
     refine WPL.qq (q_extract rfl rfl) ?_
     refine WPL.qq (q_extract rfl rfl) ?_
     refine WPL.d (d_alloc ze23 rfl) rfl ?_
     refine WPL.s (s_store sz23 rfl rfl rfl rfl rfl) ?_
     refine WPL.qq (q_as (v := .lit (.int _ _)) rfl) ?_
     refine WPL.nx ?_
     refine WP.seq ?_
     refine WP.sr ?_
     refine WPL.qq (q_mv (v := .lit (.int _ _)) rfl) ?_
     refine WPL.qq (q_neq rfl rfl) ?_
     refine WPL.nx ?_
     refine WP.cond (t := (!decide (x20 = 0))) rfl (fun hb6 => ?_) (fun hb6 => ?_)
     · replace H := cnt hb6 H
       refine WP.sr ?_
       refine WPL.qq (q_build bu23 rfl) ?_
       refine WPL.qq (q_mv (v := .lit (.int _ _)) rfl) ?_
       refine WPL.s (s_store sz23 rfl rfl rfl rfl rfl) ?_
       refine WPL.qq (q_as (v := .lit (.int _ _)) rfl) ?_
       refine WPL.nx ?_
       refine WP.retW ?_
       have q0 := j1 H
       subst q0
       exact W.wk [1] hnp (Then.r r3) ⟨rfl, AA1, by decide, rfl, trivial⟩ (LeE.u (LeE.u (LeE.none rfl rfl))) rfl
     replace H := cnf hb6 H
     refine WP.skipW ?_
     refine W.now ?_
     refine Then.n ?_
     refine WP.region ?_
     refine WPL.qq (q_load_ag ag23 rfl rfl (Nat.le_of_ble_eq_true rfl)) ?_
     refine WPL.qq (q_mv (v := .lit (.int _ _)) rfl) ?_
     refine WPL.qq (q_neg rfl) ?_
     refine WPL.s (s_store sz23 rfl rfl rfl rfl rfl) ?_
     refine WPL.qq (q_as (v := .lit (.int _ _)) rfl) ?_
     refine WPL.nilW ?_
     have q0 := j1 H
     subst q0
     exact W.wk [0, 1] hnp r3 ⟨rfl, AA2, by decide, rfl, trivial⟩ (LeE.u (LeE.u (LeE.u (LeE.none rfl rfl)))) rfl
   replace H := cnf hb5 H
   refine WP.skipW ?_
   have q0 := j1 H
   subst q0
   exact W.wk [0, 1] hnp r3 ⟨rfl, AA2, by decide, rfl, trivial⟩ (LeE.u (LeE.u (LeE.u (LeE.none rfl rfl)))) rfl
 rcases y1 with x16 | ⟨x17, x18, x19⟩
 · rintro _ _ _ ⟨rfl, rfl, rfl⟩
   obtain ⟨rfl, rfl, rfl⟩ := j3 H
   exact W.now (Then.r (BodyR.mkR trivial rfl [0] ⟨rfl, rfl⟩ ⟨rfl, AA1, by decide, rfl, trivial⟩ rfl rfl))
 rintro _ _ _ ⟨rfl, rfl, rfl⟩
 refine W.now ?_
 refine Then.n ?_
 refine WP.sr ?_
 refine WPL.qq (q_build bu23 rfl) ?_
 refine WPL.d (d_alloc ze23 rfl) rfl ?_
 refine WPL.s (s_store sz23 rfl rfl rfl rfl rfl) ?_
 refine WPL.qq (q_as (v := .lit (.int _ _)) rfl) ?_
 refine WPL.nx ?_
 refine WP.seq ?_
 refine WP.sr ?_
 refine WPL.qq (q_as (v := .lit (.int _ _)) rfl) ?_
 refine WPL.nx ?_
 refine WP.block ?_
 refine WP.cv (Cv.weak (E' := ((((((Env.none.upd 2 (.ptr 0 0)).upd 4 (.ptr 1 0)).upd 6 (.lit (.int .i64 x17))).upd 10 (.ptr 2 0)).upd 11 (.lit (.int .i64 0))).upd 12 (.lit (.int .i64 0)))) (M' := (((Mem.nil.push (.cells 23 [.lit (.int .i64 x18), .lit (.int .i64 x19)])).push (.cells 23 [.lit (.int .i64 0), .lit (.int .i64 0)])).push (.cells 23 [.lit (.int .i64 1), .lit (.int .i64 0)]))) [0, 1, 2] hnp ⟨rfl, AA3, by decide, rfl, trivial⟩ (LeE.u (LeE.u (LeE.u (LeE.u (LeE.u (LeE.u (LeE.none rfl rfl)))))))) ?_
 obtain ⟨⟨x23, x24, x25⟩, H3, H⟩ := bnd H
 refine WP.monoW (Q := fun x E M => x = .exit 0 ∧ E = (((Env.none.upd 4 (.ptr 0 0)).upd 10 (.ptr 1 0)).upd 11 (.lit (.int .i64 x23))) ∧ M = ((Mem.nil.push (.cells 23 [.lit (.int .i64 0), .lit (.int .i64 0)])).push (.cells 23 [.lit (.int .i64 x24), .lit (.int .i64 x25)]))) ?_ ?_
 · refine WP.loop (β := Int × Int × Int × Int) (fun n b => g_dec_Pow_l0 k x17 x18 x19 n b.1 b.2.1 b.2.2.1 b.2.2.2 = some (x23, x24, x25)) (fun b => ((((((Env.none.upd 2 (.ptr 0 0)).upd 4 (.ptr 1 0)).upd 6 (.lit (.int .i64 x17))).upd 10 (.ptr 2 0)).upd 11 (.lit (.int .i64 b.1))).upd 12 (.lit (.int .i64 b.2.1)))) (fun b => (((Mem.nil.push (.cells 23 [.lit (.int .i64 x18), .lit (.int .i64 x19)])).push (.cells 23 [.lit (.int .i64 0), .lit (.int .i64 0)])).push (.cells 23 [.lit (.int .i64 b.2.2.1), .lit (.int .i64 b.2.2.2)]))) k (0, 0, 1, 0) H3 rfl rfl ?_
   rintro n ⟨x26, x27, x28, x29⟩ H
   obtain _ | n := n
   · exact nf rfl H
   rw [g_dec_Pow_l0.eq_2] at H
   show WP _ _ _ _ ((((((Env.none.upd 2 (.ptr 0 0)).upd 4 (.ptr 1 0)).upd 6 (.lit (.int .i64 x17))).upd 10 (.ptr 2 0)).upd 11 (.lit (.int .i64 x26))).upd 12 (.lit (.int .i64 x27))) (((Mem.nil.push (.cells 23 [.lit (.int .i64 x18), .lit (.int .i64 x19)])).push (.cells 23 [.lit (.int .i64 0), .lit (.int .i64 0)])).push (.cells 23 [.lit (.int .i64 x28), .lit (.int .i64 x29)])) _
   refine WP.seq ?_
   refine WP.seq ?_
   obtain ⟨x30, H4, H⟩ := bnd H
   refine WP.monoW (Q := fun x E M => x = .normal ∧ E = (((((((Env.none.upd 2 (.ptr 0 0)).upd 4 (.ptr 1 0)).upd 6 (.lit (.int .i64 x17))).upd 10 (.ptr 2 0)).upd 11 (.lit (.int .i64 x26))).upd 12 (.lit (.int .i64 x27))).upd 55 (.lit (.bool x30))) ∧ M = (((Mem.nil.push (.cells 23 [.lit (.int .i64 x18), .lit (.int .i64 x19)])).push (.cells 23 [.lit (.int .i64 0), .lit (.int .i64 0)])).push (.cells 23 [.lit (.int .i64 x28), .lit (.int .i64 x29)]))) ?_ ?_
   · clear H
     have H := H4
     clear H4
     refine WP.region ?_
     refine WPL.qq (q_mv (v := .lit (.int _ _)) rfl) ?_
     refine WPL.qq (q_mv (v := .lit (.int _ _)) rfl) ?_
     refine WPL.qq (q_lss rfl rfl) ?_
     refine WPL.qq (q_mv (v := .lit (.bool _)) rfl) ?_
     refine WPL.split (t := 52) (b := (decide (x27 < x17))) rfl (fun hb7 => ?_) (fun hb7 => ?_)
     · replace H := cnt hb7 H
       refine WPL.gq rfl (lb hb7) (q_mv (v := .lit (.int _ _)) rfl) ?_
       refine WPL.gq rfl (lb hb7) (q_eql rfl rfl) ?_
       refine WPL.qq (q_pickT (v := .lit (.bool _)) (lb hb7) rfl) ?_
       refine WPL.nilW ?_
       have q0 := j1 H
       subst q0
       exact W.wk [0, 1, 2] hnp r3 ⟨rfl, AA3, by decide, rfl, trivial⟩ (LeE.u (LeE.u (LeE.u (LeE.u (LeE.u (LeE.u (LeE.u (LeE.none rfl rfl)))))))) rfl
     replace H := cnf hb7 H
     refine WPL.sg false rfl (lb hb7) ?_
     refine WPL.sg false rfl (lb hb7) ?_
     refine WPL.qq (q_pickF (v := .lit (.bool _)) (lb hb7) rfl) ?_
     refine WPL.nilW ?_
     have q0 := j1 H
     subst q0
     exact W.wk [0, 1, 2] hnp r3 ⟨rfl, AA3, by decide, rfl, trivial⟩ (LeE.u (LeE.u (LeE.u (LeE.u (LeE.u (LeE.u (LeE.u (LeE.none rfl rfl)))))))) rfl
   rintro _ _ _ ⟨rfl, rfl, rfl⟩
   refine W.now ?_
   refine Then.n ?_
   refine WP.cond (t := x30) rfl (fun hb8 => ?_) (fun hb8 => ?_)
   · replace H := cnt hb8 H
     refine WP.skipW ?_
     refine W.now ?_
     refine Then.n ?_
     refine WP.seq ?_
     refine WP.block ?_
     refine WP.region ?_
     refine WPL.qq (q_load_ag ag23 rfl rfl (Nat.le_of_ble_eq_true rfl)) ?_
     refine WPL.qq (q_load_ag ag23 rfl rfl (Nat.le_of_ble_eq_true rfl)) ?_
     obtain ⟨⟨x31, x32, x33⟩, h4, H⟩ := bnd H
     refine WPL.c (runs_call (s := []) (t := [3]) (N := 4) (bor := []) fn75 rfl (s_dec_Mul k x28 x29 x18 x19 x31 x32 x33 h4) ⟨rfl, trivial, by decide, rfl, trivial⟩ rfl trivial (.ren rfl rfl (.ren rfl rfl .nil)) rfl BB1 rfl) rfl ?_
     refine WPL.qq (q_mv (v := .tup _) rfl) ?_
     refine WPL.qq (q_extract rfl rfl) ?_
     refine WPL.qq (q_extract rfl rfl) ?_
     refine WPL.s (s_store sz23 rfl rfl rfl rfl rfl) ?_
     refine WPL.qq (q_as (v := .lit (.int _ _)) rfl) ?_
     refine WPL.nilW ?_
     refine W.now ?_
     refine InBlock.n ?_
     refine Then.n ?_
     refine WP.region ?_
     refine WPL.qq (q_mv (v := .lit (.int _ _)) rfl) ?_
     refine WPL.qq (q_add rfl rfl) ?_
     refine WPL.qq (q_as (v := .lit (.int _ _)) rfl) ?_
     refine WPL.nilW ?_
     exact W.wk [0, 1, 2] hnp (Then.n ⟨n, (x31, (IntKind.wrap .i64 (x27 + 1)), x32, x33), Nat.lt_succ_self n, H, rfl, rfl⟩) ⟨rfl, AA3, by decide, rfl, trivial⟩ (LeE.u (LeE.u (LeE.u (LeE.u (LeE.u (LeE.u (LeE.none rfl rfl))))))) rfl
   replace H := cnf hb8 H
   refine WP.exitW ?_
   obtain ⟨rfl, rfl, rfl⟩ := j3 H
   exact W.wk [1, 2] hnp (Then.x (Then.x r3)) ⟨rfl, AA2, by decide, rfl, trivial⟩ (LeE.u (LeE.u (LeE.u (LeE.none rfl rfl)))) rfl
 rintro _ _ _ ⟨rfl, rfl, rfl⟩
 refine W.now ?_
 refine InBlock.x0 ?_
 refine Then.n ?_
 refine WP.sr ?_
 refine WPL.qq (q_load_ag ag23 rfl rfl (Nat.le_of_ble_eq_true rfl)) ?_
 refine WPL.qq (q_mv (v := .lit (.int _ _)) rfl) ?_
 refine WPL.s (s_store sz23 rfl rfl rfl rfl rfl) ?_
 refine WPL.qq (q_as (v := .lit (.int _ _)) rfl) ?_
 refine WPL.nx ?_
 refine WP.retW ?_
 obtain ⟨rfl, rfl, rfl⟩ := j3 H
 exact W.now (BodyR.mkR trivial rfl [0] ⟨rfl, rfl⟩ ⟨rfl, AA1, by decide, rfl, trivial⟩ rfl rfl)
theorem s_val_sum (k : Nat) (x1 : Int) (x2 : Int) (x3 : Int) (x4 : Int) (x5 : Int) (x6 : Int) (x7 : Int) (x8 : Int) (H : g_val_sum k x1 x2 x3 x4 x5 = some (x6, x7, x8)) : Go.Q.Spec Tryz.prog 62 0 [.lit (.int .i64 x1), .agg [.lit (.int .i64 x2), .lit (.int .i64 x3)], .agg [.lit (.int .i64 x4), .lit (.int .i64 x5)]] Mem.nil (fun o M => o = .ret (.tup [.agg [.lit (.int .i64 x7), .lit (.int .i64 x8)], .lit (.int .i64 x6)]) ∧ M = (Mem.nil.push (.cells 23 [.lit (.int .i64 x7), .lit (.int .i64 x8)]))) := by
 unfold g_val_sum at H
 refine Go.Q.Spec.of_bodyR (az := [(23, 2)]) (rs := [.cell 6 23, .tmp 7]) (nt := 42) Tryz.func62 rfl rfl (by intro t T h; simp at h; rcases h with ⟨rfl, rfl⟩ <;> first | exact ag23) rfl rfl fun cx hnp => ?_
 refine WP.sr ?_
 refine WPL.d (d_box rfl rfl) rfl ?_
 refine WPL.d (d_box rfl rfl) rfl ?_
 refine WPL.d (d_alloc ze23 rfl) rfl ?_
 refine WPL.qq (q_as (v := .lit (.int _ _)) rfl) ?_
 refine WPL.nx ?_
 refine WP.seq ?_
 refine WP.sr ?_
 refine WPL.qq (q_mv (v := .lit (.int _ _)) rfl) ?_
 refine WPL.nx ?_
 refine WP.block ?_
 refine WP.sr ?_
 refine WPL.qq (q_eql rfl rfl) ?_
 refine WPL.qq (q_as (v := .lit (.bool _)) rfl) ?_
 refine WPL.nx ?_
 refine WP.cond (t := (decide (x1 = 1))) rfl (fun hb1 => ?_) (fun hb1 => ?_)
 · replace H := cnt hb1 H
   refine WP.sr ?_
   refine WPL.qq (q_load_ag ag23 rfl rfl (Nat.le_of_ble_eq_true rfl)) ?_
   refine WPL.qq (q_load_ag ag23 rfl rfl (Nat.le_of_ble_eq_true rfl)) ?_
   obtain ⟨⟨x9, x10, x11⟩, h1, H⟩ := bnd H
   refine WPL.c (runs_call (s := []) (t := [3]) (N := 4) (bor := []) fn108 rfl (s_dec_Add k x2 x3 x4 x5 x9 x10 x11 h1) ⟨rfl, trivial, by decide, rfl, trivial⟩ rfl trivial (.ren rfl rfl (.ren rfl rfl .nil)) rfl BB1 rfl) rfl ?_
   refine WPL.qq (q_extract rfl rfl) ?_
   refine WPL.qq (q_extract rfl rfl) ?_
   refine WPL.s (s_store sz23 rfl rfl rfl rfl rfl) ?_
   refine WPL.qq (q_as (v := .lit (.int _ _)) rfl) ?_
   refine WPL.nx ?_
   refine WP.retW ?_
   obtain ⟨rfl, rfl, rfl⟩ := j3 H
   exact W.now (InBlock.r (Then.r (BodyR.mkR trivial rfl [2] ⟨rfl, rfl⟩ ⟨rfl, AA1, by decide, rfl, trivial⟩ rfl rfl)))
 replace H := cnf hb1 H
 refine WP.sr ?_
 refine WPL.qq (q_eql rfl rfl) ?_
 refine WPL.qq (q_as (v := .lit (.bool _)) rfl) ?_
 refine WPL.nx ?_
 refine WP.cond (t := (decide (x1 = 2))) rfl (fun hb2 => ?_) (fun hb2 => ?_)
 · replace H := cnt hb2 H
   refine WP.sr ?_
   refine WPL.qq (q_load_ag ag23 rfl rfl (Nat.le_of_ble_eq_true rfl)) ?_
   refine WPL.qq (q_load_ag ag23 rfl rfl (Nat.le_of_ble_eq_true rfl)) ?_
   obtain ⟨⟨x12, x13, x14⟩, h2, H⟩ := bnd H
   refine WPL.c (runs_call (s := []) (t := [3]) (N := 4) (bor := []) fn109 rfl (s_dec_Sub k x2 x3 x4 x5 x12 x13 x14 h2) ⟨rfl, trivial, by decide, rfl, trivial⟩ rfl trivial (.ren rfl rfl (.ren rfl rfl .nil)) rfl BB1 rfl) rfl ?_
   refine WPL.qq (q_extract rfl rfl) ?_
   refine WPL.qq (q_extract rfl rfl) ?_
   refine WPL.s (s_store sz23 rfl rfl rfl rfl rfl) ?_
   refine WPL.qq (q_as (v := .lit (.int _ _)) rfl) ?_
   refine WPL.nx ?_
   refine WP.retW ?_
   obtain ⟨rfl, rfl, rfl⟩ := j3 H
   exact W.now (InBlock.r (Then.r (BodyR.mkR trivial rfl [2] ⟨rfl, rfl⟩ ⟨rfl, AA1, by decide, rfl, trivial⟩ rfl rfl)))
 replace H := cnf hb2 H
 refine WP.sr ?_
 refine WPL.qq (q_eql rfl rfl) ?_
 refine WPL.qq (q_as (v := .lit (.bool _)) rfl) ?_
 refine WPL.nx ?_
 refine WP.cond (t := (decide (x1 = 3))) rfl (fun hb3 => ?_) (fun hb3 => ?_)
 · replace H := cnt hb3 H
   refine WP.sr ?_
   refine WPL.qq (q_load_ag ag23 rfl rfl (Nat.le_of_ble_eq_true rfl)) ?_
   refine WPL.qq (q_load_ag ag23 rfl rfl (Nat.le_of_ble_eq_true rfl)) ?_
   obtain ⟨⟨x15, x16, x17⟩, h3, H⟩ := bnd H
   refine WPL.c (runs_call (s := []) (t := [3]) (N := 4) (bor := []) fn75 rfl (s_dec_Mul k x2 x3 x4 x5 x15 x16 x17 h3) ⟨rfl, trivial, by decide, rfl, trivial⟩ rfl trivial (.ren rfl rfl (.ren rfl rfl .nil)) rfl BB1 rfl) rfl ?_
   refine WPL.qq (q_extract rfl rfl) ?_
   refine WPL.qq (q_extract rfl rfl) ?_
   refine WPL.s (s_store sz23 rfl rfl rfl rfl rfl) ?_
   refine WPL.qq (q_as (v := .lit (.int _ _)) rfl) ?_
   refine WPL.nx ?_
   refine WP.retW ?_
   obtain ⟨rfl, rfl, rfl⟩ := j3 H
   exact W.now (InBlock.r (Then.r (BodyR.mkR trivial rfl [2] ⟨rfl, rfl⟩ ⟨rfl, AA1, by decide, rfl, trivial⟩ rfl rfl)))
 replace H := cnf hb3 H
 refine WP.sr ?_
 refine WPL.qq (q_eql rfl rfl) ?_
 refine WPL.qq (q_as (v := .lit (.bool _)) rfl) ?_
 refine WPL.nx ?_
 refine WP.cond (t := (decide (x1 = 4))) rfl (fun hb4 => ?_) (fun hb4 => ?_)
 · replace H := cnt hb4 H
   refine WP.sr ?_
   refine WPL.qq (q_load_ag ag23 rfl rfl (Nat.le_of_ble_eq_true rfl)) ?_
   refine WPL.qq (q_load_ag ag23 rfl rfl (Nat.le_of_ble_eq_true rfl)) ?_
   obtain ⟨⟨x18, x19, x20⟩, h4, H⟩ := bnd H
   refine WPL.c (runs_call (s := []) (t := [3]) (N := 4) (bor := []) fn110 rfl (s_dec_Div k x2 x3 x4 x5 x18 x19 x20 h4) ⟨rfl, trivial, by decide, rfl, trivial⟩ rfl trivial (.ren rfl rfl (.ren rfl rfl .nil)) rfl BB1 rfl) rfl ?_
   refine WPL.qq (q_extract rfl rfl) ?_
   refine WPL.qq (q_extract rfl rfl) ?_
   refine WPL.s (s_store sz23 rfl rfl rfl rfl rfl) ?_
   refine WPL.qq (q_as (v := .lit (.int _ _)) rfl) ?_
   refine WPL.nx ?_
   refine WP.retW ?_
   obtain ⟨rfl, rfl, rfl⟩ := j3 H
   exact W.now (InBlock.r (Then.r (BodyR.mkR trivial rfl [2] ⟨rfl, rfl⟩ ⟨rfl, AA1, by decide, rfl, trivial⟩ rfl rfl)))
 replace H := cnf hb4 H
 refine WP.skipW ?_
 refine W.now ?_
 refine InBlock.n ?_
 refine Then.n ?_
 refine WP.sr ?_
 refine WPL.qq (q_load_ag ag23 rfl rfl (Nat.le_of_ble_eq_true rfl)) ?_
 refine WPL.qq (q_load_ag ag23 rfl rfl (Nat.le_of_ble_eq_true rfl)) ?_
 obtain ⟨⟨x21, x22, x23⟩, h5, H⟩ := bnd H
 refine WPL.c (runs_call (s := []) (t := [3]) (N := 4) (bor := []) fn111 rfl (s_dec_Pow k x2 x3 x4 x5 x21 x22 x23 h5) ⟨rfl, trivial, by decide, rfl, trivial⟩ rfl trivial (.ren rfl rfl (.ren rfl rfl .nil)) rfl BB1 rfl) rfl ?_
 refine WPL.qq (q_extract rfl rfl) ?_
 refine WPL.qq (q_extract rfl rfl) ?_
 refine WPL.s (s_store sz23 rfl rfl rfl rfl rfl) ?_
 refine WPL.qq (q_as (v := .lit (.int _ _)) rfl) ?_
 refine WPL.nx ?_
 refine WP.retW ?_
 obtain ⟨rfl, rfl, rfl⟩ := j3 H
 exact W.now (BodyR.mkR trivial rfl [2] ⟨rfl, rfl⟩ ⟨rfl, AA1, by decide, rfl, trivial⟩ rfl rfl)
theorem s_mb_Mul (k : Nat) (x1 : Int) (x2 : Int) (x3 : Int) (H : g_mb_Mul k x1 x2 = some x3) : Go.Q.Spec Tryz.prog 141 0 [.lit (.int .u64 x1), .lit (.int .u64 x2)] Mem.nil (fun o M => o = .ret (.tup [.lit (.int .u64 x3), .lit (.int .u64 (IntKind.wrap .u64 (x1 * x2)))]) ∧ M = Mem.nil) := by
 unfold g_mb_Mul at H
 refine Go.Q.Spec.of_bodyR (az := []) (rs := [.tmp 4, .tmp 5]) (nt := 30) Tryz.func141 rfl rfl (by intro t T h; simp at h) rfl rfl fun cx hnp => ?_
 refine WP.sr ?_
 refine WPL.qq (q_as (v := .lit (.int _ _)) rfl) ?_
 refine WPL.qq (q_as (v := .lit (.int _ _)) rfl) ?_
 refine WPL.nx ?_
 refine WP.seq ?_
 refine WP.condF rfl ?_
 refine WP.skipW ?_
 refine W.now ?_
 refine Then.n ?_
 refine WP.sr ?_
 refine WPL.qq (q_mv (v := .lit (.int _ _)) rfl) ?_
 refine WPL.qq (q_mv (v := .lit (.int _ _)) rfl) ?_
 obtain ⟨x4, h1, H⟩ := bnd H
 refine WPL.c (runs_call (s := []) (t := []) (N := 0) (bor := []) fn121 rfl (s_mb_Mul64 k x1 x2 x4 h1) ⟨rfl, trivial, by decide, rfl, trivial⟩ rfl trivial (.ren rfl rfl (.ren rfl rfl .nil)) rfl trivial rfl) rfl ?_
 refine WPL.qq (q_mv (v := .tup _) rfl) ?_
 refine WPL.qq (q_extract rfl rfl) ?_
 refine WPL.qq (q_extract rfl rfl) ?_
 refine WPL.qq (q_as (v := .lit (.int _ _)) rfl) ?_
 refine WPL.qq (q_as (v := .lit (.int _ _)) rfl) ?_
 refine WPL.nx ?_
 refine WP.sr ?_
 refine WPL.qq (q_mv (v := .lit (.int _ _)) rfl) ?_
 refine WPL.qq (q_mv (v := .lit (.int _ _)) rfl) ?_
 refine WPL.qq (q_as (v := .lit (.int _ _)) rfl) ?_
 refine WPL.qq (q_as (v := .lit (.int _ _)) rfl) ?_
 refine WPL.nx ?_
 refine WP.retW ?_
 have q0 := j1 H
 subst q0
 exact W.now (BodyR.mkR trivial rfl [] ⟨rfl, rfl⟩ ⟨rfl, trivial, by decide, rfl, trivial⟩ rfl rfl)
theorem s_st_HasPrefix (k : Nat) (x1 : ByteArray) (x2 : ByteArray) (x3 : Bool) (H : g_st_HasPrefix k x1 x2 = some x3) : Go.Q.Spec Tryz.prog 142 0 [.lit (.string x1), .lit (.string x2)] Mem.nil (fun o M => o = .ret (.lit (.bool x3)) ∧ M = Mem.nil) := by
 unfold g_st_HasPrefix at H
 refine Go.Q.Spec.of_bodyR (az := []) (rs := [.tmp 4]) (nt := 8) Tryz.func142 rfl rfl (by intro t T h; simp at h) rfl rfl fun cx hnp => ?_
 refine WP.sr ?_
 refine WPL.qq (q_as (v := .lit (.bool _)) rfl) ?_
 refine WPL.nx ?_
 refine WP.sr ?_
 refine WPL.qq (q_mv (v := .lit (.string _)) rfl) ?_
 refine WPL.qq (q_mv (v := .lit (.string _)) rfl) ?_
 obtain ⟨x4, h1, H⟩ := bnd H
 refine WPL.c (runs_call (s := []) (t := []) (N := 0) (bor := []) fn140 rfl (s_sl_HasPrefix k x1 x2 x4 h1) ⟨rfl, trivial, by decide, rfl, trivial⟩ rfl trivial (.ren rfl rfl (.ren rfl rfl .nil)) rfl trivial rfl) rfl ?_
 refine WPL.qq (q_as (v := .lit (.bool _)) rfl) ?_
 refine WPL.nx ?_
 refine WP.retW ?_
 have q0 := j1 H
 subst q0
 exact W.now (BodyR.mkR trivial rfl [] ⟨rfl, rfl⟩ ⟨rfl, trivial, by decide, rfl, trivial⟩ rfl rfl)
theorem s_st_Repeat (k : Nat) (x1 : ByteArray) (x2 : Int) (x3 : ByteArray) (H : g_st_Repeat k x1 x2 = some x3) : Go.Q.Spec Tryz.prog 107 0 [.lit (.string x1), .lit (.int .i64 x2)] Mem.nil (fun o M => o = .ret (.lit (.string x3)) ∧ M = Mem.nil) := by
 unfold g_st_Repeat at H
 refine Go.Q.Spec.of_bodyR (az := []) (rs := [.tmp 4]) (nt := 125) Tryz.func107 rfl rfl (by intro t T h; simp at h) rfl rfl fun cx hnp => ?_
 refine WP.sr ?_
 refine WPL.qq (q_as (v := .lit (.string _)) rfl) ?_
 refine WPL.nx ?_
 refine WP.seq ?_
 refine WP.sr ?_
 refine WPL.qq (q_mv (v := .lit (.int _ _)) rfl) ?_
 refine WPL.nx ?_
 refine WP.block ?_
 refine WP.sr ?_
 refine WPL.qq (q_eql rfl rfl) ?_
 refine WPL.qq (q_as (v := .lit (.bool _)) rfl) ?_
 refine WPL.nx ?_
 refine WP.cond (t := (decide (x2 = 0))) rfl (fun hb1 => ?_) (fun hb1 => ?_)
 · replace H := cnt hb1 H
   refine WP.sr ?_
   refine WPL.qq (q_as (v := .lit (.string _)) rfl) ?_
   refine WPL.nx ?_
   refine WP.retW ?_
   have q0 := j1 H
   subst q0
   exact W.now (InBlock.r (Then.r (BodyR.mkR trivial rfl [] ⟨rfl, rfl⟩ ⟨rfl, trivial, by decide, rfl, trivial⟩ rfl rfl)))
 replace H := cnf hb1 H
 refine WP.sr ?_
 refine WPL.qq (q_eql rfl rfl) ?_
 refine WPL.qq (q_as (v := .lit (.bool _)) rfl) ?_
 refine WPL.nx ?_
 refine WP.cond (t := (decide (x2 = 1))) rfl (fun hb2 => ?_) (fun hb2 => ?_)
 · replace H := cnt hb2 H
   refine WP.sr ?_
   refine WPL.qq (q_mv (v := .lit (.string _)) rfl) ?_
   refine WPL.qq (q_as (v := .lit (.string _)) rfl) ?_
   refine WPL.nx ?_
   refine WP.retW ?_
   have q0 := j1 H
   subst q0
   exact W.now (InBlock.r (Then.r (BodyR.mkR trivial rfl [] ⟨rfl, rfl⟩ ⟨rfl, trivial, by decide, rfl, trivial⟩ rfl rfl)))
 replace H := cnf hb2 H
 refine WP.skipW ?_
 refine W.now ?_
 refine InBlock.n ?_
 refine Then.n ?_
 refine WP.seq ?_
 refine WP.sr ?_
 refine WPL.qq (q_mv (v := .lit (.int _ _)) rfl) ?_
 refine WPL.qq (q_lss rfl rfl) ?_
 refine WPL.nx ?_
 refine WP.cond (t := (decide (x2 < 0))) rfl (fun hb3 => ?_) (fun hb3 => ?_)
 · replace H := cnt hb3 H
   refine WP.region ?_
   refine WPL.qq (q_mki cn9) ?_
   exact nf rfl H
 replace H := cnf hb3 H
 refine WP.skipW ?_
 refine W.now ?_
 refine Then.n ?_
 refine WP.sr ?_
 refine WPL.qq (q_mv (v := .lit (.string _)) rfl) ?_
 refine WPL.qq (q_len_str Tryz.underlying9 rfl) ?_
 obtain ⟨x4, h1, H⟩ := bnd H
 refine WPL.qq (q_nm (q_conv Tryz.underlying3 Tryz.underlying137 rfl) (nm_int h1)) ?_
 refine WPL.qq (q_mv (v := .lit (.int _ _)) rfl) ?_
 refine WPL.qq (q_conv Tryz.underlying3 Tryz.underlying137 rfl) ?_
 obtain ⟨x5, h1, H⟩ := bnd H
 refine WPL.c (runs_call (s := []) (t := []) (N := 0) (bor := []) fn141 rfl (s_mb_Mul k x4 (IntKind.wrap .u64 x2) x5 h1) ⟨rfl, trivial, by decide, rfl, trivial⟩ rfl trivial (.ren rfl rfl (.ren rfl rfl .nil)) rfl trivial rfl) rfl ?_
 refine WPL.qq (q_mv (v := .tup _) rfl) ?_
 refine WPL.qq (q_extract rfl rfl) ?_
 refine WPL.qq (q_extract rfl rfl) ?_
 refine WPL.qq (q_as (v := .lit (.int _ _)) rfl) ?_
 refine WPL.qq (q_as (v := .lit (.int _ _)) rfl) ?_
 refine WPL.nx ?_
 refine WP.seq ?_
 refine WP.seq ?_
 obtain ⟨x6, H1, H⟩ := bnd H
 refine WP.monoW (Q := fun x E M => x = .normal ∧ E = (((Env.none.upd 0 (.lit (.string x1))).upd 6 (.lit (.int .u64 (IntKind.wrap .u64 (x4 * (IntKind.wrap .u64 x2)))))).upd 34 (.lit (.bool x6))) ∧ M = Mem.nil) ?_ ?_
 · clear H
   have H := H1
   clear H1
   refine WP.region ?_
   refine WPL.qq (q_mv (v := .lit (.int _ _)) rfl) ?_
   refine WPL.qq (q_gtr rfl rfl) ?_
   refine WPL.qq (q_mv (v := .lit (.bool _)) rfl) ?_
   refine WPL.split (t := 31) (b := (decide (0 < x5))) rfl (fun hb4 => ?_) (fun hb4 => ?_)
   · replace H := cnt hb4 H
     refine WPL.sg true rfl (lb hb4) ?_
     refine WPL.sg true rfl (lb hb4) ?_
     refine WPL.qq (q_pickT (v := .lit (.bool _)) (lb hb4) rfl) ?_
     refine WPL.nilW ?_
     have q0 := j1 H
     subst q0
     exact W.wk [] hnp r3 ⟨rfl, trivial, by decide, rfl, trivial⟩ (LeE.u (LeE.u (LeE.u (LeE.none rfl rfl)))) rfl
   replace H := cnf hb4 H
   refine WPL.gq rfl (lb hb4) (q_mv (v := .lit (.int _ _)) rfl) ?_
   obtain ⟨x7, h2, H⟩ := bnd H
   refine WPL.gq rfl (lb hb4) (q_nm (q_gtr rfl rfl) (nm_bool h2)) ?_
   refine WPL.qq (q_pickF (v := .lit (.bool _)) (lb hb4) rfl) ?_
   refine WPL.nilW ?_
   have q0 := j1 H
   subst q0
   exact W.wk [] hnp r3 ⟨rfl, trivial, by decide, rfl, trivial⟩ (LeE.u (LeE.u (LeE.u (LeE.none rfl rfl)))) rfl
 rintro _ _ _ ⟨rfl, rfl, rfl⟩
 refine W.now ?_
 refine Then.n ?_
 refine WP.cond (t := x6) rfl (fun hb5 => ?_) (fun hb5 => ?_)
 · replace H := cnt hb5 H
   refine WP.region ?_
   refine WPL.qq (q_mki cn9) ?_
   exact nf rfl H
 replace H := cnf hb5 H
 refine WP.skipW ?_
 refine W.now ?_
 refine Then.n ?_
 refine WP.sr ?_
 refine WPL.qq (q_mv (v := .lit (.int _ _)) rfl) ?_
 obtain ⟨x8, h3, H⟩ := bnd H
 refine WPL.qq (q_nm (q_conv Tryz.underlying137 Tryz.underlying3 rfl) (nm_int h3)) ?_
 refine WPL.qq (q_as (v := .lit (.int _ _)) rfl) ?_
 refine WPL.nx ?_
 refine WP.seq ?_
 refine WP.sr ?_
 refine WPL.qq (q_mv (v := .lit (.string _)) rfl) ?_
 refine WPL.qq (q_len_str Tryz.underlying9 rfl) ?_
 obtain ⟨x9, h4, H⟩ := bnd H
 refine WPL.qq (q_nm (q_eql rfl rfl) (nm_bool h4)) ?_
 refine WPL.nx ?_
 refine WP.cond (t := x9) rfl (fun hb6 => ?_) (fun hb6 => ?_)
 · replace H := cnt hb6 H
   refine WP.sr ?_
   refine WPL.qq (q_as (v := .lit (.string _)) rfl) ?_
   refine WPL.nx ?_
   refine WP.retW ?_
   have q0 := j1 H
   subst q0
   exact W.now (Then.r (BodyR.mkR trivial rfl [] ⟨rfl, rfl⟩ ⟨rfl, trivial, by decide, rfl, trivial⟩ rfl rfl))
 replace H := cnf hb6 H
 refine WP.skipW ?_
 refine W.now ?_
 refine Then.n ?_
 refine WP.seq ?_
 obtain ⟨y1, H2, H⟩ := bnd H
 refine WP.monoW (Q := fun x E M => match (generalizing := false) y1 with | (Sum.inl x10) => x = .ret ∧ E = (Env.none.upd 4 (.lit (.string x10))) ∧ M = Mem.nil | (Sum.inr _) => x = .normal ∧ E = ((Env.none.upd 0 (.lit (.string x1))).upd 7 (.lit (.int .i64 x8))) ∧ M = Mem.nil) ?_ ?_
 · clear H
   have H := H2
   clear H2
   refine WP.sr ?_
   refine WPL.qq (q_mv (v := .lit (.string _)) rfl) ?_
   obtain ⟨x11, h5, H⟩ := bnd H
   refine WPL.qq (q_index_str Tryz.underlying9 rfl rfl h5) ?_
   refine WPL.nx ?_
   refine WP.block ?_
   refine WP.seq ?_
   obtain ⟨x12, H3, H⟩ := bnd H
   refine WP.monoW (Q := fun x E M => x = .normal ∧ E = (((Env.none.upd 0 (.lit (.string x1))).upd 7 (.lit (.int .i64 x8))).upd 43 (.lit (.bool x12))) ∧ M = Mem.nil) ?_ ?_
   · clear H
     have H := H3
     clear H3
     refine WP.sr ?_
     refine WPL.qq (q_eql rfl rfl) ?_
     refine WPL.qq (q_as (v := .lit (.bool _)) rfl) ?_
     refine WPL.nx ?_
     refine WP.cond (t := (decide (x11 = 32))) rfl (fun hb7 => ?_) (fun hb7 => ?_)
     · replace H := cnt hb7 H
       refine WP.skipW ?_
       have q0 := j1 H
       subst q0
       exact W.wk [] hnp r3 ⟨rfl, trivial, by decide, rfl, trivial⟩ (LeE.u (LeE.u (LeE.u (LeE.none rfl rfl)))) rfl
     replace H := cnf hb7 H
     refine WP.sr ?_
     refine WPL.qq (q_eql rfl rfl) ?_
     refine WPL.qq (q_as (v := .lit (.bool _)) rfl) ?_
     refine WPL.nx ?_
     refine WP.cond (t := (decide (x11 = 45))) rfl (fun hb8 => ?_) (fun hb8 => ?_)
     · replace H := cnt hb8 H
       refine WP.skipW ?_
       have q0 := j1 H
       subst q0
       exact W.wk [] hnp r3 ⟨rfl, trivial, by decide, rfl, trivial⟩ (LeE.u (LeE.u (LeE.u (LeE.none rfl rfl)))) rfl
     replace H := cnf hb8 H
     refine WP.sr ?_
     refine WPL.qq (q_eql rfl rfl) ?_
     refine WPL.qq (q_as (v := .lit (.bool _)) rfl) ?_
     refine WPL.nx ?_
     refine WP.cond (t := (decide (x11 = 48))) rfl (fun hb9 => ?_) (fun hb9 => ?_)
     · replace H := cnt hb9 H
       refine WP.skipW ?_
       have q0 := j1 H
       subst q0
       exact W.wk [] hnp r3 ⟨rfl, trivial, by decide, rfl, trivial⟩ (LeE.u (LeE.u (LeE.u (LeE.none rfl rfl)))) rfl
     replace H := cnf hb9 H
     refine WP.sr ?_
     refine WPL.qq (q_eql rfl rfl) ?_
     refine WPL.qq (q_as (v := .lit (.bool _)) rfl) ?_
     refine WPL.nx ?_
     refine WP.cond (t := (decide (x11 = 61))) rfl (fun hb10 => ?_) (fun hb10 => ?_)
     · replace H := cnt hb10 H
       refine WP.skipW ?_
       have q0 := j1 H
       subst q0
       exact W.wk [] hnp r3 ⟨rfl, trivial, by decide, rfl, trivial⟩ (LeE.u (LeE.u (LeE.u (LeE.none rfl rfl)))) rfl
     replace H := cnf hb10 H
     refine WP.region ?_
     refine WPL.qq (q_eql rfl rfl) ?_
     refine WPL.qq (q_as (v := .lit (.bool _)) rfl) ?_
     refine WPL.nilW ?_
     have q0 := j1 H
     subst q0
     exact W.wk [] hnp r3 ⟨rfl, trivial, by decide, rfl, trivial⟩ (LeE.u (LeE.u (LeE.u (LeE.none rfl rfl)))) rfl
   rintro _ _ _ ⟨rfl, rfl, rfl⟩
   refine W.now ?_
   refine Then.n ?_
   refine WP.cond (t := x12) rfl (fun hb11 => ?_) (fun hb11 => ?_)
   · replace H := cnt hb11 H
     refine WP.block ?_
     refine WP.seq ?_
     obtain ⟨x13, H4, H⟩ := bnd H
     refine WP.monoW (Q := fun x E M => x = .normal ∧ E = (((Env.none.upd 0 (.lit (.string x1))).upd 7 (.lit (.int .i64 x8))).upd 49 (.lit (.bool x13))) ∧ M = Mem.nil) ?_ ?_
     · clear H
       have H := H4
       clear H4
       refine WP.region ?_
       refine WPL.qq (q_mv (v := .lit (.int _ _)) rfl) ?_
       refine WPL.qq (q_leq rfl rfl) ?_
       refine WPL.qq (q_mv (v := .lit (.bool _)) rfl) ?_
       refine WPL.split (t := 52) (b := (decide (x8 ≤ 128))) rfl (fun hb12 => ?_) (fun hb12 => ?_)
       · replace H := cnt hb12 H
         refine WPL.gq rfl (lb hb12) (q_mv (v := .lit (.string _)) rfl) ?_
         obtain ⟨x14, h6, H⟩ := bnd H
         refine WPL.cg rfl rfl (lb hb12) (runs_call (s := []) (t := []) (N := 0) (bor := []) fn142 rfl (s_st_HasPrefix k (ByteArray.mk #[32, 32, 32, 32, 32, 32, 32, 32, 32, 32, 32, 32, 32, 32, 32, 32, 32, 32, 32, 32, 32, 32, 32, 32, 32, 32, 32, 32, 32, 32, 32, 32, 32, 32, 32, 32, 32, 32, 32, 32, 32, 32, 32, 32, 32, 32, 32, 32, 32, 32, 32, 32, 32, 32, 32, 32, 32, 32, 32, 32, 32, 32, 32, 32, 32, 32, 32, 32, 32, 32, 32, 32, 32, 32, 32, 32, 32, 32, 32, 32, 32, 32, 32, 32, 32, 32, 32, 32, 32, 32, 32, 32, 32, 32, 32, 32, 32, 32, 32, 32, 32, 32, 32, 32, 32, 32, 32, 32, 32, 32, 32, 32, 32, 32, 32, 32, 32, 32, 32, 32, 32, 32, 32, 32, 32, 32, 32, 32]) x1 x14 h6) ⟨rfl, trivial, by decide, rfl, trivial⟩ rfl trivial (.ren rfl rfl (.ren rfl rfl .nil)) rfl trivial rfl) rfl ?_
         refine WPL.qq (q_pickT (v := .lit (.bool _)) (lb hb12) rfl) ?_
         refine WPL.qq (q_as (v := .lit (.bool _)) rfl) ?_
         refine WPL.nilW ?_
         have q0 := j1 H
         subst q0
         exact W.wk [] hnp r3 ⟨rfl, trivial, by decide, rfl, trivial⟩ (LeE.u (LeE.u (LeE.u (LeE.none rfl rfl)))) rfl
       replace H := cnf hb12 H
       refine WPL.sg false rfl (lb hb12) ?_
       refine WPL.sg false rfl (lb hb12) ?_
       refine WPL.qq (q_pickF (v := .lit (.bool _)) (lb hb12) rfl) ?_
       refine WPL.qq (q_as (v := .lit (.bool _)) rfl) ?_
       refine WPL.nilW ?_
       have q0 := j1 H
       subst q0
       exact W.wk [] hnp r3 ⟨rfl, trivial, by decide, rfl, trivial⟩ (LeE.u (LeE.u (LeE.u (LeE.none rfl rfl)))) rfl
     rintro _ _ _ ⟨rfl, rfl, rfl⟩
     refine W.now ?_
     refine Then.n ?_
     refine WP.cond (t := x13) rfl (fun hb13 => ?_) (fun hb13 => ?_)
     · replace H := cnt hb13 H
       refine WP.sr ?_
       refine WPL.qq (q_mv (v := .lit (.int _ _)) rfl) ?_
       obtain ⟨h7, H⟩ := grd H
       obtain ⟨x15, h8, H⟩ := bnd H
       refine WPL.qq (q_nm (q_slice_str (i := 0) (j := x8) Tryz.underlying9 rfl rfl ⟨_, rfl⟩ h7) (nm_str h8)) ?_
       refine WPL.qq (q_as (v := .lit (.string _)) rfl) ?_
       refine WPL.nx ?_
       refine WP.retW ?_
       have q0 := j1 H
       subst q0
       exact W.wk [] hnp (InBlock.r (InBlock.r r3)) ⟨rfl, trivial, by decide, rfl, trivial⟩ (LeE.u (LeE.none rfl rfl)) rfl
     replace H := cnf hb13 H
     refine WP.seq ?_
     obtain ⟨x16, H5, H⟩ := bnd H
     refine WP.monoW (Q := fun x E M => x = .normal ∧ E = (((Env.none.upd 0 (.lit (.string x1))).upd 7 (.lit (.int .i64 x8))).upd 58 (.lit (.bool x16))) ∧ M = Mem.nil) ?_ ?_
     · clear H
       have H := H5
       clear H5
       refine WP.region ?_
       refine WPL.qq (q_mv (v := .lit (.int _ _)) rfl) ?_
       refine WPL.qq (q_leq rfl rfl) ?_
       refine WPL.qq (q_mv (v := .lit (.bool _)) rfl) ?_
       refine WPL.split (t := 61) (b := (decide (x8 ≤ 128))) rfl (fun hb14 => ?_) (fun hb14 => ?_)
       · replace H := cnt hb14 H
         refine WPL.gq rfl (lb hb14) (q_mv (v := .lit (.string _)) rfl) ?_
         obtain ⟨x17, h9, H⟩ := bnd H
         refine WPL.cg rfl rfl (lb hb14) (runs_call (s := []) (t := []) (N := 0) (bor := []) fn142 rfl (s_st_HasPrefix k (ByteArray.mk #[45, 45, 45, 45, 45, 45, 45, 45, 45, 45, 45, 45, 45, 45, 45, 45, 45, 45, 45, 45, 45, 45, 45, 45, 45, 45, 45, 45, 45, 45, 45, 45, 45, 45, 45, 45, 45, 45, 45, 45, 45, 45, 45, 45, 45, 45, 45, 45, 45, 45, 45, 45, 45, 45, 45, 45, 45, 45, 45, 45, 45, 45, 45, 45, 45, 45, 45, 45, 45, 45, 45, 45, 45, 45, 45, 45, 45, 45, 45, 45, 45, 45, 45, 45, 45, 45, 45, 45, 45, 45, 45, 45, 45, 45, 45, 45, 45, 45, 45, 45, 45, 45, 45, 45, 45, 45, 45, 45, 45, 45, 45, 45, 45, 45, 45, 45, 45, 45, 45, 45, 45, 45, 45, 45, 45, 45, 45, 45]) x1 x17 h9) ⟨rfl, trivial, by decide, rfl, trivial⟩ rfl trivial (.ren rfl rfl (.ren rfl rfl .nil)) rfl trivial rfl) rfl ?_
         refine WPL.qq (q_pickT (v := .lit (.bool _)) (lb hb14) rfl) ?_
         refine WPL.qq (q_as (v := .lit (.bool _)) rfl) ?_
         refine WPL.nilW ?_
         have q0 := j1 H
         subst q0
         exact W.wk [] hnp r3 ⟨rfl, trivial, by decide, rfl, trivial⟩ (LeE.u (LeE.u (LeE.u (LeE.none rfl rfl)))) rfl
       replace H := cnf hb14 H
       refine WPL.sg false rfl (lb hb14) ?_
       refine WPL.sg false rfl (lb hb14) ?_
       refine WPL.qq (q_pickF (v := .lit (.bool _)) (lb hb14) rfl) ?_
       refine WPL.qq (q_as (v := .lit (.bool _)) rfl) ?_
       refine WPL.nilW ?_
       have q0 := j1 H
       subst q0
       exact W.wk [] hnp r3 ⟨rfl, trivial, by decide, rfl, trivial⟩ (LeE.u (LeE.u (LeE.u (LeE.none rfl rfl)))) rfl
     rintro _ _ _ ⟨rfl, rfl, rfl⟩
     refine W.now ?_
     refine Then.n ?_
     refine WP.cond (t := x16) rfl (fun hb15 => ?_) (fun hb15 => ?_)
     · replace H := cnt hb15 H
       refine WP.sr ?_
       refine WPL.qq (q_mv (v := .lit (.int _ _)) rfl) ?_
       obtain ⟨h10, H⟩ := grd H
       obtain ⟨x18, h11, H⟩ := bnd H
       refine WPL.qq (q_nm (q_slice_str (i := 0) (j := x8) Tryz.underlying9 rfl rfl ⟨_, rfl⟩ h10) (nm_str h11)) ?_
       refine WPL.qq (q_as (v := .lit (.string _)) rfl) ?_
       refine WPL.nx ?_
       refine WP.retW ?_
       have q0 := j1 H
       subst q0
       exact W.wk [] hnp (InBlock.r (InBlock.r r3)) ⟨rfl, trivial, by decide, rfl, trivial⟩ (LeE.u (LeE.none rfl rfl)) rfl
     replace H := cnf hb15 H
     refine WP.seq ?_
     obtain ⟨x19, H6, H⟩ := bnd H
     refine WP.monoW (Q := fun x E M => x = .normal ∧ E = (((Env.none.upd 0 (.lit (.string x1))).upd 7 (.lit (.int .i64 x8))).upd 67 (.lit (.bool x19))) ∧ M = Mem.nil) ?_ ?_
     · clear H
       have H := H6
       clear H6
       refine WP.region ?_
       refine WPL.qq (q_mv (v := .lit (.int _ _)) rfl) ?_
       refine WPL.qq (q_leq rfl rfl) ?_
       refine WPL.qq (q_mv (v := .lit (.bool _)) rfl) ?_
       refine WPL.split (t := 70) (b := (decide (x8 ≤ 64))) rfl (fun hb16 => ?_) (fun hb16 => ?_)
       · replace H := cnt hb16 H
         refine WPL.gq rfl (lb hb16) (q_mv (v := .lit (.string _)) rfl) ?_
         obtain ⟨x20, h12, H⟩ := bnd H
         refine WPL.cg rfl rfl (lb hb16) (runs_call (s := []) (t := []) (N := 0) (bor := []) fn142 rfl (s_st_HasPrefix k (ByteArray.mk #[48, 48, 48, 48, 48, 48, 48, 48, 48, 48, 48, 48, 48, 48, 48, 48, 48, 48, 48, 48, 48, 48, 48, 48, 48, 48, 48, 48, 48, 48, 48, 48, 48, 48, 48, 48, 48, 48, 48, 48, 48, 48, 48, 48, 48, 48, 48, 48, 48, 48, 48, 48, 48, 48, 48, 48, 48, 48, 48, 48, 48, 48, 48, 48]) x1 x20 h12) ⟨rfl, trivial, by decide, rfl, trivial⟩ rfl trivial (.ren rfl rfl (.ren rfl rfl .nil)) rfl trivial rfl) rfl ?_
         refine WPL.qq (q_pickT (v := .lit (.bool _)) (lb hb16) rfl) ?_
         refine WPL.qq (q_as (v := .lit (.bool _)) rfl) ?_
         refine WPL.nilW ?_
         have q0 := j1 H
         subst q0
         exact W.wk [] hnp r3 ⟨rfl, trivial, by decide, rfl, trivial⟩ (LeE.u (LeE.u (LeE.u (LeE.none rfl rfl)))) rfl
       replace H := cnf hb16 H
       refine WPL.sg false rfl (lb hb16) ?_
       refine WPL.sg false rfl (lb hb16) ?_
       refine WPL.qq (q_pickF (v := .lit (.bool _)) (lb hb16) rfl) ?_
       refine WPL.qq (q_as (v := .lit (.bool _)) rfl) ?_
       refine WPL.nilW ?_
       have q0 := j1 H
       subst q0
       exact W.wk [] hnp r3 ⟨rfl, trivial, by decide, rfl, trivial⟩ (LeE.u (LeE.u (LeE.u (LeE.none rfl rfl)))) rfl
     rintro _ _ _ ⟨rfl, rfl, rfl⟩
     refine W.now ?_
     refine Then.n ?_
     refine WP.cond (t := x19) rfl (fun hb17 => ?_) (fun hb17 => ?_)
     · replace H := cnt hb17 H
       refine WP.sr ?_
       refine WPL.qq (q_mv (v := .lit (.int _ _)) rfl) ?_
       obtain ⟨h13, H⟩ := grd H
       obtain ⟨x21, h14, H⟩ := bnd H
       refine WPL.qq (q_nm (q_slice_str (i := 0) (j := x8) Tryz.underlying9 rfl rfl ⟨_, rfl⟩ h13) (nm_str h14)) ?_
       refine WPL.qq (q_as (v := .lit (.string _)) rfl) ?_
       refine WPL.nx ?_
       refine WP.retW ?_
       have q0 := j1 H
       subst q0
       exact W.wk [] hnp (InBlock.r (InBlock.r r3)) ⟨rfl, trivial, by decide, rfl, trivial⟩ (LeE.u (LeE.none rfl rfl)) rfl
     replace H := cnf hb17 H
     refine WP.seq ?_
     obtain ⟨x22, H7, H⟩ := bnd H
     refine WP.monoW (Q := fun x E M => x = .normal ∧ E = (((Env.none.upd 0 (.lit (.string x1))).upd 7 (.lit (.int .i64 x8))).upd 76 (.lit (.bool x22))) ∧ M = Mem.nil) ?_ ?_
     · clear H
       have H := H7
       clear H7
       refine WP.region ?_
       refine WPL.qq (q_mv (v := .lit (.int _ _)) rfl) ?_
       refine WPL.qq (q_leq rfl rfl) ?_
       refine WPL.qq (q_mv (v := .lit (.bool _)) rfl) ?_
       refine WPL.split (t := 79) (b := (decide (x8 ≤ 128))) rfl (fun hb18 => ?_) (fun hb18 => ?_)
       · replace H := cnt hb18 H
         refine WPL.gq rfl (lb hb18) (q_mv (v := .lit (.string _)) rfl) ?_
         obtain ⟨x23, h15, H⟩ := bnd H
         refine WPL.cg rfl rfl (lb hb18) (runs_call (s := []) (t := []) (N := 0) (bor := []) fn142 rfl (s_st_HasPrefix k (ByteArray.mk #[61, 61, 61, 61, 61, 61, 61, 61, 61, 61, 61, 61, 61, 61, 61, 61, 61, 61, 61, 61, 61, 61, 61, 61, 61, 61, 61, 61, 61, 61, 61, 61, 61, 61, 61, 61, 61, 61, 61, 61, 61, 61, 61, 61, 61, 61, 61, 61, 61, 61, 61, 61, 61, 61, 61, 61, 61, 61, 61, 61, 61, 61, 61, 61, 61, 61, 61, 61, 61, 61, 61, 61, 61, 61, 61, 61, 61, 61, 61, 61, 61, 61, 61, 61, 61, 61, 61, 61, 61, 61, 61, 61, 61, 61, 61, 61, 61, 61, 61, 61, 61, 61, 61, 61, 61, 61, 61, 61, 61, 61, 61, 61, 61, 61, 61, 61, 61, 61, 61, 61, 61, 61, 61, 61, 61, 61, 61, 61]) x1 x23 h15) ⟨rfl, trivial, by decide, rfl, trivial⟩ rfl trivial (.ren rfl rfl (.ren rfl rfl .nil)) rfl trivial rfl) rfl ?_
         refine WPL.qq (q_pickT (v := .lit (.bool _)) (lb hb18) rfl) ?_
         refine WPL.qq (q_as (v := .lit (.bool _)) rfl) ?_
         refine WPL.nilW ?_
         have q0 := j1 H
         subst q0
         exact W.wk [] hnp r3 ⟨rfl, trivial, by decide, rfl, trivial⟩ (LeE.u (LeE.u (LeE.u (LeE.none rfl rfl)))) rfl
       replace H := cnf hb18 H
       refine WPL.sg false rfl (lb hb18) ?_
       refine WPL.sg false rfl (lb hb18) ?_
       refine WPL.qq (q_pickF (v := .lit (.bool _)) (lb hb18) rfl) ?_
       refine WPL.qq (q_as (v := .lit (.bool _)) rfl) ?_
       refine WPL.nilW ?_
       have q0 := j1 H
       subst q0
       exact W.wk [] hnp r3 ⟨rfl, trivial, by decide, rfl, trivial⟩ (LeE.u (LeE.u (LeE.u (LeE.none rfl rfl)))) rfl
     rintro _ _ _ ⟨rfl, rfl, rfl⟩
     refine W.now ?_
     refine Then.n ?_
     refine WP.cond (t := x22) rfl (fun hb19 => ?_) (fun hb19 => ?_)
     · replace H := cnt hb19 H
       refine WP.sr ?_
       refine WPL.qq (q_mv (v := .lit (.int _ _)) rfl) ?_
       obtain ⟨h16, H⟩ := grd H
       obtain ⟨x24, h17, H⟩ := bnd H
       refine WPL.qq (q_nm (q_slice_str (i := 0) (j := x8) Tryz.underlying9 rfl rfl ⟨_, rfl⟩ h16) (nm_str h17)) ?_
       refine WPL.qq (q_as (v := .lit (.string _)) rfl) ?_
       refine WPL.nx ?_
       refine WP.retW ?_
       have q0 := j1 H
       subst q0
       exact W.wk [] hnp (InBlock.r (InBlock.r r3)) ⟨rfl, trivial, by decide, rfl, trivial⟩ (LeE.u (LeE.none rfl rfl)) rfl
     replace H := cnf hb19 H
     refine WP.seq ?_
     obtain ⟨x25, H8, H⟩ := bnd H
     refine WP.monoW (Q := fun x E M => x = .normal ∧ E = (((Env.none.upd 0 (.lit (.string x1))).upd 7 (.lit (.int .i64 x8))).upd 85 (.lit (.bool x25))) ∧ M = Mem.nil) ?_ ?_
     · clear H
       have H := H8
       clear H8
       refine WP.region ?_
       refine WPL.qq (q_mv (v := .lit (.int _ _)) rfl) ?_
       refine WPL.qq (q_leq rfl rfl) ?_
       refine WPL.qq (q_mv (v := .lit (.bool _)) rfl) ?_
       refine WPL.split (t := 88) (b := (decide (x8 ≤ 64))) rfl (fun hb20 => ?_) (fun hb20 => ?_)
       · replace H := cnt hb20 H
         refine WPL.gq rfl (lb hb20) (q_mv (v := .lit (.string _)) rfl) ?_
         obtain ⟨x26, h18, H⟩ := bnd H
         refine WPL.cg rfl rfl (lb hb20) (runs_call (s := []) (t := []) (N := 0) (bor := []) fn142 rfl (s_st_HasPrefix k (ByteArray.mk #[9, 9, 9, 9, 9, 9, 9, 9, 9, 9, 9, 9, 9, 9, 9, 9, 9, 9, 9, 9, 9, 9, 9, 9, 9, 9, 9, 9, 9, 9, 9, 9, 9, 9, 9, 9, 9, 9, 9, 9, 9, 9, 9, 9, 9, 9, 9, 9, 9, 9, 9, 9, 9, 9, 9, 9, 9, 9, 9, 9, 9, 9, 9, 9]) x1 x26 h18) ⟨rfl, trivial, by decide, rfl, trivial⟩ rfl trivial (.ren rfl rfl (.ren rfl rfl .nil)) rfl trivial rfl) rfl ?_
         refine WPL.qq (q_pickT (v := .lit (.bool _)) (lb hb20) rfl) ?_
         refine WPL.qq (q_as (v := .lit (.bool _)) rfl) ?_
         refine WPL.nilW ?_
         have q0 := j1 H
         subst q0
         exact W.wk [] hnp r3 ⟨rfl, trivial, by decide, rfl, trivial⟩ (LeE.u (LeE.u (LeE.u (LeE.none rfl rfl)))) rfl
       replace H := cnf hb20 H
       refine WPL.sg false rfl (lb hb20) ?_
       refine WPL.sg false rfl (lb hb20) ?_
       refine WPL.qq (q_pickF (v := .lit (.bool _)) (lb hb20) rfl) ?_
       refine WPL.qq (q_as (v := .lit (.bool _)) rfl) ?_
       refine WPL.nilW ?_
       have q0 := j1 H
       subst q0
       exact W.wk [] hnp r3 ⟨rfl, trivial, by decide, rfl, trivial⟩ (LeE.u (LeE.u (LeE.u (LeE.none rfl rfl)))) rfl
     rintro _ _ _ ⟨rfl, rfl, rfl⟩
     refine W.now ?_
     refine Then.n ?_
     refine WP.cond (t := x25) rfl (fun hb21 => ?_) (fun hb21 => ?_)
     · replace H := cnt hb21 H
       refine WP.sr ?_
       refine WPL.qq (q_mv (v := .lit (.int _ _)) rfl) ?_
       obtain ⟨h19, H⟩ := grd H
       obtain ⟨x27, h20, H⟩ := bnd H
       refine WPL.qq (q_nm (q_slice_str (i := 0) (j := x8) Tryz.underlying9 rfl rfl ⟨_, rfl⟩ h19) (nm_str h20)) ?_
       refine WPL.qq (q_as (v := .lit (.string _)) rfl) ?_
       refine WPL.nx ?_
       refine WP.retW ?_
       have q0 := j1 H
       subst q0
       exact W.wk [] hnp (InBlock.r (InBlock.r r3)) ⟨rfl, trivial, by decide, rfl, trivial⟩ (LeE.u (LeE.none rfl rfl)) rfl
     replace H := cnf hb21 H
     refine WP.skipW ?_
     have q0 := j1 H
     subst q0
     exact W.wk [] hnp (InBlock.n (InBlock.n r3)) ⟨rfl, trivial, by decide, rfl, trivial⟩ (LeE.u (LeE.u (LeE.none rfl rfl))) rfl
   replace H := cnf hb11 H
   refine WP.skipW ?_
   have q0 := j1 H
   subst q0
   exact W.wk [] hnp (InBlock.n r3) ⟨rfl, trivial, by decide, rfl, trivial⟩ (LeE.u (LeE.u (LeE.none rfl rfl))) rfl
 rcases y1 with x10 | _
 · rintro _ _ _ ⟨rfl, rfl, rfl⟩
   have q0 := j1 H
   subst q0
   exact W.now (Then.r (BodyR.mkR trivial rfl [] ⟨rfl, rfl⟩ ⟨rfl, trivial, by decide, rfl, trivial⟩ rfl rfl))
 rintro _ _ _ ⟨rfl, rfl, rfl⟩
 refine W.now ?_
 refine Then.n ?_
 refine WP.sr ?_
 refine WPL.qq (q_mv (v := .lit (.int _ _)) rfl) ?_
 refine WPL.qq (q_as (v := .lit (.int _ _)) rfl) ?_
 refine WPL.nx ?_
 refine WP.seq ?_
 obtain ⟨x28, H9, H⟩ := bnd H
 refine WP.monoW (Q := fun x E M => x = .normal ∧ E = (((Env.none.upd 0 (.lit (.string x1))).upd 7 (.lit (.int .i64 x8))).upd 8 (.lit (.int .i64 x28))) ∧ M = Mem.nil) ?_ ?_
 · clear H
   have H := H9
   clear H9
   refine WP.sr ?_
   refine WPL.qq (q_mv (v := .lit (.int _ _)) rfl) ?_
   refine WPL.qq (q_gtr rfl rfl) ?_
   refine WPL.nx ?_
   refine WP.cond (t := (decide (8192 < x8))) rfl (fun hb22 => ?_) (fun hb22 => ?_)
   · replace H := cnt hb22 H
     refine WP.sr ?_
     refine WPL.qq (q_mv (v := .lit (.string _)) rfl) ?_
     refine WPL.qq (q_len_str Tryz.underlying9 rfl) ?_
     obtain ⟨h21, H⟩ := grd H
     obtain ⟨x29, h22, H⟩ := bnd H
     refine WPL.qq (q_nm (q_quo rfl rfl (bnot h21)) (nm_int h22)) ?_
     refine WPL.qq (q_mv (v := .lit (.string _)) rfl) ?_
     refine WPL.qq (q_len_str Tryz.underlying9 rfl) ?_
     obtain ⟨x30, h23, H⟩ := bnd H
     refine WPL.qq (q_nm (q_mul rfl rfl) (nm_int h23)) ?_
     refine WPL.qq (q_as (v := .lit (.int _ _)) rfl) ?_
     refine WPL.nx ?_
     refine WP.sr ?_
     refine WPL.qq (q_mv (v := .lit (.int _ _)) rfl) ?_
     refine WPL.qq (q_eql rfl rfl) ?_
     refine WPL.nx ?_
     refine WP.cond (t := (decide (x30 = 0))) rfl (fun hb23 => ?_) (fun hb23 => ?_)
     · replace H := cnt hb23 H
       refine WP.region ?_
       refine WPL.qq (q_mv (v := .lit (.string _)) rfl) ?_
       refine WPL.qq (q_len_str Tryz.underlying9 rfl) ?_
       refine WPL.qq (q_as (v := .lit (.int _ _)) rfl) ?_
       refine WPL.nilW ?_
       have q0 := j1 H
       subst q0
       exact W.wk [] hnp r3 ⟨rfl, trivial, by decide, rfl, trivial⟩ (LeE.u (LeE.u (LeE.u (LeE.none rfl rfl)))) rfl
     replace H := cnf hb23 H
     refine WP.skipW ?_
     have q0 := j1 H
     subst q0
     exact W.wk [] hnp r3 ⟨rfl, trivial, by decide, rfl, trivial⟩ (LeE.u (LeE.u (LeE.u (LeE.none rfl rfl)))) rfl
   replace H := cnf hb22 H
   refine WP.skipW ?_
   have q0 := j1 H
   subst q0
   exact W.wk [] hnp r3 ⟨rfl, trivial, by decide, rfl, trivial⟩ (LeE.u (LeE.u (LeE.u (LeE.none rfl rfl)))) rfl
 rintro _ _ _ ⟨rfl, rfl, rfl⟩
 refine W.now ?_
 refine Then.n ?_
 refine WP.sr ?_
 refine WPL.d (d_alloc ze149 rfl) rfl ?_
 refine WPL.nx ?_
 refine WP.sr ?_
 refine WPL.qq (q_mv (v := .lit (.int _ _)) rfl) ?_
 exact nf rfl H
end Go.Proofs.YthpcgknknpjpdaaGreatDoor.W
namespace Go.Proofs.YthpcgknknpjpdaaGreatDoor.W
open Go Go.Q Go.Proofs
set_option linter.unusedVariables false
set_option linter.unusedSimpArgs false
set_option maxRecDepth 100000
set_option maxHeartbeats 4000000
theorem s_dec_Print (k : Nat) (x1 : Int) (x2 : Int) (x3 : ByteArray) (H : g_dec_Print k x1 x2 = some x3) : Go.Q.Spec Tryz.prog 61 0 [.agg [.lit (.int .i64 x1), .lit (.int .i64 x2)]] Mem.nil (fun o M => o = .ret (.lit (.string x3)) ∧ M = Mem.nil) := by
 unfold g_dec_Print at H
 refine Go.Q.Spec.of_bodyR (az := []) (rs := [.tmp 2]) (nt := 72) Tryz.func61 rfl rfl (by intro t T h; simp at h) rfl rfl fun cx hnp => ?_
 refine WP.sr ?_
 refine WPL.d (d_box rfl rfl) rfl ?_
 refine WPL.qq (q_as (v := .lit (.string _)) rfl) ?_
 refine WPL.nx ?_
 refine WP.seq ?_
 refine WP.sr ?_
 refine WPL.d (d_buildCells li144 rfl rfl rfl rfl rfl) rfl ?_
 obtain ⟨⟨x4, x5, x6⟩, h1, H⟩ := bnd H
 refine WPL.c (runs_call (s := [1, 0]) (t := [1, 0]) (N := 2) (bor := []) fn99 rfl (s_dec_clean__b k x1 x2 x4 x5 x6 h1) ⟨rfl, AA2, by decide, rfl, trivial⟩ rfl trivial (.ren rfl rfl .nil) rfl BB2 rfl) rfl ?_
 refine WPL.qq (q_not rfl) ?_
 refine WPL.nx ?_
 refine WP.cond (t := (!x4)) rfl (fun hb1 => ?_) (fun hb1 => ?_)
 · replace H := cnt hb1 H
   refine WP.sr ?_
   refine WPL.qq (q_as (v := .lit (.string _)) rfl) ?_
   refine WPL.nx ?_
   refine WP.retW ?_
   have q0 := j1 H
   subst q0
   exact W.now (Then.r (BodyR.mkR trivial rfl [] ⟨rfl, rfl⟩ ⟨rfl, trivial, by decide, rfl, trivial⟩ rfl rfl))
 replace H := cnf hb1 H
 refine WP.skipW ?_
 refine W.now ?_
 refine Then.n ?_
 refine WP.sr ?_
 refine WPL.qq (q_as (v := .lit (.string _)) rfl) ?_
 refine WPL.nx ?_
 refine WP.seq ?_
 refine WP.sr ?_
 refine WPL.qq (q_fieldAddr fi23_0 rfl rfl) ?_
 refine WPL.qq (q_load sc2 rfl rfl rfl) ?_
 obtain ⟨x7, h2, H⟩ := bnd H
 refine WPL.c (runs_call (s := []) (t := []) (N := 2) (bor := []) fn102 rfl (s_dec_size k x5 x7 h2) ⟨rfl, trivial, by decide, rfl, trivial⟩ rfl trivial (.ren rfl rfl .nil) rfl trivial rfl) rfl ?_
 refine WPL.qq (q_as (v := .lit (.int _ _)) rfl) ?_
 refine WPL.nx ?_
 refine WP.block ?_
 refine WP.cv (Cv.weak (E' := (((Env.none.upd 1 (.ptr 0 0)).upd 3 (.lit (.string (ByteArray.mk #[])))).upd 4 (.lit (.int .u64 x7)))) (M' := (Mem.nil.push (.cells 23 [.lit (.int .i64 x5), .lit (.int .i64 x6)]))) [0] hnp ⟨rfl, AA1, by decide, rfl, trivial⟩ (LeE.u (LeE.u (LeE.u (LeE.none rfl rfl))))) ?_
 obtain ⟨x8, H1, H⟩ := bnd H
 refine WP.monoW (Q := fun x E M => x = .exit 0 ∧ E = ((Env.none.upd 1 (.ptr 0 0)).upd 3 (.lit (.string x8))) ∧ M = (Mem.nil.push (.cells 23 [.lit (.int .i64 x5), .lit (.int .i64 x6)]))) ?_ ?_
 · refine WP.loop (β := ByteArray × Int) (fun n b => g_dec_Print_l0 k n b.1 b.2 = some x8) (fun b => (((Env.none.upd 1 (.ptr 0 0)).upd 3 (.lit (.string b.1))).upd 4 (.lit (.int .u64 b.2)))) (fun b => (Mem.nil.push (.cells 23 [.lit (.int .i64 x5), .lit (.int .i64 x6)]))) k ((ByteArray.mk #[]), x7) H1 rfl rfl ?_
   rintro n ⟨x9, x10⟩ H
   obtain _ | n := n
   · exact nf rfl H
   rw [g_dec_Print_l0.eq_2] at H
   show WP _ _ _ _ (((Env.none.upd 1 (.ptr 0 0)).upd 3 (.lit (.string x9))).upd 4 (.lit (.int .u64 x10))) (Mem.nil.push (.cells 23 [.lit (.int .i64 x5), .lit (.int .i64 x6)])) _
   refine WP.seq ?_
   refine WP.sr ?_
   refine WPL.qq (q_mv (v := .lit (.int _ _)) rfl) ?_
   refine WPL.qq (q_gtr rfl rfl) ?_
   refine WPL.nx ?_
   refine WP.cond (t := (decide (0 < x10))) rfl (fun hb2 => ?_) (fun hb2 => ?_)
   · replace H := cnt hb2 H
     refine WP.skipW ?_
     refine W.now ?_
     refine Then.n ?_
     refine WP.seq ?_
     refine WP.block ?_
     refine WP.region ?_
     refine WPL.qq (q_mv (v := .lit (.int _ _)) rfl) ?_
     refine WPL.qq (q_rem rfl rfl rfl) ?_
     obtain ⟨x11, h3, H⟩ := bnd H
     refine WPL.qq (q_nm (q_add rfl rfl) (nm_int h3)) ?_
     refine WPL.qq (q_conv Tryz.underlying67 Tryz.underlying5 rfl) ?_
     refine WPL.d (d_buildSlice (ds := ([(IntKind.wrap .u8 x11)] : List Int)) (R := (Rd.int .u8)) li104 rfl rfl rfl rfl rfl (JoinRows.cons1 Joins.sc rfl JoinRows.nil) rfl rfl) rfl ?_
     refine WPL.qq (q_bytes_str_row Tryz.underlying104 Tryz.underlying5 Tryz.underlying9 rfl rfl) ?_
     refine WPL.qq (q_mv (v := .lit (.string _)) rfl) ?_
     obtain ⟨h3, H⟩ := grd H
     refine WPL.qq (q_concat rfl rfl h3) ?_
     refine WPL.qq (q_as (v := .lit (.string _)) rfl) ?_
     refine WPL.nilW ?_
     refine W.now ?_
     refine InBlock.n ?_
     refine Then.n ?_
     refine WP.region ?_
     refine WPL.qq (q_mv (v := .lit (.int _ _)) rfl) ?_
     refine WPL.qq (q_quo rfl rfl rfl) ?_
     refine WPL.qq (q_as (v := .lit (.int _ _)) rfl) ?_
     refine WPL.nilW ?_
     exact W.wk [0] hnp (Then.n ⟨n, (((strOf ([(IntKind.wrap .u8 x11)] : List Int)) ++ x9), (IntKind.wrap .u64 (Int.tdiv x10 10))), Nat.lt_succ_self n, H, rfl, rfl⟩) ⟨rfl, AA1, by decide, rfl, trivial⟩ (LeE.u (LeE.u (LeE.u (LeE.none rfl rfl)))) rfl
   replace H := cnf hb2 H
   refine WP.exitW ?_
   have q0 := j1 H
   subst q0
   exact W.wk [0] hnp (Then.x (Then.x r3)) ⟨rfl, AA1, by decide, rfl, trivial⟩ (LeE.u (LeE.u (LeE.none rfl rfl))) rfl
 rintro _ _ _ ⟨rfl, rfl, rfl⟩
 refine W.now ?_
 refine InBlock.x0 ?_
 refine Then.n ?_
 refine WP.seq ?_
 obtain ⟨x12, H2, H⟩ := bnd H
 refine WP.monoW (Q := fun x E M => x = .normal ∧ E = ((Env.none.upd 1 (.ptr 0 0)).upd 3 (.lit (.string x12))) ∧ M = (Mem.nil.push (.cells 23 [.lit (.int .i64 x5), .lit (.int .i64 x6)]))) ?_ ?_
 · clear H
   have H := H2
   clear H2
   refine WP.block ?_
   refine WP.sr ?_
   refine WPL.qq (q_fieldAddr fi23_0 rfl rfl) ?_
   refine WPL.qq (q_load sc2 rfl rfl rfl) ?_
   refine WPL.qq (q_eql rfl rfl) ?_
   refine WPL.qq (q_as (v := .lit (.bool _)) rfl) ?_
   refine WPL.nx ?_
   refine WP.cond (t := (decide (x5 = 0))) rfl (fun hb3 => ?_) (fun hb3 => ?_)
   · replace H := cnt hb3 H
     refine WP.region ?_
     refine WPL.qq (q_as (v := .lit (.string _)) rfl) ?_
     refine WPL.nilW ?_
     have q0 := j1 H
     subst q0
     exact W.wk [0] hnp (InBlock.n r3) ⟨rfl, AA1, by decide, rfl, trivial⟩ (LeE.u (LeE.u (LeE.none rfl rfl))) rfl
   replace H := cnf hb3 H
   refine WP.sr ?_
   refine WPL.qq (q_fieldAddr fi23_1 rfl rfl) ?_
   refine WPL.qq (q_load sc3 rfl rfl rfl) ?_
   refine WPL.qq (q_gtr rfl rfl) ?_
   refine WPL.qq (q_as (v := .lit (.bool _)) rfl) ?_
   refine WPL.nx ?_
   refine WP.cond (t := (decide (0 < x6))) rfl (fun hb4 => ?_) (fun hb4 => ?_)
   · replace H := cnt hb4 H
     refine WP.region ?_
     refine WPL.qq (q_mv (v := .lit (.string _)) rfl) ?_
     refine WPL.qq (q_fieldAddr fi23_1 rfl rfl) ?_
     refine WPL.qq (q_load sc3 rfl rfl rfl) ?_
     obtain ⟨x13, h4, H⟩ := bnd H
     refine WPL.c (runs_call (s := []) (t := []) (N := 1) (bor := []) fn107 rfl (s_st_Repeat k (ByteArray.mk #[48]) x6 x13 h4) ⟨rfl, trivial, by decide, rfl, trivial⟩ rfl trivial (.ren rfl rfl (.ren rfl rfl .nil)) rfl trivial rfl) rfl ?_
     obtain ⟨h5, H⟩ := grd H
     refine WPL.qq (q_concat rfl rfl h5) ?_
     refine WPL.qq (q_as (v := .lit (.string _)) rfl) ?_
     refine WPL.nilW ?_
     have q0 := j1 H
     subst q0
     exact W.wk [0] hnp (InBlock.n r3) ⟨rfl, AA1, by decide, rfl, trivial⟩ (LeE.u (LeE.u (LeE.none rfl rfl))) rfl
   replace H := cnf hb4 H
   refine WP.sr ?_
   refine WPL.qq (q_fieldAddr fi23_1 rfl rfl) ?_
   refine WPL.qq (q_load sc3 rfl rfl rfl) ?_
   refine WPL.qq (q_lss rfl rfl) ?_
   refine WPL.qq (q_as (v := .lit (.bool _)) rfl) ?_
   refine WPL.nx ?_
   refine WP.cond (t := (decide (x6 < 0))) rfl (fun hb5 => ?_) (fun hb5 => ?_)
   · replace H := cnt hb5 H
     refine WP.sr ?_
     refine WPL.qq (q_fieldAddr fi23_1 rfl rfl) ?_
     refine WPL.qq (q_load sc3 rfl rfl rfl) ?_
     refine WPL.qq (q_sub rfl rfl) ?_
     refine WPL.qq (q_mv (v := .lit (.string _)) rfl) ?_
     refine WPL.qq (q_len_str Tryz.underlying9 rfl) ?_
     obtain ⟨x14, h6, H⟩ := bnd H
     refine WPL.qq (q_nm (q_sub rfl rfl) (nm_int h6)) ?_
     obtain ⟨x15, h7, H⟩ := bnd H
     refine WPL.qq (q_nm (q_max rfl rfl) (nm_int h7)) ?_
     obtain ⟨x16, h7, H⟩ := bnd H
     refine WPL.c (runs_call (s := []) (t := []) (N := 1) (bor := []) fn107 rfl (s_st_Repeat k (ByteArray.mk #[48]) x15 x16 h7) ⟨rfl, trivial, by decide, rfl, trivial⟩ rfl trivial (.ren rfl rfl (.ren rfl rfl .nil)) rfl trivial rfl) rfl ?_
     refine WPL.qq (q_mv (v := .lit (.string _)) rfl) ?_
     obtain ⟨h8, H⟩ := grd H
     refine WPL.qq (q_concat rfl rfl h8) ?_
     refine WPL.qq (q_as (v := .lit (.string _)) rfl) ?_
     refine WPL.nx ?_
     refine WP.regionD' 17 [0] [] mixed rfl ?_
     refine WPD.tT 0 rfl (q_mv (v := .lit (.string _)) rfl) ?_
     refine WPD.tT 1 rfl (q_mv (v := .lit (.string _)) rfl) ?_
     obtain ⟨x17, h9, H⟩ := bnd H
     refine WPD.tT 2 rfl (q_nm (q_len_str Tryz.underlying9 rfl) (nm_int h9)) ?_
     refine WPD.tT 3 rfl (q_fieldAddr fi23_1 rfl rfl) ?_
     refine WPD.tT 8 rfl (q_mv (v := .lit (.string _)) rfl) ?_
     refine WPD.tT 9 rfl (q_mv (v := .lit (.string _)) rfl) ?_
     obtain ⟨x18, h10, H⟩ := bnd H
     refine WPD.tT 10 rfl (q_nm (q_len_str Tryz.underlying9 rfl) (nm_int h10)) ?_
     refine WPD.tT 11 rfl (q_fieldAddr fi23_1 rfl rfl) ?_
     refine WPD.take 4 rfl (by kernel_rfl) (q_load sc3 rfl rfl rfl) rfl rfl ?_
     refine WPD.tT 5 rfl (q_add rfl rfl) ?_
     obtain ⟨h10, H⟩ := grd H
     obtain ⟨x19, h11, H⟩ := bnd H
     refine WPD.tT 6 rfl (q_nm (q_slice_str (i := 0) (j := (IntKind.wrap .i64 (x17 + x6))) Tryz.underlying9 rfl rfl ⟨_, rfl⟩ h10) (nm_str h11)) ?_
     obtain ⟨h11, H⟩ := grd H
     refine WPD.tT 7 rfl (q_concat rfl rfl h11) ?_
     refine WPD.take 12 rfl (by kernel_rfl) (q_load sc3 rfl rfl rfl) rfl rfl ?_
     refine WPD.tT 13 rfl (q_add rfl rfl) ?_
     obtain ⟨h12, H⟩ := grd H
     obtain ⟨x20, h13, H⟩ := bnd H
     refine WPD.tT 14 rfl (q_nm (q_slice_str (i := (IntKind.wrap .i64 (x18 + x6))) (j := ((ByteArray.size (x16 ++ x8) : Nat) : Int)) Tryz.underlying9 rfl ⟨_, rfl⟩ rfl h12) (nm_str h13)) ?_
     obtain ⟨h13, H⟩ := grd H
     refine WPD.tT 15 rfl (q_concat rfl rfl h13) ?_
     refine WPD.tT 16 rfl (q_as (v := .lit (.string _)) rfl) ?_
     refine WPD.doneW (by kernel_rfl) ?_
     have q0 := j1 H
     subst q0
     exact W.wk [0] hnp (InBlock.n r3) ⟨rfl, AA1, by decide, rfl, trivial⟩ (LeE.u (LeE.u (LeE.none rfl rfl))) rfl
   replace H := cnf hb5 H
   refine WP.skipW ?_
   have q0 := j1 H
   subst q0
   exact W.wk [0] hnp (InBlock.n r3) ⟨rfl, AA1, by decide, rfl, trivial⟩ (LeE.u (LeE.u (LeE.none rfl rfl))) rfl
 rintro _ _ _ ⟨rfl, rfl, rfl⟩
 refine W.now ?_
 refine Then.n ?_
 refine WP.seq ?_
 obtain ⟨x21, H3, H⟩ := bnd H
 refine WP.monoW (Q := fun x E M => x = .normal ∧ E = (Env.none.upd 3 (.lit (.string x21))) ∧ M = Mem.nil) ?_ ?_
 · clear H
   have H := H3
   clear H3
   refine WP.sr ?_
   refine WPL.qq (q_fieldAddr fi23_0 rfl rfl) ?_
   refine WPL.qq (q_load sc2 rfl rfl rfl) ?_
   refine WPL.qq (q_lss rfl rfl) ?_
   refine WPL.nx ?_
   refine WP.cond (t := (decide (x5 < 0))) rfl (fun hb6 => ?_) (fun hb6 => ?_)
   · replace H := cnt hb6 H
     refine WP.region ?_
     refine WPL.qq (q_mv (v := .lit (.string _)) rfl) ?_
     obtain ⟨h14, H⟩ := grd H
     refine WPL.qq (q_concat rfl rfl h14) ?_
     refine WPL.qq (q_as (v := .lit (.string _)) rfl) ?_
     refine WPL.nilW ?_
     have q0 := j1 H
     subst q0
     exact W.wk [] hnp r3 ⟨rfl, trivial, by decide, rfl, trivial⟩ (LeE.u (LeE.none rfl rfl)) rfl
   replace H := cnf hb6 H
   refine WP.skipW ?_
   have q0 := j1 H
   subst q0
   exact W.wk [] hnp r3 ⟨rfl, trivial, by decide, rfl, trivial⟩ (LeE.u (LeE.none rfl rfl)) rfl
 rintro _ _ _ ⟨rfl, rfl, rfl⟩
 refine W.now ?_
 refine Then.n ?_
 refine WP.sr ?_
 refine WPL.qq (q_mv (v := .lit (.string _)) rfl) ?_
 refine WPL.qq (q_as (v := .lit (.string _)) rfl) ?_
 refine WPL.nx ?_
 refine WP.retW ?_
 have q0 := j1 H
 subst q0
 exact W.now (BodyR.mkR trivial rfl [] ⟨rfl, rfl⟩ ⟨rfl, trivial, by decide, rfl, trivial⟩ rfl rfl)
theorem s_val_Show (k : Nat) (x1 : Int) (x2 : Int) (x3 : Int) (x4 : ByteArray) (x5 : Bool) (x6 : Int) (x7 : ByteArray) (H : g_val_Show k x1 x2 x3 x4 x5 x6 = some x7) : Go.Q.Spec Tryz.prog 27 0 [.agg [.lit (.int .i64 x1), .lit (.int .i64 x2), .lit (.int .i64 x3), .lit (.string x4), .lit (.bool x5), .lit (.int .i64 x6)]] Mem.nil (fun o M => o = .ret (.lit (.string x7)) ∧ M = Mem.nil) := by
 unfold g_val_Show at H
 refine Go.Q.Spec.of_bodyR (az := []) (rs := [.tmp 2]) (nt := 22) Tryz.func27 rfl rfl (by intro t T h; simp at h) rfl rfl fun cx hnp => ?_
 refine WP.sr ?_
 refine WPL.d (d_box rfl rfl) rfl ?_
 refine WPL.qq (q_as (v := .lit (.string _)) rfl) ?_
 refine WPL.nx ?_
 refine WP.sr ?_
 refine WPL.qq (q_load_ag ag29 rfl rfl (Nat.le_of_ble_eq_true rfl)) ?_
 obtain ⟨⟨x8, x9, x10, x11, x12, x13⟩, h1, H⟩ := bnd H
 refine WPL.c (runs_call (s := []) (t := [1]) (N := 2) (bor := []) fn53 rfl (s_val_clean k x1 x2 x3 x4 x5 x6 x8 x9 x10 x11 x12 x13 h1) ⟨rfl, trivial, by decide, rfl, trivial⟩ rfl trivial (.ren rfl rfl .nil) rfl BB1 rfl) rfl ?_
 refine WPL.s (s_store sz29 rfl rfl rfl rfl rfl) ?_
 refine WPL.nx ?_
 refine WP.seq ?_
 refine WP.sr ?_
 refine WPL.qq (q_fieldAddr fi29_0 rfl rfl) ?_
 refine WPL.qq (q_load sc3 rfl rfl rfl) ?_
 refine WPL.nx ?_
 refine WP.block ?_
 refine WP.sr ?_
 refine WPL.qq (q_eql rfl rfl) ?_
 refine WPL.qq (q_as (v := .lit (.bool _)) rfl) ?_
 refine WPL.nx ?_
 refine WP.cond (t := (decide (x8 = 1))) rfl (fun hb1 => ?_) (fun hb1 => ?_)
 · replace H := cnt hb1 H
   refine WP.sr ?_
   refine WPL.qq (q_fieldAddr fi29_1 rfl rfl) ?_
   refine WPL.qq (q_load_ag ag23 rfl rfl (Nat.le_of_ble_eq_true rfl)) ?_
   obtain ⟨x14, h2, H⟩ := bnd H
   refine WPL.c (runs_call (s := []) (t := []) (N := 2) (bor := []) fn61 rfl (s_dec_Print k x9 x10 x14 h2) ⟨rfl, trivial, by decide, rfl, trivial⟩ rfl trivial (.ren rfl rfl .nil) rfl trivial rfl) rfl ?_
   refine WPL.qq (q_as (v := .lit (.string _)) rfl) ?_
   refine WPL.nx ?_
   refine WP.retW ?_
   have q0 := j1 H
   subst q0
   exact W.now (InBlock.r (Then.r (BodyR.mkR trivial rfl [] ⟨rfl, rfl⟩ ⟨rfl, trivial, by decide, rfl, trivial⟩ rfl rfl)))
 replace H := cnf hb1 H
 refine WP.sr ?_
 refine WPL.qq (q_eql rfl rfl) ?_
 refine WPL.qq (q_as (v := .lit (.bool _)) rfl) ?_
 refine WPL.nx ?_
 refine WP.cond (t := (decide (x8 = 3))) rfl (fun hb2 => ?_) (fun hb2 => ?_)
 · replace H := cnt hb2 H
   refine WP.seq ?_
   refine WP.sr ?_
   refine WPL.qq (q_fieldAddr fi29_3 rfl rfl) ?_
   refine WPL.qq (q_load sc4 rfl rfl rfl) ?_
   refine WPL.nx ?_
   refine WP.cond (t := x12) rfl (fun hb3 => ?_) (fun hb3 => ?_)
   · replace H := cnt hb3 H
     refine WP.sr ?_
     refine WPL.qq (q_as (v := .lit (.string _)) rfl) ?_
     refine WPL.nx ?_
     refine WP.retW ?_
     have q0 := j1 H
     subst q0
     exact W.now (Then.r (InBlock.r (Then.r (BodyR.mkR trivial rfl [] ⟨rfl, rfl⟩ ⟨rfl, trivial, by decide, rfl, trivial⟩ rfl rfl))))
   replace H := cnf hb3 H
   refine WP.skipW ?_
   refine W.now ?_
   refine Then.n ?_
   refine WP.sr ?_
   refine WPL.qq (q_as (v := .lit (.string _)) rfl) ?_
   refine WPL.nx ?_
   refine WP.retW ?_
   have q0 := j1 H
   subst q0
   exact W.now (InBlock.r (Then.r (BodyR.mkR trivial rfl [] ⟨rfl, rfl⟩ ⟨rfl, trivial, by decide, rfl, trivial⟩ rfl rfl)))
 replace H := cnf hb2 H
 refine WP.skipW ?_
 refine W.now ?_
 refine InBlock.n ?_
 refine Then.n ?_
 refine WP.seq ?_
 refine WP.regionD' 7 [0] [] mixed rfl ?_
 refine WPD.tT 0 rfl (q_fieldAddr fi29_2 rfl rfl) ?_
 refine WPD.tT 2 rfl (q_fieldAddr fi29_4 rfl rfl) ?_
 refine WPD.take 1 rfl (by kernel_rfl) (q_load sc9 rfl rfl rfl) rfl rfl ?_
 refine WPD.take 3 rfl (by kernel_rfl) (q_load sc3 rfl rfl rfl) rfl rfl ?_
 obtain ⟨x15, h3, H⟩ := bnd H
 refine WPD.ef 4 [0] [] rfl (runs_call (s := []) (t := []) (N := 2) (bor := []) fn18 rfl (s_val_ErrName k x13 x15 h3) ⟨rfl, trivial, by decide, rfl, trivial⟩ rfl trivial (.ren rfl rfl .nil) rfl trivial rfl) ?_
 obtain ⟨h4, H⟩ := grd H
 refine WPD.tT 5 rfl (q_concat rfl rfl h4) ?_
 refine WPD.tT 6 rfl (q_as (v := .lit (.string _)) rfl) ?_
 refine WPD.doneW (by kernel_rfl) ?_
 refine W.now ?_
 refine Then.n ?_
 refine WP.retW ?_
 have q0 := j1 H
 subst q0
 exact W.now (BodyR.mkR trivial rfl [] ⟨rfl, rfl⟩ ⟨rfl, trivial, by decide, rfl, trivial⟩ rfl rfl)
theorem s_val_beside (k : Nat) (x1 : Int) (x2 : Int) (x3 : Int) (x4 : ByteArray) (x5 : Bool) (x6 : Int) (x7 : Int) (x8 : Int) (x9 : Int) (x10 : ByteArray) (x11 : Bool) (x12 : Int) (x13 : Int) (x14 : Int) (x15 : Int) (x16 : ByteArray) (x17 : Bool) (x18 : Int) (H : g_val_beside k x1 x2 x3 x4 x5 x6 x7 x8 x9 x10 x11 x12 = some (x13, x14, x15, x16, x17, x18)) : Go.Q.Spec Tryz.prog 54 0 [.agg [.lit (.int .i64 x1), .lit (.int .i64 x2), .lit (.int .i64 x3), .lit (.string x4), .lit (.bool x5), .lit (.int .i64 x6)], .agg [.lit (.int .i64 x7), .lit (.int .i64 x8), .lit (.int .i64 x9), .lit (.string x10), .lit (.bool x11), .lit (.int .i64 x12)]] Mem.nil (fun o M => o = .ret (.agg [.lit (.int .i64 x13), .lit (.int .i64 x14), .lit (.int .i64 x15), .lit (.string x16), .lit (.bool x17), .lit (.int .i64 x18)]) ∧ M = (Mem.nil.push (.cells 29 [.lit (.int .i64 x13), .lit (.int .i64 x14), .lit (.int .i64 x15), .lit (.string x16), .lit (.bool x17), .lit (.int .i64 x18)]))) := by
 unfold g_val_beside at H
 refine Go.Q.Spec.of_bodyR (az := [(29, 6)]) (rs := [.cell 4 29]) (nt := 17) Tryz.func54 rfl rfl (by intro t T h; simp at h; rcases h with ⟨rfl, rfl⟩ <;> first | exact ag29) rfl rfl fun cx hnp => ?_
 refine WP.sr ?_
 refine WPL.d (d_box rfl rfl) rfl ?_
 refine WPL.d (d_box rfl rfl) rfl ?_
 refine WPL.d (d_alloc ze29 rfl) rfl ?_
 refine WPL.nx ?_
 refine WP.seq ?_
 refine WP.seq ?_
 obtain ⟨x19, H1, H⟩ := bnd H
 refine WP.monoW (Q := fun x E M => x = .normal ∧ E = ((((Env.none.upd 2 (.ptr 0 0)).upd 3 (.ptr 1 0)).upd 4 (.ptr 2 0)).upd 12 (.lit (.bool x19))) ∧ M = (((Mem.nil.push (.cells 29 [.lit (.int .i64 x1), .lit (.int .i64 x2), .lit (.int .i64 x3), .lit (.string x4), .lit (.bool x5), .lit (.int .i64 x6)])).push (.cells 29 [.lit (.int .i64 x7), .lit (.int .i64 x8), .lit (.int .i64 x9), .lit (.string x10), .lit (.bool x11), .lit (.int .i64 x12)])).push (.cells 29 [.lit (.int .i64 0), .lit (.int .i64 0), .lit (.int .i64 0), .lit (.string (ByteArray.mk #[])), .lit (.bool false), .lit (.int .i64 0)]))) ?_ ?_
 · clear H
   have H := H1
   clear H1
   refine WP.region ?_
   refine WPL.qq (q_fieldAddr fi29_0 rfl rfl) ?_
   refine WPL.qq (q_load sc3 rfl rfl rfl) ?_
   refine WPL.qq (q_eql rfl rfl) ?_
   refine WPL.qq (q_mv (v := .lit (.bool _)) rfl) ?_
   refine WPL.split (t := 8) (b := (decide (x1 = 0))) rfl (fun hb1 => ?_) (fun hb1 => ?_)
   · replace H := cnt hb1 H
     refine WPL.gq rfl (lb hb1) (q_fieldAddr fi29_0 rfl rfl) ?_
     refine WPL.gq rfl (lb hb1) (q_load sc3 rfl rfl rfl) ?_
     refine WPL.gq rfl (lb hb1) (q_neq rfl rfl) ?_
     refine WPL.qq (q_pickT (v := .lit (.bool _)) (lb hb1) rfl) ?_
     refine WPL.nilW ?_
     have q0 := j1 H
     subst q0
     exact W.wk [0, 1, 2] hnp r3 ⟨rfl, AA3, by decide, rfl, trivial⟩ (LeE.u (LeE.u (LeE.u (LeE.u (LeE.none rfl rfl))))) rfl
   replace H := cnf hb1 H
   refine WPL.sg false rfl (lb hb1) ?_
   refine WPL.sg false rfl (lb hb1) ?_
   refine WPL.sg false rfl (lb hb1) ?_
   refine WPL.qq (q_pickF (v := .lit (.bool _)) (lb hb1) rfl) ?_
   refine WPL.nilW ?_
   have q0 := j1 H
   subst q0
   exact W.wk [0, 1, 2] hnp r3 ⟨rfl, AA3, by decide, rfl, trivial⟩ (LeE.u (LeE.u (LeE.u (LeE.u (LeE.none rfl rfl))))) rfl
 rintro _ _ _ ⟨rfl, rfl, rfl⟩
 refine W.now ?_
 refine Then.n ?_
 refine WP.cond (t := x19) rfl (fun hb2 => ?_) (fun hb2 => ?_)
 · replace H := cnt hb2 H
   refine WP.sr ?_
   refine WPL.qq (q_fieldAddr fi29_0 rfl rfl) ?_
   refine WPL.qq (q_load sc3 rfl rfl rfl) ?_
   refine WPL.qq (q_build bu29 rfl) ?_
   refine WPL.s (s_store sz29 rfl rfl rfl rfl rfl) ?_
   refine WPL.nx ?_
   refine WP.retW ?_
   obtain ⟨rfl, rfl, rfl, rfl, rfl, rfl⟩ := j6 H
   exact W.now (Then.r (BodyR.mkR trivial rfl [2] ⟨rfl, rfl⟩ ⟨rfl, AA1, by decide, rfl, trivial⟩ rfl rfl))
 replace H := cnf hb2 H
 refine WP.skipW ?_
 refine W.now ?_
 refine Then.n ?_
 refine WP.sr ?_
 refine WPL.qq (q_load_ag ag29 rfl rfl (Nat.le_of_ble_eq_true rfl)) ?_
 refine WPL.s (s_store sz29 rfl rfl rfl rfl rfl) ?_
 refine WPL.nx ?_
 refine WP.retW ?_
 obtain ⟨rfl, rfl, rfl, rfl, rfl, rfl⟩ := j6 H
 exact W.now (BodyR.mkR trivial rfl [2] ⟨rfl, rfl⟩ ⟨rfl, AA1, by decide, rfl, trivial⟩ rfl rfl)
theorem s_cmp_isNaN_int (k : Nat) (x1 : Int) (H : g_cmp_isNaN_int k x1 = some ()) : Go.Q.Spec Tryz.prog 98 0 [.lit (.int .i64 x1)] Mem.nil (fun o M => o = .ret (.lit (.bool (!decide (x1 = x1)))) ∧ M = Mem.nil) := by
 unfold g_cmp_isNaN_int at H
 refine Go.Q.Spec.of_bodyR (az := []) (rs := [.tmp 2]) (nt := 6) Tryz.func98 rfl rfl (by intro t T h; simp at h) rfl rfl fun cx hnp => ?_
 refine WP.sr ?_
 refine WPL.qq (q_as (v := .lit (.bool _)) rfl) ?_
 refine WPL.nx ?_
 refine WP.sr ?_
 refine WPL.qq (q_mv (v := .lit (.int _ _)) rfl) ?_
 refine WPL.qq (q_mv (v := .lit (.int _ _)) rfl) ?_
 refine WPL.qq (q_neq rfl rfl) ?_
 refine WPL.qq (q_as (v := .lit (.bool _)) rfl) ?_
 refine WPL.nx ?_
 refine WP.retW ?_
 exact W.now (BodyR.mkR trivial rfl [] ⟨rfl, rfl⟩ ⟨rfl, trivial, by decide, rfl, trivial⟩ rfl rfl)
theorem s_cmp_Compare_int (k : Nat) (x1 : Int) (x2 : Int) (x3 : Int) (H : g_cmp_Compare_int k x1 x2 = some x3) : Go.Q.Spec Tryz.prog 56 0 [.lit (.int .i64 x1), .lit (.int .i64 x2)] Mem.nil (fun o M => o = .ret (.lit (.int .i64 x3)) ∧ M = Mem.nil) := by
 unfold g_cmp_Compare_int at H
 refine Go.Q.Spec.of_bodyR (az := []) (rs := [.tmp 4]) (nt := 20) Tryz.func56 rfl rfl (by intro t T h; simp at h) rfl rfl fun cx hnp => ?_
 refine WP.sr ?_
 refine WPL.qq (q_as (v := .lit (.int _ _)) rfl) ?_
 refine WPL.nx ?_
 refine WP.sr ?_
 refine WPL.qq (q_mv (v := .lit (.int _ _)) rfl) ?_
 obtain ⟨_, h1, H⟩ := bnd H
 refine WPL.c (runs_call (s := []) (t := []) (N := 0) (bor := []) fn98 rfl (s_cmp_isNaN_int k x1 h1) ⟨rfl, trivial, by decide, rfl, trivial⟩ rfl trivial (.ren rfl rfl .nil) rfl trivial rfl) rfl ?_
 refine WPL.qq (q_as (v := .lit (.bool _)) rfl) ?_
 refine WPL.nx ?_
 refine WP.sr ?_
 refine WPL.qq (q_mv (v := .lit (.int _ _)) rfl) ?_
 obtain ⟨_, h2, H⟩ := bnd H
 refine WPL.c (runs_call (s := []) (t := []) (N := 0) (bor := []) fn98 rfl (s_cmp_isNaN_int k x2 h2) ⟨rfl, trivial, by decide, rfl, trivial⟩ rfl trivial (.ren rfl rfl .nil) rfl trivial rfl) rfl ?_
 refine WPL.qq (q_as (v := .lit (.bool _)) rfl) ?_
 refine WPL.nx ?_
 refine WP.seq ?_
 refine WP.sr ?_
 refine WPL.qq (q_mv (v := .lit (.bool _)) rfl) ?_
 refine WPL.nx ?_
 refine WP.cond (t := (!decide (x1 = x1))) rfl (fun hb1 => ?_) (fun hb1 => ?_)
 · replace H := cnt hb1 H
   refine WP.seq ?_
   refine WP.sr ?_
   refine WPL.qq (q_mv (v := .lit (.bool _)) rfl) ?_
   refine WPL.nx ?_
   refine WP.cond (t := (!decide (x2 = x2))) rfl (fun hb2 => ?_) (fun hb2 => ?_)
   · replace H := cnt hb2 H
     refine WP.sr ?_
     refine WPL.qq (q_as (v := .lit (.int _ _)) rfl) ?_
     refine WPL.nx ?_
     refine WP.retW ?_
     have q0 := j1 H
     subst q0
     exact W.now (Then.r (Then.r (BodyR.mkR trivial rfl [] ⟨rfl, rfl⟩ ⟨rfl, trivial, by decide, rfl, trivial⟩ rfl rfl)))
   replace H := cnf hb2 H
   refine WP.skipW ?_
   refine W.now ?_
   refine Then.n ?_
   refine WP.sr ?_
   refine WPL.qq (q_as (v := .lit (.int _ _)) rfl) ?_
   refine WPL.nx ?_
   refine WP.retW ?_
   have q0 := j1 H
   subst q0
   exact W.now (Then.r (BodyR.mkR trivial rfl [] ⟨rfl, rfl⟩ ⟨rfl, trivial, by decide, rfl, trivial⟩ rfl rfl))
 replace H := cnf hb1 H
 refine WP.skipW ?_
 refine W.now ?_
 refine Then.n ?_
 refine WP.seq ?_
 refine WP.sr ?_
 refine WPL.qq (q_mv (v := .lit (.bool _)) rfl) ?_
 refine WPL.nx ?_
 refine WP.cond (t := (!decide (x2 = x2))) rfl (fun hb3 => ?_) (fun hb3 => ?_)
 · replace H := cnt hb3 H
   refine WP.sr ?_
   refine WPL.qq (q_as (v := .lit (.int _ _)) rfl) ?_
   refine WPL.nx ?_
   refine WP.retW ?_
   have q0 := j1 H
   subst q0
   exact W.now (Then.r (BodyR.mkR trivial rfl [] ⟨rfl, rfl⟩ ⟨rfl, trivial, by decide, rfl, trivial⟩ rfl rfl))
 replace H := cnf hb3 H
 refine WP.skipW ?_
 refine W.now ?_
 refine Then.n ?_
 refine WP.seq ?_
 refine WP.sr ?_
 refine WPL.qq (q_mv (v := .lit (.int _ _)) rfl) ?_
 refine WPL.qq (q_mv (v := .lit (.int _ _)) rfl) ?_
 refine WPL.qq (q_lss rfl rfl) ?_
 refine WPL.nx ?_
 refine WP.cond (t := (decide (x1 < x2))) rfl (fun hb4 => ?_) (fun hb4 => ?_)
 · replace H := cnt hb4 H
   refine WP.sr ?_
   refine WPL.qq (q_as (v := .lit (.int _ _)) rfl) ?_
   refine WPL.nx ?_
   refine WP.retW ?_
   have q0 := j1 H
   subst q0
   exact W.now (Then.r (BodyR.mkR trivial rfl [] ⟨rfl, rfl⟩ ⟨rfl, trivial, by decide, rfl, trivial⟩ rfl rfl))
 replace H := cnf hb4 H
 refine WP.skipW ?_
 refine W.now ?_
 refine Then.n ?_
 refine WP.seq ?_
 refine WP.sr ?_
 refine WPL.qq (q_mv (v := .lit (.int _ _)) rfl) ?_
 refine WPL.qq (q_mv (v := .lit (.int _ _)) rfl) ?_
 refine WPL.qq (q_gtr rfl rfl) ?_
 refine WPL.nx ?_
 refine WP.cond (t := (decide (x2 < x1))) rfl (fun hb5 => ?_) (fun hb5 => ?_)
 · replace H := cnt hb5 H
   refine WP.sr ?_
   refine WPL.qq (q_as (v := .lit (.int _ _)) rfl) ?_
   refine WPL.nx ?_
   refine WP.retW ?_
   have q0 := j1 H
   subst q0
   exact W.now (Then.r (BodyR.mkR trivial rfl [] ⟨rfl, rfl⟩ ⟨rfl, trivial, by decide, rfl, trivial⟩ rfl rfl))
 replace H := cnf hb5 H
 refine WP.skipW ?_
 refine W.now ?_
 refine Then.n ?_
 refine WP.sr ?_
 refine WPL.qq (q_as (v := .lit (.int _ _)) rfl) ?_
 refine WPL.nx ?_
 refine WP.retW ?_
 have q0 := j1 H
 subst q0
 exact W.now (BodyR.mkR trivial rfl [] ⟨rfl, rfl⟩ ⟨rfl, trivial, by decide, rfl, trivial⟩ rfl rfl)
theorem s_dec_sign (k : Nat) (x1 : Int) (x2 : Int) (x3 : Int) (H : g_dec_sign k x1 x2 = some x3) : Go.Q.Spec Tryz.prog 100 0 [.agg [.lit (.int .i64 x1), .lit (.int .i64 x2)]] Mem.nil (fun o M => o = .ret (.lit (.int .i64 x3)) ∧ M = Mem.nil) := by
 unfold g_dec_sign at H
 refine Go.Q.Spec.of_bodyR (az := []) (rs := [.tmp 2]) (nt := 11) Tryz.func100 rfl rfl (by intro t T h; simp at h) rfl rfl fun cx hnp => ?_
 refine WP.sr ?_
 refine WPL.d (d_box rfl rfl) rfl ?_
 refine WPL.qq (q_as (v := .lit (.int _ _)) rfl) ?_
 refine WPL.nx ?_
 refine WP.seq ?_
 refine WP.block ?_
 refine WP.sr ?_
 refine WPL.qq (q_fieldAddr fi23_0 rfl rfl) ?_
 refine WPL.qq (q_load sc2 rfl rfl rfl) ?_
 refine WPL.qq (q_lss rfl rfl) ?_
 refine WPL.qq (q_as (v := .lit (.bool _)) rfl) ?_
 refine WPL.nx ?_
 refine WP.cond (t := (decide (x1 < 0))) rfl (fun hb1 => ?_) (fun hb1 => ?_)
 · replace H := cnt hb1 H
   refine WP.sr ?_
   refine WPL.qq (q_as (v := .lit (.int _ _)) rfl) ?_
   refine WPL.nx ?_
   refine WP.retW ?_
   have q0 := j1 H
   subst q0
   exact W.now (InBlock.r (Then.r (BodyR.mkR trivial rfl [] ⟨rfl, rfl⟩ ⟨rfl, trivial, by decide, rfl, trivial⟩ rfl rfl)))
 replace H := cnf hb1 H
 refine WP.sr ?_
 refine WPL.qq (q_fieldAddr fi23_0 rfl rfl) ?_
 refine WPL.qq (q_load sc2 rfl rfl rfl) ?_
 refine WPL.qq (q_gtr rfl rfl) ?_
 refine WPL.qq (q_as (v := .lit (.bool _)) rfl) ?_
 refine WPL.nx ?_
 refine WP.cond (t := (decide (0 < x1))) rfl (fun hb2 => ?_) (fun hb2 => ?_)
 · replace H := cnt hb2 H
   refine WP.sr ?_
   refine WPL.qq (q_as (v := .lit (.int _ _)) rfl) ?_
   refine WPL.nx ?_
   refine WP.retW ?_
   have q0 := j1 H
   subst q0
   exact W.now (InBlock.r (Then.r (BodyR.mkR trivial rfl [] ⟨rfl, rfl⟩ ⟨rfl, trivial, by decide, rfl, trivial⟩ rfl rfl)))
 replace H := cnf hb2 H
 refine WP.skipW ?_
 refine W.now ?_
 refine InBlock.n ?_
 refine Then.n ?_
 refine WP.sr ?_
 refine WPL.qq (q_as (v := .lit (.int _ _)) rfl) ?_
 refine WPL.nx ?_
 refine WP.retW ?_
 have q0 := j1 H
 subst q0
 exact W.now (BodyR.mkR trivial rfl [] ⟨rfl, rfl⟩ ⟨rfl, trivial, by decide, rfl, trivial⟩ rfl rfl)
theorem s_dec_digits (k : Nat) (x1 : Int) (x2 : Int) (H : g_dec_digits k x1 = some x2) : Go.Q.Spec Tryz.prog 101 0 [.lit (.int .u64 x1)] Mem.nil (fun o M => o = .ret (.lit (.int .i64 x2)) ∧ M = Mem.nil) := by
 unfold g_dec_digits at H
 refine Go.Q.Spec.of_bodyR (az := []) (rs := [.tmp 2]) (nt := 11) Tryz.func101 rfl rfl (by intro t T h; simp at h) rfl rfl fun cx hnp => ?_
 refine WP.sr ?_
 refine WPL.qq (q_as (v := .lit (.int _ _)) rfl) ?_
 refine WPL.nx ?_
 refine WP.sr ?_
 refine WPL.qq (q_as (v := .lit (.int _ _)) rfl) ?_
 refine WPL.nx ?_
 refine WP.seq ?_
 refine WP.block ?_
 refine WP.cv (Cv.weak (E' := ((Env.none.upd 0 (.lit (.int .u64 x1))).upd 3 (.lit (.int .i64 0)))) (M' := Mem.nil) [] hnp ⟨rfl, trivial, by decide, rfl, trivial⟩ (LeE.u (LeE.u (LeE.none rfl rfl)))) ?_
 obtain ⟨x3, H1, H⟩ := bnd H
 refine WP.monoW (Q := fun x E M => x = .exit 0 ∧ E = (Env.none.upd 3 (.lit (.int .i64 x3))) ∧ M = Mem.nil) ?_ ?_
 · refine WP.loop (β := Int × Int) (fun n b => g_dec_digits_l0 k n b.1 b.2 = some x3) (fun b => ((Env.none.upd 0 (.lit (.int .u64 b.1))).upd 3 (.lit (.int .i64 b.2)))) (fun b => Mem.nil) k (x1, 0) H1 rfl rfl ?_
   rintro n ⟨x4, x5⟩ H
   obtain _ | n := n
   · exact nf rfl H
   rw [g_dec_digits_l0.eq_2] at H
   show WP _ _ _ _ ((Env.none.upd 0 (.lit (.int .u64 x4))).upd 3 (.lit (.int .i64 x5))) Mem.nil _
   refine WP.seq ?_
   refine WP.sr ?_
   refine WPL.qq (q_mv (v := .lit (.int _ _)) rfl) ?_
   refine WPL.qq (q_gtr rfl rfl) ?_
   refine WPL.nx ?_
   refine WP.cond (t := (decide (0 < x4))) rfl (fun hb1 => ?_) (fun hb1 => ?_)
   · replace H := cnt hb1 H
     refine WP.skipW ?_
     refine W.now ?_
     refine Then.n ?_
     refine WP.seq ?_
     refine WP.block ?_
     refine WP.region ?_
     refine WPL.qq (q_mv (v := .lit (.int _ _)) rfl) ?_
     refine WPL.qq (q_add rfl rfl) ?_
     refine WPL.qq (q_as (v := .lit (.int _ _)) rfl) ?_
     refine WPL.nilW ?_
     refine W.now ?_
     refine InBlock.n ?_
     refine Then.n ?_
     refine WP.region ?_
     refine WPL.qq (q_mv (v := .lit (.int _ _)) rfl) ?_
     refine WPL.qq (q_quo rfl rfl rfl) ?_
     refine WPL.qq (q_as (v := .lit (.int _ _)) rfl) ?_
     refine WPL.nilW ?_
     exact W.wk [] hnp (Then.n ⟨n, ((IntKind.wrap .u64 (Int.tdiv x4 10)), (IntKind.wrap .i64 (x5 + 1))), Nat.lt_succ_self n, H, rfl, rfl⟩) ⟨rfl, trivial, by decide, rfl, trivial⟩ (LeE.u (LeE.u (LeE.none rfl rfl))) rfl
   replace H := cnf hb1 H
   refine WP.exitW ?_
   have q0 := j1 H
   subst q0
   exact W.wk [] hnp (Then.x (Then.x r3)) ⟨rfl, trivial, by decide, rfl, trivial⟩ (LeE.u (LeE.none rfl rfl)) rfl
 rintro _ _ _ ⟨rfl, rfl, rfl⟩
 refine W.now ?_
 refine InBlock.x0 ?_
 refine Then.n ?_
 refine WP.sr ?_
 refine WPL.qq (q_mv (v := .lit (.int _ _)) rfl) ?_
 refine WPL.qq (q_as (v := .lit (.int _ _)) rfl) ?_
 refine WPL.nx ?_
 refine WP.retW ?_
 have q0 := j1 H
 subst q0
 exact W.now (BodyR.mkR trivial rfl [] ⟨rfl, rfl⟩ ⟨rfl, trivial, by decide, rfl, trivial⟩ rfl rfl)
theorem s_dec_Cmp (k : Nat) (x1 : Int) (x2 : Int) (x3 : Int) (x4 : Int) (x5 : Int) (H : g_dec_Cmp k x1 x2 x3 x4 = some x5) : Go.Q.Spec Tryz.prog 57 0 [.agg [.lit (.int .i64 x1), .lit (.int .i64 x2)], .agg [.lit (.int .i64 x3), .lit (.int .i64 x4)]] Mem.nil (fun o M => o = .ret (.lit (.int .i64 x5)) ∧ M = Mem.nil) := by
 unfold g_dec_Cmp at H
 refine Go.Q.Spec.of_bodyR (az := []) (rs := [.tmp 4]) (nt := 69) Tryz.func57 rfl rfl (by intro t T h; simp at h) rfl rfl fun cx hnp => ?_
 refine WP.sr ?_
 refine WPL.d (d_box rfl rfl) rfl ?_
 refine WPL.d (d_box rfl rfl) rfl ?_
 refine WPL.qq (q_as (v := .lit (.int _ _)) rfl) ?_
 refine WPL.nx ?_
 refine WP.seq ?_
 refine WP.sr ?_
 refine WPL.d (d_buildCells li144 rfl rfl rfl rfl rfl) rfl ?_
 obtain ⟨⟨x6, x7, x8, x9, x10⟩, h1, H⟩ := bnd H
 refine WPL.c (runs_call (s := [2, 0, 1]) (t := [2, 0, 1]) (N := 3) (bor := []) fn99 rfl (s_dec_clean k x1 x2 x3 x4 x6 x7 x8 x9 x10 h1) ⟨rfl, AA3, by decide, rfl, trivial⟩ rfl trivial (.ren rfl rfl .nil) rfl BB3 rfl) rfl ?_
 refine WPL.qq (q_not rfl) ?_
 refine WPL.nx ?_
 refine WP.cond (t := (!x6)) rfl (fun hb1 => ?_) (fun hb1 => ?_)
 · replace H := cnt hb1 H
   refine WP.sr ?_
   refine WPL.qq (q_as (v := .lit (.int _ _)) rfl) ?_
   refine WPL.nx ?_
   refine WP.retW ?_
   have q0 := j1 H
   subst q0
   exact W.now (Then.r (BodyR.mkR trivial rfl [] ⟨rfl, rfl⟩ ⟨rfl, trivial, by decide, rfl, trivial⟩ rfl rfl))
 replace H := cnf hb1 H
 refine WP.skipW ?_
 refine W.now ?_
 refine Then.n ?_
 refine WP.seq ?_
 refine WP.regionD' 6 [0, 1] [] mixed rfl ?_
 refine WPD.take 0 rfl (by kernel_rfl) (q_load_ag ag23 rfl rfl (Nat.le_of_ble_eq_true rfl)) rfl rfl ?_
 refine WPD.take 2 rfl (by kernel_rfl) (q_load_ag ag23 rfl rfl (Nat.le_of_ble_eq_true rfl)) rfl rfl ?_
 obtain ⟨x11, h2, H⟩ := bnd H
 refine WPD.ef 1 [0, 1] [] rfl (runs_call (s := []) (t := []) (N := 3) (bor := []) fn100 rfl (s_dec_sign k x7 x8 x11 h2) ⟨rfl, trivial, by decide, rfl, trivial⟩ rfl trivial (.ren rfl rfl .nil) rfl trivial rfl) ?_
 obtain ⟨x12, h3, H⟩ := bnd H
 refine WPD.ef 3 [0, 1] [] rfl (runs_call (s := []) (t := []) (N := 3) (bor := []) fn100 rfl (s_dec_sign k x9 x10 x12 h3) ⟨rfl, trivial, by decide, rfl, trivial⟩ rfl trivial (.ren rfl rfl .nil) rfl trivial rfl) ?_
 refine WPD.tT 4 rfl (q_as (v := .lit (.int _ _)) rfl) ?_
 refine WPD.tT 5 rfl (q_as (v := .lit (.int _ _)) rfl) ?_
 refine WPD.doneW (by kernel_rfl) ?_
 refine W.now ?_
 refine Then.n ?_
 refine WP.seq ?_
 refine WP.seq ?_
 obtain ⟨x13, H1, H⟩ := bnd H
 refine WP.monoW (Q := fun x E M => x = .normal ∧ E = (((((Env.none.upd 2 (.ptr 0 0)).upd 3 (.ptr 1 0)).upd 5 (.lit (.int .i64 x11))).upd 6 (.lit (.int .i64 x12))).upd 25 (.lit (.bool x13))) ∧ M = ((Mem.nil.push (.cells 23 [.lit (.int .i64 x7), .lit (.int .i64 x8)])).push (.cells 23 [.lit (.int .i64 x9), .lit (.int .i64 x10)]))) ?_ ?_
 · clear H
   have H := H1
   clear H1
   refine WP.region ?_
   refine WPL.qq (q_mv (v := .lit (.int _ _)) rfl) ?_
   refine WPL.qq (q_mv (v := .lit (.int _ _)) rfl) ?_
   refine WPL.qq (q_neq rfl rfl) ?_
   refine WPL.qq (q_mv (v := .lit (.bool _)) rfl) ?_
   refine WPL.split (t := 22) (b := (!decide (x11 = x12))) rfl (fun hb2 => ?_) (fun hb2 => ?_)
   · replace H := cnt hb2 H
     refine WPL.sg true rfl (lb hb2) ?_
     refine WPL.sg true rfl (lb hb2) ?_
     refine WPL.qq (q_pickT (v := .lit (.bool _)) (lb hb2) rfl) ?_
     refine WPL.nilW ?_
     have q0 := j1 H
     subst q0
     exact W.wk [0, 1] hnp r3 ⟨rfl, AA2, by decide, rfl, trivial⟩ (LeE.u (LeE.u (LeE.u (LeE.u (LeE.u (LeE.none rfl rfl)))))) rfl
   replace H := cnf hb2 H
   refine WPL.gq rfl (lb hb2) (q_mv (v := .lit (.int _ _)) rfl) ?_
   refine WPL.gq rfl (lb hb2) (q_eql rfl rfl) ?_
   refine WPL.qq (q_pickF (v := .lit (.bool _)) (lb hb2) rfl) ?_
   refine WPL.nilW ?_
   have q0 := j1 H
   subst q0
   exact W.wk [0, 1] hnp r3 ⟨rfl, AA2, by decide, rfl, trivial⟩ (LeE.u (LeE.u (LeE.u (LeE.u (LeE.u (LeE.none rfl rfl)))))) rfl
 rintro _ _ _ ⟨rfl, rfl, rfl⟩
 refine W.now ?_
 refine Then.n ?_
 refine WP.cond (t := x13) rfl (fun hb3 => ?_) (fun hb3 => ?_)
 · replace H := cnt hb3 H
   refine WP.sr ?_
   refine WPL.qq (q_mv (v := .lit (.int _ _)) rfl) ?_
   refine WPL.qq (q_mv (v := .lit (.int _ _)) rfl) ?_
   refine WPL.qq (q_sub rfl rfl) ?_
   obtain ⟨x14, h4, H⟩ := bnd H
   refine WPL.qq (q_nm (q_max rfl rfl) (nm_int h4)) ?_
   obtain ⟨x15, h5, H⟩ := bnd H
   refine WPL.qq (q_nm (q_min rfl rfl) (nm_int h5)) ?_
   refine WPL.qq (q_as (v := .lit (.int _ _)) rfl) ?_
   refine WPL.nx ?_
   refine WP.retW ?_
   have q0 := j1 H
   subst q0
   exact W.now (Then.r (BodyR.mkR trivial rfl [] ⟨rfl, rfl⟩ ⟨rfl, trivial, by decide, rfl, trivial⟩ rfl rfl))
 replace H := cnf hb3 H
 refine WP.skipW ?_
 refine W.now ?_
 refine Then.n ?_
 refine WP.seq ?_
 refine WP.regionD' 16 [0, 1] [] mixed rfl ?_
 refine WPD.tT 0 rfl (q_fieldAddr fi23_0 rfl rfl) ?_
 refine WPD.tT 4 rfl (q_fieldAddr fi23_1 rfl rfl) ?_
 refine WPD.tT 7 rfl (q_fieldAddr fi23_0 rfl rfl) ?_
 refine WPD.tT 11 rfl (q_fieldAddr fi23_1 rfl rfl) ?_
 refine WPD.take 1 rfl (by kernel_rfl) (q_load sc2 rfl rfl rfl) rfl rfl ?_
 refine WPD.take 5 rfl (by kernel_rfl) (q_load sc3 rfl rfl rfl) rfl rfl ?_
 refine WPD.take 8 rfl (by kernel_rfl) (q_load sc2 rfl rfl rfl) rfl rfl ?_
 refine WPD.take 12 rfl (by kernel_rfl) (q_load sc3 rfl rfl rfl) rfl rfl ?_
 obtain ⟨x16, h6, H⟩ := bnd H
 refine WPD.ef 2 [0, 1] [] rfl (runs_call (s := []) (t := []) (N := 2) (bor := []) fn102 rfl (s_dec_size k x7 x16 h6) ⟨rfl, trivial, by decide, rfl, trivial⟩ rfl trivial (.ren rfl rfl .nil) rfl trivial rfl) ?_
 obtain ⟨x17, h7, H⟩ := bnd H
 refine WPD.ef 3 [0, 1] [] rfl (runs_call (s := []) (t := []) (N := 2) (bor := []) fn101 rfl (s_dec_digits k x16 x17 h7) ⟨rfl, trivial, by decide, rfl, trivial⟩ rfl trivial (.ren rfl rfl .nil) rfl trivial rfl) ?_
 refine WPD.tT 6 rfl (q_add rfl rfl) ?_
 obtain ⟨x18, h8, H⟩ := bnd H
 refine WPD.ef 9 [0, 1] [] rfl (runs_call (s := []) (t := []) (N := 2) (bor := []) fn102 rfl (s_dec_size k x9 x18 h8) ⟨rfl, trivial, by decide, rfl, trivial⟩ rfl trivial (.ren rfl rfl .nil) rfl trivial rfl) ?_
 obtain ⟨x19, h9, H⟩ := bnd H
 refine WPD.ef 10 [0, 1] [] rfl (runs_call (s := []) (t := []) (N := 2) (bor := []) fn101 rfl (s_dec_digits k x18 x19 h9) ⟨rfl, trivial, by decide, rfl, trivial⟩ rfl trivial (.ren rfl rfl .nil) rfl trivial rfl) ?_
 refine WPD.tT 13 rfl (q_add rfl rfl) ?_
 refine WPD.tT 14 rfl (q_as (v := .lit (.int _ _)) rfl) ?_
 refine WPD.tT 15 rfl (q_as (v := .lit (.int _ _)) rfl) ?_
 refine WPD.doneW (by kernel_rfl) ?_
 refine W.now ?_
 refine Then.n ?_
 refine WP.seq ?_
 refine WP.sr ?_
 refine WPL.qq (q_mv (v := .lit (.int _ _)) rfl) ?_
 refine WPL.qq (q_mv (v := .lit (.int _ _)) rfl) ?_
 obtain ⟨x20, h10, H⟩ := bnd H
 refine WPL.qq (q_nm (q_neq rfl rfl) (nm_bool h10)) ?_
 refine WPL.nx ?_
 refine WP.cond (t := x20) rfl (fun hb4 => ?_) (fun hb4 => ?_)
 · replace H := cnt hb4 H
   refine WP.sr ?_
   refine WPL.qq (q_mv (v := .lit (.int _ _)) rfl) ?_
   refine WPL.qq (q_mv (v := .lit (.int _ _)) rfl) ?_
   refine WPL.qq (q_mv (v := .lit (.int _ _)) rfl) ?_
   obtain ⟨x21, h11, H⟩ := bnd H
   refine WPL.qq (q_nm (q_sub rfl rfl) (nm_int h11)) ?_
   obtain ⟨x22, h12, H⟩ := bnd H
   refine WPL.qq (q_nm (q_max rfl rfl) (nm_int h12)) ?_
   obtain ⟨x23, h13, H⟩ := bnd H
   refine WPL.qq (q_nm (q_min rfl rfl) (nm_int h13)) ?_
   refine WPL.qq (q_mul rfl rfl) ?_
   refine WPL.qq (q_as (v := .lit (.int _ _)) rfl) ?_
   refine WPL.nx ?_
   refine WP.retW ?_
   have q0 := j1 H
   subst q0
   exact W.now (Then.r (BodyR.mkR trivial rfl [] ⟨rfl, rfl⟩ ⟨rfl, trivial, by decide, rfl, trivial⟩ rfl rfl))
 replace H := cnf hb4 H
 refine WP.skipW ?_
 refine W.now ?_
 refine Then.n ?_
 refine WP.sr ?_
 refine WPL.qq (q_load_ag ag23 rfl rfl (Nat.le_of_ble_eq_true rfl)) ?_
 refine WPL.qq (q_load_ag ag23 rfl rfl (Nat.le_of_ble_eq_true rfl)) ?_
 obtain ⟨⟨x24, x25, x26, x27, x28, x29, x30⟩, h13, H⟩ := bnd H
 refine WPL.c (runs_call (s := []) (t := [2, 3]) (N := 4) (bor := []) fn103 rfl (s_dec_even k x7 x8 x9 x10 x24 x25 x26 x27 x28 x29 x30 h13) ⟨rfl, trivial, by decide, rfl, trivial⟩ rfl trivial (.ren rfl rfl (.ren rfl rfl .nil)) rfl BB2 rfl) rfl ?_
 refine WPL.qq (q_mv (v := .tup _) rfl) ?_
 refine WPL.qq (q_extract rfl rfl) ?_
 refine WPL.qq (q_extract rfl rfl) ?_
 refine WPL.qq (q_extract rfl rfl) ?_
 refine WPL.d (d_alloc ze71 rfl) rfl ?_
 refine WPL.d (d_alloc ze71 rfl) rfl ?_
 refine WPL.s (s_store sz71 rfl rfl rfl rfl rfl) ?_
 refine WPL.s (s_store sz71 rfl rfl rfl rfl rfl) ?_
 refine WPL.qq (q_as (v := .lit (.bool _)) rfl) ?_
 refine WPL.nx ?_
 refine WP.sr ?_
 refine WPL.qq (q_mv (v := .lit (.int _ _)) rfl) ?_
 refine WPL.qq (q_fieldAddr fi71_1 rfl rfl) ?_
 refine WPL.qq (q_load_ag ag69 rfl rfl (Nat.le_of_ble_eq_true rfl)) ?_
 refine WPL.qq (q_fieldAddr fi71_1 rfl rfl) ?_
 refine WPL.qq (q_load_ag ag69 rfl rfl (Nat.le_of_ble_eq_true rfl)) ?_
 obtain ⟨x31, h14, H⟩ := bnd H
 refine WPL.c (runs_call (s := []) (t := []) (N := 6) (bor := []) fn104 rfl (s_dec_wide_cmp k x25 x26 x28 x29 x31 h14) ⟨rfl, trivial, by decide, rfl, trivial⟩ rfl trivial (.ren rfl rfl (.ren rfl rfl .nil)) rfl trivial rfl) rfl ?_
 refine WPL.qq (q_mul rfl rfl) ?_
 refine WPL.qq (q_as (v := .lit (.int _ _)) rfl) ?_
 refine WPL.nx ?_
 refine WP.retW ?_
 have q0 := j1 H
 subst q0
 exact W.now (BodyR.mkR trivial rfl [] ⟨rfl, rfl⟩ ⟨rfl, trivial, by decide, rfl, trivial⟩ rfl rfl)
theorem s_utf_turned (k : Nat) (x1 : ByteArray) (x2 : Int) (x3 : Int) (x4 : Int) (x5 : ByteArray) (H : g_utf_turned k x1 x2 x3 x4 = some x5) : Go.Q.Spec Tryz.prog 106 0 [.lit (.string x1), .lit (.int .u8 x2), .lit (.int .u8 x3), .lit (.int .i64 x4)] Mem.nil (fun o M => o = .ret (.lit (.string x5)) ∧ M = Mem.nil) := by
 unfold g_utf_turned at H
 refine Go.Q.Spec.of_bodyR (az := []) (rs := [.tmp 8]) (nt := 40) Tryz.func106 rfl rfl (by intro t T h; simp at h) rfl rfl fun cx hnp => ?_
 refine WP.sr ?_
 refine WPL.qq (q_as (v := .lit (.string _)) rfl) ?_
 refine WPL.nx ?_
 refine WP.sr ?_
 refine WPL.qq (q_mv (v := .lit (.string _)) rfl) ?_
 obtain ⟨h1, H⟩ := grd H
 refine WPL.d (d_strBytes Tryz.underlying9 Tryz.underlying104 Tryz.underlying5 rfl h1 rfl) rfl ?_
 refine WPL.qq (q_as (v := .whole _) rfl) ?_
 refine WPL.nx ?_
 refine WP.seq ?_
 refine WP.sr ?_
 refine WPL.qq (q_mv (v := .whole _) rfl) ?_
 refine WPL.qq (q_len_row sl104 rfl rfl) ?_
 refine WPL.qq (q_mv (v := .lit (.int _ _)) rfl) ?_
 refine WPL.nx ?_
 refine WP.block ?_
 refine WP.cv (Cv.weak (E' := (((((((Env.none.upd 1 (.lit (.int .u8 x2))).upd 2 (.lit (.int .u8 x3))).upd 3 (.lit (.int .i64 x4))).upd 9 (.whole 0)).upd 14 (.whole 0)).upd 15 (.lit (.int .i64 ((List.length (strInts x1) : Nat) : Int)))).upd 16 (.lit (.int .i64 0)))) (M' := (Mem.nil.push (.row 5 (Rd.int .u8) (strInts x1)))) [0] hnp ⟨rfl, AA1, by decide, rfl, trivial⟩ (LeE.u (LeE.u (LeE.u (LeE.u (LeE.u (LeE.u (LeE.u (LeE.none rfl rfl))))))))) ?_
 obtain ⟨x6, H1, H⟩ := bnd H
 refine WP.monoW (Q := fun x E M => x = .exit 0 ∧ E = (Env.none.upd 9 (.whole 0)) ∧ M = (Mem.nil.push (.row 5 (Rd.int .u8) x6))) ?_ ?_
 · refine WP.loop (β := Int × (List Int)) (fun n b => g_utf_turned_l0 k x1 x2 x3 x4 n b.1 b.2 = some x6) (fun b => (((((((Env.none.upd 1 (.lit (.int .u8 x2))).upd 2 (.lit (.int .u8 x3))).upd 3 (.lit (.int .i64 x4))).upd 9 (.whole 0)).upd 14 (.whole 0)).upd 15 (.lit (.int .i64 ((List.length (strInts x1) : Nat) : Int)))).upd 16 (.lit (.int .i64 b.1)))) (fun b => (Mem.nil.push (.row 5 (Rd.int .u8) b.2))) k (0, (strInts x1)) H1 rfl rfl ?_
   rintro n ⟨x7, x8⟩ H
   obtain _ | n := n
   · exact nf rfl H
   rw [g_utf_turned_l0.eq_2] at H
   show WP _ _ _ _ (((((((Env.none.upd 1 (.lit (.int .u8 x2))).upd 2 (.lit (.int .u8 x3))).upd 3 (.lit (.int .i64 x4))).upd 9 (.whole 0)).upd 14 (.whole 0)).upd 15 (.lit (.int .i64 ((List.length (strInts x1) : Nat) : Int)))).upd 16 (.lit (.int .i64 x7))) (Mem.nil.push (.row 5 (Rd.int .u8) x8)) _
   refine WP.sr ?_
   obtain ⟨x9, h2, H⟩ := bnd H
   refine WPL.qq (q_nm (q_lss rfl rfl) (nm_bool h2)) ?_
   refine WPL.nx ?_
   refine WP.seq ?_
   refine WP.cond (t := x9) rfl (fun hb1 => ?_) (fun hb1 => ?_)
   · replace H := cnt hb1 H
     refine WP.skipW ?_
     refine W.now ?_
     refine Then.n ?_
     refine WP.seq ?_
     obtain ⟨x10, H2, H⟩ := bnd H
     refine WP.monoW (Q := fun x E M => x = .normal ∧ E = (((((((Env.none.upd 1 (.lit (.int .u8 x2))).upd 2 (.lit (.int .u8 x3))).upd 3 (.lit (.int .i64 x4))).upd 9 (.whole 0)).upd 14 (.whole 0)).upd 15 (.lit (.int .i64 ((List.length (strInts x1) : Nat) : Int)))).upd 16 (.lit (.int .i64 x7))) ∧ M = (Mem.nil.push (.row 5 (Rd.int .u8) x10))) ?_ ?_
     · clear H
       have H := H2
       clear H2
       refine WP.block ?_
       refine WP.sr ?_
       refine WPL.qq (q_mv (v := .lit (.int _ _)) rfl) ?_
       obtain ⟨x11, h3, H⟩ := bnd H
       refine WPL.qq (q_index_row sl104 rfl rfl rfl (ixs h3)) ?_
       refine WPL.qq (q_load_row (j := (Int.toNat x7)) sc5 rfl rfl (ixj h3)) ?_
       refine WPL.qq (q_as (v := .lit (.int _ _)) rfl) ?_
       refine WPL.qq (q_as (v := .lit (.int _ _)) rfl) ?_
       refine WPL.nx ?_
       refine WP.seq ?_
       obtain ⟨x12, H3, H⟩ := bnd H
       refine WP.monoW (Q := fun x E M => x = .normal ∧ E = ((((((((((Env.none.upd 1 (.lit (.int .u8 x2))).upd 2 (.lit (.int .u8 x3))).upd 3 (.lit (.int .i64 x4))).upd 9 (.whole 0)).upd 10 (.lit (.int .i64 x7))).upd 11 (.lit (.int .u8 x11))).upd 14 (.whole 0)).upd 15 (.lit (.int .i64 ((List.length (strInts x1) : Nat) : Int)))).upd 16 (.lit (.int .i64 x7))).upd 28 (.lit (.bool x12))) ∧ M = (Mem.nil.push (.row 5 (Rd.int .u8) x8))) ?_ ?_
       · clear H
         have H := H3
         clear H3
         refine WP.region ?_
         refine WPL.qq (q_mv (v := .lit (.int _ _)) rfl) ?_
         refine WPL.qq (q_mv (v := .lit (.int _ _)) rfl) ?_
         refine WPL.qq (q_geq rfl rfl) ?_
         refine WPL.qq (q_mv (v := .lit (.bool _)) rfl) ?_
         refine WPL.split (t := 24) (b := (decide (x2 ≤ x11))) rfl (fun hb2 => ?_) (fun hb2 => ?_)
         · replace H := cnt hb2 H
           refine WPL.gq rfl (lb hb2) (q_mv (v := .lit (.int _ _)) rfl) ?_
           refine WPL.gq rfl (lb hb2) (q_mv (v := .lit (.int _ _)) rfl) ?_
           refine WPL.gq rfl (lb hb2) (q_leq rfl rfl) ?_
           refine WPL.qq (q_pickT (v := .lit (.bool _)) (lb hb2) rfl) ?_
           refine WPL.nilW ?_
           have q0 := j1 H
           subst q0
           exact W.wk [0] hnp r3 ⟨rfl, AA1, by decide, rfl, trivial⟩ (LeE.u (LeE.u (LeE.u (LeE.u (LeE.u (LeE.u (LeE.u (LeE.u (LeE.u (LeE.u (LeE.none rfl rfl))))))))))) rfl
         replace H := cnf hb2 H
         refine WPL.sg false rfl (lb hb2) ?_
         refine WPL.sg false rfl (lb hb2) ?_
         refine WPL.sg false rfl (lb hb2) ?_
         refine WPL.qq (q_pickF (v := .lit (.bool _)) (lb hb2) rfl) ?_
         refine WPL.nilW ?_
         have q0 := j1 H
         subst q0
         exact W.wk [0] hnp r3 ⟨rfl, AA1, by decide, rfl, trivial⟩ (LeE.u (LeE.u (LeE.u (LeE.u (LeE.u (LeE.u (LeE.u (LeE.u (LeE.u (LeE.u (LeE.none rfl rfl))))))))))) rfl
       rintro _ _ _ ⟨rfl, rfl, rfl⟩
       refine W.now ?_
       refine Then.n ?_
       refine WP.cond (t := x12) rfl (fun hb3 => ?_) (fun hb3 => ?_)
       · replace H := cnt hb3 H
         refine WP.region ?_
         refine WPL.qq (q_mv (v := .whole _) rfl) ?_
         refine WPL.qq (q_mv (v := .lit (.int _ _)) rfl) ?_
         refine WPL.qq (q_mv (v := .lit (.int _ _)) rfl) ?_
         refine WPL.qq (q_conv Tryz.underlying5 Tryz.underlying3 rfl) ?_
         refine WPL.qq (q_mv (v := .lit (.int _ _)) rfl) ?_
         obtain ⟨x13, h4, H⟩ := bnd H
         refine WPL.qq (q_nm (q_add rfl rfl) (nm_int h4)) ?_
         refine WPL.qq (q_conv Tryz.underlying3 Tryz.underlying5 rfl) ?_
         obtain ⟨x14, h5, H⟩ := bnd H
         refine WPL.qq (q_index_row sl104 rfl rfl rfl (ixs h5)) ?_
         refine WPL.s (s_store_row (j := (Int.toNat x7)) (d := (IntKind.wrap .u8 x13)) sz5 rfl rfl rfl rfl Joins.sc (ixl h5)) ?_
         refine WPL.nilW ?_
         have q0 := j1 H
         subst q0
         exact W.wk [0] hnp (InBlock.n r3) ⟨rfl, AA1, by decide, rfl, trivial⟩ (LeE.u (LeE.u (LeE.u (LeE.u (LeE.u (LeE.u (LeE.u (LeE.none rfl rfl)))))))) rfl
       replace H := cnf hb3 H
       refine WP.skipW ?_
       have q0 := j1 H
       subst q0
       exact W.wk [0] hnp (InBlock.n r3) ⟨rfl, AA1, by decide, rfl, trivial⟩ (LeE.u (LeE.u (LeE.u (LeE.u (LeE.u (LeE.u (LeE.u (LeE.none rfl rfl)))))))) rfl
     rintro _ _ _ ⟨rfl, rfl, rfl⟩
     refine W.now ?_
     refine Then.n ?_
     refine WP.region ?_
     refine WPL.qq (q_add rfl rfl) ?_
     refine WPL.qq (q_mv (v := .lit (.int _ _)) rfl) ?_
     refine WPL.nilW ?_
     exact W.wk [0] hnp (Then.n ⟨n, ((IntKind.wrap .i64 (x7 + 1)), x10), Nat.lt_succ_self n, H, rfl, rfl⟩) ⟨rfl, AA1, by decide, rfl, trivial⟩ (LeE.u (LeE.u (LeE.u (LeE.u (LeE.u (LeE.u (LeE.u (LeE.none rfl rfl)))))))) rfl
   replace H := cnf hb1 H
   refine WP.exitW ?_
   have q0 := j1 H
   subst q0
   exact W.wk [0] hnp (Then.x (Then.x r3)) ⟨rfl, AA1, by decide, rfl, trivial⟩ (LeE.u (LeE.none rfl rfl)) rfl
 rintro _ _ _ ⟨rfl, rfl, rfl⟩
 refine W.now ?_
 refine InBlock.x0 ?_
 refine Then.n ?_
 refine WP.sr ?_
 refine WPL.qq (q_mv (v := .whole _) rfl) ?_
 refine WPL.qq (q_bytes_str_row Tryz.underlying104 Tryz.underlying5 Tryz.underlying9 rfl rfl) ?_
 refine WPL.qq (q_as (v := .lit (.string _)) rfl) ?_
 refine WPL.nx ?_
 refine WP.retW ?_
 have q0 := j1 H
 subst q0
 exact W.now (BodyR.mkR trivial rfl [] ⟨rfl, rfl⟩ ⟨rfl, trivial, by decide, rfl, trivial⟩ rfl rfl)
end Go.Proofs.YthpcgknknpjpdaaGreatDoor.W
