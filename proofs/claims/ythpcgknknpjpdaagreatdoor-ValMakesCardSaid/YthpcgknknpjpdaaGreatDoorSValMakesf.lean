/- Texts joined: part 6 of what LValMakes stands on. -/
import Derived.Test.YthpcgknknpjpdaaGreatDoorSValMakese
namespace Go.Proofs.YthpcgknknpjpdaaGreatDoor.W
open Go Go.Q Go.Proofs
set_option linter.unusedVariables false
set_option linter.unusedSimpArgs false
set_option maxRecDepth 100000
set_option maxHeartbeats 4000000
theorem s_dec_even (k : Nat) (x1 : Int) (x2 : Int) (x3 : Int) (x4 : Int) (x5 : Bool) (x6 : Int) (x7 : Int) (x8 : Int) (x9 : Int) (x10 : Int) (x11 : Int) (H : g_dec_even k x1 x2 x3 x4 = some (x5, x6, x7, x8, x9, x10, x11)) : Go.Q.Spec Tryz.prog 103 0 [.agg [.lit (.int .i64 x1), .lit (.int .i64 x2)], .agg [.lit (.int .i64 x3), .lit (.int .i64 x4)]] Mem.nil (fun o M => o = .ret (.tup [.agg [.lit (.bool (decide (x1 < 0))), .lit (.int .u64 x6), .lit (.int .u64 x7), .lit (.int .i64 x8)], .agg [.lit (.bool (decide (x3 < 0))), .lit (.int .u64 x9), .lit (.int .u64 x10), .lit (.int .i64 x11)], .lit (.bool x5)]) ∧ M = ((Mem.nil.push (.cells 71 [.lit (.bool (decide (x1 < 0))), .lit (.int .u64 x6), .lit (.int .u64 x7), .lit (.int .i64 x8)])).push (.cells 71 [.lit (.bool (decide (x3 < 0))), .lit (.int .u64 x9), .lit (.int .u64 x10), .lit (.int .i64 x11)]))) := by
 unfold g_dec_even at H
 refine Go.Q.Spec.of_bodyR (az := [(71, 4)]) (rs := [.cell 4 71, .cell 5 71, .tmp 6]) (nt := 73) Tryz.func103 rfl rfl (by intro t T h; simp at h; rcases h with ⟨rfl, rfl⟩ | ⟨rfl, rfl⟩ <;> first | exact ag71 | exact ag71) rfl rfl fun cx hnp => ?_
 refine WP.sr ?_
 refine WPL.d (d_box rfl rfl) rfl ?_
 refine WPL.d (d_box rfl rfl) rfl ?_
 refine WPL.d (d_alloc ze71 rfl) rfl ?_
 refine WPL.d (d_alloc ze71 rfl) rfl ?_
 refine WPL.qq (q_as (v := .lit (.bool _)) rfl) ?_
 refine WPL.nx ?_
 refine WP.seq ?_
 obtain ⟨⟨x12, x13⟩, H1, H⟩ := bnd H
 refine WP.monoW (Q := fun x E M => x = .normal ∧ E = ((((Env.none.upd 4 (.ptr 0 0)).upd 5 (.ptr 1 0)).upd 7 (.ptr 2 0)).upd 8 (.ptr 3 0)) ∧ M = ((((Mem.nil.push (.cells 71 [.lit (.bool false), .lit (.int .u64 0), .lit (.int .u64 0), .lit (.int .i64 0)])).push (.cells 71 [.lit (.bool false), .lit (.int .u64 0), .lit (.int .u64 0), .lit (.int .i64 0)])).push (.cells 71 [.lit (.bool (decide (x1 < 0))), .lit (.int .u64 0), .lit (.int .u64 x12), .lit (.int .i64 x2)])).push (.cells 71 [.lit (.bool (decide (x3 < 0))), .lit (.int .u64 0), .lit (.int .u64 x13), .lit (.int .i64 x4)]))) ?_ ?_
 · clear H
   have H := H1
   clear H1
   refine WP.regionD' 8 [0, 1] [] mixed rfl ?_
   refine WPD.take 0 rfl (by kernel_rfl) (q_load_ag ag23 rfl rfl (Nat.le_of_ble_eq_true rfl)) rfl rfl ?_
   refine WPD.take 2 rfl (by kernel_rfl) (q_load_ag ag23 rfl rfl (Nat.le_of_ble_eq_true rfl)) rfl rfl ?_
   refine WPD.of3 1 4 5 (by kernel_rfl) ?_ ?_ ?_
   · obtain ⟨x14, h1, H⟩ := bnd H
     refine WPD1.eff 1 [0, 1] [] rfl (runs_call (s := []) (t := [4]) (N := 5) (bor := []) fn81 rfl (s_dec_of k x1 x2 x14 h1) ⟨rfl, trivial, by decide, rfl, trivial⟩ rfl trivial (.ren rfl rfl .nil) rfl BB1 rfl) rfl rfl ?_
     refine WPD.of3 3 4 5 (by kernel_rfl) ?_ ?_ ?_
     · obtain ⟨x15, h2, H⟩ := bnd H
       refine WPD1.eff 3 [0, 1] [] rfl (runs_call (s := []) (t := [5]) (N := 6) (bor := []) fn81 rfl (s_dec_of k x3 x4 x15 h2) ⟨rfl, trivial, by decide, rfl, trivial⟩ rfl trivial (.ren rfl rfl .nil) rfl BB1 rfl) rfl rfl ?_
       refine WPD.of2 4 5 (by kernel_rfl) ?_ ?_
       · refine WPD1.eff 4 [0, 1] [] rfl (Does.runs (d_alloc ze71 rfl)) rfl rfl ?_
         refine WPD.ef 5 [0, 1] [] rfl (Does.runs (d_alloc ze71 rfl)) ?_
         refine WPD.effS 6 [0, 1] [] rfl (by kernel_rfl) (s_store sz71 rfl rfl rfl rfl rfl) rfl ?_
         refine WPD.effS 7 [0, 1] [] rfl (by kernel_rfl) (s_store sz71 rfl rfl rfl rfl rfl) rfl ?_
         refine WPD.doneW (by kernel_rfl) ?_
         obtain ⟨rfl, rfl⟩ := j2 H
         exact W.wk [2, 3, 6, 7] hnp r3 ⟨rfl, AA4, by decide, rfl, trivial⟩ (LeE.u (LeE.u (LeE.u (LeE.u (LeE.none rfl rfl))))) rfl
       refine WPD1.eff 5 [0, 1] [] rfl (Does.runs (d_alloc ze71 rfl)) rfl rfl ?_
       refine WPD.ef 4 [0, 1] [] rfl (Does.runs (d_alloc ze71 rfl)) ?_
       refine WPD.effS 6 [0, 1] [] rfl (by kernel_rfl) (s_store sz71 rfl rfl rfl rfl rfl) rfl ?_
       refine WPD.effS 7 [0, 1] [] rfl (by kernel_rfl) (s_store sz71 rfl rfl rfl rfl rfl) rfl ?_
       refine WPD.doneW (by kernel_rfl) ?_
       obtain ⟨rfl, rfl⟩ := j2 H
       exact W.wk [2, 3, 7, 6] hnp r3 ⟨rfl, AA4, by decide, rfl, trivial⟩ (LeE.u (LeE.u (LeE.u (LeE.u (LeE.none rfl rfl))))) rfl
     · refine WPD1.eff 4 [0, 1] [] rfl (Does.runs (d_alloc ze71 rfl)) rfl rfl ?_
       refine WPD.of2 3 5 (by kernel_rfl) ?_ ?_
       · obtain ⟨x16, h3, H⟩ := bnd H
         refine WPD1.eff 3 [0, 1] [] rfl (runs_call (s := []) (t := [6]) (N := 7) (bor := []) fn81 rfl (s_dec_of k x3 x4 x16 h3) ⟨rfl, trivial, by decide, rfl, trivial⟩ rfl trivial (.ren rfl rfl .nil) rfl BB1 rfl) rfl rfl ?_
         refine WPD.ef 5 [0, 1] [] rfl (Does.runs (d_alloc ze71 rfl)) ?_
         refine WPD.effS 6 [0, 1] [] rfl (by kernel_rfl) (s_store sz71 rfl rfl rfl rfl rfl) rfl ?_
         refine WPD.effS 7 [0, 1] [] rfl (by kernel_rfl) (s_store sz71 rfl rfl rfl rfl rfl) rfl ?_
         refine WPD.doneW (by kernel_rfl) ?_
         obtain ⟨rfl, rfl⟩ := j2 H
         exact W.wk [2, 3, 5, 7] hnp r3 ⟨rfl, AA4, by decide, rfl, trivial⟩ (LeE.u (LeE.u (LeE.u (LeE.u (LeE.none rfl rfl))))) rfl
       refine WPD1.eff 5 [0, 1] [] rfl (Does.runs (d_alloc ze71 rfl)) rfl rfl ?_
       obtain ⟨x17, h4, H⟩ := bnd H
       refine WPD.ef 3 [0, 1] [] rfl (runs_call (s := []) (t := [7]) (N := 8) (bor := []) fn81 rfl (s_dec_of k x3 x4 x17 h4) ⟨rfl, trivial, by decide, rfl, trivial⟩ rfl trivial (.ren rfl rfl .nil) rfl BB1 rfl) ?_
       refine WPD.effS 6 [0, 1] [] rfl (by kernel_rfl) (s_store sz71 rfl rfl rfl rfl rfl) rfl ?_
       refine WPD.effS 7 [0, 1] [] rfl (by kernel_rfl) (s_store sz71 rfl rfl rfl rfl rfl) rfl ?_
       refine WPD.doneW (by kernel_rfl) ?_
       obtain ⟨rfl, rfl⟩ := j2 H
       exact W.wk [2, 3, 5, 6] hnp r3 ⟨rfl, AA4, by decide, rfl, trivial⟩ (LeE.u (LeE.u (LeE.u (LeE.u (LeE.none rfl rfl))))) rfl
     refine WPD1.eff 5 [0, 1] [] rfl (Does.runs (d_alloc ze71 rfl)) rfl rfl ?_
     refine WPD.of2 3 4 (by kernel_rfl) ?_ ?_
     · obtain ⟨x18, h5, H⟩ := bnd H
       refine WPD1.eff 3 [0, 1] [] rfl (runs_call (s := []) (t := [6]) (N := 7) (bor := []) fn81 rfl (s_dec_of k x3 x4 x18 h5) ⟨rfl, trivial, by decide, rfl, trivial⟩ rfl trivial (.ren rfl rfl .nil) rfl BB1 rfl) rfl rfl ?_
       refine WPD.ef 4 [0, 1] [] rfl (Does.runs (d_alloc ze71 rfl)) ?_
       refine WPD.effS 6 [0, 1] [] rfl (by kernel_rfl) (s_store sz71 rfl rfl rfl rfl rfl) rfl ?_
       refine WPD.effS 7 [0, 1] [] rfl (by kernel_rfl) (s_store sz71 rfl rfl rfl rfl rfl) rfl ?_
       refine WPD.doneW (by kernel_rfl) ?_
       obtain ⟨rfl, rfl⟩ := j2 H
       exact W.wk [2, 3, 7, 5] hnp r3 ⟨rfl, AA4, by decide, rfl, trivial⟩ (LeE.u (LeE.u (LeE.u (LeE.u (LeE.none rfl rfl))))) rfl
     refine WPD1.eff 4 [0, 1] [] rfl (Does.runs (d_alloc ze71 rfl)) rfl rfl ?_
     obtain ⟨x19, h6, H⟩ := bnd H
     refine WPD.ef 3 [0, 1] [] rfl (runs_call (s := []) (t := [7]) (N := 8) (bor := []) fn81 rfl (s_dec_of k x3 x4 x19 h6) ⟨rfl, trivial, by decide, rfl, trivial⟩ rfl trivial (.ren rfl rfl .nil) rfl BB1 rfl) ?_
     refine WPD.effS 6 [0, 1] [] rfl (by kernel_rfl) (s_store sz71 rfl rfl rfl rfl rfl) rfl ?_
     refine WPD.effS 7 [0, 1] [] rfl (by kernel_rfl) (s_store sz71 rfl rfl rfl rfl rfl) rfl ?_
     refine WPD.doneW (by kernel_rfl) ?_
     obtain ⟨rfl, rfl⟩ := j2 H
     exact W.wk [2, 3, 6, 5] hnp r3 ⟨rfl, AA4, by decide, rfl, trivial⟩ (LeE.u (LeE.u (LeE.u (LeE.u (LeE.none rfl rfl))))) rfl
   · refine WPD1.eff 4 [0, 1] [] rfl (Does.runs (d_alloc ze71 rfl)) rfl rfl ?_
     refine WPD.of2 1 5 (by kernel_rfl) ?_ ?_
     · obtain ⟨x20, h7, H⟩ := bnd H
       refine WPD1.eff 1 [0, 1] [] rfl (runs_call (s := []) (t := [5]) (N := 6) (bor := []) fn81 rfl (s_dec_of k x1 x2 x20 h7) ⟨rfl, trivial, by decide, rfl, trivial⟩ rfl trivial (.ren rfl rfl .nil) rfl BB1 rfl) rfl rfl ?_
       refine WPD.of2 3 5 (by kernel_rfl) ?_ ?_
       · obtain ⟨x21, h8, H⟩ := bnd H
         refine WPD1.eff 3 [0, 1] [] rfl (runs_call (s := []) (t := [6]) (N := 7) (bor := []) fn81 rfl (s_dec_of k x3 x4 x21 h8) ⟨rfl, trivial, by decide, rfl, trivial⟩ rfl trivial (.ren rfl rfl .nil) rfl BB1 rfl) rfl rfl ?_
         refine WPD.ef 5 [0, 1] [] rfl (Does.runs (d_alloc ze71 rfl)) ?_
         refine WPD.effS 6 [0, 1] [] rfl (by kernel_rfl) (s_store sz71 rfl rfl rfl rfl rfl) rfl ?_
         refine WPD.effS 7 [0, 1] [] rfl (by kernel_rfl) (s_store sz71 rfl rfl rfl rfl rfl) rfl ?_
         refine WPD.doneW (by kernel_rfl) ?_
         obtain ⟨rfl, rfl⟩ := j2 H
         exact W.wk [2, 3, 4, 7] hnp r3 ⟨rfl, AA4, by decide, rfl, trivial⟩ (LeE.u (LeE.u (LeE.u (LeE.u (LeE.none rfl rfl))))) rfl
       refine WPD1.eff 5 [0, 1] [] rfl (Does.runs (d_alloc ze71 rfl)) rfl rfl ?_
       obtain ⟨x22, h9, H⟩ := bnd H
       refine WPD.ef 3 [0, 1] [] rfl (runs_call (s := []) (t := [7]) (N := 8) (bor := []) fn81 rfl (s_dec_of k x3 x4 x22 h9) ⟨rfl, trivial, by decide, rfl, trivial⟩ rfl trivial (.ren rfl rfl .nil) rfl BB1 rfl) ?_
       refine WPD.effS 6 [0, 1] [] rfl (by kernel_rfl) (s_store sz71 rfl rfl rfl rfl rfl) rfl ?_
       refine WPD.effS 7 [0, 1] [] rfl (by kernel_rfl) (s_store sz71 rfl rfl rfl rfl rfl) rfl ?_
       refine WPD.doneW (by kernel_rfl) ?_
       obtain ⟨rfl, rfl⟩ := j2 H
       exact W.wk [2, 3, 4, 6] hnp r3 ⟨rfl, AA4, by decide, rfl, trivial⟩ (LeE.u (LeE.u (LeE.u (LeE.u (LeE.none rfl rfl))))) rfl
     refine WPD1.eff 5 [0, 1] [] rfl (Does.runs (d_alloc ze71 rfl)) rfl rfl ?_
     obtain ⟨x23, h10, H⟩ := bnd H
     refine WPD.ef 1 [0, 1] [] rfl (runs_call (s := []) (t := [6]) (N := 7) (bor := []) fn81 rfl (s_dec_of k x1 x2 x23 h10) ⟨rfl, trivial, by decide, rfl, trivial⟩ rfl trivial (.ren rfl rfl .nil) rfl BB1 rfl) ?_
     obtain ⟨x24, h11, H⟩ := bnd H
     refine WPD.ef 3 [0, 1] [] rfl (runs_call (s := []) (t := [7]) (N := 8) (bor := []) fn81 rfl (s_dec_of k x3 x4 x24 h11) ⟨rfl, trivial, by decide, rfl, trivial⟩ rfl trivial (.ren rfl rfl .nil) rfl BB1 rfl) ?_
     refine WPD.effS 6 [0, 1] [] rfl (by kernel_rfl) (s_store sz71 rfl rfl rfl rfl rfl) rfl ?_
     refine WPD.effS 7 [0, 1] [] rfl (by kernel_rfl) (s_store sz71 rfl rfl rfl rfl rfl) rfl ?_
     refine WPD.doneW (by kernel_rfl) ?_
     obtain ⟨rfl, rfl⟩ := j2 H
     exact W.wk [2, 3, 4, 5] hnp r3 ⟨rfl, AA4, by decide, rfl, trivial⟩ (LeE.u (LeE.u (LeE.u (LeE.u (LeE.none rfl rfl))))) rfl
   refine WPD1.eff 5 [0, 1] [] rfl (Does.runs (d_alloc ze71 rfl)) rfl rfl ?_
   refine WPD.of2 1 4 (by kernel_rfl) ?_ ?_
   · obtain ⟨x25, h12, H⟩ := bnd H
     refine WPD1.eff 1 [0, 1] [] rfl (runs_call (s := []) (t := [5]) (N := 6) (bor := []) fn81 rfl (s_dec_of k x1 x2 x25 h12) ⟨rfl, trivial, by decide, rfl, trivial⟩ rfl trivial (.ren rfl rfl .nil) rfl BB1 rfl) rfl rfl ?_
     refine WPD.of2 3 4 (by kernel_rfl) ?_ ?_
     · obtain ⟨x26, h13, H⟩ := bnd H
       refine WPD1.eff 3 [0, 1] [] rfl (runs_call (s := []) (t := [6]) (N := 7) (bor := []) fn81 rfl (s_dec_of k x3 x4 x26 h13) ⟨rfl, trivial, by decide, rfl, trivial⟩ rfl trivial (.ren rfl rfl .nil) rfl BB1 rfl) rfl rfl ?_
       refine WPD.ef 4 [0, 1] [] rfl (Does.runs (d_alloc ze71 rfl)) ?_
       refine WPD.effS 6 [0, 1] [] rfl (by kernel_rfl) (s_store sz71 rfl rfl rfl rfl rfl) rfl ?_
       refine WPD.effS 7 [0, 1] [] rfl (by kernel_rfl) (s_store sz71 rfl rfl rfl rfl rfl) rfl ?_
       refine WPD.doneW (by kernel_rfl) ?_
       obtain ⟨rfl, rfl⟩ := j2 H
       exact W.wk [2, 3, 7, 4] hnp r3 ⟨rfl, AA4, by decide, rfl, trivial⟩ (LeE.u (LeE.u (LeE.u (LeE.u (LeE.none rfl rfl))))) rfl
     refine WPD1.eff 4 [0, 1] [] rfl (Does.runs (d_alloc ze71 rfl)) rfl rfl ?_
     obtain ⟨x27, h14, H⟩ := bnd H
     refine WPD.ef 3 [0, 1] [] rfl (runs_call (s := []) (t := [7]) (N := 8) (bor := []) fn81 rfl (s_dec_of k x3 x4 x27 h14) ⟨rfl, trivial, by decide, rfl, trivial⟩ rfl trivial (.ren rfl rfl .nil) rfl BB1 rfl) ?_
     refine WPD.effS 6 [0, 1] [] rfl (by kernel_rfl) (s_store sz71 rfl rfl rfl rfl rfl) rfl ?_
     refine WPD.effS 7 [0, 1] [] rfl (by kernel_rfl) (s_store sz71 rfl rfl rfl rfl rfl) rfl ?_
     refine WPD.doneW (by kernel_rfl) ?_
     obtain ⟨rfl, rfl⟩ := j2 H
     exact W.wk [2, 3, 6, 4] hnp r3 ⟨rfl, AA4, by decide, rfl, trivial⟩ (LeE.u (LeE.u (LeE.u (LeE.u (LeE.none rfl rfl))))) rfl
   refine WPD1.eff 4 [0, 1] [] rfl (Does.runs (d_alloc ze71 rfl)) rfl rfl ?_
   obtain ⟨x28, h15, H⟩ := bnd H
   refine WPD.ef 1 [0, 1] [] rfl (runs_call (s := []) (t := [6]) (N := 7) (bor := []) fn81 rfl (s_dec_of k x1 x2 x28 h15) ⟨rfl, trivial, by decide, rfl, trivial⟩ rfl trivial (.ren rfl rfl .nil) rfl BB1 rfl) ?_
   obtain ⟨x29, h16, H⟩ := bnd H
   refine WPD.ef 3 [0, 1] [] rfl (runs_call (s := []) (t := [7]) (N := 8) (bor := []) fn81 rfl (s_dec_of k x3 x4 x29 h16) ⟨rfl, trivial, by decide, rfl, trivial⟩ rfl trivial (.ren rfl rfl .nil) rfl BB1 rfl) ?_
   refine WPD.effS 6 [0, 1] [] rfl (by kernel_rfl) (s_store sz71 rfl rfl rfl rfl rfl) rfl ?_
   refine WPD.effS 7 [0, 1] [] rfl (by kernel_rfl) (s_store sz71 rfl rfl rfl rfl rfl) rfl ?_
   refine WPD.doneW (by kernel_rfl) ?_
   obtain ⟨rfl, rfl⟩ := j2 H
   exact W.wk [2, 3, 5, 4] hnp r3 ⟨rfl, AA4, by decide, rfl, trivial⟩ (LeE.u (LeE.u (LeE.u (LeE.u (LeE.none rfl rfl))))) rfl
 rintro _ _ _ ⟨rfl, rfl, rfl⟩
 refine W.now ?_
 refine Then.n ?_
 refine WP.sr ?_
 refine WPL.qq (q_as (v := .lit (.bool _)) rfl) ?_
 refine WPL.nx ?_
 refine WP.seq ?_
 obtain ⟨⟨x30, x31, x32, x33, x34, x35, x36⟩, H2, H⟩ := bnd H
 refine WP.monoW (Q := fun x E M => x = .normal ∧ E = (((((Env.none.upd 4 (.ptr 0 0)).upd 5 (.ptr 1 0)).upd 7 (.ptr 2 0)).upd 8 (.ptr 3 0)).upd 9 (.lit (.bool x30))) ∧ M = ((((Mem.nil.push (.cells 71 [.lit (.bool false), .lit (.int .u64 0), .lit (.int .u64 0), .lit (.int .i64 0)])).push (.cells 71 [.lit (.bool false), .lit (.int .u64 0), .lit (.int .u64 0), .lit (.int .i64 0)])).push (.cells 71 [.lit (.bool (decide (x1 < 0))), .lit (.int .u64 x31), .lit (.int .u64 x32), .lit (.int .i64 x33)])).push (.cells 71 [.lit (.bool (decide (x3 < 0))), .lit (.int .u64 x34), .lit (.int .u64 x35), .lit (.int .i64 x36)]))) ?_ ?_
 · clear H
   have H := H2
   clear H2
   refine WP.block ?_
   refine WP.sr ?_
   refine WPL.qq (q_fieldAddr fi71_1 rfl rfl) ?_
   refine WPL.qq (q_load_ag ag69 rfl rfl (Nat.le_of_ble_eq_true rfl)) ?_
   obtain ⟨_, h17, H⟩ := bnd H
   refine WPL.c (runs_call (s := []) (t := []) (N := 4) (bor := []) fn131 rfl (s_dec_wide_zero k 0 x12 h17) ⟨rfl, trivial, by decide, rfl, trivial⟩ rfl trivial (.ren rfl rfl .nil) rfl trivial rfl) rfl ?_
   refine WPL.qq (q_as (v := .lit (.bool _)) rfl) ?_
   refine WPL.nx ?_
   refine WP.cond (t := (decide ((bits .or .u64 0 x12) = 0))) rfl (fun hb1 => ?_) (fun hb1 => ?_)
   · replace H := cnt hb1 H
     refine WP.region ?_
     refine WPL.qq (q_fieldAddr fi71_2 rfl rfl) ?_
     refine WPL.qq (q_load sc3 rfl rfl rfl) ?_
     refine WPL.qq (q_fieldAddr fi71_2 rfl rfl) ?_
     refine WPL.s (s_store sz3 rfl rfl rfl rfl rfl) ?_
     refine WPL.nilW ?_
     obtain ⟨rfl, rfl, rfl, rfl, rfl, rfl, rfl⟩ := j7 H
     exact W.wk [0, 1, 2, 3] hnp (InBlock.n r3) ⟨rfl, AA4, by decide, rfl, trivial⟩ (LeE.u (LeE.u (LeE.u (LeE.u (LeE.u (LeE.none rfl rfl)))))) rfl
   replace H := cnf hb1 H
   refine WP.sr ?_
   refine WPL.qq (q_fieldAddr fi71_1 rfl rfl) ?_
   refine WPL.qq (q_load_ag ag69 rfl rfl (Nat.le_of_ble_eq_true rfl)) ?_
   obtain ⟨_, h18, H⟩ := bnd H
   refine WPL.c (runs_call (s := []) (t := []) (N := 4) (bor := []) fn131 rfl (s_dec_wide_zero k 0 x13 h18) ⟨rfl, trivial, by decide, rfl, trivial⟩ rfl trivial (.ren rfl rfl .nil) rfl trivial rfl) rfl ?_
   refine WPL.qq (q_as (v := .lit (.bool _)) rfl) ?_
   refine WPL.nx ?_
   refine WP.cond (t := (decide ((bits .or .u64 0 x13) = 0))) rfl (fun hb2 => ?_) (fun hb2 => ?_)
   · replace H := cnt hb2 H
     refine WP.region ?_
     refine WPL.qq (q_fieldAddr fi71_2 rfl rfl) ?_
     refine WPL.qq (q_load sc3 rfl rfl rfl) ?_
     refine WPL.qq (q_fieldAddr fi71_2 rfl rfl) ?_
     refine WPL.s (s_store sz3 rfl rfl rfl rfl rfl) ?_
     refine WPL.nilW ?_
     obtain ⟨rfl, rfl, rfl, rfl, rfl, rfl, rfl⟩ := j7 H
     exact W.wk [0, 1, 2, 3] hnp (InBlock.n r3) ⟨rfl, AA4, by decide, rfl, trivial⟩ (LeE.u (LeE.u (LeE.u (LeE.u (LeE.u (LeE.none rfl rfl)))))) rfl
   replace H := cnf hb2 H
   refine WP.sr ?_
   refine WPL.qq (q_fieldAddr fi71_2 rfl rfl) ?_
   refine WPL.qq (q_load sc3 rfl rfl rfl) ?_
   refine WPL.qq (q_fieldAddr fi71_2 rfl rfl) ?_
   refine WPL.qq (q_load sc3 rfl rfl rfl) ?_
   refine WPL.qq (q_gtr rfl rfl) ?_
   refine WPL.qq (q_as (v := .lit (.bool _)) rfl) ?_
   refine WPL.nx ?_
   refine WP.cond (t := (decide (x4 < x2))) rfl (fun hb3 => ?_) (fun hb3 => ?_)
   · replace H := cnt hb3 H
     refine WP.sr ?_
     refine WPL.qq (q_fieldAddr fi71_1 rfl rfl) ?_
     refine WPL.qq (q_load_ag ag69 rfl rfl (Nat.le_of_ble_eq_true rfl)) ?_
     refine WPL.qq (q_fieldAddr fi71_2 rfl rfl) ?_
     refine WPL.qq (q_load sc3 rfl rfl rfl) ?_
     refine WPL.qq (q_fieldAddr fi71_2 rfl rfl) ?_
     refine WPL.qq (q_load sc3 rfl rfl rfl) ?_
     refine WPL.qq (q_sub rfl rfl) ?_
     obtain ⟨⟨x37, x38, x39⟩, h19, H⟩ := bnd H
     refine WPL.c (runs_call (s := []) (t := [4]) (N := 5) (bor := []) fn133 rfl (s_dec_wide_tens k 0 x12 (IntKind.wrap .i64 (x2 - x4)) x37 x38 x39 h19) ⟨rfl, trivial, by decide, rfl, trivial⟩ rfl trivial (.ren rfl rfl (.ren rfl rfl .nil)) rfl BB1 rfl) rfl ?_
     refine WPL.qq (q_mv (v := .tup _) rfl) ?_
     refine WPL.qq (q_extract rfl rfl) ?_
     refine WPL.qq (q_extract rfl rfl) ?_
     refine WPL.qq (q_fieldAddr fi71_1 rfl rfl) ?_
     refine WPL.s (s_store sz69 rfl rfl rfl rfl rfl) ?_
     refine WPL.qq (q_as (v := .lit (.bool _)) rfl) ?_
     refine WPL.nx ?_
     refine WP.region ?_
     refine WPL.qq (q_fieldAddr fi71_2 rfl rfl) ?_
     refine WPL.qq (q_load sc3 rfl rfl rfl) ?_
     refine WPL.qq (q_fieldAddr fi71_2 rfl rfl) ?_
     refine WPL.s (s_store sz3 rfl rfl rfl rfl rfl) ?_
     refine WPL.nilW ?_
     obtain ⟨rfl, rfl, rfl, rfl, rfl, rfl, rfl⟩ := j7 H
     exact W.wk [0, 1, 2, 3] hnp (InBlock.n r3) ⟨rfl, AA4, by decide, rfl, trivial⟩ (LeE.u (LeE.u (LeE.u (LeE.u (LeE.u (LeE.none rfl rfl)))))) rfl
   replace H := cnf hb3 H
   refine WP.sr ?_
   refine WPL.qq (q_fieldAddr fi71_2 rfl rfl) ?_
   refine WPL.qq (q_load sc3 rfl rfl rfl) ?_
   refine WPL.qq (q_fieldAddr fi71_2 rfl rfl) ?_
   refine WPL.qq (q_load sc3 rfl rfl rfl) ?_
   refine WPL.qq (q_gtr rfl rfl) ?_
   refine WPL.qq (q_as (v := .lit (.bool _)) rfl) ?_
   refine WPL.nx ?_
   refine WP.cond (t := (decide (x2 < x4))) rfl (fun hb4 => ?_) (fun hb4 => ?_)
   · replace H := cnt hb4 H
     refine WP.sr ?_
     refine WPL.qq (q_fieldAddr fi71_1 rfl rfl) ?_
     refine WPL.qq (q_load_ag ag69 rfl rfl (Nat.le_of_ble_eq_true rfl)) ?_
     refine WPL.qq (q_fieldAddr fi71_2 rfl rfl) ?_
     refine WPL.qq (q_load sc3 rfl rfl rfl) ?_
     refine WPL.qq (q_fieldAddr fi71_2 rfl rfl) ?_
     refine WPL.qq (q_load sc3 rfl rfl rfl) ?_
     refine WPL.qq (q_sub rfl rfl) ?_
     obtain ⟨⟨x40, x41, x42⟩, h20, H⟩ := bnd H
     refine WPL.c (runs_call (s := []) (t := [4]) (N := 5) (bor := []) fn133 rfl (s_dec_wide_tens k 0 x13 (IntKind.wrap .i64 (x4 - x2)) x40 x41 x42 h20) ⟨rfl, trivial, by decide, rfl, trivial⟩ rfl trivial (.ren rfl rfl (.ren rfl rfl .nil)) rfl BB1 rfl) rfl ?_
     refine WPL.qq (q_mv (v := .tup _) rfl) ?_
     refine WPL.qq (q_extract rfl rfl) ?_
     refine WPL.qq (q_extract rfl rfl) ?_
     refine WPL.qq (q_fieldAddr fi71_1 rfl rfl) ?_
     refine WPL.s (s_store sz69 rfl rfl rfl rfl rfl) ?_
     refine WPL.qq (q_as (v := .lit (.bool _)) rfl) ?_
     refine WPL.nx ?_
     refine WP.region ?_
     refine WPL.qq (q_fieldAddr fi71_2 rfl rfl) ?_
     refine WPL.qq (q_load sc3 rfl rfl rfl) ?_
     refine WPL.qq (q_fieldAddr fi71_2 rfl rfl) ?_
     refine WPL.s (s_store sz3 rfl rfl rfl rfl rfl) ?_
     refine WPL.nilW ?_
     obtain ⟨rfl, rfl, rfl, rfl, rfl, rfl, rfl⟩ := j7 H
     exact W.wk [0, 1, 2, 3] hnp (InBlock.n r3) ⟨rfl, AA4, by decide, rfl, trivial⟩ (LeE.u (LeE.u (LeE.u (LeE.u (LeE.u (LeE.none rfl rfl)))))) rfl
   replace H := cnf hb4 H
   refine WP.skipW ?_
   obtain ⟨rfl, rfl, rfl, rfl, rfl, rfl, rfl⟩ := j7 H
   exact W.wk [0, 1, 2, 3] hnp (InBlock.n r3) ⟨rfl, AA4, by decide, rfl, trivial⟩ (LeE.u (LeE.u (LeE.u (LeE.u (LeE.u (LeE.none rfl rfl)))))) rfl
 rintro _ _ _ ⟨rfl, rfl, rfl⟩
 refine W.now ?_
 refine Then.n ?_
 refine WP.seq ?_
 refine WP.regionD' 6 [2, 3] [] mixed rfl ?_
 refine WPD.tT 2 rfl (q_mv (v := .lit (.bool _)) rfl) ?_
 refine WPD.take 0 rfl (by kernel_rfl) (q_load_ag ag71 rfl rfl (Nat.le_of_ble_eq_true rfl)) rfl rfl ?_
 refine WPD.take 1 rfl (by kernel_rfl) (q_load_ag ag71 rfl rfl (Nat.le_of_ble_eq_true rfl)) rfl rfl ?_
 refine WPD.effS 3 [2, 3] [] rfl (by kernel_rfl) (s_store sz71 rfl rfl rfl rfl rfl) rfl ?_
 refine WPD.effS 4 [2, 3] [] rfl (by kernel_rfl) (s_store sz71 rfl rfl rfl rfl rfl) rfl ?_
 refine WPD.tT 5 rfl (q_as (v := .lit (.bool _)) rfl) ?_
 refine WPD.doneW (by kernel_rfl) ?_
 refine W.now ?_
 refine Then.n ?_
 refine WP.retW ?_
 obtain ⟨rfl, rfl, rfl, rfl, rfl, rfl, rfl⟩ := j7 H
 exact W.now (BodyR.mkR trivial rfl [0, 1] ⟨rfl, rfl⟩ ⟨rfl, AA2, by decide, rfl, trivial⟩ rfl rfl)
theorem s_dec_wide_cmp (k : Nat) (x1 : Int) (x2 : Int) (x3 : Int) (x4 : Int) (x5 : Int) (H : g_dec_wide_cmp k x1 x2 x3 x4 = some x5) : Go.Q.Spec Tryz.prog 104 0 [.agg [.lit (.int .u64 x1), .lit (.int .u64 x2)], .agg [.lit (.int .u64 x3), .lit (.int .u64 x4)]] Mem.nil (fun o M => o = .ret (.lit (.int .i64 x5)) ∧ M = Mem.nil) := by
 unfold g_dec_wide_cmp at H
 refine Go.Q.Spec.of_bodyR (az := []) (rs := [.tmp 4]) (nt := 29) Tryz.func104 rfl rfl (by intro t T h; simp at h) rfl rfl fun cx hnp => ?_
 refine WP.sr ?_
 refine WPL.d (d_box rfl rfl) rfl ?_
 refine WPL.d (d_box rfl rfl) rfl ?_
 refine WPL.qq (q_as (v := .lit (.int _ _)) rfl) ?_
 refine WPL.nx ?_
 refine WP.seq ?_
 refine WP.block ?_
 refine WP.sr ?_
 refine WPL.qq (q_load_ag ag69 rfl rfl (Nat.le_of_ble_eq_true rfl)) ?_
 refine WPL.qq (q_load_ag ag69 rfl rfl (Nat.le_of_ble_eq_true rfl)) ?_
 obtain ⟨x6, h1, H⟩ := bnd H
 refine WPL.qq (q_nm (q_eqlAg (xs := [(.int .u64 x1), (.int .u64 x2)]) (ys := [(.int .u64 x3), (.int .u64 x4)]) (n := 9) rfl eg69 rfl rfl eq69) (nm_bool h1)) ?_
 refine WPL.qq (q_as (v := .lit (.bool _)) rfl) ?_
 refine WPL.nx ?_
 refine WP.cond (t := x6) rfl (fun hb1 => ?_) (fun hb1 => ?_)
 · replace H := cnt hb1 H
   refine WP.sr ?_
   refine WPL.qq (q_as (v := .lit (.int _ _)) rfl) ?_
   refine WPL.nx ?_
   refine WP.retW ?_
   have q0 := j1 H
   subst q0
   exact W.now (InBlock.r (Then.r (BodyR.mkR trivial rfl [] ⟨rfl, rfl⟩ ⟨rfl, trivial, by decide, rfl, trivial⟩ rfl rfl)))
 replace H := cnf hb1 H
 refine WP.seq ?_
 obtain ⟨x7, H1, H⟩ := bnd H
 refine WP.monoW (Q := fun x E M => x = .normal ∧ E = (Env.none.upd 9 (.lit (.bool x7))) ∧ M = Mem.nil) ?_ ?_
 · clear H
   have H := H1
   clear H1
   refine WP.region ?_
   refine WPL.qq (q_fieldAddr fi69_0 rfl rfl) ?_
   refine WPL.qq (q_load sc67 rfl rfl rfl) ?_
   refine WPL.qq (q_fieldAddr fi69_0 rfl rfl) ?_
   refine WPL.qq (q_load sc67 rfl rfl rfl) ?_
   refine WPL.qq (q_lss rfl rfl) ?_
   refine WPL.qq (q_mv (v := .lit (.bool _)) rfl) ?_
   refine WPL.split (t := 15) (b := (decide (x1 < x3))) rfl (fun hb2 => ?_) (fun hb2 => ?_)
   · replace H := cnt hb2 H
     refine WPL.sg true rfl (lb hb2) ?_
     refine WPL.sg true rfl (lb hb2) ?_
     refine WPL.sg true rfl (lb hb2) ?_
     refine WPL.sg true rfl (lb hb2) ?_
     refine WPL.sg true rfl (lb hb2) ?_
     refine WPL.sg true rfl (lb hb2) ?_
     refine WPL.skipu rfl rfl rfl rfl (.inl trivial) ?_
     refine WPL.skipu rfl rfl rfl rfl (.inl trivial) ?_
     refine WPL.skipu rfl rfl rfl rfl (.inl trivial) ?_
     refine WPL.skipu rfl rfl rfl rfl (.inl trivial) ?_
     refine WPL.skipu rfl rfl rfl rfl (.inl trivial) ?_
     refine WPL.sg true rfl (lb hb2) ?_
     refine WPL.qq (q_pickT (v := .lit (.bool _)) (lb hb2) rfl) ?_
     refine WPL.qq (q_as (v := .lit (.bool _)) rfl) ?_
     refine WPL.nilW ?_
     have q0 := j1 H
     subst q0
     exact W.wk [] hnp r3 ⟨rfl, trivial, by decide, rfl, trivial⟩ (LeE.u (LeE.none rfl rfl)) rfl
   replace H := cnf hb2 H
   refine WPL.gq rfl (lb hb2) (q_fieldAddr fi69_0 rfl rfl) ?_
   refine WPL.gq rfl (lb hb2) (q_load sc67 rfl rfl rfl) ?_
   refine WPL.gq rfl (lb hb2) (q_fieldAddr fi69_0 rfl rfl) ?_
   refine WPL.gq rfl (lb hb2) (q_load sc67 rfl rfl rfl) ?_
   refine WPL.gq rfl (lb hb2) (q_eql rfl rfl) ?_
   refine WPL.gq rfl (lb hb2) (q_mv (v := .lit (.bool _)) rfl) ?_
   refine WPL.split (t := 21) (b := (decide (x1 = x3))) rfl (fun hb3 => ?_) (fun hb3 => ?_)
   · replace H := cnt hb3 H
     refine WPL.gq rfl (lb hb3) (q_fieldAddr fi69_1 rfl rfl) ?_
     refine WPL.gq rfl (lb hb3) (q_load sc67 rfl rfl rfl) ?_
     refine WPL.gq rfl (lb hb3) (q_fieldAddr fi69_1 rfl rfl) ?_
     refine WPL.gq rfl (lb hb3) (q_load sc67 rfl rfl rfl) ?_
     refine WPL.gq rfl (lb hb3) (q_lss rfl rfl) ?_
     refine WPL.gq rfl (lb hb2) (q_pickT (v := .lit (.bool _)) (lb hb3) rfl) ?_
     refine WPL.qq (q_pickF (v := .lit (.bool _)) (lb hb2) rfl) ?_
     refine WPL.qq (q_as (v := .lit (.bool _)) rfl) ?_
     refine WPL.nilW ?_
     have q0 := j1 H
     subst q0
     exact W.wk [] hnp r3 ⟨rfl, trivial, by decide, rfl, trivial⟩ (LeE.u (LeE.none rfl rfl)) rfl
   replace H := cnf hb3 H
   refine WPL.sg false rfl (lb hb3) ?_
   refine WPL.sg false rfl (lb hb3) ?_
   refine WPL.sg false rfl (lb hb3) ?_
   refine WPL.sg false rfl (lb hb3) ?_
   refine WPL.sg false rfl (lb hb3) ?_
   refine WPL.gq rfl (lb hb2) (q_pickF (v := .lit (.bool _)) (lb hb3) rfl) ?_
   refine WPL.qq (q_pickF (v := .lit (.bool _)) (lb hb2) rfl) ?_
   refine WPL.qq (q_as (v := .lit (.bool _)) rfl) ?_
   refine WPL.nilW ?_
   have q0 := j1 H
   subst q0
   exact W.wk [] hnp r3 ⟨rfl, trivial, by decide, rfl, trivial⟩ (LeE.u (LeE.none rfl rfl)) rfl
 rintro _ _ _ ⟨rfl, rfl, rfl⟩
 refine W.now ?_
 refine Then.n ?_
 refine WP.cond (t := x7) rfl (fun hb4 => ?_) (fun hb4 => ?_)
 · replace H := cnt hb4 H
   refine WP.sr ?_
   refine WPL.qq (q_as (v := .lit (.int _ _)) rfl) ?_
   refine WPL.nx ?_
   refine WP.retW ?_
   have q0 := j1 H
   subst q0
   exact W.now (InBlock.r (Then.r (BodyR.mkR trivial rfl [] ⟨rfl, rfl⟩ ⟨rfl, trivial, by decide, rfl, trivial⟩ rfl rfl)))
 replace H := cnf hb4 H
 refine WP.skipW ?_
 refine W.now ?_
 refine InBlock.n ?_
 refine Then.n ?_
 refine WP.sr ?_
 refine WPL.qq (q_as (v := .lit (.int _ _)) rfl) ?_
 refine WPL.nx ?_
 refine WP.retW ?_
 have q0 := j1 H
 subst q0
 exact W.now (BodyR.mkR trivial rfl [] ⟨rfl, rfl⟩ ⟨rfl, trivial, by decide, rfl, trivial⟩ rfl rfl)
theorem s_dec_wide_less (k : Nat) (x1 : Int) (x2 : Int) (x3 : Int) (x4 : Int) (H : g_dec_wide_less k x1 x2 x3 x4 = some ()) : Go.Q.Spec Tryz.prog 147 0 [.agg [.lit (.int .u64 x1), .lit (.int .u64 x2)], .agg [.lit (.int .u64 x3), .lit (.int .u64 x4)]] Mem.nil (fun o M => o = .ret (.agg [.lit (.int .u64 ((sub64 x1 x3 ((sub64 x2 x4 0).2)).1)), .lit (.int .u64 ((sub64 x2 x4 0).1))]) ∧ M = (Mem.nil.push (.cells 69 [.lit (.int .u64 ((sub64 x1 x3 ((sub64 x2 x4 0).2)).1)), .lit (.int .u64 ((sub64 x2 x4 0).1))]))) := by
 unfold g_dec_wide_less at H
 refine Go.Q.Spec.of_bodyR (az := [(69, 2)]) (rs := [.cell 4 69]) (nt := 29) Tryz.func147 rfl rfl (by intro t T h; simp at h; rcases h with ⟨rfl, rfl⟩ <;> first | exact ag69) rfl rfl fun cx hnp => ?_
 refine WP.sr ?_
 refine WPL.d (d_box rfl rfl) rfl ?_
 refine WPL.d (d_box rfl rfl) rfl ?_
 refine WPL.d (d_alloc ze69 rfl) rfl ?_
 refine WPL.nx ?_
 refine WP.sr ?_
 refine WPL.qq (q_fieldAddr fi69_1 rfl rfl) ?_
 refine WPL.qq (q_load sc67 rfl rfl rfl) ?_
 refine WPL.qq (q_fieldAddr fi69_1 rfl rfl) ?_
 refine WPL.qq (q_load sc67 rfl rfl rfl) ?_
 refine WPL.qq (q_sub64 ex165 rfl rfl rfl rfl rfl) ?_
 refine WPL.qq (q_mv (v := .tup _) rfl) ?_
 refine WPL.qq (q_extract rfl rfl) ?_
 refine WPL.qq (q_extract rfl rfl) ?_
 refine WPL.qq (q_as (v := .lit (.int _ _)) rfl) ?_
 refine WPL.qq (q_as (v := .lit (.int _ _)) rfl) ?_
 refine WPL.nx ?_
 refine WP.sr ?_
 refine WPL.qq (q_fieldAddr fi69_0 rfl rfl) ?_
 refine WPL.qq (q_load sc67 rfl rfl rfl) ?_
 refine WPL.qq (q_fieldAddr fi69_0 rfl rfl) ?_
 refine WPL.qq (q_load sc67 rfl rfl rfl) ?_
 refine WPL.qq (q_mv (v := .lit (.int _ _)) rfl) ?_
 obtain ⟨h1, H⟩ := grd H
 refine WPL.qq (q_sub64 ex165 rfl rfl rfl rfl h1) ?_
 refine WPL.qq (q_mv (v := .tup _) rfl) ?_
 refine WPL.qq (q_extract rfl rfl) ?_
 refine WPL.qq (q_extract rfl rfl) ?_
 refine WPL.qq (q_as (v := .lit (.int _ _)) rfl) ?_
 refine WPL.qq (q_as (v := .lit (.int _ _)) rfl) ?_
 refine WPL.nx ?_
 refine WP.sr ?_
 refine WPL.qq (q_mv (v := .lit (.int _ _)) rfl) ?_
 refine WPL.qq (q_mv (v := .lit (.int _ _)) rfl) ?_
 refine WPL.qq (q_build bu69 rfl) ?_
 refine WPL.s (s_store sz69 rfl rfl rfl rfl rfl) ?_
 refine WPL.nx ?_
 refine WP.retW ?_
 exact W.now (BodyR.mkR trivial rfl [2] ⟨rfl, rfl⟩ ⟨rfl, AA1, by decide, rfl, trivial⟩ rfl rfl)
theorem s_dec_Add (k : Nat) (x1 : Int) (x2 : Int) (x3 : Int) (x4 : Int) (x5 : Int) (x6 : Int) (x7 : Int) (H : g_dec_Add k x1 x2 x3 x4 = some (x5, x6, x7)) : Go.Q.Spec Tryz.prog 108 0 [.agg [.lit (.int .i64 x1), .lit (.int .i64 x2)], .agg [.lit (.int .i64 x3), .lit (.int .i64 x4)]] Mem.nil (fun o M => o = .ret (.tup [.agg [.lit (.int .i64 x6), .lit (.int .i64 x7)], .lit (.int .i64 x5)]) ∧ M = (Mem.nil.push (.cells 23 [.lit (.int .i64 x6), .lit (.int .i64 x7)]))) := by
 unfold g_dec_Add at H
 refine Go.Q.Spec.of_bodyR (az := [(23, 2)]) (rs := [.cell 4 23, .tmp 5]) (nt := 68) Tryz.func108 rfl rfl (by intro t T h; simp at h; rcases h with ⟨rfl, rfl⟩ <;> first | exact ag23) rfl rfl fun cx hnp => ?_
 refine WP.sr ?_
 refine WPL.d (d_box rfl rfl) rfl ?_
 refine WPL.d (d_box rfl rfl) rfl ?_
 refine WPL.d (d_alloc ze23 rfl) rfl ?_
 refine WPL.qq (q_as (v := .lit (.int _ _)) rfl) ?_
 refine WPL.nx ?_
 refine WP.seq ?_
 refine WP.sr ?_
 refine WPL.d (d_buildCells li144 rfl rfl rfl rfl rfl) rfl ?_
 obtain ⟨⟨x8, x9, x10, x11, x12⟩, h1, H⟩ := bnd H
 refine WPL.c (runs_call (s := [3, 0, 1]) (t := [3, 0, 1]) (N := 4) (bor := []) fn99 rfl (s_dec_clean k x1 x2 x3 x4 x8 x9 x10 x11 x12 h1) ⟨rfl, AA3, by decide, rfl, trivial⟩ rfl trivial (.ren rfl rfl .nil) rfl BB3 rfl) rfl ?_
 refine WPL.qq (q_not rfl) ?_
 refine WPL.nx ?_
 refine WP.cond (t := (!x8)) rfl (fun hb1 => ?_) (fun hb1 => ?_)
 · replace H := cnt hb1 H
   refine WP.sr ?_
   refine WPL.qq (q_build bu23 rfl) ?_
   refine WPL.s (s_store sz23 rfl rfl rfl rfl rfl) ?_
   refine WPL.qq (q_as (v := .lit (.int _ _)) rfl) ?_
   refine WPL.nx ?_
   refine WP.retW ?_
   obtain ⟨rfl, rfl, rfl⟩ := j3 H
   exact W.now (Then.r (BodyR.mkR trivial rfl [2] ⟨rfl, rfl⟩ ⟨rfl, AA1, by decide, rfl, trivial⟩ rfl rfl))
 replace H := cnf hb1 H
 refine WP.skipW ?_
 refine W.now ?_
 refine Then.n ?_
 refine WP.sr ?_
 refine WPL.qq (q_load_ag ag23 rfl rfl (Nat.le_of_ble_eq_true rfl)) ?_
 refine WPL.qq (q_load_ag ag23 rfl rfl (Nat.le_of_ble_eq_true rfl)) ?_
 obtain ⟨⟨x13, x14, x15, x16, x17, x18, x19⟩, h2, H⟩ := bnd H
 refine WPL.c (runs_call (s := []) (t := [4, 5]) (N := 6) (bor := []) fn103 rfl (s_dec_even k x9 x10 x11 x12 x13 x14 x15 x16 x17 x18 x19 h2) ⟨rfl, trivial, by decide, rfl, trivial⟩ rfl trivial (.ren rfl rfl (.ren rfl rfl .nil)) rfl BB2 rfl) rfl ?_
 refine WPL.qq (q_mv (v := .tup _) rfl) ?_
 refine WPL.qq (q_extract rfl rfl) ?_
 refine WPL.qq (q_extract rfl rfl) ?_
 refine WPL.qq (q_extract rfl rfl) ?_
 refine WPL.d (d_alloc ze71 rfl) rfl ?_
 refine WPL.d (d_alloc ze71 rfl) rfl ?_
 refine WPL.s (s_store sz71 rfl rfl rfl rfl rfl) ?_
 refine WPL.s (s_store sz71 rfl rfl rfl rfl rfl) ?_
 refine WPL.qq (q_as (v := .lit (.bool _)) rfl) ?_
 refine WPL.nx ?_
 refine WP.seq ?_
 obtain ⟨y1, H1, H⟩ := bnd H
 refine WP.monoW (Q := fun x E M => match (generalizing := false) y1 with | (Sum.inl _) => x = .ret ∧ E = ((Env.none.upd 4 (.ptr 0 0)).upd 5 (.lit (.int .i64 30))) ∧ M = (Mem.nil.push (.cells 23 [.lit (.int .i64 0), .lit (.int .i64 0)])) | (Sum.inr (x20, x21, x22, x23)) => x = .normal ∧ E = (((Env.none.upd 4 (.ptr 0 0)).upd 6 (.ptr 1 0)).upd 8 (.lit (.bool x20))) ∧ M = ((Mem.nil.push (.cells 23 [.lit (.int .i64 0), .lit (.int .i64 0)])).push (.cells 71 [.lit (.bool x21), .lit (.int .u64 x22), .lit (.int .u64 x23), .lit (.int .i64 x16)]))) ?_ ?_
 · clear H
   have H := H1
   clear H1
   refine WP.block ?_
   refine WP.sr ?_
   refine WPL.qq (q_mv (v := .lit (.bool _)) rfl) ?_
   refine WPL.qq (q_not rfl) ?_
   refine WPL.qq (q_as (v := .lit (.bool _)) rfl) ?_
   refine WPL.nx ?_
   refine WP.cond (t := (!x13)) rfl (fun hb2 => ?_) (fun hb2 => ?_)
   · replace H := cnt hb2 H
     refine WP.sr ?_
     refine WPL.qq (q_build bu23 rfl) ?_
     refine WPL.s (s_store sz23 rfl rfl rfl rfl rfl) ?_
     refine WPL.qq (q_as (v := .lit (.int _ _)) rfl) ?_
     refine WPL.nx ?_
     refine WP.retW ?_
     have q0 := j1 H
     subst q0
     exact W.wk [2] hnp (InBlock.r r3) ⟨rfl, AA1, by decide, rfl, trivial⟩ (LeE.u (LeE.u (LeE.none rfl rfl))) rfl
   replace H := cnf hb2 H
   refine WP.sr ?_
   refine WPL.qq (q_fieldAddr fi71_0 rfl rfl) ?_
   refine WPL.qq (q_load sc4 rfl rfl rfl) ?_
   refine WPL.qq (q_fieldAddr fi71_0 rfl rfl) ?_
   refine WPL.qq (q_load sc4 rfl rfl rfl) ?_
   obtain ⟨x24, h3, H⟩ := bnd H
   refine WPL.qq (q_nm (q_eqlb Tryz.underlying4 rfl rfl) (nm_bool h3)) ?_
   refine WPL.qq (q_as (v := .lit (.bool _)) rfl) ?_
   refine WPL.nx ?_
   refine WP.cond (t := x24) rfl (fun hb3 => ?_) (fun hb3 => ?_)
   · replace H := cnt hb3 H
     refine WP.region ?_
     refine WPL.qq (q_fieldAddr fi71_1 rfl rfl) ?_
     refine WPL.qq (q_load_ag ag69 rfl rfl (Nat.le_of_ble_eq_true rfl)) ?_
     refine WPL.qq (q_fieldAddr fi71_1 rfl rfl) ?_
     refine WPL.qq (q_load_ag ag69 rfl rfl (Nat.le_of_ble_eq_true rfl)) ?_
     obtain ⟨x25, h4, H⟩ := bnd H
     refine WPL.c (runs_call (s := []) (t := [8]) (N := 9) (bor := []) fn94 rfl (s_dec_wide_plus k x14 x15 x17 x18 x25 h4) ⟨rfl, trivial, by decide, rfl, trivial⟩ rfl trivial (.ren rfl rfl (.ren rfl rfl .nil)) rfl BB1 rfl) rfl ?_
     refine WPL.qq (q_mv (v := .tup _) rfl) ?_
     refine WPL.qq (q_extract rfl rfl) ?_
     refine WPL.qq (q_extract rfl rfl) ?_
     refine WPL.qq (q_fieldAddr fi71_1 rfl rfl) ?_
     refine WPL.s (s_store sz69 rfl rfl rfl rfl rfl) ?_
     refine WPL.qq (q_as (v := .lit (.bool _)) rfl) ?_
     refine WPL.nilW ?_
     have q0 := j1 H
     subst q0
     exact W.wk [2, 6] hnp (InBlock.n r3) ⟨rfl, AA2, by decide, rfl, trivial⟩ (LeE.u (LeE.u (LeE.u (LeE.none rfl rfl)))) rfl
   replace H := cnf hb3 H
   refine WP.sr ?_
   refine WPL.qq (q_fieldAddr fi71_1 rfl rfl) ?_
   refine WPL.qq (q_load_ag ag69 rfl rfl (Nat.le_of_ble_eq_true rfl)) ?_
   refine WPL.qq (q_fieldAddr fi71_1 rfl rfl) ?_
   refine WPL.qq (q_load_ag ag69 rfl rfl (Nat.le_of_ble_eq_true rfl)) ?_
   obtain ⟨x26, h5, H⟩ := bnd H
   refine WPL.c (runs_call (s := []) (t := []) (N := 8) (bor := []) fn104 rfl (s_dec_wide_cmp k x14 x15 x17 x18 x26 h5) ⟨rfl, trivial, by decide, rfl, trivial⟩ rfl trivial (.ren rfl rfl (.ren rfl rfl .nil)) rfl trivial rfl) rfl ?_
   refine WPL.qq (q_geq rfl rfl) ?_
   refine WPL.qq (q_as (v := .lit (.bool _)) rfl) ?_
   refine WPL.nx ?_
   refine WP.cond (t := (decide (0 ≤ x26))) rfl (fun hb4 => ?_) (fun hb4 => ?_)
   · replace H := cnt hb4 H
     refine WP.region ?_
     refine WPL.qq (q_fieldAddr fi71_1 rfl rfl) ?_
     refine WPL.qq (q_load_ag ag69 rfl rfl (Nat.le_of_ble_eq_true rfl)) ?_
     refine WPL.qq (q_fieldAddr fi71_1 rfl rfl) ?_
     refine WPL.qq (q_load_ag ag69 rfl rfl (Nat.le_of_ble_eq_true rfl)) ?_
     obtain ⟨_, h6, H⟩ := bnd H
     refine WPL.c (runs_call (s := []) (t := [8]) (N := 9) (bor := []) fn147 rfl (s_dec_wide_less k x14 x15 x17 x18 h6) ⟨rfl, trivial, by decide, rfl, trivial⟩ rfl trivial (.ren rfl rfl (.ren rfl rfl .nil)) rfl BB1 rfl) rfl ?_
     refine WPL.qq (q_fieldAddr fi71_1 rfl rfl) ?_
     refine WPL.s (s_store sz69 rfl rfl rfl rfl rfl) ?_
     refine WPL.nilW ?_
     have q0 := j1 H
     subst q0
     exact W.wk [2, 6] hnp (InBlock.n r3) ⟨rfl, AA2, by decide, rfl, trivial⟩ (LeE.u (LeE.u (LeE.u (LeE.none rfl rfl)))) rfl
   replace H := cnf hb4 H
   refine WP.regionD' 11 [6, 7] [8] mixed rfl ?_
   refine WPD.tT 0 rfl (q_fieldAddr fi71_0 rfl rfl) ?_
   refine WPD.tT 2 rfl (q_fieldAddr fi71_1 rfl rfl) ?_
   refine WPD.tT 4 rfl (q_fieldAddr fi71_1 rfl rfl) ?_
   refine WPD.take 1 rfl (by kernel_rfl) (q_load sc4 rfl rfl rfl) rfl rfl ?_
   refine WPD.take 3 rfl (by kernel_rfl) (q_load_ag ag69 rfl rfl (Nat.le_of_ble_eq_true rfl)) rfl rfl ?_
   refine WPD.take 5 rfl (by kernel_rfl) (q_load_ag ag69 rfl rfl (Nat.le_of_ble_eq_true rfl)) rfl rfl ?_
   refine WPD.tT 7 rfl (q_fieldAddr fi71_0 rfl rfl) ?_
   obtain ⟨_, h7, H⟩ := bnd H
   refine WPD.ef 6 [6, 7] [8] rfl (runs_call (s := []) (t := [8]) (N := 9) (bor := []) fn147 rfl (s_dec_wide_less k x17 x18 x14 x15 h7) ⟨rfl, trivial, by decide, rfl, trivial⟩ rfl trivial (.ren rfl rfl (.ren rfl rfl .nil)) rfl BB1 rfl) ?_
   refine WPD.effS 8 [] [] rfl (by kernel_rfl) (s_store sz4 rfl rfl rfl rfl rfl) rfl ?_
   refine WPD.tT 9 rfl (q_fieldAddr fi71_1 rfl rfl) ?_
   refine WPD.effS 10 [] [] rfl (by kernel_rfl) (s_store sz69 rfl rfl rfl rfl rfl) rfl ?_
   refine WPD.doneW (by kernel_rfl) ?_
   have q0 := j1 H
   subst q0
   exact W.wk [2, 6] hnp (InBlock.n r3) ⟨rfl, AA2, by decide, rfl, trivial⟩ (LeE.u (LeE.u (LeE.u (LeE.none rfl rfl)))) rfl
 rcases y1 with _ | ⟨x20, x21, x22, x23⟩
 · rintro _ _ _ ⟨rfl, rfl, rfl⟩
   obtain ⟨rfl, rfl, rfl⟩ := j3 H
   exact W.now (Then.r (BodyR.mkR trivial rfl [0] ⟨rfl, rfl⟩ ⟨rfl, AA1, by decide, rfl, trivial⟩ rfl rfl))
 rintro _ _ _ ⟨rfl, rfl, rfl⟩
 refine W.now ?_
 refine Then.n ?_
 refine WP.seq ?_
 refine WP.sr ?_
 refine WPL.qq (q_mv (v := .lit (.bool _)) rfl) ?_
 refine WPL.qq (q_not rfl) ?_
 refine WPL.nx ?_
 refine WP.cond (t := (!x20)) rfl (fun hb5 => ?_) (fun hb5 => ?_)
 · replace H := cnt hb5 H
   refine WP.sr ?_
   refine WPL.qq (q_build bu23 rfl) ?_
   refine WPL.s (s_store sz23 rfl rfl rfl rfl rfl) ?_
   refine WPL.qq (q_as (v := .lit (.int _ _)) rfl) ?_
   refine WPL.nx ?_
   refine WP.retW ?_
   obtain ⟨rfl, rfl, rfl⟩ := j3 H
   exact W.now (Then.r (BodyR.mkR trivial rfl [0] ⟨rfl, rfl⟩ ⟨rfl, AA1, by decide, rfl, trivial⟩ rfl rfl))
 replace H := cnf hb5 H
 refine WP.skipW ?_
 refine W.now ?_
 refine Then.n ?_
 refine WP.sr ?_
 refine WPL.qq (q_load_ag ag71 rfl rfl (Nat.le_of_ble_eq_true rfl)) ?_
 obtain ⟨⟨x27, x28, x29⟩, h8, H⟩ := bnd H
 refine WPL.c (runs_call (s := []) (t := [2]) (N := 3) (bor := []) fn82 rfl (s_dec_num_tell k x21 x22 x23 x16 x27 x28 x29 h8) ⟨rfl, trivial, by decide, rfl, trivial⟩ rfl trivial (.ren rfl rfl .nil) rfl BB1 rfl) rfl ?_
 refine WPL.qq (q_extract rfl rfl) ?_
 refine WPL.qq (q_extract rfl rfl) ?_
 refine WPL.s (s_store sz23 rfl rfl rfl rfl rfl) ?_
 refine WPL.qq (q_as (v := .lit (.int _ _)) rfl) ?_
 refine WPL.nx ?_
 refine WP.retW ?_
 obtain ⟨rfl, rfl, rfl⟩ := j3 H
 exact W.now (BodyR.mkR trivial rfl [0] ⟨rfl, rfl⟩ ⟨rfl, AA1, by decide, rfl, trivial⟩ rfl rfl)
theorem s_dec_Div (k : Nat) (x1 : Int) (x2 : Int) (x3 : Int) (x4 : Int) (x5 : Int) (H : g_dec_Div k x1 x2 x3 x4 = some x5) : Go.Q.Spec Tryz.prog 110 0 [.agg [.lit (.int .i64 x1), .lit (.int .i64 x2)], .agg [.lit (.int .i64 x3), .lit (.int .i64 x4)]] Mem.nil (fun o M => o = .ret (.tup [.agg [.lit (.int .i64 0), .lit (.int .i64 0)], .lit (.int .i64 x5)]) ∧ M = (Mem.nil.push (.cells 23 [.lit (.int .i64 0), .lit (.int .i64 0)]))) := by
 unfold g_dec_Div at H
 refine Go.Q.Spec.of_bodyR (az := [(23, 2)]) (rs := [.cell 4 23, .tmp 5]) (nt := 118) Tryz.func110 rfl rfl (by intro t T h; simp at h; rcases h with ⟨rfl, rfl⟩ <;> first | exact ag23) rfl rfl fun cx hnp => ?_
 refine WP.sr ?_
 refine WPL.d (d_box rfl rfl) rfl ?_
 refine WPL.d (d_box rfl rfl) rfl ?_
 refine WPL.d (d_alloc ze23 rfl) rfl ?_
 refine WPL.qq (q_as (v := .lit (.int _ _)) rfl) ?_
 refine WPL.nx ?_
 refine WP.seq ?_
 refine WP.sr ?_
 refine WPL.d (d_buildCells li144 rfl rfl rfl rfl rfl) rfl ?_
 obtain ⟨⟨x6, x7, x8, x9, x10⟩, h1, H⟩ := bnd H
 refine WPL.c (runs_call (s := [3, 0, 1]) (t := [3, 0, 1]) (N := 4) (bor := []) fn99 rfl (s_dec_clean k x1 x2 x3 x4 x6 x7 x8 x9 x10 h1) ⟨rfl, AA3, by decide, rfl, trivial⟩ rfl trivial (.ren rfl rfl .nil) rfl BB3 rfl) rfl ?_
 refine WPL.qq (q_not rfl) ?_
 refine WPL.nx ?_
 refine WP.cond (t := (!x6)) rfl (fun hb1 => ?_) (fun hb1 => ?_)
 · replace H := cnt hb1 H
   refine WP.sr ?_
   refine WPL.qq (q_build bu23 rfl) ?_
   refine WPL.s (s_store sz23 rfl rfl rfl rfl rfl) ?_
   refine WPL.qq (q_as (v := .lit (.int _ _)) rfl) ?_
   refine WPL.nx ?_
   refine WP.retW ?_
   have q0 := j1 H
   subst q0
   exact W.now (Then.r (BodyR.mkR trivial rfl [2] ⟨rfl, rfl⟩ ⟨rfl, AA1, by decide, rfl, trivial⟩ rfl rfl))
 replace H := cnf hb1 H
 refine WP.skipW ?_
 refine W.now ?_
 refine Then.n ?_
 refine WP.seq ?_
 refine WP.sr ?_
 refine WPL.qq (q_fieldAddr fi23_0 rfl rfl) ?_
 refine WPL.qq (q_load sc2 rfl rfl rfl) ?_
 refine WPL.qq (q_eql rfl rfl) ?_
 refine WPL.nx ?_
 refine WP.cond (t := (decide (x9 = 0))) rfl (fun hb2 => ?_) (fun hb2 => ?_)
 · replace H := cnt hb2 H
   refine WP.sr ?_
   refine WPL.qq (q_build bu23 rfl) ?_
   refine WPL.s (s_store sz23 rfl rfl rfl rfl rfl) ?_
   refine WPL.qq (q_as (v := .lit (.int _ _)) rfl) ?_
   refine WPL.nx ?_
   refine WP.retW ?_
   have q0 := j1 H
   subst q0
   exact W.now (Then.r (BodyR.mkR trivial rfl [2] ⟨rfl, rfl⟩ ⟨rfl, AA1, by decide, rfl, trivial⟩ rfl rfl))
 replace H := cnf hb2 H
 refine WP.skipW ?_
 refine W.now ?_
 refine Then.n ?_
 refine WP.seq ?_
 refine WP.sr ?_
 refine WPL.qq (q_fieldAddr fi23_0 rfl rfl) ?_
 refine WPL.qq (q_load sc2 rfl rfl rfl) ?_
 refine WPL.qq (q_eql rfl rfl) ?_
 refine WPL.nx ?_
 refine WP.cond (t := (decide (x7 = 0))) rfl (fun hb3 => ?_) (fun hb3 => ?_)
 · replace H := cnt hb3 H
   refine WP.sr ?_
   refine WPL.qq (q_build bu23 rfl) ?_
   refine WPL.s (s_store sz23 rfl rfl rfl rfl rfl) ?_
   refine WPL.qq (q_as (v := .lit (.int _ _)) rfl) ?_
   refine WPL.nx ?_
   refine WP.retW ?_
   have q0 := j1 H
   subst q0
   exact W.now (Then.r (BodyR.mkR trivial rfl [2] ⟨rfl, rfl⟩ ⟨rfl, AA1, by decide, rfl, trivial⟩ rfl rfl))
 replace H := cnf hb3 H
 refine WP.skipW ?_
 refine W.now ?_
 refine Then.n ?_
 refine WP.seq ?_
 refine WP.regionD' 8 [0, 1] [] mixed rfl ?_
 refine WPD.tT 0 rfl (q_fieldAddr fi23_0 rfl rfl) ?_
 refine WPD.tT 3 rfl (q_fieldAddr fi23_0 rfl rfl) ?_
 refine WPD.take 1 rfl (by kernel_rfl) (q_load sc2 rfl rfl rfl) rfl rfl ?_
 refine WPD.take 4 rfl (by kernel_rfl) (q_load sc2 rfl rfl rfl) rfl rfl ?_
 obtain ⟨x11, h2, H⟩ := bnd H
 refine WPD.ef 2 [0, 1] [] rfl (runs_call (s := []) (t := []) (N := 4) (bor := []) fn102 rfl (s_dec_size k x7 x11 h2) ⟨rfl, trivial, by decide, rfl, trivial⟩ rfl trivial (.ren rfl rfl .nil) rfl trivial rfl) ?_
 obtain ⟨x12, h3, H⟩ := bnd H
 refine WPD.ef 5 [0, 1] [] rfl (runs_call (s := []) (t := []) (N := 4) (bor := []) fn102 rfl (s_dec_size k x9 x12 h3) ⟨rfl, trivial, by decide, rfl, trivial⟩ rfl trivial (.ren rfl rfl .nil) rfl trivial rfl) ?_
 refine WPD.tT 6 rfl (q_as (v := .lit (.int _ _)) rfl) ?_
 refine WPD.tT 7 rfl (q_as (v := .lit (.int _ _)) rfl) ?_
 refine WPD.doneW (by kernel_rfl) ?_
 refine W.now ?_
 refine Then.n ?_
 refine WP.sr ?_
 refine WPL.qq (q_mv (v := .lit (.int _ _)) rfl) ?_
 refine WPL.qq (q_mv (v := .lit (.int _ _)) rfl) ?_
 refine WPL.qq (q_as (v := .lit (.int _ _)) rfl) ?_
 refine WPL.qq (q_as (v := .lit (.int _ _)) rfl) ?_
 refine WPL.nx ?_
 refine WP.seq ?_
 refine WP.block ?_
 refine WP.cv (Cv.weak (E' := (((((((Env.none.upd 2 (.ptr 0 0)).upd 3 (.ptr 1 0)).upd 4 (.ptr 2 0)).upd 6 (.lit (.int .u64 x11))).upd 7 (.lit (.int .u64 x12))).upd 8 (.lit (.int .u64 x11))).upd 9 (.lit (.int .u64 x12)))) (M' := (((Mem.nil.push (.cells 23 [.lit (.int .i64 x7), .lit (.int .i64 x8)])).push (.cells 23 [.lit (.int .i64 x9), .lit (.int .i64 x10)])).push (.cells 23 [.lit (.int .i64 0), .lit (.int .i64 0)]))) [0, 1, 2] hnp ⟨rfl, AA3, by decide, rfl, trivial⟩ (LeE.u (LeE.u (LeE.u (LeE.u (LeE.u (LeE.u (LeE.u (LeE.none rfl rfl))))))))) ?_
 obtain ⟨x13, H1, H⟩ := bnd H
 refine WP.monoW (Q := fun x E M => x = .exit 0 ∧ E = ((((((Env.none.upd 2 (.ptr 0 0)).upd 3 (.ptr 1 0)).upd 4 (.ptr 2 0)).upd 6 (.lit (.int .u64 x11))).upd 7 (.lit (.int .u64 x12))).upd 8 (.lit (.int .u64 x13))) ∧ M = (((Mem.nil.push (.cells 23 [.lit (.int .i64 x7), .lit (.int .i64 x8)])).push (.cells 23 [.lit (.int .i64 x9), .lit (.int .i64 x10)])).push (.cells 23 [.lit (.int .i64 0), .lit (.int .i64 0)]))) ?_ ?_
 · refine WP.loop (β := Int × Int) (fun n b => g_dec_Div_l0 k n b.1 b.2 = some x13) (fun b => (((((((Env.none.upd 2 (.ptr 0 0)).upd 3 (.ptr 1 0)).upd 4 (.ptr 2 0)).upd 6 (.lit (.int .u64 x11))).upd 7 (.lit (.int .u64 x12))).upd 8 (.lit (.int .u64 b.1))).upd 9 (.lit (.int .u64 b.2)))) (fun b => (((Mem.nil.push (.cells 23 [.lit (.int .i64 x7), .lit (.int .i64 x8)])).push (.cells 23 [.lit (.int .i64 x9), .lit (.int .i64 x10)])).push (.cells 23 [.lit (.int .i64 0), .lit (.int .i64 0)]))) k (x11, x12) H1 rfl rfl ?_
   rintro n ⟨x14, x15⟩ H
   obtain _ | n := n
   · exact nf rfl H
   rw [g_dec_Div_l0.eq_2] at H
   show WP _ _ _ _ (((((((Env.none.upd 2 (.ptr 0 0)).upd 3 (.ptr 1 0)).upd 4 (.ptr 2 0)).upd 6 (.lit (.int .u64 x11))).upd 7 (.lit (.int .u64 x12))).upd 8 (.lit (.int .u64 x14))).upd 9 (.lit (.int .u64 x15))) (((Mem.nil.push (.cells 23 [.lit (.int .i64 x7), .lit (.int .i64 x8)])).push (.cells 23 [.lit (.int .i64 x9), .lit (.int .i64 x10)])).push (.cells 23 [.lit (.int .i64 0), .lit (.int .i64 0)])) _
   refine WP.seq ?_
   refine WP.sr ?_
   refine WPL.qq (q_mv (v := .lit (.int _ _)) rfl) ?_
   refine WPL.qq (q_neq rfl rfl) ?_
   refine WPL.nx ?_
   refine WP.cond (t := (!decide (x15 = 0))) rfl (fun hb4 => ?_) (fun hb4 => ?_)
   · replace H := cnt hb4 H
     refine WP.skipW ?_
     refine W.now ?_
     refine Then.n ?_
     refine WP.block ?_
     refine WP.regionD' 6 [] [] mixed rfl ?_
     refine WPD.tT 0 rfl (q_mv (v := .lit (.int _ _)) rfl) ?_
     refine WPD.tT 1 rfl (q_mv (v := .lit (.int _ _)) rfl) ?_
     refine WPD.tT 2 rfl (q_mv (v := .lit (.int _ _)) rfl) ?_
     obtain ⟨h4, H⟩ := grd H
     refine WPD.tT 3 rfl (q_rem rfl rfl (bnot h4)) ?_
     refine WPD.tT 4 rfl (q_as (v := .lit (.int _ _)) rfl) ?_
     refine WPD.tT 5 rfl (q_as (v := .lit (.int _ _)) rfl) ?_
     refine WPD.doneW (by kernel_rfl) ?_
     exact W.wk [0, 1, 2] hnp (InBlock.n (Then.n ⟨n, (x15, (Int.tmod x14 x15)), Nat.lt_succ_self n, H, rfl, rfl⟩)) ⟨rfl, AA3, by decide, rfl, trivial⟩ (LeE.u (LeE.u (LeE.u (LeE.u (LeE.u (LeE.u (LeE.u (LeE.none rfl rfl)))))))) rfl
   replace H := cnf hb4 H
   refine WP.exitW ?_
   have q0 := j1 H
   subst q0
   exact W.wk [0, 1, 2] hnp (Then.x (Then.x r3)) ⟨rfl, AA3, by decide, rfl, trivial⟩ (LeE.u (LeE.u (LeE.u (LeE.u (LeE.u (LeE.u (LeE.none rfl rfl))))))) rfl
 rintro _ _ _ ⟨rfl, rfl, rfl⟩
 refine W.now ?_
 refine InBlock.x0 ?_
 refine Then.n ?_
 refine WP.sr ?_
 refine WPL.qq (q_mv (v := .lit (.int _ _)) rfl) ?_
 refine WPL.qq (q_mv (v := .lit (.int _ _)) rfl) ?_
 obtain ⟨h5, H⟩ := grd H
 refine WPL.qq (q_quo rfl rfl (bnot h5)) ?_
 exact nf rfl H
end Go.Proofs.YthpcgknknpjpdaaGreatDoor.W
namespace Go.Proofs.YthpcgknknpjpdaaGreatDoor.W
open Go Go.Q Go.Proofs
set_option linter.unusedVariables false
set_option linter.unusedSimpArgs false
set_option maxRecDepth 100000
set_option maxHeartbeats 4000000
theorem s_val_sum (k : Nat) (x1 : Int) (x2 : Int) (x3 : Int) (x4 : Int) (x5 : Int) (x6 : Int) (x7 : Int) (x8 : Int) (H : g_val_sum k x1 x2 x3 x4 x5 = some (x6, x7, x8)) : Go.Q.Spec Tryz.prog 62 0 [.lit (.int .i64 x1), .agg [.lit (.int .i64 x2), .lit (.int .i64 x3)], .agg [.lit (.int .i64 x4), .lit (.int .i64 x5)]] Mem.nil (fun o M => o = .ret (.tup [.agg [.lit (.int .i64 x7), .lit (.int .i64 x8)], .lit (.int .i64 x6)]) ∧ M = (Mem.nil.push (.cells 23 [.lit (.int .i64 x7), .lit (.int .i64 x8)]))) := by
 unfold g_val_sum at H
 refine Go.Q.Spec.of_bodyR (az := [(23, 2)]) (rs := [.cell 6 23, .tmp 7]) (nt := 42) Tryz.func62 rfl rfl (by intro t T h; simp at h; rcases h with ⟨rfl, rfl⟩ <;> first | exact ag23) rfl rfl fun cx hnp => ?_
 refine WP.sr ?_
 refine WPL.d (d_box rfl rfl) rfl ?_
 refine WPL.d (d_box rfl rfl) rfl ?_
 refine WPL.d (d_alloc ze23 rfl) rfl ?_
 refine WPL.qq (q_as (v := .lit (.int _ _)) rfl) ?_
 refine WPL.nx ?_
 refine WP.seq ?_
 refine WP.sr ?_
 refine WPL.qq (q_mv (v := .lit (.int _ _)) rfl) ?_
 refine WPL.nx ?_
 refine WP.block ?_
 refine WP.sr ?_
 refine WPL.qq (q_eql rfl rfl) ?_
 refine WPL.qq (q_as (v := .lit (.bool _)) rfl) ?_
 refine WPL.nx ?_
 refine WP.cond (t := (decide (x1 = 1))) rfl (fun hb1 => ?_) (fun hb1 => ?_)
 · replace H := cnt hb1 H
   refine WP.sr ?_
   refine WPL.qq (q_load_ag ag23 rfl rfl (Nat.le_of_ble_eq_true rfl)) ?_
   refine WPL.qq (q_load_ag ag23 rfl rfl (Nat.le_of_ble_eq_true rfl)) ?_
   obtain ⟨⟨x9, x10, x11⟩, h1, H⟩ := bnd H
   refine WPL.c (runs_call (s := []) (t := [3]) (N := 4) (bor := []) fn108 rfl (s_dec_Add k x2 x3 x4 x5 x9 x10 x11 h1) ⟨rfl, trivial, by decide, rfl, trivial⟩ rfl trivial (.ren rfl rfl (.ren rfl rfl .nil)) rfl BB1 rfl) rfl ?_
   refine WPL.qq (q_extract rfl rfl) ?_
   refine WPL.qq (q_extract rfl rfl) ?_
   refine WPL.s (s_store sz23 rfl rfl rfl rfl rfl) ?_
   refine WPL.qq (q_as (v := .lit (.int _ _)) rfl) ?_
   refine WPL.nx ?_
   refine WP.retW ?_
   obtain ⟨rfl, rfl, rfl⟩ := j3 H
   exact W.now (InBlock.r (Then.r (BodyR.mkR trivial rfl [2] ⟨rfl, rfl⟩ ⟨rfl, AA1, by decide, rfl, trivial⟩ rfl rfl)))
 replace H := cnf hb1 H
 refine WP.sr ?_
 refine WPL.qq (q_eql rfl rfl) ?_
 refine WPL.qq (q_as (v := .lit (.bool _)) rfl) ?_
 refine WPL.nx ?_
 refine WP.cond (t := (decide (x1 = 2))) rfl (fun hb2 => ?_) (fun hb2 => ?_)
 · replace H := cnt hb2 H
   refine WP.sr ?_
   refine WPL.qq (q_load_ag ag23 rfl rfl (Nat.le_of_ble_eq_true rfl)) ?_
   refine WPL.qq (q_load_ag ag23 rfl rfl (Nat.le_of_ble_eq_true rfl)) ?_
   exact nf rfl H
 replace H := cnf hb2 H
 refine WP.sr ?_
 refine WPL.qq (q_eql rfl rfl) ?_
 refine WPL.qq (q_as (v := .lit (.bool _)) rfl) ?_
 refine WPL.nx ?_
 refine WP.cond (t := (decide (x1 = 3))) rfl (fun hb3 => ?_) (fun hb3 => ?_)
 · replace H := cnt hb3 H
   refine WP.sr ?_
   refine WPL.qq (q_load_ag ag23 rfl rfl (Nat.le_of_ble_eq_true rfl)) ?_
   refine WPL.qq (q_load_ag ag23 rfl rfl (Nat.le_of_ble_eq_true rfl)) ?_
   exact nf rfl H
 replace H := cnf hb3 H
 refine WP.sr ?_
 refine WPL.qq (q_eql rfl rfl) ?_
 refine WPL.qq (q_as (v := .lit (.bool _)) rfl) ?_
 refine WPL.nx ?_
 refine WP.cond (t := (decide (x1 = 4))) rfl (fun hb4 => ?_) (fun hb4 => ?_)
 · replace H := cnt hb4 H
   refine WP.sr ?_
   refine WPL.qq (q_load_ag ag23 rfl rfl (Nat.le_of_ble_eq_true rfl)) ?_
   refine WPL.qq (q_load_ag ag23 rfl rfl (Nat.le_of_ble_eq_true rfl)) ?_
   obtain ⟨x12, h2, H⟩ := bnd H
   refine WPL.c (runs_call (s := []) (t := [3]) (N := 4) (bor := []) fn110 rfl (s_dec_Div k x2 x3 x4 x5 x12 h2) ⟨rfl, trivial, by decide, rfl, trivial⟩ rfl trivial (.ren rfl rfl (.ren rfl rfl .nil)) rfl BB1 rfl) rfl ?_
   refine WPL.qq (q_extract rfl rfl) ?_
   refine WPL.qq (q_extract rfl rfl) ?_
   refine WPL.s (s_store sz23 rfl rfl rfl rfl rfl) ?_
   refine WPL.qq (q_as (v := .lit (.int _ _)) rfl) ?_
   refine WPL.nx ?_
   refine WP.retW ?_
   obtain ⟨rfl, rfl, rfl⟩ := j3 H
   exact W.now (InBlock.r (Then.r (BodyR.mkR trivial rfl [2] ⟨rfl, rfl⟩ ⟨rfl, AA1, by decide, rfl, trivial⟩ rfl rfl)))
 replace H := cnf hb4 H
 refine WP.skipW ?_
 refine W.now ?_
 refine InBlock.n ?_
 refine Then.n ?_
 refine WP.sr ?_
 refine WPL.qq (q_load_ag ag23 rfl rfl (Nat.le_of_ble_eq_true rfl)) ?_
 refine WPL.qq (q_load_ag ag23 rfl rfl (Nat.le_of_ble_eq_true rfl)) ?_
 exact nf rfl H
theorem s_val_Show (k : Nat) (x1 : Int) (x2 : Int) (x3 : Int) (x4 : ByteArray) (x5 : Bool) (x6 : Int) (x7 : ByteArray) (H : g_val_Show k x1 x2 x3 x4 x5 x6 = some x7) : Go.Q.Spec Tryz.prog 27 0 [.agg [.lit (.int .i64 x1), .lit (.int .i64 x2), .lit (.int .i64 x3), .lit (.string x4), .lit (.bool x5), .lit (.int .i64 x6)]] Mem.nil (fun o M => o = .ret (.lit (.string x7)) ∧ M = Mem.nil) := by
 unfold g_val_Show at H
 refine Go.Q.Spec.of_bodyR (az := []) (rs := [.tmp 2]) (nt := 22) Tryz.func27 rfl rfl (by intro t T h; simp at h) rfl rfl fun cx hnp => ?_
 refine WP.sr ?_
 refine WPL.d (d_box rfl rfl) rfl ?_
 refine WPL.qq (q_as (v := .lit (.string _)) rfl) ?_
 refine WPL.nx ?_
 refine WP.sr ?_
 refine WPL.qq (q_load_ag ag29 rfl rfl (Nat.le_of_ble_eq_true rfl)) ?_
 obtain ⟨⟨x8, x9, x10, x11, x12, x13⟩, h1, H⟩ := bnd H
 refine WPL.c (runs_call (s := []) (t := [1]) (N := 2) (bor := []) fn53 rfl (s_val_clean k x1 x2 x3 x4 x5 x6 x8 x9 x10 x11 x12 x13 h1) ⟨rfl, trivial, by decide, rfl, trivial⟩ rfl trivial (.ren rfl rfl .nil) rfl BB1 rfl) rfl ?_
 refine WPL.s (s_store sz29 rfl rfl rfl rfl rfl) ?_
 refine WPL.nx ?_
 refine WP.seq ?_
 refine WP.sr ?_
 refine WPL.qq (q_fieldAddr fi29_0 rfl rfl) ?_
 refine WPL.qq (q_load sc3 rfl rfl rfl) ?_
 refine WPL.nx ?_
 refine WP.block ?_
 refine WP.sr ?_
 refine WPL.qq (q_eql rfl rfl) ?_
 refine WPL.qq (q_as (v := .lit (.bool _)) rfl) ?_
 refine WPL.nx ?_
 refine WP.cond (t := (decide (x8 = 1))) rfl (fun hb1 => ?_) (fun hb1 => ?_)
 · replace H := cnt hb1 H
   refine WP.sr ?_
   refine WPL.qq (q_fieldAddr fi29_1 rfl rfl) ?_
   refine WPL.qq (q_load_ag ag23 rfl rfl (Nat.le_of_ble_eq_true rfl)) ?_
   exact nf rfl H
 replace H := cnf hb1 H
 refine WP.sr ?_
 refine WPL.qq (q_eql rfl rfl) ?_
 refine WPL.qq (q_as (v := .lit (.bool _)) rfl) ?_
 refine WPL.nx ?_
 refine WP.cond (t := (decide (x8 = 3))) rfl (fun hb2 => ?_) (fun hb2 => ?_)
 · replace H := cnt hb2 H
   refine WP.seq ?_
   refine WP.sr ?_
   refine WPL.qq (q_fieldAddr fi29_3 rfl rfl) ?_
   refine WPL.qq (q_load sc4 rfl rfl rfl) ?_
   refine WPL.nx ?_
   refine WP.cond (t := x12) rfl (fun hb3 => ?_) (fun hb3 => ?_)
   · replace H := cnt hb3 H
     refine WP.sr ?_
     refine WPL.qq (q_as (v := .lit (.string _)) rfl) ?_
     refine WPL.nx ?_
     refine WP.retW ?_
     have q0 := j1 H
     subst q0
     exact W.now (Then.r (InBlock.r (Then.r (BodyR.mkR trivial rfl [] ⟨rfl, rfl⟩ ⟨rfl, trivial, by decide, rfl, trivial⟩ rfl rfl))))
   replace H := cnf hb3 H
   refine WP.skipW ?_
   refine W.now ?_
   refine Then.n ?_
   refine WP.sr ?_
   refine WPL.qq (q_as (v := .lit (.string _)) rfl) ?_
   refine WPL.nx ?_
   refine WP.retW ?_
   have q0 := j1 H
   subst q0
   exact W.now (InBlock.r (Then.r (BodyR.mkR trivial rfl [] ⟨rfl, rfl⟩ ⟨rfl, trivial, by decide, rfl, trivial⟩ rfl rfl)))
 replace H := cnf hb2 H
 refine WP.skipW ?_
 refine W.now ?_
 refine InBlock.n ?_
 refine Then.n ?_
 refine WP.seq ?_
 refine WP.regionD' 7 [0] [] mixed rfl ?_
 refine WPD.tT 0 rfl (q_fieldAddr fi29_2 rfl rfl) ?_
 refine WPD.tT 2 rfl (q_fieldAddr fi29_4 rfl rfl) ?_
 refine WPD.take 1 rfl (by kernel_rfl) (q_load sc9 rfl rfl rfl) rfl rfl ?_
 refine WPD.take 3 rfl (by kernel_rfl) (q_load sc3 rfl rfl rfl) rfl rfl ?_
 obtain ⟨x14, h2, H⟩ := bnd H
 refine WPD.ef 4 [0] [] rfl (runs_call (s := []) (t := []) (N := 2) (bor := []) fn18 rfl (s_val_ErrName k x13 x14 h2) ⟨rfl, trivial, by decide, rfl, trivial⟩ rfl trivial (.ren rfl rfl .nil) rfl trivial rfl) ?_
 obtain ⟨h3, H⟩ := grd H
 refine WPD.tT 5 rfl (q_concat rfl rfl h3) ?_
 refine WPD.tT 6 rfl (q_as (v := .lit (.string _)) rfl) ?_
 refine WPD.doneW (by kernel_rfl) ?_
 refine W.now ?_
 refine Then.n ?_
 refine WP.retW ?_
 have q0 := j1 H
 subst q0
 exact W.now (BodyR.mkR trivial rfl [] ⟨rfl, rfl⟩ ⟨rfl, trivial, by decide, rfl, trivial⟩ rfl rfl)
theorem s_val_beside (k : Nat) (x1 : Int) (x2 : Int) (x3 : Int) (x4 : ByteArray) (x5 : Bool) (x6 : Int) (x7 : Int) (x8 : Int) (x9 : Int) (x10 : ByteArray) (x11 : Bool) (x12 : Int) (x13 : Int) (x14 : Int) (x15 : Int) (x16 : ByteArray) (x17 : Bool) (x18 : Int) (H : g_val_beside k x1 x2 x3 x4 x5 x6 x7 x8 x9 x10 x11 x12 = some (x13, x14, x15, x16, x17, x18)) : Go.Q.Spec Tryz.prog 54 0 [.agg [.lit (.int .i64 x1), .lit (.int .i64 x2), .lit (.int .i64 x3), .lit (.string x4), .lit (.bool x5), .lit (.int .i64 x6)], .agg [.lit (.int .i64 x7), .lit (.int .i64 x8), .lit (.int .i64 x9), .lit (.string x10), .lit (.bool x11), .lit (.int .i64 x12)]] Mem.nil (fun o M => o = .ret (.agg [.lit (.int .i64 x13), .lit (.int .i64 x14), .lit (.int .i64 x15), .lit (.string x16), .lit (.bool x17), .lit (.int .i64 x18)]) ∧ M = (Mem.nil.push (.cells 29 [.lit (.int .i64 x13), .lit (.int .i64 x14), .lit (.int .i64 x15), .lit (.string x16), .lit (.bool x17), .lit (.int .i64 x18)]))) := by
 unfold g_val_beside at H
 refine Go.Q.Spec.of_bodyR (az := [(29, 6)]) (rs := [.cell 4 29]) (nt := 17) Tryz.func54 rfl rfl (by intro t T h; simp at h; rcases h with ⟨rfl, rfl⟩ <;> first | exact ag29) rfl rfl fun cx hnp => ?_
 refine WP.sr ?_
 refine WPL.d (d_box rfl rfl) rfl ?_
 refine WPL.d (d_box rfl rfl) rfl ?_
 refine WPL.d (d_alloc ze29 rfl) rfl ?_
 refine WPL.nx ?_
 refine WP.seq ?_
 refine WP.seq ?_
 obtain ⟨x19, H1, H⟩ := bnd H
 refine WP.monoW (Q := fun x E M => x = .normal ∧ E = ((((Env.none.upd 2 (.ptr 0 0)).upd 3 (.ptr 1 0)).upd 4 (.ptr 2 0)).upd 12 (.lit (.bool x19))) ∧ M = (((Mem.nil.push (.cells 29 [.lit (.int .i64 x1), .lit (.int .i64 x2), .lit (.int .i64 x3), .lit (.string x4), .lit (.bool x5), .lit (.int .i64 x6)])).push (.cells 29 [.lit (.int .i64 x7), .lit (.int .i64 x8), .lit (.int .i64 x9), .lit (.string x10), .lit (.bool x11), .lit (.int .i64 x12)])).push (.cells 29 [.lit (.int .i64 0), .lit (.int .i64 0), .lit (.int .i64 0), .lit (.string (ByteArray.mk #[])), .lit (.bool false), .lit (.int .i64 0)]))) ?_ ?_
 · clear H
   have H := H1
   clear H1
   refine WP.region ?_
   refine WPL.qq (q_fieldAddr fi29_0 rfl rfl) ?_
   refine WPL.qq (q_load sc3 rfl rfl rfl) ?_
   refine WPL.qq (q_eql rfl rfl) ?_
   refine WPL.qq (q_mv (v := .lit (.bool _)) rfl) ?_
   refine WPL.split (t := 8) (b := (decide (x1 = 0))) rfl (fun hb1 => ?_) (fun hb1 => ?_)
   · replace H := cnt hb1 H
     refine WPL.gq rfl (lb hb1) (q_fieldAddr fi29_0 rfl rfl) ?_
     refine WPL.gq rfl (lb hb1) (q_load sc3 rfl rfl rfl) ?_
     refine WPL.gq rfl (lb hb1) (q_neq rfl rfl) ?_
     refine WPL.qq (q_pickT (v := .lit (.bool _)) (lb hb1) rfl) ?_
     refine WPL.nilW ?_
     have q0 := j1 H
     subst q0
     exact W.wk [0, 1, 2] hnp r3 ⟨rfl, AA3, by decide, rfl, trivial⟩ (LeE.u (LeE.u (LeE.u (LeE.u (LeE.none rfl rfl))))) rfl
   replace H := cnf hb1 H
   refine WPL.sg false rfl (lb hb1) ?_
   refine WPL.sg false rfl (lb hb1) ?_
   refine WPL.sg false rfl (lb hb1) ?_
   refine WPL.qq (q_pickF (v := .lit (.bool _)) (lb hb1) rfl) ?_
   refine WPL.nilW ?_
   have q0 := j1 H
   subst q0
   exact W.wk [0, 1, 2] hnp r3 ⟨rfl, AA3, by decide, rfl, trivial⟩ (LeE.u (LeE.u (LeE.u (LeE.u (LeE.none rfl rfl))))) rfl
 rintro _ _ _ ⟨rfl, rfl, rfl⟩
 refine W.now ?_
 refine Then.n ?_
 refine WP.cond (t := x19) rfl (fun hb2 => ?_) (fun hb2 => ?_)
 · replace H := cnt hb2 H
   refine WP.sr ?_
   refine WPL.qq (q_fieldAddr fi29_0 rfl rfl) ?_
   refine WPL.qq (q_load sc3 rfl rfl rfl) ?_
   refine WPL.qq (q_build bu29 rfl) ?_
   refine WPL.s (s_store sz29 rfl rfl rfl rfl rfl) ?_
   refine WPL.nx ?_
   refine WP.retW ?_
   obtain ⟨rfl, rfl, rfl, rfl, rfl, rfl⟩ := j6 H
   exact W.now (Then.r (BodyR.mkR trivial rfl [2] ⟨rfl, rfl⟩ ⟨rfl, AA1, by decide, rfl, trivial⟩ rfl rfl))
 replace H := cnf hb2 H
 refine WP.skipW ?_
 refine W.now ?_
 refine Then.n ?_
 refine WP.sr ?_
 refine WPL.qq (q_load_ag ag29 rfl rfl (Nat.le_of_ble_eq_true rfl)) ?_
 refine WPL.s (s_store sz29 rfl rfl rfl rfl rfl) ?_
 refine WPL.nx ?_
 refine WP.retW ?_
 obtain ⟨rfl, rfl, rfl, rfl, rfl, rfl⟩ := j6 H
 exact W.now (BodyR.mkR trivial rfl [2] ⟨rfl, rfl⟩ ⟨rfl, AA1, by decide, rfl, trivial⟩ rfl rfl)
theorem s_cmp_isNaN_int (k : Nat) (x1 : Int) (H : g_cmp_isNaN_int k x1 = some ()) : Go.Q.Spec Tryz.prog 98 0 [.lit (.int .i64 x1)] Mem.nil (fun o M => o = .ret (.lit (.bool (!decide (x1 = x1)))) ∧ M = Mem.nil) := by
 unfold g_cmp_isNaN_int at H
 refine Go.Q.Spec.of_bodyR (az := []) (rs := [.tmp 2]) (nt := 6) Tryz.func98 rfl rfl (by intro t T h; simp at h) rfl rfl fun cx hnp => ?_
 refine WP.sr ?_
 refine WPL.qq (q_as (v := .lit (.bool _)) rfl) ?_
 refine WPL.nx ?_
 refine WP.sr ?_
 refine WPL.qq (q_mv (v := .lit (.int _ _)) rfl) ?_
 refine WPL.qq (q_mv (v := .lit (.int _ _)) rfl) ?_
 refine WPL.qq (q_neq rfl rfl) ?_
 refine WPL.qq (q_as (v := .lit (.bool _)) rfl) ?_
 refine WPL.nx ?_
 refine WP.retW ?_
 exact W.now (BodyR.mkR trivial rfl [] ⟨rfl, rfl⟩ ⟨rfl, trivial, by decide, rfl, trivial⟩ rfl rfl)
theorem s_cmp_Compare_int (k : Nat) (x1 : Int) (x2 : Int) (x3 : Int) (H : g_cmp_Compare_int k x1 x2 = some x3) : Go.Q.Spec Tryz.prog 56 0 [.lit (.int .i64 x1), .lit (.int .i64 x2)] Mem.nil (fun o M => o = .ret (.lit (.int .i64 x3)) ∧ M = Mem.nil) := by
 unfold g_cmp_Compare_int at H
 refine Go.Q.Spec.of_bodyR (az := []) (rs := [.tmp 4]) (nt := 20) Tryz.func56 rfl rfl (by intro t T h; simp at h) rfl rfl fun cx hnp => ?_
 refine WP.sr ?_
 refine WPL.qq (q_as (v := .lit (.int _ _)) rfl) ?_
 refine WPL.nx ?_
 refine WP.sr ?_
 refine WPL.qq (q_mv (v := .lit (.int _ _)) rfl) ?_
 obtain ⟨_, h1, H⟩ := bnd H
 refine WPL.c (runs_call (s := []) (t := []) (N := 0) (bor := []) fn98 rfl (s_cmp_isNaN_int k x1 h1) ⟨rfl, trivial, by decide, rfl, trivial⟩ rfl trivial (.ren rfl rfl .nil) rfl trivial rfl) rfl ?_
 refine WPL.qq (q_as (v := .lit (.bool _)) rfl) ?_
 refine WPL.nx ?_
 refine WP.sr ?_
 refine WPL.qq (q_mv (v := .lit (.int _ _)) rfl) ?_
 obtain ⟨_, h2, H⟩ := bnd H
 refine WPL.c (runs_call (s := []) (t := []) (N := 0) (bor := []) fn98 rfl (s_cmp_isNaN_int k x2 h2) ⟨rfl, trivial, by decide, rfl, trivial⟩ rfl trivial (.ren rfl rfl .nil) rfl trivial rfl) rfl ?_
 refine WPL.qq (q_as (v := .lit (.bool _)) rfl) ?_
 refine WPL.nx ?_
 refine WP.seq ?_
 refine WP.sr ?_
 refine WPL.qq (q_mv (v := .lit (.bool _)) rfl) ?_
 refine WPL.nx ?_
 refine WP.cond (t := (!decide (x1 = x1))) rfl (fun hb1 => ?_) (fun hb1 => ?_)
 · replace H := cnt hb1 H
   refine WP.seq ?_
   refine WP.sr ?_
   refine WPL.qq (q_mv (v := .lit (.bool _)) rfl) ?_
   refine WPL.nx ?_
   refine WP.cond (t := (!decide (x2 = x2))) rfl (fun hb2 => ?_) (fun hb2 => ?_)
   · replace H := cnt hb2 H
     refine WP.sr ?_
     refine WPL.qq (q_as (v := .lit (.int _ _)) rfl) ?_
     refine WPL.nx ?_
     refine WP.retW ?_
     have q0 := j1 H
     subst q0
     exact W.now (Then.r (Then.r (BodyR.mkR trivial rfl [] ⟨rfl, rfl⟩ ⟨rfl, trivial, by decide, rfl, trivial⟩ rfl rfl)))
   replace H := cnf hb2 H
   refine WP.skipW ?_
   refine W.now ?_
   refine Then.n ?_
   refine WP.sr ?_
   refine WPL.qq (q_as (v := .lit (.int _ _)) rfl) ?_
   refine WPL.nx ?_
   refine WP.retW ?_
   have q0 := j1 H
   subst q0
   exact W.now (Then.r (BodyR.mkR trivial rfl [] ⟨rfl, rfl⟩ ⟨rfl, trivial, by decide, rfl, trivial⟩ rfl rfl))
 replace H := cnf hb1 H
 refine WP.skipW ?_
 refine W.now ?_
 refine Then.n ?_
 refine WP.seq ?_
 refine WP.sr ?_
 refine WPL.qq (q_mv (v := .lit (.bool _)) rfl) ?_
 refine WPL.nx ?_
 refine WP.cond (t := (!decide (x2 = x2))) rfl (fun hb3 => ?_) (fun hb3 => ?_)
 · replace H := cnt hb3 H
   refine WP.sr ?_
   refine WPL.qq (q_as (v := .lit (.int _ _)) rfl) ?_
   refine WPL.nx ?_
   refine WP.retW ?_
   have q0 := j1 H
   subst q0
   exact W.now (Then.r (BodyR.mkR trivial rfl [] ⟨rfl, rfl⟩ ⟨rfl, trivial, by decide, rfl, trivial⟩ rfl rfl))
 replace H := cnf hb3 H
 refine WP.skipW ?_
 refine W.now ?_
 refine Then.n ?_
 refine WP.seq ?_
 refine WP.sr ?_
 refine WPL.qq (q_mv (v := .lit (.int _ _)) rfl) ?_
 refine WPL.qq (q_mv (v := .lit (.int _ _)) rfl) ?_
 refine WPL.qq (q_lss rfl rfl) ?_
 refine WPL.nx ?_
 refine WP.cond (t := (decide (x1 < x2))) rfl (fun hb4 => ?_) (fun hb4 => ?_)
 · replace H := cnt hb4 H
   refine WP.sr ?_
   refine WPL.qq (q_as (v := .lit (.int _ _)) rfl) ?_
   refine WPL.nx ?_
   refine WP.retW ?_
   have q0 := j1 H
   subst q0
   exact W.now (Then.r (BodyR.mkR trivial rfl [] ⟨rfl, rfl⟩ ⟨rfl, trivial, by decide, rfl, trivial⟩ rfl rfl))
 replace H := cnf hb4 H
 refine WP.skipW ?_
 refine W.now ?_
 refine Then.n ?_
 refine WP.seq ?_
 refine WP.sr ?_
 refine WPL.qq (q_mv (v := .lit (.int _ _)) rfl) ?_
 refine WPL.qq (q_mv (v := .lit (.int _ _)) rfl) ?_
 refine WPL.qq (q_gtr rfl rfl) ?_
 refine WPL.nx ?_
 refine WP.cond (t := (decide (x2 < x1))) rfl (fun hb5 => ?_) (fun hb5 => ?_)
 · replace H := cnt hb5 H
   refine WP.sr ?_
   refine WPL.qq (q_as (v := .lit (.int _ _)) rfl) ?_
   refine WPL.nx ?_
   refine WP.retW ?_
   have q0 := j1 H
   subst q0
   exact W.now (Then.r (BodyR.mkR trivial rfl [] ⟨rfl, rfl⟩ ⟨rfl, trivial, by decide, rfl, trivial⟩ rfl rfl))
 replace H := cnf hb5 H
 refine WP.skipW ?_
 refine W.now ?_
 refine Then.n ?_
 refine WP.sr ?_
 refine WPL.qq (q_as (v := .lit (.int _ _)) rfl) ?_
 refine WPL.nx ?_
 refine WP.retW ?_
 have q0 := j1 H
 subst q0
 exact W.now (BodyR.mkR trivial rfl [] ⟨rfl, rfl⟩ ⟨rfl, trivial, by decide, rfl, trivial⟩ rfl rfl)
theorem s_dec_sign (k : Nat) (x1 : Int) (x2 : Int) (x3 : Int) (H : g_dec_sign k x1 x2 = some x3) : Go.Q.Spec Tryz.prog 100 0 [.agg [.lit (.int .i64 x1), .lit (.int .i64 x2)]] Mem.nil (fun o M => o = .ret (.lit (.int .i64 x3)) ∧ M = Mem.nil) := by
 unfold g_dec_sign at H
 refine Go.Q.Spec.of_bodyR (az := []) (rs := [.tmp 2]) (nt := 11) Tryz.func100 rfl rfl (by intro t T h; simp at h) rfl rfl fun cx hnp => ?_
 refine WP.sr ?_
 refine WPL.d (d_box rfl rfl) rfl ?_
 refine WPL.qq (q_as (v := .lit (.int _ _)) rfl) ?_
 refine WPL.nx ?_
 refine WP.seq ?_
 refine WP.block ?_
 refine WP.sr ?_
 refine WPL.qq (q_fieldAddr fi23_0 rfl rfl) ?_
 refine WPL.qq (q_load sc2 rfl rfl rfl) ?_
 refine WPL.qq (q_lss rfl rfl) ?_
 refine WPL.qq (q_as (v := .lit (.bool _)) rfl) ?_
 refine WPL.nx ?_
 refine WP.cond (t := (decide (x1 < 0))) rfl (fun hb1 => ?_) (fun hb1 => ?_)
 · replace H := cnt hb1 H
   refine WP.sr ?_
   refine WPL.qq (q_as (v := .lit (.int _ _)) rfl) ?_
   refine WPL.nx ?_
   refine WP.retW ?_
   have q0 := j1 H
   subst q0
   exact W.now (InBlock.r (Then.r (BodyR.mkR trivial rfl [] ⟨rfl, rfl⟩ ⟨rfl, trivial, by decide, rfl, trivial⟩ rfl rfl)))
 replace H := cnf hb1 H
 refine WP.sr ?_
 refine WPL.qq (q_fieldAddr fi23_0 rfl rfl) ?_
 refine WPL.qq (q_load sc2 rfl rfl rfl) ?_
 refine WPL.qq (q_gtr rfl rfl) ?_
 refine WPL.qq (q_as (v := .lit (.bool _)) rfl) ?_
 refine WPL.nx ?_
 refine WP.cond (t := (decide (0 < x1))) rfl (fun hb2 => ?_) (fun hb2 => ?_)
 · replace H := cnt hb2 H
   refine WP.sr ?_
   refine WPL.qq (q_as (v := .lit (.int _ _)) rfl) ?_
   refine WPL.nx ?_
   refine WP.retW ?_
   have q0 := j1 H
   subst q0
   exact W.now (InBlock.r (Then.r (BodyR.mkR trivial rfl [] ⟨rfl, rfl⟩ ⟨rfl, trivial, by decide, rfl, trivial⟩ rfl rfl)))
 replace H := cnf hb2 H
 refine WP.skipW ?_
 refine W.now ?_
 refine InBlock.n ?_
 refine Then.n ?_
 refine WP.sr ?_
 refine WPL.qq (q_as (v := .lit (.int _ _)) rfl) ?_
 refine WPL.nx ?_
 refine WP.retW ?_
 have q0 := j1 H
 subst q0
 exact W.now (BodyR.mkR trivial rfl [] ⟨rfl, rfl⟩ ⟨rfl, trivial, by decide, rfl, trivial⟩ rfl rfl)
theorem s_dec_digits (k : Nat) (x1 : Int) (x2 : Int) (H : g_dec_digits k x1 = some x2) : Go.Q.Spec Tryz.prog 101 0 [.lit (.int .u64 x1)] Mem.nil (fun o M => o = .ret (.lit (.int .i64 x2)) ∧ M = Mem.nil) := by
 unfold g_dec_digits at H
 refine Go.Q.Spec.of_bodyR (az := []) (rs := [.tmp 2]) (nt := 11) Tryz.func101 rfl rfl (by intro t T h; simp at h) rfl rfl fun cx hnp => ?_
 refine WP.sr ?_
 refine WPL.qq (q_as (v := .lit (.int _ _)) rfl) ?_
 refine WPL.nx ?_
 refine WP.sr ?_
 refine WPL.qq (q_as (v := .lit (.int _ _)) rfl) ?_
 refine WPL.nx ?_
 refine WP.seq ?_
 refine WP.block ?_
 refine WP.cv (Cv.weak (E' := ((Env.none.upd 0 (.lit (.int .u64 x1))).upd 3 (.lit (.int .i64 0)))) (M' := Mem.nil) [] hnp ⟨rfl, trivial, by decide, rfl, trivial⟩ (LeE.u (LeE.u (LeE.none rfl rfl)))) ?_
 obtain ⟨x3, H1, H⟩ := bnd H
 refine WP.monoW (Q := fun x E M => x = .exit 0 ∧ E = (Env.none.upd 3 (.lit (.int .i64 x3))) ∧ M = Mem.nil) ?_ ?_
 · refine WP.loop (β := Int × Int) (fun n b => g_dec_digits_l0 k n b.1 b.2 = some x3) (fun b => ((Env.none.upd 0 (.lit (.int .u64 b.1))).upd 3 (.lit (.int .i64 b.2)))) (fun b => Mem.nil) k (x1, 0) H1 rfl rfl ?_
   rintro n ⟨x4, x5⟩ H
   obtain _ | n := n
   · exact nf rfl H
   rw [g_dec_digits_l0.eq_2] at H
   show WP _ _ _ _ ((Env.none.upd 0 (.lit (.int .u64 x4))).upd 3 (.lit (.int .i64 x5))) Mem.nil _
   refine WP.seq ?_
   refine WP.sr ?_
   refine WPL.qq (q_mv (v := .lit (.int _ _)) rfl) ?_
   refine WPL.qq (q_gtr rfl rfl) ?_
   refine WPL.nx ?_
   refine WP.cond (t := (decide (0 < x4))) rfl (fun hb1 => ?_) (fun hb1 => ?_)
   · replace H := cnt hb1 H
     refine WP.skipW ?_
     refine W.now ?_
     refine Then.n ?_
     refine WP.seq ?_
     refine WP.block ?_
     refine WP.region ?_
     refine WPL.qq (q_mv (v := .lit (.int _ _)) rfl) ?_
     refine WPL.qq (q_add rfl rfl) ?_
     refine WPL.qq (q_as (v := .lit (.int _ _)) rfl) ?_
     refine WPL.nilW ?_
     refine W.now ?_
     refine InBlock.n ?_
     refine Then.n ?_
     refine WP.region ?_
     refine WPL.qq (q_mv (v := .lit (.int _ _)) rfl) ?_
     refine WPL.qq (q_quo rfl rfl rfl) ?_
     refine WPL.qq (q_as (v := .lit (.int _ _)) rfl) ?_
     refine WPL.nilW ?_
     exact W.wk [] hnp (Then.n ⟨n, ((IntKind.wrap .u64 (Int.tdiv x4 10)), (IntKind.wrap .i64 (x5 + 1))), Nat.lt_succ_self n, H, rfl, rfl⟩) ⟨rfl, trivial, by decide, rfl, trivial⟩ (LeE.u (LeE.u (LeE.none rfl rfl))) rfl
   replace H := cnf hb1 H
   refine WP.exitW ?_
   have q0 := j1 H
   subst q0
   exact W.wk [] hnp (Then.x (Then.x r3)) ⟨rfl, trivial, by decide, rfl, trivial⟩ (LeE.u (LeE.none rfl rfl)) rfl
 rintro _ _ _ ⟨rfl, rfl, rfl⟩
 refine W.now ?_
 refine InBlock.x0 ?_
 refine Then.n ?_
 refine WP.sr ?_
 refine WPL.qq (q_mv (v := .lit (.int _ _)) rfl) ?_
 refine WPL.qq (q_as (v := .lit (.int _ _)) rfl) ?_
 refine WPL.nx ?_
 refine WP.retW ?_
 have q0 := j1 H
 subst q0
 exact W.now (BodyR.mkR trivial rfl [] ⟨rfl, rfl⟩ ⟨rfl, trivial, by decide, rfl, trivial⟩ rfl rfl)
theorem s_dec_Cmp (k : Nat) (x1 : Int) (x2 : Int) (x3 : Int) (x4 : Int) (x5 : Int) (H : g_dec_Cmp k x1 x2 x3 x4 = some x5) : Go.Q.Spec Tryz.prog 57 0 [.agg [.lit (.int .i64 x1), .lit (.int .i64 x2)], .agg [.lit (.int .i64 x3), .lit (.int .i64 x4)]] Mem.nil (fun o M => o = .ret (.lit (.int .i64 x5)) ∧ M = Mem.nil) := by
 unfold g_dec_Cmp at H
 refine Go.Q.Spec.of_bodyR (az := []) (rs := [.tmp 4]) (nt := 69) Tryz.func57 rfl rfl (by intro t T h; simp at h) rfl rfl fun cx hnp => ?_
 refine WP.sr ?_
 refine WPL.d (d_box rfl rfl) rfl ?_
 refine WPL.d (d_box rfl rfl) rfl ?_
 refine WPL.qq (q_as (v := .lit (.int _ _)) rfl) ?_
 refine WPL.nx ?_
 refine WP.seq ?_
 refine WP.sr ?_
 refine WPL.d (d_buildCells li144 rfl rfl rfl rfl rfl) rfl ?_
 obtain ⟨⟨x6, x7, x8, x9, x10⟩, h1, H⟩ := bnd H
 refine WPL.c (runs_call (s := [2, 0, 1]) (t := [2, 0, 1]) (N := 3) (bor := []) fn99 rfl (s_dec_clean k x1 x2 x3 x4 x6 x7 x8 x9 x10 h1) ⟨rfl, AA3, by decide, rfl, trivial⟩ rfl trivial (.ren rfl rfl .nil) rfl BB3 rfl) rfl ?_
 refine WPL.qq (q_not rfl) ?_
 refine WPL.nx ?_
 refine WP.cond (t := (!x6)) rfl (fun hb1 => ?_) (fun hb1 => ?_)
 · replace H := cnt hb1 H
   refine WP.sr ?_
   refine WPL.qq (q_as (v := .lit (.int _ _)) rfl) ?_
   refine WPL.nx ?_
   refine WP.retW ?_
   have q0 := j1 H
   subst q0
   exact W.now (Then.r (BodyR.mkR trivial rfl [] ⟨rfl, rfl⟩ ⟨rfl, trivial, by decide, rfl, trivial⟩ rfl rfl))
 replace H := cnf hb1 H
 refine WP.skipW ?_
 refine W.now ?_
 refine Then.n ?_
 refine WP.seq ?_
 refine WP.regionD' 6 [0, 1] [] mixed rfl ?_
 refine WPD.take 0 rfl (by kernel_rfl) (q_load_ag ag23 rfl rfl (Nat.le_of_ble_eq_true rfl)) rfl rfl ?_
 refine WPD.take 2 rfl (by kernel_rfl) (q_load_ag ag23 rfl rfl (Nat.le_of_ble_eq_true rfl)) rfl rfl ?_
 obtain ⟨x11, h2, H⟩ := bnd H
 refine WPD.ef 1 [0, 1] [] rfl (runs_call (s := []) (t := []) (N := 3) (bor := []) fn100 rfl (s_dec_sign k x7 x8 x11 h2) ⟨rfl, trivial, by decide, rfl, trivial⟩ rfl trivial (.ren rfl rfl .nil) rfl trivial rfl) ?_
 obtain ⟨x12, h3, H⟩ := bnd H
 refine WPD.ef 3 [0, 1] [] rfl (runs_call (s := []) (t := []) (N := 3) (bor := []) fn100 rfl (s_dec_sign k x9 x10 x12 h3) ⟨rfl, trivial, by decide, rfl, trivial⟩ rfl trivial (.ren rfl rfl .nil) rfl trivial rfl) ?_
 refine WPD.tT 4 rfl (q_as (v := .lit (.int _ _)) rfl) ?_
 refine WPD.tT 5 rfl (q_as (v := .lit (.int _ _)) rfl) ?_
 refine WPD.doneW (by kernel_rfl) ?_
 refine W.now ?_
 refine Then.n ?_
 refine WP.seq ?_
 refine WP.seq ?_
 obtain ⟨x13, H1, H⟩ := bnd H
 refine WP.monoW (Q := fun x E M => x = .normal ∧ E = (((((Env.none.upd 2 (.ptr 0 0)).upd 3 (.ptr 1 0)).upd 5 (.lit (.int .i64 x11))).upd 6 (.lit (.int .i64 x12))).upd 25 (.lit (.bool x13))) ∧ M = ((Mem.nil.push (.cells 23 [.lit (.int .i64 x7), .lit (.int .i64 x8)])).push (.cells 23 [.lit (.int .i64 x9), .lit (.int .i64 x10)]))) ?_ ?_
 · clear H
   have H := H1
   clear H1
   refine WP.region ?_
   refine WPL.qq (q_mv (v := .lit (.int _ _)) rfl) ?_
   refine WPL.qq (q_mv (v := .lit (.int _ _)) rfl) ?_
   refine WPL.qq (q_neq rfl rfl) ?_
   refine WPL.qq (q_mv (v := .lit (.bool _)) rfl) ?_
   refine WPL.split (t := 22) (b := (!decide (x11 = x12))) rfl (fun hb2 => ?_) (fun hb2 => ?_)
   · replace H := cnt hb2 H
     refine WPL.sg true rfl (lb hb2) ?_
     refine WPL.sg true rfl (lb hb2) ?_
     refine WPL.qq (q_pickT (v := .lit (.bool _)) (lb hb2) rfl) ?_
     refine WPL.nilW ?_
     have q0 := j1 H
     subst q0
     exact W.wk [0, 1] hnp r3 ⟨rfl, AA2, by decide, rfl, trivial⟩ (LeE.u (LeE.u (LeE.u (LeE.u (LeE.u (LeE.none rfl rfl)))))) rfl
   replace H := cnf hb2 H
   refine WPL.gq rfl (lb hb2) (q_mv (v := .lit (.int _ _)) rfl) ?_
   refine WPL.gq rfl (lb hb2) (q_eql rfl rfl) ?_
   refine WPL.qq (q_pickF (v := .lit (.bool _)) (lb hb2) rfl) ?_
   refine WPL.nilW ?_
   have q0 := j1 H
   subst q0
   exact W.wk [0, 1] hnp r3 ⟨rfl, AA2, by decide, rfl, trivial⟩ (LeE.u (LeE.u (LeE.u (LeE.u (LeE.u (LeE.none rfl rfl)))))) rfl
 rintro _ _ _ ⟨rfl, rfl, rfl⟩
 refine W.now ?_
 refine Then.n ?_
 refine WP.cond (t := x13) rfl (fun hb3 => ?_) (fun hb3 => ?_)
 · replace H := cnt hb3 H
   refine WP.sr ?_
   refine WPL.qq (q_mv (v := .lit (.int _ _)) rfl) ?_
   refine WPL.qq (q_mv (v := .lit (.int _ _)) rfl) ?_
   refine WPL.qq (q_sub rfl rfl) ?_
   obtain ⟨x14, h4, H⟩ := bnd H
   refine WPL.qq (q_nm (q_max rfl rfl) (nm_int h4)) ?_
   obtain ⟨x15, h5, H⟩ := bnd H
   refine WPL.qq (q_nm (q_min rfl rfl) (nm_int h5)) ?_
   refine WPL.qq (q_as (v := .lit (.int _ _)) rfl) ?_
   refine WPL.nx ?_
   refine WP.retW ?_
   have q0 := j1 H
   subst q0
   exact W.now (Then.r (BodyR.mkR trivial rfl [] ⟨rfl, rfl⟩ ⟨rfl, trivial, by decide, rfl, trivial⟩ rfl rfl))
 replace H := cnf hb3 H
 refine WP.skipW ?_
 refine W.now ?_
 refine Then.n ?_
 refine WP.seq ?_
 refine WP.regionD' 16 [0, 1] [] mixed rfl ?_
 refine WPD.tT 0 rfl (q_fieldAddr fi23_0 rfl rfl) ?_
 refine WPD.tT 4 rfl (q_fieldAddr fi23_1 rfl rfl) ?_
 refine WPD.tT 7 rfl (q_fieldAddr fi23_0 rfl rfl) ?_
 refine WPD.tT 11 rfl (q_fieldAddr fi23_1 rfl rfl) ?_
 refine WPD.take 1 rfl (by kernel_rfl) (q_load sc2 rfl rfl rfl) rfl rfl ?_
 refine WPD.take 5 rfl (by kernel_rfl) (q_load sc3 rfl rfl rfl) rfl rfl ?_
 refine WPD.take 8 rfl (by kernel_rfl) (q_load sc2 rfl rfl rfl) rfl rfl ?_
 refine WPD.take 12 rfl (by kernel_rfl) (q_load sc3 rfl rfl rfl) rfl rfl ?_
 obtain ⟨x16, h6, H⟩ := bnd H
 refine WPD.ef 2 [0, 1] [] rfl (runs_call (s := []) (t := []) (N := 2) (bor := []) fn102 rfl (s_dec_size k x7 x16 h6) ⟨rfl, trivial, by decide, rfl, trivial⟩ rfl trivial (.ren rfl rfl .nil) rfl trivial rfl) ?_
 obtain ⟨x17, h7, H⟩ := bnd H
 refine WPD.ef 3 [0, 1] [] rfl (runs_call (s := []) (t := []) (N := 2) (bor := []) fn101 rfl (s_dec_digits k x16 x17 h7) ⟨rfl, trivial, by decide, rfl, trivial⟩ rfl trivial (.ren rfl rfl .nil) rfl trivial rfl) ?_
 refine WPD.tT 6 rfl (q_add rfl rfl) ?_
 obtain ⟨x18, h8, H⟩ := bnd H
 refine WPD.ef 9 [0, 1] [] rfl (runs_call (s := []) (t := []) (N := 2) (bor := []) fn102 rfl (s_dec_size k x9 x18 h8) ⟨rfl, trivial, by decide, rfl, trivial⟩ rfl trivial (.ren rfl rfl .nil) rfl trivial rfl) ?_
 obtain ⟨x19, h9, H⟩ := bnd H
 refine WPD.ef 10 [0, 1] [] rfl (runs_call (s := []) (t := []) (N := 2) (bor := []) fn101 rfl (s_dec_digits k x18 x19 h9) ⟨rfl, trivial, by decide, rfl, trivial⟩ rfl trivial (.ren rfl rfl .nil) rfl trivial rfl) ?_
 refine WPD.tT 13 rfl (q_add rfl rfl) ?_
 refine WPD.tT 14 rfl (q_as (v := .lit (.int _ _)) rfl) ?_
 refine WPD.tT 15 rfl (q_as (v := .lit (.int _ _)) rfl) ?_
 refine WPD.doneW (by kernel_rfl) ?_
 refine W.now ?_
 refine Then.n ?_
 refine WP.seq ?_
 refine WP.sr ?_
 refine WPL.qq (q_mv (v := .lit (.int _ _)) rfl) ?_
 refine WPL.qq (q_mv (v := .lit (.int _ _)) rfl) ?_
 obtain ⟨x20, h10, H⟩ := bnd H
 refine WPL.qq (q_nm (q_neq rfl rfl) (nm_bool h10)) ?_
 refine WPL.nx ?_
 refine WP.cond (t := x20) rfl (fun hb4 => ?_) (fun hb4 => ?_)
 · replace H := cnt hb4 H
   refine WP.sr ?_
   refine WPL.qq (q_mv (v := .lit (.int _ _)) rfl) ?_
   refine WPL.qq (q_mv (v := .lit (.int _ _)) rfl) ?_
   refine WPL.qq (q_mv (v := .lit (.int _ _)) rfl) ?_
   obtain ⟨x21, h11, H⟩ := bnd H
   refine WPL.qq (q_nm (q_sub rfl rfl) (nm_int h11)) ?_
   obtain ⟨x22, h12, H⟩ := bnd H
   refine WPL.qq (q_nm (q_max rfl rfl) (nm_int h12)) ?_
   obtain ⟨x23, h13, H⟩ := bnd H
   refine WPL.qq (q_nm (q_min rfl rfl) (nm_int h13)) ?_
   refine WPL.qq (q_mul rfl rfl) ?_
   refine WPL.qq (q_as (v := .lit (.int _ _)) rfl) ?_
   refine WPL.nx ?_
   refine WP.retW ?_
   have q0 := j1 H
   subst q0
   exact W.now (Then.r (BodyR.mkR trivial rfl [] ⟨rfl, rfl⟩ ⟨rfl, trivial, by decide, rfl, trivial⟩ rfl rfl))
 replace H := cnf hb4 H
 refine WP.skipW ?_
 refine W.now ?_
 refine Then.n ?_
 refine WP.sr ?_
 refine WPL.qq (q_load_ag ag23 rfl rfl (Nat.le_of_ble_eq_true rfl)) ?_
 refine WPL.qq (q_load_ag ag23 rfl rfl (Nat.le_of_ble_eq_true rfl)) ?_
 obtain ⟨⟨x24, x25, x26, x27, x28, x29, x30⟩, h13, H⟩ := bnd H
 refine WPL.c (runs_call (s := []) (t := [2, 3]) (N := 4) (bor := []) fn103 rfl (s_dec_even k x7 x8 x9 x10 x24 x25 x26 x27 x28 x29 x30 h13) ⟨rfl, trivial, by decide, rfl, trivial⟩ rfl trivial (.ren rfl rfl (.ren rfl rfl .nil)) rfl BB2 rfl) rfl ?_
 refine WPL.qq (q_mv (v := .tup _) rfl) ?_
 refine WPL.qq (q_extract rfl rfl) ?_
 refine WPL.qq (q_extract rfl rfl) ?_
 refine WPL.qq (q_extract rfl rfl) ?_
 refine WPL.d (d_alloc ze71 rfl) rfl ?_
 refine WPL.d (d_alloc ze71 rfl) rfl ?_
 refine WPL.s (s_store sz71 rfl rfl rfl rfl rfl) ?_
 refine WPL.s (s_store sz71 rfl rfl rfl rfl rfl) ?_
 refine WPL.qq (q_as (v := .lit (.bool _)) rfl) ?_
 refine WPL.nx ?_
 refine WP.sr ?_
 refine WPL.qq (q_mv (v := .lit (.int _ _)) rfl) ?_
 refine WPL.qq (q_fieldAddr fi71_1 rfl rfl) ?_
 refine WPL.qq (q_load_ag ag69 rfl rfl (Nat.le_of_ble_eq_true rfl)) ?_
 refine WPL.qq (q_fieldAddr fi71_1 rfl rfl) ?_
 refine WPL.qq (q_load_ag ag69 rfl rfl (Nat.le_of_ble_eq_true rfl)) ?_
 obtain ⟨x31, h14, H⟩ := bnd H
 refine WPL.c (runs_call (s := []) (t := []) (N := 6) (bor := []) fn104 rfl (s_dec_wide_cmp k x25 x26 x28 x29 x31 h14) ⟨rfl, trivial, by decide, rfl, trivial⟩ rfl trivial (.ren rfl rfl (.ren rfl rfl .nil)) rfl trivial rfl) rfl ?_
 refine WPL.qq (q_mul rfl rfl) ?_
 refine WPL.qq (q_as (v := .lit (.int _ _)) rfl) ?_
 refine WPL.nx ?_
 refine WP.retW ?_
 have q0 := j1 H
 subst q0
 exact W.now (BodyR.mkR trivial rfl [] ⟨rfl, rfl⟩ ⟨rfl, trivial, by decide, rfl, trivial⟩ rfl rfl)
theorem s_utf_turned (k : Nat) (x1 : ByteArray) (x2 : Int) (x3 : Int) (x4 : Int) (x5 : ByteArray) (H : g_utf_turned k x1 x2 x3 x4 = some x5) : Go.Q.Spec Tryz.prog 106 0 [.lit (.string x1), .lit (.int .u8 x2), .lit (.int .u8 x3), .lit (.int .i64 x4)] Mem.nil (fun o M => o = .ret (.lit (.string x5)) ∧ M = Mem.nil) := by
 unfold g_utf_turned at H
 refine Go.Q.Spec.of_bodyR (az := []) (rs := [.tmp 8]) (nt := 40) Tryz.func106 rfl rfl (by intro t T h; simp at h) rfl rfl fun cx hnp => ?_
 refine WP.sr ?_
 refine WPL.qq (q_as (v := .lit (.string _)) rfl) ?_
 refine WPL.nx ?_
 refine WP.sr ?_
 refine WPL.qq (q_mv (v := .lit (.string _)) rfl) ?_
 obtain ⟨h1, H⟩ := grd H
 refine WPL.d (d_strBytes Tryz.underlying9 Tryz.underlying104 Tryz.underlying5 rfl h1 rfl) rfl ?_
 refine WPL.qq (q_as (v := .whole _) rfl) ?_
 refine WPL.nx ?_
 refine WP.seq ?_
 refine WP.sr ?_
 refine WPL.qq (q_mv (v := .whole _) rfl) ?_
 refine WPL.qq (q_len_row sl104 rfl rfl) ?_
 refine WPL.qq (q_mv (v := .lit (.int _ _)) rfl) ?_
 refine WPL.nx ?_
 refine WP.block ?_
 refine WP.cv (Cv.weak (E' := (((((((Env.none.upd 1 (.lit (.int .u8 x2))).upd 2 (.lit (.int .u8 x3))).upd 3 (.lit (.int .i64 x4))).upd 9 (.whole 0)).upd 14 (.whole 0)).upd 15 (.lit (.int .i64 ((List.length (strInts x1) : Nat) : Int)))).upd 16 (.lit (.int .i64 0)))) (M' := (Mem.nil.push (.row 5 (Rd.int .u8) (strInts x1)))) [0] hnp ⟨rfl, AA1, by decide, rfl, trivial⟩ (LeE.u (LeE.u (LeE.u (LeE.u (LeE.u (LeE.u (LeE.u (LeE.none rfl rfl))))))))) ?_
 obtain ⟨x6, H1, H⟩ := bnd H
 refine WP.monoW (Q := fun x E M => x = .exit 0 ∧ E = (Env.none.upd 9 (.whole 0)) ∧ M = (Mem.nil.push (.row 5 (Rd.int .u8) x6))) ?_ ?_
 · refine WP.loop (β := Int × (List Int)) (fun n b => g_utf_turned_l0 k x1 x2 x3 x4 n b.1 b.2 = some x6) (fun b => (((((((Env.none.upd 1 (.lit (.int .u8 x2))).upd 2 (.lit (.int .u8 x3))).upd 3 (.lit (.int .i64 x4))).upd 9 (.whole 0)).upd 14 (.whole 0)).upd 15 (.lit (.int .i64 ((List.length (strInts x1) : Nat) : Int)))).upd 16 (.lit (.int .i64 b.1)))) (fun b => (Mem.nil.push (.row 5 (Rd.int .u8) b.2))) k (0, (strInts x1)) H1 rfl rfl ?_
   rintro n ⟨x7, x8⟩ H
   obtain _ | n := n
   · exact nf rfl H
   rw [g_utf_turned_l0.eq_2] at H
   show WP _ _ _ _ (((((((Env.none.upd 1 (.lit (.int .u8 x2))).upd 2 (.lit (.int .u8 x3))).upd 3 (.lit (.int .i64 x4))).upd 9 (.whole 0)).upd 14 (.whole 0)).upd 15 (.lit (.int .i64 ((List.length (strInts x1) : Nat) : Int)))).upd 16 (.lit (.int .i64 x7))) (Mem.nil.push (.row 5 (Rd.int .u8) x8)) _
   refine WP.sr ?_
   obtain ⟨x9, h2, H⟩ := bnd H
   refine WPL.qq (q_nm (q_lss rfl rfl) (nm_bool h2)) ?_
   refine WPL.nx ?_
   refine WP.seq ?_
   refine WP.cond (t := x9) rfl (fun hb1 => ?_) (fun hb1 => ?_)
   · replace H := cnt hb1 H
     refine WP.skipW ?_
     refine W.now ?_
     refine Then.n ?_
     refine WP.seq ?_
     obtain ⟨x10, H2, H⟩ := bnd H
     refine WP.monoW (Q := fun x E M => x = .normal ∧ E = (((((((Env.none.upd 1 (.lit (.int .u8 x2))).upd 2 (.lit (.int .u8 x3))).upd 3 (.lit (.int .i64 x4))).upd 9 (.whole 0)).upd 14 (.whole 0)).upd 15 (.lit (.int .i64 ((List.length (strInts x1) : Nat) : Int)))).upd 16 (.lit (.int .i64 x7))) ∧ M = (Mem.nil.push (.row 5 (Rd.int .u8) x10))) ?_ ?_
     · clear H
       have H := H2
       clear H2
       refine WP.block ?_
       refine WP.sr ?_
       refine WPL.qq (q_mv (v := .lit (.int _ _)) rfl) ?_
       obtain ⟨x11, h3, H⟩ := bnd H
       refine WPL.qq (q_index_row sl104 rfl rfl rfl (ixs h3)) ?_
       refine WPL.qq (q_load_row (j := (Int.toNat x7)) sc5 rfl rfl (ixj h3)) ?_
       refine WPL.qq (q_as (v := .lit (.int _ _)) rfl) ?_
       refine WPL.qq (q_as (v := .lit (.int _ _)) rfl) ?_
       refine WPL.nx ?_
       refine WP.seq ?_
       obtain ⟨x12, H3, H⟩ := bnd H
       refine WP.monoW (Q := fun x E M => x = .normal ∧ E = ((((((((((Env.none.upd 1 (.lit (.int .u8 x2))).upd 2 (.lit (.int .u8 x3))).upd 3 (.lit (.int .i64 x4))).upd 9 (.whole 0)).upd 10 (.lit (.int .i64 x7))).upd 11 (.lit (.int .u8 x11))).upd 14 (.whole 0)).upd 15 (.lit (.int .i64 ((List.length (strInts x1) : Nat) : Int)))).upd 16 (.lit (.int .i64 x7))).upd 28 (.lit (.bool x12))) ∧ M = (Mem.nil.push (.row 5 (Rd.int .u8) x8))) ?_ ?_
       · clear H
         have H := H3
         clear H3
         refine WP.region ?_
         refine WPL.qq (q_mv (v := .lit (.int _ _)) rfl) ?_
         refine WPL.qq (q_mv (v := .lit (.int _ _)) rfl) ?_
         refine WPL.qq (q_geq rfl rfl) ?_
         refine WPL.qq (q_mv (v := .lit (.bool _)) rfl) ?_
         refine WPL.split (t := 24) (b := (decide (x2 ≤ x11))) rfl (fun hb2 => ?_) (fun hb2 => ?_)
         · replace H := cnt hb2 H
           refine WPL.gq rfl (lb hb2) (q_mv (v := .lit (.int _ _)) rfl) ?_
           refine WPL.gq rfl (lb hb2) (q_mv (v := .lit (.int _ _)) rfl) ?_
           refine WPL.gq rfl (lb hb2) (q_leq rfl rfl) ?_
           refine WPL.qq (q_pickT (v := .lit (.bool _)) (lb hb2) rfl) ?_
           refine WPL.nilW ?_
           have q0 := j1 H
           subst q0
           exact W.wk [0] hnp r3 ⟨rfl, AA1, by decide, rfl, trivial⟩ (LeE.u (LeE.u (LeE.u (LeE.u (LeE.u (LeE.u (LeE.u (LeE.u (LeE.u (LeE.u (LeE.none rfl rfl))))))))))) rfl
         replace H := cnf hb2 H
         refine WPL.sg false rfl (lb hb2) ?_
         refine WPL.sg false rfl (lb hb2) ?_
         refine WPL.sg false rfl (lb hb2) ?_
         refine WPL.qq (q_pickF (v := .lit (.bool _)) (lb hb2) rfl) ?_
         refine WPL.nilW ?_
         have q0 := j1 H
         subst q0
         exact W.wk [0] hnp r3 ⟨rfl, AA1, by decide, rfl, trivial⟩ (LeE.u (LeE.u (LeE.u (LeE.u (LeE.u (LeE.u (LeE.u (LeE.u (LeE.u (LeE.u (LeE.none rfl rfl))))))))))) rfl
       rintro _ _ _ ⟨rfl, rfl, rfl⟩
       refine W.now ?_
       refine Then.n ?_
       refine WP.cond (t := x12) rfl (fun hb3 => ?_) (fun hb3 => ?_)
       · replace H := cnt hb3 H
         refine WP.region ?_
         refine WPL.qq (q_mv (v := .whole _) rfl) ?_
         refine WPL.qq (q_mv (v := .lit (.int _ _)) rfl) ?_
         refine WPL.qq (q_mv (v := .lit (.int _ _)) rfl) ?_
         refine WPL.qq (q_conv Tryz.underlying5 Tryz.underlying3 rfl) ?_
         refine WPL.qq (q_mv (v := .lit (.int _ _)) rfl) ?_
         obtain ⟨x13, h4, H⟩ := bnd H
         refine WPL.qq (q_nm (q_add rfl rfl) (nm_int h4)) ?_
         refine WPL.qq (q_conv Tryz.underlying3 Tryz.underlying5 rfl) ?_
         obtain ⟨x14, h5, H⟩ := bnd H
         refine WPL.qq (q_index_row sl104 rfl rfl rfl (ixs h5)) ?_
         refine WPL.s (s_store_row (j := (Int.toNat x7)) (d := (IntKind.wrap .u8 x13)) sz5 rfl rfl rfl rfl Joins.sc (ixl h5)) ?_
         refine WPL.nilW ?_
         have q0 := j1 H
         subst q0
         exact W.wk [0] hnp (InBlock.n r3) ⟨rfl, AA1, by decide, rfl, trivial⟩ (LeE.u (LeE.u (LeE.u (LeE.u (LeE.u (LeE.u (LeE.u (LeE.none rfl rfl)))))))) rfl
       replace H := cnf hb3 H
       refine WP.skipW ?_
       have q0 := j1 H
       subst q0
       exact W.wk [0] hnp (InBlock.n r3) ⟨rfl, AA1, by decide, rfl, trivial⟩ (LeE.u (LeE.u (LeE.u (LeE.u (LeE.u (LeE.u (LeE.u (LeE.none rfl rfl)))))))) rfl
     rintro _ _ _ ⟨rfl, rfl, rfl⟩
     refine W.now ?_
     refine Then.n ?_
     refine WP.region ?_
     refine WPL.qq (q_add rfl rfl) ?_
     refine WPL.qq (q_mv (v := .lit (.int _ _)) rfl) ?_
     refine WPL.nilW ?_
     exact W.wk [0] hnp (Then.n ⟨n, ((IntKind.wrap .i64 (x7 + 1)), x10), Nat.lt_succ_self n, H, rfl, rfl⟩) ⟨rfl, AA1, by decide, rfl, trivial⟩ (LeE.u (LeE.u (LeE.u (LeE.u (LeE.u (LeE.u (LeE.u (LeE.none rfl rfl)))))))) rfl
   replace H := cnf hb1 H
   refine WP.exitW ?_
   have q0 := j1 H
   subst q0
   exact W.wk [0] hnp (Then.x (Then.x r3)) ⟨rfl, AA1, by decide, rfl, trivial⟩ (LeE.u (LeE.none rfl rfl)) rfl
 rintro _ _ _ ⟨rfl, rfl, rfl⟩
 refine W.now ?_
 refine InBlock.x0 ?_
 refine Then.n ?_
 refine WP.sr ?_
 refine WPL.qq (q_mv (v := .whole _) rfl) ?_
 refine WPL.qq (q_bytes_str_row Tryz.underlying104 Tryz.underlying5 Tryz.underlying9 rfl rfl) ?_
 refine WPL.qq (q_as (v := .lit (.string _)) rfl) ?_
 refine WPL.nx ?_
 refine WP.retW ?_
 have q0 := j1 H
 subst q0
 exact W.now (BodyR.mkR trivial rfl [] ⟨rfl, rfl⟩ ⟨rfl, trivial, by decide, rfl, trivial⟩ rfl rfl)
theorem s_utf_Lower (k : Nat) (x1 : ByteArray) (x2 : ByteArray) (H : g_utf_Lower k x1 = some x2) : Go.Q.Spec Tryz.prog 59 0 [.lit (.string x1)] Mem.nil (fun o M => o = .ret (.lit (.string x2)) ∧ M = Mem.nil) := by
 unfold g_utf_Lower at H
 refine Go.Q.Spec.of_bodyR (az := []) (rs := [.tmp 2]) (nt := 5) Tryz.func59 rfl rfl (by intro t T h; simp at h) rfl rfl fun cx hnp => ?_
 refine WP.sr ?_
 refine WPL.qq (q_as (v := .lit (.string _)) rfl) ?_
 refine WPL.nx ?_
 refine WP.sr ?_
 refine WPL.qq (q_mv (v := .lit (.string _)) rfl) ?_
 obtain ⟨x3, h1, H⟩ := bnd H
 refine WPL.c (runs_call (s := []) (t := []) (N := 0) (bor := []) fn106 rfl (s_utf_turned k x1 65 90 32 x3 h1) ⟨rfl, trivial, by decide, rfl, trivial⟩ rfl trivial (.ren rfl rfl (.ren rfl rfl (.ren rfl rfl (.ren rfl rfl .nil)))) rfl trivial rfl) rfl ?_
 refine WPL.qq (q_as (v := .lit (.string _)) rfl) ?_
 refine WPL.nx ?_
 refine WP.retW ?_
 have q0 := j1 H
 subst q0
 exact W.now (BodyR.mkR trivial rfl [] ⟨rfl, rfl⟩ ⟨rfl, trivial, by decide, rfl, trivial⟩ rfl rfl)
theorem s_cmp_isNaN_string (k : Nat) (x1 : ByteArray) (H : g_cmp_isNaN_string k x1 = some ()) : Go.Q.Spec Tryz.prog 105 0 [.lit (.string x1)] Mem.nil (fun o M => o = .ret (.lit (.bool (!(x1.toList == x1.toList)))) ∧ M = Mem.nil) := by
 unfold g_cmp_isNaN_string at H
 refine Go.Q.Spec.of_bodyR (az := []) (rs := [.tmp 2]) (nt := 6) Tryz.func105 rfl rfl (by intro t T h; simp at h) rfl rfl fun cx hnp => ?_
 refine WP.sr ?_
 refine WPL.qq (q_as (v := .lit (.bool _)) rfl) ?_
 refine WPL.nx ?_
 refine WP.sr ?_
 refine WPL.qq (q_mv (v := .lit (.string _)) rfl) ?_
 refine WPL.qq (q_mv (v := .lit (.string _)) rfl) ?_
 refine WPL.qq (q_neqs rfl rfl) ?_
 refine WPL.qq (q_as (v := .lit (.bool _)) rfl) ?_
 refine WPL.nx ?_
 refine WP.retW ?_
 exact W.now (BodyR.mkR trivial rfl [] ⟨rfl, rfl⟩ ⟨rfl, trivial, by decide, rfl, trivial⟩ rfl rfl)
theorem s_cmp_Compare_string (k : Nat) (x1 : ByteArray) (x2 : ByteArray) (x3 : Int) (H : g_cmp_Compare_string k x1 x2 = some x3) : Go.Q.Spec Tryz.prog 58 0 [.lit (.string x1), .lit (.string x2)] Mem.nil (fun o M => o = .ret (.lit (.int .i64 x3)) ∧ M = Mem.nil) := by
 unfold g_cmp_Compare_string at H
 refine Go.Q.Spec.of_bodyR (az := []) (rs := [.tmp 4]) (nt := 20) Tryz.func58 rfl rfl (by intro t T h; simp at h) rfl rfl fun cx hnp => ?_
 refine WP.sr ?_
 refine WPL.qq (q_as (v := .lit (.int _ _)) rfl) ?_
 refine WPL.nx ?_
 refine WP.sr ?_
 refine WPL.qq (q_mv (v := .lit (.string _)) rfl) ?_
 obtain ⟨_, h1, H⟩ := bnd H
 refine WPL.c (runs_call (s := []) (t := []) (N := 0) (bor := []) fn105 rfl (s_cmp_isNaN_string k x1 h1) ⟨rfl, trivial, by decide, rfl, trivial⟩ rfl trivial (.ren rfl rfl .nil) rfl trivial rfl) rfl ?_
 refine WPL.qq (q_as (v := .lit (.bool _)) rfl) ?_
 refine WPL.nx ?_
 refine WP.sr ?_
 refine WPL.qq (q_mv (v := .lit (.string _)) rfl) ?_
 obtain ⟨_, h2, H⟩ := bnd H
 refine WPL.c (runs_call (s := []) (t := []) (N := 0) (bor := []) fn105 rfl (s_cmp_isNaN_string k x2 h2) ⟨rfl, trivial, by decide, rfl, trivial⟩ rfl trivial (.ren rfl rfl .nil) rfl trivial rfl) rfl ?_
 refine WPL.qq (q_as (v := .lit (.bool _)) rfl) ?_
 refine WPL.nx ?_
 refine WP.seq ?_
 refine WP.sr ?_
 refine WPL.qq (q_mv (v := .lit (.bool _)) rfl) ?_
 refine WPL.nx ?_
 refine WP.cond (t := (!(x1.toList == x1.toList))) rfl (fun hb1 => ?_) (fun hb1 => ?_)
 · replace H := cnt hb1 H
   refine WP.seq ?_
   refine WP.sr ?_
   refine WPL.qq (q_mv (v := .lit (.bool _)) rfl) ?_
   refine WPL.nx ?_
   refine WP.cond (t := (!(x2.toList == x2.toList))) rfl (fun hb2 => ?_) (fun hb2 => ?_)
   · replace H := cnt hb2 H
     refine WP.sr ?_
     refine WPL.qq (q_as (v := .lit (.int _ _)) rfl) ?_
     refine WPL.nx ?_
     refine WP.retW ?_
     have q0 := j1 H
     subst q0
     exact W.now (Then.r (Then.r (BodyR.mkR trivial rfl [] ⟨rfl, rfl⟩ ⟨rfl, trivial, by decide, rfl, trivial⟩ rfl rfl)))
   replace H := cnf hb2 H
   refine WP.skipW ?_
   refine W.now ?_
   refine Then.n ?_
   refine WP.sr ?_
   refine WPL.qq (q_as (v := .lit (.int _ _)) rfl) ?_
   refine WPL.nx ?_
   refine WP.retW ?_
   have q0 := j1 H
   subst q0
   exact W.now (Then.r (BodyR.mkR trivial rfl [] ⟨rfl, rfl⟩ ⟨rfl, trivial, by decide, rfl, trivial⟩ rfl rfl))
 replace H := cnf hb1 H
 refine WP.skipW ?_
 refine W.now ?_
 refine Then.n ?_
 refine WP.seq ?_
 refine WP.sr ?_
 refine WPL.qq (q_mv (v := .lit (.bool _)) rfl) ?_
 refine WPL.nx ?_
 refine WP.cond (t := (!(x2.toList == x2.toList))) rfl (fun hb3 => ?_) (fun hb3 => ?_)
 · replace H := cnt hb3 H
   refine WP.sr ?_
   refine WPL.qq (q_as (v := .lit (.int _ _)) rfl) ?_
   refine WPL.nx ?_
   refine WP.retW ?_
   have q0 := j1 H
   subst q0
   exact W.now (Then.r (BodyR.mkR trivial rfl [] ⟨rfl, rfl⟩ ⟨rfl, trivial, by decide, rfl, trivial⟩ rfl rfl))
 replace H := cnf hb3 H
 refine WP.skipW ?_
 refine W.now ?_
 refine Then.n ?_
 refine WP.seq ?_
 refine WP.sr ?_
 refine WPL.qq (q_mv (v := .lit (.string _)) rfl) ?_
 refine WPL.qq (q_mv (v := .lit (.string _)) rfl) ?_
 refine WPL.qq (q_lsss rfl rfl) ?_
 refine WPL.nx ?_
 refine WP.cond (t := (Op.bytesLess x1.toList x2.toList)) rfl (fun hb4 => ?_) (fun hb4 => ?_)
 · replace H := cnt hb4 H
   refine WP.sr ?_
   refine WPL.qq (q_as (v := .lit (.int _ _)) rfl) ?_
   refine WPL.nx ?_
   refine WP.retW ?_
   have q0 := j1 H
   subst q0
   exact W.now (Then.r (BodyR.mkR trivial rfl [] ⟨rfl, rfl⟩ ⟨rfl, trivial, by decide, rfl, trivial⟩ rfl rfl))
 replace H := cnf hb4 H
 refine WP.skipW ?_
 refine W.now ?_
 refine Then.n ?_
 refine WP.seq ?_
 refine WP.sr ?_
 refine WPL.qq (q_mv (v := .lit (.string _)) rfl) ?_
 refine WPL.qq (q_mv (v := .lit (.string _)) rfl) ?_
 obtain ⟨x4, h3, H⟩ := bnd H
 refine WPL.qq (q_nm (q_gtrs rfl rfl) (nm_bool h3)) ?_
 refine WPL.nx ?_
 refine WP.cond (t := x4) rfl (fun hb5 => ?_) (fun hb5 => ?_)
 · replace H := cnt hb5 H
   refine WP.sr ?_
   refine WPL.qq (q_as (v := .lit (.int _ _)) rfl) ?_
   refine WPL.nx ?_
   refine WP.retW ?_
   have q0 := j1 H
   subst q0
   exact W.now (Then.r (BodyR.mkR trivial rfl [] ⟨rfl, rfl⟩ ⟨rfl, trivial, by decide, rfl, trivial⟩ rfl rfl))
 replace H := cnf hb5 H
 refine WP.skipW ?_
 refine W.now ?_
 refine Then.n ?_
 refine WP.sr ?_
 refine WPL.qq (q_as (v := .lit (.int _ _)) rfl) ?_
 refine WPL.nx ?_
 refine WP.retW ?_
 have q0 := j1 H
 subst q0
 exact W.now (BodyR.mkR trivial rfl [] ⟨rfl, rfl⟩ ⟨rfl, trivial, by decide, rfl, trivial⟩ rfl rfl)
theorem s_val_ones (k : Nat) (x1 : Bool) (x2 : Int) (H : g_val_ones k x1 = some x2) : Go.Q.Spec Tryz.prog 60 0 [.lit (.bool x1)] Mem.nil (fun o M => o = .ret (.lit (.int .i64 x2)) ∧ M = Mem.nil) := by
 unfold g_val_ones at H
 refine Go.Q.Spec.of_bodyR (az := []) (rs := [.tmp 2]) (nt := 4) Tryz.func60 rfl rfl (by intro t T h; simp at h) rfl rfl fun cx hnp => ?_
 refine WP.sr ?_
 refine WPL.qq (q_as (v := .lit (.int _ _)) rfl) ?_
 refine WPL.nx ?_
 refine WP.seq ?_
 refine WP.sr ?_
 refine WPL.qq (q_mv (v := .lit (.bool _)) rfl) ?_
 refine WPL.nx ?_
 refine WP.cond (t := x1) rfl (fun hb1 => ?_) (fun hb1 => ?_)
 · replace H := cnt hb1 H
   refine WP.sr ?_
   refine WPL.qq (q_as (v := .lit (.int _ _)) rfl) ?_
   refine WPL.nx ?_
   refine WP.retW ?_
   have q0 := j1 H
   subst q0
   exact W.now (Then.r (BodyR.mkR trivial rfl [] ⟨rfl, rfl⟩ ⟨rfl, trivial, by decide, rfl, trivial⟩ rfl rfl))
 replace H := cnf hb1 H
 refine WP.skipW ?_
 refine W.now ?_
 refine Then.n ?_
 refine WP.sr ?_
 refine WPL.qq (q_as (v := .lit (.int _ _)) rfl) ?_
 refine WPL.nx ?_
 refine WP.retW ?_
 have q0 := j1 H
 subst q0
 exact W.now (BodyR.mkR trivial rfl [] ⟨rfl, rfl⟩ ⟨rfl, trivial, by decide, rfl, trivial⟩ rfl rfl)
end Go.Proofs.YthpcgknknpjpdaaGreatDoor.W
namespace Go.Proofs.YthpcgknknpjpdaaGreatDoor.W
open Go Go.Q Go.Proofs
set_option linter.unusedVariables false
set_option linter.unusedSimpArgs false
set_option maxRecDepth 100000
set_option maxHeartbeats 4000000
theorem s_cmp_Or_int (k : Nat) (x1 : (List Int)) (x2 : Int) (H : g_cmp_Or_int k x1 = some x2) : Go.Q.Spec Tryz.prog 55 0 [.ro (Rd.slice (Rd.int .i64)) true x1] Mem.nil (fun o M => o = .ret (.lit (.int .i64 x2)) ∧ M = Mem.nil) := by
 unfold g_cmp_Or_int at H
 refine Go.Q.Spec.of_bodyR (az := []) (rs := [.tmp 2]) (nt := 18) Tryz.func55 rfl rfl (by intro t T h; simp at h) rfl rfl fun cx hnp => ?_
 refine WP.sr ?_
 refine WPL.qq (q_as (v := .lit (.int _ _)) rfl) ?_
 refine WPL.nx ?_
 refine WP.sr ?_
 refine WPL.qq (q_as (v := .lit (.int _ _)) rfl) ?_
 refine WPL.nx ?_
 refine WP.seq ?_
 refine WP.sr ?_
 refine WPL.qq (q_mv (v := .ro _ _ _) rfl) ?_
 refine WPL.qq (q_len_ro sl76 rfl) ?_
 refine WPL.qq (q_mv (v := .lit (.int _ _)) rfl) ?_
 refine WPL.nx ?_
 refine WP.block ?_
 refine WP.cv (Cv.weak (E' := ((((Env.none.upd 3 (.lit (.int .i64 0))).upd 6 (.ro (Rd.slice (Rd.int .i64)) true x1)).upd 7 (.lit (.int .i64 ((List.length x1 : Nat) : Int)))).upd 8 (.lit (.int .i64 0)))) (M' := Mem.nil) [] hnp ⟨rfl, trivial, by decide, rfl, trivial⟩ (LeE.u (LeE.u (LeE.u (LeE.u (LeE.none rfl rfl)))))) ?_
 obtain ⟨y1, H1, H⟩ := bnd H
 refine WP.monoW (Q := fun x E M => match (generalizing := false) y1 with | (Sum.inl x3) => x = .ret ∧ E = (Env.none.upd 2 (.lit (.int .i64 x3))) ∧ M = Mem.nil | (Sum.inr _) => x = .exit 0 ∧ E = (Env.none.upd 3 (.lit (.int .i64 0))) ∧ M = Mem.nil) ?_ ?_
 · refine WP.loop (β := Int) (fun n b => g_cmp_Or_int_l0 k x1 n b = some y1) (fun b => ((((Env.none.upd 3 (.lit (.int .i64 0))).upd 6 (.ro (Rd.slice (Rd.int .i64)) true x1)).upd 7 (.lit (.int .i64 ((List.length x1 : Nat) : Int)))).upd 8 (.lit (.int .i64 b)))) (fun b => Mem.nil) k 0 H1 rfl rfl ?_
   rintro n x4 H
   obtain _ | n := n
   · exact nf rfl H
   rw [g_cmp_Or_int_l0.eq_2] at H
   show WP _ _ _ _ ((((Env.none.upd 3 (.lit (.int .i64 0))).upd 6 (.ro (Rd.slice (Rd.int .i64)) true x1)).upd 7 (.lit (.int .i64 ((List.length x1 : Nat) : Int)))).upd 8 (.lit (.int .i64 x4))) Mem.nil _
   refine WP.sr ?_
   obtain ⟨x5, h1, H⟩ := bnd H
   refine WPL.qq (q_nm (q_lss rfl rfl) (nm_bool h1)) ?_
   refine WPL.nx ?_
   refine WP.seq ?_
   refine WP.cond (t := x5) rfl (fun hb1 => ?_) (fun hb1 => ?_)
   · replace H := cnt hb1 H
     refine WP.skipW ?_
     refine W.now ?_
     refine Then.n ?_
     refine WP.seq ?_
     refine WP.block ?_
     refine WP.sr ?_
     obtain ⟨x6, h2, H⟩ := bnd H
     refine WPL.qq (q_index_ro sl76 rfl rfl rfl h2) ?_
     refine WPL.qq (q_load_sc sc3 rfl) ?_
     refine WPL.qq (q_as (v := .lit (.int _ _)) rfl) ?_
     refine WPL.nx ?_
     refine WP.sr ?_
     refine WPL.qq (q_mv (v := .lit (.int _ _)) rfl) ?_
     refine WPL.qq (q_mv (v := .lit (.int _ _)) rfl) ?_
     refine WPL.qq (q_neq rfl rfl) ?_
     refine WPL.nx ?_
     refine WP.cond (t := (!decide (x6 = 0))) rfl (fun hb2 => ?_) (fun hb2 => ?_)
     · replace H := cnt hb2 H
       refine WP.sr ?_
       refine WPL.qq (q_mv (v := .lit (.int _ _)) rfl) ?_
       refine WPL.qq (q_as (v := .lit (.int _ _)) rfl) ?_
       refine WPL.nx ?_
       refine WP.retW ?_
       have q0 := j1 H
       subst q0
       exact W.wk [] hnp (InBlock.r (Then.r (Then.r r3))) ⟨rfl, trivial, by decide, rfl, trivial⟩ (LeE.u (LeE.none rfl rfl)) rfl
     replace H := cnf hb2 H
     refine WP.skipW ?_
     refine W.now ?_
     refine InBlock.n ?_
     refine Then.n ?_
     refine WP.region ?_
     refine WPL.qq (q_add rfl rfl) ?_
     refine WPL.qq (q_mv (v := .lit (.int _ _)) rfl) ?_
     refine WPL.nilW ?_
     exact W.wk [] hnp (Then.n ⟨n, (IntKind.wrap .i64 (x4 + 1)), Nat.lt_succ_self n, H, rfl, rfl⟩) ⟨rfl, trivial, by decide, rfl, trivial⟩ (LeE.u (LeE.u (LeE.u (LeE.u (LeE.none rfl rfl))))) rfl
   replace H := cnf hb1 H
   refine WP.exitW ?_
   have q0 := j1 H
   subst q0
   exact W.wk [] hnp (Then.x (Then.x r3)) ⟨rfl, trivial, by decide, rfl, trivial⟩ (LeE.u (LeE.none rfl rfl)) rfl
 rcases y1 with x3 | _
 · rintro _ _ _ ⟨rfl, rfl, rfl⟩
   have q0 := j1 H
   subst q0
   exact W.now (InBlock.r (Then.r (BodyR.mkR trivial rfl [] ⟨rfl, rfl⟩ ⟨rfl, trivial, by decide, rfl, trivial⟩ rfl rfl)))
 rintro _ _ _ ⟨rfl, rfl, rfl⟩
 refine W.now ?_
 refine InBlock.x0 ?_
 refine Then.n ?_
 refine WP.sr ?_
 refine WPL.qq (q_mv (v := .lit (.int _ _)) rfl) ?_
 refine WPL.qq (q_as (v := .lit (.int _ _)) rfl) ?_
 refine WPL.nx ?_
 refine WP.retW ?_
 have q0 := j1 H
 subst q0
 exact W.now (BodyR.mkR trivial rfl [] ⟨rfl, rfl⟩ ⟨rfl, trivial, by decide, rfl, trivial⟩ rfl rfl)
theorem s_val_Cmp (k : Nat) (x1 : Int) (x2 : Int) (x3 : Int) (x4 : ByteArray) (x5 : Bool) (x6 : Int) (x7 : Int) (x8 : Int) (x9 : Int) (x10 : ByteArray) (x11 : Bool) (x12 : Int) (x13 : Int) (H : g_val_Cmp k x1 x2 x3 x4 x5 x6 x7 x8 x9 x10 x11 x12 = some x13) : Go.Q.Spec Tryz.prog 26 0 [.agg [.lit (.int .i64 x1), .lit (.int .i64 x2), .lit (.int .i64 x3), .lit (.string x4), .lit (.bool x5), .lit (.int .i64 x6)], .agg [.lit (.int .i64 x7), .lit (.int .i64 x8), .lit (.int .i64 x9), .lit (.string x10), .lit (.bool x11), .lit (.int .i64 x12)]] Mem.nil (fun o M => o = .ret (.lit (.int .i64 x13)) ∧ M = Mem.nil) := by
 unfold g_val_Cmp at H
 refine Go.Q.Spec.of_bodyR (az := []) (rs := [.tmp 4]) (nt := 49) Tryz.func26 rfl rfl (by intro t T h; simp at h) rfl rfl fun cx hnp => ?_
 refine WP.sr ?_
 refine WPL.d (d_box rfl rfl) rfl ?_
 refine WPL.d (d_box rfl rfl) rfl ?_
 refine WPL.qq (q_as (v := .lit (.int _ _)) rfl) ?_
 refine WPL.nx ?_
 refine WP.seq ?_
 refine WP.regionD' 6 [0, 1] [4] mixed rfl ?_
 refine WPD.take 0 rfl (by kernel_rfl) (q_load_ag ag29 rfl rfl (Nat.le_of_ble_eq_true rfl)) rfl rfl ?_
 refine WPD.take 2 rfl (by kernel_rfl) (q_load_ag ag29 rfl rfl (Nat.le_of_ble_eq_true rfl)) rfl rfl ?_
 obtain ⟨⟨x14, x15, x16, x17, x18, x19⟩, h1, H⟩ := bnd H
 refine WPD.ef 1 [0, 1] [4] rfl (runs_call (s := []) (t := [2]) (N := 3) (bor := []) fn53 rfl (s_val_clean k x1 x2 x3 x4 x5 x6 x14 x15 x16 x17 x18 x19 h1) ⟨rfl, trivial, by decide, rfl, trivial⟩ rfl trivial (.ren rfl rfl .nil) rfl BB1 rfl) ?_
 obtain ⟨⟨x20, x21, x22, x23, x24, x25⟩, h2, H⟩ := bnd H
 refine WPD.ef 3 [0, 1] [4] rfl (runs_call (s := []) (t := [3]) (N := 4) (bor := []) fn53 rfl (s_val_clean k x7 x8 x9 x10 x11 x12 x20 x21 x22 x23 x24 x25 h2) ⟨rfl, trivial, by decide, rfl, trivial⟩ rfl trivial (.ren rfl rfl .nil) rfl BB1 rfl) ?_
 refine WPD.effS 4 [] [] rfl (by kernel_rfl) (s_store sz29 rfl rfl rfl rfl rfl) rfl ?_
 refine WPD.effS 5 [] [] rfl (by kernel_rfl) (s_store sz29 rfl rfl rfl rfl rfl) rfl ?_
 refine WPD.doneW (by kernel_rfl) ?_
 refine W.now ?_
 refine Then.n ?_
 refine WP.seq ?_
 refine WP.seq ?_
 obtain ⟨x26, H1, H⟩ := bnd H
 refine WP.monoW (Q := fun x E M => x = .normal ∧ E = (((Env.none.upd 2 (.ptr 0 0)).upd 3 (.ptr 1 0)).upd 16 (.lit (.bool x26))) ∧ M = ((Mem.nil.push (.cells 29 [.lit (.int .i64 x14), .lit (.int .i64 x15), .lit (.int .i64 x16), .lit (.string x17), .lit (.bool x18), .lit (.int .i64 x19)])).push (.cells 29 [.lit (.int .i64 x20), .lit (.int .i64 x21), .lit (.int .i64 x22), .lit (.string x23), .lit (.bool x24), .lit (.int .i64 x25)]))) ?_ ?_
 · clear H
   have H := H1
   clear H1
   refine WP.region ?_
   refine WPL.qq (q_fieldAddr fi29_0 rfl rfl) ?_
   refine WPL.qq (q_load sc3 rfl rfl rfl) ?_
   refine WPL.qq (q_eql rfl rfl) ?_
   refine WPL.qq (q_mv (v := .lit (.bool _)) rfl) ?_
   refine WPL.split (t := 12) (b := (decide (x14 = 4))) rfl (fun hb1 => ?_) (fun hb1 => ?_)
   · replace H := cnt hb1 H
     refine WPL.sg true rfl (lb hb1) ?_
     refine WPL.sg true rfl (lb hb1) ?_
     refine WPL.sg true rfl (lb hb1) ?_
     refine WPL.qq (q_pickT (v := .lit (.bool _)) (lb hb1) rfl) ?_
     refine WPL.nilW ?_
     have q0 := j1 H
     subst q0
     exact W.wk [0, 1] hnp r3 ⟨rfl, AA2, by decide, rfl, trivial⟩ (LeE.u (LeE.u (LeE.u (LeE.none rfl rfl)))) rfl
   replace H := cnf hb1 H
   refine WPL.gq rfl (lb hb1) (q_fieldAddr fi29_0 rfl rfl) ?_
   refine WPL.gq rfl (lb hb1) (q_load sc3 rfl rfl rfl) ?_
   refine WPL.gq rfl (lb hb1) (q_eql rfl rfl) ?_
   refine WPL.qq (q_pickF (v := .lit (.bool _)) (lb hb1) rfl) ?_
   refine WPL.nilW ?_
   have q0 := j1 H
   subst q0
   exact W.wk [0, 1] hnp r3 ⟨rfl, AA2, by decide, rfl, trivial⟩ (LeE.u (LeE.u (LeE.u (LeE.none rfl rfl)))) rfl
 rintro _ _ _ ⟨rfl, rfl, rfl⟩
 refine W.now ?_
 refine Then.n ?_
 refine WP.cond (t := x26) rfl (fun hb2 => ?_) (fun hb2 => ?_)
 · replace H := cnt hb2 H
   refine WP.sr ?_
   refine WPL.qq (q_as (v := .lit (.int _ _)) rfl) ?_
   refine WPL.nx ?_
   refine WP.retW ?_
   have q0 := j1 H
   subst q0
   exact W.now (Then.r (BodyR.mkR trivial rfl [] ⟨rfl, rfl⟩ ⟨rfl, trivial, by decide, rfl, trivial⟩ rfl rfl))
 replace H := cnf hb2 H
 refine WP.skipW ?_
 refine W.now ?_
 refine Then.n ?_
 refine WP.seq ?_
 refine WP.regionD' 8 [0, 1] [6] mixed rfl ?_
 refine WPD.take 0 rfl (by kernel_rfl) (q_load_ag ag29 rfl rfl (Nat.le_of_ble_eq_true rfl)) rfl rfl ?_
 refine WPD.take 1 rfl (by kernel_rfl) (q_load_ag ag29 rfl rfl (Nat.le_of_ble_eq_true rfl)) rfl rfl ?_
 refine WPD.take 3 rfl (by kernel_rfl) (q_load_ag ag29 rfl rfl (Nat.le_of_ble_eq_true rfl)) rfl rfl ?_
 refine WPD.take 4 rfl (by kernel_rfl) (q_load_ag ag29 rfl rfl (Nat.le_of_ble_eq_true rfl)) rfl rfl ?_
 obtain ⟨⟨x27, x28, x29, x30, x31, x32⟩, h3, H⟩ := bnd H
 refine WPD.ef 2 [0, 1] [6] rfl (runs_call (s := []) (t := [2]) (N := 3) (bor := []) fn54 rfl (s_val_beside k x14 x15 x16 x17 x18 x19 x20 x21 x22 x23 x24 x25 x27 x28 x29 x30 x31 x32 h3) ⟨rfl, trivial, by decide, rfl, trivial⟩ rfl trivial (.ren rfl rfl (.ren rfl rfl .nil)) rfl BB1 rfl) ?_
 obtain ⟨⟨x33, x34, x35, x36, x37, x38⟩, h4, H⟩ := bnd H
 refine WPD.ef 5 [0, 1] [6] rfl (runs_call (s := []) (t := [3]) (N := 4) (bor := []) fn54 rfl (s_val_beside k x20 x21 x22 x23 x24 x25 x14 x15 x16 x17 x18 x19 x33 x34 x35 x36 x37 x38 h4) ⟨rfl, trivial, by decide, rfl, trivial⟩ rfl trivial (.ren rfl rfl (.ren rfl rfl .nil)) rfl BB1 rfl) ?_
 refine WPD.effS 6 [] [] rfl (by kernel_rfl) (s_store sz29 rfl rfl rfl rfl rfl) rfl ?_
 refine WPD.effS 7 [] [] rfl (by kernel_rfl) (s_store sz29 rfl rfl rfl rfl rfl) rfl ?_
 refine WPD.doneW (by kernel_rfl) ?_
 refine W.now ?_
 refine Then.n ?_
 refine WP.seq ?_
 refine WP.regionD' 27 [0, 1] [] mixed rfl ?_
 refine WPD.tT 0 rfl (q_fieldAddr fi29_0 rfl rfl) ?_
 refine WPD.tT 2 rfl (q_fieldAddr fi29_0 rfl rfl) ?_
 refine WPD.tT 5 rfl (q_fieldAddr fi29_1 rfl rfl) ?_
 refine WPD.tT 7 rfl (q_fieldAddr fi29_1 rfl rfl) ?_
 refine WPD.tT 10 rfl (q_fieldAddr fi29_2 rfl rfl) ?_
 refine WPD.tT 13 rfl (q_fieldAddr fi29_2 rfl rfl) ?_
 refine WPD.tT 17 rfl (q_fieldAddr fi29_3 rfl rfl) ?_
 refine WPD.tT 20 rfl (q_fieldAddr fi29_3 rfl rfl) ?_
 refine WPD.take 1 rfl (by kernel_rfl) (q_load sc3 rfl rfl rfl) rfl rfl ?_
 refine WPD.take 3 rfl (by kernel_rfl) (q_load sc3 rfl rfl rfl) rfl rfl ?_
 refine WPD.take 6 rfl (by kernel_rfl) (q_load_ag ag23 rfl rfl (Nat.le_of_ble_eq_true rfl)) rfl rfl ?_
 refine WPD.take 8 rfl (by kernel_rfl) (q_load_ag ag23 rfl rfl (Nat.le_of_ble_eq_true rfl)) rfl rfl ?_
 refine WPD.take 11 rfl (by kernel_rfl) (q_load sc9 rfl rfl rfl) rfl rfl ?_
 refine WPD.take 14 rfl (by kernel_rfl) (q_load sc9 rfl rfl rfl) rfl rfl ?_
 refine WPD.take 18 rfl (by kernel_rfl) (q_load sc4 rfl rfl rfl) rfl rfl ?_
 refine WPD.take 21 rfl (by kernel_rfl) (q_load sc4 rfl rfl rfl) rfl rfl ?_
 obtain ⟨x39, h5, H⟩ := bnd H
 refine WPD.ef 4 [0, 1] [] rfl (runs_call (s := []) (t := []) (N := 4) (bor := []) fn56 rfl (s_cmp_Compare_int k x27 x33 x39 h5) ⟨rfl, trivial, by decide, rfl, trivial⟩ rfl trivial (.ren rfl rfl (.ren rfl rfl .nil)) rfl trivial rfl) ?_
 obtain ⟨x40, h6, H⟩ := bnd H
 refine WPD.ef 9 [0, 1] [] rfl (runs_call (s := []) (t := []) (N := 4) (bor := []) fn57 rfl (s_dec_Cmp k x28 x29 x34 x35 x40 h6) ⟨rfl, trivial, by decide, rfl, trivial⟩ rfl trivial (.ren rfl rfl (.ren rfl rfl .nil)) rfl trivial rfl) ?_
 obtain ⟨x41, h7, H⟩ := bnd H
 refine WPD.ef 12 [0, 1] [] rfl (runs_call (s := []) (t := []) (N := 4) (bor := []) fn59 rfl (s_utf_Lower k x30 x41 h7) ⟨rfl, trivial, by decide, rfl, trivial⟩ rfl trivial (.ren rfl rfl .nil) rfl trivial rfl) ?_
 obtain ⟨x42, h8, H⟩ := bnd H
 refine WPD.ef 15 [0, 1] [] rfl (runs_call (s := []) (t := []) (N := 4) (bor := []) fn59 rfl (s_utf_Lower k x36 x42 h8) ⟨rfl, trivial, by decide, rfl, trivial⟩ rfl trivial (.ren rfl rfl .nil) rfl trivial rfl) ?_
 obtain ⟨x43, h9, H⟩ := bnd H
 refine WPD.ef 16 [0, 1] [] rfl (runs_call (s := []) (t := []) (N := 4) (bor := []) fn58 rfl (s_cmp_Compare_string k x41 x42 x43 h9) ⟨rfl, trivial, by decide, rfl, trivial⟩ rfl trivial (.ren rfl rfl (.ren rfl rfl .nil)) rfl trivial rfl) ?_
 obtain ⟨x44, h10, H⟩ := bnd H
 refine WPD.ef 19 [0, 1] [] rfl (runs_call (s := []) (t := []) (N := 4) (bor := []) fn60 rfl (s_val_ones k x31 x44 h10) ⟨rfl, trivial, by decide, rfl, trivial⟩ rfl trivial (.ren rfl rfl .nil) rfl trivial rfl) ?_
 obtain ⟨x45, h11, H⟩ := bnd H
 refine WPD.ef 22 [0, 1] [] rfl (runs_call (s := []) (t := []) (N := 4) (bor := []) fn60 rfl (s_val_ones k x37 x45 h11) ⟨rfl, trivial, by decide, rfl, trivial⟩ rfl trivial (.ren rfl rfl .nil) rfl trivial rfl) ?_
 obtain ⟨x46, h12, H⟩ := bnd H
 refine WPD.ef 23 [0, 1] [] rfl (runs_call (s := []) (t := []) (N := 4) (bor := []) fn56 rfl (s_cmp_Compare_int k x44 x45 x46 h12) ⟨rfl, trivial, by decide, rfl, trivial⟩ rfl trivial (.ren rfl rfl (.ren rfl rfl .nil)) rfl trivial rfl) ?_
 refine WPD.ef 24 [0, 1] [] rfl (Does.runs (d_buildSlice (ds := ([x39, x40, x43, x46] : List Int)) (R := (Rd.int .i64)) li76 rfl rfl rfl rfl rfl (JoinRows.cons1 Joins.sc rfl (JoinRows.cons1 Joins.sc rfl (JoinRows.cons1 Joins.sc rfl (JoinRows.cons1 Joins.sc rfl JoinRows.nil)))) rfl rfl)) ?_
 obtain ⟨x47, h13, H⟩ := bnd H
 refine WPD.ef 25 [0, 1] [] rfl (runs_call (s := []) (t := []) (N := 5) (bor := [4]) fn55 rfl (s_cmp_Or_int k ([x39, x40, x43, x46] : List Int) x47 h13) ⟨rfl, trivial, by decide, rfl, trivial⟩ rfl ⟨trivial, rfl, rfl, trivial⟩ (.row rfl rfl .nil) rfl trivial rfl) ?_
 refine WPD.tT 26 rfl (q_as (v := .lit (.int _ _)) rfl) ?_
 refine WPD.doneW (by kernel_rfl) ?_
 refine W.now ?_
 refine Then.n ?_
 refine WP.retW ?_
 have q0 := j1 H
 subst q0
 exact W.now (BodyR.mkR trivial rfl [] ⟨rfl, rfl⟩ ⟨rfl, trivial, by decide, rfl, trivial⟩ rfl rfl)
theorem s_val_Bin (k : Nat) (x1 : Int) (x2 : Int) (x3 : Int) (x4 : Int) (x5 : ByteArray) (x6 : Bool) (x7 : Int) (x8 : Int) (x9 : Int) (x10 : Int) (x11 : ByteArray) (x12 : Bool) (x13 : Int) (x14 : Int) (x15 : Int) (x16 : Int) (x17 : ByteArray) (x18 : Bool) (x19 : Int) (H : g_val_Bin k x1 x2 x3 x4 x5 x6 x7 x8 x9 x10 x11 x12 x13 = some (x14, x15, x16, x17, x18, x19)) : Go.Q.Spec Tryz.prog 28 0 [.lit (.int .i64 x1), .agg [.lit (.int .i64 x2), .lit (.int .i64 x3), .lit (.int .i64 x4), .lit (.string x5), .lit (.bool x6), .lit (.int .i64 x7)], .agg [.lit (.int .i64 x8), .lit (.int .i64 x9), .lit (.int .i64 x10), .lit (.string x11), .lit (.bool x12), .lit (.int .i64 x13)]] Mem.nil (fun o M => o = .ret (.agg [.lit (.int .i64 x14), .lit (.int .i64 x15), .lit (.int .i64 x16), .lit (.string x17), .lit (.bool x18), .lit (.int .i64 x19)]) ∧ M = (Mem.nil.push (.cells 29 [.lit (.int .i64 x14), .lit (.int .i64 x15), .lit (.int .i64 x16), .lit (.string x17), .lit (.bool x18), .lit (.int .i64 x19)]))) := by
 unfold g_val_Bin at H
 refine Go.Q.Spec.of_bodyR (az := [(29, 6)]) (rs := [.cell 6 29]) (nt := 102) Tryz.func28 rfl rfl (by intro t T h; simp at h; rcases h with ⟨rfl, rfl⟩ <;> first | exact ag29) rfl rfl fun cx hnp => ?_
 refine WP.sr ?_
 refine WPL.d (d_box rfl rfl) rfl ?_
 refine WPL.d (d_box rfl rfl) rfl ?_
 refine WPL.d (d_alloc ze29 rfl) rfl ?_
 refine WPL.nx ?_
 refine WP.seq ?_
 refine WP.regionD' 6 [0, 1] [4] mixed rfl ?_
 refine WPD.take 0 rfl (by kernel_rfl) (q_load_ag ag29 rfl rfl (Nat.le_of_ble_eq_true rfl)) rfl rfl ?_
 refine WPD.take 2 rfl (by kernel_rfl) (q_load_ag ag29 rfl rfl (Nat.le_of_ble_eq_true rfl)) rfl rfl ?_
 obtain ⟨⟨x20, x21, x22, x23, x24, x25⟩, h1, H⟩ := bnd H
 refine WPD.ef 1 [0, 1] [4] rfl (runs_call (s := []) (t := [3]) (N := 4) (bor := []) fn53 rfl (s_val_clean k x2 x3 x4 x5 x6 x7 x20 x21 x22 x23 x24 x25 h1) ⟨rfl, trivial, by decide, rfl, trivial⟩ rfl trivial (.ren rfl rfl .nil) rfl BB1 rfl) ?_
 obtain ⟨⟨x26, x27, x28, x29, x30, x31⟩, h2, H⟩ := bnd H
 refine WPD.ef 3 [0, 1] [4] rfl (runs_call (s := []) (t := [4]) (N := 5) (bor := []) fn53 rfl (s_val_clean k x8 x9 x10 x11 x12 x13 x26 x27 x28 x29 x30 x31 h2) ⟨rfl, trivial, by decide, rfl, trivial⟩ rfl trivial (.ren rfl rfl .nil) rfl BB1 rfl) ?_
 refine WPD.effS 4 [] [] rfl (by kernel_rfl) (s_store sz29 rfl rfl rfl rfl rfl) rfl ?_
 refine WPD.effS 5 [] [] rfl (by kernel_rfl) (s_store sz29 rfl rfl rfl rfl rfl) rfl ?_
 refine WPD.doneW (by kernel_rfl) ?_
 refine W.now ?_
 refine Then.n ?_
 refine WP.seq ?_
 obtain ⟨⟨x32, x33, x34, x35, x36, x37, x38, x39, x40, x41, x42, x43⟩, H1, H⟩ := bnd H
 refine WP.monoW (Q := fun x E M => x = .normal ∧ E = ((((Env.none.upd 0 (.lit (.int .i64 x1))).upd 4 (.ptr 0 0)).upd 5 (.ptr 1 0)).upd 6 (.ptr 2 0)) ∧ M = (((Mem.nil.push (.cells 29 [.lit (.int .i64 x32), .lit (.int .i64 x33), .lit (.int .i64 x34), .lit (.string x35), .lit (.bool x36), .lit (.int .i64 x37)])).push (.cells 29 [.lit (.int .i64 x38), .lit (.int .i64 x39), .lit (.int .i64 x40), .lit (.string x41), .lit (.bool x42), .lit (.int .i64 x43)])).push (.cells 29 [.lit (.int .i64 0), .lit (.int .i64 0), .lit (.int .i64 0), .lit (.string (ByteArray.mk #[])), .lit (.bool false), .lit (.int .i64 0)]))) ?_ ?_
 · clear H
   have H := H1
   clear H1
   refine WP.seq ?_
   obtain ⟨x44, H2, H⟩ := bnd H
   refine WP.monoW (Q := fun x E M => x = .normal ∧ E = (((((Env.none.upd 0 (.lit (.int .i64 x1))).upd 4 (.ptr 0 0)).upd 5 (.ptr 1 0)).upd 6 (.ptr 2 0)).upd 27 (.lit (.bool x44))) ∧ M = (((Mem.nil.push (.cells 29 [.lit (.int .i64 x20), .lit (.int .i64 x21), .lit (.int .i64 x22), .lit (.string x23), .lit (.bool x24), .lit (.int .i64 x25)])).push (.cells 29 [.lit (.int .i64 x26), .lit (.int .i64 x27), .lit (.int .i64 x28), .lit (.string x29), .lit (.bool x30), .lit (.int .i64 x31)])).push (.cells 29 [.lit (.int .i64 0), .lit (.int .i64 0), .lit (.int .i64 0), .lit (.string (ByteArray.mk #[])), .lit (.bool false), .lit (.int .i64 0)]))) ?_ ?_
   · clear H
     have H := H2
     clear H2
     refine WP.region ?_
     refine WPL.qq (q_mv (v := .lit (.int _ _)) rfl) ?_
     refine WPL.qq (q_geq rfl rfl) ?_
     refine WPL.qq (q_mv (v := .lit (.bool _)) rfl) ?_
     refine WPL.split (t := 14) (b := (decide (1 ≤ x1))) rfl (fun hb1 => ?_) (fun hb1 => ?_)
     · replace H := cnt hb1 H
       refine WPL.gq rfl (lb hb1) (q_mv (v := .lit (.int _ _)) rfl) ?_
       refine WPL.gq rfl (lb hb1) (q_leq rfl rfl) ?_
       refine WPL.qq (q_pickT (v := .lit (.bool _)) (lb hb1) rfl) ?_
       refine WPL.qq (q_mv (v := .lit (.bool _)) rfl) ?_
       refine WPL.split (t := 18) (b := (decide (x1 ≤ 5))) rfl (fun hb2 => ?_) (fun hb2 => ?_)
       · replace H := cnt hb2 H
         refine WPL.gq rfl (lb hb2) (q_fieldAddr fi29_0 rfl rfl) ?_
         refine WPL.gq rfl (lb hb2) (q_load sc3 rfl rfl rfl) ?_
         refine WPL.gq rfl (lb hb2) (q_neq rfl rfl) ?_
         refine WPL.qq (q_pickT (v := .lit (.bool _)) (lb hb2) rfl) ?_
         refine WPL.qq (q_mv (v := .lit (.bool _)) rfl) ?_
         refine WPL.split (t := 23) (b := (!decide (x20 = 4))) rfl (fun hb3 => ?_) (fun hb3 => ?_)
         · replace H := cnt hb3 H
           refine WPL.gq rfl (lb hb3) (q_fieldAddr fi29_0 rfl rfl) ?_
           refine WPL.gq rfl (lb hb3) (q_load sc3 rfl rfl rfl) ?_
           refine WPL.gq rfl (lb hb3) (q_neq rfl rfl) ?_
           refine WPL.qq (q_pickT (v := .lit (.bool _)) (lb hb3) rfl) ?_
           refine WPL.nilW ?_
           have q0 := j1 H
           subst q0
           exact W.wk [0, 1, 2] hnp r3 ⟨rfl, AA3, by decide, rfl, trivial⟩ (LeE.u (LeE.u (LeE.u (LeE.u (LeE.u (LeE.none rfl rfl)))))) rfl
         replace H := cnf hb3 H
         refine WPL.sg false rfl (lb hb3) ?_
         refine WPL.sg false rfl (lb hb3) ?_
         refine WPL.sg false rfl (lb hb3) ?_
         refine WPL.qq (q_pickF (v := .lit (.bool _)) (lb hb3) rfl) ?_
         refine WPL.nilW ?_
         have q0 := j1 H
         subst q0
         exact W.wk [0, 1, 2] hnp r3 ⟨rfl, AA3, by decide, rfl, trivial⟩ (LeE.u (LeE.u (LeE.u (LeE.u (LeE.u (LeE.none rfl rfl)))))) rfl
       replace H := cnf hb2 H
       refine WPL.sg false rfl (lb hb2) ?_
       refine WPL.sg false rfl (lb hb2) ?_
       refine WPL.sg false rfl (lb hb2) ?_
       refine WPL.qq (q_pickF (v := .lit (.bool _)) (lb hb2) rfl) ?_
       refine WPL.qq (q_mv (v := .lit (.bool _)) rfl) ?_
       refine WPL.sg false rfl rfl ?_
       refine WPL.sg false rfl rfl ?_
       refine WPL.sg false rfl rfl ?_
       refine WPL.qq (q_pickF (v := .lit (.bool _)) rfl rfl) ?_
       refine WPL.nilW ?_
       have q0 := j1 H
       subst q0
       exact W.wk [0, 1, 2] hnp r3 ⟨rfl, AA3, by decide, rfl, trivial⟩ (LeE.u (LeE.u (LeE.u (LeE.u (LeE.u (LeE.none rfl rfl)))))) rfl
     replace H := cnf hb1 H
     refine WPL.sg false rfl (lb hb1) ?_
     refine WPL.sg false rfl (lb hb1) ?_
     refine WPL.qq (q_pickF (v := .lit (.bool _)) (lb hb1) rfl) ?_
     refine WPL.qq (q_mv (v := .lit (.bool _)) rfl) ?_
     refine WPL.sg false rfl rfl ?_
     refine WPL.sg false rfl rfl ?_
     refine WPL.sg false rfl rfl ?_
     refine WPL.qq (q_pickF (v := .lit (.bool _)) rfl rfl) ?_
     refine WPL.qq (q_mv (v := .lit (.bool _)) rfl) ?_
     refine WPL.sg false rfl rfl ?_
     refine WPL.sg false rfl rfl ?_
     refine WPL.sg false rfl rfl ?_
     refine WPL.qq (q_pickF (v := .lit (.bool _)) rfl rfl) ?_
     refine WPL.nilW ?_
     have q0 := j1 H
     subst q0
     exact W.wk [0, 1, 2] hnp r3 ⟨rfl, AA3, by decide, rfl, trivial⟩ (LeE.u (LeE.u (LeE.u (LeE.u (LeE.u (LeE.none rfl rfl)))))) rfl
   rintro _ _ _ ⟨rfl, rfl, rfl⟩
   refine W.now ?_
   refine Then.n ?_
   refine WP.cond (t := x44) rfl (fun hb4 => ?_) (fun hb4 => ?_)
   · replace H := cnt hb4 H
     refine WP.regionD' 6 [0, 1] [4] mixed rfl ?_
     refine WPD.take 0 rfl (by kernel_rfl) (q_load_ag ag29 rfl rfl (Nat.le_of_ble_eq_true rfl)) rfl rfl ?_
     refine WPD.take 2 rfl (by kernel_rfl) (q_load_ag ag29 rfl rfl (Nat.le_of_ble_eq_true rfl)) rfl rfl ?_
     obtain ⟨⟨x45, x46, x47, x48, x49, x50⟩, h3, H⟩ := bnd H
     refine WPD.ef 1 [0, 1] [4] rfl (runs_call (s := []) (t := [3]) (N := 4) (bor := []) fn36 rfl (s_val_Num k x20 x21 x22 x23 x24 x25 x45 x46 x47 x48 x49 x50 h3) ⟨rfl, trivial, by decide, rfl, trivial⟩ rfl trivial (.ren rfl rfl .nil) rfl BB1 rfl) ?_
     obtain ⟨⟨x51, x52, x53, x54, x55, x56⟩, h4, H⟩ := bnd H
     refine WPD.ef 3 [0, 1] [4] rfl (runs_call (s := []) (t := [4]) (N := 5) (bor := []) fn36 rfl (s_val_Num k x26 x27 x28 x29 x30 x31 x51 x52 x53 x54 x55 x56 h4) ⟨rfl, trivial, by decide, rfl, trivial⟩ rfl trivial (.ren rfl rfl .nil) rfl BB1 rfl) ?_
     refine WPD.effS 4 [] [] rfl (by kernel_rfl) (s_store sz29 rfl rfl rfl rfl rfl) rfl ?_
     refine WPD.effS 5 [] [] rfl (by kernel_rfl) (s_store sz29 rfl rfl rfl rfl rfl) rfl ?_
     refine WPD.doneW (by kernel_rfl) ?_
     obtain ⟨rfl, rfl, rfl, rfl, rfl, rfl, rfl, rfl, rfl, rfl, rfl, rfl⟩ := j12 H
     exact W.wk [0, 1, 2] hnp r3 ⟨rfl, AA3, by decide, rfl, trivial⟩ (LeE.u (LeE.u (LeE.u (LeE.u (LeE.none rfl rfl))))) rfl
   replace H := cnf hb4 H
   refine WP.skipW ?_
   obtain ⟨rfl, rfl, rfl, rfl, rfl, rfl, rfl, rfl, rfl, rfl, rfl, rfl⟩ := j12 H
   exact W.wk [0, 1, 2] hnp r3 ⟨rfl, AA3, by decide, rfl, trivial⟩ (LeE.u (LeE.u (LeE.u (LeE.u (LeE.none rfl rfl))))) rfl
 rintro _ _ _ ⟨rfl, rfl, rfl⟩
 refine W.now ?_
 refine Then.n ?_
 refine WP.seq ?_
 refine WP.block ?_
 refine WP.sr ?_
 refine WPL.qq (q_fieldAddr fi29_0 rfl rfl) ?_
 refine WPL.qq (q_load sc3 rfl rfl rfl) ?_
 refine WPL.qq (q_eql rfl rfl) ?_
 refine WPL.qq (q_as (v := .lit (.bool _)) rfl) ?_
 refine WPL.nx ?_
 refine WP.cond (t := (decide (x32 = 4))) rfl (fun hb5 => ?_) (fun hb5 => ?_)
 · replace H := cnt hb5 H
   refine WP.sr ?_
   refine WPL.qq (q_load_ag ag29 rfl rfl (Nat.le_of_ble_eq_true rfl)) ?_
   refine WPL.s (s_store sz29 rfl rfl rfl rfl rfl) ?_
   refine WPL.nx ?_
   refine WP.retW ?_
   obtain ⟨rfl, rfl, rfl, rfl, rfl, rfl⟩ := j6 H
   exact W.now (InBlock.r (Then.r (BodyR.mkR trivial rfl [2] ⟨rfl, rfl⟩ ⟨rfl, AA1, by decide, rfl, trivial⟩ rfl rfl)))
 replace H := cnf hb5 H
 refine WP.sr ?_
 refine WPL.qq (q_fieldAddr fi29_0 rfl rfl) ?_
 refine WPL.qq (q_load sc3 rfl rfl rfl) ?_
 refine WPL.qq (q_eql rfl rfl) ?_
 refine WPL.qq (q_as (v := .lit (.bool _)) rfl) ?_
 refine WPL.nx ?_
 refine WP.cond (t := (decide (x38 = 4))) rfl (fun hb6 => ?_) (fun hb6 => ?_)
 · replace H := cnt hb6 H
   refine WP.sr ?_
   refine WPL.qq (q_load_ag ag29 rfl rfl (Nat.le_of_ble_eq_true rfl)) ?_
   refine WPL.s (s_store sz29 rfl rfl rfl rfl rfl) ?_
   refine WPL.nx ?_
   refine WP.retW ?_
   obtain ⟨rfl, rfl, rfl, rfl, rfl, rfl⟩ := j6 H
   exact W.now (InBlock.r (Then.r (BodyR.mkR trivial rfl [2] ⟨rfl, rfl⟩ ⟨rfl, AA1, by decide, rfl, trivial⟩ rfl rfl)))
 replace H := cnf hb6 H
 refine WP.seq ?_
 obtain ⟨x57, H3, H⟩ := bnd H
 refine WP.monoW (Q := fun x E M => x = .normal ∧ E = (((((Env.none.upd 0 (.lit (.int .i64 x1))).upd 4 (.ptr 0 0)).upd 5 (.ptr 1 0)).upd 6 (.ptr 2 0)).upd 42 (.lit (.bool x57))) ∧ M = (((Mem.nil.push (.cells 29 [.lit (.int .i64 x32), .lit (.int .i64 x33), .lit (.int .i64 x34), .lit (.string x35), .lit (.bool x36), .lit (.int .i64 x37)])).push (.cells 29 [.lit (.int .i64 x38), .lit (.int .i64 x39), .lit (.int .i64 x40), .lit (.string x41), .lit (.bool x42), .lit (.int .i64 x43)])).push (.cells 29 [.lit (.int .i64 0), .lit (.int .i64 0), .lit (.int .i64 0), .lit (.string (ByteArray.mk #[])), .lit (.bool false), .lit (.int .i64 0)]))) ?_ ?_
 · clear H
   have H := H3
   clear H3
   refine WP.region ?_
   refine WPL.qq (q_mv (v := .lit (.int _ _)) rfl) ?_
   refine WPL.qq (q_geq rfl rfl) ?_
   refine WPL.qq (q_mv (v := .lit (.bool _)) rfl) ?_
   refine WPL.split (t := 45) (b := (decide (1 ≤ x1))) rfl (fun hb7 => ?_) (fun hb7 => ?_)
   · replace H := cnt hb7 H
     refine WPL.gq rfl (lb hb7) (q_mv (v := .lit (.int _ _)) rfl) ?_
     refine WPL.gq rfl (lb hb7) (q_leq rfl rfl) ?_
     refine WPL.qq (q_pickT (v := .lit (.bool _)) (lb hb7) rfl) ?_
     refine WPL.qq (q_as (v := .lit (.bool _)) rfl) ?_
     refine WPL.nilW ?_
     have q0 := j1 H
     subst q0
     exact W.wk [0, 1, 2] hnp r3 ⟨rfl, AA3, by decide, rfl, trivial⟩ (LeE.u (LeE.u (LeE.u (LeE.u (LeE.u (LeE.none rfl rfl)))))) rfl
   replace H := cnf hb7 H
   refine WPL.sg false rfl (lb hb7) ?_
   refine WPL.sg false rfl (lb hb7) ?_
   refine WPL.qq (q_pickF (v := .lit (.bool _)) (lb hb7) rfl) ?_
   refine WPL.qq (q_as (v := .lit (.bool _)) rfl) ?_
   refine WPL.nilW ?_
   have q0 := j1 H
   subst q0
   exact W.wk [0, 1, 2] hnp r3 ⟨rfl, AA3, by decide, rfl, trivial⟩ (LeE.u (LeE.u (LeE.u (LeE.u (LeE.u (LeE.none rfl rfl)))))) rfl
 rintro _ _ _ ⟨rfl, rfl, rfl⟩
 refine W.now ?_
 refine Then.n ?_
 refine WP.cond (t := x57) rfl (fun hb8 => ?_) (fun hb8 => ?_)
 · replace H := cnt hb8 H
   refine WP.sr ?_
   refine WPL.qq (q_mv (v := .lit (.int _ _)) rfl) ?_
   refine WPL.qq (q_fieldAddr fi29_1 rfl rfl) ?_
   refine WPL.qq (q_load_ag ag23 rfl rfl (Nat.le_of_ble_eq_true rfl)) ?_
   refine WPL.qq (q_fieldAddr fi29_1 rfl rfl) ?_
   refine WPL.qq (q_load_ag ag23 rfl rfl (Nat.le_of_ble_eq_true rfl)) ?_
   obtain ⟨⟨x58, x59, x60⟩, h5, H⟩ := bnd H
   refine WPL.c (runs_call (s := []) (t := [3]) (N := 4) (bor := []) fn62 rfl (s_val_sum k x1 x33 x34 x39 x40 x58 x59 x60 h5) ⟨rfl, trivial, by decide, rfl, trivial⟩ rfl trivial (.ren rfl rfl (.ren rfl rfl (.ren rfl rfl .nil))) rfl BB1 rfl) rfl ?_
   refine WPL.qq (q_extract rfl rfl) ?_
   refine WPL.qq (q_extract rfl rfl) ?_
   obtain ⟨⟨x61, x62, x63, x64⟩, h6, H⟩ := bnd H
   refine WPL.c (runs_call (s := []) (t := [4]) (N := 5) (bor := []) fn12 rfl (s_val_Of k x59 x60 x58 x61 x62 x63 x64 h6) ⟨rfl, trivial, by decide, rfl, trivial⟩ rfl trivial (.ren rfl rfl (.ren rfl rfl .nil)) rfl BB1 rfl) rfl ?_
   refine WPL.s (s_store sz29 rfl rfl rfl rfl rfl) ?_
   refine WPL.nx ?_
   refine WP.retW ?_
   obtain ⟨rfl, rfl, rfl, rfl, rfl, rfl⟩ := j6 H
   exact W.now (InBlock.r (Then.r (BodyR.mkR trivial rfl [2] ⟨rfl, rfl⟩ ⟨rfl, AA1, by decide, rfl, trivial⟩ rfl rfl)))
 replace H := cnf hb8 H
 refine WP.sr ?_
 refine WPL.qq (q_mv (v := .lit (.int _ _)) rfl) ?_
 refine WPL.qq (q_eql rfl rfl) ?_
 refine WPL.qq (q_as (v := .lit (.bool _)) rfl) ?_
 refine WPL.nx ?_
 refine WP.cond (t := (decide (x1 = 6))) rfl (fun hb9 => ?_) (fun hb9 => ?_)
 · replace H := cnt hb9 H
   refine WP.seq ?_
   refine WP.regionD' 7 [0, 1] [] mixed rfl ?_
   refine WPD.take 0 rfl (by kernel_rfl) (q_load_ag ag29 rfl rfl (Nat.le_of_ble_eq_true rfl)) rfl rfl ?_
   refine WPD.take 2 rfl (by kernel_rfl) (q_load_ag ag29 rfl rfl (Nat.le_of_ble_eq_true rfl)) rfl rfl ?_
   obtain ⟨x65, h7, H⟩ := bnd H
   refine WPD.ef 1 [0, 1] [] rfl (runs_call (s := []) (t := []) (N := 3) (bor := []) fn27 rfl (s_val_Show k x32 x33 x34 x35 x36 x37 x65 h7) ⟨rfl, trivial, by decide, rfl, trivial⟩ rfl trivial (.ren rfl rfl .nil) rfl trivial rfl) ?_
   obtain ⟨x66, h8, H⟩ := bnd H
   refine WPD.ef 3 [0, 1] [] rfl (runs_call (s := []) (t := []) (N := 3) (bor := []) fn27 rfl (s_val_Show k x38 x39 x40 x41 x42 x43 x66 h8) ⟨rfl, trivial, by decide, rfl, trivial⟩ rfl trivial (.ren rfl rfl .nil) rfl trivial rfl) ?_
   obtain ⟨h9, H⟩ := grd H
   refine WPD.tT 4 rfl (q_concat rfl rfl h9) ?_
   obtain ⟨⟨x67, x68, x69⟩, h10, H⟩ := bnd H
   refine WPD.ef 5 [0, 1] [] rfl (runs_call (s := []) (t := [3]) (N := 4) (bor := []) fn14 rfl (s_val_Str k (x65 ++ x66) x67 x68 x69 h10) ⟨rfl, trivial, by decide, rfl, trivial⟩ rfl trivial (.ren rfl rfl .nil) rfl BB1 rfl) ?_
   refine WPD.effS 6 [0, 1] [] rfl (by kernel_rfl) (s_store sz29 rfl rfl rfl rfl rfl) rfl ?_
   refine WPD.doneW (by kernel_rfl) ?_
   refine W.now ?_
   refine Then.n ?_
   refine WP.retW ?_
   obtain ⟨rfl, rfl, rfl, rfl, rfl, rfl⟩ := j6 H
   exact W.now (InBlock.r (Then.r (BodyR.mkR trivial rfl [2] ⟨rfl, rfl⟩ ⟨rfl, AA1, by decide, rfl, trivial⟩ rfl rfl)))
 replace H := cnf hb9 H
 refine WP.skipW ?_
 refine W.now ?_
 refine InBlock.n ?_
 refine Then.n ?_
 refine WP.sr ?_
 refine WPL.qq (q_load_ag ag29 rfl rfl (Nat.le_of_ble_eq_true rfl)) ?_
 refine WPL.qq (q_load_ag ag29 rfl rfl (Nat.le_of_ble_eq_true rfl)) ?_
 obtain ⟨x70, h11, H⟩ := bnd H
 refine WPL.c (runs_call (s := []) (t := []) (N := 3) (bor := []) fn26 rfl (s_val_Cmp k x32 x33 x34 x35 x36 x37 x38 x39 x40 x41 x42 x43 x70 h11) ⟨rfl, trivial, by decide, rfl, trivial⟩ rfl trivial (.ren rfl rfl (.ren rfl rfl .nil)) rfl trivial rfl) rfl ?_
 refine WPL.qq (q_as (v := .lit (.int _ _)) rfl) ?_
 refine WPL.nx ?_
 refine WP.seq ?_
 refine WP.sr ?_
 refine WPL.qq (q_mv (v := .lit (.int _ _)) rfl) ?_
 refine WPL.nx ?_
 refine WP.block ?_
 refine WP.sr ?_
 refine WPL.qq (q_eql rfl rfl) ?_
 refine WPL.qq (q_as (v := .lit (.bool _)) rfl) ?_
 refine WPL.nx ?_
 refine WP.cond (t := (decide (x1 = 7))) rfl (fun hb10 => ?_) (fun hb10 => ?_)
 · replace H := cnt hb10 H
   refine WP.sr ?_
   refine WPL.qq (q_mv (v := .lit (.int _ _)) rfl) ?_
   refine WPL.qq (q_eql rfl rfl) ?_
   obtain ⟨_, h12, H⟩ := bnd H
   refine WPL.c (runs_call (s := []) (t := [3]) (N := 4) (bor := []) fn21 rfl (s_val_Truth k (decide (x70 = 0)) h12) ⟨rfl, trivial, by decide, rfl, trivial⟩ rfl trivial (.ren rfl rfl .nil) rfl BB1 rfl) rfl ?_
   refine WPL.s (s_store sz29 rfl rfl rfl rfl rfl) ?_
   refine WPL.nx ?_
   refine WP.retW ?_
   obtain ⟨rfl, rfl, rfl, rfl, rfl, rfl⟩ := j6 H
   exact W.now (InBlock.r (Then.r (BodyR.mkR trivial rfl [2] ⟨rfl, rfl⟩ ⟨rfl, AA1, by decide, rfl, trivial⟩ rfl rfl)))
 replace H := cnf hb10 H
 refine WP.sr ?_
 refine WPL.qq (q_eql rfl rfl) ?_
 refine WPL.qq (q_as (v := .lit (.bool _)) rfl) ?_
 refine WPL.nx ?_
 refine WP.cond (t := (decide (x1 = 8))) rfl (fun hb11 => ?_) (fun hb11 => ?_)
 · replace H := cnt hb11 H
   refine WP.sr ?_
   refine WPL.qq (q_mv (v := .lit (.int _ _)) rfl) ?_
   refine WPL.qq (q_neq rfl rfl) ?_
   obtain ⟨_, h13, H⟩ := bnd H
   refine WPL.c (runs_call (s := []) (t := [3]) (N := 4) (bor := []) fn21 rfl (s_val_Truth k (!decide (x70 = 0)) h13) ⟨rfl, trivial, by decide, rfl, trivial⟩ rfl trivial (.ren rfl rfl .nil) rfl BB1 rfl) rfl ?_
   refine WPL.s (s_store sz29 rfl rfl rfl rfl rfl) ?_
   refine WPL.nx ?_
   refine WP.retW ?_
   obtain ⟨rfl, rfl, rfl, rfl, rfl, rfl⟩ := j6 H
   exact W.now (InBlock.r (Then.r (BodyR.mkR trivial rfl [2] ⟨rfl, rfl⟩ ⟨rfl, AA1, by decide, rfl, trivial⟩ rfl rfl)))
 replace H := cnf hb11 H
 refine WP.sr ?_
 refine WPL.qq (q_eql rfl rfl) ?_
 refine WPL.qq (q_as (v := .lit (.bool _)) rfl) ?_
 refine WPL.nx ?_
 refine WP.cond (t := (decide (x1 = 9))) rfl (fun hb12 => ?_) (fun hb12 => ?_)
 · replace H := cnt hb12 H
   refine WP.sr ?_
   refine WPL.qq (q_mv (v := .lit (.int _ _)) rfl) ?_
   refine WPL.qq (q_lss rfl rfl) ?_
   obtain ⟨_, h14, H⟩ := bnd H
   refine WPL.c (runs_call (s := []) (t := [3]) (N := 4) (bor := []) fn21 rfl (s_val_Truth k (decide (x70 < 0)) h14) ⟨rfl, trivial, by decide, rfl, trivial⟩ rfl trivial (.ren rfl rfl .nil) rfl BB1 rfl) rfl ?_
   refine WPL.s (s_store sz29 rfl rfl rfl rfl rfl) ?_
   refine WPL.nx ?_
   refine WP.retW ?_
   obtain ⟨rfl, rfl, rfl, rfl, rfl, rfl⟩ := j6 H
   exact W.now (InBlock.r (Then.r (BodyR.mkR trivial rfl [2] ⟨rfl, rfl⟩ ⟨rfl, AA1, by decide, rfl, trivial⟩ rfl rfl)))
 replace H := cnf hb12 H
 refine WP.sr ?_
 refine WPL.qq (q_eql rfl rfl) ?_
 refine WPL.qq (q_as (v := .lit (.bool _)) rfl) ?_
 refine WPL.nx ?_
 refine WP.cond (t := (decide (x1 = 10))) rfl (fun hb13 => ?_) (fun hb13 => ?_)
 · replace H := cnt hb13 H
   refine WP.sr ?_
   refine WPL.qq (q_mv (v := .lit (.int _ _)) rfl) ?_
   refine WPL.qq (q_leq rfl rfl) ?_
   obtain ⟨_, h15, H⟩ := bnd H
   refine WPL.c (runs_call (s := []) (t := [3]) (N := 4) (bor := []) fn21 rfl (s_val_Truth k (decide (x70 ≤ 0)) h15) ⟨rfl, trivial, by decide, rfl, trivial⟩ rfl trivial (.ren rfl rfl .nil) rfl BB1 rfl) rfl ?_
   refine WPL.s (s_store sz29 rfl rfl rfl rfl rfl) ?_
   refine WPL.nx ?_
   refine WP.retW ?_
   obtain ⟨rfl, rfl, rfl, rfl, rfl, rfl⟩ := j6 H
   exact W.now (InBlock.r (Then.r (BodyR.mkR trivial rfl [2] ⟨rfl, rfl⟩ ⟨rfl, AA1, by decide, rfl, trivial⟩ rfl rfl)))
 replace H := cnf hb13 H
 refine WP.sr ?_
 refine WPL.qq (q_eql rfl rfl) ?_
 refine WPL.qq (q_as (v := .lit (.bool _)) rfl) ?_
 refine WPL.nx ?_
 refine WP.cond (t := (decide (x1 = 11))) rfl (fun hb14 => ?_) (fun hb14 => ?_)
 · replace H := cnt hb14 H
   refine WP.sr ?_
   refine WPL.qq (q_mv (v := .lit (.int _ _)) rfl) ?_
   refine WPL.qq (q_gtr rfl rfl) ?_
   obtain ⟨_, h16, H⟩ := bnd H
   refine WPL.c (runs_call (s := []) (t := [3]) (N := 4) (bor := []) fn21 rfl (s_val_Truth k (decide (0 < x70)) h16) ⟨rfl, trivial, by decide, rfl, trivial⟩ rfl trivial (.ren rfl rfl .nil) rfl BB1 rfl) rfl ?_
   refine WPL.s (s_store sz29 rfl rfl rfl rfl rfl) ?_
   refine WPL.nx ?_
   refine WP.retW ?_
   obtain ⟨rfl, rfl, rfl, rfl, rfl, rfl⟩ := j6 H
   exact W.now (InBlock.r (Then.r (BodyR.mkR trivial rfl [2] ⟨rfl, rfl⟩ ⟨rfl, AA1, by decide, rfl, trivial⟩ rfl rfl)))
 replace H := cnf hb14 H
 refine WP.sr ?_
 refine WPL.qq (q_eql rfl rfl) ?_
 refine WPL.qq (q_as (v := .lit (.bool _)) rfl) ?_
 refine WPL.nx ?_
 refine WP.cond (t := (decide (x1 = 12))) rfl (fun hb15 => ?_) (fun hb15 => ?_)
 · replace H := cnt hb15 H
   refine WP.sr ?_
   refine WPL.qq (q_mv (v := .lit (.int _ _)) rfl) ?_
   refine WPL.qq (q_geq rfl rfl) ?_
   obtain ⟨_, h17, H⟩ := bnd H
   refine WPL.c (runs_call (s := []) (t := [3]) (N := 4) (bor := []) fn21 rfl (s_val_Truth k (decide (0 ≤ x70)) h17) ⟨rfl, trivial, by decide, rfl, trivial⟩ rfl trivial (.ren rfl rfl .nil) rfl BB1 rfl) rfl ?_
   refine WPL.s (s_store sz29 rfl rfl rfl rfl rfl) ?_
   refine WPL.nx ?_
   refine WP.retW ?_
   obtain ⟨rfl, rfl, rfl, rfl, rfl, rfl⟩ := j6 H
   exact W.now (InBlock.r (Then.r (BodyR.mkR trivial rfl [2] ⟨rfl, rfl⟩ ⟨rfl, AA1, by decide, rfl, trivial⟩ rfl rfl)))
 replace H := cnf hb15 H
 refine WP.skipW ?_
 refine W.now ?_
 refine InBlock.n ?_
 refine Then.n ?_
 refine WP.sr ?_
 obtain ⟨x71, h18, H⟩ := bnd H
 refine WPL.c (runs_call (s := []) (t := [3]) (N := 4) (bor := []) fn16 rfl (s_val_Err k 2 x71 h18) ⟨rfl, trivial, by decide, rfl, trivial⟩ rfl trivial (.ren rfl rfl .nil) rfl BB1 rfl) rfl ?_
 refine WPL.s (s_store sz29 rfl rfl rfl rfl rfl) ?_
 refine WPL.nx ?_
 refine WP.retW ?_
 obtain ⟨rfl, rfl, rfl, rfl, rfl, rfl⟩ := j6 H
 exact W.now (BodyR.mkR trivial rfl [2] ⟨rfl, rfl⟩ ⟨rfl, AA1, by decide, rfl, trivial⟩ rfl rfl)
theorem s_quirelaw13_num (k : Nat) (x1 : Int) (H : g_quirelaw13_num k x1 = some ()) : Go.Q.Spec Tryz.prog 52 0 [.lit (.int .i64 x1)] Mem.nil (fun o M => o = .ret (.agg [.lit (.int .i64 1), .lit (.int .i64 x1), .lit (.int .i64 0), .lit (.string (ByteArray.mk #[])), .lit (.bool false), .lit (.int .i64 0)]) ∧ M = (Mem.nil.push (.cells 29 [.lit (.int .i64 1), .lit (.int .i64 x1), .lit (.int .i64 0), .lit (.string (ByteArray.mk #[])), .lit (.bool false), .lit (.int .i64 0)]))) := by
 unfold g_quirelaw13_num at H
 refine Go.Q.Spec.of_bodyR (az := [(29, 6)]) (rs := [.cell 2 29]) (nt := 6) Tryz.func52 rfl rfl (by intro t T h; simp at h; rcases h with ⟨rfl, rfl⟩ <;> first | exact ag29) rfl rfl fun cx hnp => ?_
 refine WP.sr ?_
 refine WPL.d (d_alloc ze29 rfl) rfl ?_
 refine WPL.nx ?_
 refine WP.sr ?_
 refine WPL.qq (q_mv (v := .lit (.int _ _)) rfl) ?_
 refine WPL.qq (q_build bu23 rfl) ?_
 refine WPL.qq (q_build bu29 rfl) ?_
 refine WPL.s (s_store sz29 rfl rfl rfl rfl rfl) ?_
 refine WPL.nx ?_
 refine WP.retW ?_
 exact W.now (BodyR.mkR trivial rfl [0] ⟨rfl, rfl⟩ ⟨rfl, AA1, by decide, rfl, trivial⟩ rfl rfl)
theorem s_quirelaw13_alive (k : Nat) (x1 : Bool) (H : g_quirelaw13_alive k = some x1) : Go.Q.Spec Tryz.prog 23 0 [] Mem.nil (fun o M => o = .ret (.lit (.bool x1)) ∧ M = Mem.nil) := by
 unfold g_quirelaw13_alive at H
 refine Go.Q.Spec.of_bodyR (az := []) (rs := [.tmp 0]) (nt := 34) Tryz.func23 rfl rfl (by intro t T h; simp at h) rfl rfl fun cx hnp => ?_
 refine WP.sr ?_
 refine WPL.qq (q_as (v := .lit (.bool _)) rfl) ?_
 refine WPL.nx ?_
 refine WP.seq ?_
 obtain ⟨x2, H1, H⟩ := bnd H
 refine WP.monoW (Q := fun x E M => x = .normal ∧ E = (Env.none.upd 0 (.lit (.bool x2))) ∧ M = Mem.nil) ?_ ?_
 · clear H
   have H := H1
   clear H1
   refine WP.region ?_
   obtain ⟨⟨x3, x4, x5⟩, h1, H⟩ := bnd H
   refine WPL.c (runs_call (s := []) (t := [0]) (N := 1) (bor := []) fn14 rfl (s_val_Str k (ByteArray.mk #[50]) x3 x4 x5 h1) ⟨rfl, trivial, by decide, rfl, trivial⟩ rfl trivial (.ren rfl rfl .nil) rfl BB1 rfl) rfl ?_
   obtain ⟨_, h2, H⟩ := bnd H
   refine WPL.c (runs_call (s := []) (t := [1]) (N := 2) (bor := []) fn21 rfl (s_val_Truth k true h2) ⟨rfl, trivial, by decide, rfl, trivial⟩ rfl trivial (.ren rfl rfl .nil) rfl BB1 rfl) rfl ?_
   obtain ⟨⟨x6, x7, x8, x9, x10, x11⟩, h3, H⟩ := bnd H
   refine WPL.c (runs_call (s := []) (t := [2]) (N := 3) (bor := []) fn28 rfl (s_val_Bin k 1 x3 0 0 x4 false x5 3 0 0 (ByteArray.mk #[]) true 0 x6 x7 x8 x9 x10 x11 h3) ⟨rfl, trivial, by decide, rfl, trivial⟩ rfl trivial (.ren rfl rfl (.ren rfl rfl (.ren rfl rfl .nil))) rfl BB1 rfl) rfl ?_
   obtain ⟨_, h4, H⟩ := bnd H
   refine WPL.c (runs_call (s := []) (t := [3]) (N := 4) (bor := []) fn52 rfl (s_quirelaw13_num k 3 h4) ⟨rfl, trivial, by decide, rfl, trivial⟩ rfl trivial (.ren rfl rfl .nil) rfl BB1 rfl) rfl ?_
   obtain ⟨x12, h5, H⟩ := bnd H
   refine WPL.qq (q_nm (q_eqlAg (xs := [(.int .i64 x6), (.int .i64 x7), (.int .i64 x8), (.string x9), (.bool x10), (.int .i64 x11)]) (ys := [(.int .i64 1), (.int .i64 3), (.int .i64 0), (.string (ByteArray.mk #[])), (.bool false), (.int .i64 0)]) (n := 9) rfl eg29 rfl rfl eq29) (nm_bool h5)) ?_
   refine WPL.qq (q_mv (v := .lit (.bool _)) rfl) ?_
   refine WPL.split (t := 6) (b := x12) rfl (fun hb1 => ?_) (fun hb1 => ?_)
   · replace H := cnt hb1 H
     obtain ⟨_, h6, H⟩ := bnd H
     refine WPL.cg rfl rfl (lb hb1) (runs_call (s := []) (t := [4]) (N := 5) (bor := []) fn52 rfl (s_quirelaw13_num k 1 h6) ⟨rfl, trivial, by decide, rfl, trivial⟩ rfl trivial (.ren rfl rfl .nil) rfl BB1 rfl) rfl ?_
     obtain ⟨_, h7, H⟩ := bnd H
     refine WPL.cg rfl rfl (lb hb1) (runs_call (s := []) (t := [5]) (N := 6) (bor := []) fn52 rfl (s_quirelaw13_num k 0 h7) ⟨rfl, trivial, by decide, rfl, trivial⟩ rfl trivial (.ren rfl rfl .nil) rfl BB1 rfl) rfl ?_
     obtain ⟨⟨x13, x14, x15, x16, x17, x18⟩, h8, H⟩ := bnd H
     refine WPL.cg rfl rfl (lb hb1) (runs_call (s := []) (t := [6]) (N := 7) (bor := []) fn28 rfl (s_val_Bin k 4 1 1 0 (ByteArray.mk #[]) false 0 1 0 0 (ByteArray.mk #[]) false 0 x13 x14 x15 x16 x17 x18 h8) ⟨rfl, trivial, by decide, rfl, trivial⟩ rfl trivial (.ren rfl rfl (.ren rfl rfl (.ren rfl rfl .nil))) rfl BB1 rfl) rfl ?_
     obtain ⟨x19, h9, H⟩ := bnd H
     refine WPL.cg rfl rfl (lb hb1) (runs_call (s := []) (t := [7]) (N := 8) (bor := []) fn16 rfl (s_val_Err k 1 x19 h9) ⟨rfl, trivial, by decide, rfl, trivial⟩ rfl trivial (.ren rfl rfl .nil) rfl BB1 rfl) rfl ?_
     obtain ⟨x20, h10, H⟩ := bnd H
     refine WPL.gq rfl (lb hb1) (q_nm (q_eqlAg (xs := [(.int .i64 x13), (.int .i64 x14), (.int .i64 x15), (.string x16), (.bool x17), (.int .i64 x18)]) (ys := [(.int .i64 4), (.int .i64 0), (.int .i64 0), (.string (ByteArray.mk #[])), (.bool false), (.int .i64 x19)]) (n := 9) rfl eg29 rfl rfl eq29) (nm_bool h10)) ?_
     refine WPL.qq (q_pickT (v := .lit (.bool _)) (lb hb1) rfl) ?_
     refine WPL.qq (q_mv (v := .lit (.bool _)) rfl) ?_
     refine WPL.split (t := 13) (b := x20) rfl (fun hb2 => ?_) (fun hb2 => ?_)
     · replace H := cnt hb2 H
       obtain ⟨⟨x21, x22, x23⟩, h11, H⟩ := bnd H
       refine WPL.cg rfl rfl (lb hb2) (runs_call (s := []) (t := [8]) (N := 9) (bor := []) fn14 rfl (s_val_Str k (ByteArray.mk #[97]) x21 x22 x23 h11) ⟨rfl, trivial, by decide, rfl, trivial⟩ rfl trivial (.ren rfl rfl .nil) rfl BB1 rfl) rfl ?_
       obtain ⟨⟨x24, x25, x26⟩, h12, H⟩ := bnd H
       refine WPL.cg rfl rfl (lb hb2) (runs_call (s := []) (t := [9]) (N := 10) (bor := []) fn14 rfl (s_val_Str k (ByteArray.mk #[65]) x24 x25 x26 h12) ⟨rfl, trivial, by decide, rfl, trivial⟩ rfl trivial (.ren rfl rfl .nil) rfl BB1 rfl) rfl ?_
       obtain ⟨x27, h13, H⟩ := bnd H
       refine WPL.cg rfl rfl (lb hb2) (runs_call (s := []) (t := []) (N := 10) (bor := []) fn26 rfl (s_val_Cmp k x21 0 0 x22 false x23 x24 0 0 x25 false x26 x27 h13) ⟨rfl, trivial, by decide, rfl, trivial⟩ rfl trivial (.ren rfl rfl (.ren rfl rfl .nil)) rfl trivial rfl) rfl ?_
       refine WPL.gq rfl (lb hb2) (q_eql rfl rfl) ?_
       refine WPL.qq (q_pickT (v := .lit (.bool _)) (lb hb2) rfl) ?_
       refine WPL.qq (q_mv (v := .lit (.bool _)) rfl) ?_
       refine WPL.split (t := 19) (b := (decide (x27 = 0))) rfl (fun hb3 => ?_) (fun hb3 => ?_)
       · replace H := cnt hb3 H
         obtain ⟨⟨x28, x29, x30, x31, x32, x33⟩, h14, H⟩ := bnd H
         refine WPL.cg rfl rfl (lb hb3) (runs_call (s := []) (t := [10]) (N := 11) (bor := []) fn19 rfl (s_val_Typed k (ByteArray.mk #[39, 49, 50]) x28 x29 x30 x31 x32 x33 h14) ⟨rfl, trivial, by decide, rfl, trivial⟩ rfl trivial (.ren rfl rfl .nil) rfl BB1 rfl) rfl ?_
         obtain ⟨⟨x34, x35, x36⟩, h15, H⟩ := bnd H
         refine WPL.cg rfl rfl (lb hb3) (runs_call (s := []) (t := [11]) (N := 12) (bor := []) fn14 rfl (s_val_Str k (ByteArray.mk #[49, 50]) x34 x35 x36 h15) ⟨rfl, trivial, by decide, rfl, trivial⟩ rfl trivial (.ren rfl rfl .nil) rfl BB1 rfl) rfl ?_
         obtain ⟨x37, h16, H⟩ := bnd H
         refine WPL.gq rfl (lb hb3) (q_nm (q_eqlAg (xs := [(.int .i64 x28), (.int .i64 x29), (.int .i64 x30), (.string x31), (.bool x32), (.int .i64 x33)]) (ys := [(.int .i64 x34), (.int .i64 0), (.int .i64 0), (.string x35), (.bool false), (.int .i64 x36)]) (n := 9) rfl eg29 rfl rfl eq29) (nm_bool h16)) ?_
         refine WPL.qq (q_pickT (v := .lit (.bool _)) (lb hb3) rfl) ?_
         refine WPL.qq (q_mv (v := .lit (.bool _)) rfl) ?_
         refine WPL.split (t := 24) (b := x37) rfl (fun hb4 => ?_) (fun hb4 => ?_)
         · replace H := cnt hb4 H
           obtain ⟨⟨x38, x39, x40⟩, h17, H⟩ := bnd H
           refine WPL.cg rfl rfl (lb hb4) (runs_call (s := []) (t := [12]) (N := 13) (bor := []) fn14 rfl (s_val_Str k (ByteArray.mk #[120]) x38 x39 x40 h17) ⟨rfl, trivial, by decide, rfl, trivial⟩ rfl trivial (.ren rfl rfl .nil) rfl BB1 rfl) rfl ?_
           refine WPL.gq rfl (lb hb4) (q_field fi29_2 sc9 rfl rfl) ?_
           obtain ⟨x41, h18, H⟩ := bnd H
           refine WPL.gq rfl (lb hb4) (q_nm (q_eqls rfl rfl) (nm_bool h18)) ?_
           refine WPL.qq (q_pickT (v := .lit (.bool _)) (lb hb4) rfl) ?_
           refine WPL.qq (q_mv (v := .lit (.bool _)) rfl) ?_
           refine WPL.split (t := 29) (b := x41) rfl (fun hb5 => ?_) (fun hb5 => ?_)
           · replace H := cnt hb5 H
             obtain ⟨x42, h19, H⟩ := bnd H
             refine WPL.cg rfl rfl (lb hb5) (runs_call (s := []) (t := [13]) (N := 14) (bor := []) fn16 rfl (s_val_Err k 6 x42 h19) ⟨rfl, trivial, by decide, rfl, trivial⟩ rfl trivial (.ren rfl rfl .nil) rfl BB1 rfl) rfl ?_
             obtain ⟨x43, h20, H⟩ := bnd H
             refine WPL.cg rfl rfl (lb hb5) (runs_call (s := []) (t := []) (N := 14) (bor := []) fn27 rfl (s_val_Show k 4 0 0 (ByteArray.mk #[]) false x42 x43 h20) ⟨rfl, trivial, by decide, rfl, trivial⟩ rfl trivial (.ren rfl rfl .nil) rfl trivial rfl) rfl ?_
             obtain ⟨x44, h21, H⟩ := bnd H
             refine WPL.gq rfl (lb hb5) (q_nm (q_eqls rfl rfl) (nm_bool h21)) ?_
             refine WPL.qq (q_pickT (v := .lit (.bool _)) (lb hb5) rfl) ?_
             refine WPL.qq (q_as (v := .lit (.bool _)) rfl) ?_
             refine WPL.nilW ?_
             have q0 := j1 H
             subst q0
             exact W.wk [] hnp r3 ⟨rfl, trivial, by decide, rfl, trivial⟩ (LeE.u (LeE.none rfl rfl)) rfl
           replace H := cnf hb5 H
           refine WPL.sg false rfl (lb hb5) ?_
           refine WPL.sg false rfl (lb hb5) ?_
           refine WPL.sg false rfl (lb hb5) ?_
           refine WPL.qq (q_pickF (v := .lit (.bool _)) (lb hb5) rfl) ?_
           refine WPL.qq (q_as (v := .lit (.bool _)) rfl) ?_
           refine WPL.nilW ?_
           have q0 := j1 H
           subst q0
           exact W.wk [] hnp r3 ⟨rfl, trivial, by decide, rfl, trivial⟩ (LeE.u (LeE.none rfl rfl)) rfl
         replace H := cnf hb4 H
         refine WPL.sg false rfl (lb hb4) ?_
         refine WPL.sg false rfl (lb hb4) ?_
         refine WPL.sg false rfl (lb hb4) ?_
         refine WPL.qq (q_pickF (v := .lit (.bool _)) (lb hb4) rfl) ?_
         refine WPL.qq (q_mv (v := .lit (.bool _)) rfl) ?_
         refine WPL.sg false rfl rfl ?_
         refine WPL.sg false rfl rfl ?_
         refine WPL.sg false rfl rfl ?_
         refine WPL.qq (q_pickF (v := .lit (.bool _)) rfl rfl) ?_
         refine WPL.qq (q_as (v := .lit (.bool _)) rfl) ?_
         refine WPL.nilW ?_
         have q0 := j1 H
         subst q0
         exact W.wk [] hnp r3 ⟨rfl, trivial, by decide, rfl, trivial⟩ (LeE.u (LeE.none rfl rfl)) rfl
       replace H := cnf hb3 H
       refine WPL.sg false rfl (lb hb3) ?_
       refine WPL.sg false rfl (lb hb3) ?_
       refine WPL.sg false rfl (lb hb3) ?_
       refine WPL.qq (q_pickF (v := .lit (.bool _)) (lb hb3) rfl) ?_
       refine WPL.qq (q_mv (v := .lit (.bool _)) rfl) ?_
       refine WPL.sg false rfl rfl ?_
       refine WPL.sg false rfl rfl ?_
       refine WPL.sg false rfl rfl ?_
       refine WPL.qq (q_pickF (v := .lit (.bool _)) rfl rfl) ?_
       refine WPL.qq (q_mv (v := .lit (.bool _)) rfl) ?_
       refine WPL.sg false rfl rfl ?_
       refine WPL.sg false rfl rfl ?_
       refine WPL.sg false rfl rfl ?_
       refine WPL.qq (q_pickF (v := .lit (.bool _)) rfl rfl) ?_
       refine WPL.qq (q_as (v := .lit (.bool _)) rfl) ?_
       refine WPL.nilW ?_
       have q0 := j1 H
       subst q0
       exact W.wk [] hnp r3 ⟨rfl, trivial, by decide, rfl, trivial⟩ (LeE.u (LeE.none rfl rfl)) rfl
     replace H := cnf hb2 H
     refine WPL.sg false rfl (lb hb2) ?_
     refine WPL.sg false rfl (lb hb2) ?_
     refine WPL.sg false rfl (lb hb2) ?_
     refine WPL.sg false rfl (lb hb2) ?_
     refine WPL.qq (q_pickF (v := .lit (.bool _)) (lb hb2) rfl) ?_
     refine WPL.qq (q_mv (v := .lit (.bool _)) rfl) ?_
     refine WPL.sg false rfl rfl ?_
     refine WPL.sg false rfl rfl ?_
     refine WPL.sg false rfl rfl ?_
     refine WPL.qq (q_pickF (v := .lit (.bool _)) rfl rfl) ?_
     refine WPL.qq (q_mv (v := .lit (.bool _)) rfl) ?_
     refine WPL.sg false rfl rfl ?_
     refine WPL.sg false rfl rfl ?_
     refine WPL.sg false rfl rfl ?_
     refine WPL.qq (q_pickF (v := .lit (.bool _)) rfl rfl) ?_
     refine WPL.qq (q_mv (v := .lit (.bool _)) rfl) ?_
     refine WPL.sg false rfl rfl ?_
     refine WPL.sg false rfl rfl ?_
     refine WPL.sg false rfl rfl ?_
     refine WPL.qq (q_pickF (v := .lit (.bool _)) rfl rfl) ?_
     refine WPL.qq (q_as (v := .lit (.bool _)) rfl) ?_
     refine WPL.nilW ?_
     have q0 := j1 H
     subst q0
     exact W.wk [] hnp r3 ⟨rfl, trivial, by decide, rfl, trivial⟩ (LeE.u (LeE.none rfl rfl)) rfl
   replace H := cnf hb1 H
   refine WPL.sg false rfl (lb hb1) ?_
   refine WPL.sg false rfl (lb hb1) ?_
   refine WPL.sg false rfl (lb hb1) ?_
   refine WPL.sg false rfl (lb hb1) ?_
   refine WPL.sg false rfl (lb hb1) ?_
   refine WPL.qq (q_pickF (v := .lit (.bool _)) (lb hb1) rfl) ?_
   refine WPL.qq (q_mv (v := .lit (.bool _)) rfl) ?_
   refine WPL.sg false rfl rfl ?_
   refine WPL.sg false rfl rfl ?_
   refine WPL.sg false rfl rfl ?_
   refine WPL.sg false rfl rfl ?_
   refine WPL.qq (q_pickF (v := .lit (.bool _)) rfl rfl) ?_
   refine WPL.qq (q_mv (v := .lit (.bool _)) rfl) ?_
   refine WPL.sg false rfl rfl ?_
   refine WPL.sg false rfl rfl ?_
   refine WPL.sg false rfl rfl ?_
   refine WPL.qq (q_pickF (v := .lit (.bool _)) rfl rfl) ?_
   refine WPL.qq (q_mv (v := .lit (.bool _)) rfl) ?_
   refine WPL.sg false rfl rfl ?_
   refine WPL.sg false rfl rfl ?_
   refine WPL.sg false rfl rfl ?_
   refine WPL.qq (q_pickF (v := .lit (.bool _)) rfl rfl) ?_
   refine WPL.qq (q_mv (v := .lit (.bool _)) rfl) ?_
   refine WPL.sg false rfl rfl ?_
   refine WPL.sg false rfl rfl ?_
   refine WPL.sg false rfl rfl ?_
   refine WPL.qq (q_pickF (v := .lit (.bool _)) rfl rfl) ?_
   refine WPL.qq (q_as (v := .lit (.bool _)) rfl) ?_
   refine WPL.nilW ?_
   have q0 := j1 H
   subst q0
   exact W.wk [] hnp r3 ⟨rfl, trivial, by decide, rfl, trivial⟩ (LeE.u (LeE.none rfl rfl)) rfl
 rintro _ _ _ ⟨rfl, rfl, rfl⟩
 refine W.now ?_
 refine Then.n ?_
 refine WP.retW ?_
 have q0 := j1 H
 subst q0
 exact W.now (BodyR.mkR trivial rfl [] ⟨rfl, rfl⟩ ⟨rfl, trivial, by decide, rfl, trivial⟩ rfl rfl)
end Go.Proofs.YthpcgknknpjpdaaGreatDoor.W
namespace Go.Proofs.YthpcgknknpjpdaaGreatDoor.W
open Go Go.Q Go.Proofs
set_option linter.unusedVariables false
set_option linter.unusedSimpArgs false
set_option maxRecDepth 100000
set_option maxHeartbeats 4000000
theorem s_quirelaw13_ValMakes (k : Nat) (x1 : Int) (x2 : Int) (x3 : Int) (x4 : ByteArray) (x5 : Int) (x6 : Bool) (H : g_quirelaw13_ValMakes k x1 x2 x3 x4 x5 = some x6) : Go.Q.Spec Tryz.prog 3 0 [.agg [.lit (.int .i64 x1), .lit (.int .i64 x2)], .lit (.int .i64 x3), .lit (.string x4), .lit (.int .i64 x5)] Mem.nil (fun o M => o = .ret (.lit (.bool x6)) ∧ M = Mem.nil) := by
 unfold g_quirelaw13_ValMakes at H
 refine Go.Q.Spec.of_bodyR (az := []) (rs := [.tmp 8]) (nt := 90) Tryz.func3 rfl rfl (by intro t T h; simp at h) rfl rfl fun cx hnp => ?_
 refine WP.sr ?_
 refine WPL.d (d_box rfl rfl) rfl ?_
 refine WPL.qq (q_as (v := .lit (.bool _)) rfl) ?_
 refine WPL.nx ?_
 refine WP.sr ?_
 refine WPL.qq (q_mv (v := .lit (.string _)) rfl) ?_
 obtain ⟨⟨x7, x8⟩, h1, H⟩ := bnd H
 refine WPL.c (runs_call (s := []) (t := []) (N := 1) (bor := []) fn9 rfl (s_val_ErrCode k x4 x7 x8 h1) ⟨rfl, trivial, by decide, rfl, trivial⟩ rfl trivial (.ren rfl rfl .nil) rfl trivial rfl) rfl ?_
 refine WPL.qq (q_mv (v := .tup _) rfl) ?_
 refine WPL.qq (q_extract rfl rfl) ?_
 refine WPL.qq (q_extract rfl rfl) ?_
 refine WPL.qq (q_as (v := .lit (.int _ _)) rfl) ?_
 refine WPL.qq (q_as (v := .lit (.bool _)) rfl) ?_
 refine WPL.nx ?_
 refine WP.sr ?_
 refine WPL.qq (q_mv (v := .lit (.string _)) rfl) ?_
 obtain ⟨⟨x9, x10⟩, h2, H⟩ := bnd H
 refine WPL.c (runs_call (s := []) (t := []) (N := 1) (bor := []) fn10 rfl (s_rv_ErrCode k x4 x9 x10 h2) ⟨rfl, trivial, by decide, rfl, trivial⟩ rfl trivial (.ren rfl rfl .nil) rfl trivial rfl) rfl ?_
 refine WPL.qq (q_mv (v := .tup _) rfl) ?_
 refine WPL.qq (q_extract rfl rfl) ?_
 refine WPL.qq (q_extract rfl rfl) ?_
 refine WPL.qq (q_as (v := .lit (.int _ _)) rfl) ?_
 refine WPL.qq (q_as (v := .lit (.bool _)) rfl) ?_
 refine WPL.nx ?_
 refine WP.sr ?_
 refine WPL.qq (q_as (v := .lit (.string _)) rfl) ?_
 refine WPL.nx ?_
 refine WP.seq ?_
 obtain ⟨x11, H1, H⟩ := bnd H
 refine WP.monoW (Q := fun x E M => x = .normal ∧ E = (((((((((Env.none.upd 1 (.lit (.int .i64 x3))).upd 2 (.lit (.string x4))).upd 3 (.lit (.int .i64 x5))).upd 4 (.ptr 0 0)).upd 9 (.lit (.int .i64 x7))).upd 10 (.lit (.bool x8))).upd 11 (.lit (.int .i64 x9))).upd 12 (.lit (.bool x10))).upd 13 (.lit (.string x11))) ∧ M = (Mem.nil.push (.cells 23 [.lit (.int .i64 x1), .lit (.int .i64 x2)]))) ?_ ?_
 · clear H
   have H := H1
   clear H1
   refine WP.seq ?_
   obtain ⟨x12, H2, H⟩ := bnd H
   refine WP.monoW (Q := fun x E M => x = .normal ∧ E = ((((((((((Env.none.upd 1 (.lit (.int .i64 x3))).upd 2 (.lit (.string x4))).upd 3 (.lit (.int .i64 x5))).upd 4 (.ptr 0 0)).upd 9 (.lit (.int .i64 x7))).upd 10 (.lit (.bool x8))).upd 11 (.lit (.int .i64 x9))).upd 12 (.lit (.bool x10))).upd 13 (.lit (.string (ByteArray.mk #[])))).upd 29 (.lit (.bool x12))) ∧ M = (Mem.nil.push (.cells 23 [.lit (.int .i64 x1), .lit (.int .i64 x2)]))) ?_ ?_
   · clear H
     have H := H2
     clear H2
     refine WP.region ?_
     refine WPL.qq (q_mv (v := .lit (.int _ _)) rfl) ?_
     refine WPL.qq (q_geq rfl rfl) ?_
     refine WPL.qq (q_mv (v := .lit (.bool _)) rfl) ?_
     refine WPL.split (t := 26) (b := (decide (1 ≤ x5))) rfl (fun hb1 => ?_) (fun hb1 => ?_)
     · replace H := cnt hb1 H
       refine WPL.gq rfl (lb hb1) (q_mv (v := .lit (.int _ _)) rfl) ?_
       refine WPL.gq rfl (lb hb1) (q_leq rfl rfl) ?_
       refine WPL.qq (q_pickT (v := .lit (.bool _)) (lb hb1) rfl) ?_
       refine WPL.nilW ?_
       have q0 := j1 H
       subst q0
       exact W.wk [0] hnp r3 ⟨rfl, AA1, by decide, rfl, trivial⟩ (LeE.u (LeE.u (LeE.u (LeE.u (LeE.u (LeE.u (LeE.u (LeE.u (LeE.u (LeE.u (LeE.none rfl rfl))))))))))) rfl
     replace H := cnf hb1 H
     refine WPL.sg false rfl (lb hb1) ?_
     refine WPL.sg false rfl (lb hb1) ?_
     refine WPL.qq (q_pickF (v := .lit (.bool _)) (lb hb1) rfl) ?_
     refine WPL.nilW ?_
     have q0 := j1 H
     subst q0
     exact W.wk [0] hnp r3 ⟨rfl, AA1, by decide, rfl, trivial⟩ (LeE.u (LeE.u (LeE.u (LeE.u (LeE.u (LeE.u (LeE.u (LeE.u (LeE.u (LeE.u (LeE.none rfl rfl))))))))))) rfl
   rintro _ _ _ ⟨rfl, rfl, rfl⟩
   refine W.now ?_
   refine Then.n ?_
   refine WP.cond (t := x12) rfl (fun hb2 => ?_) (fun hb2 => ?_)
   · replace H := cnt hb2 H
     refine WP.region ?_
     obtain ⟨_, h3, H⟩ := bnd H
     refine WPL.c (runs_call (s := []) (t := []) (N := 1) (bor := []) fn11 rfl (s_rv_Names k h3) ⟨rfl, trivial, by decide, rfl, trivial⟩ rfl trivial .nil rfl trivial rfl) rfl ?_
     refine WPL.qq (q_mv (v := .lit (.int _ _)) rfl) ?_
     obtain ⟨x13, h4, H⟩ := bnd H
     refine WPL.qq (q_index_ro sl26 rfl rfl rfl h4) ?_
     refine WPL.qq (q_load_sc sc9 rfl) ?_
     refine WPL.qq (q_as (v := .lit (.string _)) rfl) ?_
     refine WPL.nilW ?_
     have q0 := j1 H
     subst q0
     exact W.wk [0] hnp r3 ⟨rfl, AA1, by decide, rfl, trivial⟩ (LeE.u (LeE.u (LeE.u (LeE.u (LeE.u (LeE.u (LeE.u (LeE.u (LeE.u (LeE.none rfl rfl)))))))))) rfl
   replace H := cnf hb2 H
   refine WP.skipW ?_
   have q0 := j1 H
   subst q0
   exact W.wk [0] hnp r3 ⟨rfl, AA1, by decide, rfl, trivial⟩ (LeE.u (LeE.u (LeE.u (LeE.u (LeE.u (LeE.u (LeE.u (LeE.u (LeE.u (LeE.none rfl rfl)))))))))) rfl
 rintro _ _ _ ⟨rfl, rfl, rfl⟩
 refine W.now ?_
 refine Then.n ?_
 refine WP.seq ?_
 obtain ⟨x14, H3, H⟩ := bnd H
 refine WP.monoW (Q := fun x E M => x = .normal ∧ E = (Env.none.upd 8 (.lit (.bool x14))) ∧ M = Mem.nil) ?_ ?_
 · clear H
   have H := H3
   clear H3
   refine WP.regionD' 57 [0] [] mixed rfl ?_
   refine WPD.tT 1 rfl (q_mv (v := .lit (.int _ _)) rfl) ?_
   refine WPD.tT 4 rfl (q_mv (v := .lit (.int _ _)) rfl) ?_
   refine WPD.take 0 rfl (by kernel_rfl) (q_load_ag ag23 rfl rfl (Nat.le_of_ble_eq_true rfl)) rfl rfl ?_
   refine WPD.take 3 rfl (by kernel_rfl) (q_load_ag ag23 rfl rfl (Nat.le_of_ble_eq_true rfl)) rfl rfl ?_
   obtain ⟨⟨x15, x16, x17, x18⟩, h5, H⟩ := bnd H
   refine WPD.ef 2 [0] [] rfl (runs_call (s := []) (t := [1]) (N := 2) (bor := []) fn12 rfl (s_val_Of k x1 x2 x3 x15 x16 x17 x18 h5) ⟨rfl, trivial, by decide, rfl, trivial⟩ rfl trivial (.ren rfl rfl (.ren rfl rfl .nil)) rfl BB1 rfl) ?_
   obtain ⟨⟨x19, x20, x21, x22⟩, h6, H⟩ := bnd H
   refine WPD.ef 5 [0] [] rfl (runs_call (s := []) (t := [2]) (N := 3) (bor := []) fn13 rfl (s_rv_Of k x1 x2 x3 x19 x20 x21 x22 h6) ⟨rfl, trivial, by decide, rfl, trivial⟩ rfl trivial (.ren rfl rfl (.ren rfl rfl .nil)) rfl BB1 rfl) ?_
   obtain ⟨x23, h7, H⟩ := bnd H
   refine WPD.tT 6 rfl (q_nm (q_eqlAg (xs := [(.int .i64 x15), (.int .i64 x16), (.int .i64 x17), (.string (ByteArray.mk #[])), (.bool false), (.int .i64 x18)]) (ys := [(.int .i64 x19), (.int .i64 x20), (.int .i64 x21), (.string (ByteArray.mk #[])), (.bool false), (.int .i64 x22)]) (n := 9) rfl eg29 rfl rfl eq29) (nm_bool h7)) ?_
   refine WPD.tT 7 rfl (q_mv (v := .lit (.bool _)) rfl) ?_
   refine WPD.split (t := 41) (b := x23) rfl (fun hb3 => ?_) (fun hb3 => ?_)
   · replace H := cnt hb3 H
     refine WPD.takegT 8 rfl (by kernel_rfl) rfl rfl (lb hb3) (q_mv (v := .lit (.string _)) rfl) rfl ?_
     refine WPD.takegT 10 rfl (by kernel_rfl) rfl rfl (lb hb3) (q_mv (v := .lit (.string _)) rfl) rfl ?_
     obtain ⟨⟨x24, x25, x26⟩, h8, H⟩ := bnd H
     refine WPD.effg 9 [0] [] rfl (by kernel_rfl) rfl rfl (lb hb3) (runs_call (s := []) (t := [3]) (N := 4) (bor := []) fn14 rfl (s_val_Str k x4 x24 x25 x26 h8) ⟨rfl, trivial, by decide, rfl, trivial⟩ rfl trivial (.ren rfl rfl .nil) rfl BB1 rfl) rfl rfl ?_
     obtain ⟨⟨x27, x28, x29⟩, h9, H⟩ := bnd H
     refine WPD.effg 11 [0] [] rfl (by kernel_rfl) rfl rfl (lb hb3) (runs_call (s := []) (t := [4]) (N := 5) (bor := []) fn15 rfl (s_rv_Str k x4 x27 x28 x29 h9) ⟨rfl, trivial, by decide, rfl, trivial⟩ rfl trivial (.ren rfl rfl .nil) rfl BB1 rfl) rfl rfl ?_
     obtain ⟨x30, h10, H⟩ := bnd H
     refine WPD.takegT 12 rfl (by kernel_rfl) rfl rfl (lb hb3) (q_nm (q_eqlAg (xs := [(.int .i64 x24), (.int .i64 0), (.int .i64 0), (.string x25), (.bool false), (.int .i64 x26)]) (ys := [(.int .i64 x27), (.int .i64 0), (.int .i64 0), (.string x28), (.bool false), (.int .i64 x29)]) (n := 9) rfl eg29 rfl rfl eq29) (nm_bool h10)) rfl ?_
     refine WPD.tT 13 rfl (q_pickT (v := .lit (.bool _)) (lb hb3) rfl) ?_
     refine WPD.tT 14 rfl (q_mv (v := .lit (.bool _)) rfl) ?_
     refine WPD.split (t := 48) (b := x30) rfl (fun hb4 => ?_) (fun hb4 => ?_)
     · replace H := cnt hb4 H
       refine WPD.takegT 15 rfl (by kernel_rfl) rfl rfl (lb hb4) (q_mv (v := .lit (.int _ _)) rfl) rfl ?_
       refine WPD.takegT 17 rfl (by kernel_rfl) rfl rfl (lb hb4) (q_mv (v := .lit (.int _ _)) rfl) rfl ?_
       obtain ⟨x31, h11, H⟩ := bnd H
       refine WPD.effg 16 [0] [] rfl (by kernel_rfl) rfl rfl (lb hb4) (runs_call (s := []) (t := [5]) (N := 6) (bor := []) fn16 rfl (s_val_Err k x5 x31 h11) ⟨rfl, trivial, by decide, rfl, trivial⟩ rfl trivial (.ren rfl rfl .nil) rfl BB1 rfl) rfl rfl ?_
       obtain ⟨x32, h12, H⟩ := bnd H
       refine WPD.effg 18 [0] [] rfl (by kernel_rfl) rfl rfl (lb hb4) (runs_call (s := []) (t := [6]) (N := 7) (bor := []) fn17 rfl (s_rv_Err k x5 x32 h12) ⟨rfl, trivial, by decide, rfl, trivial⟩ rfl trivial (.ren rfl rfl .nil) rfl BB1 rfl) rfl rfl ?_
       obtain ⟨x33, h13, H⟩ := bnd H
       refine WPD.takegT 19 rfl (by kernel_rfl) rfl rfl (lb hb4) (q_nm (q_eqlAg (xs := [(.int .i64 4), (.int .i64 0), (.int .i64 0), (.string (ByteArray.mk #[])), (.bool false), (.int .i64 x31)]) (ys := [(.int .i64 4), (.int .i64 0), (.int .i64 0), (.string (ByteArray.mk #[])), (.bool false), (.int .i64 x32)]) (n := 9) rfl eg29 rfl rfl eq29) (nm_bool h13)) rfl ?_
       refine WPD.tT 20 rfl (q_pickT (v := .lit (.bool _)) (lb hb4) rfl) ?_
       refine WPD.tT 21 rfl (q_mv (v := .lit (.bool _)) rfl) ?_
       refine WPD.split (t := 55) (b := x33) rfl (fun hb5 => ?_) (fun hb5 => ?_)
       · replace H := cnt hb5 H
         refine WPD.takegT 22 rfl (by kernel_rfl) rfl rfl (lb hb5) (q_mv (v := .lit (.int _ _)) rfl) rfl ?_
         refine WPD.takegT 24 rfl (by kernel_rfl) rfl rfl (lb hb5) (q_mv (v := .lit (.string _)) rfl) rfl ?_
         obtain ⟨x34, h14, H⟩ := bnd H
         refine WPD.effg 23 [0] [] rfl (by kernel_rfl) rfl rfl (lb hb5) (runs_call (s := []) (t := []) (N := 7) (bor := []) fn18 rfl (s_val_ErrName k x5 x34 h14) ⟨rfl, trivial, by decide, rfl, trivial⟩ rfl trivial (.ren rfl rfl .nil) rfl trivial rfl) rfl rfl ?_
         refine WPD.takegT 25 rfl (by kernel_rfl) rfl rfl (lb hb5) (q_eqls rfl rfl) rfl ?_
         refine WPD.tT 26 rfl (q_pickT (v := .lit (.bool _)) (lb hb5) rfl) ?_
         refine WPD.tT 27 rfl (q_mv (v := .lit (.bool _)) rfl) ?_
         refine WPD.split (t := 61) (b := (x34.toList == x11.toList)) rfl (fun hb6 => ?_) (fun hb6 => ?_)
         · replace H := cnt hb6 H
           refine WPD.takegT 28 rfl (by kernel_rfl) rfl rfl (lb hb6) (q_mv (v := .lit (.int _ _)) rfl) rfl ?_
           refine WPD.takegT 29 rfl (by kernel_rfl) rfl rfl (lb hb6) (q_mv (v := .lit (.int _ _)) rfl) rfl ?_
           refine WPD.takegT 30 rfl (by kernel_rfl) rfl rfl (lb hb6) (q_eql rfl rfl) rfl ?_
           refine WPD.tT 31 rfl (q_pickT (v := .lit (.bool _)) (lb hb6) rfl) ?_
           refine WPD.tT 32 rfl (q_mv (v := .lit (.bool _)) rfl) ?_
           refine WPD.split (t := 66) (b := (decide (x7 = x9))) rfl (fun hb7 => ?_) (fun hb7 => ?_)
           · replace H := cnt hb7 H
             refine WPD.takegT 33 rfl (by kernel_rfl) rfl rfl (lb hb7) (q_mv (v := .lit (.bool _)) rfl) rfl ?_
             refine WPD.takegT 34 rfl (by kernel_rfl) rfl rfl (lb hb7) (q_mv (v := .lit (.bool _)) rfl) rfl ?_
             refine WPD.takegT 35 rfl (by kernel_rfl) rfl rfl (lb hb7) (q_eqlb Tryz.underlying4 rfl rfl) rfl ?_
             refine WPD.tT 36 rfl (q_pickT (v := .lit (.bool _)) (lb hb7) rfl) ?_
             refine WPD.tT 37 rfl (q_mv (v := .lit (.bool _)) rfl) ?_
             refine WPD.split (t := 71) (b := (x8 == x10)) rfl (fun hb8 => ?_) (fun hb8 => ?_)
             · replace H := cnt hb8 H
               refine WPD.takegT 38 rfl (by kernel_rfl) rfl rfl (lb hb8) (q_mv (v := .lit (.string _)) rfl) rfl ?_
               refine WPD.takegT 40 rfl (by kernel_rfl) rfl rfl (lb hb8) (q_mv (v := .lit (.string _)) rfl) rfl ?_
               obtain ⟨⟨x35, x36, x37, x38, x39, x40⟩, h15, H⟩ := bnd H
               refine WPD.effg 39 [0] [] rfl (by kernel_rfl) rfl rfl (lb hb8) (runs_call (s := []) (t := [7]) (N := 8) (bor := []) fn19 rfl (s_val_Typed k x4 x35 x36 x37 x38 x39 x40 h15) ⟨rfl, trivial, by decide, rfl, trivial⟩ rfl trivial (.ren rfl rfl .nil) rfl BB1 rfl) rfl rfl ?_
               obtain ⟨⟨x41, x42, x43, x44, x45, x46⟩, h16, H⟩ := bnd H
               refine WPD.effg 41 [0] [] rfl (by kernel_rfl) rfl rfl (lb hb8) (runs_call (s := []) (t := [8]) (N := 9) (bor := []) fn20 rfl (s_rv_Typed k x4 x41 x42 x43 x44 x45 x46 h16) ⟨rfl, trivial, by decide, rfl, trivial⟩ rfl trivial (.ren rfl rfl .nil) rfl BB1 rfl) rfl rfl ?_
               obtain ⟨x47, h17, H⟩ := bnd H
               refine WPD.takegT 42 rfl (by kernel_rfl) rfl rfl (lb hb8) (q_nm (q_eqlAg (xs := [(.int .i64 x35), (.int .i64 x36), (.int .i64 x37), (.string x38), (.bool x39), (.int .i64 x40)]) (ys := [(.int .i64 x41), (.int .i64 x42), (.int .i64 x43), (.string x44), (.bool x45), (.int .i64 x46)]) (n := 9) rfl eg29 rfl rfl eq29) (nm_bool h17)) rfl ?_
               refine WPD.tT 43 rfl (q_pickT (v := .lit (.bool _)) (lb hb8) rfl) ?_
               refine WPD.tT 44 rfl (q_mv (v := .lit (.bool _)) rfl) ?_
               refine WPD.split (t := 78) (b := x47) rfl (fun hb9 => ?_) (fun hb9 => ?_)
               · replace H := cnt hb9 H
                 refine WPD.takegT 45 rfl (by kernel_rfl) rfl rfl (lb hb9) (q_mv (v := .lit (.int _ _)) rfl) rfl ?_
                 refine WPD.takegT 46 rfl (by kernel_rfl) rfl rfl (lb hb9) (q_gtr rfl rfl) rfl ?_
                 refine WPD.takegT 48 rfl (by kernel_rfl) rfl rfl (lb hb9) (q_mv (v := .lit (.int _ _)) rfl) rfl ?_
                 refine WPD.takegT 49 rfl (by kernel_rfl) rfl rfl (lb hb9) (q_gtr rfl rfl) rfl ?_
                 obtain ⟨_, h18, H⟩ := bnd H
                 refine WPD.effg 47 [0] [] rfl (by kernel_rfl) rfl rfl (lb hb9) (runs_call (s := []) (t := [9]) (N := 10) (bor := []) fn21 rfl (s_val_Truth k (decide (0 < x5)) h18) ⟨rfl, trivial, by decide, rfl, trivial⟩ rfl trivial (.ren rfl rfl .nil) rfl BB1 rfl) rfl rfl ?_
                 obtain ⟨_, h19, H⟩ := bnd H
                 refine WPD.effg 50 [0] [] rfl (by kernel_rfl) rfl rfl (lb hb9) (runs_call (s := []) (t := [10]) (N := 11) (bor := []) fn22 rfl (s_rv_Truth k (decide (0 < x5)) h19) ⟨rfl, trivial, by decide, rfl, trivial⟩ rfl trivial (.ren rfl rfl .nil) rfl BB1 rfl) rfl rfl ?_
                 obtain ⟨x48, h20, H⟩ := bnd H
                 refine WPD.takegT 51 rfl (by kernel_rfl) rfl rfl (lb hb9) (q_nm (q_eqlAg (xs := [(.int .i64 3), (.int .i64 0), (.int .i64 0), (.string (ByteArray.mk #[])), (.bool (decide (0 < x5))), (.int .i64 0)]) (ys := [(.int .i64 3), (.int .i64 0), (.int .i64 0), (.string (ByteArray.mk #[])), (.bool (decide (0 < x5))), (.int .i64 0)]) (n := 9) rfl eg29 rfl rfl eq29) (nm_bool h20)) rfl ?_
                 refine WPD.tT 52 rfl (q_pickT (v := .lit (.bool _)) (lb hb9) rfl) ?_
                 refine WPD.tT 53 rfl (q_mv (v := .lit (.bool _)) rfl) ?_
                 refine WPD.split (t := 87) (b := x48) rfl (fun hb10 => ?_) (fun hb10 => ?_)
                 · replace H := cnt hb10 H
                   obtain ⟨x49, h21, H⟩ := bnd H
                   refine WPD.effg 54 [0] [] rfl (by kernel_rfl) rfl rfl (lb hb10) (runs_call (s := []) (t := []) (N := 11) (bor := []) fn23 rfl (s_quirelaw13_alive k x49 h21) ⟨rfl, trivial, by decide, rfl, trivial⟩ rfl trivial .nil rfl trivial rfl) rfl rfl ?_
                   refine WPD.tT 55 rfl (q_pickT (v := .lit (.bool _)) (lb hb10) rfl) ?_
                   refine WPD.tT 56 rfl (q_as (v := .lit (.bool _)) rfl) ?_
                   refine WPD.doneW (by kernel_rfl) ?_
                   have q0 := j1 H
                   subst q0
                   exact W.wk [] hnp r3 ⟨rfl, trivial, by decide, rfl, trivial⟩ (LeE.u (LeE.none rfl rfl)) rfl
                 replace H := cnf hb10 H
                 refine WPD.ps false 54 rfl rfl (lb hb10) ?_
                 refine WPD.tT 55 rfl (q_pickF (v := .lit (.bool _)) (lb hb10) rfl) ?_
                 refine WPD.tT 56 rfl (q_as (v := .lit (.bool _)) rfl) ?_
                 refine WPD.doneW (by kernel_rfl) ?_
                 have q0 := j1 H
                 subst q0
                 exact W.wk [] hnp r3 ⟨rfl, trivial, by decide, rfl, trivial⟩ (LeE.u (LeE.none rfl rfl)) rfl
               replace H := cnf hb9 H
               refine WPD.ps false 45 rfl rfl (lb hb9) ?_
               refine WPD.ps false 46 rfl rfl (lb hb9) ?_
               refine WPD.ps false 47 rfl rfl (lb hb9) ?_
               refine WPD.ps false 48 rfl rfl (lb hb9) ?_
               refine WPD.ps false 49 rfl rfl (lb hb9) ?_
               refine WPD.ps false 50 rfl rfl (lb hb9) ?_
               refine WPD.ps false 51 rfl rfl (lb hb9) ?_
               refine WPD.tT 52 rfl (q_pickF (v := .lit (.bool _)) (lb hb9) rfl) ?_
               refine WPD.tT 53 rfl (q_mv (v := .lit (.bool _)) rfl) ?_
               refine WPD.ps false 54 rfl rfl rfl ?_
               refine WPD.tT 55 rfl (q_pickF (v := .lit (.bool _)) rfl rfl) ?_
               refine WPD.tT 56 rfl (q_as (v := .lit (.bool _)) rfl) ?_
               refine WPD.doneW (by kernel_rfl) ?_
               have q0 := j1 H
               subst q0
               exact W.wk [] hnp r3 ⟨rfl, trivial, by decide, rfl, trivial⟩ (LeE.u (LeE.none rfl rfl)) rfl
             replace H := cnf hb8 H
             refine WPD.ps false 38 rfl rfl (lb hb8) ?_
             refine WPD.ps false 39 rfl rfl (lb hb8) ?_
             refine WPD.ps false 40 rfl rfl (lb hb8) ?_
             refine WPD.ps false 41 rfl rfl (lb hb8) ?_
             refine WPD.ps false 42 rfl rfl (lb hb8) ?_
             refine WPD.tT 43 rfl (q_pickF (v := .lit (.bool _)) (lb hb8) rfl) ?_
             refine WPD.tT 44 rfl (q_mv (v := .lit (.bool _)) rfl) ?_
             refine WPD.ps false 45 rfl rfl rfl ?_
             refine WPD.ps false 46 rfl rfl rfl ?_
             refine WPD.ps false 47 rfl rfl rfl ?_
             refine WPD.ps false 48 rfl rfl rfl ?_
             refine WPD.ps false 49 rfl rfl rfl ?_
             refine WPD.ps false 50 rfl rfl rfl ?_
             refine WPD.ps false 51 rfl rfl rfl ?_
             refine WPD.tT 52 rfl (q_pickF (v := .lit (.bool _)) rfl rfl) ?_
             refine WPD.tT 53 rfl (q_mv (v := .lit (.bool _)) rfl) ?_
             refine WPD.ps false 54 rfl rfl rfl ?_
             refine WPD.tT 55 rfl (q_pickF (v := .lit (.bool _)) rfl rfl) ?_
             refine WPD.tT 56 rfl (q_as (v := .lit (.bool _)) rfl) ?_
             refine WPD.doneW (by kernel_rfl) ?_
             have q0 := j1 H
             subst q0
             exact W.wk [] hnp r3 ⟨rfl, trivial, by decide, rfl, trivial⟩ (LeE.u (LeE.none rfl rfl)) rfl
           replace H := cnf hb7 H
           refine WPD.ps false 33 rfl rfl (lb hb7) ?_
           refine WPD.ps false 34 rfl rfl (lb hb7) ?_
           refine WPD.ps false 35 rfl rfl (lb hb7) ?_
           refine WPD.tT 36 rfl (q_pickF (v := .lit (.bool _)) (lb hb7) rfl) ?_
           refine WPD.tT 37 rfl (q_mv (v := .lit (.bool _)) rfl) ?_
           refine WPD.ps false 38 rfl rfl rfl ?_
           refine WPD.ps false 39 rfl rfl rfl ?_
           refine WPD.ps false 40 rfl rfl rfl ?_
           refine WPD.ps false 41 rfl rfl rfl ?_
           refine WPD.ps false 42 rfl rfl rfl ?_
           refine WPD.tT 43 rfl (q_pickF (v := .lit (.bool _)) rfl rfl) ?_
           refine WPD.tT 44 rfl (q_mv (v := .lit (.bool _)) rfl) ?_
           refine WPD.ps false 45 rfl rfl rfl ?_
           refine WPD.ps false 46 rfl rfl rfl ?_
           refine WPD.ps false 47 rfl rfl rfl ?_
           refine WPD.ps false 48 rfl rfl rfl ?_
           refine WPD.ps false 49 rfl rfl rfl ?_
           refine WPD.ps false 50 rfl rfl rfl ?_
           refine WPD.ps false 51 rfl rfl rfl ?_
           refine WPD.tT 52 rfl (q_pickF (v := .lit (.bool _)) rfl rfl) ?_
           refine WPD.tT 53 rfl (q_mv (v := .lit (.bool _)) rfl) ?_
           refine WPD.ps false 54 rfl rfl rfl ?_
           refine WPD.tT 55 rfl (q_pickF (v := .lit (.bool _)) rfl rfl) ?_
           refine WPD.tT 56 rfl (q_as (v := .lit (.bool _)) rfl) ?_
           refine WPD.doneW (by kernel_rfl) ?_
           have q0 := j1 H
           subst q0
           exact W.wk [] hnp r3 ⟨rfl, trivial, by decide, rfl, trivial⟩ (LeE.u (LeE.none rfl rfl)) rfl
         replace H := cnf hb6 H
         refine WPD.ps false 28 rfl rfl (lb hb6) ?_
         refine WPD.ps false 29 rfl rfl (lb hb6) ?_
         refine WPD.ps false 30 rfl rfl (lb hb6) ?_
         refine WPD.tT 31 rfl (q_pickF (v := .lit (.bool _)) (lb hb6) rfl) ?_
         refine WPD.tT 32 rfl (q_mv (v := .lit (.bool _)) rfl) ?_
         refine WPD.ps false 33 rfl rfl rfl ?_
         refine WPD.ps false 34 rfl rfl rfl ?_
         refine WPD.ps false 35 rfl rfl rfl ?_
         refine WPD.tT 36 rfl (q_pickF (v := .lit (.bool _)) rfl rfl) ?_
         refine WPD.tT 37 rfl (q_mv (v := .lit (.bool _)) rfl) ?_
         refine WPD.ps false 38 rfl rfl rfl ?_
         refine WPD.ps false 39 rfl rfl rfl ?_
         refine WPD.ps false 40 rfl rfl rfl ?_
         refine WPD.ps false 41 rfl rfl rfl ?_
         refine WPD.ps false 42 rfl rfl rfl ?_
         refine WPD.tT 43 rfl (q_pickF (v := .lit (.bool _)) rfl rfl) ?_
         refine WPD.tT 44 rfl (q_mv (v := .lit (.bool _)) rfl) ?_
         refine WPD.ps false 45 rfl rfl rfl ?_
         refine WPD.ps false 46 rfl rfl rfl ?_
         refine WPD.ps false 47 rfl rfl rfl ?_
         refine WPD.ps false 48 rfl rfl rfl ?_
         refine WPD.ps false 49 rfl rfl rfl ?_
         refine WPD.ps false 50 rfl rfl rfl ?_
         refine WPD.ps false 51 rfl rfl rfl ?_
         refine WPD.tT 52 rfl (q_pickF (v := .lit (.bool _)) rfl rfl) ?_
         refine WPD.tT 53 rfl (q_mv (v := .lit (.bool _)) rfl) ?_
         refine WPD.ps false 54 rfl rfl rfl ?_
         refine WPD.tT 55 rfl (q_pickF (v := .lit (.bool _)) rfl rfl) ?_
         refine WPD.tT 56 rfl (q_as (v := .lit (.bool _)) rfl) ?_
         refine WPD.doneW (by kernel_rfl) ?_
         have q0 := j1 H
         subst q0
         exact W.wk [] hnp r3 ⟨rfl, trivial, by decide, rfl, trivial⟩ (LeE.u (LeE.none rfl rfl)) rfl
       replace H := cnf hb5 H
       refine WPD.ps false 22 rfl rfl (lb hb5) ?_
       refine WPD.ps false 23 rfl rfl (lb hb5) ?_
       refine WPD.ps false 24 rfl rfl (lb hb5) ?_
       refine WPD.ps false 25 rfl rfl (lb hb5) ?_
       refine WPD.tT 26 rfl (q_pickF (v := .lit (.bool _)) (lb hb5) rfl) ?_
       refine WPD.tT 27 rfl (q_mv (v := .lit (.bool _)) rfl) ?_
       refine WPD.ps false 28 rfl rfl rfl ?_
       refine WPD.ps false 29 rfl rfl rfl ?_
       refine WPD.ps false 30 rfl rfl rfl ?_
       refine WPD.tT 31 rfl (q_pickF (v := .lit (.bool _)) rfl rfl) ?_
       refine WPD.tT 32 rfl (q_mv (v := .lit (.bool _)) rfl) ?_
       refine WPD.ps false 33 rfl rfl rfl ?_
       refine WPD.ps false 34 rfl rfl rfl ?_
       refine WPD.ps false 35 rfl rfl rfl ?_
       refine WPD.tT 36 rfl (q_pickF (v := .lit (.bool _)) rfl rfl) ?_
       refine WPD.tT 37 rfl (q_mv (v := .lit (.bool _)) rfl) ?_
       refine WPD.ps false 38 rfl rfl rfl ?_
       refine WPD.ps false 39 rfl rfl rfl ?_
       refine WPD.ps false 40 rfl rfl rfl ?_
       refine WPD.ps false 41 rfl rfl rfl ?_
       refine WPD.ps false 42 rfl rfl rfl ?_
       refine WPD.tT 43 rfl (q_pickF (v := .lit (.bool _)) rfl rfl) ?_
       refine WPD.tT 44 rfl (q_mv (v := .lit (.bool _)) rfl) ?_
       refine WPD.ps false 45 rfl rfl rfl ?_
       refine WPD.ps false 46 rfl rfl rfl ?_
       refine WPD.ps false 47 rfl rfl rfl ?_
       refine WPD.ps false 48 rfl rfl rfl ?_
       refine WPD.ps false 49 rfl rfl rfl ?_
       refine WPD.ps false 50 rfl rfl rfl ?_
       refine WPD.ps false 51 rfl rfl rfl ?_
       refine WPD.tT 52 rfl (q_pickF (v := .lit (.bool _)) rfl rfl) ?_
       refine WPD.tT 53 rfl (q_mv (v := .lit (.bool _)) rfl) ?_
       refine WPD.ps false 54 rfl rfl rfl ?_
       refine WPD.tT 55 rfl (q_pickF (v := .lit (.bool _)) rfl rfl) ?_
       refine WPD.tT 56 rfl (q_as (v := .lit (.bool _)) rfl) ?_
       refine WPD.doneW (by kernel_rfl) ?_
       have q0 := j1 H
       subst q0
       exact W.wk [] hnp r3 ⟨rfl, trivial, by decide, rfl, trivial⟩ (LeE.u (LeE.none rfl rfl)) rfl
     replace H := cnf hb4 H
     refine WPD.ps false 15 rfl rfl (lb hb4) ?_
     refine WPD.ps false 16 rfl rfl (lb hb4) ?_
     refine WPD.ps false 17 rfl rfl (lb hb4) ?_
     refine WPD.ps false 18 rfl rfl (lb hb4) ?_
     refine WPD.ps false 19 rfl rfl (lb hb4) ?_
     refine WPD.tT 20 rfl (q_pickF (v := .lit (.bool _)) (lb hb4) rfl) ?_
     refine WPD.tT 21 rfl (q_mv (v := .lit (.bool _)) rfl) ?_
     refine WPD.ps false 22 rfl rfl rfl ?_
     refine WPD.ps false 23 rfl rfl rfl ?_
     refine WPD.ps false 24 rfl rfl rfl ?_
     refine WPD.ps false 25 rfl rfl rfl ?_
     refine WPD.tT 26 rfl (q_pickF (v := .lit (.bool _)) rfl rfl) ?_
     refine WPD.tT 27 rfl (q_mv (v := .lit (.bool _)) rfl) ?_
     refine WPD.ps false 28 rfl rfl rfl ?_
     refine WPD.ps false 29 rfl rfl rfl ?_
     refine WPD.ps false 30 rfl rfl rfl ?_
     refine WPD.tT 31 rfl (q_pickF (v := .lit (.bool _)) rfl rfl) ?_
     refine WPD.tT 32 rfl (q_mv (v := .lit (.bool _)) rfl) ?_
     refine WPD.ps false 33 rfl rfl rfl ?_
     refine WPD.ps false 34 rfl rfl rfl ?_
     refine WPD.ps false 35 rfl rfl rfl ?_
     refine WPD.tT 36 rfl (q_pickF (v := .lit (.bool _)) rfl rfl) ?_
     refine WPD.tT 37 rfl (q_mv (v := .lit (.bool _)) rfl) ?_
     refine WPD.ps false 38 rfl rfl rfl ?_
     refine WPD.ps false 39 rfl rfl rfl ?_
     refine WPD.ps false 40 rfl rfl rfl ?_
     refine WPD.ps false 41 rfl rfl rfl ?_
     refine WPD.ps false 42 rfl rfl rfl ?_
     refine WPD.tT 43 rfl (q_pickF (v := .lit (.bool _)) rfl rfl) ?_
     refine WPD.tT 44 rfl (q_mv (v := .lit (.bool _)) rfl) ?_
     refine WPD.ps false 45 rfl rfl rfl ?_
     refine WPD.ps false 46 rfl rfl rfl ?_
     refine WPD.ps false 47 rfl rfl rfl ?_
     refine WPD.ps false 48 rfl rfl rfl ?_
     refine WPD.ps false 49 rfl rfl rfl ?_
     refine WPD.ps false 50 rfl rfl rfl ?_
     refine WPD.ps false 51 rfl rfl rfl ?_
     refine WPD.tT 52 rfl (q_pickF (v := .lit (.bool _)) rfl rfl) ?_
     refine WPD.tT 53 rfl (q_mv (v := .lit (.bool _)) rfl) ?_
     refine WPD.ps false 54 rfl rfl rfl ?_
     refine WPD.tT 55 rfl (q_pickF (v := .lit (.bool _)) rfl rfl) ?_
     refine WPD.tT 56 rfl (q_as (v := .lit (.bool _)) rfl) ?_
     refine WPD.doneW (by kernel_rfl) ?_
     have q0 := j1 H
     subst q0
     exact W.wk [] hnp r3 ⟨rfl, trivial, by decide, rfl, trivial⟩ (LeE.u (LeE.none rfl rfl)) rfl
   replace H := cnf hb3 H
   refine WPD.ps false 8 rfl rfl (lb hb3) ?_
   refine WPD.ps false 9 rfl rfl (lb hb3) ?_
   refine WPD.ps false 10 rfl rfl (lb hb3) ?_
   refine WPD.ps false 11 rfl rfl (lb hb3) ?_
   refine WPD.ps false 12 rfl rfl (lb hb3) ?_
   refine WPD.tT 13 rfl (q_pickF (v := .lit (.bool _)) (lb hb3) rfl) ?_
   refine WPD.tT 14 rfl (q_mv (v := .lit (.bool _)) rfl) ?_
   refine WPD.ps false 15 rfl rfl rfl ?_
   refine WPD.ps false 16 rfl rfl rfl ?_
   refine WPD.ps false 17 rfl rfl rfl ?_
   refine WPD.ps false 18 rfl rfl rfl ?_
   refine WPD.ps false 19 rfl rfl rfl ?_
   refine WPD.tT 20 rfl (q_pickF (v := .lit (.bool _)) rfl rfl) ?_
   refine WPD.tT 21 rfl (q_mv (v := .lit (.bool _)) rfl) ?_
   refine WPD.ps false 22 rfl rfl rfl ?_
   refine WPD.ps false 23 rfl rfl rfl ?_
   refine WPD.ps false 24 rfl rfl rfl ?_
   refine WPD.ps false 25 rfl rfl rfl ?_
   refine WPD.tT 26 rfl (q_pickF (v := .lit (.bool _)) rfl rfl) ?_
   refine WPD.tT 27 rfl (q_mv (v := .lit (.bool _)) rfl) ?_
   refine WPD.ps false 28 rfl rfl rfl ?_
   refine WPD.ps false 29 rfl rfl rfl ?_
   refine WPD.ps false 30 rfl rfl rfl ?_
   refine WPD.tT 31 rfl (q_pickF (v := .lit (.bool _)) rfl rfl) ?_
   refine WPD.tT 32 rfl (q_mv (v := .lit (.bool _)) rfl) ?_
   refine WPD.ps false 33 rfl rfl rfl ?_
   refine WPD.ps false 34 rfl rfl rfl ?_
   refine WPD.ps false 35 rfl rfl rfl ?_
   refine WPD.tT 36 rfl (q_pickF (v := .lit (.bool _)) rfl rfl) ?_
   refine WPD.tT 37 rfl (q_mv (v := .lit (.bool _)) rfl) ?_
   refine WPD.ps false 38 rfl rfl rfl ?_
   refine WPD.ps false 39 rfl rfl rfl ?_
   refine WPD.ps false 40 rfl rfl rfl ?_
   refine WPD.ps false 41 rfl rfl rfl ?_
   refine WPD.ps false 42 rfl rfl rfl ?_
   refine WPD.tT 43 rfl (q_pickF (v := .lit (.bool _)) rfl rfl) ?_
   refine WPD.tT 44 rfl (q_mv (v := .lit (.bool _)) rfl) ?_
   refine WPD.ps false 45 rfl rfl rfl ?_
   refine WPD.ps false 46 rfl rfl rfl ?_
   refine WPD.ps false 47 rfl rfl rfl ?_
   refine WPD.ps false 48 rfl rfl rfl ?_
   refine WPD.ps false 49 rfl rfl rfl ?_
   refine WPD.ps false 50 rfl rfl rfl ?_
   refine WPD.ps false 51 rfl rfl rfl ?_
   refine WPD.tT 52 rfl (q_pickF (v := .lit (.bool _)) rfl rfl) ?_
   refine WPD.tT 53 rfl (q_mv (v := .lit (.bool _)) rfl) ?_
   refine WPD.ps false 54 rfl rfl rfl ?_
   refine WPD.tT 55 rfl (q_pickF (v := .lit (.bool _)) rfl rfl) ?_
   refine WPD.tT 56 rfl (q_as (v := .lit (.bool _)) rfl) ?_
   refine WPD.doneW (by kernel_rfl) ?_
   have q0 := j1 H
   subst q0
   exact W.wk [] hnp r3 ⟨rfl, trivial, by decide, rfl, trivial⟩ (LeE.u (LeE.none rfl rfl)) rfl
 rintro _ _ _ ⟨rfl, rfl, rfl⟩
 refine W.now ?_
 refine Then.n ?_
 refine WP.retW ?_
 have q0 := j1 H
 subst q0
 exact W.now (BodyR.mkR trivial rfl [] ⟨rfl, rfl⟩ ⟨rfl, trivial, by decide, rfl, trivial⟩ rfl rfl)
end Go.Proofs.YthpcgknknpjpdaaGreatDoor.W
set_option linter.unusedVariables false
set_option linter.unusedSimpArgs false
namespace Go.Dz
/-- A number, 10 to the 500000 times it. -/
def val (m e : Int) : Int := m * 10 ^ (e + 500000).toNat
theorem p10 (n : Nat) : (0 : Int) < 10 ^ n := Int.pow_pos (by decide)
theorem val_shift {m e : Int} {j : Nat} (he : -500000 ≤ e) : val (m * 10 ^ j) e = val m (e + j) := by
  unfold val
  rw [Int.mul_assoc, ← Int.pow_add, show j + (e + 500000).toNat = (e + j + 500000).toNat by omega]
theorem val_inj {m m' e : Int} (h : val m e = val m' e) : m = m' := by
  unfold val at h
  exact Int.eq_of_mul_eq_mul_right (Int.ne_of_gt (p10 _)) h
theorem val_zero {e : Int} : val 0 e = 0 := by simp [val]
theorem val_eq_zero {m e : Int} (h : val m e = 0) : m = 0 := by
  unfold val at h
  rcases Int.mul_eq_zero.1 h with h | h
  · exact h
  · exact absurd h (Int.ne_of_gt (p10 _))
/-- Two numbers that are equal: one has noughts more. -/
theorem val_rep {m m' e e' : Int} (he : -500000 ≤ e) (hle : e ≤ e') (h : val m e = val m' e') : m = m' * 10 ^ (e' - e).toNat := by
  have h1 := val_shift (m := m') (e := e) (j := (e' - e).toNat) he
  rw [show e + ((e' - e).toNat : Int) = e' by omega, ← h] at h1
  exact (val_inj h1).symm
/-- What a Dec may be. -/
def Canon (c x : Int) : Prop := (c = 0 ∧ x = 0) ∨ (c ≠ 0 ∧ -18 ≤ x ∧ x ≤ 18 ∧ -9223372036854775808 ≤ c ∧ c ≤ 9223372036854775807 ∧ (x = 18 ∨ ¬ (10 : Int) ∣ c))
theorem Canon.rng {c x : Int} (h : Canon c x) : -18 ≤ x ∧ x ≤ 18 ∧ -9223372036854775808 ≤ c ∧ c ≤ 9223372036854775807 := by
  rcases h with ⟨rfl, rfl⟩ | ⟨_, h1, h2, h3, h4, _⟩ <;> omega
theorem dvd_pow10 {m : Int} {n : Nat} (h : n ≠ 0) : (10 : Int) ∣ m * 10 ^ n := by
  obtain ⟨k, rfl⟩ : ∃ k, n = k + 1 := ⟨n - 1, by omega⟩
  exact ⟨m * 10 ^ k, by rw [Int.pow_succ]; rw [← Int.mul_assoc, Int.mul_comm]⟩
theorem Canon.uniq' {c x c' x' : Int} (h : Canon c x) (h' : Canon c' x') (hle : x ≤ x') (e : val c x = val c' x') : c = c' ∧ x = x' := by
  have r := h.rng
  have e1 := val_rep (by omega) hle e
  by_cases hc : c = 0
  · subst hc
    rw [val_zero] at e
    have hc' := val_eq_zero e.symm
    subst hc'
    rcases h with ⟨_, hx⟩ | ⟨h0, _⟩
    · rcases h' with ⟨_, hx'⟩ | ⟨h0, _⟩
      · exact ⟨rfl, by omega⟩
      · exact absurd rfl h0
    · exact absurd rfl h0
  · have hc' : c' ≠ 0 := by rintro rfl; simp at e1; exact hc e1
    by_cases hx : x = x'
    · subst hx
      exact ⟨val_inj e, rfl⟩
    · have h10 : (10 : Int) ∣ c := by rw [e1]; exact dvd_pow10 (by omega)
      have r' := h'.rng
      rcases h with ⟨h0, _⟩ | ⟨_, _, _, _, _, h5 | h5⟩
      · exact absurd h0 hc
      · omega
      · exact absurd h10 h5
theorem Canon.uniq {c x c' x' : Int} (h : Canon c x) (h' : Canon c' x') (e : val c x = val c' x') : c = c' ∧ x = x' := by
  by_cases hle : x ≤ x'
  · exact h.uniq' h' hle e
  · obtain ⟨h1, h2⟩ := h'.uniq' h (by omega) e.symm
    exact ⟨h1.symm, h2.symm⟩
/-- The right Dec of a number, or that there is none. -/
def Tells (p : Int → Prop) (r : (Int × Int) × Int) : Prop :=
  (r.2 = 0 ∧ Canon r.1.1 r.1.2 ∧ p (val r.1.1 r.1.2)) ∨ (r = ((0, 0), 30) ∧ ∀ c x, Canon c x → ¬ p (val c x))
theorem Tells.uniq {p : Int → Prop} {r r' : (Int × Int) × Int} (hp : ∀ a b, p a → p b → a = b) (h : Tells p r) (h' : Tells p r') : r = r' := by
  obtain ⟨⟨c, x⟩, e⟩ := r
  obtain ⟨⟨c', x'⟩, e'⟩ := r'
  rcases h with ⟨h1, h2, h3⟩ | ⟨h1, h2⟩
  · rcases h' with ⟨k1, k2, k3⟩ | ⟨k1, k2⟩
    · have := h2.uniq k2 (hp _ _ h3 k3)
      simp only at h1 k1 this
      rw [h1, k1, this.1, this.2]
    · exact absurd h3 (k2 _ _ h2)
  · rcases h' with ⟨k1, k2, k3⟩ | ⟨k1, k2⟩
    · exact absurd k3 (h2 _ _ k2)
    · rw [h1, k1]
/-- The Decs of a number whose last digit is not nought. -/
theorem canon_iff {m e c x : Int} (hm : m ≠ 0) (hd : ¬ (10 : Int) ∣ m) (he : -500000 ≤ e) : (Canon c x ∧ val c x = val m e) ↔ (x = (if e > 18 then 18 else e) ∧ c = m * 10 ^ (e - x).toNat ∧ -18 ≤ x ∧ -9223372036854775808 ≤ c ∧ c ≤ 9223372036854775807) := by
  constructor
  · rintro ⟨h, e1⟩
    have r := h.rng
    have hc : c ≠ 0 := by
      rintro rfl
      rw [val_zero] at e1
      exact hm (val_eq_zero e1.symm)
    by_cases hle : x ≤ e
    · have e2 := val_rep (by omega) hle e1
      refine ⟨?_, e2, by omega, by omega, by omega⟩
      by_cases hxe : x = e
      · rw [if_neg (by omega), hxe]
      · have h10 : (10 : Int) ∣ c := by rw [e2]; exact dvd_pow10 (by omega)
        rcases h with ⟨h0, _⟩ | ⟨_, _, _, _, _, h5 | h5⟩
        · exact absurd h0 hc
        · rw [if_pos (by omega), h5]
        · exact absurd h10 h5
    · have e2 := val_rep he (by omega) e1.symm
      exact absurd (by rw [e2]; exact dvd_pow10 (by omega)) hd
  · rintro ⟨h1, h2, h3, h4, h5⟩
    have hx : x ≤ e := by split at h1 <;> omega
    have e1 : val c x = val m e := by
      rw [h2, val_shift (by omega), show x + ((e - x).toNat : Int) = e by omega]
    refine ⟨?_, e1⟩
    have hc : c ≠ 0 := by
      rintro rfl
      rw [val_zero] at e1
      exact hm (val_eq_zero e1.symm)
    refine .inr ⟨hc, h3, by split at h1 <;> omega, h4, h5, ?_⟩
    split at h1
    · exact .inl h1
    · refine .inr ?_
      subst h1
      rw [h2]
      simpa using hd
theorem tells_some {m e c x : Int} (hm : m ≠ 0) (hd : ¬ (10 : Int) ∣ m) (he : -500000 ≤ e) (h : x = (if e > 18 then 18 else e) ∧ c = m * 10 ^ (e - x).toNat ∧ -18 ≤ x ∧ -9223372036854775808 ≤ c ∧ c ≤ 9223372036854775807) : Tells (· = val m e) ((c, x), 0) :=
  .inl ⟨rfl, (canon_iff hm hd he).2 h⟩
theorem tells_none {m e : Int} (hm : m ≠ 0) (hd : ¬ (10 : Int) ∣ m) (he : -500000 ≤ e) (h : e < -18 ∨ ¬ (-9223372036854775808 ≤ m * 10 ^ (e - 18).toNat ∧ m * 10 ^ (e - 18).toNat ≤ 9223372036854775807)) : Tells (· = val m e) ((0, 0), 30) := by
  refine .inr ⟨rfl, fun c x hc e1 => ?_⟩
  obtain ⟨h1, h2, h3, h4, h5⟩ := (canon_iff hm hd he).1 ⟨hc, e1⟩
  split at h1
  · subst h1
    rw [h2] at h4 h5
    omega
  · subst h1
    have : (x - 18).toNat = 0 := by omega
    rw [this] at h
    simp at h h2
    omega
theorem tells_zero {e : Int} : Tells (· = val 0 e) ((0, 0), 0) := .inl ⟨rfl, .inl ⟨rfl, rfl⟩, by simp [val_zero]⟩
/-- A whole number of sixty-four bits. -/
def I64 (c : Int) : Prop := -9223372036854775808 ≤ c ∧ c ≤ 9223372036854775807
/-- The exponents that may be. -/
def Rng (e : Int) : Prop := -18 ≤ e ∧ e ≤ 18
instance (e : Int) : Decidable (Rng e) := by unfold Rng; infer_instance
theorem Canon.i64 {c x : Int} (h : Canon c x) : I64 c := ⟨h.rng.2.2.1, h.rng.2.2.2⟩
theorem Canon.rg {c x : Int} (h : Canon c x) : Rng x := ⟨h.rng.1, h.rng.2.1⟩
end Go.Dz
namespace Go.Dz
theorem est_le {B y u d q r : Nat} (hB : 0 < B) (hy : 0 < y) (hq : q * (y / B) + r = u) (h : q * (y % B) ≤ B * r + d) : q ≤ (u * B + d) / y := by
  rw [Nat.le_div_iff_mul_le hy]
  have e : y = y / B * B + y % B := (Nat.div_add_mod' y B).symm
  have : q * y = q * (y / B) * B + q * (y % B) := by
    conv => lhs; rw [e]
    rw [Nat.mul_add, Nat.mul_assoc]
  rw [this, ← hq, Nat.add_mul, Nat.mul_comm r B]
  omega
theorem est_gt {B y u d q r : Nat} (hB : 0 < B) (hu : u < y) (hd : d < B) (hq : q * (y / B) + r = u) (h : B ≤ q ∨ B * r + d < q * (y % B)) : (u * B + d) / y < q := by
  rw [Nat.div_lt_iff_lt_mul (by omega)]
  rcases h with h | h
  · have h1 : (u + 1) * B ≤ y * B := Nat.mul_le_mul_right B hu
    have h2 : B * y ≤ q * y := Nat.mul_le_mul_right y h
    rw [Nat.add_mul, Nat.mul_comm y B] at h1
    omega
  · have e : y = y / B * B + y % B := (Nat.div_add_mod' y B).symm
    have : q * y = q * (y / B) * B + q * (y % B) := by
      conv => lhs; rw [e]
      rw [Nat.mul_add, Nat.mul_assoc]
    rw [this, ← hq, Nat.add_mul, Nat.mul_comm r B]
    omega
theorem est_stop {B y u d q r : Nat} (hB : 0 < B) (hy : 0 < y) (hq : q * (y / B) + r = u) (hqB : q ≤ B) (hr : B ≤ r) : q ≤ (u * B + d) / y := by
  refine est_le hB hy hq ?_
  have h1 : q * (y % B) ≤ B * (y % B) := Nat.mul_le_mul_right _ hqB
  have h2 : B * (y % B) ≤ B * r := Nat.mul_le_mul_left _ (by have := Nat.mod_lt y hB; omega)
  omega
theorem est_first {B y u : Nat} (hu : u < y) (hB : 2 ≤ B) (hn : B ≤ 2 * (y / B)) : u / (y / B) ≤ B + 1 := by
  have hp : 0 < y / B := by omega
  have : u / (y / B) < B + 2 := by
    rw [Nat.div_lt_iff_lt_mul hp]
    have e : y = y / B * B + y % B := (Nat.div_add_mod' y B).symm
    have hm := Nat.mod_lt y (show 0 < B by omega)
    have : (B + 2) * (y / B) = y / B * B + 2 * (y / B) := by rw [Nat.add_mul, Nat.mul_comm B]
    omega
  omega
theorem est_ge {B y u d : Nat} (hB : 0 < B) (hy : B ≤ y) (hd : d < B) : (u * B + d) / y ≤ u / (y / B) := by
  have hp : 0 < y / B := Nat.div_pos hy hB
  rw [Nat.le_div_iff_mul_le hp]
  have h1 : (u * B + d) / y * y ≤ u * B + d := Nat.div_mul_le_self _ _
  have h2 : (u * B + d) / y * (y / B * B) ≤ (u * B + d) / y * y := Nat.mul_le_mul_left _ (Nat.div_mul_le_self _ _)
  rw [← Nat.mul_assoc] at h2
  generalize (u * B + d) / y * (y / B) = z at *
  have : z * B < (u + 1) * B := by rw [Nat.add_mul]; omega
  exact Nat.le_of_lt_succ (Nat.lt_of_mul_lt_mul_right this)
/-- Two digits, one behind the other. -/
theorem two_digits {B y u d1 d0 : Nat} (hy : 0 < y) : ((u * B + d1) * B + d0) / y = (u * B + d1) / y * B + ((u * B + d1) % y * B + d0) / y ∧ ((u * B + d1) * B + d0) % y = ((u * B + d1) % y * B + d0) % y := by
  have e : (u * B + d1) * B + d0 = y * ((u * B + d1) / y * B) + ((u * B + d1) % y * B + d0) := by
    conv => lhs; rw [← Nat.div_add_mod (u * B + d1) y]
    rw [Nat.add_mul, Nat.mul_assoc]
    omega
  rw [e, Nat.mul_add_div hy, Nat.mul_add_mod]
  exact ⟨rfl, rfl⟩
end Go.Dz
set_option linter.unusedVariables false
set_option linter.unusedSimpArgs false
namespace Go.Dz
def digs (n : Nat) : List Int := if h : n = 0 then [] else ((n % 10 : Nat) : Int) :: digs (n / 10)
termination_by n
decreasing_by omega
theorem digs_zero : digs 0 = [] := by rw [digs]; rfl
theorem digs_pos {n : Nat} (h : n ≠ 0) : digs n = ((n % 10 : Nat) : Int) :: digs (n / 10) := by rw [digs]; simp [h]
def nval : List Int → Nat
  | [] => 0
  | d :: l => d.toNat + 10 * nval l
def Dig (l : List Int) : Prop := ∀ d ∈ l, 0 ≤ d ∧ d ≤ 9
theorem Dig.nil : Dig [] := by intro d h; simp at h
theorem Dig.cons {d : Int} {l : List Int} (h0 : 0 ≤ d) (h9 : d ≤ 9) (h : Dig l) : Dig (d :: l) := by
  intro x hx
  rcases List.mem_cons.1 hx with rfl | hx
  · exact ⟨h0, h9⟩
  · exact h x hx
theorem Dig.head {d : Int} {l : List Int} (h : Dig (d :: l)) : 0 ≤ d ∧ d ≤ 9 := h d (by simp)
theorem Dig.tail {d : Int} {l : List Int} (h : Dig (d :: l)) : Dig l := fun x hx => h x (List.mem_cons_of_mem _ hx)
theorem Dig.app {l r : List Int} (h : Dig l) (k : Dig r) : Dig (l ++ r) := by
  intro x hx
  rcases List.mem_append.1 hx with hx | hx
  · exact h x hx
  · exact k x hx
theorem digs_dig : ∀ n, Dig (digs n) := by
  intro n
  induction n using Nat.strongRecOn with
  | _ n ih =>
    by_cases h : n = 0
    · subst h; rw [digs_zero]; exact Dig.nil
    · rw [digs_pos h]; exact Dig.cons (by omega) (by omega) (ih _ (by omega))
theorem nval_digs : ∀ n, nval (digs n) = n := by
  intro n
  induction n using Nat.strongRecOn with
  | _ n ih =>
    by_cases h : n = 0
    · subst h; rw [digs_zero]; rfl
    · rw [digs_pos h, nval, ih _ (by omega)]; omega
theorem digs_nil {n : Nat} : digs n = [] ↔ n = 0 := by
  constructor
  · intro h; rw [← nval_digs n, h]; rfl
  · rintro rfl; exact digs_zero
theorem digs_len0 {n : Nat} : (digs n).length = 0 ↔ n = 0 := by rw [List.length_eq_zero_iff, digs_nil]
theorem digs_cons {d : Int} {n : Nat} (h0 : 0 ≤ d) (h9 : d ≤ 9) (h : d.toNat + 10 * n ≠ 0) : digs (d.toNat + 10 * n) = d :: digs n := by
  rw [digs_pos h, show (d.toNat + 10 * n) / 10 = n by omega, show (((d.toNat + 10 * n) % 10 : Nat) : Int) = d by omega]
/-- Without noughts at the end. -/
theorem digs_nval : ∀ {l : List Int}, Dig l → ∀ {n : Nat}, n ≤ l.length → (∀ i, n ≤ i → i < l.length → l.getD i 0 = 0) → (n ≠ 0 → l.getD (n - 1) 0 ≠ 0) → digs (nval l) = l.take n
  | [], _, n, hn, _, _ => by simp [nval, digs_zero]
  | d :: l, hd, n, hn, h0, h1 => by
    cases n with
    | zero =>
      have hz : d = 0 := by simpa using h0 0 (by omega) (by simp)
      have := digs_nval hd.tail (n := 0) (Nat.zero_le _) (fun i hi hl => by simpa using h0 (i + 1) (by omega) (by simpa using hl)) (by omega)
      have hv : nval l = 0 := by
        have := congrArg nval this
        rw [nval_digs] at this
        simpa [nval] using this
      rw [nval, hv, hz]; simp [digs_zero]
    | succ n =>
      have ih := digs_nval hd.tail (n := n) (by simpa using hn) (fun i hi hl => by simpa using h0 (i + 1) (by omega) (by simpa using hl)) (fun hn0 => by
        have := h1 (by omega)
        obtain ⟨m, rfl⟩ : ∃ m, n = m + 1 := ⟨n - 1, by omega⟩
        simpa using this)
      have hne : d.toNat + 10 * nval l ≠ 0 := by
        intro he
        have hv : nval l = 0 := by omega
        rw [hv, digs_zero] at ih
        cases n with
        | zero =>
          have := h1 (by omega)
          simp at this
          have := hd.head
          omega
        | succ n =>
          have := congrArg List.length ih
          simp at this hn
          omega
      rw [nval, digs_cons hd.head.1 hd.head.2 hne, ih, List.take_succ_cons]
theorem nval_app : ∀ (l r : List Int), nval (l ++ r) = nval l + 10 ^ l.length * nval r
  | [], r => by simp [nval]
  | d :: l, r => by
    rw [List.cons_append, nval, nval, nval_app l r, List.length_cons, Nat.pow_succ, Nat.mul_add, Nat.add_assoc, ← Nat.mul_assoc, Nat.mul_comm 10 (10 ^ l.length)]
theorem nval_lt : ∀ {l : List Int}, Dig l → nval l < 10 ^ l.length
  | [], _ => by simp [nval]
  | d :: l, h => by
    have := nval_lt h.tail
    have := h.head
    rw [nval, List.length_cons, Nat.pow_succ]
    omega
theorem digs_lt {n : Nat} : n < 10 ^ (digs n).length := by
  have := nval_lt (digs_dig n)
  rwa [nval_digs] at this
theorem digs_ge {n : Nat} (h : n ≠ 0) : 10 ^ ((digs n).length - 1) ≤ n := by
  induction n using Nat.strongRecOn with
  | _ n ih =>
    rw [digs_pos h, List.length_cons, Nat.add_sub_cancel]
    by_cases h1 : n / 10 = 0
    · rw [h1, digs_zero]; simp; omega
    · have := ih _ (by omega) h1
      have h2 : (digs (n / 10)).length ≠ 0 := by rw [Ne, digs_len0]; exact h1
      obtain ⟨m, hm⟩ : ∃ m, (digs (n / 10)).length = m + 1 := ⟨_, (Nat.succ_pred h2).symm⟩
      rw [hm] at this ⊢
      rw [Nat.add_sub_cancel] at this
      rw [Nat.pow_succ]
      omega
theorem digs_len_le {n m : Nat} (h : n < 10 ^ m) : (digs n).length ≤ m := by
  by_cases h0 : n = 0
  · subst h0; rw [digs_zero]; simp
  · have := digs_ge h0
    have h1 : (digs n).length - 1 < m := (Nat.pow_lt_pow_iff_right (by decide : 1 < 10)).1 (Nat.lt_of_le_of_lt this h)
    omega
theorem digs_at {n : Nat} : ∀ {i : Nat}, (digs n).getD i 0 = ((n / 10 ^ i % 10 : Nat) : Int) := by
  intro i
  induction i generalizing n with
  | zero =>
    by_cases h : n = 0
    · subst h; rw [digs_zero]; simp
    · rw [digs_pos h]; simp
  | succ i ih =>
    by_cases h : n = 0
    · subst h; rw [digs_zero]; simp
    · rw [digs_pos h]
      have := @ih (n / 10)
      rw [Nat.div_div_eq_div_mul, Nat.mul_comm] at this
      simpa [Nat.pow_succ] using this
end Go.Dz
namespace Go.Proofs.YthpcgknknpjpdaaGreatDoor.W
open Go Go.Q Go.Proofs Go.Dz
set_option linter.unusedVariables false
set_option linter.unusedSimpArgs false
theorem wU (n : Nat) : IntKind.wrap .u64 (n : Int) = ((n % 18446744073709551616 : Nat) : Int) := by
  simp [IntKind.wrap, IntKind.bits, IntKind.signed]
theorem wUi (n : Int) : IntKind.wrap .u64 n = n % 18446744073709551616 := by
  simp [IntKind.wrap, IntKind.bits, IntKind.signed]
theorem wUl {n : Nat} (h : n < 18446744073709551616) : IntKind.wrap .u64 (n : Int) = (n : Int) := by rw [wU, Nat.mod_eq_of_lt h]
theorem bvU {n : Nat} (h : n < 18446744073709551616) : (n : Int) = ((BitVec.ofNat 64 n).toNat : Int) := by
  rw [BitVec.toNat_ofNat, Nat.mod_eq_of_lt (by simpa using h)]
theorem and32 {n : Nat} (h : n < 18446744073709551616) : bits .and .u64 (n : Int) 4294967295 = ((n % 4294967296 : Nat) : Int) := by
  rw [bvU h, show (4294967295 : Int) = ((4294967295#64).toNat : Int) from rfl, u64_and, BitVec.toNat_and, BitVec.toNat_ofNat, Nat.mod_eq_of_lt (by simpa using h)]
  rw [show (4294967295#64).toNat = 2 ^ 32 - 1 from rfl, Nat.and_two_pow_sub_one_eq_mod]
theorem shrN (n : Nat) {s : Nat} (hs : s ≤ 64) : shrI .u64 (n : Int) (s : Int) = ((n / 2 ^ s : Nat) : Int) := by
  unfold shrI
  rw [Int.fdiv_eq_ediv_of_nonneg _ (Int.pow_nonneg (by decide))]
  simp [IntKind.bits, Nat.min_eq_left hs]
theorem shr32 (n : Nat) : shrI .u64 (n : Int) 32 = ((n / 4294967296 : Nat) : Int) := shrN n (s := 32) (by decide)
theorem shlN (n : Nat) {s : Nat} (hs : s ≤ 64) : shlI .u64 (n : Int) (s : Int) = ((n * 2 ^ s % 18446744073709551616 : Nat) : Int) := by
  unfold shlI
  rw [← wU]
  simp [IntKind.bits, Nat.min_eq_left hs]
theorem orN {a b s : Nat} (ha : a * 2 ^ s < 18446744073709551616) (hb : b < 2 ^ s) (hb' : b < 18446744073709551616) : bits .or .u64 ((a * 2 ^ s : Nat) : Int) (b : Int) = ((a * 2 ^ s + b : Nat) : Int) := by
  rw [bvU ha, bvU hb', u64_or, BitVec.toNat_or, BitVec.toNat_ofNat, BitVec.toNat_ofNat, Nat.mod_eq_of_lt (by simpa using ha), Nat.mod_eq_of_lt (by simpa using hb'), Nat.mul_comm, ← Nat.two_pow_add_eq_or_of_lt hb]
theorem or0 {a b : Nat} (ha : a < 18446744073709551616) (hb : b < 18446744073709551616) : bits .or .u64 (a : Int) (b : Int) = 0 ↔ a = 0 ∧ b = 0 := by
  rw [bvU ha, bvU hb, u64_or, BitVec.toNat_or, BitVec.toNat_ofNat, BitVec.toNat_ofNat, Nat.mod_eq_of_lt (by simpa using ha), Nat.mod_eq_of_lt (by simpa using hb)]
  constructor
  · intro h
    have h' : a ||| b = 0 := by exact_mod_cast h
    exact ⟨(Nat.or_eq_zero_iff.1 h').1, (Nat.or_eq_zero_iff.1 h').2⟩
  · rintro ⟨rfl, rfl⟩; rfl
/-- The upper half of a product. -/
theorem mul64 (k : Nat) {x y : Nat} (hx : x < 18446744073709551616) (hy : y < 18446744073709551616) : g_mb_Mul64 k (x : Int) (y : Int) = some ((x * y / 18446744073709551616 : Nat) : Int) := by
  unfold g_mb_Mul64
  have b0 := Nat.mod_lt x (show 0 < 4294967296 by decide)
  have c0 := Nat.mod_lt y (show 0 < 4294967296 by decide)
  have b1 : x / 4294967296 < 4294967296 := by omega
  have c1 : y / 4294967296 < 4294967296 := by omega
  have ex : x = x / 4294967296 * 4294967296 + x % 4294967296 := by omega
  have ey : y = y / 4294967296 * 4294967296 + y % 4294967296 := by omega
  simp only [and32 hx, and32 hy, shr32]
  generalize x % 4294967296 = x0 at *
  generalize y % 4294967296 = y0 at *
  generalize x / 4294967296 = x1 at *
  generalize y / 4294967296 = y1 at *
  have hp : x0 * y0 ≤ 4294967295 * 4294967295 := Nat.mul_le_mul (by omega) (by omega)
  have hq : x1 * y0 ≤ 4294967295 * 4294967295 := Nat.mul_le_mul (by omega) (by omega)
  have hr : x0 * y1 ≤ 4294967295 * 4294967295 := Nat.mul_le_mul (by omega) (by omega)
  have hs : x1 * y1 ≤ 4294967295 * 4294967295 := Nat.mul_le_mul (by omega) (by omega)
  have e : x * y = x1 * y1 * 18446744073709551616 + (x1 * y0 + x0 * y1) * 4294967296 + x0 * y0 := by
    rw [ex, ey]
    simp only [Nat.add_mul, Nat.mul_add]
    have : x1 * 4294967296 * (y1 * 4294967296) = x1 * y1 * 18446744073709551616 := by
      rw [Nat.mul_mul_mul_comm]
    have h2 : x1 * 4294967296 * y0 = x1 * y0 * 4294967296 := by rw [Nat.mul_right_comm]
    have h3 : x0 * (y1 * 4294967296) = x0 * y1 * 4294967296 := by rw [Nat.mul_assoc]
    omega
  simp only [← Int.natCast_mul]
  generalize x0 * y0 = p at *
  generalize x1 * y0 = q at *
  generalize x0 * y1 = r at *
  generalize x1 * y1 = s at *
  rw [e]
  have e1 : p % 18446744073709551616 = p := Nat.mod_eq_of_lt (by omega)
  have e2 : q % 18446744073709551616 = q := Nat.mod_eq_of_lt (by omega)
  have e3 : r % 18446744073709551616 = r := Nat.mod_eq_of_lt (by omega)
  have e4 : s % 18446744073709551616 = s := Nat.mod_eq_of_lt (by omega)
  simp only [Option.bind_some, wU, e1, e2, e3, e4, shr32, ← Int.natCast_add]
  rw [and32 (by omega)]
  simp only [← Int.natCast_add, wU, shr32]
  congr 2
  omega
end Go.Proofs.YthpcgknknpjpdaaGreatDoor.W
namespace Go.Proofs.YthpcgknknpjpdaaGreatDoor.W
open Go Go.Q Go.Proofs Go.Dz
set_option linter.unusedVariables false
set_option linter.unusedSimpArgs false
def lenTab : List Int := strInts (ByteArray.mk #[0, 1, 2, 2, 3, 3, 3, 3, 4, 4, 4, 4, 4, 4, 4, 4, 5, 5, 5, 5, 5, 5, 5, 5, 5, 5, 5, 5, 5, 5, 5, 5, 6, 6, 6, 6, 6, 6, 6, 6, 6, 6, 6, 6, 6, 6, 6, 6, 6, 6, 6, 6, 6, 6, 6, 6, 6, 6, 6, 6, 6, 6, 6, 6, 7, 7, 7, 7, 7, 7, 7, 7, 7, 7, 7, 7, 7, 7, 7, 7, 7, 7, 7, 7, 7, 7, 7, 7, 7, 7, 7, 7, 7, 7, 7, 7, 7, 7, 7, 7, 7, 7, 7, 7, 7, 7, 7, 7, 7, 7, 7, 7, 7, 7, 7, 7, 7, 7, 7, 7, 7, 7, 7, 7, 7, 7, 7, 7, 8, 8, 8, 8, 8, 8, 8, 8, 8, 8, 8, 8, 8, 8, 8, 8, 8, 8, 8, 8, 8, 8, 8, 8, 8, 8, 8, 8, 8, 8, 8, 8, 8, 8, 8, 8, 8, 8, 8, 8, 8, 8, 8, 8, 8, 8, 8, 8, 8, 8, 8, 8, 8, 8, 8, 8, 8, 8, 8, 8, 8, 8, 8, 8, 8, 8, 8, 8, 8, 8, 8, 8, 8, 8, 8, 8, 8, 8, 8, 8, 8, 8, 8, 8, 8, 8, 8, 8, 8, 8, 8, 8, 8, 8, 8, 8, 8, 8, 8, 8, 8, 8, 8, 8, 8, 8, 8, 8, 8, 8, 8, 8, 8, 8, 8, 8, 8, 8, 8, 8, 8, 8, 8, 8, 8, 8, 8, 8])
theorem lenTab_all : ((List.range 256).all fun i => match ix lenTab (i : Int) with
    | some v => decide (0 ≤ v ∧ v ≤ 8 ∧ i < 2 ^ v.toNat ∧ (i ≠ 0 → 2 ^ v.toNat ≤ 2 * i))
    | none => false) = true := by kernel_rfl
theorem lenTab_at {i : Nat} (h : i < 256) : ∃ v : Nat, ix lenTab (i : Int) = some (v : Int) ∧ v ≤ 8 ∧ i < 2 ^ v ∧ (i ≠ 0 → 2 ^ v ≤ 2 * i) := by
  have := List.all_eq_true.1 lenTab_all i (List.mem_range.2 h)
  cases hv : ix lenTab (i : Int) with
  | none => rw [hv] at this; cases this
  | some v =>
    rw [hv] at this
    simp only [decide_eq_true_eq] at this
    exact ⟨v.toNat, by rw [Int.toNat_of_nonneg this.1], by omega, this.2.2.1, this.2.2.2⟩
set_option maxRecDepth 100000 in
/-- How many bits a number has. -/
theorem len64 (k : Nat) {x : Nat} (hx : x < 18446744073709551616) (h0 : x ≠ 0) : ∃ n : Nat, g_mb_Len64 k (x : Int) = some (n : Int) ∧ n ≤ 64 ∧ x < 2 ^ n ∧ 2 ^ n ≤ 2 * x := by
  unfold g_mb_Len64
  have hl : ∀ z, ix (strInts (ByteArray.mk #[0, 1, 2, 2, 3, 3, 3, 3, 4, 4, 4, 4, 4, 4, 4, 4, 5, 5, 5, 5, 5, 5, 5, 5, 5, 5, 5, 5, 5, 5, 5, 5, 6, 6, 6, 6, 6, 6, 6, 6, 6, 6, 6, 6, 6, 6, 6, 6, 6, 6, 6, 6, 6, 6, 6, 6, 6, 6, 6, 6, 6, 6, 6, 6, 7, 7, 7, 7, 7, 7, 7, 7, 7, 7, 7, 7, 7, 7, 7, 7, 7, 7, 7, 7, 7, 7, 7, 7, 7, 7, 7, 7, 7, 7, 7, 7, 7, 7, 7, 7, 7, 7, 7, 7, 7, 7, 7, 7, 7, 7, 7, 7, 7, 7, 7, 7, 7, 7, 7, 7, 7, 7, 7, 7, 7, 7, 7, 7, 8, 8, 8, 8, 8, 8, 8, 8, 8, 8, 8, 8, 8, 8, 8, 8, 8, 8, 8, 8, 8, 8, 8, 8, 8, 8, 8, 8, 8, 8, 8, 8, 8, 8, 8, 8, 8, 8, 8, 8, 8, 8, 8, 8, 8, 8, 8, 8, 8, 8, 8, 8, 8, 8, 8, 8, 8, 8, 8, 8, 8, 8, 8, 8, 8, 8, 8, 8, 8, 8, 8, 8, 8, 8, 8, 8, 8, 8, 8, 8, 8, 8, 8, 8, 8, 8, 8, 8, 8, 8, 8, 8, 8, 8, 8, 8, 8, 8, 8, 8, 8, 8, 8, 8, 8, 8, 8, 8, 8, 8, 8, 8, 8, 8, 8, 8, 8, 8, 8, 8, 8, 8, 8, 8, 8, 8, 8, 8])) z = ix lenTab z := fun _ => rfl
  simp only [hl, bd]
  -- the three halvings
  obtain ⟨y, s, hy, hys, h1⟩ : ∃ y s : Nat, (if (4294967296 : Int) ≤ (x : Int) then some (shrI .u64 (x : Int) 32, (32 : Int)) else some ((x : Int), 0)) = some ((y : Int), (s : Int)) ∧ (s ≤ 32) ∧ y ≠ 0 ∧ y < 4294967296 ∧ y * 2 ^ s ≤ x ∧ x < (y + 1) * 2 ^ s := by
    by_cases h : (4294967296 : Int) ≤ (x : Int)
    · refine ⟨x / 4294967296, 32, ?_, by decide, ?_⟩
      · rw [if_pos h, shr32]; rfl
      · simp only [show (2 : Nat) ^ 32 = 4294967296 from rfl]; omega
    · exact ⟨x, 0, by rw [if_neg h]; rfl, by decide, by simp; omega⟩
  obtain ⟨z, t, hz, hzt, h2⟩ : ∃ z t : Nat, (if (65536 : Int) ≤ (y : Int) then some (shrI .u64 (y : Int) 16, IntKind.wrap .i64 ((s : Int) + 16)) else some ((y : Int), (s : Int))) = some ((z : Int), (t : Int)) ∧ (t ≤ 48) ∧ z ≠ 0 ∧ z < 65536 ∧ z * 2 ^ t ≤ x ∧ x < (z + 1) * 2 ^ t := by
    by_cases h : (65536 : Int) ≤ (y : Int)
    · refine ⟨y / 65536, s + 16, ?_, by omega, by omega, by omega, ?_, ?_⟩
      · rw [if_pos h, wi (by omega) (by omega), show (16 : Int) = ((16 : Nat) : Int) from rfl, shrN y (s := 16) (by decide)]; rfl
      · refine Nat.le_trans ?_ h1.2.2.1
        rw [Nat.pow_add, Nat.mul_comm (2 ^ s), ← Nat.mul_assoc]
        exact Nat.mul_le_mul_right _ (by simp only [show (2 : Nat) ^ 16 = 65536 from rfl]; omega)
      · refine Nat.lt_of_lt_of_le h1.2.2.2 ?_
        rw [Nat.pow_add, Nat.mul_comm (2 ^ s), ← Nat.mul_assoc]
        exact Nat.mul_le_mul_right _ (by simp only [show (2 : Nat) ^ 16 = 65536 from rfl]; omega)
    · exact ⟨y, s, by rw [if_neg h], by omega, by omega, by omega, h1.2.2⟩
  obtain ⟨u, v, hu, huv, h3⟩ : ∃ u v : Nat, (if (256 : Int) ≤ (z : Int) then some (shrI .u64 (z : Int) 8, IntKind.wrap .i64 ((t : Int) + 8)) else some ((z : Int), (t : Int))) = some ((u : Int), (v : Int)) ∧ (v ≤ 56) ∧ u ≠ 0 ∧ u < 256 ∧ u * 2 ^ v ≤ x ∧ x < (u + 1) * 2 ^ v := by
    by_cases h : (256 : Int) ≤ (z : Int)
    · refine ⟨z / 256, t + 8, ?_, by omega, by omega, by omega, ?_, ?_⟩
      · rw [if_pos h, wi (by omega) (by omega), show (8 : Int) = ((8 : Nat) : Int) from rfl, shrN z (s := 8) (by decide)]; rfl
      · refine Nat.le_trans ?_ h2.2.2.1
        rw [Nat.pow_add, Nat.mul_comm (2 ^ t), ← Nat.mul_assoc]
        exact Nat.mul_le_mul_right _ (by simp only [show (2 : Nat) ^ 8 = 256 from rfl]; omega)
      · refine Nat.lt_of_lt_of_le h2.2.2.2 ?_
        rw [Nat.pow_add, Nat.mul_comm (2 ^ t), ← Nat.mul_assoc]
        exact Nat.mul_le_mul_right _ (by simp only [show (2 : Nat) ^ 8 = 256 from rfl]; omega)
    · exact ⟨z, t, by rw [if_neg h], by omega, by omega, by omega, h2.2.2⟩
  obtain ⟨w, hw, hw8, hw1, hw2⟩ := lenTab_at h3.2.1
  refine ⟨v + w, ?_, by omega, ?_, ?_⟩
  · rw [hy, Option.bind_some, hz, Option.bind_some, hu, Option.bind_some, wu8 (by omega) (by omega), hw]
    simp only [Option.bind_some]
    rw [wi (n := (w : Int)) (by omega) (by omega), wi (by omega) (by omega)]
    simp
  · refine Nat.lt_of_lt_of_le h3.2.2.2 ?_
    rw [Nat.pow_add, Nat.mul_comm]
    exact Nat.mul_le_mul_left _ (by omega)
  · rw [Nat.pow_add, Nat.mul_comm]
    have := Nat.mul_le_mul_right (2 ^ v) (hw2 h3.1)
    have h4 := h3.2.2.1
    rw [Nat.mul_assoc] at this
    omega
theorem lz64 (k : Nat) {y : Nat} (hy : y < 18446744073709551616) (h0 : y ≠ 0) : ∃ s : Nat, g_mb_LeadingZeros64 k (y : Int) = some (s : Int) ∧ s ≤ 63 ∧ y * 2 ^ s < 18446744073709551616 ∧ 9223372036854775808 ≤ y * 2 ^ s := by
  obtain ⟨n, h1, h2, h3, h4⟩ := len64 k hy h0
  have hn : 1 ≤ n := by
    rcases Nat.eq_zero_or_pos n with rfl | h
    · simp at h3; omega
    · exact h
  refine ⟨64 - n, ?_, by omega, ?_, ?_⟩
  · unfold g_mb_LeadingZeros64
    rw [h1, Option.bind_some, wi (by omega) (by omega)]
    congr 1
    omega
  · have : y * 2 ^ (64 - n) < 2 ^ n * 2 ^ (64 - n) := Nat.mul_lt_mul_of_pos_right h3 (Nat.two_pow_pos _)
    rw [← Nat.pow_add, show n + (64 - n) = 64 by omega] at this
    exact this
  · have : 2 ^ n * 2 ^ (64 - n) ≤ 2 * y * 2 ^ (64 - n) := Nat.mul_le_mul_right _ h4
    rw [← Nat.pow_add, show n + (64 - n) = 64 by omega, Nat.mul_assoc] at this
    simp only [show (2 : Nat) ^ 64 = 18446744073709551616 from rfl] at this
    omega
end Go.Proofs.YthpcgknknpjpdaaGreatDoor.W
namespace Go.Proofs.YthpcgknknpjpdaaGreatDoor.W
open Go Go.Q Go.Proofs Go.Dz
set_option linter.unusedVariables false
set_option linter.unusedSimpArgs false
theorem div_l0 (k : Nat) {y e u : Nat} (hy : y < 18446744073709551616) (hn : 9223372036854775808 ≤ y) (he : e < 18446744073709551616) (hu : u < y) : ∀ (n q r : Nat), 4294967296 ≤ r + n * 2147483648 → r < 4294967296 → q * (y / 4294967296) + r = u → q ≤ 4294967297 → (u * 4294967296 + e / 4294967296) / y ≤ q →
    g_mb_Div64_l0 k (y : Int) (e : Int) n (q : Int) (r : Int) = some (((u * 4294967296 + e / 4294967296) / y : Nat) : Int) := by
  intro n
  induction n with
  | zero => intro q r h1 h2; omega
  | succ n ih =>
    intro q r h1 h2 h3 h4 h5
    rw [g_mb_Div64_l0.eq_2]
    have hyB : y / 4294967296 < 4294967296 := by omega
    have hd : e / 4294967296 < 4294967296 := by omega
    have hm : q * (y % 4294967296) ≤ 4294967297 * 4294967295 := Nat.mul_le_mul h4 (by omega)
    simp only [bd, and32 hy, shr32, Option.bind_some, ← Int.natCast_mul, ← Int.natCast_add]
    rw [wUl (n := q * (y % 4294967296)) (by omega), show (4294967296 : Int) * (r : Int) = ((4294967296 * r : Nat) : Int) from rfl, wUl (n := 4294967296 * r) (by omega), ← Int.natCast_add, wUl (n := 4294967296 * r + e / 4294967296) (by omega), wUl (n := r + y / 4294967296) (by omega)]
    have go : ∀ b : Bool, (b = decide (4294967296 ≤ q ∨ 4294967296 * r + e / 4294967296 < q * (y % 4294967296))) → ((some b).bind fun x437 => (bif x437 then (if (4294967296 : Int) ≤ ((r + y / 4294967296 : Nat) : Int) then some (IntKind.wrap .u64 ((q : Int) - 1)) else (g_mb_Div64_l0 k (y : Int) (e : Int) n (IntKind.wrap .u64 ((q : Int) - 1)) ((r + y / 4294967296 : Nat) : Int))) else some (q : Int))) = some (((u * 4294967296 + e / 4294967296) / y : Nat) : Int) := by
      rintro b rfl
      rw [Option.bind_some]
      by_cases hc : 4294967296 ≤ q ∨ 4294967296 * r + e / 4294967296 < q * (y % 4294967296)
      · rw [dt hc, bt]
        have hlt := est_gt (B := 4294967296) (by decide) hu hd h3 hc
        have hq : 1 ≤ q := Nat.lt_of_le_of_lt (Nat.zero_le _) hlt
        obtain ⟨q', rfl⟩ : ∃ q', q = q' + 1 := ⟨q - 1, by omega⟩
        have e3 : q' * (y / 4294967296) + (r + y / 4294967296) = u := by
          rw [Nat.add_mul] at h3; omega
        rw [show (((q' + 1 : Nat) : Int) - 1) = ((q' : Nat) : Int) by omega, wUl (n := q') (by omega)]
        by_cases hb : 4294967296 ≤ r + y / 4294967296
        · rw [if_pos (by omega)]
          have := est_stop (B := 4294967296) (y := y) (d := e / 4294967296) (by decide) (by omega) e3 (by omega) hb
          congr 1
          omega
        · rw [if_neg (by omega)]
          exact ih q' (r + y / 4294967296) (by omega) (by omega) e3 (by omega) (by omega)
      · rw [df hc, bf]
        have := est_le (B := 4294967296) (y := y) (u := u) (d := e / 4294967296) (q := q) (r := r) (by decide) (by omega) h3 (by omega)
        congr 1
        omega
    by_cases hq : 4294967296 ≤ q
    · rw [if_pos (by omega)]
      exact go true (by rw [dt (.inl hq)])
    · rw [if_neg (by omega)]
      refine go _ ?_
      congr 1
      exact propext ⟨fun h => .inr (by omega), fun h => by omega⟩
theorem div_l1 (k : Nat) {y e u : Nat} (hy : y < 18446744073709551616) (hn : 9223372036854775808 ≤ y) (he : e < 18446744073709551616) (hu : u < y) : ∀ (n q r : Nat), 4294967296 ≤ r + n * 2147483648 → r < 4294967296 → q * (y / 4294967296) + r = u → q ≤ 4294967297 → (u * 4294967296 + e % 4294967296) / y ≤ q →
    g_mb_Div64_l1 k (y : Int) (e : Int) n (r : Int) (q : Int) = some (((u * 4294967296 + e % 4294967296) / y : Nat) : Int) := by
  intro n
  induction n with
  | zero => intro q r h1 h2; omega
  | succ n ih =>
    intro q r h1 h2 h3 h4 h5
    rw [g_mb_Div64_l1.eq_2]
    have hyB : y / 4294967296 < 4294967296 := by omega
    have hd : e % 4294967296 < 4294967296 := by omega
    have hm : q * (y % 4294967296) ≤ 4294967297 * 4294967295 := Nat.mul_le_mul h4 (by omega)
    simp only [bd, and32 hy, and32 he, shr32, Option.bind_some, ← Int.natCast_mul, ← Int.natCast_add]
    rw [wUl (n := q * (y % 4294967296)) (by omega), show (4294967296 : Int) * (r : Int) = ((4294967296 * r : Nat) : Int) from rfl, wUl (n := 4294967296 * r) (by omega), ← Int.natCast_add, wUl (n := 4294967296 * r + e % 4294967296) (by omega), wUl (n := r + y / 4294967296) (by omega)]
    have go : ∀ b : Bool, (b = decide (4294967296 ≤ q ∨ 4294967296 * r + e % 4294967296 < q * (y % 4294967296))) → ((some b).bind fun x437 => (bif x437 then (if (4294967296 : Int) ≤ ((r + y / 4294967296 : Nat) : Int) then some (IntKind.wrap .u64 ((q : Int) - 1)) else (g_mb_Div64_l1 k (y : Int) (e : Int) n ((r + y / 4294967296 : Nat) : Int) (IntKind.wrap .u64 ((q : Int) - 1)))) else some (q : Int))) = some (((u * 4294967296 + e % 4294967296) / y : Nat) : Int) := by
      rintro b rfl
      rw [Option.bind_some]
      by_cases hc : 4294967296 ≤ q ∨ 4294967296 * r + e % 4294967296 < q * (y % 4294967296)
      · rw [dt hc, bt]
        have hlt := est_gt (B := 4294967296) (by decide) hu hd h3 hc
        have hq : 1 ≤ q := Nat.lt_of_le_of_lt (Nat.zero_le _) hlt
        obtain ⟨q', rfl⟩ : ∃ q', q = q' + 1 := ⟨q - 1, by omega⟩
        have e3 : q' * (y / 4294967296) + (r + y / 4294967296) = u := by
          rw [Nat.add_mul] at h3; omega
        rw [show (((q' + 1 : Nat) : Int) - 1) = ((q' : Nat) : Int) by omega, wUl (n := q') (by omega)]
        by_cases hb : 4294967296 ≤ r + y / 4294967296
        · rw [if_pos (by omega)]
          have := est_stop (B := 4294967296) (y := y) (d := e % 4294967296) (by decide) (by omega) e3 (by omega) hb
          congr 1
          omega
        · rw [if_neg (by omega)]
          exact ih q' (r + y / 4294967296) (by omega) (by omega) e3 (by omega) (by omega)
      · rw [df hc, bf]
        have := est_le (B := 4294967296) (y := y) (u := u) (d := e % 4294967296) (q := q) (r := r) (by decide) (by omega) h3 (by omega)
        congr 1
        omega
    by_cases hq : 4294967296 ≤ q
    · rw [if_pos (by omega)]
      exact go true (by rw [dt (.inl hq)])
    · rw [if_neg (by omega)]
      refine go _ ?_
      congr 1
      exact propext ⟨fun h => .inr (by omega), fun h => by omega⟩
theorem digit_lt {y u d : Nat} (hu : u < y) (hd : d < 4294967296) : (u * 4294967296 + d) / y < 4294967296 := by
  rw [Nat.div_lt_iff_lt_mul (by omega)]
  have : (u + 1) * 4294967296 ≤ y * 4294967296 := Nat.mul_le_mul_right _ hu
  omega
/-- A quotient of twice as many bits. -/
theorem div64 (k : Nat) (hk : 3 ≤ k) {hi lo y : Nat} (hlo : lo < 18446744073709551616) (hy : y < 18446744073709551616) (h : hi < y) : g_mb_Div64 k (hi : Int) (lo : Int) (y : Int) =
    some ((((hi * 18446744073709551616 + lo) / y : Nat) : Int), (((hi * 18446744073709551616 + lo) % y : Nat) : Int)) := by
  unfold g_mb_Div64
  simp only [bd]
  rw [if_neg (show ¬ ((y : Int) = 0) by omega), if_neg (show ¬ ((y : Int) ≤ (hi : Int)) by omega)]
  by_cases h0 : hi = 0
  · subst h0
    have e0 : ((y : Int) == 0) = false := by rw [beq_eq_false_iff_ne]; omega
    rw [if_pos (show ((0 : Nat) : Int) = 0 from rfl), e0]
    simp only [Bool.not_false, cond_true, td, tm, Nat.zero_mul, Nat.zero_add]
    have : lo / y ≤ lo := Nat.div_le_self _ _
    rw [wUl (by omega)]
  · rw [if_neg (by omega)]
    obtain ⟨s, h1, h2, h3, h4⟩ := lz64 k hy (by omega)
    rw [h1, Option.bind_some, wUl (n := s) (by omega)]
    simp only [if_pos (show (0 : Int) ≤ (s : Int) by omega), Option.bind_some, shlN _ (show s ≤ 64 by omega)]
    have e64 : IntKind.wrap .u64 (64 - (s : Int)) = ((64 - s : Nat) : Int) := by
      rw [show (64 - (s : Int)) = ((64 - s : Nat) : Int) by omega, wUl (by omega)]
    rw [e64]
    simp only [if_pos (show (0 : Int) ≤ ((64 - s : Nat) : Int) by omega), shrN _ (show 64 - s ≤ 64 by omega)]
    rw [Nat.mod_eq_of_lt h3]
    have hp : 2 ^ s * 2 ^ (64 - s) = 18446744073709551616 := by rw [← Nat.pow_add, show s + (64 - s) = 64 by omega]
    have hps := Nat.two_pow_pos s
    have hhi : hi * 2 ^ s < y * 2 ^ s := Nat.mul_lt_mul_of_pos_right h hps
    -- the number, moved to the left
    have hlos : lo * 2 ^ s = lo / 2 ^ (64 - s) * 18446744073709551616 + lo * 2 ^ s % 18446744073709551616 := by
      have e1 : lo * 2 ^ s / 18446744073709551616 = lo / 2 ^ (64 - s) := by
        rw [← hp, Nat.mul_comm lo, Nat.mul_div_mul_left _ _ hps]
      rw [← e1]; omega
    have hloq : lo / 2 ^ (64 - s) < 2 ^ s := by
      rw [Nat.div_lt_iff_lt_mul (Nat.two_pow_pos _), hp]; exact hlo
    rw [Nat.mod_eq_of_lt (show hi * 2 ^ s < 18446744073709551616 by omega), orN (show hi * 2 ^ s < 18446744073709551616 by omega) hloq (by have : lo / 2 ^ (64 - s) ≤ lo := Nat.div_le_self _ _; omega)]
    have hN : (hi * 18446744073709551616 + lo) * 2 ^ s = (hi * 2 ^ s + lo / 2 ^ (64 - s)) * 18446744073709551616 + lo * 2 ^ s % 18446744073709551616 := by
      rw [Nat.add_mul, Nat.mul_right_comm, Nat.add_mul]; omega
    have hu : hi * 2 ^ s + lo / 2 ^ (64 - s) < y * 2 ^ s := by
      have : (hi + 1) * 2 ^ s ≤ y * 2 ^ s := Nat.mul_le_mul_right _ h
      rw [Nat.add_mul] at this
      omega
    have hq : (hi * 18446744073709551616 + lo) / y = (hi * 18446744073709551616 + lo) * 2 ^ s / (y * 2 ^ s) := (Nat.mul_div_mul_right _ _ hps).symm
    have hr : (hi * 18446744073709551616 + lo) % y * 2 ^ s = (hi * 18446744073709551616 + lo) * 2 ^ s % (y * 2 ^ s) := (Nat.mul_mod_mul_right _ _ _).symm
    rw [hN] at hq hr
    have he : lo * 2 ^ s % 18446744073709551616 < 18446744073709551616 := Nat.mod_lt _ (by decide)
    have hrs : (hi * 18446744073709551616 + lo) % y = ((hi * 2 ^ s + lo / 2 ^ (64 - s)) * 18446744073709551616 + lo * 2 ^ s % 18446744073709551616) % (y * 2 ^ s) / 2 ^ s := by
      rw [← hr, Nat.mul_div_cancel _ hps]
    rw [hq, hrs]
    clear hq hr hrs hN hhi hlos hloq
    generalize hi * 2 ^ s + lo / 2 ^ (64 - s) = u at *
    generalize lo * 2 ^ s % 18446744073709551616 = e at *
    generalize y * 2 ^ s = z at *
    have hzB : z / 4294967296 < 4294967296 := by omega
    have hz1 : 2147483648 ≤ z / 4294967296 := by omega
    have ez : (((z / 4294967296 : Nat) : Int) == 0) = false := by rw [beq_eq_false_iff_ne]; omega
    -- one digit
    have dig : ∀ (v d : Nat), v < z → d < 4294967296 → (v / (z / 4294967296) ≤ 4294967297) ∧ (v * 4294967296 + d) / z ≤ v / (z / 4294967296) ∧ v / (z / 4294967296) * (z / 4294967296) + (v - v / (z / 4294967296) * (z / 4294967296)) = v ∧ v - v / (z / 4294967296) * (z / 4294967296) < 4294967296 ∧ v / (z / 4294967296) * (z / 4294967296) ≤ v := by
      intro v d hv hd
      have a1 := est_first (B := 4294967296) hv (by decide) (by omega)
      have a2 := est_ge (B := 4294967296) (y := z) (u := v) (d := d) (by decide) (by omega) hd
      have a3 := Nat.div_mul_le_self v (z / 4294967296)
      have a4 : v % (z / 4294967296) < z / 4294967296 := Nat.mod_lt _ (by omega)
      have a5 := Nat.div_add_mod v (z / 4294967296)
      rw [Nat.mul_comm] at a5
      exact ⟨a1, a2, by omega, by omega, a3⟩
    have step : ∀ (v d : Nat), v < z → d < 4294967296 → (v * 4294967296 + d) / z * z + (v * 4294967296 + d) % z = v * 4294967296 + d ∧ (v * 4294967296 + d) % z < z := by
      intro v d hv hd
      have := Nat.div_add_mod (v * 4294967296 + d) z
      rw [Nat.mul_comm] at this
      exact ⟨this, Nat.mod_lt _ (by omega)⟩
    have modU : ∀ (v d q : Nat), v < z → d < 4294967296 → q = (v * 4294967296 + d) / z → IntKind.wrap .u64 (IntKind.wrap .u64 ((IntKind.wrap .u64 ((v : Int) * 4294967296)) + (d : Int)) - IntKind.wrap .u64 (((q : Nat) : Int) * ((z : Nat) : Int))) = (((v * 4294967296 + d) % z : Nat) : Int) := by
      intro v d q hv hd hq
      obtain ⟨s1, s2⟩ := step v d hv hd
      rw [← hq] at s1
      rw [← Int.natCast_mul]
      simp only [wUi]
      generalize q * z = m at *
      generalize (v * 4294967296 + d) % z = w at *
      omega
    obtain ⟨d1, d2, d3, d4, d5⟩ := dig u (e / 4294967296) hu (by omega)
    rw [shr32, ez]
    simp only [Bool.not_false, cond_true, td]
    rw [wUl (n := u / (z / 4294967296)) (by omega)]
    simp only [Option.bind_some, ← Int.natCast_mul]
    rw [wUl (n := u / (z / 4294967296) * (z / 4294967296)) (by omega), show ((u : Int) - ((u / (z / 4294967296) * (z / 4294967296) : Nat) : Int)) = ((u - u / (z / 4294967296) * (z / 4294967296) : Nat) : Int) by omega, wUl (n := u - _) (by omega)]
    rw [div_l0 k h3 h4 he hu k _ _ (by omega) d4 d3 d1 d2]
    simp only [Option.bind_some, shr32]
    have m1 := modU u (e / 4294967296) _ hu (by omega) rfl
    rw [m1]
    obtain ⟨s1, s2⟩ := step u (e / 4294967296) hu (by omega)
    have g1 := digit_lt hu (show e / 4294967296 < 4294967296 by omega)
    have t := two_digits (B := 4294967296) (y := z) (u := u) (d1 := e / 4294967296) (d0 := e % 4294967296) (by omega)
    have eN : (u * 4294967296 + e / 4294967296) * 4294967296 + e % 4294967296 = u * 18446744073709551616 + e := by omega
    rw [eN] at t
    rw [t.1, t.2]
    clear t eN m1 s1
    obtain ⟨v, hv⟩ : ∃ v, v = (u * 4294967296 + e / 4294967296) % z := ⟨_, rfl⟩
    obtain ⟨q1, hq1⟩ : ∃ v, v = (u * 4294967296 + e / 4294967296) / z := ⟨_, rfl⟩
    rw [← hv] at s2
    rw [← hq1] at g1
    rw [← hv, ← hq1]
    clear d1 d2 d3 d4 d5 hv hq1
    obtain ⟨c1, c2, c3, c4, c5⟩ := dig v (e % 4294967296) s2 (by omega)
    simp only [td]
    rw [wUl (n := v / (z / 4294967296)) (by omega)]
    simp only [Option.bind_some, ← Int.natCast_mul]
    rw [wUl (n := v / (z / 4294967296) * (z / 4294967296)) (by omega), show ((v : Int) - ((v / (z / 4294967296) * (z / 4294967296) : Nat) : Int)) = ((v - v / (z / 4294967296) * (z / 4294967296) : Nat) : Int) by omega, wUl (n := v - _) (by omega)]
    rw [div_l1 k h3 h4 he s2 k _ _ (by omega) c4 c3 c1 c2]
    simp only [Option.bind_some, and32 he]
    have m2 := modU v (e % 4294967296) _ s2 (by omega) rfl
    have g2 := digit_lt s2 (show e % 4294967296 < 4294967296 by omega)
    rw [m2, shrN _ (by omega)]
    obtain ⟨q0, hq0⟩ : ∃ w, w = (v * 4294967296 + e % 4294967296) / z := ⟨_, rfl⟩
    rw [← hq0] at g2
    rw [← hq0]
    clear c1 c2 c3 c4 c5 m2
    have f1 : (q1 : Int) * 4294967296 = ((q1 * 4294967296 : Nat) : Int) := by simp
    have f2 : IntKind.wrap .u64 ((q1 : Int) * 4294967296) = ((q1 * 4294967296 : Nat) : Int) := by rw [f1]; exact wUl (by omega)
    have f3 : IntKind.wrap .u64 (IntKind.wrap .u64 ((q1 : Int) * 4294967296) + (q0 : Int)) = ((q1 * 4294967296 + q0 : Nat) : Int) := by rw [f2, ← Int.natCast_add]; exact wUl (by omega)
    rw [f3]
end Go.Proofs.YthpcgknknpjpdaaGreatDoor.W
namespace Go.Proofs.YthpcgknknpjpdaaGreatDoor.W
open Go Go.Q Go.Proofs Go.Dz
set_option linter.unusedVariables false
set_option linter.unusedSimpArgs false
/-- The halves of a number. -/
def wh (v : Nat) : Int := ((v / 18446744073709551616 : Nat) : Int)
def wl (v : Nat) : Int := ((v % 18446744073709551616 : Nat) : Int)
/-- Two to the 128. -/
abbrev UU : Nat := 340282366920938463463374607431768211456
theorem wh_small {v : Nat} (h : v < 18446744073709551616) : wh v = 0 := by unfold wh; rw [Nat.div_eq_of_lt h]; rfl
theorem wl_small {v : Nat} (h : v < 18446744073709551616) : wl v = (v : Int) := by unfold wl; rw [Nat.mod_eq_of_lt h]
theorem wh_lt {v : Nat} (h : v < UU) : v / 18446744073709551616 < 18446744073709551616 := by unfold UU at h; omega
theorem wide_zero (k : Nat) (a b : Int) : g_dec_wide_zero k a b = some () := rfl
theorem wide_or {v : Nat} (h : v < UU) : (bits .or .u64 (wh v) (wl v) = 0) ↔ v = 0 := by
  unfold wh wl
  rw [or0 (wh_lt h) (Nat.mod_lt _ (by decide))]
  omega
theorem add64_eq (a b c : Nat) : add64 (a : Int) (b : Int) (c : Int) = (((((a + b + c) % 18446744073709551616 : Nat)) : Int), (((a + b + c) / 18446744073709551616 : Nat) : Int)) := by
  simp [add64, Extern.MathBitsCarry.m64]
theorem wide_times (k : Nat) {v n : Nat} (hv : v < UU) (hn : n < 4294967296) : ∃ x : Int, g_dec_wide_times k (wh v) (wl v) (n : Int) = some (decide (v * n < UU), x) ∧ (v * n < UU → x = wh (v * n)) := by
  unfold g_dec_wide_times
  have h1 := wh_lt hv
  have h2 := Nat.mod_lt v (show 0 < 18446744073709551616 by decide)
  have e : v = v / 18446744073709551616 * 18446744073709551616 + v % 18446744073709551616 := by omega
  unfold wh wl
  rw [mul64 k h2 (by omega), Option.bind_some, mul64 k h1 (by omega), Option.bind_some, ← Int.natCast_mul, wU, show (0 : Int) = ((0 : Nat) : Int) from rfl, add64_eq]
  generalize hA : v / 18446744073709551616 = a at *
  generalize hB : v % 18446744073709551616 = b at *
  have hp : a * n ≤ 18446744073709551615 * n := Nat.mul_le_mul_right _ (by omega)
  have hq : b * n ≤ 18446744073709551615 * n := Nat.mul_le_mul_right _ (by omega)
  have ev : v * n = a * n * 18446744073709551616 + b * n := by rw [e, Nat.add_mul, Nat.mul_right_comm]
  rw [ev]
  simp only [Option.bind_some]
  have hov : a * n / 18446744073709551616 ≤ 4294967295 := by omega
  generalize a * n = p at *
  generalize b * n = q at *
  rw [← Int.natCast_add, wUl (by omega)]
  refine ⟨(((q / 18446744073709551616 + p % 18446744073709551616 + 0) % 18446744073709551616 : Nat) : Int), ?_, fun hlt => ?_⟩
  · refine congrArg some (Prod.ext ?_ rfl)
    simp only [decide_eq_decide]
    unfold UU
    omega
  · unfold UU at hlt
    congr 1
    omega
theorem wide_times_lo {v n : Nat} : IntKind.wrap .u64 (wl v * (n : Int)) = wl (v * n) := by
  unfold wl
  rw [← Int.natCast_mul, wU]
  congr 1
  simp [Nat.mul_mod]
/-- One digit off. -/
theorem wide_by (k : Nat) (hk : 3 ≤ k) {v : Nat} (hv : v < UU) : g_dec_wide_by k (wh v) (wl v) 10 = some (((v % 10 : Nat) : Int), wh (v / 10), wl (v / 10)) := by
  unfold g_dec_wide_by
  have h1 := wh_lt hv
  have h2 := Nat.mod_lt v (show 0 < 18446744073709551616 by decide)
  unfold wh wl
  have d1 := div64 k hk (hi := 0) (lo := v / 18446744073709551616) (y := 10) h1 (by decide) (by decide)
  rw [show ((0 : Nat) : Int) = 0 from rfl, show ((10 : Nat) : Int) = 10 from rfl] at d1
  rw [d1, Option.bind_some]
  simp only [Nat.zero_mul, Nat.zero_add]
  have d2 := div64 k hk (hi := v / 18446744073709551616 % 10) (lo := v % 18446744073709551616) (y := 10) h2 (by decide) (Nat.mod_lt _ (by decide))
  rw [show ((10 : Nat) : Int) = 10 from rfl] at d2
  rw [d2, Option.bind_some]
  congr 2
  · congr 1; omega
  · congr 2
    · omega
    · omega
/-- Times ten, so often. -/
theorem wide_tens_l0 (k : Nat) {m : Nat} : ∀ (n i v : Nat), i ≤ m → m - i + 1 < n → m < 1000000 → v < UU → ∃ (b : Bool) (x y : Int), g_dec_wide_tens_l0 k (m : Int) n true (i : Int) (wh v) (wl v) = some (b, x, y) ∧
    (b = true → v * 10 ^ (m - i) < UU ∧ x = wh (v * 10 ^ (m - i)) ∧ y = wl (v * 10 ^ (m - i))) ∧ (b = false → UU ≤ v * 10 ^ (m - i)) := by
  intro n
  induction n with
  | zero => intro i v _ h; omega
  | succ n ih =>
    intro i v hi hn hm hv
    rw [g_dec_wide_tens_l0.eq_2]
    simp only [bd, wide_zero, Option.bind_some, cond_true]
    by_cases him : i < m
    · rw [if_pos (by omega), Option.bind_some]
      by_cases h0 : v = 0
      · rw [dt ((wide_or hv).2 h0)]
        refine ⟨true, wh v, wl v, rfl, fun _ => ?_, fun h => by cases h⟩
        rw [h0]; simp
      · rw [df (fun h => h0 ((wide_or hv).1 h))]
        obtain ⟨x, h1, h2⟩ := wide_times k hv (n := 10) (by decide)
        simp only [Bool.not_false, cond_true]
        rw [show (10 : Int) = ((10 : Nat) : Int) from rfl, h1, Option.bind_some, wi (by omega) (by omega), wide_times_lo]
        by_cases hlt : v * 10 < UU
        · rw [dt hlt, h2 hlt, show ((i : Int) + 1) = ((i + 1 : Nat) : Int) by omega]
          have e : v * 10 ^ (m - i) = v * 10 * 10 ^ (m - (i + 1)) := by
            rw [show m - i = (m - (i + 1)) + 1 by omega, Nat.pow_succ, Nat.mul_assoc, Nat.mul_comm 10]
          rw [e]
          exact ih (i + 1) (v * 10) (by omega) (by omega) hm hlt
        · rw [df hlt]
          have hbig : UU ≤ v * 10 ^ (m - i) := by
            obtain ⟨j, hj⟩ : ∃ j, m - i = j + 1 := ⟨m - i - 1, by omega⟩
            rw [hj, Nat.pow_succ, Nat.mul_comm (10 ^ j), ← Nat.mul_assoc]
            exact Nat.le_trans (Nat.le_of_not_lt hlt) (Nat.le_mul_of_pos_right _ (Nat.pow_pos (by decide)))
          obtain ⟨n', rfl⟩ : ∃ n', n = n' + 1 := ⟨n - 1, by omega⟩
          rw [g_dec_wide_tens_l0.eq_2]
          refine ⟨false, x, wl (v * 10), ?_, (fun h => by cases h), fun _ => hbig⟩
          simp only [cond_false, bd]
          split <;> rfl
    · rw [if_neg (by omega)]
      refine ⟨true, wh v, wl v, rfl, fun _ => ?_, fun h => by cases h⟩
      rw [show m - i = 0 by omega]; simp [hv]
theorem wide_tens (k : Nat) {v m : Nat} (hv : v < UU) (hm : m < 1000000) (hk : m + 2 ≤ k) : ∃ (b : Bool) (x y : Int), g_dec_wide_tens k (wh v) (wl v) (m : Int) = some (b, x, y) ∧
    (b = true → v * 10 ^ m < UU ∧ x = wh (v * 10 ^ m) ∧ y = wl (v * 10 ^ m)) ∧ (b = false → UU ≤ v * 10 ^ m) := by
  unfold g_dec_wide_tens
  obtain ⟨b, x, y, h1, h2, h3⟩ := wide_tens_l0 k (m := m) k 0 v (Nat.zero_le _) (by omega) hm hv
  rw [show ((0 : Nat) : Int) = 0 from rfl] at h1
  rw [h1]
  exact ⟨b, x, y, rfl, h2, h3⟩
/-- Which is more. -/
def cmpN (v w : Nat) : Int := if v = w then 0 else if v < w then -1 else 1
theorem wide_plus (k : Nat) {v w : Nat} (hv : v < UU) (hw : w < UU) : g_dec_wide_plus k (wh v) (wl v) (wh w) (wl w) = some (decide (v + w < UU)) := by
  unfold g_dec_wide_plus
  have h1 := wh_lt hv
  have h2 := wh_lt hw
  unfold wh wl
  rw [show (0 : Int) = ((0 : Nat) : Int) from rfl, add64_eq]
  simp only
  rw [add64_eq]
  simp only [Int.toNat_natCast, bd]
  rw [if_pos (by omega), Option.bind_some]
  congr 1
  rw [decide_eq_decide]
  unfold UU
  omega
theorem wide_plus_val {v w : Nat} (hv : v < UU) (hw : w < UU) (h : v + w < UU) : (add64 (wh v) (wh w) ((add64 (wl v) (wl w) 0).2)).1 = wh (v + w) ∧ (add64 (wl v) (wl w) 0).1 = wl (v + w) := by
  have h1 := wh_lt hv
  have h2 := wh_lt hw
  unfold wh wl
  rw [show (0 : Int) = ((0 : Nat) : Int) from rfl, add64_eq]
  simp only
  rw [add64_eq]
  simp only
  unfold UU at h
  constructor
  · congr 1; omega
  · congr 1; omega
end Go.Proofs.YthpcgknknpjpdaaGreatDoor.W
