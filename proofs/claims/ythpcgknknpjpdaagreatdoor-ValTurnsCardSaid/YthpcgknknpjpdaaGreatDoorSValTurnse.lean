/- Texts joined: part 5 of what LValTurns stands on. -/
import Derived.Test.YthpcgknknpjpdaaGreatDoorSValTurnsd
namespace Go.Proofs.YthpcgknknpjpdaaGreatDoor.W
open Go Go.Q Go.Proofs
set_option linter.unusedVariables false
set_option linter.unusedSimpArgs false
set_option maxRecDepth 100000
set_option maxHeartbeats 4000000
theorem s_dec_Sub (k : Nat) (x1 : Int) (x2 : Int) (x3 : Int) (x4 : Int) (x5 : Int) (x6 : Int) (x7 : Int) (H : g_dec_Sub k x1 x2 x3 x4 = some (x5, x6, x7)) : Go.Q.Spec Tryz.prog 109 0 [.agg [.lit (.int .i64 x1), .lit (.int .i64 x2)], .agg [.lit (.int .i64 x3), .lit (.int .i64 x4)]] Mem.nil (fun o M => o = .ret (.tup [.agg [.lit (.int .i64 x6), .lit (.int .i64 x7)], .lit (.int .i64 x5)]) ∧ M = (Mem.nil.push (.cells 23 [.lit (.int .i64 x6), .lit (.int .i64 x7)]))) := by
 unfold g_dec_Sub at H
 refine bo Tryz.func109 [(23, 2)] [.cell 4 23, .tmp 5] 27 fun cx hnp => ?_
 iterate 6 refine sp ?_
 refine WP.seq ?_
 refine sp ?_
 refine WPL.d (d_buildCells li144 rfl rfl rfl rfl rfl) rfl ?_
 obtain ⟨⟨x8, x9, x10, x11, x12⟩, h1, H⟩ := bnd H
 refine WPL.c (rc [3, 0, 1] [3, 0, 1] 4 [] (s_dec_clean k x1 x2 x3 x4 x8 x9 x10 x11 x12 h1)) rfl ?_
 iterate 2 refine sp ?_
 refine cd H (fun hb1 H => ?_) fun hb1 H => ?_
 · iterate 6 refine sp ?_
   obtain ⟨rfl, rfl, rfl⟩ := j3 H
   exact W.now (Then.r (mb [2]))
 iterate 3 refine sp ?_
 refine WP.seq ?_
 iterate 3 refine sp ?_
 obtain ⟨x13, h2, H⟩ := bnd H
 refine sn (nm_bool h2) ?_
 refine sp ?_
 refine cd H (fun hb2 H => ?_) fun hb2 H => ?_
 · iterate 3 refine sp ?_
   obtain ⟨⟨x14, x15, x16⟩, h3, H⟩ := bnd H
   refine WPL.c (rc [] [4] 5 [] (s_dec_lowest k x9 x10 x11 x12 x14 x15 x16 h3)) rfl ?_
   iterate 6 refine sp ?_
   obtain ⟨rfl, rfl, rfl⟩ := j3 H
   exact W.now (Then.r (mb [2]))
 iterate 13 refine sp ?_
 obtain ⟨⟨x17, x18, x19⟩, h4, H⟩ := bnd H
 refine WPL.c (rc [] [4] 5 [] (s_dec_Add k x9 x10 (IntKind.wrap .i64 (0 - x11)) x12 x17 x18 x19 h4)) rfl ?_
 iterate 6 refine sp ?_
 obtain ⟨rfl, rfl, rfl⟩ := j3 H
 exact W.now (mb [2])
theorem s_dec_Mul (k : Nat) (x1 : Int) (x2 : Int) (x3 : Int) (x4 : Int) (x5 : Int) (x6 : Int) (x7 : Int) (H : g_dec_Mul k x1 x2 x3 x4 = some (x5, x6, x7)) : Go.Q.Spec Tryz.prog 75 0 [.agg [.lit (.int .i64 x1), .lit (.int .i64 x2)], .agg [.lit (.int .i64 x3), .lit (.int .i64 x4)]] Mem.nil (fun o M => o = .ret (.tup [.agg [.lit (.int .i64 x6), .lit (.int .i64 x7)], .lit (.int .i64 x5)]) ∧ M = (Mem.nil.push (.cells 23 [.lit (.int .i64 x6), .lit (.int .i64 x7)]))) := by
 unfold g_dec_Mul at H
 refine bo Tryz.func75 [(23, 2)] [.cell 4 23, .tmp 5] 41 fun cx hnp => ?_
 iterate 6 refine sp ?_
 refine WP.seq ?_
 refine sp ?_
 refine WPL.d (d_buildCells li144 rfl rfl rfl rfl rfl) rfl ?_
 obtain ⟨⟨x8, x9, x10, x11, x12⟩, h1, H⟩ := bnd H
 refine WPL.c (rc [3, 0, 1] [3, 0, 1] 4 [] (s_dec_clean k x1 x2 x3 x4 x8 x9 x10 x11 x12 h1)) rfl ?_
 iterate 2 refine sp ?_
 refine cd H (fun hb1 H => ?_) fun hb1 H => ?_
 · iterate 6 refine sp ?_
   obtain ⟨rfl, rfl, rfl⟩ := j3 H
   exact W.now (Then.r (mb [2]))
 iterate 3 refine sp ?_
 refine WP.seq ?_
 refine WP.regionD' 12 [0, 1] [] mixed rfl ?_
 refine dT 0 ?_
 refine dT 3 ?_
 refine dK 1 ?_
 refine dK 4 ?_
 obtain ⟨x13, h2, H⟩ := bnd H
 refine dE 2 [0, 1] [] rfl (rc [] [] 4 [] (s_dec_size k x9 x13 h2)) ?_
 obtain ⟨x14, h3, H⟩ := bnd H
 refine dE 5 [0, 1] [] rfl (rc [] [] 4 [] (s_dec_size k x11 x14 h3)) ?_
 obtain ⟨x15, h4, H⟩ := bnd H
 refine dE 6 [0, 1] [] rfl (rc [] [] 4 [] (s_mb_Mul64 k x13 x14 x15 h4)) ?_
 refine dT 7 ?_
 refine dT 8 ?_
 refine dT 9 ?_
 refine dT 10 ?_
 refine dT 11 ?_
 refine WPD.doneW (by kernel_rfl) ?_
 iterate 9 refine sp ?_
 obtain ⟨x16, h5, H⟩ := bnd H
 refine WPL.qq (q_nm (q_neqb Tryz.underlying4 rfl rfl) (nm_bool h5)) ?_
 iterate 9 refine sp ?_
 obtain ⟨⟨x17, x18, x19⟩, h5, H⟩ := bnd H
 refine WPL.c (rc [] [4] 5 [] (s_dec_num_tell k x16 x15 (IntKind.wrap .u64 (x13 * x14)) (IntKind.wrap .i64 (x10 + x12)) x17 x18 x19 h5)) rfl ?_
 iterate 6 refine sp ?_
 obtain ⟨rfl, rfl, rfl⟩ := j3 H
 exact W.now (mb [2])
theorem s_dec_factors (k : Nat) (x1 : Int) (x2 : Int) (x3 : Int) (x4 : Int) (H : g_dec_factors k x1 x2 = some (x3, x4)) : Go.Q.Spec Tryz.prog 149 0 [.lit (.int .u64 x1), .lit (.int .u64 x2)] Mem.nil (fun o M => o = .ret (.tup [.lit (.int .i64 x3), .lit (.int .u64 x4)]) ∧ M = Mem.nil) := by
 unfold g_dec_factors at H
 refine bo Tryz.func149 [] [.tmp 4, .tmp 5] 18 fun cx hnp => ?_
 iterate 7 refine sp ?_
 refine WP.seq ?_
 refine sp ?_
 refine WP.cv (Cv.weak (E' := (((Env.none.upd 0 (.lit (.int .u64 x1))).upd 1 (.lit (.int .u64 x2))).upd 6 (.lit (.int .i64 0)))) (M' := Mem.nil) [] hnp ⟨rfl, trivial, by decide, rfl, trivial⟩ (LeE.u (LeE.u (LeE.u (LeE.none rfl rfl))))) ?_
 obtain ⟨⟨x5, x6⟩, H1, H⟩ := bnd H
 refine mo (.exit 0) ((Env.none.upd 0 (.lit (.int .u64 x5))).upd 6 (.lit (.int .i64 x6))) Mem.nil ?_ ?_
 · refine WP.loop (β := Int × Int) (fun n b => g_dec_factors_l0 k x2 n b.1 b.2 = some (x5, x6)) (fun b => (((Env.none.upd 0 (.lit (.int .u64 b.1))).upd 1 (.lit (.int .u64 x2))).upd 6 (.lit (.int .i64 b.2)))) (fun b => Mem.nil) k (x1, 0) H1 rfl rfl ?_
   rintro n ⟨x7, x8⟩ H
   obtain _ | n := n
   · exact nf rfl H
   rw [g_dec_factors_l0.eq_2] at H
   show WP _ _ _ _ (((Env.none.upd 0 (.lit (.int .u64 x7))).upd 1 (.lit (.int .u64 x2))).upd 6 (.lit (.int .i64 x8))) Mem.nil _
   refine WP.seq ?_
   iterate 3 refine sp ?_
   obtain ⟨h1, H⟩ := grd H
   iterate 3 refine sp ?_
   refine cd H (fun hb1 H => ?_) fun hb1 H => ?_
   · iterate 7 refine sp ?_
     obtain ⟨h2, H⟩ := grd H
     iterate 7 refine sp ?_
     refine WPL.nilW ?_
     exact wq [] (InBlock.n (Then.n ⟨n, ((IntKind.wrap .u64 (Int.tdiv x7 x2)), (IntKind.wrap .i64 (x8 + 1))), Nat.lt_succ_self n, H, rfl, rfl⟩))
   refine sp ?_
   obtain ⟨rfl, rfl⟩ := j2 H
   exact wq [] (Then.x (Then.x r3))
 iterate 10 refine sp ?_
 obtain ⟨rfl, rfl⟩ := j2 H
 exact W.now (mb [])
theorem s_dec_Div (k : Nat) (x1 : Int) (x2 : Int) (x3 : Int) (x4 : Int) (x5 : Int) (x6 : Int) (x7 : Int) (H : g_dec_Div k x1 x2 x3 x4 = some (x5, x6, x7)) : Go.Q.Spec Tryz.prog 110 0 [.agg [.lit (.int .i64 x1), .lit (.int .i64 x2)], .agg [.lit (.int .i64 x3), .lit (.int .i64 x4)]] Mem.nil (fun o M => o = .ret (.tup [.agg [.lit (.int .i64 x6), .lit (.int .i64 x7)], .lit (.int .i64 x5)]) ∧ M = (Mem.nil.push (.cells 23 [.lit (.int .i64 x6), .lit (.int .i64 x7)]))) := by
 unfold g_dec_Div at H
 refine bo Tryz.func110 [(23, 2)] [.cell 4 23, .tmp 5] 118 fun cx hnp => ?_
 iterate 6 refine sp ?_
 refine WP.seq ?_
 refine sp ?_
 refine WPL.d (d_buildCells li144 rfl rfl rfl rfl rfl) rfl ?_
 obtain ⟨⟨x8, x9, x10, x11, x12⟩, h1, H⟩ := bnd H
 refine WPL.c (rc [3, 0, 1] [3, 0, 1] 4 [] (s_dec_clean k x1 x2 x3 x4 x8 x9 x10 x11 x12 h1)) rfl ?_
 iterate 2 refine sp ?_
 refine cd H (fun hb1 H => ?_) fun hb1 H => ?_
 · iterate 6 refine sp ?_
   obtain ⟨rfl, rfl, rfl⟩ := j3 H
   exact W.now (Then.r (mb [2]))
 iterate 3 refine sp ?_
 refine WP.seq ?_
 iterate 5 refine sp ?_
 refine cd H (fun hb2 H => ?_) fun hb2 H => ?_
 · iterate 6 refine sp ?_
   obtain ⟨rfl, rfl, rfl⟩ := j3 H
   exact W.now (Then.r (mb [2]))
 iterate 3 refine sp ?_
 refine WP.seq ?_
 iterate 5 refine sp ?_
 refine cd H (fun hb3 H => ?_) fun hb3 H => ?_
 · iterate 6 refine sp ?_
   obtain ⟨rfl, rfl, rfl⟩ := j3 H
   exact W.now (Then.r (mb [2]))
 iterate 3 refine sp ?_
 refine WP.seq ?_
 refine WP.regionD' 8 [0, 1] [] mixed rfl ?_
 refine dT 0 ?_
 refine dT 3 ?_
 refine dK 1 ?_
 refine dK 4 ?_
 obtain ⟨x13, h2, H⟩ := bnd H
 refine dE 2 [0, 1] [] rfl (rc [] [] 4 [] (s_dec_size k x9 x13 h2)) ?_
 obtain ⟨x14, h3, H⟩ := bnd H
 refine dE 5 [0, 1] [] rfl (rc [] [] 4 [] (s_dec_size k x11 x14 h3)) ?_
 refine dT 6 ?_
 refine dT 7 ?_
 refine WPD.doneW (by kernel_rfl) ?_
 iterate 8 refine sp ?_
 refine WP.seq ?_
 refine sp ?_
 refine WP.cv (Cv.weak (E' := (((((((Env.none.upd 2 (.ptr 0 0)).upd 3 (.ptr 1 0)).upd 4 (.ptr 2 0)).upd 6 (.lit (.int .u64 x13))).upd 7 (.lit (.int .u64 x14))).upd 8 (.lit (.int .u64 x13))).upd 9 (.lit (.int .u64 x14)))) (M' := (((Mem.nil.push (.cells 23 [.lit (.int .i64 x9), .lit (.int .i64 x10)])).push (.cells 23 [.lit (.int .i64 x11), .lit (.int .i64 x12)])).push (.cells 23 [.lit (.int .i64 0), .lit (.int .i64 0)]))) [0, 1, 2] hnp ⟨rfl, AA3, by decide, rfl, trivial⟩ (LeE.u (LeE.u (LeE.u (LeE.u (LeE.u (LeE.u (LeE.u (LeE.none rfl rfl))))))))) ?_
 obtain ⟨x15, H1, H⟩ := bnd H
 refine mo (.exit 0) ((((((Env.none.upd 2 (.ptr 0 0)).upd 3 (.ptr 1 0)).upd 4 (.ptr 2 0)).upd 6 (.lit (.int .u64 x13))).upd 7 (.lit (.int .u64 x14))).upd 8 (.lit (.int .u64 x15))) (((Mem.nil.push (.cells 23 [.lit (.int .i64 x9), .lit (.int .i64 x10)])).push (.cells 23 [.lit (.int .i64 x11), .lit (.int .i64 x12)])).push (.cells 23 [.lit (.int .i64 0), .lit (.int .i64 0)])) ?_ ?_
 · refine WP.loop (β := Int × Int) (fun n b => g_dec_Div_l0 k n b.1 b.2 = some x15) (fun b => (((((((Env.none.upd 2 (.ptr 0 0)).upd 3 (.ptr 1 0)).upd 4 (.ptr 2 0)).upd 6 (.lit (.int .u64 x13))).upd 7 (.lit (.int .u64 x14))).upd 8 (.lit (.int .u64 b.1))).upd 9 (.lit (.int .u64 b.2)))) (fun b => (((Mem.nil.push (.cells 23 [.lit (.int .i64 x9), .lit (.int .i64 x10)])).push (.cells 23 [.lit (.int .i64 x11), .lit (.int .i64 x12)])).push (.cells 23 [.lit (.int .i64 0), .lit (.int .i64 0)]))) k (x13, x14) H1 rfl rfl ?_
   rintro n ⟨x16, x17⟩ H
   obtain _ | n := n
   · exact nf rfl H
   rw [g_dec_Div_l0.eq_2] at H
   show WP _ _ _ _ (((((((Env.none.upd 2 (.ptr 0 0)).upd 3 (.ptr 1 0)).upd 4 (.ptr 2 0)).upd 6 (.lit (.int .u64 x13))).upd 7 (.lit (.int .u64 x14))).upd 8 (.lit (.int .u64 x16))).upd 9 (.lit (.int .u64 x17))) (((Mem.nil.push (.cells 23 [.lit (.int .i64 x9), .lit (.int .i64 x10)])).push (.cells 23 [.lit (.int .i64 x11), .lit (.int .i64 x12)])).push (.cells 23 [.lit (.int .i64 0), .lit (.int .i64 0)])) _
   refine WP.seq ?_
   iterate 4 refine sp ?_
   refine cd H (fun hb4 H => ?_) fun hb4 H => ?_
   · iterate 4 refine sp ?_
     refine WP.regionD' 6 [] [] mixed rfl ?_
     refine dT 0 ?_
     refine dT 1 ?_
     refine dT 2 ?_
     obtain ⟨h4, H⟩ := grd H
     refine dT 3 ?_
     refine dT 4 ?_
     refine dT 5 ?_
     refine WPD.doneW (by kernel_rfl) ?_
     exact wq [0, 1, 2] (InBlock.n (Then.n ⟨n, (x17, (Int.tmod x16 x17)), Nat.lt_succ_self n, H, rfl, rfl⟩))
   refine sp ?_
   have q0 := j1 H
   subst q0
   exact wq [0, 1, 2] (Then.x (Then.x r3))
 iterate 6 refine sp ?_
 obtain ⟨h5, H⟩ := grd H
 refine sp ?_
 obtain ⟨⟨x18, x19⟩, h6, H⟩ := bnd H
 refine WPL.c (rc [] [] 3 [] (s_dec_factors k (IntKind.wrap .u64 (Int.tdiv x14 x15)) 2 x18 x19 h6)) rfl ?_
 iterate 8 refine sp ?_
 obtain ⟨⟨x20, x21⟩, h7, H⟩ := bnd H
 refine WPL.c (rc [] [] 3 [] (s_dec_factors k x19 5 x20 x21 h7)) rfl ?_
 iterate 6 refine sp ?_
 refine WP.seq ?_
 iterate 4 refine sp ?_
 refine cd H (fun hb5 H => ?_) fun hb5 H => ?_
 · iterate 6 refine sp ?_
   obtain ⟨rfl, rfl, rfl⟩ := j3 H
   exact W.now (Then.r (mb [2]))
 iterate 6 refine sp ?_
 obtain ⟨x22, h8, H⟩ := bnd H
 refine sn (nm_int h8) ?_
 iterate 5 refine sp ?_
 obtain ⟨h8, H⟩ := grd H
 iterate 6 refine sp ?_
 refine WP.seq ?_
 iterate 4 refine sp ?_
 refine WP.cv (Cv.weak (E' := (((((((((Env.none.upd 2 (.ptr 0 0)).upd 3 (.ptr 1 0)).upd 4 (.ptr 2 0)).upd 10 (.lit (.int .i64 x18))).upd 12 (.lit (.int .i64 x20))).upd 13 (.lit (.int .i64 x22))).upd 14 (.ptr 3 0)).upd 15 (.lit (.bool true))).upd 16 (.lit (.int .i64 0)))) (M' := ((((Mem.nil.push (.cells 23 [.lit (.int .i64 x9), .lit (.int .i64 x10)])).push (.cells 23 [.lit (.int .i64 x11), .lit (.int .i64 x12)])).push (.cells 23 [.lit (.int .i64 0), .lit (.int .i64 0)])).push (.cells 69 [.lit (.int .u64 0), .lit (.int .u64 (IntKind.wrap .u64 (Int.tdiv x13 x15)))]))) [0, 1, 2, 3] hnp ⟨rfl, AA4, by decide, rfl, trivial⟩ (LeE.u (LeE.u (LeE.u (LeE.u (LeE.u (LeE.u (LeE.u (LeE.u (LeE.u (LeE.none rfl rfl))))))))))) ?_
 obtain ⟨⟨x23, x24, x25⟩, H2, H⟩ := bnd H
 refine mo (.exit 2) (((((((Env.none.upd 2 (.ptr 0 0)).upd 3 (.ptr 1 0)).upd 4 (.ptr 2 0)).upd 12 (.lit (.int .i64 x20))).upd 13 (.lit (.int .i64 x22))).upd 14 (.ptr 3 0)).upd 15 (.lit (.bool x23))) ((((Mem.nil.push (.cells 23 [.lit (.int .i64 x9), .lit (.int .i64 x10)])).push (.cells 23 [.lit (.int .i64 x11), .lit (.int .i64 x12)])).push (.cells 23 [.lit (.int .i64 0), .lit (.int .i64 0)])).push (.cells 69 [.lit (.int .u64 x24), .lit (.int .u64 x25)])) ?_ ?_
 · refine WP.loop (β := Bool × Int × Int × Int) (fun n b => g_dec_Div_l1 k x18 x22 n b.1 b.2.1 b.2.2.1 b.2.2.2 = some (x23, x24, x25)) (fun b => (((((((((Env.none.upd 2 (.ptr 0 0)).upd 3 (.ptr 1 0)).upd 4 (.ptr 2 0)).upd 10 (.lit (.int .i64 x18))).upd 12 (.lit (.int .i64 x20))).upd 13 (.lit (.int .i64 x22))).upd 14 (.ptr 3 0)).upd 15 (.lit (.bool b.1))).upd 16 (.lit (.int .i64 b.2.1)))) (fun b => ((((Mem.nil.push (.cells 23 [.lit (.int .i64 x9), .lit (.int .i64 x10)])).push (.cells 23 [.lit (.int .i64 x11), .lit (.int .i64 x12)])).push (.cells 23 [.lit (.int .i64 0), .lit (.int .i64 0)])).push (.cells 69 [.lit (.int .u64 b.2.2.1), .lit (.int .u64 b.2.2.2)]))) k (true, 0, 0, (IntKind.wrap .u64 (Int.tdiv x13 x15))) H2 rfl rfl ?_
   rintro n ⟨x26, x27, x28, x29⟩ H
   obtain _ | n := n
   · exact nf rfl H
   rw [g_dec_Div_l1.eq_2] at H
   show WP _ _ _ _ (((((((((Env.none.upd 2 (.ptr 0 0)).upd 3 (.ptr 1 0)).upd 4 (.ptr 2 0)).upd 10 (.lit (.int .i64 x18))).upd 12 (.lit (.int .i64 x20))).upd 13 (.lit (.int .i64 x22))).upd 14 (.ptr 3 0)).upd 15 (.lit (.bool x26))).upd 16 (.lit (.int .i64 x27))) ((((Mem.nil.push (.cells 23 [.lit (.int .i64 x9), .lit (.int .i64 x10)])).push (.cells 23 [.lit (.int .i64 x11), .lit (.int .i64 x12)])).push (.cells 23 [.lit (.int .i64 0), .lit (.int .i64 0)])).push (.cells 69 [.lit (.int .u64 x28), .lit (.int .u64 x29)])) _
   refine WP.seq ?_
   refine WP.seq ?_
   obtain ⟨x30, H3, H⟩ := bnd H
   refine mo .normal ((((((((((Env.none.upd 2 (.ptr 0 0)).upd 3 (.ptr 1 0)).upd 4 (.ptr 2 0)).upd 10 (.lit (.int .i64 x18))).upd 12 (.lit (.int .i64 x20))).upd 13 (.lit (.int .i64 x22))).upd 14 (.ptr 3 0)).upd 15 (.lit (.bool x26))).upd 16 (.lit (.int .i64 x27))).upd 73 (.lit (.bool x30))) ((((Mem.nil.push (.cells 23 [.lit (.int .i64 x9), .lit (.int .i64 x10)])).push (.cells 23 [.lit (.int .i64 x11), .lit (.int .i64 x12)])).push (.cells 23 [.lit (.int .i64 0), .lit (.int .i64 0)])).push (.cells 69 [.lit (.int .u64 x28), .lit (.int .u64 x29)])) ?_ ?_
   · clear H
     have H := H3
     clear H3
     iterate 5 refine sp ?_
     obtain ⟨x31, h9, H⟩ := bnd H
     refine sn (nm_bool h9) ?_
     refine sp ?_
     refine ws 71 H (fun hb6 H => ?_) fun hb6 H => ?_
     · iterate 2 refine sp ?_
       refine WPL.nilW ?_
       have q0 := j1 H
       subst q0
       exact wq [0, 1, 2, 3]
     iterate 2 refine sp ?_
     refine WPL.nilW ?_
     have q0 := j1 H
     subst q0
     exact wq [0, 1, 2, 3]
   iterate 2 refine sp ?_
   refine cd H (fun hb7 H => ?_) fun hb7 H => ?_
   · iterate 3 refine sp ?_
     refine WP.seq ?_
     iterate 3 refine sp ?_
     obtain ⟨⟨x32, x33⟩, h10, H⟩ := bnd H
     refine WPL.c (rc [] [4] 5 [] (s_dec_wide_times k x28 x29 2 x32 x33 h10)) rfl ?_
     iterate 5 refine sp ?_
     refine WPL.nilW ?_
     refine sp ?_
     refine InBlock.n ?_
     iterate 5 refine sp ?_
     refine WPL.nilW ?_
     exact wq [0, 1, 2, 3] (Then.n ⟨n, (x32, (IntKind.wrap .i64 (x27 + 1)), x33, (IntKind.wrap .u64 (x29 * 2))), Nat.lt_succ_self n, H, rfl, rfl⟩)
   refine sp ?_
   obtain ⟨rfl, rfl, rfl⟩ := j3 H
   exact wq [0, 1, 2, 3] (Then.x (Then.x r3))
 iterate 3 refine sp ?_
 refine WP.seq ?_
 iterate 4 refine sp ?_
 refine WP.cv (Cv.weak (E' := ((((((((Env.none.upd 2 (.ptr 0 0)).upd 3 (.ptr 1 0)).upd 4 (.ptr 2 0)).upd 12 (.lit (.int .i64 x20))).upd 13 (.lit (.int .i64 x22))).upd 14 (.ptr 3 0)).upd 15 (.lit (.bool x23))).upd 17 (.lit (.int .i64 0)))) (M' := ((((Mem.nil.push (.cells 23 [.lit (.int .i64 x9), .lit (.int .i64 x10)])).push (.cells 23 [.lit (.int .i64 x11), .lit (.int .i64 x12)])).push (.cells 23 [.lit (.int .i64 0), .lit (.int .i64 0)])).push (.cells 69 [.lit (.int .u64 x24), .lit (.int .u64 x25)]))) [0, 1, 2, 3] hnp ⟨rfl, AA4, by decide, rfl, trivial⟩ (LeE.u (LeE.u (LeE.u (LeE.u (LeE.u (LeE.u (LeE.u (LeE.u (LeE.none rfl rfl)))))))))) ?_
 obtain ⟨⟨x34, x35, x36⟩, H4, H⟩ := bnd H
 refine mo (.exit 4) ((((((Env.none.upd 2 (.ptr 0 0)).upd 3 (.ptr 1 0)).upd 4 (.ptr 2 0)).upd 13 (.lit (.int .i64 x22))).upd 14 (.ptr 3 0)).upd 15 (.lit (.bool x34))) ((((Mem.nil.push (.cells 23 [.lit (.int .i64 x9), .lit (.int .i64 x10)])).push (.cells 23 [.lit (.int .i64 x11), .lit (.int .i64 x12)])).push (.cells 23 [.lit (.int .i64 0), .lit (.int .i64 0)])).push (.cells 69 [.lit (.int .u64 x35), .lit (.int .u64 x36)])) ?_ ?_
 · refine WP.loop (β := Bool × Int × Int × Int) (fun n b => g_dec_Div_l2 k x20 x22 n b.1 b.2.1 b.2.2.1 b.2.2.2 = some (x34, x35, x36)) (fun b => ((((((((Env.none.upd 2 (.ptr 0 0)).upd 3 (.ptr 1 0)).upd 4 (.ptr 2 0)).upd 12 (.lit (.int .i64 x20))).upd 13 (.lit (.int .i64 x22))).upd 14 (.ptr 3 0)).upd 15 (.lit (.bool b.1))).upd 17 (.lit (.int .i64 b.2.1)))) (fun b => ((((Mem.nil.push (.cells 23 [.lit (.int .i64 x9), .lit (.int .i64 x10)])).push (.cells 23 [.lit (.int .i64 x11), .lit (.int .i64 x12)])).push (.cells 23 [.lit (.int .i64 0), .lit (.int .i64 0)])).push (.cells 69 [.lit (.int .u64 b.2.2.1), .lit (.int .u64 b.2.2.2)]))) k (x23, 0, x24, x25) H4 rfl rfl ?_
   rintro n ⟨x37, x38, x39, x40⟩ H
   obtain _ | n := n
   · exact nf rfl H
   rw [g_dec_Div_l2.eq_2] at H
   show WP _ _ _ _ ((((((((Env.none.upd 2 (.ptr 0 0)).upd 3 (.ptr 1 0)).upd 4 (.ptr 2 0)).upd 12 (.lit (.int .i64 x20))).upd 13 (.lit (.int .i64 x22))).upd 14 (.ptr 3 0)).upd 15 (.lit (.bool x37))).upd 17 (.lit (.int .i64 x38))) ((((Mem.nil.push (.cells 23 [.lit (.int .i64 x9), .lit (.int .i64 x10)])).push (.cells 23 [.lit (.int .i64 x11), .lit (.int .i64 x12)])).push (.cells 23 [.lit (.int .i64 0), .lit (.int .i64 0)])).push (.cells 69 [.lit (.int .u64 x39), .lit (.int .u64 x40)])) _
   refine WP.seq ?_
   refine WP.seq ?_
   obtain ⟨x41, H5, H⟩ := bnd H
   refine mo .normal (((((((((Env.none.upd 2 (.ptr 0 0)).upd 3 (.ptr 1 0)).upd 4 (.ptr 2 0)).upd 12 (.lit (.int .i64 x20))).upd 13 (.lit (.int .i64 x22))).upd 14 (.ptr 3 0)).upd 15 (.lit (.bool x37))).upd 17 (.lit (.int .i64 x38))).upd 88 (.lit (.bool x41))) ((((Mem.nil.push (.cells 23 [.lit (.int .i64 x9), .lit (.int .i64 x10)])).push (.cells 23 [.lit (.int .i64 x11), .lit (.int .i64 x12)])).push (.cells 23 [.lit (.int .i64 0), .lit (.int .i64 0)])).push (.cells 69 [.lit (.int .u64 x39), .lit (.int .u64 x40)])) ?_ ?_
   · clear H
     have H := H5
     clear H5
     iterate 5 refine sp ?_
     obtain ⟨x42, h11, H⟩ := bnd H
     refine sn (nm_bool h11) ?_
     refine sp ?_
     refine ws 86 H (fun hb8 H => ?_) fun hb8 H => ?_
     · iterate 2 refine sp ?_
       refine WPL.nilW ?_
       have q0 := j1 H
       subst q0
       exact wq [0, 1, 2, 3]
     iterate 2 refine sp ?_
     refine WPL.nilW ?_
     have q0 := j1 H
     subst q0
     exact wq [0, 1, 2, 3]
   iterate 2 refine sp ?_
   refine cd H (fun hb9 H => ?_) fun hb9 H => ?_
   · iterate 3 refine sp ?_
     refine WP.seq ?_
     iterate 3 refine sp ?_
     obtain ⟨⟨x43, x44⟩, h12, H⟩ := bnd H
     refine WPL.c (rc [] [4] 5 [] (s_dec_wide_times k x39 x40 5 x43 x44 h12)) rfl ?_
     iterate 5 refine sp ?_
     refine WPL.nilW ?_
     refine sp ?_
     refine InBlock.n ?_
     iterate 5 refine sp ?_
     refine WPL.nilW ?_
     exact wq [0, 1, 2, 3] (Then.n ⟨n, (x43, (IntKind.wrap .i64 (x38 + 1)), x44, (IntKind.wrap .u64 (x40 * 5))), Nat.lt_succ_self n, H, rfl, rfl⟩)
   refine sp ?_
   obtain ⟨rfl, rfl, rfl⟩ := j3 H
   exact wq [0, 1, 2, 3] (Then.x (Then.x r3))
 iterate 3 refine sp ?_
 refine WP.seq ?_
 iterate 4 refine sp ?_
 refine cd H (fun hb10 H => ?_) fun hb10 H => ?_
 · iterate 6 refine sp ?_
   obtain ⟨rfl, rfl, rfl⟩ := j3 H
   exact W.now (Then.r (mb [2]))
 iterate 10 refine sp ?_
 obtain ⟨x45, h13, H⟩ := bnd H
 refine WPL.qq (q_nm (q_neqb Tryz.underlying4 rfl rfl) (nm_bool h13)) ?_
 iterate 7 refine sp ?_
 obtain ⟨x46, h14, H⟩ := bnd H
 refine sn (nm_int h14) ?_
 refine sp ?_
 obtain ⟨⟨x47, x48, x49⟩, h14, H⟩ := bnd H
 refine WPL.c (rc [] [4] 5 [] (s_dec_num_tell k x45 x35 x36 x46 x47 x48 x49 h14)) rfl ?_
 iterate 6 refine sp ?_
 obtain ⟨rfl, rfl, rfl⟩ := j3 H
 exact W.now (mb [2])
theorem s_dec_clean__b (k : Nat) (x1 : Int) (x2 : Int) (x3 : Bool) (x4 : Int) (x5 : Int) (H : g_dec_clean__b k x1 x2 = some (x3, x4, x5)) : Go.Q.Spec Tryz.prog 99 2 [.sl 0 1 0 1] ((Mem.nil.push (.cells 96 [.ptr 1 0])).push (.cells 23 [.lit (.int .i64 x1), .lit (.int .i64 x2)])) (fun o M => o = .ret (.lit (.bool x3)) ∧ M = ((Mem.nil.push (.cells 96 [.ptr 1 0])).push (.cells 23 [.lit (.int .i64 x4), .lit (.int .i64 x5)]))) := by
 unfold g_dec_clean__b at H
 refine bo Tryz.func99 [] [.tmp 2] 28 fun cx hnp => ?_
 iterate 3 refine sp ?_
 refine WP.seq ?_
 iterate 2 refine sp ?_
 refine WPL.qq (q_len_sl (k := 1) sl144 rfl rfl) ?_
 iterate 3 refine sp ?_
 refine WP.loopU ?_
 refine WPI.round ?_
 iterate 3 refine sp ?_
 refine WP.seq ?_
 refine WP.condT rfl ?_
 iterate 3 refine sp ?_
 refine WP.seq ?_
 iterate 2 refine sp ?_
 refine WPL.qq (q_index_sl (o := 0) sl144 rfl rfl rfl rfl) ?_
 iterate 3 refine sp ?_
 refine WP.seq ?_
 iterate 4 refine sp ?_
 refine WPL.d (d_buildSlice (ds := ([(⟨x1, x2⟩ : S_api_Dec)] : List S_api_Dec)) (R := rdS_api_Dec) li130 rfl rfl rfl rfl rfl (JoinRows.cons (l := [.lit (.int .i64 x1), .lit (.int .i64 x2)]) (Joins.via (Joins.cons Joins.sc (Joins.cons Joins.sc Joins.unit))) rfl JoinRows.nil) rfl rfl) rfl ?_
 obtain ⟨x6, h1, H⟩ := bnd H
 refine WPL.c (rc [] [] 3 [2] (s_dec_ranged k ([(⟨x1, x2⟩ : S_api_Dec)] : List S_api_Dec) x6 h1)) rfl ?_
 iterate 2 refine sp ?_
 refine cd H (fun hb1 H => ?_) fun hb1 H => ?_
 · iterate 4 refine sp ?_
   obtain ⟨rfl, rfl, rfl⟩ := j3 H
   exact W.now (Then.r (InBlock.r (Then.r (Then.r (InBlock.r (Then.r (mb [0, 1])))))))
 iterate 8 refine sp ?_
 obtain ⟨x7, h2, H⟩ := bnd H
 refine WPL.c (rc [] [3] 4 [] (s_dec_of k x1 x2 x7 h2)) rfl ?_
 obtain ⟨⟨x8, x9, x10⟩, h3, H⟩ := bnd H
 refine WPL.c (rc [] [4] 5 [] (s_dec_num_tell k (decide (x1 < 0)) 0 x7 x2 x8 x9 x10 h3)) rfl ?_
 iterate 5 refine sp ?_
 refine WPL.nilW ?_
 refine sp ?_
 refine InBlock.n ?_
 iterate 2 refine sp ?_
 refine WPL.qq (q_nm aq (fold_int (b := 1) (by decide))) ?_
 iterate 2 refine sp ?_
 refine WPI.round ?_
 iterate 3 refine sp ?_
 refine WP.seq ?_
 refine WP.condF rfl ?_
 iterate 2 refine sp ?_
 refine Then.x ?_
 refine Then.x ?_
 iterate 6 refine sp ?_
 obtain ⟨rfl, rfl, rfl⟩ := j3 H
 exact W.now (mb [0, 1])
theorem s_dec_Int (k : Nat) (x1 : Int) (x2 : Int) (x3 : Int) (x4 : Bool) (H : g_dec_Int k x1 x2 = some (x3, x4)) : Go.Q.Spec Tryz.prog 150 0 [.agg [.lit (.int .i64 x1), .lit (.int .i64 x2)]] Mem.nil (fun o M => o = .ret (.tup [.lit (.int .i64 x3), .lit (.bool x4)]) ∧ M = Mem.nil) := by
 unfold g_dec_Int at H
 refine bo Tryz.func150 [] [.tmp 2, .tmp 3] 46 fun cx hnp => ?_
 iterate 5 refine sp ?_
 refine WP.seq ?_
 refine WP.seq ?_
 obtain ⟨⟨x5, x6, x7⟩, H1, H⟩ := bnd H
 refine mo .normal ((Env.none.upd 1 (.ptr 0 0)).upd 13 (.lit (.bool x5))) (Mem.nil.push (.cells 23 [.lit (.int .i64 x6), .lit (.int .i64 x7)])) ?_ ?_
 · clear H
   have H := H1
   clear H1
   refine sp ?_
   refine WPL.d (d_buildCells li144 rfl rfl rfl rfl rfl) rfl ?_
   obtain ⟨⟨x8, x9, x10⟩, h1, H⟩ := bnd H
   refine WPL.c (rc [1, 0] [1, 0] 2 [] (s_dec_clean__b k x1 x2 x8 x9 x10 h1)) rfl ?_
   iterate 2 refine sp ?_
   refine ws 9 H (fun hb1 H => ?_) fun hb1 H => ?_
   · iterate 4 refine sp ?_
     refine WPL.nilW ?_
     obtain ⟨rfl, rfl, rfl⟩ := j3 H
     exact wq [0]
   iterate 4 refine sp ?_
   refine WPL.nilW ?_
   obtain ⟨rfl, rfl, rfl⟩ := j3 H
   exact wq [0]
 iterate 2 refine sp ?_
 refine cd H (fun hb2 H => ?_) fun hb2 H => ?_
 · iterate 5 refine sp ?_
   obtain ⟨rfl, rfl⟩ := j2 H
   exact W.now (Then.r (mb []))
 iterate 3 refine sp ?_
 refine WP.seq ?_
 obtain ⟨⟨x11, x12, x13⟩, H2, H⟩ := bnd H
 refine mo .normal (((Env.none.upd 1 (.ptr 0 0)).upd 4 (.ptr 1 0)).upd 5 (.lit (.bool x11))) ((Mem.nil.push (.cells 23 [.lit (.int .i64 x6), .lit (.int .i64 x7)])).push (.cells 69 [.lit (.int .u64 x12), .lit (.int .u64 x13)])) ?_ ?_
 · clear H
   have H := H2
   clear H2
   refine WP.regionD' 13 [0] [] mixed rfl ?_
   refine dT 0 ?_
   refine dT 4 ?_
   refine dK 1 ?_
   refine dK 5 ?_
   refine WPD.of2 2 10 (by kernel_rfl) ?_ ?_
   · obtain ⟨x14, h2, H⟩ := bnd H
     refine WPD1.eff 2 [0] [] rfl (rc [] [] 1 [] (s_dec_size k x6 x14 h2)) rfl rfl ?_
     refine dT 3 ?_
     refine WPD.of2 6 10 (by kernel_rfl) ?_ ?_
     · obtain ⟨⟨x15, x16, x17⟩, h3, H⟩ := bnd H
       refine WPD1.eff 6 [0] [] rfl (rc [] [1] 2 [] (s_dec_wide_tens k 0 x14 x7 x15 x16 x17 h3)) rfl rfl ?_
       refine dT 7 ?_
       refine dT 8 ?_
       refine dT 9 ?_
       refine dE 10 [0] [] rfl (Does.runs (d_alloc ze69 rfl)) ?_
       refine dS 11 [0] [] ?_
       refine dT 12 ?_
       refine WPD.doneW (by kernel_rfl) ?_
       obtain ⟨rfl, rfl, rfl⟩ := j3 H
       exact wq [0, 2]
     refine WPD1.eff 10 [0] [] rfl (Does.runs (d_alloc ze69 rfl)) rfl rfl ?_
     obtain ⟨⟨x18, x19, x20⟩, h4, H⟩ := bnd H
     refine dE 6 [0] [] rfl (rc [] [2] 3 [] (s_dec_wide_tens k 0 x14 x7 x18 x19 x20 h4)) ?_
     refine dT 7 ?_
     refine dT 8 ?_
     refine dT 9 ?_
     refine dS 11 [0] [] ?_
     refine dT 12 ?_
     refine WPD.doneW (by kernel_rfl) ?_
     obtain ⟨rfl, rfl, rfl⟩ := j3 H
     exact wq [0, 1]
   refine WPD1.eff 10 [0] [] rfl (Does.runs (d_alloc ze69 rfl)) rfl rfl ?_
   obtain ⟨x21, h5, H⟩ := bnd H
   refine dE 2 [0] [] rfl (rc [] [] 2 [] (s_dec_size k x6 x21 h5)) ?_
   refine dT 3 ?_
   obtain ⟨⟨x22, x23, x24⟩, h6, H⟩ := bnd H
   refine dE 6 [0] [] rfl (rc [] [2] 3 [] (s_dec_wide_tens k 0 x21 x7 x22 x23 x24 h6)) ?_
   refine dT 7 ?_
   refine dT 8 ?_
   refine dT 9 ?_
   refine dS 11 [0] [] ?_
   refine dT 12 ?_
   refine WPD.doneW (by kernel_rfl) ?_
   obtain ⟨rfl, rfl, rfl⟩ := j3 H
   exact wq [0, 1]
 iterate 2 refine sp ?_
 refine WP.seq ?_
 refine WP.seq ?_
 obtain ⟨x25, H3, H⟩ := bnd H
 refine mo .normal (((Env.none.upd 1 (.ptr 0 0)).upd 4 (.ptr 1 0)).upd 35 (.lit (.bool x25))) ((Mem.nil.push (.cells 23 [.lit (.int .i64 x6), .lit (.int .i64 x7)])).push (.cells 69 [.lit (.int .u64 x12), .lit (.int .u64 x13)])) ?_ ?_
 · clear H
   have H := H3
   clear H3
   iterate 4 refine sp ?_
   refine ws 26 H (fun hb3 H => ?_) fun hb3 H => ?_
   · iterate 9 refine sp ?_
     refine WPL.nilW ?_
     have q0 := j1 H
     subst q0
     exact wq [0, 1]
   iterate 5 refine sp ?_
   refine ws 31 H (fun hb4 H => ?_) fun hb4 H => ?_
   · iterate 4 refine sp ?_
     refine WPL.nilW ?_
     have q0 := j1 H
     subst q0
     exact wq [0, 1]
   iterate 4 refine sp ?_
   refine WPL.nilW ?_
   have q0 := j1 H
   subst q0
   exact wq [0, 1]
 iterate 2 refine sp ?_
 refine cd H (fun hb5 H => ?_) fun hb5 H => ?_
 · iterate 5 refine sp ?_
   obtain ⟨rfl, rfl⟩ := j2 H
   exact W.now (Then.r (mb []))
 iterate 3 refine sp ?_
 refine WP.seq ?_
 iterate 5 refine sp ?_
 refine cd H (fun hb6 H => ?_) fun hb6 H => ?_
 · iterate 4 refine sp ?_
   obtain ⟨x26, h7, H⟩ := bnd H
   refine sn (nm_int h7) ?_
   iterate 4 refine sp ?_
   obtain ⟨rfl, rfl⟩ := j2 H
   exact W.now (Then.r (mb []))
 iterate 11 refine sp ?_
 obtain ⟨rfl, rfl⟩ := j2 H
 exact W.now (mb [])
end Go.Proofs.YthpcgknknpjpdaaGreatDoor.W
namespace Go.Proofs.YthpcgknknpjpdaaGreatDoor.W
open Go Go.Q Go.Proofs
set_option linter.unusedVariables false
set_option linter.unusedSimpArgs false
set_option maxRecDepth 100000
set_option maxHeartbeats 4000000
theorem s_dec_Pow (k : Nat) (x1 : Int) (x2 : Int) (x3 : Int) (x4 : Int) (x5 : Int) (x6 : Int) (x7 : Int) (H : g_dec_Pow k x1 x2 x3 x4 = some (x5, x6, x7)) : Go.Q.Spec Tryz.prog 111 0 [.agg [.lit (.int .i64 x1), .lit (.int .i64 x2)], .agg [.lit (.int .i64 x3), .lit (.int .i64 x4)]] Mem.nil (fun o M => o = .ret (.tup [.agg [.lit (.int .i64 x6), .lit (.int .i64 x7)], .lit (.int .i64 x5)]) ∧ M = (Mem.nil.push (.cells 23 [.lit (.int .i64 x6), .lit (.int .i64 x7)]))) := by
 unfold g_dec_Pow at H
 refine bo Tryz.func111 [(23, 2)] [.cell 4 23, .tmp 5] 66 fun cx hnp => ?_
 iterate 6 refine sp ?_
 refine WP.seq ?_
 refine sp ?_
 refine WPL.d (d_buildCells li144 rfl rfl rfl rfl rfl) rfl ?_
 obtain ⟨⟨x8, x9, x10, x11, x12⟩, h1, H⟩ := bnd H
 refine WPL.c (rc [3, 0, 1] [3, 0, 1] 4 [] (s_dec_clean k x1 x2 x3 x4 x8 x9 x10 x11 x12 h1)) rfl ?_
 iterate 2 refine sp ?_
 refine cd H (fun hb1 H => ?_) fun hb1 H => ?_
 · iterate 6 refine sp ?_
   obtain ⟨rfl, rfl, rfl⟩ := j3 H
   exact W.now (Then.r (mb [2]))
 iterate 5 refine sp ?_
 obtain ⟨⟨x13, x14⟩, h2, H⟩ := bnd H
 refine WPL.c (rc [] [] 4 [] (s_dec_Int k x11 x12 x13 x14 h2)) rfl ?_
 iterate 6 refine sp ?_
 refine WP.seq ?_
 refine WP.seq ?_
 obtain ⟨x15, H1, H⟩ := bnd H
 refine mo .normal ((((Env.none.upd 2 (.ptr 0 0)).upd 4 (.ptr 1 0)).upd 6 (.lit (.int .i64 x13))).upd 31 (.lit (.bool x15))) ((Mem.nil.push (.cells 23 [.lit (.int .i64 x9), .lit (.int .i64 x10)])).push (.cells 23 [.lit (.int .i64 0), .lit (.int .i64 0)])) ?_ ?_
 · clear H
   have H := H1
   clear H1
   iterate 4 refine sp ?_
   refine ws 24 H (fun hb2 H => ?_) fun hb2 H => ?_
   · iterate 7 refine sp ?_
     refine WPL.nilW ?_
     have q0 := j1 H
     subst q0
     exact wq [0, 2]
   iterate 4 refine sp ?_
   refine ws 28 H (fun hb3 H => ?_) fun hb3 H => ?_
   · iterate 3 refine sp ?_
     refine WPL.nilW ?_
     have q0 := j1 H
     subst q0
     exact wq [0, 2]
   iterate 3 refine sp ?_
   refine WPL.nilW ?_
   have q0 := j1 H
   subst q0
   exact wq [0, 2]
 iterate 2 refine sp ?_
 refine cd H (fun hb4 H => ?_) fun hb4 H => ?_
 · iterate 6 refine sp ?_
   obtain ⟨rfl, rfl, rfl⟩ := j3 H
   exact W.now (Then.r (mb [1]))
 iterate 3 refine sp ?_
 refine WP.seq ?_
 obtain ⟨y1, H2, H⟩ := bnd H
 refine WP.monoW (Q := fun x E M => match (generalizing := false) y1 with | (Sum.inl x16) => x = .ret ∧ E = ((Env.none.upd 4 (.ptr 0 0)).upd 5 (.lit (.int .i64 x16))) ∧ M = (Mem.nil.push (.cells 23 [.lit (.int .i64 0), .lit (.int .i64 0)])) | (Sum.inr (x17, x18, x19)) => x = .normal ∧ E = (((Env.none.upd 2 (.ptr 0 0)).upd 4 (.ptr 1 0)).upd 6 (.lit (.int .i64 x17))) ∧ M = ((Mem.nil.push (.cells 23 [.lit (.int .i64 x18), .lit (.int .i64 x19)])).push (.cells 23 [.lit (.int .i64 0), .lit (.int .i64 0)]))) ?_ ?_
 · clear H
   have H := H2
   clear H2
   iterate 4 refine sp ?_
   refine cd H (fun hb5 H => ?_) fun hb5 H => ?_
   · iterate 3 refine sp ?_
     obtain ⟨⟨x20, x21, x22⟩, h3, H⟩ := bnd H
     refine WPL.c (rc [] [2] 3 [] (s_dec_Div k 1 0 x9 x10 x20 x21 x22 h3)) rfl ?_
     iterate 7 refine sp ?_
     refine WP.seq ?_
     iterate 4 refine sp ?_
     refine cd H (fun hb6 H => ?_) fun hb6 H => ?_
     · iterate 7 refine sp ?_
       have q0 := j1 H
       subst q0
       exact wq [1] (Then.r r3)
     iterate 9 refine sp ?_
     refine WPL.nilW ?_
     have q0 := j1 H
     subst q0
     exact wq [0, 1]
   refine sp ?_
   have q0 := j1 H
   subst q0
   exact wq [0, 1]
 rcases y1 with x16 | ⟨x17, x18, x19⟩
 · rintro _ _ _ ⟨rfl, rfl, rfl⟩
   obtain ⟨rfl, rfl, rfl⟩ := j3 H
   exact W.now (Then.r (mb [0]))
 rintro _ _ _ ⟨rfl, rfl, rfl⟩
 iterate 8 refine sp ?_
 refine WP.seq ?_
 iterate 4 refine sp ?_
 refine WP.cv (Cv.weak (E' := ((((((Env.none.upd 2 (.ptr 0 0)).upd 4 (.ptr 1 0)).upd 6 (.lit (.int .i64 x17))).upd 10 (.ptr 2 0)).upd 11 (.lit (.int .i64 0))).upd 12 (.lit (.int .i64 0)))) (M' := (((Mem.nil.push (.cells 23 [.lit (.int .i64 x18), .lit (.int .i64 x19)])).push (.cells 23 [.lit (.int .i64 0), .lit (.int .i64 0)])).push (.cells 23 [.lit (.int .i64 1), .lit (.int .i64 0)]))) [0, 1, 2] hnp ⟨rfl, AA3, by decide, rfl, trivial⟩ (LeE.u (LeE.u (LeE.u (LeE.u (LeE.u (LeE.u (LeE.none rfl rfl)))))))) ?_
 obtain ⟨⟨x23, x24, x25⟩, H3, H⟩ := bnd H
 refine mo (.exit 0) (((Env.none.upd 4 (.ptr 0 0)).upd 10 (.ptr 1 0)).upd 11 (.lit (.int .i64 x23))) ((Mem.nil.push (.cells 23 [.lit (.int .i64 0), .lit (.int .i64 0)])).push (.cells 23 [.lit (.int .i64 x24), .lit (.int .i64 x25)])) ?_ ?_
 · refine WP.loop (β := Int × Int × Int × Int) (fun n b => g_dec_Pow_l0 k x17 x18 x19 n b.1 b.2.1 b.2.2.1 b.2.2.2 = some (x23, x24, x25)) (fun b => ((((((Env.none.upd 2 (.ptr 0 0)).upd 4 (.ptr 1 0)).upd 6 (.lit (.int .i64 x17))).upd 10 (.ptr 2 0)).upd 11 (.lit (.int .i64 b.1))).upd 12 (.lit (.int .i64 b.2.1)))) (fun b => (((Mem.nil.push (.cells 23 [.lit (.int .i64 x18), .lit (.int .i64 x19)])).push (.cells 23 [.lit (.int .i64 0), .lit (.int .i64 0)])).push (.cells 23 [.lit (.int .i64 b.2.2.1), .lit (.int .i64 b.2.2.2)]))) k (0, 0, 1, 0) H3 rfl rfl ?_
   rintro n ⟨x26, x27, x28, x29⟩ H
   obtain _ | n := n
   · exact nf rfl H
   rw [g_dec_Pow_l0.eq_2] at H
   show WP _ _ _ _ ((((((Env.none.upd 2 (.ptr 0 0)).upd 4 (.ptr 1 0)).upd 6 (.lit (.int .i64 x17))).upd 10 (.ptr 2 0)).upd 11 (.lit (.int .i64 x26))).upd 12 (.lit (.int .i64 x27))) (((Mem.nil.push (.cells 23 [.lit (.int .i64 x18), .lit (.int .i64 x19)])).push (.cells 23 [.lit (.int .i64 0), .lit (.int .i64 0)])).push (.cells 23 [.lit (.int .i64 x28), .lit (.int .i64 x29)])) _
   refine WP.seq ?_
   refine WP.seq ?_
   obtain ⟨x30, H4, H⟩ := bnd H
   refine mo .normal (((((((Env.none.upd 2 (.ptr 0 0)).upd 4 (.ptr 1 0)).upd 6 (.lit (.int .i64 x17))).upd 10 (.ptr 2 0)).upd 11 (.lit (.int .i64 x26))).upd 12 (.lit (.int .i64 x27))).upd 55 (.lit (.bool x30))) (((Mem.nil.push (.cells 23 [.lit (.int .i64 x18), .lit (.int .i64 x19)])).push (.cells 23 [.lit (.int .i64 0), .lit (.int .i64 0)])).push (.cells 23 [.lit (.int .i64 x28), .lit (.int .i64 x29)])) ?_ ?_
   · clear H
     have H := H4
     clear H4
     iterate 5 refine sp ?_
     refine ws 52 H (fun hb7 H => ?_) fun hb7 H => ?_
     · iterate 3 refine sp ?_
       refine WPL.nilW ?_
       have q0 := j1 H
       subst q0
       exact wq [0, 1, 2]
     iterate 3 refine sp ?_
     refine WPL.nilW ?_
     have q0 := j1 H
     subst q0
     exact wq [0, 1, 2]
   iterate 2 refine sp ?_
   refine cd H (fun hb8 H => ?_) fun hb8 H => ?_
   · iterate 3 refine sp ?_
     refine WP.seq ?_
     iterate 4 refine sp ?_
     obtain ⟨⟨x31, x32, x33⟩, h4, H⟩ := bnd H
     refine WPL.c (rc [] [3] 4 [] (s_dec_Mul k x28 x29 x18 x19 x31 x32 x33 h4)) rfl ?_
     iterate 5 refine sp ?_
     refine WPL.nilW ?_
     refine sp ?_
     refine InBlock.n ?_
     iterate 5 refine sp ?_
     refine WPL.nilW ?_
     exact wq [0, 1, 2] (Then.n ⟨n, (x31, (IntKind.wrap .i64 (x27 + 1)), x32, x33), Nat.lt_succ_self n, H, rfl, rfl⟩)
   refine sp ?_
   obtain ⟨rfl, rfl, rfl⟩ := j3 H
   exact wq [1, 2] (Then.x (Then.x r3))
 iterate 10 refine sp ?_
 obtain ⟨rfl, rfl, rfl⟩ := j3 H
 exact W.now (mb [0])
theorem s_val_sum (k : Nat) (x1 : Int) (x2 : Int) (x3 : Int) (x4 : Int) (x5 : Int) (x6 : Int) (x7 : Int) (x8 : Int) (H : g_val_sum k x1 x2 x3 x4 x5 = some (x6, x7, x8)) : Go.Q.Spec Tryz.prog 62 0 [.lit (.int .i64 x1), .agg [.lit (.int .i64 x2), .lit (.int .i64 x3)], .agg [.lit (.int .i64 x4), .lit (.int .i64 x5)]] Mem.nil (fun o M => o = .ret (.tup [.agg [.lit (.int .i64 x7), .lit (.int .i64 x8)], .lit (.int .i64 x6)]) ∧ M = (Mem.nil.push (.cells 23 [.lit (.int .i64 x7), .lit (.int .i64 x8)]))) := by
 unfold g_val_sum at H
 refine bo Tryz.func62 [(23, 2)] [.cell 6 23, .tmp 7] 42 fun cx hnp => ?_
 iterate 6 refine sp ?_
 refine WP.seq ?_
 iterate 8 refine sp ?_
 refine cd H (fun hb1 H => ?_) fun hb1 H => ?_
 · iterate 3 refine sp ?_
   obtain ⟨⟨x9, x10, x11⟩, h1, H⟩ := bnd H
   refine WPL.c (rc [] [3] 4 [] (s_dec_Add k x2 x3 x4 x5 x9 x10 x11 h1)) rfl ?_
   iterate 6 refine sp ?_
   obtain ⟨rfl, rfl, rfl⟩ := j3 H
   exact W.now (InBlock.r (Then.r (mb [2])))
 iterate 4 refine sp ?_
 refine cd H (fun hb2 H => ?_) fun hb2 H => ?_
 · iterate 3 refine sp ?_
   obtain ⟨⟨x12, x13, x14⟩, h2, H⟩ := bnd H
   refine WPL.c (rc [] [3] 4 [] (s_dec_Sub k x2 x3 x4 x5 x12 x13 x14 h2)) rfl ?_
   iterate 6 refine sp ?_
   obtain ⟨rfl, rfl, rfl⟩ := j3 H
   exact W.now (InBlock.r (Then.r (mb [2])))
 iterate 4 refine sp ?_
 refine cd H (fun hb3 H => ?_) fun hb3 H => ?_
 · iterate 3 refine sp ?_
   obtain ⟨⟨x15, x16, x17⟩, h3, H⟩ := bnd H
   refine WPL.c (rc [] [3] 4 [] (s_dec_Mul k x2 x3 x4 x5 x15 x16 x17 h3)) rfl ?_
   iterate 6 refine sp ?_
   obtain ⟨rfl, rfl, rfl⟩ := j3 H
   exact W.now (InBlock.r (Then.r (mb [2])))
 iterate 4 refine sp ?_
 refine cd H (fun hb4 H => ?_) fun hb4 H => ?_
 · iterate 3 refine sp ?_
   obtain ⟨⟨x18, x19, x20⟩, h4, H⟩ := bnd H
   refine WPL.c (rc [] [3] 4 [] (s_dec_Div k x2 x3 x4 x5 x18 x19 x20 h4)) rfl ?_
   iterate 6 refine sp ?_
   obtain ⟨rfl, rfl, rfl⟩ := j3 H
   exact W.now (InBlock.r (Then.r (mb [2])))
 iterate 2 refine sp ?_
 refine InBlock.n ?_
 iterate 4 refine sp ?_
 obtain ⟨⟨x21, x22, x23⟩, h5, H⟩ := bnd H
 refine WPL.c (rc [] [3] 4 [] (s_dec_Pow k x2 x3 x4 x5 x21 x22 x23 h5)) rfl ?_
 iterate 6 refine sp ?_
 obtain ⟨rfl, rfl, rfl⟩ := j3 H
 exact W.now (mb [2])
theorem s_mb_Mul (k : Nat) (x1 : Int) (x2 : Int) (x3 : Int) (H : g_mb_Mul k x1 x2 = some x3) : Go.Q.Spec Tryz.prog 141 0 [.lit (.int .u64 x1), .lit (.int .u64 x2)] Mem.nil (fun o M => o = .ret (.tup [.lit (.int .u64 x3), .lit (.int .u64 (IntKind.wrap .u64 (x1 * x2)))]) ∧ M = Mem.nil) := by
 unfold g_mb_Mul at H
 refine bo Tryz.func141 [] [.tmp 4, .tmp 5] 30 fun cx hnp => ?_
 iterate 4 refine sp ?_
 refine WP.seq ?_
 refine WP.condF rfl ?_
 iterate 6 refine sp ?_
 obtain ⟨x4, h1, H⟩ := bnd H
 refine WPL.c (rc [] [] 0 [] (s_mb_Mul64 k x1 x2 x4 h1)) rfl ?_
 iterate 13 refine sp ?_
 have q0 := j1 H
 subst q0
 exact W.now (mb [])
theorem s_st_HasPrefix (k : Nat) (x1 : ByteArray) (x2 : ByteArray) (x3 : Bool) (H : g_st_HasPrefix k x1 x2 = some x3) : Go.Q.Spec Tryz.prog 142 0 [.lit (.string x1), .lit (.string x2)] Mem.nil (fun o M => o = .ret (.lit (.bool x3)) ∧ M = Mem.nil) := by
 unfold g_st_HasPrefix at H
 refine bo Tryz.func142 [] [.tmp 4] 8 fun cx hnp => ?_
 iterate 6 refine sp ?_
 obtain ⟨x4, h1, H⟩ := bnd H
 refine WPL.c (rc [] [] 0 [] (s_sl_HasPrefix k x1 x2 x4 h1)) rfl ?_
 iterate 3 refine sp ?_
 have q0 := j1 H
 subst q0
 exact W.now (mb [])
theorem s_st_Repeat (k : Nat) (x1 : ByteArray) (x2 : Int) (x3 : ByteArray) (H : g_st_Repeat k x1 x2 = some x3) : Go.Q.Spec Tryz.prog 107 0 [.lit (.string x1), .lit (.int .i64 x2)] Mem.nil (fun o M => o = .ret (.lit (.string x3)) ∧ M = Mem.nil) := by
 unfold g_st_Repeat at H
 refine bo Tryz.func107 [] [.tmp 4] 125 fun cx hnp => ?_
 iterate 3 refine sp ?_
 refine WP.seq ?_
 iterate 8 refine sp ?_
 refine cd H (fun hb1 H => ?_) fun hb1 H => ?_
 · iterate 4 refine sp ?_
   have q0 := j1 H
   subst q0
   exact W.now (InBlock.r (Then.r (mb [])))
 iterate 4 refine sp ?_
 refine cd H (fun hb2 H => ?_) fun hb2 H => ?_
 · iterate 5 refine sp ?_
   have q0 := j1 H
   subst q0
   exact W.now (InBlock.r (Then.r (mb [])))
 iterate 2 refine sp ?_
 refine InBlock.n ?_
 refine sp ?_
 refine WP.seq ?_
 iterate 4 refine sp ?_
 refine cd H (fun hb3 H => ?_) fun hb3 H => ?_
 · refine sp ?_
   refine WPL.qq (q_mki cn9) ?_
   exact nf rfl H
 iterate 6 refine sp ?_
 obtain ⟨x4, h1, H⟩ := bnd H
 refine sn (nm_int h1) ?_
 iterate 2 refine sp ?_
 obtain ⟨x5, h1, H⟩ := bnd H
 refine WPL.c (rc [] [] 0 [] (s_mb_Mul k x4 (IntKind.wrap .u64 x2) x5 h1)) rfl ?_
 iterate 6 refine sp ?_
 refine WP.seq ?_
 refine WP.seq ?_
 obtain ⟨x6, H1, H⟩ := bnd H
 refine mo .normal (((Env.none.upd 0 (.lit (.string x1))).upd 6 (.lit (.int .u64 (IntKind.wrap .u64 (x4 * (IntKind.wrap .u64 x2)))))).upd 34 (.lit (.bool x6))) Mem.nil ?_ ?_
 · clear H
   have H := H1
   clear H1
   iterate 4 refine sp ?_
   refine ws 31 H (fun hb4 H => ?_) fun hb4 H => ?_
   · iterate 3 refine sp ?_
     refine WPL.nilW ?_
     have q0 := j1 H
     subst q0
     exact wq []
   refine sp ?_
   obtain ⟨x7, h2, H⟩ := bnd H
   refine sn (nm_bool h2) ?_
   refine sp ?_
   refine WPL.nilW ?_
   have q0 := j1 H
   subst q0
   exact wq []
 iterate 2 refine sp ?_
 refine cd H (fun hb5 H => ?_) fun hb5 H => ?_
 · refine sp ?_
   refine WPL.qq (q_mki cn9) ?_
   exact nf rfl H
 iterate 5 refine sp ?_
 obtain ⟨x8, h3, H⟩ := bnd H
 refine sn (nm_int h3) ?_
 iterate 2 refine sp ?_
 refine WP.seq ?_
 iterate 3 refine sp ?_
 obtain ⟨x9, h4, H⟩ := bnd H
 refine sn (nm_bool h4) ?_
 refine sp ?_
 refine cd H (fun hb6 H => ?_) fun hb6 H => ?_
 · iterate 4 refine sp ?_
   have q0 := j1 H
   subst q0
   exact W.now (Then.r (mb []))
 iterate 3 refine sp ?_
 refine WP.seq ?_
 obtain ⟨y1, H2, H⟩ := bnd H
 refine WP.monoW (Q := fun x E M => match (generalizing := false) y1 with | (Sum.inl x10) => x = .ret ∧ E = (Env.none.upd 4 (.lit (.string x10))) ∧ M = Mem.nil | (Sum.inr _) => x = .normal ∧ E = ((Env.none.upd 0 (.lit (.string x1))).upd 7 (.lit (.int .i64 x8))) ∧ M = Mem.nil) ?_ ?_
 · clear H
   have H := H2
   clear H2
   iterate 2 refine sp ?_
   obtain ⟨x11, h5, H⟩ := bnd H
   iterate 3 refine sp ?_
   refine WP.seq ?_
   obtain ⟨x12, H3, H⟩ := bnd H
   refine mo .normal (((Env.none.upd 0 (.lit (.string x1))).upd 7 (.lit (.int .i64 x8))).upd 43 (.lit (.bool x12))) Mem.nil ?_ ?_
   · clear H
     have H := H3
     clear H3
     iterate 4 refine sp ?_
     refine cd H (fun hb7 H => ?_) fun hb7 H => ?_
     · refine sp ?_
       have q0 := j1 H
       subst q0
       exact wq []
     iterate 4 refine sp ?_
     refine cd H (fun hb8 H => ?_) fun hb8 H => ?_
     · refine sp ?_
       have q0 := j1 H
       subst q0
       exact wq []
     iterate 4 refine sp ?_
     refine cd H (fun hb9 H => ?_) fun hb9 H => ?_
     · refine sp ?_
       have q0 := j1 H
       subst q0
       exact wq []
     iterate 4 refine sp ?_
     refine cd H (fun hb10 H => ?_) fun hb10 H => ?_
     · refine sp ?_
       have q0 := j1 H
       subst q0
       exact wq []
     iterate 3 refine sp ?_
     refine WPL.nilW ?_
     have q0 := j1 H
     subst q0
     exact wq []
   iterate 2 refine sp ?_
   refine cd H (fun hb11 H => ?_) fun hb11 H => ?_
   · refine sp ?_
     refine WP.seq ?_
     obtain ⟨x13, H4, H⟩ := bnd H
     refine mo .normal (((Env.none.upd 0 (.lit (.string x1))).upd 7 (.lit (.int .i64 x8))).upd 49 (.lit (.bool x13))) Mem.nil ?_ ?_
     · clear H
       have H := H4
       clear H4
       iterate 4 refine sp ?_
       refine ws 52 H (fun hb12 H => ?_) fun hb12 H => ?_
       · refine sp ?_
         obtain ⟨x14, h6, H⟩ := bnd H
         refine WPL.cg rfl rfl (lb hb12) (rc [] [] 0 [] (s_st_HasPrefix k (ByteArray.mk #[32, 32, 32, 32, 32, 32, 32, 32, 32, 32, 32, 32, 32, 32, 32, 32, 32, 32, 32, 32, 32, 32, 32, 32, 32, 32, 32, 32, 32, 32, 32, 32, 32, 32, 32, 32, 32, 32, 32, 32, 32, 32, 32, 32, 32, 32, 32, 32, 32, 32, 32, 32, 32, 32, 32, 32, 32, 32, 32, 32, 32, 32, 32, 32, 32, 32, 32, 32, 32, 32, 32, 32, 32, 32, 32, 32, 32, 32, 32, 32, 32, 32, 32, 32, 32, 32, 32, 32, 32, 32, 32, 32, 32, 32, 32, 32, 32, 32, 32, 32, 32, 32, 32, 32, 32, 32, 32, 32, 32, 32, 32, 32, 32, 32, 32, 32, 32, 32, 32, 32, 32, 32, 32, 32, 32, 32, 32, 32]) x1 x14 h6)) rfl ?_
         iterate 2 refine sp ?_
         refine WPL.nilW ?_
         have q0 := j1 H
         subst q0
         exact wq []
       iterate 4 refine sp ?_
       refine WPL.nilW ?_
       have q0 := j1 H
       subst q0
       exact wq []
     iterate 2 refine sp ?_
     refine cd H (fun hb13 H => ?_) fun hb13 H => ?_
     · iterate 2 refine sp ?_
       obtain ⟨h7, H⟩ := grd H
       obtain ⟨x15, h8, H⟩ := bnd H
       refine WPL.qq (q_nm (q_slice_str (i := 0) (j := x8) Tryz.underlying9 rfl rfl ⟨_, rfl⟩ h7) (nm_str h8)) ?_
       iterate 3 refine sp ?_
       have q0 := j1 H
       subst q0
       exact wq [] (InBlock.r (InBlock.r r3))
     refine WP.seq ?_
     obtain ⟨x16, H5, H⟩ := bnd H
     refine mo .normal (((Env.none.upd 0 (.lit (.string x1))).upd 7 (.lit (.int .i64 x8))).upd 58 (.lit (.bool x16))) Mem.nil ?_ ?_
     · clear H
       have H := H5
       clear H5
       iterate 4 refine sp ?_
       refine ws 61 H (fun hb14 H => ?_) fun hb14 H => ?_
       · refine sp ?_
         obtain ⟨x17, h9, H⟩ := bnd H
         refine WPL.cg rfl rfl (lb hb14) (rc [] [] 0 [] (s_st_HasPrefix k (ByteArray.mk #[45, 45, 45, 45, 45, 45, 45, 45, 45, 45, 45, 45, 45, 45, 45, 45, 45, 45, 45, 45, 45, 45, 45, 45, 45, 45, 45, 45, 45, 45, 45, 45, 45, 45, 45, 45, 45, 45, 45, 45, 45, 45, 45, 45, 45, 45, 45, 45, 45, 45, 45, 45, 45, 45, 45, 45, 45, 45, 45, 45, 45, 45, 45, 45, 45, 45, 45, 45, 45, 45, 45, 45, 45, 45, 45, 45, 45, 45, 45, 45, 45, 45, 45, 45, 45, 45, 45, 45, 45, 45, 45, 45, 45, 45, 45, 45, 45, 45, 45, 45, 45, 45, 45, 45, 45, 45, 45, 45, 45, 45, 45, 45, 45, 45, 45, 45, 45, 45, 45, 45, 45, 45, 45, 45, 45, 45, 45, 45]) x1 x17 h9)) rfl ?_
         iterate 2 refine sp ?_
         refine WPL.nilW ?_
         have q0 := j1 H
         subst q0
         exact wq []
       iterate 4 refine sp ?_
       refine WPL.nilW ?_
       have q0 := j1 H
       subst q0
       exact wq []
     iterate 2 refine sp ?_
     refine cd H (fun hb15 H => ?_) fun hb15 H => ?_
     · iterate 2 refine sp ?_
       obtain ⟨h10, H⟩ := grd H
       obtain ⟨x18, h11, H⟩ := bnd H
       refine WPL.qq (q_nm (q_slice_str (i := 0) (j := x8) Tryz.underlying9 rfl rfl ⟨_, rfl⟩ h10) (nm_str h11)) ?_
       iterate 3 refine sp ?_
       have q0 := j1 H
       subst q0
       exact wq [] (InBlock.r (InBlock.r r3))
     refine WP.seq ?_
     obtain ⟨x19, H6, H⟩ := bnd H
     refine mo .normal (((Env.none.upd 0 (.lit (.string x1))).upd 7 (.lit (.int .i64 x8))).upd 67 (.lit (.bool x19))) Mem.nil ?_ ?_
     · clear H
       have H := H6
       clear H6
       iterate 4 refine sp ?_
       refine ws 70 H (fun hb16 H => ?_) fun hb16 H => ?_
       · refine sp ?_
         obtain ⟨x20, h12, H⟩ := bnd H
         refine WPL.cg rfl rfl (lb hb16) (rc [] [] 0 [] (s_st_HasPrefix k (ByteArray.mk #[48, 48, 48, 48, 48, 48, 48, 48, 48, 48, 48, 48, 48, 48, 48, 48, 48, 48, 48, 48, 48, 48, 48, 48, 48, 48, 48, 48, 48, 48, 48, 48, 48, 48, 48, 48, 48, 48, 48, 48, 48, 48, 48, 48, 48, 48, 48, 48, 48, 48, 48, 48, 48, 48, 48, 48, 48, 48, 48, 48, 48, 48, 48, 48]) x1 x20 h12)) rfl ?_
         iterate 2 refine sp ?_
         refine WPL.nilW ?_
         have q0 := j1 H
         subst q0
         exact wq []
       iterate 4 refine sp ?_
       refine WPL.nilW ?_
       have q0 := j1 H
       subst q0
       exact wq []
     iterate 2 refine sp ?_
     refine cd H (fun hb17 H => ?_) fun hb17 H => ?_
     · iterate 2 refine sp ?_
       obtain ⟨h13, H⟩ := grd H
       obtain ⟨x21, h14, H⟩ := bnd H
       refine WPL.qq (q_nm (q_slice_str (i := 0) (j := x8) Tryz.underlying9 rfl rfl ⟨_, rfl⟩ h13) (nm_str h14)) ?_
       iterate 3 refine sp ?_
       have q0 := j1 H
       subst q0
       exact wq [] (InBlock.r (InBlock.r r3))
     refine WP.seq ?_
     obtain ⟨x22, H7, H⟩ := bnd H
     refine mo .normal (((Env.none.upd 0 (.lit (.string x1))).upd 7 (.lit (.int .i64 x8))).upd 76 (.lit (.bool x22))) Mem.nil ?_ ?_
     · clear H
       have H := H7
       clear H7
       iterate 4 refine sp ?_
       refine ws 79 H (fun hb18 H => ?_) fun hb18 H => ?_
       · refine sp ?_
         obtain ⟨x23, h15, H⟩ := bnd H
         refine WPL.cg rfl rfl (lb hb18) (rc [] [] 0 [] (s_st_HasPrefix k (ByteArray.mk #[61, 61, 61, 61, 61, 61, 61, 61, 61, 61, 61, 61, 61, 61, 61, 61, 61, 61, 61, 61, 61, 61, 61, 61, 61, 61, 61, 61, 61, 61, 61, 61, 61, 61, 61, 61, 61, 61, 61, 61, 61, 61, 61, 61, 61, 61, 61, 61, 61, 61, 61, 61, 61, 61, 61, 61, 61, 61, 61, 61, 61, 61, 61, 61, 61, 61, 61, 61, 61, 61, 61, 61, 61, 61, 61, 61, 61, 61, 61, 61, 61, 61, 61, 61, 61, 61, 61, 61, 61, 61, 61, 61, 61, 61, 61, 61, 61, 61, 61, 61, 61, 61, 61, 61, 61, 61, 61, 61, 61, 61, 61, 61, 61, 61, 61, 61, 61, 61, 61, 61, 61, 61, 61, 61, 61, 61, 61, 61]) x1 x23 h15)) rfl ?_
         iterate 2 refine sp ?_
         refine WPL.nilW ?_
         have q0 := j1 H
         subst q0
         exact wq []
       iterate 4 refine sp ?_
       refine WPL.nilW ?_
       have q0 := j1 H
       subst q0
       exact wq []
     iterate 2 refine sp ?_
     refine cd H (fun hb19 H => ?_) fun hb19 H => ?_
     · iterate 2 refine sp ?_
       obtain ⟨h16, H⟩ := grd H
       obtain ⟨x24, h17, H⟩ := bnd H
       refine WPL.qq (q_nm (q_slice_str (i := 0) (j := x8) Tryz.underlying9 rfl rfl ⟨_, rfl⟩ h16) (nm_str h17)) ?_
       iterate 3 refine sp ?_
       have q0 := j1 H
       subst q0
       exact wq [] (InBlock.r (InBlock.r r3))
     refine WP.seq ?_
     obtain ⟨x25, H8, H⟩ := bnd H
     refine mo .normal (((Env.none.upd 0 (.lit (.string x1))).upd 7 (.lit (.int .i64 x8))).upd 85 (.lit (.bool x25))) Mem.nil ?_ ?_
     · clear H
       have H := H8
       clear H8
       iterate 4 refine sp ?_
       refine ws 88 H (fun hb20 H => ?_) fun hb20 H => ?_
       · refine sp ?_
         obtain ⟨x26, h18, H⟩ := bnd H
         refine WPL.cg rfl rfl (lb hb20) (rc [] [] 0 [] (s_st_HasPrefix k (ByteArray.mk #[9, 9, 9, 9, 9, 9, 9, 9, 9, 9, 9, 9, 9, 9, 9, 9, 9, 9, 9, 9, 9, 9, 9, 9, 9, 9, 9, 9, 9, 9, 9, 9, 9, 9, 9, 9, 9, 9, 9, 9, 9, 9, 9, 9, 9, 9, 9, 9, 9, 9, 9, 9, 9, 9, 9, 9, 9, 9, 9, 9, 9, 9, 9, 9]) x1 x26 h18)) rfl ?_
         iterate 2 refine sp ?_
         refine WPL.nilW ?_
         have q0 := j1 H
         subst q0
         exact wq []
       iterate 4 refine sp ?_
       refine WPL.nilW ?_
       have q0 := j1 H
       subst q0
       exact wq []
     iterate 2 refine sp ?_
     refine cd H (fun hb21 H => ?_) fun hb21 H => ?_
     · iterate 2 refine sp ?_
       obtain ⟨h19, H⟩ := grd H
       obtain ⟨x27, h20, H⟩ := bnd H
       refine WPL.qq (q_nm (q_slice_str (i := 0) (j := x8) Tryz.underlying9 rfl rfl ⟨_, rfl⟩ h19) (nm_str h20)) ?_
       iterate 3 refine sp ?_
       have q0 := j1 H
       subst q0
       exact wq [] (InBlock.r (InBlock.r r3))
     refine sp ?_
     have q0 := j1 H
     subst q0
     exact wq [] (InBlock.n (InBlock.n r3))
   refine sp ?_
   have q0 := j1 H
   subst q0
   exact wq [] (InBlock.n r3)
 rcases y1 with x10 | _
 · rintro _ _ _ ⟨rfl, rfl, rfl⟩
   have q0 := j1 H
   subst q0
   exact W.now (Then.r (mb []))
 rintro _ _ _ ⟨rfl, rfl, rfl⟩
 iterate 6 refine sp ?_
 refine WP.seq ?_
 obtain ⟨x28, H9, H⟩ := bnd H
 refine mo .normal (((Env.none.upd 0 (.lit (.string x1))).upd 7 (.lit (.int .i64 x8))).upd 8 (.lit (.int .i64 x28))) Mem.nil ?_ ?_
 · clear H
   have H := H9
   clear H9
   iterate 4 refine sp ?_
   refine cd H (fun hb22 H => ?_) fun hb22 H => ?_
   · iterate 3 refine sp ?_
     obtain ⟨h21, H⟩ := grd H
     obtain ⟨x29, h22, H⟩ := bnd H
     refine sn (nm_int h22) ?_
     iterate 2 refine sp ?_
     obtain ⟨x30, h23, H⟩ := bnd H
     refine sn (nm_int h23) ?_
     iterate 6 refine sp ?_
     refine cd H (fun hb23 H => ?_) fun hb23 H => ?_
     · iterate 4 refine sp ?_
       refine WPL.nilW ?_
       have q0 := j1 H
       subst q0
       exact wq []
     refine sp ?_
     have q0 := j1 H
     subst q0
     exact wq []
   refine sp ?_
   have q0 := j1 H
   subst q0
   exact wq []
 iterate 7 refine sp ?_
 exact nf rfl H
end Go.Proofs.YthpcgknknpjpdaaGreatDoor.W
namespace Go.Proofs.YthpcgknknpjpdaaGreatDoor.W
open Go Go.Q Go.Proofs
set_option linter.unusedVariables false
set_option linter.unusedSimpArgs false
set_option maxRecDepth 100000
set_option maxHeartbeats 4000000
theorem s_dec_Print (k : Nat) (x1 : Int) (x2 : Int) (x3 : ByteArray) (H : g_dec_Print k x1 x2 = some x3) : Go.Q.Spec Tryz.prog 61 0 [.agg [.lit (.int .i64 x1), .lit (.int .i64 x2)]] Mem.nil (fun o M => o = .ret (.lit (.string x3)) ∧ M = Mem.nil) := by
 unfold g_dec_Print at H
 refine bo Tryz.func61 [] [.tmp 2] 72 fun cx hnp => ?_
 iterate 4 refine sp ?_
 refine WP.seq ?_
 refine sp ?_
 refine WPL.d (d_buildCells li144 rfl rfl rfl rfl rfl) rfl ?_
 obtain ⟨⟨x4, x5, x6⟩, h1, H⟩ := bnd H
 refine WPL.c (rc [1, 0] [1, 0] 2 [] (s_dec_clean__b k x1 x2 x4 x5 x6 h1)) rfl ?_
 iterate 2 refine sp ?_
 refine cd H (fun hb1 H => ?_) fun hb1 H => ?_
 · iterate 4 refine sp ?_
   have q0 := j1 H
   subst q0
   exact W.now (Then.r (mb []))
 iterate 6 refine sp ?_
 refine WP.seq ?_
 iterate 3 refine sp ?_
 obtain ⟨x7, h2, H⟩ := bnd H
 refine WPL.c (rc [] [] 2 [] (s_dec_size k x5 x7 h2)) rfl ?_
 iterate 3 refine sp ?_
 refine WP.cv (Cv.weak (E' := (((Env.none.upd 1 (.ptr 0 0)).upd 3 (.lit (.string (ByteArray.mk #[])))).upd 4 (.lit (.int .u64 x7)))) (M' := (Mem.nil.push (.cells 23 [.lit (.int .i64 x5), .lit (.int .i64 x6)]))) [0] hnp ⟨rfl, AA1, by decide, rfl, trivial⟩ (LeE.u (LeE.u (LeE.u (LeE.none rfl rfl))))) ?_
 obtain ⟨x8, H1, H⟩ := bnd H
 refine mo (.exit 0) ((Env.none.upd 1 (.ptr 0 0)).upd 3 (.lit (.string x8))) (Mem.nil.push (.cells 23 [.lit (.int .i64 x5), .lit (.int .i64 x6)])) ?_ ?_
 · refine WP.loop (β := ByteArray × Int) (fun n b => g_dec_Print_l0 k n b.1 b.2 = some x8) (fun b => (((Env.none.upd 1 (.ptr 0 0)).upd 3 (.lit (.string b.1))).upd 4 (.lit (.int .u64 b.2)))) (fun b => (Mem.nil.push (.cells 23 [.lit (.int .i64 x5), .lit (.int .i64 x6)]))) k ((ByteArray.mk #[]), x7) H1 rfl rfl ?_
   rintro n ⟨x9, x10⟩ H
   obtain _ | n := n
   · exact nf rfl H
   rw [g_dec_Print_l0.eq_2] at H
   show WP _ _ _ _ (((Env.none.upd 1 (.ptr 0 0)).upd 3 (.lit (.string x9))).upd 4 (.lit (.int .u64 x10))) (Mem.nil.push (.cells 23 [.lit (.int .i64 x5), .lit (.int .i64 x6)])) _
   refine WP.seq ?_
   iterate 4 refine sp ?_
   refine cd H (fun hb2 H => ?_) fun hb2 H => ?_
   · iterate 3 refine sp ?_
     refine WP.seq ?_
     iterate 4 refine sp ?_
     obtain ⟨x11, h3, H⟩ := bnd H
     refine sn (nm_int h3) ?_
     refine sp ?_
     refine WPL.d (d_buildSlice (ds := ([(IntKind.wrap .u8 x11)] : List Int)) (R := (Rd.int .u8)) li104 rfl rfl rfl rfl rfl (JoinRows.cons1 Joins.sc rfl JoinRows.nil) rfl rfl) rfl ?_
     refine WPL.qq (q_bytes_str_row Tryz.underlying104 Tryz.underlying5 Tryz.underlying9 rfl rfl) ?_
     refine sp ?_
     obtain ⟨h3, H⟩ := grd H
     iterate 2 refine sp ?_
     refine WPL.nilW ?_
     refine sp ?_
     refine InBlock.n ?_
     iterate 5 refine sp ?_
     refine WPL.nilW ?_
     exact wq [0] (Then.n ⟨n, (((strOf ([(IntKind.wrap .u8 x11)] : List Int)) ++ x9), (IntKind.wrap .u64 (Int.tdiv x10 10))), Nat.lt_succ_self n, H, rfl, rfl⟩)
   refine sp ?_
   have q0 := j1 H
   subst q0
   exact wq [0] (Then.x (Then.x r3))
 iterate 3 refine sp ?_
 refine WP.seq ?_
 obtain ⟨x12, H2, H⟩ := bnd H
 refine mo .normal ((Env.none.upd 1 (.ptr 0 0)).upd 3 (.lit (.string x12))) (Mem.nil.push (.cells 23 [.lit (.int .i64 x5), .lit (.int .i64 x6)])) ?_ ?_
 · clear H
   have H := H2
   clear H2
   iterate 7 refine sp ?_
   refine cd H (fun hb3 H => ?_) fun hb3 H => ?_
   · iterate 2 refine sp ?_
     refine WPL.nilW ?_
     have q0 := j1 H
     subst q0
     exact wq [0] (InBlock.n r3)
   iterate 6 refine sp ?_
   refine cd H (fun hb4 H => ?_) fun hb4 H => ?_
   · iterate 4 refine sp ?_
     obtain ⟨x13, h4, H⟩ := bnd H
     refine WPL.c (rc [] [] 1 [] (s_st_Repeat k (ByteArray.mk #[48]) x6 x13 h4)) rfl ?_
     obtain ⟨h5, H⟩ := grd H
     iterate 2 refine sp ?_
     refine WPL.nilW ?_
     have q0 := j1 H
     subst q0
     exact wq [0] (InBlock.n r3)
   iterate 6 refine sp ?_
   refine cd H (fun hb5 H => ?_) fun hb5 H => ?_
   · iterate 6 refine sp ?_
     obtain ⟨x14, h6, H⟩ := bnd H
     refine sn (nm_int h6) ?_
     obtain ⟨x15, h7, H⟩ := bnd H
     refine sn (nm_int h7) ?_
     obtain ⟨x16, h7, H⟩ := bnd H
     refine WPL.c (rc [] [] 1 [] (s_st_Repeat k (ByteArray.mk #[48]) x15 x16 h7)) rfl ?_
     refine sp ?_
     obtain ⟨h8, H⟩ := grd H
     iterate 3 refine sp ?_
     refine WP.regionD' 17 [0] [] mixed rfl ?_
     refine dT 0 ?_
     refine dT 1 ?_
     obtain ⟨x17, h9, H⟩ := bnd H
     refine dT 2 ?_ rfl (q_nm aq (nm_int h9))
     refine dT 3 ?_
     refine dT 8 ?_
     refine dT 9 ?_
     obtain ⟨x18, h10, H⟩ := bnd H
     refine dT 10 ?_ rfl (q_nm aq (nm_int h10))
     refine dT 11 ?_
     refine dK 4 ?_
     refine dT 5 ?_
     obtain ⟨h10, H⟩ := grd H
     obtain ⟨x19, h11, H⟩ := bnd H
     refine WPD.tT 6 rfl (q_nm (q_slice_str (i := 0) (j := (IntKind.wrap .i64 (x17 + x6))) Tryz.underlying9 rfl rfl ⟨_, rfl⟩ h10) (nm_str h11)) ?_
     obtain ⟨h11, H⟩ := grd H
     refine dT 7 ?_
     refine dK 12 ?_
     refine dT 13 ?_
     obtain ⟨h12, H⟩ := grd H
     obtain ⟨x20, h13, H⟩ := bnd H
     refine WPD.tT 14 rfl (q_nm (q_slice_str (i := (IntKind.wrap .i64 (x18 + x6))) (j := ((ByteArray.size (x16 ++ x8) : Nat) : Int)) Tryz.underlying9 rfl ⟨_, rfl⟩ rfl h12) (nm_str h13)) ?_
     obtain ⟨h13, H⟩ := grd H
     refine dT 15 ?_
     refine dT 16 ?_
     refine WPD.doneW (by kernel_rfl) ?_
     have q0 := j1 H
     subst q0
     exact wq [0] (InBlock.n r3)
   refine sp ?_
   have q0 := j1 H
   subst q0
   exact wq [0] (InBlock.n r3)
 iterate 2 refine sp ?_
 refine WP.seq ?_
 obtain ⟨x21, H3, H⟩ := bnd H
 refine mo .normal (Env.none.upd 3 (.lit (.string x21))) Mem.nil ?_ ?_
 · clear H
   have H := H3
   clear H3
   iterate 5 refine sp ?_
   refine cd H (fun hb6 H => ?_) fun hb6 H => ?_
   · iterate 2 refine sp ?_
     obtain ⟨h14, H⟩ := grd H
     iterate 2 refine sp ?_
     refine WPL.nilW ?_
     have q0 := j1 H
     subst q0
     exact wq []
   refine sp ?_
   have q0 := j1 H
   subst q0
   exact wq []
 iterate 7 refine sp ?_
 have q0 := j1 H
 subst q0
 exact W.now (mb [])
theorem s_val_Show (k : Nat) (x1 : Int) (x2 : Int) (x3 : Int) (x4 : ByteArray) (x5 : Bool) (x6 : Int) (x7 : ByteArray) (H : g_val_Show k x1 x2 x3 x4 x5 x6 = some x7) : Go.Q.Spec Tryz.prog 27 0 [.agg [.lit (.int .i64 x1), .lit (.int .i64 x2), .lit (.int .i64 x3), .lit (.string x4), .lit (.bool x5), .lit (.int .i64 x6)]] Mem.nil (fun o M => o = .ret (.lit (.string x7)) ∧ M = Mem.nil) := by
 unfold g_val_Show at H
 refine bo Tryz.func27 [] [.tmp 2] 22 fun cx hnp => ?_
 iterate 6 refine sp ?_
 obtain ⟨⟨x8, x9, x10, x11, x12, x13⟩, h1, H⟩ := bnd H
 refine WPL.c (rc [] [1] 2 [] (s_val_clean k x1 x2 x3 x4 x5 x6 x8 x9 x10 x11 x12 x13 h1)) rfl ?_
 iterate 2 refine sp ?_
 refine WP.seq ?_
 iterate 9 refine sp ?_
 refine cd H (fun hb1 H => ?_) fun hb1 H => ?_
 · iterate 3 refine sp ?_
   obtain ⟨x14, h2, H⟩ := bnd H
   refine WPL.c (rc [] [] 2 [] (s_dec_Print k x9 x10 x14 h2)) rfl ?_
   iterate 3 refine sp ?_
   have q0 := j1 H
   subst q0
   exact W.now (InBlock.r (Then.r (mb [])))
 iterate 4 refine sp ?_
 refine cd H (fun hb2 H => ?_) fun hb2 H => ?_
 · refine WP.seq ?_
   iterate 4 refine sp ?_
   refine cd H (fun hb3 H => ?_) fun hb3 H => ?_
   · iterate 4 refine sp ?_
     have q0 := j1 H
     subst q0
     exact W.now (Then.r (InBlock.r (Then.r (mb []))))
   iterate 7 refine sp ?_
   have q0 := j1 H
   subst q0
   exact W.now (InBlock.r (Then.r (mb [])))
 iterate 2 refine sp ?_
 refine InBlock.n ?_
 refine sp ?_
 refine WP.seq ?_
 refine WP.regionD' 7 [0] [] mixed rfl ?_
 refine dT 0 ?_
 refine dT 2 ?_
 refine dK 1 ?_
 refine dK 3 ?_
 obtain ⟨x15, h3, H⟩ := bnd H
 refine dE 4 [0] [] rfl (rc [] [] 2 [] (s_val_ErrName k x13 x15 h3)) ?_
 obtain ⟨h4, H⟩ := grd H
 refine dT 5 ?_
 refine dT 6 ?_
 refine WPD.doneW (by kernel_rfl) ?_
 iterate 3 refine sp ?_
 have q0 := j1 H
 subst q0
 exact W.now (mb [])
theorem s_val_beside (k : Nat) (x1 : Int) (x2 : Int) (x3 : Int) (x4 : ByteArray) (x5 : Bool) (x6 : Int) (x7 : Int) (x8 : Int) (x9 : Int) (x10 : ByteArray) (x11 : Bool) (x12 : Int) (x13 : Int) (x14 : Int) (x15 : Int) (x16 : ByteArray) (x17 : Bool) (x18 : Int) (H : g_val_beside k x1 x2 x3 x4 x5 x6 x7 x8 x9 x10 x11 x12 = some (x13, x14, x15, x16, x17, x18)) : Go.Q.Spec Tryz.prog 54 0 [.agg [.lit (.int .i64 x1), .lit (.int .i64 x2), .lit (.int .i64 x3), .lit (.string x4), .lit (.bool x5), .lit (.int .i64 x6)], .agg [.lit (.int .i64 x7), .lit (.int .i64 x8), .lit (.int .i64 x9), .lit (.string x10), .lit (.bool x11), .lit (.int .i64 x12)]] Mem.nil (fun o M => o = .ret (.agg [.lit (.int .i64 x13), .lit (.int .i64 x14), .lit (.int .i64 x15), .lit (.string x16), .lit (.bool x17), .lit (.int .i64 x18)]) ∧ M = (Mem.nil.push (.cells 29 [.lit (.int .i64 x13), .lit (.int .i64 x14), .lit (.int .i64 x15), .lit (.string x16), .lit (.bool x17), .lit (.int .i64 x18)]))) := by
 unfold g_val_beside at H
 refine bo Tryz.func54 [(29, 6)] [.cell 4 29] 17 fun cx hnp => ?_
 iterate 5 refine sp ?_
 refine WP.seq ?_
 refine WP.seq ?_
 obtain ⟨x19, H1, H⟩ := bnd H
 refine mo .normal ((((Env.none.upd 2 (.ptr 0 0)).upd 3 (.ptr 1 0)).upd 4 (.ptr 2 0)).upd 12 (.lit (.bool x19))) (((Mem.nil.push (.cells 29 [.lit (.int .i64 x1), .lit (.int .i64 x2), .lit (.int .i64 x3), .lit (.string x4), .lit (.bool x5), .lit (.int .i64 x6)])).push (.cells 29 [.lit (.int .i64 x7), .lit (.int .i64 x8), .lit (.int .i64 x9), .lit (.string x10), .lit (.bool x11), .lit (.int .i64 x12)])).push (.cells 29 [.lit (.int .i64 0), .lit (.int .i64 0), .lit (.int .i64 0), .lit (.string (ByteArray.mk #[])), .lit (.bool false), .lit (.int .i64 0)])) ?_ ?_
 · clear H
   have H := H1
   clear H1
   iterate 5 refine sp ?_
   refine ws 8 H (fun hb1 H => ?_) fun hb1 H => ?_
   · iterate 4 refine sp ?_
     refine WPL.nilW ?_
     have q0 := j1 H
     subst q0
     exact wq [0, 1, 2]
   iterate 4 refine sp ?_
   refine WPL.nilW ?_
   have q0 := j1 H
   subst q0
   exact wq [0, 1, 2]
 iterate 2 refine sp ?_
 refine cd H (fun hb2 H => ?_) fun hb2 H => ?_
 · iterate 7 refine sp ?_
   obtain ⟨rfl, rfl, rfl, rfl, rfl, rfl⟩ := j6 H
   exact W.now (Then.r (mb [2]))
 iterate 8 refine sp ?_
 obtain ⟨rfl, rfl, rfl, rfl, rfl, rfl⟩ := j6 H
 exact W.now (mb [2])
theorem s_cmp_isNaN_int (k : Nat) (x1 : Int) (H : g_cmp_isNaN_int k x1 = some ()) : Go.Q.Spec Tryz.prog 98 0 [.lit (.int .i64 x1)] Mem.nil (fun o M => o = .ret (.lit (.bool (!decide (x1 = x1)))) ∧ M = Mem.nil) := by
 unfold g_cmp_isNaN_int at H
 refine bo Tryz.func98 [] [.tmp 2] 6 fun cx hnp => ?_
 iterate 10 refine sp ?_
 exact W.now (mb [])
theorem s_cmp_Compare_int (k : Nat) (x1 : Int) (x2 : Int) (x3 : Int) (H : g_cmp_Compare_int k x1 x2 = some x3) : Go.Q.Spec Tryz.prog 56 0 [.lit (.int .i64 x1), .lit (.int .i64 x2)] Mem.nil (fun o M => o = .ret (.lit (.int .i64 x3)) ∧ M = Mem.nil) := by
 unfold g_cmp_Compare_int at H
 refine bo Tryz.func56 [] [.tmp 4] 20 fun cx hnp => ?_
 iterate 5 refine sp ?_
 obtain ⟨_, h1, H⟩ := bnd H
 refine WPL.c (rc [] [] 0 [] (s_cmp_isNaN_int k x1 h1)) rfl ?_
 iterate 4 refine sp ?_
 obtain ⟨_, h2, H⟩ := bnd H
 refine WPL.c (rc [] [] 0 [] (s_cmp_isNaN_int k x2 h2)) rfl ?_
 iterate 2 refine sp ?_
 refine WP.seq ?_
 iterate 3 refine sp ?_
 refine cd H (fun hb1 H => ?_) fun hb1 H => ?_
 · refine WP.seq ?_
   iterate 3 refine sp ?_
   refine cd H (fun hb2 H => ?_) fun hb2 H => ?_
   · iterate 4 refine sp ?_
     have q0 := j1 H
     subst q0
     exact W.now (Then.r (Then.r (mb [])))
   iterate 7 refine sp ?_
   have q0 := j1 H
   subst q0
   exact W.now (Then.r (mb []))
 iterate 3 refine sp ?_
 refine WP.seq ?_
 iterate 3 refine sp ?_
 refine cd H (fun hb3 H => ?_) fun hb3 H => ?_
 · iterate 4 refine sp ?_
   have q0 := j1 H
   subst q0
   exact W.now (Then.r (mb []))
 iterate 3 refine sp ?_
 refine WP.seq ?_
 iterate 5 refine sp ?_
 refine cd H (fun hb4 H => ?_) fun hb4 H => ?_
 · iterate 4 refine sp ?_
   have q0 := j1 H
   subst q0
   exact W.now (Then.r (mb []))
 iterate 3 refine sp ?_
 refine WP.seq ?_
 iterate 5 refine sp ?_
 refine cd H (fun hb5 H => ?_) fun hb5 H => ?_
 · iterate 4 refine sp ?_
   have q0 := j1 H
   subst q0
   exact W.now (Then.r (mb []))
 iterate 7 refine sp ?_
 have q0 := j1 H
 subst q0
 exact W.now (mb [])
theorem s_dec_sign (k : Nat) (x1 : Int) (x2 : Int) (x3 : Int) (H : g_dec_sign k x1 x2 = some x3) : Go.Q.Spec Tryz.prog 100 0 [.agg [.lit (.int .i64 x1), .lit (.int .i64 x2)]] Mem.nil (fun o M => o = .ret (.lit (.int .i64 x3)) ∧ M = Mem.nil) := by
 unfold g_dec_sign at H
 refine bo Tryz.func100 [] [.tmp 2] 11 fun cx hnp => ?_
 iterate 4 refine sp ?_
 refine WP.seq ?_
 iterate 7 refine sp ?_
 refine cd H (fun hb1 H => ?_) fun hb1 H => ?_
 · iterate 4 refine sp ?_
   have q0 := j1 H
   subst q0
   exact W.now (InBlock.r (Then.r (mb [])))
 iterate 6 refine sp ?_
 refine cd H (fun hb2 H => ?_) fun hb2 H => ?_
 · iterate 4 refine sp ?_
   have q0 := j1 H
   subst q0
   exact W.now (InBlock.r (Then.r (mb [])))
 iterate 2 refine sp ?_
 refine InBlock.n ?_
 iterate 5 refine sp ?_
 have q0 := j1 H
 subst q0
 exact W.now (mb [])
theorem s_dec_digits (k : Nat) (x1 : Int) (x2 : Int) (H : g_dec_digits k x1 = some x2) : Go.Q.Spec Tryz.prog 101 0 [.lit (.int .u64 x1)] Mem.nil (fun o M => o = .ret (.lit (.int .i64 x2)) ∧ M = Mem.nil) := by
 unfold g_dec_digits at H
 refine bo Tryz.func101 [] [.tmp 2] 11 fun cx hnp => ?_
 iterate 6 refine sp ?_
 refine WP.seq ?_
 refine sp ?_
 refine WP.cv (Cv.weak (E' := ((Env.none.upd 0 (.lit (.int .u64 x1))).upd 3 (.lit (.int .i64 0)))) (M' := Mem.nil) [] hnp ⟨rfl, trivial, by decide, rfl, trivial⟩ (LeE.u (LeE.u (LeE.none rfl rfl)))) ?_
 obtain ⟨x3, H1, H⟩ := bnd H
 refine mo (.exit 0) (Env.none.upd 3 (.lit (.int .i64 x3))) Mem.nil ?_ ?_
 · refine WP.loop (β := Int × Int) (fun n b => g_dec_digits_l0 k n b.1 b.2 = some x3) (fun b => ((Env.none.upd 0 (.lit (.int .u64 b.1))).upd 3 (.lit (.int .i64 b.2)))) (fun b => Mem.nil) k (x1, 0) H1 rfl rfl ?_
   rintro n ⟨x4, x5⟩ H
   obtain _ | n := n
   · exact nf rfl H
   rw [g_dec_digits_l0.eq_2] at H
   show WP _ _ _ _ ((Env.none.upd 0 (.lit (.int .u64 x4))).upd 3 (.lit (.int .i64 x5))) Mem.nil _
   refine WP.seq ?_
   iterate 4 refine sp ?_
   refine cd H (fun hb1 H => ?_) fun hb1 H => ?_
   · iterate 3 refine sp ?_
     refine WP.seq ?_
     iterate 5 refine sp ?_
     refine WPL.nilW ?_
     refine sp ?_
     refine InBlock.n ?_
     iterate 5 refine sp ?_
     refine WPL.nilW ?_
     exact wq [] (Then.n ⟨n, ((IntKind.wrap .u64 (Int.tdiv x4 10)), (IntKind.wrap .i64 (x5 + 1))), Nat.lt_succ_self n, H, rfl, rfl⟩)
   refine sp ?_
   have q0 := j1 H
   subst q0
   exact wq [] (Then.x (Then.x r3))
 iterate 8 refine sp ?_
 have q0 := j1 H
 subst q0
 exact W.now (mb [])
theorem s_dec_Cmp (k : Nat) (x1 : Int) (x2 : Int) (x3 : Int) (x4 : Int) (x5 : Int) (H : g_dec_Cmp k x1 x2 x3 x4 = some x5) : Go.Q.Spec Tryz.prog 57 0 [.agg [.lit (.int .i64 x1), .lit (.int .i64 x2)], .agg [.lit (.int .i64 x3), .lit (.int .i64 x4)]] Mem.nil (fun o M => o = .ret (.lit (.int .i64 x5)) ∧ M = Mem.nil) := by
 unfold g_dec_Cmp at H
 refine bo Tryz.func57 [] [.tmp 4] 69 fun cx hnp => ?_
 iterate 5 refine sp ?_
 refine WP.seq ?_
 refine sp ?_
 refine WPL.d (d_buildCells li144 rfl rfl rfl rfl rfl) rfl ?_
 obtain ⟨⟨x6, x7, x8, x9, x10⟩, h1, H⟩ := bnd H
 refine WPL.c (rc [2, 0, 1] [2, 0, 1] 3 [] (s_dec_clean k x1 x2 x3 x4 x6 x7 x8 x9 x10 h1)) rfl ?_
 iterate 2 refine sp ?_
 refine cd H (fun hb1 H => ?_) fun hb1 H => ?_
 · iterate 4 refine sp ?_
   have q0 := j1 H
   subst q0
   exact W.now (Then.r (mb []))
 iterate 3 refine sp ?_
 refine WP.seq ?_
 refine WP.regionD' 6 [0, 1] [] mixed rfl ?_
 refine dK 0 ?_
 refine dK 2 ?_
 obtain ⟨x11, h2, H⟩ := bnd H
 refine dE 1 [0, 1] [] rfl (rc [] [] 3 [] (s_dec_sign k x7 x8 x11 h2)) ?_
 obtain ⟨x12, h3, H⟩ := bnd H
 refine dE 3 [0, 1] [] rfl (rc [] [] 3 [] (s_dec_sign k x9 x10 x12 h3)) ?_
 refine dT 4 ?_
 refine dT 5 ?_
 refine WPD.doneW (by kernel_rfl) ?_
 iterate 2 refine sp ?_
 refine WP.seq ?_
 refine WP.seq ?_
 obtain ⟨x13, H1, H⟩ := bnd H
 refine mo .normal (((((Env.none.upd 2 (.ptr 0 0)).upd 3 (.ptr 1 0)).upd 5 (.lit (.int .i64 x11))).upd 6 (.lit (.int .i64 x12))).upd 25 (.lit (.bool x13))) ((Mem.nil.push (.cells 23 [.lit (.int .i64 x7), .lit (.int .i64 x8)])).push (.cells 23 [.lit (.int .i64 x9), .lit (.int .i64 x10)])) ?_ ?_
 · clear H
   have H := H1
   clear H1
   iterate 5 refine sp ?_
   refine ws 22 H (fun hb2 H => ?_) fun hb2 H => ?_
   · iterate 3 refine sp ?_
     refine WPL.nilW ?_
     have q0 := j1 H
     subst q0
     exact wq [0, 1]
   iterate 3 refine sp ?_
   refine WPL.nilW ?_
   have q0 := j1 H
   subst q0
   exact wq [0, 1]
 iterate 2 refine sp ?_
 refine cd H (fun hb3 H => ?_) fun hb3 H => ?_
 · iterate 4 refine sp ?_
   obtain ⟨x14, h4, H⟩ := bnd H
   refine sn (nm_int h4) ?_
   obtain ⟨x15, h5, H⟩ := bnd H
   refine sn (nm_int h5) ?_
   iterate 3 refine sp ?_
   have q0 := j1 H
   subst q0
   exact W.now (Then.r (mb []))
 iterate 3 refine sp ?_
 refine WP.seq ?_
 refine WP.regionD' 16 [0, 1] [] mixed rfl ?_
 refine dT 0 ?_
 refine dT 4 ?_
 refine dT 7 ?_
 refine dT 11 ?_
 refine dK 1 ?_
 refine dK 5 ?_
 refine dK 8 ?_
 refine dK 12 ?_
 obtain ⟨x16, h6, H⟩ := bnd H
 refine dE 2 [0, 1] [] rfl (rc [] [] 2 [] (s_dec_size k x7 x16 h6)) ?_
 obtain ⟨x17, h7, H⟩ := bnd H
 refine dE 3 [0, 1] [] rfl (rc [] [] 2 [] (s_dec_digits k x16 x17 h7)) ?_
 refine dT 6 ?_
 obtain ⟨x18, h8, H⟩ := bnd H
 refine dE 9 [0, 1] [] rfl (rc [] [] 2 [] (s_dec_size k x9 x18 h8)) ?_
 obtain ⟨x19, h9, H⟩ := bnd H
 refine dE 10 [0, 1] [] rfl (rc [] [] 2 [] (s_dec_digits k x18 x19 h9)) ?_
 refine dT 13 ?_
 refine dT 14 ?_
 refine dT 15 ?_
 refine WPD.doneW (by kernel_rfl) ?_
 iterate 2 refine sp ?_
 refine WP.seq ?_
 iterate 3 refine sp ?_
 obtain ⟨x20, h10, H⟩ := bnd H
 refine sn (nm_bool h10) ?_
 refine sp ?_
 refine cd H (fun hb4 H => ?_) fun hb4 H => ?_
 · iterate 4 refine sp ?_
   obtain ⟨x21, h11, H⟩ := bnd H
   refine sn (nm_int h11) ?_
   obtain ⟨x22, h12, H⟩ := bnd H
   refine sn (nm_int h12) ?_
   obtain ⟨x23, h13, H⟩ := bnd H
   refine sn (nm_int h13) ?_
   iterate 4 refine sp ?_
   have q0 := j1 H
   subst q0
   exact W.now (Then.r (mb []))
 iterate 6 refine sp ?_
 obtain ⟨⟨x24, x25, x26, x27, x28, x29, x30⟩, h13, H⟩ := bnd H
 refine WPL.c (rc [] [2, 3] 4 [] (s_dec_even k x7 x8 x9 x10 x24 x25 x26 x27 x28 x29 x30 h13)) rfl ?_
 iterate 16 refine sp ?_
 obtain ⟨x31, h14, H⟩ := bnd H
 refine WPL.c (rc [] [] 6 [] (s_dec_wide_cmp k x25 x26 x28 x29 x31 h14)) rfl ?_
 iterate 4 refine sp ?_
 have q0 := j1 H
 subst q0
 exact W.now (mb [])
theorem s_utf_turned (k : Nat) (x1 : ByteArray) (x2 : Int) (x3 : Int) (x4 : Int) (x5 : ByteArray) (H : g_utf_turned k x1 x2 x3 x4 = some x5) : Go.Q.Spec Tryz.prog 106 0 [.lit (.string x1), .lit (.int .u8 x2), .lit (.int .u8 x3), .lit (.int .i64 x4)] Mem.nil (fun o M => o = .ret (.lit (.string x5)) ∧ M = Mem.nil) := by
 unfold g_utf_turned at H
 refine bo Tryz.func106 [] [.tmp 8] 40 fun cx hnp => ?_
 iterate 5 refine sp ?_
 obtain ⟨h1, H⟩ := grd H
 refine WPL.d (d_strBytes Tryz.underlying9 Tryz.underlying104 Tryz.underlying5 rfl h1 rfl) rfl ?_
 iterate 2 refine sp ?_
 refine WP.seq ?_
 iterate 6 refine sp ?_
 refine WP.cv (Cv.weak (E' := (((((((Env.none.upd 1 (.lit (.int .u8 x2))).upd 2 (.lit (.int .u8 x3))).upd 3 (.lit (.int .i64 x4))).upd 9 (.whole 0)).upd 14 (.whole 0)).upd 15 (.lit (.int .i64 ((List.length (strInts x1) : Nat) : Int)))).upd 16 (.lit (.int .i64 0)))) (M' := (Mem.nil.push (.row 5 (Rd.int .u8) (strInts x1)))) [0] hnp ⟨rfl, AA1, by decide, rfl, trivial⟩ (LeE.u (LeE.u (LeE.u (LeE.u (LeE.u (LeE.u (LeE.u (LeE.none rfl rfl))))))))) ?_
 obtain ⟨x6, H1, H⟩ := bnd H
 refine mo (.exit 0) (Env.none.upd 9 (.whole 0)) (Mem.nil.push (.row 5 (Rd.int .u8) x6)) ?_ ?_
 · refine WP.loop (β := Int × (List Int)) (fun n b => g_utf_turned_l0 k x1 x2 x3 x4 n b.1 b.2 = some x6) (fun b => (((((((Env.none.upd 1 (.lit (.int .u8 x2))).upd 2 (.lit (.int .u8 x3))).upd 3 (.lit (.int .i64 x4))).upd 9 (.whole 0)).upd 14 (.whole 0)).upd 15 (.lit (.int .i64 ((List.length (strInts x1) : Nat) : Int)))).upd 16 (.lit (.int .i64 b.1)))) (fun b => (Mem.nil.push (.row 5 (Rd.int .u8) b.2))) k (0, (strInts x1)) H1 rfl rfl ?_
   rintro n ⟨x7, x8⟩ H
   obtain _ | n := n
   · exact nf rfl H
   rw [g_utf_turned_l0.eq_2] at H
   show WP _ _ _ _ (((((((Env.none.upd 1 (.lit (.int .u8 x2))).upd 2 (.lit (.int .u8 x3))).upd 3 (.lit (.int .i64 x4))).upd 9 (.whole 0)).upd 14 (.whole 0)).upd 15 (.lit (.int .i64 ((List.length (strInts x1) : Nat) : Int)))).upd 16 (.lit (.int .i64 x7))) (Mem.nil.push (.row 5 (Rd.int .u8) x8)) _
   refine sp ?_
   obtain ⟨x9, h2, H⟩ := bnd H
   refine sn (nm_bool h2) ?_
   refine sp ?_
   refine WP.seq ?_
   refine cd H (fun hb1 H => ?_) fun hb1 H => ?_
   · iterate 3 refine sp ?_
     refine WP.seq ?_
     obtain ⟨x10, H2, H⟩ := bnd H
     refine mo .normal (((((((Env.none.upd 1 (.lit (.int .u8 x2))).upd 2 (.lit (.int .u8 x3))).upd 3 (.lit (.int .i64 x4))).upd 9 (.whole 0)).upd 14 (.whole 0)).upd 15 (.lit (.int .i64 ((List.length (strInts x1) : Nat) : Int)))).upd 16 (.lit (.int .i64 x7))) (Mem.nil.push (.row 5 (Rd.int .u8) x10)) ?_ ?_
     · clear H
       have H := H2
       clear H2
       iterate 3 refine sp ?_
       obtain ⟨x11, h3, H⟩ := bnd H
       refine WPL.qq (q_index_row sl104 rfl rfl rfl (ixs h3)) ?_
       refine WPL.qq (q_load_row (j := (Int.toNat x7)) sc5 rfl rfl (ixj h3)) ?_
       iterate 3 refine sp ?_
       refine WP.seq ?_
       obtain ⟨x12, H3, H⟩ := bnd H
       refine mo .normal ((((((((((Env.none.upd 1 (.lit (.int .u8 x2))).upd 2 (.lit (.int .u8 x3))).upd 3 (.lit (.int .i64 x4))).upd 9 (.whole 0)).upd 10 (.lit (.int .i64 x7))).upd 11 (.lit (.int .u8 x11))).upd 14 (.whole 0)).upd 15 (.lit (.int .i64 ((List.length (strInts x1) : Nat) : Int)))).upd 16 (.lit (.int .i64 x7))).upd 28 (.lit (.bool x12))) (Mem.nil.push (.row 5 (Rd.int .u8) x8)) ?_ ?_
       · clear H
         have H := H3
         clear H3
         iterate 5 refine sp ?_
         refine ws 24 H (fun hb2 H => ?_) fun hb2 H => ?_
         · iterate 4 refine sp ?_
           refine WPL.nilW ?_
           have q0 := j1 H
           subst q0
           exact wq [0]
         iterate 4 refine sp ?_
         refine WPL.nilW ?_
         have q0 := j1 H
         subst q0
         exact wq [0]
       iterate 2 refine sp ?_
       refine cd H (fun hb3 H => ?_) fun hb3 H => ?_
       · iterate 6 refine sp ?_
         obtain ⟨x13, h4, H⟩ := bnd H
         refine sn (nm_int h4) ?_
         refine sp ?_
         obtain ⟨x14, h5, H⟩ := bnd H
         refine WPL.qq (q_index_row sl104 rfl rfl rfl (ixs h5)) ?_
         refine WPL.s (s_store_row (j := (Int.toNat x7)) (d := (IntKind.wrap .u8 x13)) sz5 rfl rfl rfl rfl Joins.sc (ixl h5)) ?_
         refine WPL.nilW ?_
         have q0 := j1 H
         subst q0
         exact wq [0] (InBlock.n r3)
       refine sp ?_
       have q0 := j1 H
       subst q0
       exact wq [0] (InBlock.n r3)
     iterate 5 refine sp ?_
     refine WPL.nilW ?_
     exact wq [0] (Then.n ⟨n, ((IntKind.wrap .i64 (x7 + 1)), x10), Nat.lt_succ_self n, H, rfl, rfl⟩)
   refine sp ?_
   have q0 := j1 H
   subst q0
   exact wq [0] (Then.x (Then.x r3))
 iterate 5 refine sp ?_
 refine WPL.qq (q_bytes_str_row Tryz.underlying104 Tryz.underlying5 Tryz.underlying9 rfl rfl) ?_
 iterate 3 refine sp ?_
 have q0 := j1 H
 subst q0
 exact W.now (mb [])
end Go.Proofs.YthpcgknknpjpdaaGreatDoor.W
namespace Go.Proofs.YthpcgknknpjpdaaGreatDoor.W
open Go Go.Q Go.Proofs
set_option linter.unusedVariables false
set_option linter.unusedSimpArgs false
set_option maxRecDepth 100000
set_option maxHeartbeats 4000000
theorem s_utf_Lower (k : Nat) (x1 : ByteArray) (x2 : ByteArray) (H : g_utf_Lower k x1 = some x2) : Go.Q.Spec Tryz.prog 59 0 [.lit (.string x1)] Mem.nil (fun o M => o = .ret (.lit (.string x2)) ∧ M = Mem.nil) := by
 unfold g_utf_Lower at H
 refine bo Tryz.func59 [] [.tmp 2] 5 fun cx hnp => ?_
 iterate 5 refine sp ?_
 obtain ⟨x3, h1, H⟩ := bnd H
 refine WPL.c (rc [] [] 0 [] (s_utf_turned k x1 65 90 32 x3 h1) (hargs := .ren rfl rfl (.ren rfl rfl (.ren rfl rfl (.ren rfl rfl .nil))))) rfl ?_
 iterate 3 refine sp ?_
 have q0 := j1 H
 subst q0
 exact W.now (mb [])
theorem s_cmp_isNaN_string (k : Nat) (x1 : ByteArray) (H : g_cmp_isNaN_string k x1 = some ()) : Go.Q.Spec Tryz.prog 105 0 [.lit (.string x1)] Mem.nil (fun o M => o = .ret (.lit (.bool (!(x1.toList == x1.toList)))) ∧ M = Mem.nil) := by
 unfold g_cmp_isNaN_string at H
 refine bo Tryz.func105 [] [.tmp 2] 6 fun cx hnp => ?_
 iterate 10 refine sp ?_
 exact W.now (mb [])
theorem s_cmp_Compare_string (k : Nat) (x1 : ByteArray) (x2 : ByteArray) (x3 : Int) (H : g_cmp_Compare_string k x1 x2 = some x3) : Go.Q.Spec Tryz.prog 58 0 [.lit (.string x1), .lit (.string x2)] Mem.nil (fun o M => o = .ret (.lit (.int .i64 x3)) ∧ M = Mem.nil) := by
 unfold g_cmp_Compare_string at H
 refine bo Tryz.func58 [] [.tmp 4] 20 fun cx hnp => ?_
 iterate 5 refine sp ?_
 obtain ⟨_, h1, H⟩ := bnd H
 refine WPL.c (rc [] [] 0 [] (s_cmp_isNaN_string k x1 h1)) rfl ?_
 iterate 4 refine sp ?_
 obtain ⟨_, h2, H⟩ := bnd H
 refine WPL.c (rc [] [] 0 [] (s_cmp_isNaN_string k x2 h2)) rfl ?_
 iterate 2 refine sp ?_
 refine WP.seq ?_
 iterate 3 refine sp ?_
 refine cd H (fun hb1 H => ?_) fun hb1 H => ?_
 · refine WP.seq ?_
   iterate 3 refine sp ?_
   refine cd H (fun hb2 H => ?_) fun hb2 H => ?_
   · iterate 4 refine sp ?_
     have q0 := j1 H
     subst q0
     exact W.now (Then.r (Then.r (mb [])))
   iterate 7 refine sp ?_
   have q0 := j1 H
   subst q0
   exact W.now (Then.r (mb []))
 iterate 3 refine sp ?_
 refine WP.seq ?_
 iterate 3 refine sp ?_
 refine cd H (fun hb3 H => ?_) fun hb3 H => ?_
 · iterate 4 refine sp ?_
   have q0 := j1 H
   subst q0
   exact W.now (Then.r (mb []))
 iterate 3 refine sp ?_
 refine WP.seq ?_
 iterate 5 refine sp ?_
 refine cd H (fun hb4 H => ?_) fun hb4 H => ?_
 · iterate 4 refine sp ?_
   have q0 := j1 H
   subst q0
   exact W.now (Then.r (mb []))
 iterate 3 refine sp ?_
 refine WP.seq ?_
 iterate 3 refine sp ?_
 obtain ⟨x4, h3, H⟩ := bnd H
 refine sn (nm_bool h3) ?_
 refine sp ?_
 refine cd H (fun hb5 H => ?_) fun hb5 H => ?_
 · iterate 4 refine sp ?_
   have q0 := j1 H
   subst q0
   exact W.now (Then.r (mb []))
 iterate 7 refine sp ?_
 have q0 := j1 H
 subst q0
 exact W.now (mb [])
theorem s_val_ones (k : Nat) (x1 : Bool) (x2 : Int) (H : g_val_ones k x1 = some x2) : Go.Q.Spec Tryz.prog 60 0 [.lit (.bool x1)] Mem.nil (fun o M => o = .ret (.lit (.int .i64 x2)) ∧ M = Mem.nil) := by
 unfold g_val_ones at H
 refine bo Tryz.func60 [] [.tmp 2] 4 fun cx hnp => ?_
 iterate 3 refine sp ?_
 refine WP.seq ?_
 iterate 3 refine sp ?_
 refine cd H (fun hb1 H => ?_) fun hb1 H => ?_
 · iterate 4 refine sp ?_
   have q0 := j1 H
   subst q0
   exact W.now (Then.r (mb []))
 iterate 7 refine sp ?_
 have q0 := j1 H
 subst q0
 exact W.now (mb [])
theorem s_cmp_Or_int (k : Nat) (x1 : (List Int)) (x2 : Int) (H : g_cmp_Or_int k x1 = some x2) : Go.Q.Spec Tryz.prog 55 0 [.ro (Rd.slice (Rd.int .i64)) true x1] Mem.nil (fun o M => o = .ret (.lit (.int .i64 x2)) ∧ M = Mem.nil) := by
 unfold g_cmp_Or_int at H
 refine bo Tryz.func55 [] [.tmp 2] 18 fun cx hnp => ?_
 iterate 6 refine sp ?_
 refine WP.seq ?_
 iterate 6 refine sp ?_
 refine WP.cv (Cv.weak (E' := ((((Env.none.upd 3 (.lit (.int .i64 0))).upd 6 (.ro (Rd.slice (Rd.int .i64)) true x1)).upd 7 (.lit (.int .i64 ((List.length x1 : Nat) : Int)))).upd 8 (.lit (.int .i64 0)))) (M' := Mem.nil) [] hnp ⟨rfl, trivial, by decide, rfl, trivial⟩ (LeE.u (LeE.u (LeE.u (LeE.u (LeE.none rfl rfl)))))) ?_
 obtain ⟨y1, H1, H⟩ := bnd H
 refine WP.monoW (Q := fun x E M => match (generalizing := false) y1 with | (Sum.inl x3) => x = .ret ∧ E = (Env.none.upd 2 (.lit (.int .i64 x3))) ∧ M = Mem.nil | (Sum.inr _) => x = .exit 0 ∧ E = (Env.none.upd 3 (.lit (.int .i64 0))) ∧ M = Mem.nil) ?_ ?_
 · refine WP.loop (β := Int) (fun n b => g_cmp_Or_int_l0 k x1 n b = some y1) (fun b => ((((Env.none.upd 3 (.lit (.int .i64 0))).upd 6 (.ro (Rd.slice (Rd.int .i64)) true x1)).upd 7 (.lit (.int .i64 ((List.length x1 : Nat) : Int)))).upd 8 (.lit (.int .i64 b)))) (fun b => Mem.nil) k 0 H1 rfl rfl ?_
   rintro n x4 H
   obtain _ | n := n
   · exact nf rfl H
   rw [g_cmp_Or_int_l0.eq_2] at H
   show WP _ _ _ _ ((((Env.none.upd 3 (.lit (.int .i64 0))).upd 6 (.ro (Rd.slice (Rd.int .i64)) true x1)).upd 7 (.lit (.int .i64 ((List.length x1 : Nat) : Int)))).upd 8 (.lit (.int .i64 x4))) Mem.nil _
   refine sp ?_
   obtain ⟨x5, h1, H⟩ := bnd H
   refine sn (nm_bool h1) ?_
   refine sp ?_
   refine WP.seq ?_
   refine cd H (fun hb1 H => ?_) fun hb1 H => ?_
   · iterate 3 refine sp ?_
     refine WP.seq ?_
     iterate 2 refine sp ?_
     obtain ⟨x6, h2, H⟩ := bnd H
     iterate 9 refine sp ?_
     refine cd H (fun hb2 H => ?_) fun hb2 H => ?_
     · iterate 5 refine sp ?_
       have q0 := j1 H
       subst q0
       exact wq [] (InBlock.r (Then.r (Then.r r3)))
     iterate 2 refine sp ?_
     refine InBlock.n ?_
     iterate 4 refine sp ?_
     refine WPL.nilW ?_
     exact wq [] (Then.n ⟨n, (IntKind.wrap .i64 (x4 + 1)), Nat.lt_succ_self n, H, rfl, rfl⟩)
   refine sp ?_
   have q0 := j1 H
   subst q0
   exact wq [] (Then.x (Then.x r3))
 rcases y1 with x3 | _
 · rintro _ _ _ ⟨rfl, rfl, rfl⟩
   have q0 := j1 H
   subst q0
   exact W.now (InBlock.r (Then.r (mb [])))
 rintro _ _ _ ⟨rfl, rfl, rfl⟩
 iterate 8 refine sp ?_
 have q0 := j1 H
 subst q0
 exact W.now (mb [])
theorem s_val_Cmp (k : Nat) (x1 : Int) (x2 : Int) (x3 : Int) (x4 : ByteArray) (x5 : Bool) (x6 : Int) (x7 : Int) (x8 : Int) (x9 : Int) (x10 : ByteArray) (x11 : Bool) (x12 : Int) (x13 : Int) (H : g_val_Cmp k x1 x2 x3 x4 x5 x6 x7 x8 x9 x10 x11 x12 = some x13) : Go.Q.Spec Tryz.prog 26 0 [.agg [.lit (.int .i64 x1), .lit (.int .i64 x2), .lit (.int .i64 x3), .lit (.string x4), .lit (.bool x5), .lit (.int .i64 x6)], .agg [.lit (.int .i64 x7), .lit (.int .i64 x8), .lit (.int .i64 x9), .lit (.string x10), .lit (.bool x11), .lit (.int .i64 x12)]] Mem.nil (fun o M => o = .ret (.lit (.int .i64 x13)) ∧ M = Mem.nil) := by
 unfold g_val_Cmp at H
 refine bo Tryz.func26 [] [.tmp 4] 49 fun cx hnp => ?_
 iterate 5 refine sp ?_
 refine WP.seq ?_
 refine WP.regionD' 6 [0, 1] [4] mixed rfl ?_
 refine dK 0 ?_
 refine dK 2 ?_
 obtain ⟨⟨x14, x15, x16, x17, x18, x19⟩, h1, H⟩ := bnd H
 refine dE 1 [0, 1] [4] rfl (rc [] [2] 3 [] (s_val_clean k x1 x2 x3 x4 x5 x6 x14 x15 x16 x17 x18 x19 h1)) ?_
 obtain ⟨⟨x20, x21, x22, x23, x24, x25⟩, h2, H⟩ := bnd H
 refine dE 3 [0, 1] [4] rfl (rc [] [3] 4 [] (s_val_clean k x7 x8 x9 x10 x11 x12 x20 x21 x22 x23 x24 x25 h2)) ?_
 refine dS 4 [] [] ?_
 refine dS 5 [] [] ?_
 refine WPD.doneW (by kernel_rfl) ?_
 iterate 2 refine sp ?_
 refine WP.seq ?_
 refine WP.seq ?_
 obtain ⟨x26, H1, H⟩ := bnd H
 refine mo .normal (((Env.none.upd 2 (.ptr 0 0)).upd 3 (.ptr 1 0)).upd 16 (.lit (.bool x26))) ((Mem.nil.push (.cells 29 [.lit (.int .i64 x14), .lit (.int .i64 x15), .lit (.int .i64 x16), .lit (.string x17), .lit (.bool x18), .lit (.int .i64 x19)])).push (.cells 29 [.lit (.int .i64 x20), .lit (.int .i64 x21), .lit (.int .i64 x22), .lit (.string x23), .lit (.bool x24), .lit (.int .i64 x25)])) ?_ ?_
 · clear H
   have H := H1
   clear H1
   iterate 5 refine sp ?_
   refine ws 12 H (fun hb1 H => ?_) fun hb1 H => ?_
   · iterate 4 refine sp ?_
     refine WPL.nilW ?_
     have q0 := j1 H
     subst q0
     exact wq [0, 1]
   iterate 4 refine sp ?_
   refine WPL.nilW ?_
   have q0 := j1 H
   subst q0
   exact wq [0, 1]
 iterate 2 refine sp ?_
 refine cd H (fun hb2 H => ?_) fun hb2 H => ?_
 · iterate 4 refine sp ?_
   have q0 := j1 H
   subst q0
   exact W.now (Then.r (mb []))
 iterate 3 refine sp ?_
 refine WP.seq ?_
 refine WP.regionD' 8 [0, 1] [6] mixed rfl ?_
 refine dK 0 ?_
 refine dK 1 ?_
 refine dK 3 ?_
 refine dK 4 ?_
 obtain ⟨⟨x27, x28, x29, x30, x31, x32⟩, h3, H⟩ := bnd H
 refine dE 2 [0, 1] [6] rfl (rc [] [2] 3 [] (s_val_beside k x14 x15 x16 x17 x18 x19 x20 x21 x22 x23 x24 x25 x27 x28 x29 x30 x31 x32 h3)) ?_
 obtain ⟨⟨x33, x34, x35, x36, x37, x38⟩, h4, H⟩ := bnd H
 refine dE 5 [0, 1] [6] rfl (rc [] [3] 4 [] (s_val_beside k x20 x21 x22 x23 x24 x25 x14 x15 x16 x17 x18 x19 x33 x34 x35 x36 x37 x38 h4)) ?_
 refine dS 6 [] [] ?_
 refine dS 7 [] [] ?_
 refine WPD.doneW (by kernel_rfl) ?_
 iterate 2 refine sp ?_
 refine WP.seq ?_
 refine WP.regionD' 27 [0, 1] [] mixed rfl ?_
 refine dT 0 ?_
 refine dT 2 ?_
 refine dT 5 ?_
 refine dT 7 ?_
 refine dT 10 ?_
 refine dT 13 ?_
 refine dT 17 ?_
 refine dT 20 ?_
 refine dK 1 ?_
 refine dK 3 ?_
 refine dK 6 ?_
 refine dK 8 ?_
 refine dK 11 ?_
 refine dK 14 ?_
 refine dK 18 ?_
 refine dK 21 ?_
 obtain ⟨x39, h5, H⟩ := bnd H
 refine dE 4 [0, 1] [] rfl (rc [] [] 4 [] (s_cmp_Compare_int k x27 x33 x39 h5)) ?_
 obtain ⟨x40, h6, H⟩ := bnd H
 refine dE 9 [0, 1] [] rfl (rc [] [] 4 [] (s_dec_Cmp k x28 x29 x34 x35 x40 h6)) ?_
 obtain ⟨x41, h7, H⟩ := bnd H
 refine dE 12 [0, 1] [] rfl (rc [] [] 4 [] (s_utf_Lower k x30 x41 h7)) ?_
 obtain ⟨x42, h8, H⟩ := bnd H
 refine dE 15 [0, 1] [] rfl (rc [] [] 4 [] (s_utf_Lower k x36 x42 h8)) ?_
 obtain ⟨x43, h9, H⟩ := bnd H
 refine dE 16 [0, 1] [] rfl (rc [] [] 4 [] (s_cmp_Compare_string k x41 x42 x43 h9)) ?_
 obtain ⟨x44, h10, H⟩ := bnd H
 refine dE 19 [0, 1] [] rfl (rc [] [] 4 [] (s_val_ones k x31 x44 h10)) ?_
 obtain ⟨x45, h11, H⟩ := bnd H
 refine dE 22 [0, 1] [] rfl (rc [] [] 4 [] (s_val_ones k x37 x45 h11)) ?_
 obtain ⟨x46, h12, H⟩ := bnd H
 refine dE 23 [0, 1] [] rfl (rc [] [] 4 [] (s_cmp_Compare_int k x44 x45 x46 h12)) ?_
 refine dE 24 [0, 1] [] rfl (Does.runs (d_buildSlice (ds := ([x39, x40, x43, x46] : List Int)) (R := (Rd.int .i64)) li76 rfl rfl rfl rfl rfl (JoinRows.cons1 Joins.sc rfl (JoinRows.cons1 Joins.sc rfl (JoinRows.cons1 Joins.sc rfl (JoinRows.cons1 Joins.sc rfl JoinRows.nil)))) rfl rfl)) ?_
 obtain ⟨x47, h13, H⟩ := bnd H
 refine dE 25 [0, 1] [] rfl (rc [] [] 5 [4] (s_cmp_Or_int k ([x39, x40, x43, x46] : List Int) x47 h13)) ?_
 refine dT 26 ?_
 refine WPD.doneW (by kernel_rfl) ?_
 iterate 3 refine sp ?_
 have q0 := j1 H
 subst q0
 exact W.now (mb [])
theorem s_val_Bin (k : Nat) (x1 : Int) (x2 : Int) (x3 : Int) (x4 : Int) (x5 : ByteArray) (x6 : Bool) (x7 : Int) (x8 : Int) (x9 : Int) (x10 : Int) (x11 : ByteArray) (x12 : Bool) (x13 : Int) (x14 : Int) (x15 : Int) (x16 : Int) (x17 : ByteArray) (x18 : Bool) (x19 : Int) (H : g_val_Bin k x1 x2 x3 x4 x5 x6 x7 x8 x9 x10 x11 x12 x13 = some (x14, x15, x16, x17, x18, x19)) : Go.Q.Spec Tryz.prog 28 0 [.lit (.int .i64 x1), .agg [.lit (.int .i64 x2), .lit (.int .i64 x3), .lit (.int .i64 x4), .lit (.string x5), .lit (.bool x6), .lit (.int .i64 x7)], .agg [.lit (.int .i64 x8), .lit (.int .i64 x9), .lit (.int .i64 x10), .lit (.string x11), .lit (.bool x12), .lit (.int .i64 x13)]] Mem.nil (fun o M => o = .ret (.agg [.lit (.int .i64 x14), .lit (.int .i64 x15), .lit (.int .i64 x16), .lit (.string x17), .lit (.bool x18), .lit (.int .i64 x19)]) ∧ M = (Mem.nil.push (.cells 29 [.lit (.int .i64 x14), .lit (.int .i64 x15), .lit (.int .i64 x16), .lit (.string x17), .lit (.bool x18), .lit (.int .i64 x19)]))) := by
 unfold g_val_Bin at H
 refine bo Tryz.func28 [(29, 6)] [.cell 6 29] 102 fun cx hnp => ?_
 iterate 5 refine sp ?_
 refine WP.seq ?_
 refine WP.regionD' 6 [0, 1] [4] mixed rfl ?_
 refine dK 0 ?_
 refine dK 2 ?_
 obtain ⟨⟨x20, x21, x22, x23, x24, x25⟩, h1, H⟩ := bnd H
 refine dE 1 [0, 1] [4] rfl (rc [] [3] 4 [] (s_val_clean k x2 x3 x4 x5 x6 x7 x20 x21 x22 x23 x24 x25 h1)) ?_
 obtain ⟨⟨x26, x27, x28, x29, x30, x31⟩, h2, H⟩ := bnd H
 refine dE 3 [0, 1] [4] rfl (rc [] [4] 5 [] (s_val_clean k x8 x9 x10 x11 x12 x13 x26 x27 x28 x29 x30 x31 h2)) ?_
 refine dS 4 [] [] ?_
 refine dS 5 [] [] ?_
 refine WPD.doneW (by kernel_rfl) ?_
 iterate 2 refine sp ?_
 refine WP.seq ?_
 obtain ⟨⟨x32, x33, x34, x35, x36, x37, x38, x39, x40, x41, x42, x43⟩, H1, H⟩ := bnd H
 refine mo .normal ((((Env.none.upd 0 (.lit (.int .i64 x1))).upd 4 (.ptr 0 0)).upd 5 (.ptr 1 0)).upd 6 (.ptr 2 0)) (((Mem.nil.push (.cells 29 [.lit (.int .i64 x32), .lit (.int .i64 x33), .lit (.int .i64 x34), .lit (.string x35), .lit (.bool x36), .lit (.int .i64 x37)])).push (.cells 29 [.lit (.int .i64 x38), .lit (.int .i64 x39), .lit (.int .i64 x40), .lit (.string x41), .lit (.bool x42), .lit (.int .i64 x43)])).push (.cells 29 [.lit (.int .i64 0), .lit (.int .i64 0), .lit (.int .i64 0), .lit (.string (ByteArray.mk #[])), .lit (.bool false), .lit (.int .i64 0)])) ?_ ?_
 · clear H
   have H := H1
   clear H1
   refine WP.seq ?_
   obtain ⟨x44, H2, H⟩ := bnd H
   refine mo .normal (((((Env.none.upd 0 (.lit (.int .i64 x1))).upd 4 (.ptr 0 0)).upd 5 (.ptr 1 0)).upd 6 (.ptr 2 0)).upd 27 (.lit (.bool x44))) (((Mem.nil.push (.cells 29 [.lit (.int .i64 x20), .lit (.int .i64 x21), .lit (.int .i64 x22), .lit (.string x23), .lit (.bool x24), .lit (.int .i64 x25)])).push (.cells 29 [.lit (.int .i64 x26), .lit (.int .i64 x27), .lit (.int .i64 x28), .lit (.string x29), .lit (.bool x30), .lit (.int .i64 x31)])).push (.cells 29 [.lit (.int .i64 0), .lit (.int .i64 0), .lit (.int .i64 0), .lit (.string (ByteArray.mk #[])), .lit (.bool false), .lit (.int .i64 0)])) ?_ ?_
   · clear H
     have H := H2
     clear H2
     iterate 4 refine sp ?_
     refine ws 14 H (fun hb1 H => ?_) fun hb1 H => ?_
     · iterate 4 refine sp ?_
       refine ws 18 H (fun hb2 H => ?_) fun hb2 H => ?_
       · iterate 5 refine sp ?_
         refine ws 23 H (fun hb3 H => ?_) fun hb3 H => ?_
         · iterate 4 refine sp ?_
           refine WPL.nilW ?_
           have q0 := j1 H
           subst q0
           exact wq [0, 1, 2]
         iterate 4 refine sp ?_
         refine WPL.nilW ?_
         have q0 := j1 H
         subst q0
         exact wq [0, 1, 2]
       iterate 9 refine sp ?_
       refine WPL.nilW ?_
       have q0 := j1 H
       subst q0
       exact wq [0, 1, 2]
     iterate 13 refine sp ?_
     refine WPL.nilW ?_
     have q0 := j1 H
     subst q0
     exact wq [0, 1, 2]
   iterate 2 refine sp ?_
   refine cd H (fun hb4 H => ?_) fun hb4 H => ?_
   · refine WP.regionD' 6 [0, 1] [4] mixed rfl ?_
     refine dK 0 ?_
     refine dK 2 ?_
     obtain ⟨⟨x45, x46, x47, x48, x49, x50⟩, h3, H⟩ := bnd H
     refine dE 1 [0, 1] [4] rfl (rc [] [3] 4 [] (s_val_Num k x20 x21 x22 x23 x24 x25 x45 x46 x47 x48 x49 x50 h3)) ?_
     obtain ⟨⟨x51, x52, x53, x54, x55, x56⟩, h4, H⟩ := bnd H
     refine dE 3 [0, 1] [4] rfl (rc [] [4] 5 [] (s_val_Num k x26 x27 x28 x29 x30 x31 x51 x52 x53 x54 x55 x56 h4)) ?_
     refine dS 4 [] [] ?_
     refine dS 5 [] [] ?_
     refine WPD.doneW (by kernel_rfl) ?_
     obtain ⟨rfl, rfl, rfl, rfl, rfl, rfl, rfl, rfl, rfl, rfl, rfl, rfl⟩ := j12 H
     exact wq [0, 1, 2]
   refine sp ?_
   obtain ⟨rfl, rfl, rfl, rfl, rfl, rfl, rfl, rfl, rfl, rfl, rfl, rfl⟩ := j12 H
   exact wq [0, 1, 2]
 iterate 2 refine sp ?_
 refine WP.seq ?_
 iterate 7 refine sp ?_
 refine cd H (fun hb5 H => ?_) fun hb5 H => ?_
 · iterate 5 refine sp ?_
   obtain ⟨rfl, rfl, rfl, rfl, rfl, rfl⟩ := j6 H
   exact W.now (InBlock.r (Then.r (mb [2])))
 iterate 6 refine sp ?_
 refine cd H (fun hb6 H => ?_) fun hb6 H => ?_
 · iterate 5 refine sp ?_
   obtain ⟨rfl, rfl, rfl, rfl, rfl, rfl⟩ := j6 H
   exact W.now (InBlock.r (Then.r (mb [2])))
 refine WP.seq ?_
 obtain ⟨x57, H3, H⟩ := bnd H
 refine mo .normal (((((Env.none.upd 0 (.lit (.int .i64 x1))).upd 4 (.ptr 0 0)).upd 5 (.ptr 1 0)).upd 6 (.ptr 2 0)).upd 42 (.lit (.bool x57))) (((Mem.nil.push (.cells 29 [.lit (.int .i64 x32), .lit (.int .i64 x33), .lit (.int .i64 x34), .lit (.string x35), .lit (.bool x36), .lit (.int .i64 x37)])).push (.cells 29 [.lit (.int .i64 x38), .lit (.int .i64 x39), .lit (.int .i64 x40), .lit (.string x41), .lit (.bool x42), .lit (.int .i64 x43)])).push (.cells 29 [.lit (.int .i64 0), .lit (.int .i64 0), .lit (.int .i64 0), .lit (.string (ByteArray.mk #[])), .lit (.bool false), .lit (.int .i64 0)])) ?_ ?_
 · clear H
   have H := H3
   clear H3
   iterate 4 refine sp ?_
   refine ws 45 H (fun hb7 H => ?_) fun hb7 H => ?_
   · iterate 4 refine sp ?_
     refine WPL.nilW ?_
     have q0 := j1 H
     subst q0
     exact wq [0, 1, 2]
   iterate 4 refine sp ?_
   refine WPL.nilW ?_
   have q0 := j1 H
   subst q0
   exact wq [0, 1, 2]
 iterate 2 refine sp ?_
 refine cd H (fun hb8 H => ?_) fun hb8 H => ?_
 · iterate 6 refine sp ?_
   obtain ⟨⟨x58, x59, x60⟩, h5, H⟩ := bnd H
   refine WPL.c (rc [] [3] 4 [] (s_val_sum k x1 x33 x34 x39 x40 x58 x59 x60 h5) (hargs := .ren rfl rfl (.ren rfl rfl (.ren rfl rfl .nil)))) rfl ?_
   iterate 2 refine sp ?_
   obtain ⟨⟨x61, x62, x63, x64⟩, h6, H⟩ := bnd H
   refine WPL.c (rc [] [4] 5 [] (s_val_Of k x59 x60 x58 x61 x62 x63 x64 h6)) rfl ?_
   iterate 3 refine sp ?_
   obtain ⟨rfl, rfl, rfl, rfl, rfl, rfl⟩ := j6 H
   exact W.now (InBlock.r (Then.r (mb [2])))
 iterate 5 refine sp ?_
 refine cd H (fun hb9 H => ?_) fun hb9 H => ?_
 · refine WP.seq ?_
   refine WP.regionD' 7 [0, 1] [] mixed rfl ?_
   refine dK 0 ?_
   refine dK 2 ?_
   obtain ⟨x65, h7, H⟩ := bnd H
   refine dE 1 [0, 1] [] rfl (rc [] [] 3 [] (s_val_Show k x32 x33 x34 x35 x36 x37 x65 h7)) ?_
   obtain ⟨x66, h8, H⟩ := bnd H
   refine dE 3 [0, 1] [] rfl (rc [] [] 3 [] (s_val_Show k x38 x39 x40 x41 x42 x43 x66 h8)) ?_
   obtain ⟨h9, H⟩ := grd H
   refine dT 4 ?_
   obtain ⟨⟨x67, x68, x69⟩, h10, H⟩ := bnd H
   refine dE 5 [0, 1] [] rfl (rc [] [3] 4 [] (s_val_Str k (x65 ++ x66) x67 x68 x69 h10)) ?_
   refine dS 6 [0, 1] [] ?_
   refine WPD.doneW (by kernel_rfl) ?_
   iterate 3 refine sp ?_
   obtain ⟨rfl, rfl, rfl, rfl, rfl, rfl⟩ := j6 H
   exact W.now (InBlock.r (Then.r (mb [2])))
 iterate 2 refine sp ?_
 refine InBlock.n ?_
 iterate 4 refine sp ?_
 obtain ⟨x70, h11, H⟩ := bnd H
 refine WPL.c (rc [] [] 3 [] (s_val_Cmp k x32 x33 x34 x35 x36 x37 x38 x39 x40 x41 x42 x43 x70 h11)) rfl ?_
 iterate 2 refine sp ?_
 refine WP.seq ?_
 iterate 8 refine sp ?_
 refine cd H (fun hb10 H => ?_) fun hb10 H => ?_
 · iterate 3 refine sp ?_
   obtain ⟨_, h12, H⟩ := bnd H
   refine WPL.c (rc [] [3] 4 [] (s_val_Truth k (decide (x70 = 0)) h12)) rfl ?_
   iterate 3 refine sp ?_
   obtain ⟨rfl, rfl, rfl, rfl, rfl, rfl⟩ := j6 H
   exact W.now (InBlock.r (Then.r (mb [2])))
 iterate 4 refine sp ?_
 refine cd H (fun hb11 H => ?_) fun hb11 H => ?_
 · iterate 3 refine sp ?_
   obtain ⟨_, h13, H⟩ := bnd H
   refine WPL.c (rc [] [3] 4 [] (s_val_Truth k (!decide (x70 = 0)) h13)) rfl ?_
   iterate 3 refine sp ?_
   obtain ⟨rfl, rfl, rfl, rfl, rfl, rfl⟩ := j6 H
   exact W.now (InBlock.r (Then.r (mb [2])))
 iterate 4 refine sp ?_
 refine cd H (fun hb12 H => ?_) fun hb12 H => ?_
 · iterate 3 refine sp ?_
   obtain ⟨_, h14, H⟩ := bnd H
   refine WPL.c (rc [] [3] 4 [] (s_val_Truth k (decide (x70 < 0)) h14)) rfl ?_
   iterate 3 refine sp ?_
   obtain ⟨rfl, rfl, rfl, rfl, rfl, rfl⟩ := j6 H
   exact W.now (InBlock.r (Then.r (mb [2])))
 iterate 4 refine sp ?_
 refine cd H (fun hb13 H => ?_) fun hb13 H => ?_
 · iterate 3 refine sp ?_
   obtain ⟨_, h15, H⟩ := bnd H
   refine WPL.c (rc [] [3] 4 [] (s_val_Truth k (decide (x70 ≤ 0)) h15)) rfl ?_
   iterate 3 refine sp ?_
   obtain ⟨rfl, rfl, rfl, rfl, rfl, rfl⟩ := j6 H
   exact W.now (InBlock.r (Then.r (mb [2])))
 iterate 4 refine sp ?_
 refine cd H (fun hb14 H => ?_) fun hb14 H => ?_
 · iterate 3 refine sp ?_
   obtain ⟨_, h16, H⟩ := bnd H
   refine WPL.c (rc [] [3] 4 [] (s_val_Truth k (decide (0 < x70)) h16)) rfl ?_
   iterate 3 refine sp ?_
   obtain ⟨rfl, rfl, rfl, rfl, rfl, rfl⟩ := j6 H
   exact W.now (InBlock.r (Then.r (mb [2])))
 iterate 4 refine sp ?_
 refine cd H (fun hb15 H => ?_) fun hb15 H => ?_
 · iterate 3 refine sp ?_
   obtain ⟨_, h17, H⟩ := bnd H
   refine WPL.c (rc [] [3] 4 [] (s_val_Truth k (decide (0 ≤ x70)) h17)) rfl ?_
   iterate 3 refine sp ?_
   obtain ⟨rfl, rfl, rfl, rfl, rfl, rfl⟩ := j6 H
   exact W.now (InBlock.r (Then.r (mb [2])))
 iterate 2 refine sp ?_
 refine InBlock.n ?_
 iterate 2 refine sp ?_
 obtain ⟨x71, h18, H⟩ := bnd H
 refine WPL.c (rc [] [3] 4 [] (s_val_Err k 2 x71 h18)) rfl ?_
 iterate 3 refine sp ?_
 obtain ⟨rfl, rfl, rfl, rfl, rfl, rfl⟩ := j6 H
 exact W.now (mb [2])
end Go.Proofs.YthpcgknknpjpdaaGreatDoor.W
namespace Go.Proofs.YthpcgknknpjpdaaGreatDoor.W
open Go Go.Q Go.Proofs
set_option linter.unusedVariables false
set_option linter.unusedSimpArgs false
set_option maxRecDepth 100000
set_option maxHeartbeats 4000000
theorem s_quirelaw13_num (k : Nat) (x1 : Int) (H : g_quirelaw13_num k x1 = some ()) : Go.Q.Spec Tryz.prog 52 0 [.lit (.int .i64 x1)] Mem.nil (fun o M => o = .ret (.agg [.lit (.int .i64 1), .lit (.int .i64 x1), .lit (.int .i64 0), .lit (.string (ByteArray.mk #[])), .lit (.bool false), .lit (.int .i64 0)]) ∧ M = (Mem.nil.push (.cells 29 [.lit (.int .i64 1), .lit (.int .i64 x1), .lit (.int .i64 0), .lit (.string (ByteArray.mk #[])), .lit (.bool false), .lit (.int .i64 0)]))) := by
 unfold g_quirelaw13_num at H
 refine bo Tryz.func52 [(29, 6)] [.cell 2 29] 6 fun cx hnp => ?_
 iterate 10 refine sp ?_
 exact W.now (mb [0])
theorem s_quirelaw13_alive (k : Nat) (x1 : Bool) (H : g_quirelaw13_alive k = some x1) : Go.Q.Spec Tryz.prog 23 0 [] Mem.nil (fun o M => o = .ret (.lit (.bool x1)) ∧ M = Mem.nil) := by
 unfold g_quirelaw13_alive at H
 refine bo Tryz.func23 [] [.tmp 0] 34 fun cx hnp => ?_
 iterate 3 refine sp ?_
 refine WP.seq ?_
 obtain ⟨x2, H1, H⟩ := bnd H
 refine mo .normal (Env.none.upd 0 (.lit (.bool x2))) Mem.nil ?_ ?_
 · clear H
   have H := H1
   clear H1
   refine sp ?_
   obtain ⟨⟨x3, x4, x5⟩, h1, H⟩ := bnd H
   refine WPL.c (rc [] [0] 1 [] (s_val_Str k (ByteArray.mk #[50]) x3 x4 x5 h1)) rfl ?_
   obtain ⟨_, h2, H⟩ := bnd H
   refine WPL.c (rc [] [1] 2 [] (s_val_Truth k true h2)) rfl ?_
   obtain ⟨⟨x6, x7, x8, x9, x10, x11⟩, h3, H⟩ := bnd H
   refine WPL.c (rc [] [2] 3 [] (s_val_Bin k 1 x3 0 0 x4 false x5 3 0 0 (ByteArray.mk #[]) true 0 x6 x7 x8 x9 x10 x11 h3) (hargs := .ren rfl rfl (.ren rfl rfl (.ren rfl rfl .nil)))) rfl ?_
   obtain ⟨_, h4, H⟩ := bnd H
   refine WPL.c (rc [] [3] 4 [] (s_quirelaw13_num k 3 h4)) rfl ?_
   obtain ⟨x12, h5, H⟩ := bnd H
   refine WPL.qq (q_nm (q_eqlAg (xs := [(.int .i64 x6), (.int .i64 x7), (.int .i64 x8), (.string x9), (.bool x10), (.int .i64 x11)]) (ys := [(.int .i64 1), (.int .i64 3), (.int .i64 0), (.string (ByteArray.mk #[])), (.bool false), (.int .i64 0)]) (n := 9) rfl eg29 rfl rfl eq29) (nm_bool h5)) ?_
   refine sp ?_
   refine ws 6 H (fun hb1 H => ?_) fun hb1 H => ?_
   · obtain ⟨_, h6, H⟩ := bnd H
     refine WPL.cg rfl rfl (lb hb1) (rc [] [4] 5 [] (s_quirelaw13_num k 1 h6)) rfl ?_
     obtain ⟨_, h7, H⟩ := bnd H
     refine WPL.cg rfl rfl (lb hb1) (rc [] [5] 6 [] (s_quirelaw13_num k 0 h7)) rfl ?_
     obtain ⟨⟨x13, x14, x15, x16, x17, x18⟩, h8, H⟩ := bnd H
     refine WPL.cg rfl rfl (lb hb1) (rc [] [6] 7 [] (s_val_Bin k 4 1 1 0 (ByteArray.mk #[]) false 0 1 0 0 (ByteArray.mk #[]) false 0 x13 x14 x15 x16 x17 x18 h8) (hargs := .ren rfl rfl (.ren rfl rfl (.ren rfl rfl .nil)))) rfl ?_
     obtain ⟨x19, h9, H⟩ := bnd H
     refine WPL.cg rfl rfl (lb hb1) (rc [] [7] 8 [] (s_val_Err k 1 x19 h9)) rfl ?_
     obtain ⟨x20, h10, H⟩ := bnd H
     refine WPL.gq rfl (lb hb1) (q_nm (q_eqlAg (xs := [(.int .i64 x13), (.int .i64 x14), (.int .i64 x15), (.string x16), (.bool x17), (.int .i64 x18)]) (ys := [(.int .i64 4), (.int .i64 0), (.int .i64 0), (.string (ByteArray.mk #[])), (.bool false), (.int .i64 x19)]) (n := 9) rfl eg29 rfl rfl eq29) (nm_bool h10)) ?_
     iterate 2 refine sp ?_
     refine ws 13 H (fun hb2 H => ?_) fun hb2 H => ?_
     · obtain ⟨⟨x21, x22, x23⟩, h11, H⟩ := bnd H
       refine WPL.cg rfl rfl (lb hb2) (rc [] [8] 9 [] (s_val_Str k (ByteArray.mk #[97]) x21 x22 x23 h11)) rfl ?_
       obtain ⟨⟨x24, x25, x26⟩, h12, H⟩ := bnd H
       refine WPL.cg rfl rfl (lb hb2) (rc [] [9] 10 [] (s_val_Str k (ByteArray.mk #[65]) x24 x25 x26 h12)) rfl ?_
       obtain ⟨x27, h13, H⟩ := bnd H
       refine WPL.cg rfl rfl (lb hb2) (rc [] [] 10 [] (s_val_Cmp k x21 0 0 x22 false x23 x24 0 0 x25 false x26 x27 h13)) rfl ?_
       iterate 3 refine sp ?_
       refine ws 19 H (fun hb3 H => ?_) fun hb3 H => ?_
       · obtain ⟨⟨x28, x29, x30, x31, x32, x33⟩, h14, H⟩ := bnd H
         refine WPL.cg rfl rfl (lb hb3) (rc [] [10] 11 [] (s_val_Typed k (ByteArray.mk #[39, 49, 50]) x28 x29 x30 x31 x32 x33 h14)) rfl ?_
         obtain ⟨⟨x34, x35, x36⟩, h15, H⟩ := bnd H
         refine WPL.cg rfl rfl (lb hb3) (rc [] [11] 12 [] (s_val_Str k (ByteArray.mk #[49, 50]) x34 x35 x36 h15)) rfl ?_
         obtain ⟨x37, h16, H⟩ := bnd H
         refine WPL.gq rfl (lb hb3) (q_nm (q_eqlAg (xs := [(.int .i64 x28), (.int .i64 x29), (.int .i64 x30), (.string x31), (.bool x32), (.int .i64 x33)]) (ys := [(.int .i64 x34), (.int .i64 0), (.int .i64 0), (.string x35), (.bool false), (.int .i64 x36)]) (n := 9) rfl eg29 rfl rfl eq29) (nm_bool h16)) ?_
         iterate 2 refine sp ?_
         refine ws 24 H (fun hb4 H => ?_) fun hb4 H => ?_
         · obtain ⟨⟨x38, x39, x40⟩, h17, H⟩ := bnd H
           refine WPL.cg rfl rfl (lb hb4) (rc [] [12] 13 [] (s_val_Str k (ByteArray.mk #[120]) x38 x39 x40 h17)) rfl ?_
           refine WPL.gq rfl (lb hb4) (q_field fi29_2 sc9 rfl rfl) ?_
           obtain ⟨x41, h18, H⟩ := bnd H
           refine sn (nm_bool h18) ?_
           iterate 2 refine sp ?_
           refine ws 29 H (fun hb5 H => ?_) fun hb5 H => ?_
           · obtain ⟨x42, h19, H⟩ := bnd H
             refine WPL.cg rfl rfl (lb hb5) (rc [] [13] 14 [] (s_val_Err k 6 x42 h19)) rfl ?_
             obtain ⟨x43, h20, H⟩ := bnd H
             refine WPL.cg rfl rfl (lb hb5) (rc [] [] 14 [] (s_val_Show k 4 0 0 (ByteArray.mk #[]) false x42 x43 h20)) rfl ?_
             obtain ⟨x44, h21, H⟩ := bnd H
             refine sn (nm_bool h21) ?_
             iterate 2 refine sp ?_
             refine WPL.nilW ?_
             have q0 := j1 H
             subst q0
             exact wq []
           iterate 5 refine sp ?_
           refine WPL.nilW ?_
           have q0 := j1 H
           subst q0
           exact wq []
         iterate 10 refine sp ?_
         refine WPL.nilW ?_
         have q0 := j1 H
         subst q0
         exact wq []
       iterate 15 refine sp ?_
       refine WPL.nilW ?_
       have q0 := j1 H
       subst q0
       exact wq []
     iterate 21 refine sp ?_
     refine WPL.nilW ?_
     have q0 := j1 H
     subst q0
     exact wq []
   iterate 28 refine sp ?_
   refine WPL.nilW ?_
   have q0 := j1 H
   subst q0
   exact wq []
 iterate 3 refine sp ?_
 have q0 := j1 H
 subst q0
 exact W.now (mb [])
end Go.Proofs.YthpcgknknpjpdaaGreatDoor.W
namespace Go.Proofs.YthpcgknknpjpdaaGreatDoor.W
open Go Go.Q Go.Proofs
set_option linter.unusedVariables false
set_option linter.unusedSimpArgs false
set_option maxRecDepth 100000
set_option maxHeartbeats 4000000
theorem s_rv_Right (k : Nat) (x1 : Int) (x2 : Int) (x3 : Int) (x4 : ByteArray) (x5 : Bool) (x6 : Int) (x7 : Bool) (H : g_rv_Right k x1 x2 x3 x4 x5 x6 = some x7) : Go.Q.Spec Tryz.prog 35 0 [.agg [.lit (.int .i64 x1), .lit (.int .i64 x2), .lit (.int .i64 x3), .lit (.string x4), .lit (.bool x5), .lit (.int .i64 x6)]] Mem.nil (fun o M => o = .ret (.lit (.bool x7)) ∧ M = Mem.nil) := by
 unfold g_rv_Right at H
 refine bo Tryz.func35 [] [.tmp 2] 58 fun cx hnp => ?_
 iterate 4 refine sp ?_
 refine WP.seq ?_
 iterate 9 refine sp ?_
 refine cd H (fun hb1 H => ?_) fun hb1 H => ?_
 · iterate 3 refine sp ?_
   obtain ⟨x8, h1, H⟩ := bnd H
   refine WPL.qq (q_nm (q_eqlAg (xs := [(.int .i64 x1), (.int .i64 x2), (.int .i64 x3), (.string x4), (.bool x5), (.int .i64 x6)]) (ys := [(.int .i64 0), (.int .i64 0), (.int .i64 0), (.string (ByteArray.mk #[])), (.bool false), (.int .i64 0)]) (n := 9) rfl eg29 rfl rfl eq29) (nm_bool h1)) ?_
   iterate 3 refine sp ?_
   have q0 := j1 H
   subst q0
   exact W.now (InBlock.r (Then.r (mb [])))
 iterate 4 refine sp ?_
 refine cd H (fun hb2 H => ?_) fun hb2 H => ?_
 · refine WP.seq ?_
   obtain ⟨x9, H1, H⟩ := bnd H
   refine mo .normal (Env.none.upd 2 (.lit (.bool x9))) Mem.nil ?_ ?_
   · clear H
     have H := H1
     clear H1
     iterate 3 refine sp ?_
     obtain ⟨x10, h2, H⟩ := bnd H
     refine WPL.c (rc [] [] 1 [] (s_r9_Right k x2 x3 x10 h2)) rfl ?_
     refine sp ?_
     refine ws 15 H (fun hb3 H => ?_) fun hb3 H => ?_
     · iterate 4 refine sp ?_
       obtain ⟨x11, h3, H⟩ := bnd H
       refine WPL.gq rfl (lb hb3) (q_nm (q_eqlAg (xs := [(.int .i64 x1), (.int .i64 x2), (.int .i64 x3), (.string x4), (.bool x5), (.int .i64 x6)]) (ys := [(.int .i64 1), (.int .i64 x2), (.int .i64 x3), (.string (ByteArray.mk #[])), (.bool false), (.int .i64 0)]) (n := 9) rfl eg29 rfl rfl eq29) (nm_bool h3)) ?_
       iterate 2 refine sp ?_
       refine WPL.nilW ?_
       have q0 := j1 H
       subst q0
       exact wq []
     iterate 7 refine sp ?_
     refine WPL.nilW ?_
     have q0 := j1 H
     subst q0
     exact wq []
   iterate 3 refine sp ?_
   have q0 := j1 H
   subst q0
   exact W.now (InBlock.r (Then.r (mb [])))
 iterate 4 refine sp ?_
 refine cd H (fun hb4 H => ?_) fun hb4 H => ?_
 · refine WP.seq ?_
   obtain ⟨x12, H2, H⟩ := bnd H
   refine mo .normal (Env.none.upd 2 (.lit (.bool x12))) Mem.nil ?_ ?_
   · clear H
     have H := H2
     clear H2
     iterate 3 refine sp ?_
     obtain ⟨x13, h4, H⟩ := bnd H
     refine WPL.c (rc [] [] 1 [] (s_rv_text k x4 x13 h4)) rfl ?_
     refine sp ?_
     refine ws 27 H (fun hb5 H => ?_) fun hb5 H => ?_
     · iterate 4 refine sp ?_
       obtain ⟨x14, h5, H⟩ := bnd H
       refine WPL.gq rfl (lb hb5) (q_nm (q_eqlAg (xs := [(.int .i64 x1), (.int .i64 x2), (.int .i64 x3), (.string x4), (.bool x5), (.int .i64 x6)]) (ys := [(.int .i64 2), (.int .i64 0), (.int .i64 0), (.string x4), (.bool false), (.int .i64 0)]) (n := 9) rfl eg29 rfl rfl eq29) (nm_bool h5)) ?_
       iterate 2 refine sp ?_
       refine WPL.nilW ?_
       have q0 := j1 H
       subst q0
       exact wq []
     iterate 7 refine sp ?_
     refine WPL.nilW ?_
     have q0 := j1 H
     subst q0
     exact wq []
   iterate 3 refine sp ?_
   have q0 := j1 H
   subst q0
   exact W.now (InBlock.r (Then.r (mb [])))
 iterate 4 refine sp ?_
 refine cd H (fun hb6 H => ?_) fun hb6 H => ?_
 · iterate 5 refine sp ?_
   obtain ⟨x15, h6, H⟩ := bnd H
   refine WPL.qq (q_nm (q_eqlAg (xs := [(.int .i64 x1), (.int .i64 x2), (.int .i64 x3), (.string x4), (.bool x5), (.int .i64 x6)]) (ys := [(.int .i64 3), (.int .i64 0), (.int .i64 0), (.string (ByteArray.mk #[])), (.bool x5), (.int .i64 0)]) (n := 9) rfl eg29 rfl rfl eq29) (nm_bool h6)) ?_
   iterate 3 refine sp ?_
   have q0 := j1 H
   subst q0
   exact W.now (InBlock.r (Then.r (mb [])))
 iterate 4 refine sp ?_
 refine cd H (fun hb7 H => ?_) fun hb7 H => ?_
 · refine WP.seq ?_
   obtain ⟨x16, H3, H⟩ := bnd H
   refine mo .normal (Env.none.upd 2 (.lit (.bool x16))) Mem.nil ?_ ?_
   · clear H
     have H := H3
     clear H3
     iterate 5 refine sp ?_
     refine ws 46 H (fun hb8 H => ?_) fun hb8 H => ?_
     · iterate 5 refine sp ?_
       refine ws 51 H (fun hb9 H => ?_) fun hb9 H => ?_
       · iterate 4 refine sp ?_
         obtain ⟨x17, h7, H⟩ := bnd H
         refine WPL.gq rfl (lb hb9) (q_nm (q_eqlAg (xs := [(.int .i64 x1), (.int .i64 x2), (.int .i64 x3), (.string x4), (.bool x5), (.int .i64 x6)]) (ys := [(.int .i64 4), (.int .i64 0), (.int .i64 0), (.string (ByteArray.mk #[])), (.bool false), (.int .i64 x6)]) (n := 9) rfl eg29 rfl rfl eq29) (nm_bool h7)) ?_
         iterate 2 refine sp ?_
         refine WPL.nilW ?_
         have q0 := j1 H
         subst q0
         exact wq []
       iterate 7 refine sp ?_
       refine WPL.nilW ?_
       have q0 := j1 H
       subst q0
       exact wq []
     iterate 12 refine sp ?_
     refine WPL.nilW ?_
     have q0 := j1 H
     subst q0
     exact wq []
   iterate 3 refine sp ?_
   have q0 := j1 H
   subst q0
   exact W.now (InBlock.r (Then.r (mb [])))
 iterate 2 refine sp ?_
 refine InBlock.n ?_
 iterate 5 refine sp ?_
 have q0 := j1 H
 subst q0
 exact W.now (mb [])
theorem s_rv_clean (k : Nat) (x1 : Int) (x2 : Int) (x3 : Int) (x4 : ByteArray) (x5 : Bool) (x6 : Int) (x7 : Int) (x8 : Int) (x9 : Int) (x10 : ByteArray) (x11 : Bool) (x12 : Int) (H : g_rv_clean k x1 x2 x3 x4 x5 x6 = some (x7, x8, x9, x10, x11, x12)) : Go.Q.Spec Tryz.prog 63 0 [.agg [.lit (.int .i64 x1), .lit (.int .i64 x2), .lit (.int .i64 x3), .lit (.string x4), .lit (.bool x5), .lit (.int .i64 x6)]] Mem.nil (fun o M => o = .ret (.agg [.lit (.int .i64 x7), .lit (.int .i64 x8), .lit (.int .i64 x9), .lit (.string x10), .lit (.bool x11), .lit (.int .i64 x12)]) ∧ M = (Mem.nil.push (.cells 29 [.lit (.int .i64 x7), .lit (.int .i64 x8), .lit (.int .i64 x9), .lit (.string x10), .lit (.bool x11), .lit (.int .i64 x12)]))) := by
 unfold g_rv_clean at H
 refine bo Tryz.func63 [(29, 6)] [.cell 2 29] 8 fun cx hnp => ?_
 iterate 4 refine sp ?_
 refine WP.seq ?_
 iterate 2 refine sp ?_
 obtain ⟨x13, h1, H⟩ := bnd H
 refine WPL.c (rc [] [] 2 [] (s_rv_Right k x1 x2 x3 x4 x5 x6 x13 h1)) rfl ?_
 iterate 2 refine sp ?_
 refine cd H (fun hb1 H => ?_) fun hb1 H => ?_
 · refine sp ?_
   obtain ⟨x14, h2, H⟩ := bnd H
   refine WPL.c (rc [] [2] 3 [] (s_rv_Err k 2 x14 h2)) rfl ?_
   iterate 3 refine sp ?_
   obtain ⟨rfl, rfl, rfl, rfl, rfl, rfl⟩ := j6 H
   exact W.now (Then.r (mb [1]))
 iterate 8 refine sp ?_
 obtain ⟨rfl, rfl, rfl, rfl, rfl, rfl⟩ := j6 H
 exact W.now (mb [1])
theorem s_rv_Num (k : Nat) (x1 : Int) (x2 : Int) (x3 : Int) (x4 : ByteArray) (x5 : Bool) (x6 : Int) (x7 : Int) (x8 : Int) (x9 : Int) (x10 : ByteArray) (x11 : Bool) (x12 : Int) (H : g_rv_Num k x1 x2 x3 x4 x5 x6 = some (x7, x8, x9, x10, x11, x12)) : Go.Q.Spec Tryz.prog 37 0 [.agg [.lit (.int .i64 x1), .lit (.int .i64 x2), .lit (.int .i64 x3), .lit (.string x4), .lit (.bool x5), .lit (.int .i64 x6)]] Mem.nil (fun o M => o = .ret (.agg [.lit (.int .i64 x7), .lit (.int .i64 x8), .lit (.int .i64 x9), .lit (.string x10), .lit (.bool x11), .lit (.int .i64 x12)]) ∧ M = (Mem.nil.push (.cells 29 [.lit (.int .i64 x7), .lit (.int .i64 x8), .lit (.int .i64 x9), .lit (.string x10), .lit (.bool x11), .lit (.int .i64 x12)]))) := by
 unfold g_rv_Num at H
 refine bo Tryz.func37 [(29, 6)] [.cell 2 29] 64 fun cx hnp => ?_
 iterate 6 refine sp ?_
 obtain ⟨⟨x13, x14, x15, x16, x17, x18⟩, h1, H⟩ := bnd H
 refine WPL.c (rc [] [2] 3 [] (s_rv_clean k x1 x2 x3 x4 x5 x6 x13 x14 x15 x16 x17 x18 h1)) rfl ?_
 iterate 2 refine sp ?_
 refine WP.seq ?_
 iterate 9 refine sp ?_
 refine cd H (fun hb1 H => ?_) fun hb1 H => ?_
 · iterate 2 refine sp ?_
   obtain ⟨⟨x19, x20, x21, x22⟩, h2, H⟩ := bnd H
   refine WPL.c (rc [] [3] 4 [] (s_rv_Of k 0 0 0 x19 x20 x21 x22 h2)) rfl ?_
   iterate 3 refine sp ?_
   obtain ⟨rfl, rfl, rfl, rfl, rfl, rfl⟩ := j6 H
   exact W.now (InBlock.r (Then.r (mb [1])))
 iterate 4 refine sp ?_
 refine cd H (fun hb2 H => ?_) fun hb2 H => ?_
 · refine WP.seq ?_
   iterate 4 refine sp ?_
   refine cd H (fun hb3 H => ?_) fun hb3 H => ?_
   · iterate 2 refine sp ?_
     obtain ⟨⟨x23, x24, x25, x26⟩, h3, H⟩ := bnd H
     refine WPL.c (rc [] [3] 4 [] (s_rv_Of k 1 0 0 x23 x24 x25 x26 h3)) rfl ?_
     iterate 3 refine sp ?_
     obtain ⟨rfl, rfl, rfl, rfl, rfl, rfl⟩ := j6 H
     exact W.now (Then.r (InBlock.r (Then.r (mb [1]))))
   iterate 5 refine sp ?_
   obtain ⟨⟨x27, x28, x29, x30⟩, h4, H⟩ := bnd H
   refine WPL.c (rc [] [3] 4 [] (s_rv_Of k 0 0 0 x27 x28 x29 x30 h4)) rfl ?_
   iterate 3 refine sp ?_
   obtain ⟨rfl, rfl, rfl, rfl, rfl, rfl⟩ := j6 H
   exact W.now (InBlock.r (Then.r (mb [1])))
 iterate 4 refine sp ?_
 refine cd H (fun hb4 H => ?_) fun hb4 H => ?_
 · iterate 5 refine sp ?_
   refine WP.seq ?_
   refine sp ?_
   refine WP.cv (Cv.weak (E' := ((Env.none.upd 2 (.ptr 0 0)).upd 3 (.lit (.string x16)))) (M' := (Mem.nil.push (.cells 29 [.lit (.int .i64 0), .lit (.int .i64 0), .lit (.int .i64 0), .lit (.string (ByteArray.mk #[])), .lit (.bool false), .lit (.int .i64 0)]))) [1] hnp ⟨rfl, AA1, by decide, rfl, trivial⟩ (LeE.u (LeE.u (LeE.none rfl rfl)))) ?_
   obtain ⟨x31, H1, H⟩ := bnd H
   refine mo (.exit 1) ((Env.none.upd 2 (.ptr 0 0)).upd 3 (.lit (.string x31))) (Mem.nil.push (.cells 29 [.lit (.int .i64 0), .lit (.int .i64 0), .lit (.int .i64 0), .lit (.string (ByteArray.mk #[])), .lit (.bool false), .lit (.int .i64 0)])) ?_ ?_
   · refine WP.loop (β := ByteArray) (fun n b => g_rv_Num_l0 k n b = some x31) (fun b => ((Env.none.upd 2 (.ptr 0 0)).upd 3 (.lit (.string b)))) (fun b => (Mem.nil.push (.cells 29 [.lit (.int .i64 0), .lit (.int .i64 0), .lit (.int .i64 0), .lit (.string (ByteArray.mk #[])), .lit (.bool false), .lit (.int .i64 0)]))) k x16 H1 rfl rfl ?_
     rintro n x32 H
     obtain _ | n := n
     · exact nf rfl H
     rw [g_rv_Num_l0.eq_2] at H
     show WP _ _ _ _ ((Env.none.upd 2 (.ptr 0 0)).upd 3 (.lit (.string x32))) (Mem.nil.push (.cells 29 [.lit (.int .i64 0), .lit (.int .i64 0), .lit (.int .i64 0), .lit (.string (ByteArray.mk #[])), .lit (.bool false), .lit (.int .i64 0)])) _
     refine WP.seq ?_
     refine WP.seq ?_
     obtain ⟨x33, H2, H⟩ := bnd H
     refine mo .normal (((Env.none.upd 2 (.ptr 0 0)).upd 3 (.lit (.string x32))).upd 33 (.lit (.bool x33))) (Mem.nil.push (.cells 29 [.lit (.int .i64 0), .lit (.int .i64 0), .lit (.int .i64 0), .lit (.string (ByteArray.mk #[])), .lit (.bool false), .lit (.int .i64 0)])) ?_ ?_
     · clear H
       have H := H2
       clear H2
       iterate 3 refine sp ?_
       obtain ⟨x34, h5, H⟩ := bnd H
       refine sn (nm_bool h5) ?_
       refine sp ?_
       refine ws 29 H (fun hb5 H => ?_) fun hb5 H => ?_
       · refine sp ?_
         obtain ⟨x35, h6, H⟩ := bnd H
         iterate 3 refine sp ?_
         refine WPL.nilW ?_
         have q0 := j1 H
         subst q0
         exact wq [0]
       iterate 4 refine sp ?_
       refine WPL.nilW ?_
       have q0 := j1 H
       subst q0
       exact wq [0]
     iterate 2 refine sp ?_
     refine cd H (fun hb6 H => ?_) fun hb6 H => ?_
     · iterate 6 refine sp ?_
       obtain ⟨h7, H⟩ := grd H
       obtain ⟨x36, h8, H⟩ := bnd H
       refine WPL.qq (q_nm (q_slice_str (i := 1) (j := ((ByteArray.size x32 : Nat) : Int)) Tryz.underlying9 rfl ⟨_, rfl⟩ rfl h7) (nm_str h8)) ?_
       refine sp ?_
       refine WPL.nilW ?_
       exact wq [0] (InBlock.n (Then.n ⟨n, x36, Nat.lt_succ_self n, H, rfl, rfl⟩))
     refine sp ?_
     have q0 := j1 H
     subst q0
     exact wq [0] (Then.x (Then.x r3))
   iterate 3 refine sp ?_
   refine WP.seq ?_
   refine sp ?_
   refine WP.cv (Cv.weak (E' := ((Env.none.upd 2 (.ptr 0 0)).upd 3 (.lit (.string x31)))) (M' := (Mem.nil.push (.cells 29 [.lit (.int .i64 0), .lit (.int .i64 0), .lit (.int .i64 0), .lit (.string (ByteArray.mk #[])), .lit (.bool false), .lit (.int .i64 0)]))) [0] hnp ⟨rfl, AA1, by decide, rfl, trivial⟩ (LeE.u (LeE.u (LeE.none rfl rfl)))) ?_
   obtain ⟨x37, H3, H⟩ := bnd H
   refine mo (.exit 3) ((Env.none.upd 2 (.ptr 0 0)).upd 3 (.lit (.string x37))) (Mem.nil.push (.cells 29 [.lit (.int .i64 0), .lit (.int .i64 0), .lit (.int .i64 0), .lit (.string (ByteArray.mk #[])), .lit (.bool false), .lit (.int .i64 0)])) ?_ ?_
   · refine WP.loop (β := ByteArray) (fun n b => g_rv_Num_l1 k n b = some x37) (fun b => ((Env.none.upd 2 (.ptr 0 0)).upd 3 (.lit (.string b)))) (fun b => (Mem.nil.push (.cells 29 [.lit (.int .i64 0), .lit (.int .i64 0), .lit (.int .i64 0), .lit (.string (ByteArray.mk #[])), .lit (.bool false), .lit (.int .i64 0)]))) k x31 H3 rfl rfl ?_
     rintro n x38 H
     obtain _ | n := n
     · exact nf rfl H
     rw [g_rv_Num_l1.eq_2] at H
     show WP _ _ _ _ ((Env.none.upd 2 (.ptr 0 0)).upd 3 (.lit (.string x38))) (Mem.nil.push (.cells 29 [.lit (.int .i64 0), .lit (.int .i64 0), .lit (.int .i64 0), .lit (.string (ByteArray.mk #[])), .lit (.bool false), .lit (.int .i64 0)])) _
     refine WP.seq ?_
     refine WP.seq ?_
     obtain ⟨x39, H4, H⟩ := bnd H
     refine mo .normal (((Env.none.upd 2 (.ptr 0 0)).upd 3 (.lit (.string x38))).upd 46 (.lit (.bool x39))) (Mem.nil.push (.cells 29 [.lit (.int .i64 0), .lit (.int .i64 0), .lit (.int .i64 0), .lit (.string (ByteArray.mk #[])), .lit (.bool false), .lit (.int .i64 0)])) ?_ ?_
     · clear H
       have H := H4
       clear H4
       iterate 3 refine sp ?_
       obtain ⟨x40, h9, H⟩ := bnd H
       refine sn (nm_bool h9) ?_
       refine sp ?_
       refine ws 39 H (fun hb7 H => ?_) fun hb7 H => ?_
       · iterate 3 refine sp ?_
         obtain ⟨x41, h10, H⟩ := bnd H
         refine sn (nm_int h10) ?_
         obtain ⟨x42, h11, H⟩ := bnd H
         iterate 3 refine sp ?_
         refine WPL.nilW ?_
         have q0 := j1 H
         subst q0
         exact wq [0]
       iterate 7 refine sp ?_
       refine WPL.nilW ?_
       have q0 := j1 H
       subst q0
       exact wq [0]
     iterate 2 refine sp ?_
     refine cd H (fun hb8 H => ?_) fun hb8 H => ?_
     · iterate 8 refine sp ?_
       obtain ⟨x43, h12, H⟩ := bnd H
       refine sn (nm_int h12) ?_
       obtain ⟨h12, H⟩ := grd H
       refine WPL.qq (q_slice_str (i := 0) (j := x43) Tryz.underlying9 rfl rfl ⟨_, rfl⟩ h12) ?_
       refine sp ?_
       refine WPL.nilW ?_
       exact wq [0] (InBlock.n (Then.n ⟨n, (ByteArray.extract x38 (Int.toNat 0) (Int.toNat x43)), Nat.lt_succ_self n, H, rfl, rfl⟩))
     refine sp ?_
     have q0 := j1 H
     subst q0
     exact wq [0] (Then.x (Then.x r3))
   iterate 5 refine sp ?_
   obtain ⟨⟨x44, x45, x46⟩, h13, H⟩ := bnd H
   refine WPL.c (rc [] [1] 2 [] (s_r9_Parse k x37 x44 x45 x46 h13)) rfl ?_
   iterate 7 refine sp ?_
   refine WP.seq ?_
   iterate 4 refine sp ?_
   refine cd H (fun hb9 H => ?_) fun hb9 H => ?_
   · refine sp ?_
     obtain ⟨x47, h14, H⟩ := bnd H
     refine WPL.c (rc [] [3] 4 [] (s_rv_Err k 2 x47 h14)) rfl ?_
     iterate 3 refine sp ?_
     obtain ⟨rfl, rfl, rfl, rfl, rfl, rfl⟩ := j6 H
     exact W.now (Then.r (InBlock.r (Then.r (mb [0]))))
   iterate 6 refine sp ?_
   obtain ⟨⟨x48, x49, x50, x51⟩, h15, H⟩ := bnd H
   refine WPL.c (rc [] [3] 4 [] (s_rv_Of k x45 x46 x44 x48 x49 x50 x51 h15)) rfl ?_
   iterate 3 refine sp ?_
   obtain ⟨rfl, rfl, rfl, rfl, rfl, rfl⟩ := j6 H
   exact W.now (InBlock.r (Then.r (mb [0])))
 iterate 2 refine sp ?_
 refine InBlock.n ?_
 iterate 6 refine sp ?_
 obtain ⟨rfl, rfl, rfl, rfl, rfl, rfl⟩ := j6 H
 exact W.now (mb [1])
theorem s_r9_num (k : Nat) (x1 : Int) (x2 : Int) (x3 : Bool) (x4 : (List Int)) (H : g_r9_num k x1 x2 = some (x3, x4)) : Go.Q.Spec Tryz.prog 115 0 [.agg [.lit (.int .i64 x1), .lit (.int .i64 x2)]] Mem.nil (fun o M => o = .ret (.tup [.agg [.lit (.bool (decide (x1 < 0))), .ro (Rd.slice (Rd.int .i64)) false x4, .lit (.int .i64 x2)], .lit (.bool x3)]) ∧ M = (Mem.nil.push (.cells 81 [.lit (.bool (decide (x1 < 0))), .ro (Rd.slice (Rd.int .i64)) false x4, .lit (.int .i64 x2)]))) := by
 unfold g_r9_num at H
 refine bo Tryz.func115 [(81, 3)] [.cell 2 81, .tmp 3] 18 fun cx hnp => ?_
 iterate 5 refine sp ?_
 refine WP.seq ?_
 obtain ⟨⟨x5, x6⟩, H1, H⟩ := bnd H
 refine mo .normal ((Env.none.upd 2 (.ptr 0 0)).upd 3 (.lit (.bool x5))) (Mem.nil.push (.cells 81 [.lit (.bool (decide (x1 < 0))), .ro (Rd.slice (Rd.int .i64)) false x6, .lit (.int .i64 x2)])) ?_ ?_
 · clear H
   have H := H1
   clear H1
   refine WP.regionD' 16 [0] [] mixed rfl ?_
   refine dT 0 ?_
   refine dT 3 ?_
   refine dT 6 ?_
   refine dK 1 ?_
   refine dK 4 ?_
   refine dK 7 ?_
   refine dT 8 ?_
   obtain ⟨x7, h1, H⟩ := bnd H
   refine dE 2 [0] [] rfl (rc [] [2] 3 [] (s_r9_Of k x1 x7 h1)) ?_
   refine dT 5 ?_
   refine dT 9 ?_
   refine ds 13 H (fun hb1 H => ?_) fun hb1 H => ?_
   · refine dG 10 ?_
     refine dH 11 ?_
     refine dG 12 ?_
     refine dT 13 ?_
     refine dS 14 [0] [] ?_
     refine dT 15 ?_
     refine WPD.doneW (by kernel_rfl) ?_
     obtain ⟨rfl, rfl⟩ := j2 H
     exact wq [1]
   refine dP false 10 ?_
   refine dP false 11 ?_
   refine dP false 12 ?_
   refine dT 13 ?_
   refine dS 14 [0] [] ?_
   refine dT 15 ?_
   refine WPD.doneW (by kernel_rfl) ?_
   obtain ⟨rfl, rfl⟩ := j2 H
   exact wq [1]
 iterate 3 refine sp ?_
 obtain ⟨rfl, rfl⟩ := j2 H
 exact W.now (mb [0])
end Go.Proofs.YthpcgknknpjpdaaGreatDoor.W
namespace Go.Proofs.YthpcgknknpjpdaaGreatDoor.W
open Go Go.Q Go.Proofs
set_option linter.unusedVariables false
set_option linter.unusedSimpArgs false
set_option maxRecDepth 100000
set_option maxHeartbeats 4000000
theorem s_r6_turned (k : Nat) (x1 : ByteArray) (x2 : Int) (x3 : Int) (x4 : ByteArray) (H : g_r6_turned k x1 x2 x3 = some x4) : Go.Q.Spec Tryz.prog 120 0 [.lit (.string x1), .lit (.int .u8 x2), .lit (.int .u8 x3)] Mem.nil (fun o M => o = .ret (.lit (.string x4)) ∧ M = Mem.nil) := by
 unfold g_r6_turned at H
 refine bo Tryz.func120 [] [.tmp 6] 37 fun cx hnp => ?_
 iterate 6 refine sp ?_
 refine WP.seq ?_
 iterate 4 refine sp ?_
 refine WP.cv (Cv.vir 5 (Rd.int .u8) (N := 0) rfl 7 rfl) ?_
 refine WP.cv (Cv.weak (E' := (((((Env.none.upd 0 (.lit (.string x1))).upd 1 (.lit (.int .u8 x2))).upd 2 (.lit (.int .u8 x3))).upd 7 (.whole 0)).upd 8 (.lit (.int .i64 0)))) (M' := (Mem.nil.push (.row 5 (Rd.int .u8) ([] : List Int)))) [0] hnp ⟨rfl, AA1, by decide, rfl, trivial⟩ (LeE.u (LeE.u (LeE.u (LeE.u (LeE.u (LeE.none rfl rfl))))))) ?_
 obtain ⟨x5, H1, H⟩ := bnd H
 refine mo (.exit 0) (Env.none.upd 7 (.whole 0)) (Mem.nil.push (.row 5 (Rd.int .u8) x5)) ?_ ?_
 · refine WP.loop (β := Int × (List Int)) (fun n b => g_r6_turned_l0 k x1 x2 x3 n b.1 b.2 = some x5) (fun b => (((((Env.none.upd 0 (.lit (.string x1))).upd 1 (.lit (.int .u8 x2))).upd 2 (.lit (.int .u8 x3))).upd 7 (.whole 0)).upd 8 (.lit (.int .i64 b.1)))) (fun b => (Mem.nil.push (.row 5 (Rd.int .u8) b.2))) k (0, ([] : List Int)) H1 rfl rfl ?_
   rintro n ⟨x6, x7⟩ H
   obtain _ | n := n
   · exact nf rfl H
   rw [g_r6_turned_l0.eq_2] at H
   show WP _ _ _ _ (((((Env.none.upd 0 (.lit (.string x1))).upd 1 (.lit (.int .u8 x2))).upd 2 (.lit (.int .u8 x3))).upd 7 (.whole 0)).upd 8 (.lit (.int .i64 x6))) (Mem.nil.push (.row 5 (Rd.int .u8) x7)) _
   refine WP.seq ?_
   iterate 4 refine sp ?_
   obtain ⟨x8, h1, H⟩ := bnd H
   refine sn (nm_bool h1) ?_
   refine sp ?_
   refine cd H (fun hb1 H => ?_) fun hb1 H => ?_
   · iterate 3 refine sp ?_
     refine WP.seq ?_
     iterate 4 refine sp ?_
     obtain ⟨x9, h2, H⟩ := bnd H
     iterate 3 refine sp ?_
     refine WP.seq ?_
     obtain ⟨x10, H2, H⟩ := bnd H
     refine mo .normal ((((((Env.none.upd 0 (.lit (.string x1))).upd 1 (.lit (.int .u8 x2))).upd 2 (.lit (.int .u8 x3))).upd 7 (.whole 0)).upd 8 (.lit (.int .i64 x6))).upd 9 (.lit (.int .u8 x10))) (Mem.nil.push (.row 5 (Rd.int .u8) x7)) ?_ ?_
     · clear H
       have H := H2
       clear H2
       refine WP.seq ?_
       obtain ⟨x11, H3, H⟩ := bnd H
       refine mo .normal (((((((Env.none.upd 0 (.lit (.string x1))).upd 1 (.lit (.int .u8 x2))).upd 2 (.lit (.int .u8 x3))).upd 7 (.whole 0)).upd 8 (.lit (.int .i64 x6))).upd 9 (.lit (.int .u8 x9))).upd 27 (.lit (.bool x11))) (Mem.nil.push (.row 5 (Rd.int .u8) x7)) ?_ ?_
       · clear H
         have H := H3
         clear H3
         iterate 5 refine sp ?_
         refine ws 22 H (fun hb2 H => ?_) fun hb2 H => ?_
         · iterate 3 refine sp ?_
           obtain ⟨x12, h3, H⟩ := bnd H
           refine sn (nm_bool h3) ?_
           refine sp ?_
           refine WPL.nilW ?_
           have q0 := j1 H
           subst q0
           exact wq [0]
         iterate 5 refine sp ?_
         refine WPL.nilW ?_
         have q0 := j1 H
         subst q0
         exact wq [0]
       iterate 2 refine sp ?_
       refine cd H (fun hb3 H => ?_) fun hb3 H => ?_
       · iterate 5 refine sp ?_
         refine WPL.nilW ?_
         have q0 := j1 H
         subst q0
         exact wq [0]
       refine sp ?_
       have q0 := j1 H
       subst q0
       exact wq [0]
     iterate 5 refine sp ?_
     refine WPL.d (d_buildSlice (ds := ([x10] : List Int)) (R := (Rd.int .u8)) li104 rfl rfl rfl rfl rfl (JoinRows.cons1 Joins.sc rfl JoinRows.nil) rfl rfl) rfl ?_
     obtain ⟨h4, H⟩ := grd H
     refine WPL.d (d_append ap104 rfl rfl rfl rfl (src_row sl104 rfl rfl) h4 rfl) rfl ?_
     refine sp ?_
     refine WPL.nilW ?_
     refine sp ?_
     refine InBlock.n ?_
     iterate 5 refine sp ?_
     refine WPL.nilW ?_
     exact wq [2] (Then.n ⟨n, ((IntKind.wrap .i64 (x6 + 1)), (x7 ++ ([x10] : List Int))), Nat.lt_succ_self n, H, rfl, rfl⟩)
   refine sp ?_
   have q0 := j1 H
   subst q0
   exact wq [0] (Then.x (Then.x r3))
 iterate 5 refine sp ?_
 refine WPL.qq (q_bytes_str_row Tryz.underlying104 Tryz.underlying5 Tryz.underlying9 rfl rfl) ?_
 iterate 3 refine sp ?_
 have q0 := j1 H
 subst q0
 exact W.now (mb [])
end Go.Proofs.YthpcgknknpjpdaaGreatDoor.W
namespace Go.Proofs.YthpcgknknpjpdaaGreatDoor.W
open Go Go.Q Go.Proofs
set_option linter.unusedVariables false
set_option linter.unusedSimpArgs false
set_option maxRecDepth 100000
set_option maxHeartbeats 4000000
theorem s_rv_word (k : Nat) (x1 : Bool) (x2 : ByteArray) (H : g_rv_word k x1 = some x2) : Go.Q.Spec Tryz.prog 77 0 [.lit (.bool x1)] Mem.nil (fun o M => o = .ret (.lit (.string x2)) ∧ M = Mem.nil) := by
 unfold g_rv_word at H
 refine bo Tryz.func77 [] [.tmp 2] 4 fun cx hnp => ?_
 iterate 3 refine sp ?_
 refine WP.seq ?_
 iterate 3 refine sp ?_
 refine cd H (fun hb1 H => ?_) fun hb1 H => ?_
 · iterate 4 refine sp ?_
   have q0 := j1 H
   subst q0
   exact W.now (Then.r (mb []))
 iterate 7 refine sp ?_
 have q0 := j1 H
 subst q0
 exact W.now (mb [])
theorem s_r9_Make (k : Nat) (x1 : Int) (x2 : Int) (x3 : Int) (x4 : Int) (x5 : Int) (H : g_r9_Make k x1 x2 = some (x3, x4, x5)) : Go.Q.Spec Tryz.prog 129 0 [.lit (.int .i64 x1), .lit (.int .i64 x2)] Mem.nil (fun o M => o = .ret (.tup [.agg [.lit (.int .i64 x4), .lit (.int .i64 x5)], .lit (.int .i64 x3)]) ∧ M = (Mem.nil.push (.cells 23 [.lit (.int .i64 x4), .lit (.int .i64 x5)]))) := by
 unfold g_r9_Make at H
 refine bo Tryz.func129 [(23, 2)] [.cell 4 23, .tmp 5] 23 fun cx hnp => ?_
 iterate 4 refine sp ?_
 refine WP.seq ?_
 iterate 4 refine sp ?_
 refine cd H (fun hb1 H => ?_) fun hb1 H => ?_
 · iterate 6 refine sp ?_
   obtain ⟨rfl, rfl, rfl⟩ := j3 H
   exact W.now (Then.r (mb [0]))
 iterate 3 refine sp ?_
 refine WP.seq ?_
 refine WP.seq ?_
 obtain ⟨x6, H1, H⟩ := bnd H
 refine mo .normal ((((Env.none.upd 0 (.lit (.int .i64 x1))).upd 1 (.lit (.int .i64 x2))).upd 4 (.ptr 0 0)).upd 14 (.lit (.bool x6))) (Mem.nil.push (.cells 23 [.lit (.int .i64 0), .lit (.int .i64 0)])) ?_ ?_
 · clear H
   have H := H1
   clear H1
   iterate 4 refine sp ?_
   refine ws 11 H (fun hb2 H => ?_) fun hb2 H => ?_
   · iterate 3 refine sp ?_
     refine WPL.nilW ?_
     have q0 := j1 H
     subst q0
     exact wq [0]
   iterate 3 refine sp ?_
   refine WPL.nilW ?_
   have q0 := j1 H
   subst q0
   exact wq [0]
 iterate 2 refine sp ?_
 refine cd H (fun hb3 H => ?_) fun hb3 H => ?_
 · iterate 6 refine sp ?_
   obtain ⟨rfl, rfl, rfl⟩ := j3 H
   exact W.now (Then.r (mb [0]))
 iterate 5 refine sp ?_
 obtain ⟨x7, h1, H⟩ := bnd H
 refine WPL.c (rc [] [1] 2 [] (s_r9_Of k x1 x7 h1)) rfl ?_
 iterate 2 refine sp ?_
 obtain ⟨⟨x8, x9, x10⟩, h2, H⟩ := bnd H
 refine WPL.c (rc [] [2] 3 [] (s_r9_Tell k (decide (x1 < 0)) x7 x2 x8 x9 x10 h2)) rfl ?_
 iterate 6 refine sp ?_
 obtain ⟨rfl, rfl, rfl⟩ := j3 H
 exact W.now (mb [0])
theorem s_r9_Print (k : Nat) (x1 : Int) (x2 : Int) (x3 : ByteArray) (H : g_r9_Print k x1 x2 = some x3) : Go.Q.Spec Tryz.prog 78 0 [.agg [.lit (.int .i64 x1), .lit (.int .i64 x2)]] Mem.nil (fun o M => o = .ret (.lit (.string x3)) ∧ M = Mem.nil) := by
 unfold g_r9_Print at H
 refine bo Tryz.func78 [] [.tmp 2] 90 fun cx hnp => ?_
 iterate 9 refine sp ?_
 obtain ⟨⟨x4, x5, x6⟩, h1, H⟩ := bnd H
 refine WPL.c (rc [] [1] 2 [] (s_r9_Make k x1 x2 x4 x5 x6 h1)) rfl ?_
 iterate 7 refine sp ?_
 refine WP.seq ?_
 iterate 2 refine sp ?_
 obtain ⟨⟨x7, x8⟩, h2, H⟩ := bnd H
 refine WPL.c (rc [] [3] 4 [] (s_r9_num k x1 x2 x7 x8 h2)) rfl ?_
 iterate 7 refine sp ?_
 refine WP.seq ?_
 obtain ⟨x9, H1, H⟩ := bnd H
 refine mo .normal ((Env.none.upd 3 (.ptr 0 0)).upd 30 (.lit (.bool x9))) (Mem.nil.push (.cells 23 [.lit (.int .i64 x5), .lit (.int .i64 x6)])) ?_ ?_
 · clear H
   have H := H1
   clear H1
   iterate 4 refine sp ?_
   refine ws 27 H (fun hb1 H => ?_) fun hb1 H => ?_
   · iterate 3 refine sp ?_
     refine WPL.nilW ?_
     have q0 := j1 H
     subst q0
     exact wq [2]
   iterate 3 refine sp ?_
   refine WPL.nilW ?_
   have q0 := j1 H
   subst q0
   exact wq [2]
 iterate 2 refine sp ?_
 refine cd H (fun hb2 H => ?_) fun hb2 H => ?_
 · iterate 4 refine sp ?_
   have q0 := j1 H
   subst q0
   exact W.now (Then.r (mb []))
 iterate 5 refine sp ?_
 obtain ⟨⟨x10, x11⟩, h3, H⟩ := bnd H
 refine WPL.c (rc [] [1] 2 [] (s_r9_num k x5 x6 x10 x11 h3)) rfl ?_
 iterate 7 refine sp ?_
 refine WP.seq ?_
 refine sp ?_
 refine WP.cv (Cv.weak (E' := (Env.none.upd 7 (.ptr 0 0))) (M' := (Mem.nil.push (.cells 81 [.lit (.bool (decide (x5 < 0))), .ro (Rd.slice (Rd.int .i64)) false x11, .lit (.int .i64 x6)]))) [2] hnp ⟨rfl, AA1, by decide, rfl, trivial⟩ (LeE.u (LeE.none rfl rfl))) ?_
 obtain ⟨⟨x12, x13, x14⟩, H2, H⟩ := bnd H
 refine mo (.exit 0) (Env.none.upd 7 (.ptr 0 0)) (Mem.nil.push (.cells 81 [.lit (.bool x12), .ro (Rd.slice (Rd.int .i64)) false x13, .lit (.int .i64 x14)])) ?_ ?_
 · refine WP.loop (β := Bool × (List Int) × Int) (fun n b => g_r9_Print_l0 k n b.1 b.2.1 b.2.2 = some (x12, x13, x14)) (fun b => (Env.none.upd 7 (.ptr 0 0))) (fun b => (Mem.nil.push (.cells 81 [.lit (.bool b.1), .ro (Rd.slice (Rd.int .i64)) false b.2.1, .lit (.int .i64 b.2.2)]))) k ((decide (x5 < 0)), x11, x6) H2 rfl rfl ?_
   rintro n ⟨x15, x16, x17⟩ H
   obtain _ | n := n
   · exact nf rfl H
   rw [g_r9_Print_l0.eq_2] at H
   show WP _ _ _ _ (Env.none.upd 7 (.ptr 0 0)) (Mem.nil.push (.cells 81 [.lit (.bool x15), .ro (Rd.slice (Rd.int .i64)) false x16, .lit (.int .i64 x17)])) _
   refine WP.seq ?_
   iterate 5 refine sp ?_
   refine cd H (fun hb3 H => ?_) fun hb3 H => ?_
   · iterate 4 refine sp ?_
     refine WP.regionD' 8 [0] [7] mixed rfl ?_
     refine dT 0 ?_
     refine dT 3 ?_
     refine dK 1 ?_
     refine dK 4 ?_
     refine dT 5 ?_
     obtain ⟨⟨x18, x19⟩, h4, H⟩ := bnd H
     refine dE 2 [0] [7] rfl (rc [] [1] 2 [] (s_r9_Shift k x15 x16 1 x18 x19 h4)) ?_
     refine dT 6 ?_
     refine dS 7 [] [] ?_
     refine WPD.doneW (by kernel_rfl) ?_
     exact wq [0] (InBlock.n (Then.n ⟨n, (x18, x19, (IntKind.wrap .i64 (x17 - 1))), Nat.lt_succ_self n, H, rfl, rfl⟩))
   refine sp ?_
   obtain ⟨rfl, rfl, rfl⟩ := j3 H
   exact wq [0] (Then.x (Then.x r3))
 iterate 6 refine sp ?_
 refine WP.seq ?_
 obtain ⟨x20, H3, H⟩ := bnd H
 refine mo .normal ((Env.none.upd 7 (.ptr 0 0)).upd 9 (.whole 1)) ((Mem.nil.push (.cells 81 [.lit (.bool x12), .ro (Rd.slice (Rd.int .i64)) false x13, .lit (.int .i64 x14)])).push (.row 5 (Rd.int .u8) x20)) ?_ ?_
 · clear H
   have H := H3
   clear H3
   iterate 5 refine sp ?_
   refine cd H (fun hb4 H => ?_) fun hb4 H => ?_
   · iterate 2 refine sp ?_
     refine WPL.d (d_buildSlice (ds := ([45] : List Int)) (R := (Rd.int .u8)) li104 rfl rfl rfl rfl rfl (JoinRows.cons1 Joins.sc rfl JoinRows.nil) rfl rfl) rfl ?_
     obtain ⟨h5, H⟩ := grd H
     refine WPL.cv (Cv.vir 5 (Rd.int .u8) (N := 2) rfl 49 rfl) ?_
     refine WPL.d (d_append ap104 rfl rfl rfl rfl (src_row sl104 rfl rfl) h5 rfl) rfl ?_
     refine sp ?_
     refine WPL.nilW ?_
     have q0 := j1 H
     subst q0
     exact wq [0, 3]
   refine sp ?_
   refine W.cv (Cv.vir 5 (Rd.int .u8) (N := 1) rfl 9 rfl) rfl ?_
   have q0 := j1 H
   subst q0
   exact wq [0, 1]
 iterate 9 refine sp ?_
 refine WP.seq ?_
 obtain ⟨x21, H4, H⟩ := bnd H
 refine mo .normal (((Env.none.upd 7 (.ptr 0 0)).upd 9 (.whole 1)).upd 10 (.lit (.int .i64 x21))) ((Mem.nil.push (.cells 81 [.lit (.bool x12), .ro (Rd.slice (Rd.int .i64)) false x13, .lit (.int .i64 x14)])).push (.row 5 (Rd.int .u8) x20)) ?_ ?_
 · clear H
   have H := H4
   clear H4
   iterate 5 refine sp ?_
   obtain ⟨x22, h6, H⟩ := bnd H
   refine sn (nm_bool h6) ?_
   refine sp ?_
   refine cd H (fun hb5 H => ?_) fun hb5 H => ?_
   · iterate 5 refine sp ?_
     refine WPL.nilW ?_
     have q0 := j1 H
     subst q0
     exact wq [0, 1]
   refine sp ?_
   have q0 := j1 H
   subst q0
   exact wq [0, 1]
 iterate 2 refine sp ?_
 refine WP.seq ?_
 iterate 6 refine sp ?_
 refine WP.cv (Cv.weak (E' := (((Env.none.upd 7 (.ptr 0 0)).upd 9 (.whole 1)).upd 11 (.lit (.int .i64 (IntKind.wrap .i64 (x21 - 1)))))) (M' := ((Mem.nil.push (.cells 81 [.lit (.bool x12), .ro (Rd.slice (Rd.int .i64)) false x13, .lit (.int .i64 x14)])).push (.row 5 (Rd.int .u8) x20))) [0, 1] hnp ⟨rfl, AA2, by decide, rfl, trivial⟩ (LeE.u (LeE.u (LeE.u (LeE.none rfl rfl))))) ?_
 obtain ⟨x23, H5, H⟩ := bnd H
 refine mo (.exit 2) (Env.none.upd 9 (.whole 0)) (Mem.nil.push (.row 5 (Rd.int .u8) x23)) ?_ ?_
 · refine WP.loop (β := Int × (List Int)) (fun n b => g_r9_Print_l1 k x12 x13 x14 n b.1 b.2 = some x23) (fun b => (((Env.none.upd 7 (.ptr 0 0)).upd 9 (.whole 1)).upd 11 (.lit (.int .i64 b.1)))) (fun b => ((Mem.nil.push (.cells 81 [.lit (.bool x12), .ro (Rd.slice (Rd.int .i64)) false x13, .lit (.int .i64 x14)])).push (.row 5 (Rd.int .u8) b.2))) k ((IntKind.wrap .i64 (x21 - 1)), x20) H5 rfl rfl ?_
   rintro n ⟨x24, x25⟩ H
   obtain _ | n := n
   · exact nf rfl H
   rw [g_r9_Print_l1.eq_2] at H
   show WP _ _ _ _ (((Env.none.upd 7 (.ptr 0 0)).upd 9 (.whole 1)).upd 11 (.lit (.int .i64 x24))) ((Mem.nil.push (.cells 81 [.lit (.bool x12), .ro (Rd.slice (Rd.int .i64)) false x13, .lit (.int .i64 x14)])).push (.row 5 (Rd.int .u8) x25)) _
   refine WP.seq ?_
   iterate 4 refine sp ?_
   refine cd H (fun hb6 H => ?_) fun hb6 H => ?_
   · iterate 3 refine sp ?_
     refine WP.seq ?_
     refine sp ?_
     refine WP.seq ?_
     obtain ⟨x26, H6, H⟩ := bnd H
     refine mo .normal (((Env.none.upd 7 (.ptr 0 0)).upd 9 (.whole 1)).upd 11 (.lit (.int .i64 x24))) ((Mem.nil.push (.cells 81 [.lit (.bool x12), .ro (Rd.slice (Rd.int .i64)) false x13, .lit (.int .i64 x14)])).push (.row 5 (Rd.int .u8) x26)) ?_ ?_
     · clear H
       have H := H6
       clear H6
       iterate 5 refine sp ?_
       obtain ⟨x27, h7, H⟩ := bnd H
       refine sn (nm_int h7) ?_
       iterate 2 refine sp ?_
       refine cd H (fun hb7 H => ?_) fun hb7 H => ?_
       · iterate 2 refine sp ?_
         refine WPL.d (d_buildSlice (ds := ([46] : List Int)) (R := (Rd.int .u8)) li104 rfl rfl rfl rfl rfl (JoinRows.cons1 Joins.sc rfl JoinRows.nil) rfl rfl) rfl ?_
         obtain ⟨h8, H⟩ := grd H
         refine WPL.d (d_append ap104 rfl rfl rfl rfl (src_row sl104 rfl rfl) h8 rfl) rfl ?_
         refine sp ?_
         refine WPL.nilW ?_
         have q0 := j1 H
         subst q0
         exact wq [0, 3]
       refine sp ?_
       have q0 := j1 H
       subst q0
       exact wq [0, 1]
     iterate 7 refine sp ?_
     obtain ⟨x28, h9, H⟩ := bnd H
     refine WPL.c (rc [] [] 2 [] (s_r9_at k x12 x13 x24 x28 h9)) rfl ?_
     refine sp ?_
     obtain ⟨x29, h10, H⟩ := bnd H
     refine sn (nm_int h10) ?_
     refine WPL.d (d_buildSlice (ds := ([x29] : List Int)) (R := (Rd.int .u8)) li104 rfl rfl rfl rfl rfl (JoinRows.cons1 Joins.sc rfl JoinRows.nil) rfl rfl) rfl ?_
     obtain ⟨h10, H⟩ := grd H
     refine WPL.d (d_append ap104 rfl rfl rfl rfl (src_row sl104 rfl rfl) h10 rfl) rfl ?_
     refine sp ?_
     refine WPL.nilW ?_
     refine sp ?_
     refine InBlock.n ?_
     iterate 5 refine sp ?_
     refine WPL.nilW ?_
     exact wq [0, 3] (Then.n ⟨n, ((IntKind.wrap .i64 (x24 - 1)), (x26 ++ ([x29] : List Int))), Nat.lt_succ_self n, H, rfl, rfl⟩)
   refine sp ?_
   have q0 := j1 H
   subst q0
   exact wq [1] (Then.x (Then.x r3))
 iterate 5 refine sp ?_
 refine WPL.qq (q_bytes_str_row Tryz.underlying104 Tryz.underlying5 Tryz.underlying9 rfl rfl) ?_
 iterate 3 refine sp ?_
 have q0 := j1 H
 subst q0
 exact W.now (mb [])
theorem s_rv_Text (k : Nat) (x1 : Int) (x2 : Int) (x3 : Int) (x4 : ByteArray) (x5 : Bool) (x6 : Int) (x7 : Int) (x8 : Int) (x9 : Int) (x10 : ByteArray) (x11 : Bool) (x12 : Int) (H : g_rv_Text k x1 x2 x3 x4 x5 x6 = some (x7, x8, x9, x10, x11, x12)) : Go.Q.Spec Tryz.prog 39 0 [.agg [.lit (.int .i64 x1), .lit (.int .i64 x2), .lit (.int .i64 x3), .lit (.string x4), .lit (.bool x5), .lit (.int .i64 x6)]] Mem.nil (fun o M => o = .ret (.agg [.lit (.int .i64 x7), .lit (.int .i64 x8), .lit (.int .i64 x9), .lit (.string x10), .lit (.bool x11), .lit (.int .i64 x12)]) ∧ M = (Mem.nil.push (.cells 29 [.lit (.int .i64 x7), .lit (.int .i64 x8), .lit (.int .i64 x9), .lit (.string x10), .lit (.bool x11), .lit (.int .i64 x12)]))) := by
 unfold g_rv_Text at H
 refine bo Tryz.func39 [(29, 6)] [.cell 2 29] 23 fun cx hnp => ?_
 iterate 6 refine sp ?_
 obtain ⟨⟨x13, x14, x15, x16, x17, x18⟩, h1, H⟩ := bnd H
 refine WPL.c (rc [] [2] 3 [] (s_rv_clean k x1 x2 x3 x4 x5 x6 x13 x14 x15 x16 x17 x18 h1)) rfl ?_
 iterate 2 refine sp ?_
 refine WP.seq ?_
 iterate 9 refine sp ?_
 refine cd H (fun hb1 H => ?_) fun hb1 H => ?_
 · refine sp ?_
   obtain ⟨⟨x19, x20, x21⟩, h2, H⟩ := bnd H
   refine WPL.c (rc [] [3] 4 [] (s_rv_Str k (ByteArray.mk #[]) x19 x20 x21 h2)) rfl ?_
   iterate 3 refine sp ?_
   obtain ⟨rfl, rfl, rfl, rfl, rfl, rfl⟩ := j6 H
   exact W.now (InBlock.r (Then.r (mb [1])))
 iterate 4 refine sp ?_
 refine cd H (fun hb2 H => ?_) fun hb2 H => ?_
 · iterate 3 refine sp ?_
   obtain ⟨x22, h3, H⟩ := bnd H
   refine WPL.c (rc [] [] 3 [] (s_rv_word k x17 x22 h3)) rfl ?_
   obtain ⟨⟨x23, x24, x25⟩, h4, H⟩ := bnd H
   refine WPL.c (rc [] [3] 4 [] (s_rv_Str k x22 x23 x24 x25 h4)) rfl ?_
   iterate 3 refine sp ?_
   obtain ⟨rfl, rfl, rfl, rfl, rfl, rfl⟩ := j6 H
   exact W.now (InBlock.r (Then.r (mb [1])))
 iterate 4 refine sp ?_
 refine cd H (fun hb3 H => ?_) fun hb3 H => ?_
 · iterate 3 refine sp ?_
   obtain ⟨x26, h5, H⟩ := bnd H
   refine WPL.c (rc [] [] 3 [] (s_r9_Print k x14 x15 x26 h5)) rfl ?_
   obtain ⟨⟨x27, x28, x29⟩, h6, H⟩ := bnd H
   refine WPL.c (rc [] [3] 4 [] (s_rv_Str k x26 x27 x28 x29 h6)) rfl ?_
   iterate 3 refine sp ?_
   obtain ⟨rfl, rfl, rfl, rfl, rfl, rfl⟩ := j6 H
   exact W.now (InBlock.r (Then.r (mb [1])))
 iterate 2 refine sp ?_
 refine InBlock.n ?_
 iterate 6 refine sp ?_
 obtain ⟨rfl, rfl, rfl, rfl, rfl, rfl⟩ := j6 H
 exact W.now (mb [1])
end Go.Proofs.YthpcgknknpjpdaaGreatDoor.W
namespace Go.Proofs.YthpcgknknpjpdaaGreatDoor.W
open Go Go.Q Go.Proofs
set_option linter.unusedVariables false
set_option linter.unusedSimpArgs false
set_option maxRecDepth 100000
set_option maxHeartbeats 4000000
theorem s_val_Text (k : Nat) (x1 : Int) (x2 : Int) (x3 : Int) (x4 : ByteArray) (x5 : Bool) (x6 : Int) (x7 : Int) (x8 : Int) (x9 : Int) (x10 : ByteArray) (x11 : Bool) (x12 : Int) (H : g_val_Text k x1 x2 x3 x4 x5 x6 = some (x7, x8, x9, x10, x11, x12)) : Go.Q.Spec Tryz.prog 38 0 [.agg [.lit (.int .i64 x1), .lit (.int .i64 x2), .lit (.int .i64 x3), .lit (.string x4), .lit (.bool x5), .lit (.int .i64 x6)]] Mem.nil (fun o M => o = .ret (.agg [.lit (.int .i64 x7), .lit (.int .i64 x8), .lit (.int .i64 x9), .lit (.string x10), .lit (.bool x11), .lit (.int .i64 x12)]) ∧ M = (Mem.nil.push (.cells 29 [.lit (.int .i64 x7), .lit (.int .i64 x8), .lit (.int .i64 x9), .lit (.string x10), .lit (.bool x11), .lit (.int .i64 x12)]))) := by
 unfold g_val_Text at H
 refine bo Tryz.func38 [(29, 6)] [.cell 2 29] 12 fun cx hnp => ?_
 iterate 6 refine sp ?_
 obtain ⟨⟨x13, x14, x15, x16, x17, x18⟩, h1, H⟩ := bnd H
 refine WPL.c (rc [] [2] 3 [] (s_val_clean k x1 x2 x3 x4 x5 x6 x13 x14 x15 x16 x17 x18 h1)) rfl ?_
 iterate 2 refine sp ?_
 refine WP.seq ?_
 iterate 5 refine sp ?_
 refine cd H (fun hb1 H => ?_) fun hb1 H => ?_
 · iterate 5 refine sp ?_
   obtain ⟨rfl, rfl, rfl, rfl, rfl, rfl⟩ := j6 H
   exact W.now (Then.r (mb [1]))
 iterate 5 refine sp ?_
 obtain ⟨x19, h2, H⟩ := bnd H
 refine WPL.c (rc [] [] 3 [] (s_val_Show k x13 x14 x15 x16 x17 x18 x19 h2)) rfl ?_
 obtain ⟨⟨x20, x21, x22⟩, h3, H⟩ := bnd H
 refine WPL.c (rc [] [3] 4 [] (s_val_Str k x19 x20 x21 x22 h3)) rfl ?_
 iterate 3 refine sp ?_
 obtain ⟨rfl, rfl, rfl, rfl, rfl, rfl⟩ := j6 H
 exact W.now (mb [1])
theorem s_utf_Upper (k : Nat) (x1 : ByteArray) (x2 : ByteArray) (H : g_utf_Upper k x1 = some x2) : Go.Q.Spec Tryz.prog 79 0 [.lit (.string x1)] Mem.nil (fun o M => o = .ret (.lit (.string x2)) ∧ M = Mem.nil) := by
 unfold g_utf_Upper at H
 refine bo Tryz.func79 [] [.tmp 2] 5 fun cx hnp => ?_
 iterate 5 refine sp ?_
 obtain ⟨x3, h1, H⟩ := bnd H
 refine WPL.c (rc [] [] 0 [] (s_utf_turned k x1 97 122 (-32) x3 h1) (hargs := .ren rfl rfl (.ren rfl rfl (.ren rfl rfl (.ren rfl rfl .nil))))) rfl ?_
 iterate 3 refine sp ?_
 have q0 := j1 H
 subst q0
 exact W.now (mb [])
theorem s_val_Bool (k : Nat) (x1 : Int) (x2 : Int) (x3 : Int) (x4 : ByteArray) (x5 : Bool) (x6 : Int) (x7 : Int) (x8 : Int) (x9 : Int) (x10 : ByteArray) (x11 : Bool) (x12 : Int) (H : g_val_Bool k x1 x2 x3 x4 x5 x6 = some (x7, x8, x9, x10, x11, x12)) : Go.Q.Spec Tryz.prog 40 0 [.agg [.lit (.int .i64 x1), .lit (.int .i64 x2), .lit (.int .i64 x3), .lit (.string x4), .lit (.bool x5), .lit (.int .i64 x6)]] Mem.nil (fun o M => o = .ret (.agg [.lit (.int .i64 x7), .lit (.int .i64 x8), .lit (.int .i64 x9), .lit (.string x10), .lit (.bool x11), .lit (.int .i64 x12)]) ∧ M = (Mem.nil.push (.cells 29 [.lit (.int .i64 x7), .lit (.int .i64 x8), .lit (.int .i64 x9), .lit (.string x10), .lit (.bool x11), .lit (.int .i64 x12)]))) := by
 unfold g_val_Bool at H
 refine bo Tryz.func40 [(29, 6)] [.cell 2 29] 28 fun cx hnp => ?_
 iterate 6 refine sp ?_
 obtain ⟨⟨x13, x14, x15, x16, x17, x18⟩, h1, H⟩ := bnd H
 refine WPL.c (rc [] [2] 3 [] (s_val_clean k x1 x2 x3 x4 x5 x6 x13 x14 x15 x16 x17 x18 h1)) rfl ?_
 iterate 2 refine sp ?_
 refine WP.seq ?_
 iterate 5 refine sp ?_
 refine WP.seq ?_
 obtain ⟨x19, H1, H⟩ := bnd H
 refine mo .normal ((((Env.none.upd 1 (.ptr 0 0)).upd 2 (.ptr 1 0)).upd 6 (.lit (.int .i64 x13))).upd 7 (.lit (.bool x19))) ((Mem.nil.push (.cells 29 [.lit (.int .i64 x13), .lit (.int .i64 x14), .lit (.int .i64 x15), .lit (.string x16), .lit (.bool x17), .lit (.int .i64 x18)])).push (.cells 29 [.lit (.int .i64 0), .lit (.int .i64 0), .lit (.int .i64 0), .lit (.string (ByteArray.mk #[])), .lit (.bool false), .lit (.int .i64 0)])) ?_ ?_
 · clear H
   have H := H1
   clear H1
   iterate 4 refine sp ?_
   refine cd H (fun hb1 H => ?_) fun hb1 H => ?_
   · refine sp ?_
     have q0 := j1 H
     subst q0
     exact wq [0, 1]
   iterate 3 refine sp ?_
   refine WPL.nilW ?_
   have q0 := j1 H
   subst q0
   exact wq [0, 1]
 iterate 2 refine sp ?_
 refine cd H (fun hb2 H => ?_) fun hb2 H => ?_
 · iterate 5 refine sp ?_
   obtain ⟨_, h2, H⟩ := bnd H
   refine WPL.c (rc [] [2] 3 [] (s_val_Truth k (!decide (x14 = 0)) h2)) rfl ?_
   iterate 3 refine sp ?_
   obtain ⟨rfl, rfl, rfl, rfl, rfl, rfl⟩ := j6 H
   exact W.now (InBlock.r (Then.r (mb [1])))
 iterate 4 refine sp ?_
 refine cd H (fun hb3 H => ?_) fun hb3 H => ?_
 · refine WP.seq ?_
   iterate 3 refine sp ?_
   obtain ⟨x20, h3, H⟩ := bnd H
   refine WPL.c (rc [] [] 2 [] (s_utf_Upper k x16 x20 h3)) rfl ?_
   iterate 3 refine sp ?_
   obtain ⟨x21, h4, H⟩ := bnd H
   refine sn (nm_bool h4) ?_
   iterate 2 refine sp ?_
   refine cd H (fun hb4 H => ?_) fun hb4 H => ?_
   · refine sp ?_
     obtain ⟨_, h5, H⟩ := bnd H
     refine WPL.c (rc [] [2] 3 [] (s_val_Truth k true h5)) rfl ?_
     iterate 3 refine sp ?_
     obtain ⟨rfl, rfl, rfl, rfl, rfl, rfl⟩ := j6 H
     exact W.now (InBlock.r (Then.r (InBlock.r (Then.r (mb [1])))))
   refine sp ?_
   obtain ⟨x22, h6, H⟩ := bnd H
   refine sn (nm_bool h6) ?_
   iterate 2 refine sp ?_
   refine cd H (fun hb5 H => ?_) fun hb5 H => ?_
   · refine sp ?_
     obtain ⟨_, h7, H⟩ := bnd H
     refine WPL.c (rc [] [2] 3 [] (s_val_Truth k false h7)) rfl ?_
     iterate 3 refine sp ?_
     obtain ⟨rfl, rfl, rfl, rfl, rfl, rfl⟩ := j6 H
     exact W.now (InBlock.r (Then.r (InBlock.r (Then.r (mb [1])))))
   iterate 2 refine sp ?_
   refine InBlock.n ?_
   iterate 2 refine sp ?_
   obtain ⟨x23, h8, H⟩ := bnd H
   refine WPL.c (rc [] [2] 3 [] (s_val_Err k 2 x23 h8)) rfl ?_
   iterate 3 refine sp ?_
   obtain ⟨rfl, rfl, rfl, rfl, rfl, rfl⟩ := j6 H
   exact W.now (InBlock.r (Then.r (mb [1])))
 iterate 2 refine sp ?_
 refine InBlock.n ?_
 iterate 6 refine sp ?_
 obtain ⟨rfl, rfl, rfl, rfl, rfl, rfl⟩ := j6 H
 exact W.now (mb [1])
theorem s_r6_Upper (k : Nat) (x1 : ByteArray) (x2 : ByteArray) (H : g_r6_Upper k x1 = some x2) : Go.Q.Spec Tryz.prog 80 0 [.lit (.string x1)] Mem.nil (fun o M => o = .ret (.lit (.string x2)) ∧ M = Mem.nil) := by
 unfold g_r6_Upper at H
 refine bo Tryz.func80 [] [.tmp 2] 5 fun cx hnp => ?_
 iterate 5 refine sp ?_
 obtain ⟨x3, h1, H⟩ := bnd H
 refine WPL.c (rc [] [] 0 [] (s_r6_turned k x1 97 224 x3 h1) (hargs := .ren rfl rfl (.ren rfl rfl (.ren rfl rfl .nil)))) rfl ?_
 iterate 3 refine sp ?_
 have q0 := j1 H
 subst q0
 exact W.now (mb [])
theorem s_rv_Bool (k : Nat) (x1 : Int) (x2 : Int) (x3 : Int) (x4 : ByteArray) (x5 : Bool) (x6 : Int) (x7 : Int) (x8 : Int) (x9 : Int) (x10 : ByteArray) (x11 : Bool) (x12 : Int) (H : g_rv_Bool k x1 x2 x3 x4 x5 x6 = some (x7, x8, x9, x10, x11, x12)) : Go.Q.Spec Tryz.prog 41 0 [.agg [.lit (.int .i64 x1), .lit (.int .i64 x2), .lit (.int .i64 x3), .lit (.string x4), .lit (.bool x5), .lit (.int .i64 x6)]] Mem.nil (fun o M => o = .ret (.agg [.lit (.int .i64 x7), .lit (.int .i64 x8), .lit (.int .i64 x9), .lit (.string x10), .lit (.bool x11), .lit (.int .i64 x12)]) ∧ M = (Mem.nil.push (.cells 29 [.lit (.int .i64 x7), .lit (.int .i64 x8), .lit (.int .i64 x9), .lit (.string x10), .lit (.bool x11), .lit (.int .i64 x12)]))) := by
 unfold g_rv_Bool at H
 refine bo Tryz.func41 [(29, 6)] [.cell 2 29] 34 fun cx hnp => ?_
 iterate 6 refine sp ?_
 obtain ⟨⟨x13, x14, x15, x16, x17, x18⟩, h1, H⟩ := bnd H
 refine WPL.c (rc [] [2] 3 [] (s_rv_clean k x1 x2 x3 x4 x5 x6 x13 x14 x15 x16 x17 x18 h1)) rfl ?_
 iterate 2 refine sp ?_
 refine WP.seq ?_
 iterate 9 refine sp ?_
 refine cd H (fun hb1 H => ?_) fun hb1 H => ?_
 · refine sp ?_
   obtain ⟨_, h2, H⟩ := bnd H
   refine WPL.c (rc [] [3] 4 [] (s_rv_Truth k false h2)) rfl ?_
   iterate 3 refine sp ?_
   obtain ⟨rfl, rfl, rfl, rfl, rfl, rfl⟩ := j6 H
   exact W.now (InBlock.r (Then.r (mb [1])))
 iterate 4 refine sp ?_
 refine cd H (fun hb2 H => ?_) fun hb2 H => ?_
 · iterate 5 refine sp ?_
   obtain ⟨_, h3, H⟩ := bnd H
   refine WPL.c (rc [] [3] 4 [] (s_rv_Truth k (!decide (x14 = 0)) h3)) rfl ?_
   iterate 3 refine sp ?_
   obtain ⟨rfl, rfl, rfl, rfl, rfl, rfl⟩ := j6 H
   exact W.now (InBlock.r (Then.r (mb [1])))
 iterate 4 refine sp ?_
 refine cd H (fun hb3 H => ?_) fun hb3 H => ?_
 · iterate 3 refine sp ?_
   obtain ⟨x19, h4, H⟩ := bnd H
   refine WPL.c (rc [] [] 3 [] (s_r6_Upper k x16 x19 h4)) rfl ?_
   iterate 2 refine sp ?_
   refine WP.seq ?_
   refine WP.seq ?_
   obtain ⟨x20, H1, H⟩ := bnd H
   refine mo .normal (((Env.none.upd 2 (.ptr 0 0)).upd 3 (.lit (.string x19))).upd 28 (.lit (.bool x20))) (Mem.nil.push (.cells 29 [.lit (.int .i64 0), .lit (.int .i64 0), .lit (.int .i64 0), .lit (.string (ByteArray.mk #[])), .lit (.bool false), .lit (.int .i64 0)])) ?_ ?_
   · clear H
     have H := H1
     clear H1
     iterate 2 refine sp ?_
     obtain ⟨x21, h5, H⟩ := bnd H
     refine sn (nm_bool h5) ?_
     refine sp ?_
     refine ws 25 H (fun hb4 H => ?_) fun hb4 H => ?_
     · refine sp ?_
       obtain ⟨x22, h6, H⟩ := bnd H
       refine sn (nm_bool h6) ?_
       refine sp ?_
       refine WPL.nilW ?_
       have q0 := j1 H
       subst q0
       exact wq [1]
     iterate 3 refine sp ?_
     refine WPL.nilW ?_
     have q0 := j1 H
     subst q0
     exact wq [1]
   iterate 2 refine sp ?_
   refine cd H (fun hb5 H => ?_) fun hb5 H => ?_
   · refine sp ?_
     obtain ⟨x23, h7, H⟩ := bnd H
     refine WPL.c (rc [] [1] 2 [] (s_rv_Err k 2 x23 h7)) rfl ?_
     iterate 3 refine sp ?_
     obtain ⟨rfl, rfl, rfl, rfl, rfl, rfl⟩ := j6 H
     exact W.now (Then.r (InBlock.r (Then.r (mb [0]))))
   iterate 5 refine sp ?_
   obtain ⟨x24, h8, H⟩ := bnd H
   refine sn (nm_bool h8) ?_
   obtain ⟨_, h8, H⟩ := bnd H
   refine WPL.c (rc [] [1] 2 [] (s_rv_Truth k x24 h8)) rfl ?_
   iterate 3 refine sp ?_
   obtain ⟨rfl, rfl, rfl, rfl, rfl, rfl⟩ := j6 H
   exact W.now (InBlock.r (Then.r (mb [0])))
 iterate 2 refine sp ?_
 refine InBlock.n ?_
 iterate 6 refine sp ?_
 obtain ⟨rfl, rfl, rfl, rfl, rfl, rfl⟩ := j6 H
 exact W.now (mb [1])
theorem s_rv_Show (k : Nat) (x1 : Int) (x2 : Int) (x3 : Int) (x4 : ByteArray) (x5 : Bool) (x6 : Int) (x7 : ByteArray) (H : g_rv_Show k x1 x2 x3 x4 x5 x6 = some x7) : Go.Q.Spec Tryz.prog 42 0 [.agg [.lit (.int .i64 x1), .lit (.int .i64 x2), .lit (.int .i64 x3), .lit (.string x4), .lit (.bool x5), .lit (.int .i64 x6)]] Mem.nil (fun o M => o = .ret (.lit (.string x7)) ∧ M = Mem.nil) := by
 unfold g_rv_Show at H
 refine bo Tryz.func42 [] [.tmp 2] 16 fun cx hnp => ?_
 iterate 6 refine sp ?_
 obtain ⟨⟨x8, x9, x10, x11, x12, x13⟩, h1, H⟩ := bnd H
 refine WPL.c (rc [] [1] 2 [] (s_rv_clean k x1 x2 x3 x4 x5 x6 x8 x9 x10 x11 x12 x13 h1)) rfl ?_
 iterate 2 refine sp ?_
 refine WP.seq ?_
 iterate 5 refine sp ?_
 refine cd H (fun hb1 H => ?_) fun hb1 H => ?_
 · refine WP.seq ?_
   refine WP.regionD' 6 [0] [] mixed rfl ?_
   refine dT 1 ?_
   refine dK 2 ?_
   obtain ⟨_, h2, H⟩ := bnd H
   refine dE 0 [0] [] rfl (rc [] [] 2 [] (s_rv_Names k h2)) ?_
   obtain ⟨x14, h3, H⟩ := bnd H
   refine dT 3 ?_
   refine dT 4 ?_
   refine dT 5 ?_
   refine WPD.doneW (by kernel_rfl) ?_
   iterate 3 refine sp ?_
   have q0 := j1 H
   subst q0
   exact W.now (Then.r (mb []))
 iterate 5 refine sp ?_
 obtain ⟨⟨x15, x16, x17, x18, x19, x20⟩, h3, H⟩ := bnd H
 refine WPL.c (rc [] [2] 3 [] (s_rv_Text k x8 x9 x10 x11 x12 x13 x15 x16 x17 x18 x19 x20 h3)) rfl ?_
 refine WPL.qq (q_field fi29_2 sc9 rfl rfl) ?_
 iterate 3 refine sp ?_
 have q0 := j1 H
 subst q0
 exact W.now (mb [])
theorem s_quirelaw13_ValTurns (k : Nat) (x1 : Int) (x2 : Int) (x3 : Int) (x4 : ByteArray) (x5 : Bool) (x6 : Int) (x7 : Bool) (H : g_quirelaw13_ValTurns k x1 x2 x3 x4 x5 x6 = some x7) : Go.Q.Spec Tryz.prog 7 0 [.agg [.lit (.int .i64 x1), .lit (.int .i64 x2), .lit (.int .i64 x3), .lit (.string x4), .lit (.bool x5), .lit (.int .i64 x6)]] Mem.nil (fun o M => o = .ret (.lit (.bool x7)) ∧ M = Mem.nil) := by
 unfold g_quirelaw13_ValTurns at H
 refine bo Tryz.func7 [] [.tmp 2] 39 fun cx hnp => ?_
 iterate 4 refine sp ?_
 refine WP.seq ?_
 obtain ⟨x8, H1, H⟩ := bnd H
 refine mo .normal (Env.none.upd 2 (.lit (.bool x8))) Mem.nil ?_ ?_
 · clear H
   have H := H1
   clear H1
   refine WP.regionD' 37 [0] [] mixed rfl ?_
   refine dK 0 ?_
   refine dK 2 ?_
   obtain ⟨x9, h1, H⟩ := bnd H
   refine dE 1 [0] [] rfl (rc [] [] 1 [] (s_val_Right k x1 x2 x3 x4 x5 x6 x9 h1)) ?_
   obtain ⟨x10, h2, H⟩ := bnd H
   refine dE 3 [0] [] rfl (rc [] [] 1 [] (s_rv_Right k x1 x2 x3 x4 x5 x6 x10 h2)) ?_
   refine WPD.tT 4 rfl (q_eqlb Tryz.underlying4 rfl rfl) ?_
   refine dT 5 ?_
   refine ds 8 H (fun hb1 H => ?_) fun hb1 H => ?_
   · refine dH 6 ?_
     refine dH 8 ?_
     obtain ⟨⟨x11, x12, x13, x14, x15, x16⟩, h3, H⟩ := bnd H
     refine dF 7 [0] [] rfl (rc [] [1] 2 [] (s_val_Num k x1 x2 x3 x4 x5 x6 x11 x12 x13 x14 x15 x16 h3)) ?_
     obtain ⟨⟨x17, x18, x19, x20, x21, x22⟩, h4, H⟩ := bnd H
     refine dF 9 [0] [] rfl (rc [] [2] 3 [] (s_rv_Num k x1 x2 x3 x4 x5 x6 x17 x18 x19 x20 x21 x22 h4)) ?_
     obtain ⟨x23, h5, H⟩ := bnd H
     refine WPD.takegT 10 rfl (by kernel_rfl) rfl rfl (lb hb1) (q_nm (q_eqlAg (xs := [(.int .i64 x11), (.int .i64 x12), (.int .i64 x13), (.string x14), (.bool x15), (.int .i64 x16)]) (ys := [(.int .i64 x17), (.int .i64 x18), (.int .i64 x19), (.string x20), (.bool x21), (.int .i64 x22)]) (n := 9) rfl eg29 rfl rfl eq29) (nm_bool h5)) rfl ?_
     refine dT 11 ?_
     refine dT 12 ?_
     refine ds 15 H (fun hb2 H => ?_) fun hb2 H => ?_
     · refine dH 13 ?_
       refine dH 15 ?_
       obtain ⟨⟨x24, x25, x26, x27, x28, x29⟩, h6, H⟩ := bnd H
       refine dF 14 [0] [] rfl (rc [] [3] 4 [] (s_val_Text k x1 x2 x3 x4 x5 x6 x24 x25 x26 x27 x28 x29 h6)) ?_
       obtain ⟨⟨x30, x31, x32, x33, x34, x35⟩, h7, H⟩ := bnd H
       refine dF 16 [0] [] rfl (rc [] [4] 5 [] (s_rv_Text k x1 x2 x3 x4 x5 x6 x30 x31 x32 x33 x34 x35 h7)) ?_
       obtain ⟨x36, h8, H⟩ := bnd H
       refine WPD.takegT 17 rfl (by kernel_rfl) rfl rfl (lb hb2) (q_nm (q_eqlAg (xs := [(.int .i64 x24), (.int .i64 x25), (.int .i64 x26), (.string x27), (.bool x28), (.int .i64 x29)]) (ys := [(.int .i64 x30), (.int .i64 x31), (.int .i64 x32), (.string x33), (.bool x34), (.int .i64 x35)]) (n := 9) rfl eg29 rfl rfl eq29) (nm_bool h8)) rfl ?_
       refine dT 18 ?_
       refine dT 19 ?_
       refine ds 22 H (fun hb3 H => ?_) fun hb3 H => ?_
       · refine dH 20 ?_
         refine dH 22 ?_
         obtain ⟨⟨x37, x38, x39, x40, x41, x42⟩, h9, H⟩ := bnd H
         refine dF 21 [0] [] rfl (rc [] [5] 6 [] (s_val_Bool k x1 x2 x3 x4 x5 x6 x37 x38 x39 x40 x41 x42 h9)) ?_
         obtain ⟨⟨x43, x44, x45, x46, x47, x48⟩, h10, H⟩ := bnd H
         refine dF 23 [0] [] rfl (rc [] [6] 7 [] (s_rv_Bool k x1 x2 x3 x4 x5 x6 x43 x44 x45 x46 x47 x48 h10)) ?_
         obtain ⟨x49, h11, H⟩ := bnd H
         refine WPD.takegT 24 rfl (by kernel_rfl) rfl rfl (lb hb3) (q_nm (q_eqlAg (xs := [(.int .i64 x37), (.int .i64 x38), (.int .i64 x39), (.string x40), (.bool x41), (.int .i64 x42)]) (ys := [(.int .i64 x43), (.int .i64 x44), (.int .i64 x45), (.string x46), (.bool x47), (.int .i64 x48)]) (n := 9) rfl eg29 rfl rfl eq29) (nm_bool h11)) rfl ?_
         refine dT 25 ?_
         refine dT 26 ?_
         refine ds 29 H (fun hb4 H => ?_) fun hb4 H => ?_
         · refine dH 27 ?_
           refine dH 29 ?_
           obtain ⟨x50, h12, H⟩ := bnd H
           refine dF 28 [0] [] rfl (rc [] [] 7 [] (s_val_Show k x1 x2 x3 x4 x5 x6 x50 h12)) ?_
           obtain ⟨x51, h13, H⟩ := bnd H
           refine dF 30 [0] [] rfl (rc [] [] 7 [] (s_rv_Show k x1 x2 x3 x4 x5 x6 x51 h13)) ?_
           refine dG 31 ?_
           refine dT 32 ?_
           refine dT 33 ?_
           refine ds 36 H (fun hb5 H => ?_) fun hb5 H => ?_
           · obtain ⟨x52, h14, H⟩ := bnd H
             refine dF 34 [0] [] rfl (rc [] [] 7 [] (s_quirelaw13_alive k x52 h14)) ?_
             refine dT 35 ?_
             refine dT 36 ?_
             refine WPD.doneW (by kernel_rfl) ?_
             have q0 := j1 H
             subst q0
             exact wq []
           refine dP false 34 ?_
           refine dT 35 ?_
           refine dT 36 ?_
           refine WPD.doneW (by kernel_rfl) ?_
           have q0 := j1 H
           subst q0
           exact wq []
         refine dP false 27 ?_
         refine dP false 28 ?_
         refine dP false 29 ?_
         refine dP false 30 ?_
         refine dP false 31 ?_
         refine dT 32 ?_
         refine dT 33 ?_
         refine dP false 34 ?_
         refine dT 35 ?_
         refine dT 36 ?_
         refine WPD.doneW (by kernel_rfl) ?_
         have q0 := j1 H
         subst q0
         exact wq []
       refine dP false 20 ?_
       refine dP false 21 ?_
       refine dP false 22 ?_
       refine dP false 23 ?_
       refine dP false 24 ?_
       refine dT 25 ?_
       refine dT 26 ?_
       refine dP false 27 ?_
       refine dP false 28 ?_
       refine dP false 29 ?_
       refine dP false 30 ?_
       refine dP false 31 ?_
       refine dT 32 ?_
       refine dT 33 ?_
       refine dP false 34 ?_
       refine dT 35 ?_
       refine dT 36 ?_
       refine WPD.doneW (by kernel_rfl) ?_
       have q0 := j1 H
       subst q0
       exact wq []
     refine dP false 13 ?_
     refine dP false 14 ?_
     refine dP false 15 ?_
     refine dP false 16 ?_
     refine dP false 17 ?_
     refine dT 18 ?_
     refine dT 19 ?_
     refine dP false 20 ?_
     refine dP false 21 ?_
     refine dP false 22 ?_
     refine dP false 23 ?_
     refine dP false 24 ?_
     refine dT 25 ?_
     refine dT 26 ?_
     refine dP false 27 ?_
     refine dP false 28 ?_
     refine dP false 29 ?_
     refine dP false 30 ?_
     refine dP false 31 ?_
     refine dT 32 ?_
     refine dT 33 ?_
     refine dP false 34 ?_
     refine dT 35 ?_
     refine dT 36 ?_
     refine WPD.doneW (by kernel_rfl) ?_
     have q0 := j1 H
     subst q0
     exact wq []
   refine dP false 6 ?_
   refine dP false 7 ?_
   refine dP false 8 ?_
   refine dP false 9 ?_
   refine dP false 10 ?_
   refine dT 11 ?_
   refine dT 12 ?_
   refine dP false 13 ?_
   refine dP false 14 ?_
   refine dP false 15 ?_
   refine dP false 16 ?_
   refine dP false 17 ?_
   refine dT 18 ?_
   refine dT 19 ?_
   refine dP false 20 ?_
   refine dP false 21 ?_
   refine dP false 22 ?_
   refine dP false 23 ?_
   refine dP false 24 ?_
   refine dT 25 ?_
   refine dT 26 ?_
   refine dP false 27 ?_
   refine dP false 28 ?_
   refine dP false 29 ?_
   refine dP false 30 ?_
   refine dP false 31 ?_
   refine dT 32 ?_
   refine dT 33 ?_
   refine dP false 34 ?_
   refine dT 35 ?_
   refine dT 36 ?_
   refine WPD.doneW (by kernel_rfl) ?_
   have q0 := j1 H
   subst q0
   exact wq []
 iterate 3 refine sp ?_
 have q0 := j1 H
 subst q0
 exact W.now (mb [])
end Go.Proofs.YthpcgknknpjpdaaGreatDoor.W
set_option linter.unusedVariables false
set_option linter.unusedSimpArgs false
namespace Go.Dz
/-- A number, 10 to the 500000 times it. -/
def val (m e : Int) : Int := m * 10 ^ (e + 500000).toNat
theorem p10 (n : Nat) : (0 : Int) < 10 ^ n := Int.pow_pos (by decide)
theorem val_shift {m e : Int} {j : Nat} (he : -500000 ≤ e) : val (m * 10 ^ j) e = val m (e + j) := by
  unfold val
  rw [Int.mul_assoc, ← Int.pow_add, show j + (e + 500000).toNat = (e + j + 500000).toNat by omega]
theorem val_inj {m m' e : Int} (h : val m e = val m' e) : m = m' := by
  unfold val at h
  exact Int.eq_of_mul_eq_mul_right (Int.ne_of_gt (p10 _)) h
theorem val_zero {e : Int} : val 0 e = 0 := by simp [val]
theorem val_eq_zero {m e : Int} (h : val m e = 0) : m = 0 := by
  unfold val at h
  rcases Int.mul_eq_zero.1 h with h | h
  · exact h
  · exact absurd h (Int.ne_of_gt (p10 _))
/-- Two numbers that are equal: one has noughts more. -/
theorem val_rep {m m' e e' : Int} (he : -500000 ≤ e) (hle : e ≤ e') (h : val m e = val m' e') : m = m' * 10 ^ (e' - e).toNat := by
  have h1 := val_shift (m := m') (e := e) (j := (e' - e).toNat) he
  rw [show e + ((e' - e).toNat : Int) = e' by omega, ← h] at h1
  exact (val_inj h1).symm
/-- What a Dec may be. -/
def Canon (c x : Int) : Prop := (c = 0 ∧ x = 0) ∨ (c ≠ 0 ∧ -18 ≤ x ∧ x ≤ 18 ∧ -9223372036854775808 ≤ c ∧ c ≤ 9223372036854775807 ∧ (x = 18 ∨ ¬ (10 : Int) ∣ c))
theorem Canon.rng {c x : Int} (h : Canon c x) : -18 ≤ x ∧ x ≤ 18 ∧ -9223372036854775808 ≤ c ∧ c ≤ 9223372036854775807 := by
  rcases h with ⟨rfl, rfl⟩ | ⟨_, h1, h2, h3, h4, _⟩ <;> omega
theorem dvd_pow10 {m : Int} {n : Nat} (h : n ≠ 0) : (10 : Int) ∣ m * 10 ^ n := by
  obtain ⟨k, rfl⟩ : ∃ k, n = k + 1 := ⟨n - 1, by omega⟩
  exact ⟨m * 10 ^ k, by rw [Int.pow_succ]; rw [← Int.mul_assoc, Int.mul_comm]⟩
theorem Canon.uniq' {c x c' x' : Int} (h : Canon c x) (h' : Canon c' x') (hle : x ≤ x') (e : val c x = val c' x') : c = c' ∧ x = x' := by
  have r := h.rng
  have e1 := val_rep (by omega) hle e
  by_cases hc : c = 0
  · subst hc
    rw [val_zero] at e
    have hc' := val_eq_zero e.symm
    subst hc'
    rcases h with ⟨_, hx⟩ | ⟨h0, _⟩
    · rcases h' with ⟨_, hx'⟩ | ⟨h0, _⟩
      · exact ⟨rfl, by omega⟩
      · exact absurd rfl h0
    · exact absurd rfl h0
  · have hc' : c' ≠ 0 := by rintro rfl; simp at e1; exact hc e1
    by_cases hx : x = x'
    · subst hx
      exact ⟨val_inj e, rfl⟩
    · have h10 : (10 : Int) ∣ c := by rw [e1]; exact dvd_pow10 (by omega)
      have r' := h'.rng
      rcases h with ⟨h0, _⟩ | ⟨_, _, _, _, _, h5 | h5⟩
      · exact absurd h0 hc
      · omega
      · exact absurd h10 h5
theorem Canon.uniq {c x c' x' : Int} (h : Canon c x) (h' : Canon c' x') (e : val c x = val c' x') : c = c' ∧ x = x' := by
  by_cases hle : x ≤ x'
  · exact h.uniq' h' hle e
  · obtain ⟨h1, h2⟩ := h'.uniq' h (by omega) e.symm
    exact ⟨h1.symm, h2.symm⟩
/-- The right Dec of a number, or that there is none. -/
def Tells (p : Int → Prop) (r : (Int × Int) × Int) : Prop :=
  (r.2 = 0 ∧ Canon r.1.1 r.1.2 ∧ p (val r.1.1 r.1.2)) ∨ (r = ((0, 0), 30) ∧ ∀ c x, Canon c x → ¬ p (val c x))
theorem Tells.uniq {p : Int → Prop} {r r' : (Int × Int) × Int} (hp : ∀ a b, p a → p b → a = b) (h : Tells p r) (h' : Tells p r') : r = r' := by
  obtain ⟨⟨c, x⟩, e⟩ := r
  obtain ⟨⟨c', x'⟩, e'⟩ := r'
  rcases h with ⟨h1, h2, h3⟩ | ⟨h1, h2⟩
  · rcases h' with ⟨k1, k2, k3⟩ | ⟨k1, k2⟩
    · have := h2.uniq k2 (hp _ _ h3 k3)
      simp only at h1 k1 this
      rw [h1, k1, this.1, this.2]
    · exact absurd h3 (k2 _ _ h2)
  · rcases h' with ⟨k1, k2, k3⟩ | ⟨k1, k2⟩
    · exact absurd k3 (h2 _ _ k2)
    · rw [h1, k1]
/-- The Decs of a number whose last digit is not nought. -/
theorem canon_iff {m e c x : Int} (hm : m ≠ 0) (hd : ¬ (10 : Int) ∣ m) (he : -500000 ≤ e) : (Canon c x ∧ val c x = val m e) ↔ (x = (if e > 18 then 18 else e) ∧ c = m * 10 ^ (e - x).toNat ∧ -18 ≤ x ∧ -9223372036854775808 ≤ c ∧ c ≤ 9223372036854775807) := by
  constructor
  · rintro ⟨h, e1⟩
    have r := h.rng
    have hc : c ≠ 0 := by
      rintro rfl
      rw [val_zero] at e1
      exact hm (val_eq_zero e1.symm)
    by_cases hle : x ≤ e
    · have e2 := val_rep (by omega) hle e1
      refine ⟨?_, e2, by omega, by omega, by omega⟩
      by_cases hxe : x = e
      · rw [if_neg (by omega), hxe]
      · have h10 : (10 : Int) ∣ c := by rw [e2]; exact dvd_pow10 (by omega)
        rcases h with ⟨h0, _⟩ | ⟨_, _, _, _, _, h5 | h5⟩
        · exact absurd h0 hc
        · rw [if_pos (by omega), h5]
        · exact absurd h10 h5
    · have e2 := val_rep he (by omega) e1.symm
      exact absurd (by rw [e2]; exact dvd_pow10 (by omega)) hd
  · rintro ⟨h1, h2, h3, h4, h5⟩
    have hx : x ≤ e := by split at h1 <;> omega
    have e1 : val c x = val m e := by
      rw [h2, val_shift (by omega), show x + ((e - x).toNat : Int) = e by omega]
    refine ⟨?_, e1⟩
    have hc : c ≠ 0 := by
      rintro rfl
      rw [val_zero] at e1
      exact hm (val_eq_zero e1.symm)
    refine .inr ⟨hc, h3, by split at h1 <;> omega, h4, h5, ?_⟩
    split at h1
    · exact .inl h1
    · refine .inr ?_
      subst h1
      rw [h2]
      simpa using hd
theorem tells_some {m e c x : Int} (hm : m ≠ 0) (hd : ¬ (10 : Int) ∣ m) (he : -500000 ≤ e) (h : x = (if e > 18 then 18 else e) ∧ c = m * 10 ^ (e - x).toNat ∧ -18 ≤ x ∧ -9223372036854775808 ≤ c ∧ c ≤ 9223372036854775807) : Tells (· = val m e) ((c, x), 0) :=
  .inl ⟨rfl, (canon_iff hm hd he).2 h⟩
theorem tells_none {m e : Int} (hm : m ≠ 0) (hd : ¬ (10 : Int) ∣ m) (he : -500000 ≤ e) (h : e < -18 ∨ ¬ (-9223372036854775808 ≤ m * 10 ^ (e - 18).toNat ∧ m * 10 ^ (e - 18).toNat ≤ 9223372036854775807)) : Tells (· = val m e) ((0, 0), 30) := by
  refine .inr ⟨rfl, fun c x hc e1 => ?_⟩
  obtain ⟨h1, h2, h3, h4, h5⟩ := (canon_iff hm hd he).1 ⟨hc, e1⟩
  split at h1
  · subst h1
    rw [h2] at h4 h5
    omega
  · subst h1
    have : (x - 18).toNat = 0 := by omega
    rw [this] at h
    simp at h h2
    omega
theorem tells_zero {e : Int} : Tells (· = val 0 e) ((0, 0), 0) := .inl ⟨rfl, .inl ⟨rfl, rfl⟩, by simp [val_zero]⟩
/-- A whole number of sixty-four bits. -/
def I64 (c : Int) : Prop := -9223372036854775808 ≤ c ∧ c ≤ 9223372036854775807
/-- The exponents that may be. -/
def Rng (e : Int) : Prop := -18 ≤ e ∧ e ≤ 18
instance (e : Int) : Decidable (Rng e) := by unfold Rng; infer_instance
theorem Canon.i64 {c x : Int} (h : Canon c x) : I64 c := ⟨h.rng.2.2.1, h.rng.2.2.2⟩
theorem Canon.rg {c x : Int} (h : Canon c x) : Rng x := ⟨h.rng.1, h.rng.2.1⟩
end Go.Dz
namespace Go.Dz
theorem est_le {B y u d q r : Nat} (hB : 0 < B) (hy : 0 < y) (hq : q * (y / B) + r = u) (h : q * (y % B) ≤ B * r + d) : q ≤ (u * B + d) / y := by
  rw [Nat.le_div_iff_mul_le hy]
  have e : y = y / B * B + y % B := (Nat.div_add_mod' y B).symm
  have : q * y = q * (y / B) * B + q * (y % B) := by
    conv => lhs; rw [e]
    rw [Nat.mul_add, Nat.mul_assoc]
  rw [this, ← hq, Nat.add_mul, Nat.mul_comm r B]
  omega
theorem est_gt {B y u d q r : Nat} (hB : 0 < B) (hu : u < y) (hd : d < B) (hq : q * (y / B) + r = u) (h : B ≤ q ∨ B * r + d < q * (y % B)) : (u * B + d) / y < q := by
  rw [Nat.div_lt_iff_lt_mul (by omega)]
  rcases h with h | h
  · have h1 : (u + 1) * B ≤ y * B := Nat.mul_le_mul_right B hu
    have h2 : B * y ≤ q * y := Nat.mul_le_mul_right y h
    rw [Nat.add_mul, Nat.mul_comm y B] at h1
    omega
  · have e : y = y / B * B + y % B := (Nat.div_add_mod' y B).symm
    have : q * y = q * (y / B) * B + q * (y % B) := by
      conv => lhs; rw [e]
      rw [Nat.mul_add, Nat.mul_assoc]
    rw [this, ← hq, Nat.add_mul, Nat.mul_comm r B]
    omega
theorem est_stop {B y u d q r : Nat} (hB : 0 < B) (hy : 0 < y) (hq : q * (y / B) + r = u) (hqB : q ≤ B) (hr : B ≤ r) : q ≤ (u * B + d) / y := by
  refine est_le hB hy hq ?_
  have h1 : q * (y % B) ≤ B * (y % B) := Nat.mul_le_mul_right _ hqB
  have h2 : B * (y % B) ≤ B * r := Nat.mul_le_mul_left _ (by have := Nat.mod_lt y hB; omega)
  omega
theorem est_first {B y u : Nat} (hu : u < y) (hB : 2 ≤ B) (hn : B ≤ 2 * (y / B)) : u / (y / B) ≤ B + 1 := by
  have hp : 0 < y / B := by omega
  have : u / (y / B) < B + 2 := by
    rw [Nat.div_lt_iff_lt_mul hp]
    have e : y = y / B * B + y % B := (Nat.div_add_mod' y B).symm
    have hm := Nat.mod_lt y (show 0 < B by omega)
    have : (B + 2) * (y / B) = y / B * B + 2 * (y / B) := by rw [Nat.add_mul, Nat.mul_comm B]
    omega
  omega
theorem est_ge {B y u d : Nat} (hB : 0 < B) (hy : B ≤ y) (hd : d < B) : (u * B + d) / y ≤ u / (y / B) := by
  have hp : 0 < y / B := Nat.div_pos hy hB
  rw [Nat.le_div_iff_mul_le hp]
  have h1 : (u * B + d) / y * y ≤ u * B + d := Nat.div_mul_le_self _ _
  have h2 : (u * B + d) / y * (y / B * B) ≤ (u * B + d) / y * y := Nat.mul_le_mul_left _ (Nat.div_mul_le_self _ _)
  rw [← Nat.mul_assoc] at h2
  generalize (u * B + d) / y * (y / B) = z at *
  have : z * B < (u + 1) * B := by rw [Nat.add_mul]; omega
  exact Nat.le_of_lt_succ (Nat.lt_of_mul_lt_mul_right this)
/-- Two digits, one behind the other. -/
theorem two_digits {B y u d1 d0 : Nat} (hy : 0 < y) : ((u * B + d1) * B + d0) / y = (u * B + d1) / y * B + ((u * B + d1) % y * B + d0) / y ∧ ((u * B + d1) * B + d0) % y = ((u * B + d1) % y * B + d0) % y := by
  have e : (u * B + d1) * B + d0 = y * ((u * B + d1) / y * B) + ((u * B + d1) % y * B + d0) := by
    conv => lhs; rw [← Nat.div_add_mod (u * B + d1) y]
    rw [Nat.add_mul, Nat.mul_assoc]
    omega
  rw [e, Nat.mul_add_div hy, Nat.mul_add_mod]
  exact ⟨rfl, rfl⟩
end Go.Dz
set_option linter.unusedVariables false
set_option linter.unusedSimpArgs false
namespace Go.Dz
def digs (n : Nat) : List Int := if h : n = 0 then [] else ((n % 10 : Nat) : Int) :: digs (n / 10)
termination_by n
decreasing_by omega
theorem digs_zero : digs 0 = [] := by rw [digs]; rfl
theorem digs_pos {n : Nat} (h : n ≠ 0) : digs n = ((n % 10 : Nat) : Int) :: digs (n / 10) := by rw [digs]; simp [h]
def nval : List Int → Nat
  | [] => 0
  | d :: l => d.toNat + 10 * nval l
def Dig (l : List Int) : Prop := ∀ d ∈ l, 0 ≤ d ∧ d ≤ 9
theorem Dig.nil : Dig [] := by intro d h; simp at h
theorem Dig.cons {d : Int} {l : List Int} (h0 : 0 ≤ d) (h9 : d ≤ 9) (h : Dig l) : Dig (d :: l) := by
  intro x hx
  rcases List.mem_cons.1 hx with rfl | hx
  · exact ⟨h0, h9⟩
  · exact h x hx
theorem Dig.head {d : Int} {l : List Int} (h : Dig (d :: l)) : 0 ≤ d ∧ d ≤ 9 := h d (by simp)
theorem Dig.tail {d : Int} {l : List Int} (h : Dig (d :: l)) : Dig l := fun x hx => h x (List.mem_cons_of_mem _ hx)
theorem Dig.app {l r : List Int} (h : Dig l) (k : Dig r) : Dig (l ++ r) := by
  intro x hx
  rcases List.mem_append.1 hx with hx | hx
  · exact h x hx
  · exact k x hx
theorem digs_dig : ∀ n, Dig (digs n) := by
  intro n
  induction n using Nat.strongRecOn with
  | _ n ih =>
    by_cases h : n = 0
    · subst h; rw [digs_zero]; exact Dig.nil
    · rw [digs_pos h]; exact Dig.cons (by omega) (by omega) (ih _ (by omega))
theorem nval_digs : ∀ n, nval (digs n) = n := by
  intro n
  induction n using Nat.strongRecOn with
  | _ n ih =>
    by_cases h : n = 0
    · subst h; rw [digs_zero]; rfl
    · rw [digs_pos h, nval, ih _ (by omega)]; omega
theorem digs_nil {n : Nat} : digs n = [] ↔ n = 0 := by
  constructor
  · intro h; rw [← nval_digs n, h]; rfl
  · rintro rfl; exact digs_zero
theorem digs_len0 {n : Nat} : (digs n).length = 0 ↔ n = 0 := by rw [List.length_eq_zero_iff, digs_nil]
theorem digs_cons {d : Int} {n : Nat} (h0 : 0 ≤ d) (h9 : d ≤ 9) (h : d.toNat + 10 * n ≠ 0) : digs (d.toNat + 10 * n) = d :: digs n := by
  rw [digs_pos h, show (d.toNat + 10 * n) / 10 = n by omega, show (((d.toNat + 10 * n) % 10 : Nat) : Int) = d by omega]
/-- Without noughts at the end. -/
theorem digs_nval : ∀ {l : List Int}, Dig l → ∀ {n : Nat}, n ≤ l.length → (∀ i, n ≤ i → i < l.length → l.getD i 0 = 0) → (n ≠ 0 → l.getD (n - 1) 0 ≠ 0) → digs (nval l) = l.take n
  | [], _, n, hn, _, _ => by simp [nval, digs_zero]
  | d :: l, hd, n, hn, h0, h1 => by
    cases n with
    | zero =>
      have hz : d = 0 := by simpa using h0 0 (by omega) (by simp)
      have := digs_nval hd.tail (n := 0) (Nat.zero_le _) (fun i hi hl => by simpa using h0 (i + 1) (by omega) (by simpa using hl)) (by omega)
      have hv : nval l = 0 := by
        have := congrArg nval this
        rw [nval_digs] at this
        simpa [nval] using this
      rw [nval, hv, hz]; simp [digs_zero]
    | succ n =>
      have ih := digs_nval hd.tail (n := n) (by simpa using hn) (fun i hi hl => by simpa using h0 (i + 1) (by omega) (by simpa using hl)) (fun hn0 => by
        have := h1 (by omega)
        obtain ⟨m, rfl⟩ : ∃ m, n = m + 1 := ⟨n - 1, by omega⟩
        simpa using this)
      have hne : d.toNat + 10 * nval l ≠ 0 := by
        intro he
        have hv : nval l = 0 := by omega
        rw [hv, digs_zero] at ih
        cases n with
        | zero =>
          have := h1 (by omega)
          simp at this
          have := hd.head
          omega
        | succ n =>
          have := congrArg List.length ih
          simp at this hn
          omega
      rw [nval, digs_cons hd.head.1 hd.head.2 hne, ih, List.take_succ_cons]
theorem nval_app : ∀ (l r : List Int), nval (l ++ r) = nval l + 10 ^ l.length * nval r
  | [], r => by simp [nval]
  | d :: l, r => by
    rw [List.cons_append, nval, nval, nval_app l r, List.length_cons, Nat.pow_succ, Nat.mul_add, Nat.add_assoc, ← Nat.mul_assoc, Nat.mul_comm 10 (10 ^ l.length)]
theorem nval_lt : ∀ {l : List Int}, Dig l → nval l < 10 ^ l.length
  | [], _ => by simp [nval]
  | d :: l, h => by
    have := nval_lt h.tail
    have := h.head
    rw [nval, List.length_cons, Nat.pow_succ]
    omega
theorem digs_lt {n : Nat} : n < 10 ^ (digs n).length := by
  have := nval_lt (digs_dig n)
  rwa [nval_digs] at this
theorem digs_ge {n : Nat} (h : n ≠ 0) : 10 ^ ((digs n).length - 1) ≤ n := by
  induction n using Nat.strongRecOn with
  | _ n ih =>
    rw [digs_pos h, List.length_cons, Nat.add_sub_cancel]
    by_cases h1 : n / 10 = 0
    · rw [h1, digs_zero]; simp; omega
    · have := ih _ (by omega) h1
      have h2 : (digs (n / 10)).length ≠ 0 := by rw [Ne, digs_len0]; exact h1
      obtain ⟨m, hm⟩ : ∃ m, (digs (n / 10)).length = m + 1 := ⟨_, (Nat.succ_pred h2).symm⟩
      rw [hm] at this ⊢
      rw [Nat.add_sub_cancel] at this
      rw [Nat.pow_succ]
      omega
theorem digs_len_le {n m : Nat} (h : n < 10 ^ m) : (digs n).length ≤ m := by
  by_cases h0 : n = 0
  · subst h0; rw [digs_zero]; simp
  · have := digs_ge h0
    have h1 : (digs n).length - 1 < m := (Nat.pow_lt_pow_iff_right (by decide : 1 < 10)).1 (Nat.lt_of_le_of_lt this h)
    omega
theorem digs_at {n : Nat} : ∀ {i : Nat}, (digs n).getD i 0 = ((n / 10 ^ i % 10 : Nat) : Int) := by
  intro i
  induction i generalizing n with
  | zero =>
    by_cases h : n = 0
    · subst h; rw [digs_zero]; simp
    · rw [digs_pos h]; simp
  | succ i ih =>
    by_cases h : n = 0
    · subst h; rw [digs_zero]; simp
    · rw [digs_pos h]
      have := @ih (n / 10)
      rw [Nat.div_div_eq_div_mul, Nat.mul_comm] at this
      simpa [Nat.pow_succ] using this
end Go.Dz
namespace Go.Proofs.YthpcgknknpjpdaaGreatDoor.W
open Go Go.Q Go.Proofs Go.Dz
set_option linter.unusedVariables false
set_option linter.unusedSimpArgs false
theorem wU (n : Nat) : IntKind.wrap .u64 (n : Int) = ((n % 18446744073709551616 : Nat) : Int) := by
  simp [IntKind.wrap, IntKind.bits, IntKind.signed]
theorem wUi (n : Int) : IntKind.wrap .u64 n = n % 18446744073709551616 := by
  simp [IntKind.wrap, IntKind.bits, IntKind.signed]
theorem wUl {n : Nat} (h : n < 18446744073709551616) : IntKind.wrap .u64 (n : Int) = (n : Int) := by rw [wU, Nat.mod_eq_of_lt h]
theorem bvU {n : Nat} (h : n < 18446744073709551616) : (n : Int) = ((BitVec.ofNat 64 n).toNat : Int) := by
  rw [BitVec.toNat_ofNat, Nat.mod_eq_of_lt (by simpa using h)]
theorem and32 {n : Nat} (h : n < 18446744073709551616) : bits .and .u64 (n : Int) 4294967295 = ((n % 4294967296 : Nat) : Int) := by
  rw [bvU h, show (4294967295 : Int) = ((4294967295#64).toNat : Int) from rfl, u64_and, BitVec.toNat_and, BitVec.toNat_ofNat, Nat.mod_eq_of_lt (by simpa using h)]
  rw [show (4294967295#64).toNat = 2 ^ 32 - 1 from rfl, Nat.and_two_pow_sub_one_eq_mod]
theorem shrN (n : Nat) {s : Nat} (hs : s ≤ 64) : shrI .u64 (n : Int) (s : Int) = ((n / 2 ^ s : Nat) : Int) := by
  unfold shrI
  rw [Int.fdiv_eq_ediv_of_nonneg _ (Int.pow_nonneg (by decide))]
  simp [IntKind.bits, Nat.min_eq_left hs]
theorem shr32 (n : Nat) : shrI .u64 (n : Int) 32 = ((n / 4294967296 : Nat) : Int) := shrN n (s := 32) (by decide)
theorem shlN (n : Nat) {s : Nat} (hs : s ≤ 64) : shlI .u64 (n : Int) (s : Int) = ((n * 2 ^ s % 18446744073709551616 : Nat) : Int) := by
  unfold shlI
  rw [← wU]
  simp [IntKind.bits, Nat.min_eq_left hs]
theorem orN {a b s : Nat} (ha : a * 2 ^ s < 18446744073709551616) (hb : b < 2 ^ s) (hb' : b < 18446744073709551616) : bits .or .u64 ((a * 2 ^ s : Nat) : Int) (b : Int) = ((a * 2 ^ s + b : Nat) : Int) := by
  rw [bvU ha, bvU hb', u64_or, BitVec.toNat_or, BitVec.toNat_ofNat, BitVec.toNat_ofNat, Nat.mod_eq_of_lt (by simpa using ha), Nat.mod_eq_of_lt (by simpa using hb'), Nat.mul_comm, ← Nat.two_pow_add_eq_or_of_lt hb]
theorem or0 {a b : Nat} (ha : a < 18446744073709551616) (hb : b < 18446744073709551616) : bits .or .u64 (a : Int) (b : Int) = 0 ↔ a = 0 ∧ b = 0 := by
  rw [bvU ha, bvU hb, u64_or, BitVec.toNat_or, BitVec.toNat_ofNat, BitVec.toNat_ofNat, Nat.mod_eq_of_lt (by simpa using ha), Nat.mod_eq_of_lt (by simpa using hb)]
  constructor
  · intro h
    have h' : a ||| b = 0 := by exact_mod_cast h
    exact ⟨(Nat.or_eq_zero_iff.1 h').1, (Nat.or_eq_zero_iff.1 h').2⟩
  · rintro ⟨rfl, rfl⟩; rfl
/-- The upper half of a product. -/
theorem mul64 (k : Nat) {x y : Nat} (hx : x < 18446744073709551616) (hy : y < 18446744073709551616) : g_mb_Mul64 k (x : Int) (y : Int) = some ((x * y / 18446744073709551616 : Nat) : Int) := by
  unfold g_mb_Mul64
  have b0 := Nat.mod_lt x (show 0 < 4294967296 by decide)
  have c0 := Nat.mod_lt y (show 0 < 4294967296 by decide)
  have b1 : x / 4294967296 < 4294967296 := by omega
  have c1 : y / 4294967296 < 4294967296 := by omega
  have ex : x = x / 4294967296 * 4294967296 + x % 4294967296 := by omega
  have ey : y = y / 4294967296 * 4294967296 + y % 4294967296 := by omega
  simp only [and32 hx, and32 hy, shr32]
  generalize x % 4294967296 = x0 at *
  generalize y % 4294967296 = y0 at *
  generalize x / 4294967296 = x1 at *
  generalize y / 4294967296 = y1 at *
  have hp : x0 * y0 ≤ 4294967295 * 4294967295 := Nat.mul_le_mul (by omega) (by omega)
  have hq : x1 * y0 ≤ 4294967295 * 4294967295 := Nat.mul_le_mul (by omega) (by omega)
  have hr : x0 * y1 ≤ 4294967295 * 4294967295 := Nat.mul_le_mul (by omega) (by omega)
  have hs : x1 * y1 ≤ 4294967295 * 4294967295 := Nat.mul_le_mul (by omega) (by omega)
  have e : x * y = x1 * y1 * 18446744073709551616 + (x1 * y0 + x0 * y1) * 4294967296 + x0 * y0 := by
    rw [ex, ey]
    simp only [Nat.add_mul, Nat.mul_add]
    have : x1 * 4294967296 * (y1 * 4294967296) = x1 * y1 * 18446744073709551616 := by
      rw [Nat.mul_mul_mul_comm]
    have h2 : x1 * 4294967296 * y0 = x1 * y0 * 4294967296 := by rw [Nat.mul_right_comm]
    have h3 : x0 * (y1 * 4294967296) = x0 * y1 * 4294967296 := by rw [Nat.mul_assoc]
    omega
  simp only [← Int.natCast_mul]
  generalize x0 * y0 = p at *
  generalize x1 * y0 = q at *
  generalize x0 * y1 = r at *
  generalize x1 * y1 = s at *
  rw [e]
  have e1 : p % 18446744073709551616 = p := Nat.mod_eq_of_lt (by omega)
  have e2 : q % 18446744073709551616 = q := Nat.mod_eq_of_lt (by omega)
  have e3 : r % 18446744073709551616 = r := Nat.mod_eq_of_lt (by omega)
  have e4 : s % 18446744073709551616 = s := Nat.mod_eq_of_lt (by omega)
  simp only [Option.bind_some, wU, e1, e2, e3, e4, shr32, ← Int.natCast_add]
  rw [and32 (by omega)]
  simp only [← Int.natCast_add, wU, shr32]
  congr 2
  omega
end Go.Proofs.YthpcgknknpjpdaaGreatDoor.W
namespace Go.Proofs.YthpcgknknpjpdaaGreatDoor.W
open Go Go.Q Go.Proofs Go.Dz
set_option linter.unusedVariables false
set_option linter.unusedSimpArgs false
def lenTab : List Int := strInts (ByteArray.mk #[0, 1, 2, 2, 3, 3, 3, 3, 4, 4, 4, 4, 4, 4, 4, 4, 5, 5, 5, 5, 5, 5, 5, 5, 5, 5, 5, 5, 5, 5, 5, 5, 6, 6, 6, 6, 6, 6, 6, 6, 6, 6, 6, 6, 6, 6, 6, 6, 6, 6, 6, 6, 6, 6, 6, 6, 6, 6, 6, 6, 6, 6, 6, 6, 7, 7, 7, 7, 7, 7, 7, 7, 7, 7, 7, 7, 7, 7, 7, 7, 7, 7, 7, 7, 7, 7, 7, 7, 7, 7, 7, 7, 7, 7, 7, 7, 7, 7, 7, 7, 7, 7, 7, 7, 7, 7, 7, 7, 7, 7, 7, 7, 7, 7, 7, 7, 7, 7, 7, 7, 7, 7, 7, 7, 7, 7, 7, 7, 8, 8, 8, 8, 8, 8, 8, 8, 8, 8, 8, 8, 8, 8, 8, 8, 8, 8, 8, 8, 8, 8, 8, 8, 8, 8, 8, 8, 8, 8, 8, 8, 8, 8, 8, 8, 8, 8, 8, 8, 8, 8, 8, 8, 8, 8, 8, 8, 8, 8, 8, 8, 8, 8, 8, 8, 8, 8, 8, 8, 8, 8, 8, 8, 8, 8, 8, 8, 8, 8, 8, 8, 8, 8, 8, 8, 8, 8, 8, 8, 8, 8, 8, 8, 8, 8, 8, 8, 8, 8, 8, 8, 8, 8, 8, 8, 8, 8, 8, 8, 8, 8, 8, 8, 8, 8, 8, 8, 8, 8, 8, 8, 8, 8, 8, 8, 8, 8, 8, 8, 8, 8, 8, 8, 8, 8, 8, 8])
theorem lenTab_all : ((List.range 256).all fun i => match ix lenTab (i : Int) with
    | some v => decide (0 ≤ v ∧ v ≤ 8 ∧ i < 2 ^ v.toNat ∧ (i ≠ 0 → 2 ^ v.toNat ≤ 2 * i))
    | none => false) = true := by kernel_rfl
theorem lenTab_at {i : Nat} (h : i < 256) : ∃ v : Nat, ix lenTab (i : Int) = some (v : Int) ∧ v ≤ 8 ∧ i < 2 ^ v ∧ (i ≠ 0 → 2 ^ v ≤ 2 * i) := by
  have := List.all_eq_true.1 lenTab_all i (List.mem_range.2 h)
  cases hv : ix lenTab (i : Int) with
  | none => rw [hv] at this; cases this
  | some v =>
    rw [hv] at this
    simp only [decide_eq_true_eq] at this
    exact ⟨v.toNat, by rw [Int.toNat_of_nonneg this.1], by omega, this.2.2.1, this.2.2.2⟩
set_option maxRecDepth 100000 in
/-- How many bits a number has. -/
theorem len64 (k : Nat) {x : Nat} (hx : x < 18446744073709551616) (h0 : x ≠ 0) : ∃ n : Nat, g_mb_Len64 k (x : Int) = some (n : Int) ∧ n ≤ 64 ∧ x < 2 ^ n ∧ 2 ^ n ≤ 2 * x := by
  unfold g_mb_Len64
  have hl : ∀ z, ix (strInts (ByteArray.mk #[0, 1, 2, 2, 3, 3, 3, 3, 4, 4, 4, 4, 4, 4, 4, 4, 5, 5, 5, 5, 5, 5, 5, 5, 5, 5, 5, 5, 5, 5, 5, 5, 6, 6, 6, 6, 6, 6, 6, 6, 6, 6, 6, 6, 6, 6, 6, 6, 6, 6, 6, 6, 6, 6, 6, 6, 6, 6, 6, 6, 6, 6, 6, 6, 7, 7, 7, 7, 7, 7, 7, 7, 7, 7, 7, 7, 7, 7, 7, 7, 7, 7, 7, 7, 7, 7, 7, 7, 7, 7, 7, 7, 7, 7, 7, 7, 7, 7, 7, 7, 7, 7, 7, 7, 7, 7, 7, 7, 7, 7, 7, 7, 7, 7, 7, 7, 7, 7, 7, 7, 7, 7, 7, 7, 7, 7, 7, 7, 8, 8, 8, 8, 8, 8, 8, 8, 8, 8, 8, 8, 8, 8, 8, 8, 8, 8, 8, 8, 8, 8, 8, 8, 8, 8, 8, 8, 8, 8, 8, 8, 8, 8, 8, 8, 8, 8, 8, 8, 8, 8, 8, 8, 8, 8, 8, 8, 8, 8, 8, 8, 8, 8, 8, 8, 8, 8, 8, 8, 8, 8, 8, 8, 8, 8, 8, 8, 8, 8, 8, 8, 8, 8, 8, 8, 8, 8, 8, 8, 8, 8, 8, 8, 8, 8, 8, 8, 8, 8, 8, 8, 8, 8, 8, 8, 8, 8, 8, 8, 8, 8, 8, 8, 8, 8, 8, 8, 8, 8, 8, 8, 8, 8, 8, 8, 8, 8, 8, 8, 8, 8, 8, 8, 8, 8, 8, 8])) z = ix lenTab z := fun _ => rfl
  simp only [hl, bd]
  -- the three halvings
  obtain ⟨y, s, hy, hys, h1⟩ : ∃ y s : Nat, (if (4294967296 : Int) ≤ (x : Int) then some (shrI .u64 (x : Int) 32, (32 : Int)) else some ((x : Int), 0)) = some ((y : Int), (s : Int)) ∧ (s ≤ 32) ∧ y ≠ 0 ∧ y < 4294967296 ∧ y * 2 ^ s ≤ x ∧ x < (y + 1) * 2 ^ s := by
    by_cases h : (4294967296 : Int) ≤ (x : Int)
    · refine ⟨x / 4294967296, 32, ?_, by decide, ?_⟩
      · rw [if_pos h, shr32]; rfl
      · simp only [show (2 : Nat) ^ 32 = 4294967296 from rfl]; omega
    · exact ⟨x, 0, by rw [if_neg h]; rfl, by decide, by simp; omega⟩
  obtain ⟨z, t, hz, hzt, h2⟩ : ∃ z t : Nat, (if (65536 : Int) ≤ (y : Int) then some (shrI .u64 (y : Int) 16, IntKind.wrap .i64 ((s : Int) + 16)) else some ((y : Int), (s : Int))) = some ((z : Int), (t : Int)) ∧ (t ≤ 48) ∧ z ≠ 0 ∧ z < 65536 ∧ z * 2 ^ t ≤ x ∧ x < (z + 1) * 2 ^ t := by
    by_cases h : (65536 : Int) ≤ (y : Int)
    · refine ⟨y / 65536, s + 16, ?_, by omega, by omega, by omega, ?_, ?_⟩
      · rw [if_pos h, wi (by omega) (by omega), show (16 : Int) = ((16 : Nat) : Int) from rfl, shrN y (s := 16) (by decide)]; rfl
      · refine Nat.le_trans ?_ h1.2.2.1
        rw [Nat.pow_add, Nat.mul_comm (2 ^ s), ← Nat.mul_assoc]
        exact Nat.mul_le_mul_right _ (by simp only [show (2 : Nat) ^ 16 = 65536 from rfl]; omega)
      · refine Nat.lt_of_lt_of_le h1.2.2.2 ?_
        rw [Nat.pow_add, Nat.mul_comm (2 ^ s), ← Nat.mul_assoc]
        exact Nat.mul_le_mul_right _ (by simp only [show (2 : Nat) ^ 16 = 65536 from rfl]; omega)
    · exact ⟨y, s, by rw [if_neg h], by omega, by omega, by omega, h1.2.2⟩
  obtain ⟨u, v, hu, huv, h3⟩ : ∃ u v : Nat, (if (256 : Int) ≤ (z : Int) then some (shrI .u64 (z : Int) 8, IntKind.wrap .i64 ((t : Int) + 8)) else some ((z : Int), (t : Int))) = some ((u : Int), (v : Int)) ∧ (v ≤ 56) ∧ u ≠ 0 ∧ u < 256 ∧ u * 2 ^ v ≤ x ∧ x < (u + 1) * 2 ^ v := by
    by_cases h : (256 : Int) ≤ (z : Int)
    · refine ⟨z / 256, t + 8, ?_, by omega, by omega, by omega, ?_, ?_⟩
      · rw [if_pos h, wi (by omega) (by omega), show (8 : Int) = ((8 : Nat) : Int) from rfl, shrN z (s := 8) (by decide)]; rfl
      · refine Nat.le_trans ?_ h2.2.2.1
        rw [Nat.pow_add, Nat.mul_comm (2 ^ t), ← Nat.mul_assoc]
        exact Nat.mul_le_mul_right _ (by simp only [show (2 : Nat) ^ 8 = 256 from rfl]; omega)
      · refine Nat.lt_of_lt_of_le h2.2.2.2 ?_
        rw [Nat.pow_add, Nat.mul_comm (2 ^ t), ← Nat.mul_assoc]
        exact Nat.mul_le_mul_right _ (by simp only [show (2 : Nat) ^ 8 = 256 from rfl]; omega)
    · exact ⟨z, t, by rw [if_neg h], by omega, by omega, by omega, h2.2.2⟩
  obtain ⟨w, hw, hw8, hw1, hw2⟩ := lenTab_at h3.2.1
  refine ⟨v + w, ?_, by omega, ?_, ?_⟩
  · rw [hy, Option.bind_some, hz, Option.bind_some, hu, Option.bind_some, wu8 (by omega) (by omega), hw]
    simp only [Option.bind_some]
    rw [wi (n := (w : Int)) (by omega) (by omega), wi (by omega) (by omega)]
    simp
  · refine Nat.lt_of_lt_of_le h3.2.2.2 ?_
    rw [Nat.pow_add, Nat.mul_comm]
    exact Nat.mul_le_mul_left _ (by omega)
  · rw [Nat.pow_add, Nat.mul_comm]
    have := Nat.mul_le_mul_right (2 ^ v) (hw2 h3.1)
    have h4 := h3.2.2.1
    rw [Nat.mul_assoc] at this
    omega
theorem lz64 (k : Nat) {y : Nat} (hy : y < 18446744073709551616) (h0 : y ≠ 0) : ∃ s : Nat, g_mb_LeadingZeros64 k (y : Int) = some (s : Int) ∧ s ≤ 63 ∧ y * 2 ^ s < 18446744073709551616 ∧ 9223372036854775808 ≤ y * 2 ^ s := by
  obtain ⟨n, h1, h2, h3, h4⟩ := len64 k hy h0
  have hn : 1 ≤ n := by
    rcases Nat.eq_zero_or_pos n with rfl | h
    · simp at h3; omega
    · exact h
  refine ⟨64 - n, ?_, by omega, ?_, ?_⟩
  · unfold g_mb_LeadingZeros64
    rw [h1, Option.bind_some, wi (by omega) (by omega)]
    congr 1
    omega
  · have : y * 2 ^ (64 - n) < 2 ^ n * 2 ^ (64 - n) := Nat.mul_lt_mul_of_pos_right h3 (Nat.two_pow_pos _)
    rw [← Nat.pow_add, show n + (64 - n) = 64 by omega] at this
    exact this
  · have : 2 ^ n * 2 ^ (64 - n) ≤ 2 * y * 2 ^ (64 - n) := Nat.mul_le_mul_right _ h4
    rw [← Nat.pow_add, show n + (64 - n) = 64 by omega, Nat.mul_assoc] at this
    simp only [show (2 : Nat) ^ 64 = 18446744073709551616 from rfl] at this
    omega
end Go.Proofs.YthpcgknknpjpdaaGreatDoor.W
namespace Go.Proofs.YthpcgknknpjpdaaGreatDoor.W
open Go Go.Q Go.Proofs Go.Dz
set_option linter.unusedVariables false
set_option linter.unusedSimpArgs false
theorem div_l0 (k : Nat) {y e u : Nat} (hy : y < 18446744073709551616) (hn : 9223372036854775808 ≤ y) (he : e < 18446744073709551616) (hu : u < y) : ∀ (n q r : Nat), 4294967296 ≤ r + n * 2147483648 → r < 4294967296 → q * (y / 4294967296) + r = u → q ≤ 4294967297 → (u * 4294967296 + e / 4294967296) / y ≤ q →
    g_mb_Div64_l0 k (y : Int) (e : Int) n (q : Int) (r : Int) = some (((u * 4294967296 + e / 4294967296) / y : Nat) : Int) := by
  intro n
  induction n with
  | zero => intro q r h1 h2; omega
  | succ n ih =>
    intro q r h1 h2 h3 h4 h5
    rw [g_mb_Div64_l0.eq_2]
    have hyB : y / 4294967296 < 4294967296 := by omega
    have hd : e / 4294967296 < 4294967296 := by omega
    have hm : q * (y % 4294967296) ≤ 4294967297 * 4294967295 := Nat.mul_le_mul h4 (by omega)
    simp only [bd, and32 hy, shr32, Option.bind_some, ← Int.natCast_mul, ← Int.natCast_add]
    rw [wUl (n := q * (y % 4294967296)) (by omega), show (4294967296 : Int) * (r : Int) = ((4294967296 * r : Nat) : Int) from rfl, wUl (n := 4294967296 * r) (by omega), ← Int.natCast_add, wUl (n := 4294967296 * r + e / 4294967296) (by omega), wUl (n := r + y / 4294967296) (by omega)]
    have go : ∀ b : Bool, (b = decide (4294967296 ≤ q ∨ 4294967296 * r + e / 4294967296 < q * (y % 4294967296))) → ((some b).bind fun x437 => (bif x437 then (if (4294967296 : Int) ≤ ((r + y / 4294967296 : Nat) : Int) then some (IntKind.wrap .u64 ((q : Int) - 1)) else (g_mb_Div64_l0 k (y : Int) (e : Int) n (IntKind.wrap .u64 ((q : Int) - 1)) ((r + y / 4294967296 : Nat) : Int))) else some (q : Int))) = some (((u * 4294967296 + e / 4294967296) / y : Nat) : Int) := by
      rintro b rfl
      rw [Option.bind_some]
      by_cases hc : 4294967296 ≤ q ∨ 4294967296 * r + e / 4294967296 < q * (y % 4294967296)
      · rw [dt hc, bt]
        have hlt := est_gt (B := 4294967296) (by decide) hu hd h3 hc
        have hq : 1 ≤ q := Nat.lt_of_le_of_lt (Nat.zero_le _) hlt
        obtain ⟨q', rfl⟩ : ∃ q', q = q' + 1 := ⟨q - 1, by omega⟩
        have e3 : q' * (y / 4294967296) + (r + y / 4294967296) = u := by
          rw [Nat.add_mul] at h3; omega
        rw [show (((q' + 1 : Nat) : Int) - 1) = ((q' : Nat) : Int) by omega, wUl (n := q') (by omega)]
        by_cases hb : 4294967296 ≤ r + y / 4294967296
        · rw [if_pos (by omega)]
          have := est_stop (B := 4294967296) (y := y) (d := e / 4294967296) (by decide) (by omega) e3 (by omega) hb
          congr 1
          omega
        · rw [if_neg (by omega)]
          exact ih q' (r + y / 4294967296) (by omega) (by omega) e3 (by omega) (by omega)
      · rw [df hc, bf]
        have := est_le (B := 4294967296) (y := y) (u := u) (d := e / 4294967296) (q := q) (r := r) (by decide) (by omega) h3 (by omega)
        congr 1
        omega
    by_cases hq : 4294967296 ≤ q
    · rw [if_pos (by omega)]
      exact go true (by rw [dt (.inl hq)])
    · rw [if_neg (by omega)]
      refine go _ ?_
      congr 1
      exact propext ⟨fun h => .inr (by omega), fun h => by omega⟩
theorem div_l1 (k : Nat) {y e u : Nat} (hy : y < 18446744073709551616) (hn : 9223372036854775808 ≤ y) (he : e < 18446744073709551616) (hu : u < y) : ∀ (n q r : Nat), 4294967296 ≤ r + n * 2147483648 → r < 4294967296 → q * (y / 4294967296) + r = u → q ≤ 4294967297 → (u * 4294967296 + e % 4294967296) / y ≤ q →
    g_mb_Div64_l1 k (y : Int) (e : Int) n (r : Int) (q : Int) = some (((u * 4294967296 + e % 4294967296) / y : Nat) : Int) := by
  intro n
  induction n with
  | zero => intro q r h1 h2; omega
  | succ n ih =>
    intro q r h1 h2 h3 h4 h5
    rw [g_mb_Div64_l1.eq_2]
    have hyB : y / 4294967296 < 4294967296 := by omega
    have hd : e % 4294967296 < 4294967296 := by omega
    have hm : q * (y % 4294967296) ≤ 4294967297 * 4294967295 := Nat.mul_le_mul h4 (by omega)
    simp only [bd, and32 hy, and32 he, shr32, Option.bind_some, ← Int.natCast_mul, ← Int.natCast_add]
    rw [wUl (n := q * (y % 4294967296)) (by omega), show (4294967296 : Int) * (r : Int) = ((4294967296 * r : Nat) : Int) from rfl, wUl (n := 4294967296 * r) (by omega), ← Int.natCast_add, wUl (n := 4294967296 * r + e % 4294967296) (by omega), wUl (n := r + y / 4294967296) (by omega)]
    have go : ∀ b : Bool, (b = decide (4294967296 ≤ q ∨ 4294967296 * r + e % 4294967296 < q * (y % 4294967296))) → ((some b).bind fun x437 => (bif x437 then (if (4294967296 : Int) ≤ ((r + y / 4294967296 : Nat) : Int) then some (IntKind.wrap .u64 ((q : Int) - 1)) else (g_mb_Div64_l1 k (y : Int) (e : Int) n ((r + y / 4294967296 : Nat) : Int) (IntKind.wrap .u64 ((q : Int) - 1)))) else some (q : Int))) = some (((u * 4294967296 + e % 4294967296) / y : Nat) : Int) := by
      rintro b rfl
      rw [Option.bind_some]
      by_cases hc : 4294967296 ≤ q ∨ 4294967296 * r + e % 4294967296 < q * (y % 4294967296)
      · rw [dt hc, bt]
        have hlt := est_gt (B := 4294967296) (by decide) hu hd h3 hc
        have hq : 1 ≤ q := Nat.lt_of_le_of_lt (Nat.zero_le _) hlt
        obtain ⟨q', rfl⟩ : ∃ q', q = q' + 1 := ⟨q - 1, by omega⟩
        have e3 : q' * (y / 4294967296) + (r + y / 4294967296) = u := by
          rw [Nat.add_mul] at h3; omega
        rw [show (((q' + 1 : Nat) : Int) - 1) = ((q' : Nat) : Int) by omega, wUl (n := q') (by omega)]
        by_cases hb : 4294967296 ≤ r + y / 4294967296
        · rw [if_pos (by omega)]
          have := est_stop (B := 4294967296) (y := y) (d := e % 4294967296) (by decide) (by omega) e3 (by omega) hb
          congr 1
          omega
        · rw [if_neg (by omega)]
          exact ih q' (r + y / 4294967296) (by omega) (by omega) e3 (by omega) (by omega)
      · rw [df hc, bf]
        have := est_le (B := 4294967296) (y := y) (u := u) (d := e % 4294967296) (q := q) (r := r) (by decide) (by omega) h3 (by omega)
        congr 1
        omega
    by_cases hq : 4294967296 ≤ q
    · rw [if_pos (by omega)]
      exact go true (by rw [dt (.inl hq)])
    · rw [if_neg (by omega)]
      refine go _ ?_
      congr 1
      exact propext ⟨fun h => .inr (by omega), fun h => by omega⟩
theorem digit_lt {y u d : Nat} (hu : u < y) (hd : d < 4294967296) : (u * 4294967296 + d) / y < 4294967296 := by
  rw [Nat.div_lt_iff_lt_mul (by omega)]
  have : (u + 1) * 4294967296 ≤ y * 4294967296 := Nat.mul_le_mul_right _ hu
  omega
/-- A quotient of twice as many bits. -/
theorem div64 (k : Nat) (hk : 3 ≤ k) {hi lo y : Nat} (hlo : lo < 18446744073709551616) (hy : y < 18446744073709551616) (h : hi < y) : g_mb_Div64 k (hi : Int) (lo : Int) (y : Int) =
    some ((((hi * 18446744073709551616 + lo) / y : Nat) : Int), (((hi * 18446744073709551616 + lo) % y : Nat) : Int)) := by
  unfold g_mb_Div64
  simp only [bd]
  rw [if_neg (show ¬ ((y : Int) = 0) by omega), if_neg (show ¬ ((y : Int) ≤ (hi : Int)) by omega)]
  by_cases h0 : hi = 0
  · subst h0
    have e0 : ((y : Int) == 0) = false := by rw [beq_eq_false_iff_ne]; omega
    rw [if_pos (show ((0 : Nat) : Int) = 0 from rfl), e0]
    simp only [Bool.not_false, cond_true, td, tm, Nat.zero_mul, Nat.zero_add]
    have : lo / y ≤ lo := Nat.div_le_self _ _
    rw [wUl (by omega)]
  · rw [if_neg (by omega)]
    obtain ⟨s, h1, h2, h3, h4⟩ := lz64 k hy (by omega)
    rw [h1, Option.bind_some, wUl (n := s) (by omega)]
    simp only [if_pos (show (0 : Int) ≤ (s : Int) by omega), Option.bind_some, shlN _ (show s ≤ 64 by omega)]
    have e64 : IntKind.wrap .u64 (64 - (s : Int)) = ((64 - s : Nat) : Int) := by
      rw [show (64 - (s : Int)) = ((64 - s : Nat) : Int) by omega, wUl (by omega)]
    rw [e64]
    simp only [if_pos (show (0 : Int) ≤ ((64 - s : Nat) : Int) by omega), shrN _ (show 64 - s ≤ 64 by omega)]
    rw [Nat.mod_eq_of_lt h3]
    have hp : 2 ^ s * 2 ^ (64 - s) = 18446744073709551616 := by rw [← Nat.pow_add, show s + (64 - s) = 64 by omega]
    have hps := Nat.two_pow_pos s
    have hhi : hi * 2 ^ s < y * 2 ^ s := Nat.mul_lt_mul_of_pos_right h hps
    -- the number, moved to the left
    have hlos : lo * 2 ^ s = lo / 2 ^ (64 - s) * 18446744073709551616 + lo * 2 ^ s % 18446744073709551616 := by
      have e1 : lo * 2 ^ s / 18446744073709551616 = lo / 2 ^ (64 - s) := by
        rw [← hp, Nat.mul_comm lo, Nat.mul_div_mul_left _ _ hps]
      rw [← e1]; omega
    have hloq : lo / 2 ^ (64 - s) < 2 ^ s := by
      rw [Nat.div_lt_iff_lt_mul (Nat.two_pow_pos _), hp]; exact hlo
    rw [Nat.mod_eq_of_lt (show hi * 2 ^ s < 18446744073709551616 by omega), orN (show hi * 2 ^ s < 18446744073709551616 by omega) hloq (by have : lo / 2 ^ (64 - s) ≤ lo := Nat.div_le_self _ _; omega)]
    have hN : (hi * 18446744073709551616 + lo) * 2 ^ s = (hi * 2 ^ s + lo / 2 ^ (64 - s)) * 18446744073709551616 + lo * 2 ^ s % 18446744073709551616 := by
      rw [Nat.add_mul, Nat.mul_right_comm, Nat.add_mul]; omega
    have hu : hi * 2 ^ s + lo / 2 ^ (64 - s) < y * 2 ^ s := by
      have : (hi + 1) * 2 ^ s ≤ y * 2 ^ s := Nat.mul_le_mul_right _ h
      rw [Nat.add_mul] at this
      omega
    have hq : (hi * 18446744073709551616 + lo) / y = (hi * 18446744073709551616 + lo) * 2 ^ s / (y * 2 ^ s) := (Nat.mul_div_mul_right _ _ hps).symm
    have hr : (hi * 18446744073709551616 + lo) % y * 2 ^ s = (hi * 18446744073709551616 + lo) * 2 ^ s % (y * 2 ^ s) := (Nat.mul_mod_mul_right _ _ _).symm
    rw [hN] at hq hr
    have he : lo * 2 ^ s % 18446744073709551616 < 18446744073709551616 := Nat.mod_lt _ (by decide)
    have hrs : (hi * 18446744073709551616 + lo) % y = ((hi * 2 ^ s + lo / 2 ^ (64 - s)) * 18446744073709551616 + lo * 2 ^ s % 18446744073709551616) % (y * 2 ^ s) / 2 ^ s := by
      rw [← hr, Nat.mul_div_cancel _ hps]
    rw [hq, hrs]
    clear hq hr hrs hN hhi hlos hloq
    generalize hi * 2 ^ s + lo / 2 ^ (64 - s) = u at *
    generalize lo * 2 ^ s % 18446744073709551616 = e at *
    generalize y * 2 ^ s = z at *
    have hzB : z / 4294967296 < 4294967296 := by omega
    have hz1 : 2147483648 ≤ z / 4294967296 := by omega
    have ez : (((z / 4294967296 : Nat) : Int) == 0) = false := by rw [beq_eq_false_iff_ne]; omega
    -- one digit
    have dig : ∀ (v d : Nat), v < z → d < 4294967296 → (v / (z / 4294967296) ≤ 4294967297) ∧ (v * 4294967296 + d) / z ≤ v / (z / 4294967296) ∧ v / (z / 4294967296) * (z / 4294967296) + (v - v / (z / 4294967296) * (z / 4294967296)) = v ∧ v - v / (z / 4294967296) * (z / 4294967296) < 4294967296 ∧ v / (z / 4294967296) * (z / 4294967296) ≤ v := by
      intro v d hv hd
      have a1 := est_first (B := 4294967296) hv (by decide) (by omega)
      have a2 := est_ge (B := 4294967296) (y := z) (u := v) (d := d) (by decide) (by omega) hd
      have a3 := Nat.div_mul_le_self v (z / 4294967296)
      have a4 : v % (z / 4294967296) < z / 4294967296 := Nat.mod_lt _ (by omega)
      have a5 := Nat.div_add_mod v (z / 4294967296)
      rw [Nat.mul_comm] at a5
      exact ⟨a1, a2, by omega, by omega, a3⟩
    have step : ∀ (v d : Nat), v < z → d < 4294967296 → (v * 4294967296 + d) / z * z + (v * 4294967296 + d) % z = v * 4294967296 + d ∧ (v * 4294967296 + d) % z < z := by
      intro v d hv hd
      have := Nat.div_add_mod (v * 4294967296 + d) z
      rw [Nat.mul_comm] at this
      exact ⟨this, Nat.mod_lt _ (by omega)⟩
    have modU : ∀ (v d q : Nat), v < z → d < 4294967296 → q = (v * 4294967296 + d) / z → IntKind.wrap .u64 (IntKind.wrap .u64 ((IntKind.wrap .u64 ((v : Int) * 4294967296)) + (d : Int)) - IntKind.wrap .u64 (((q : Nat) : Int) * ((z : Nat) : Int))) = (((v * 4294967296 + d) % z : Nat) : Int) := by
      intro v d q hv hd hq
      obtain ⟨s1, s2⟩ := step v d hv hd
      rw [← hq] at s1
      rw [← Int.natCast_mul]
      simp only [wUi]
      generalize q * z = m at *
      generalize (v * 4294967296 + d) % z = w at *
      omega
    obtain ⟨d1, d2, d3, d4, d5⟩ := dig u (e / 4294967296) hu (by omega)
    rw [shr32, ez]
    simp only [Bool.not_false, cond_true, td]
    rw [wUl (n := u / (z / 4294967296)) (by omega)]
    simp only [Option.bind_some, ← Int.natCast_mul]
    rw [wUl (n := u / (z / 4294967296) * (z / 4294967296)) (by omega), show ((u : Int) - ((u / (z / 4294967296) * (z / 4294967296) : Nat) : Int)) = ((u - u / (z / 4294967296) * (z / 4294967296) : Nat) : Int) by omega, wUl (n := u - _) (by omega)]
    rw [div_l0 k h3 h4 he hu k _ _ (by omega) d4 d3 d1 d2]
    simp only [Option.bind_some, shr32]
    have m1 := modU u (e / 4294967296) _ hu (by omega) rfl
    rw [m1]
    obtain ⟨s1, s2⟩ := step u (e / 4294967296) hu (by omega)
    have g1 := digit_lt hu (show e / 4294967296 < 4294967296 by omega)
    have t := two_digits (B := 4294967296) (y := z) (u := u) (d1 := e / 4294967296) (d0 := e % 4294967296) (by omega)
    have eN : (u * 4294967296 + e / 4294967296) * 4294967296 + e % 4294967296 = u * 18446744073709551616 + e := by omega
    rw [eN] at t
    rw [t.1, t.2]
    clear t eN m1 s1
    obtain ⟨v, hv⟩ : ∃ v, v = (u * 4294967296 + e / 4294967296) % z := ⟨_, rfl⟩
    obtain ⟨q1, hq1⟩ : ∃ v, v = (u * 4294967296 + e / 4294967296) / z := ⟨_, rfl⟩
    rw [← hv] at s2
    rw [← hq1] at g1
    rw [← hv, ← hq1]
    clear d1 d2 d3 d4 d5 hv hq1
    obtain ⟨c1, c2, c3, c4, c5⟩ := dig v (e % 4294967296) s2 (by omega)
    simp only [td]
    rw [wUl (n := v / (z / 4294967296)) (by omega)]
    simp only [Option.bind_some, ← Int.natCast_mul]
    rw [wUl (n := v / (z / 4294967296) * (z / 4294967296)) (by omega), show ((v : Int) - ((v / (z / 4294967296) * (z / 4294967296) : Nat) : Int)) = ((v - v / (z / 4294967296) * (z / 4294967296) : Nat) : Int) by omega, wUl (n := v - _) (by omega)]
    rw [div_l1 k h3 h4 he s2 k _ _ (by omega) c4 c3 c1 c2]
    simp only [Option.bind_some, and32 he]
    have m2 := modU v (e % 4294967296) _ s2 (by omega) rfl
    have g2 := digit_lt s2 (show e % 4294967296 < 4294967296 by omega)
    rw [m2, shrN _ (by omega)]
    obtain ⟨q0, hq0⟩ : ∃ w, w = (v * 4294967296 + e % 4294967296) / z := ⟨_, rfl⟩
    rw [← hq0] at g2
    rw [← hq0]
    clear c1 c2 c3 c4 c5 m2
    have f1 : (q1 : Int) * 4294967296 = ((q1 * 4294967296 : Nat) : Int) := by simp
    have f2 : IntKind.wrap .u64 ((q1 : Int) * 4294967296) = ((q1 * 4294967296 : Nat) : Int) := by rw [f1]; exact wUl (by omega)
    have f3 : IntKind.wrap .u64 (IntKind.wrap .u64 ((q1 : Int) * 4294967296) + (q0 : Int)) = ((q1 * 4294967296 + q0 : Nat) : Int) := by rw [f2, ← Int.natCast_add]; exact wUl (by omega)
    rw [f3]
end Go.Proofs.YthpcgknknpjpdaaGreatDoor.W
namespace Go.Proofs.YthpcgknknpjpdaaGreatDoor.W
open Go Go.Q Go.Proofs Go.Dz
set_option linter.unusedVariables false
set_option linter.unusedSimpArgs false
/-- The halves of a number. -/
def wh (v : Nat) : Int := ((v / 18446744073709551616 : Nat) : Int)
def wl (v : Nat) : Int := ((v % 18446744073709551616 : Nat) : Int)
/-- Two to the 128. -/
abbrev UU : Nat := 340282366920938463463374607431768211456
theorem wh_small {v : Nat} (h : v < 18446744073709551616) : wh v = 0 := by unfold wh; rw [Nat.div_eq_of_lt h]; rfl
theorem wl_small {v : Nat} (h : v < 18446744073709551616) : wl v = (v : Int) := by unfold wl; rw [Nat.mod_eq_of_lt h]
theorem wh_lt {v : Nat} (h : v < UU) : v / 18446744073709551616 < 18446744073709551616 := by unfold UU at h; omega
theorem wide_zero (k : Nat) (a b : Int) : g_dec_wide_zero k a b = some () := rfl
theorem wide_or {v : Nat} (h : v < UU) : (bits .or .u64 (wh v) (wl v) = 0) ↔ v = 0 := by
  unfold wh wl
  rw [or0 (wh_lt h) (Nat.mod_lt _ (by decide))]
  omega
theorem add64_eq (a b c : Nat) : add64 (a : Int) (b : Int) (c : Int) = (((((a + b + c) % 18446744073709551616 : Nat)) : Int), (((a + b + c) / 18446744073709551616 : Nat) : Int)) := by
  simp [add64, Extern.MathBitsCarry.m64]
theorem wide_times (k : Nat) {v n : Nat} (hv : v < UU) (hn : n < 4294967296) : ∃ x : Int, g_dec_wide_times k (wh v) (wl v) (n : Int) = some (decide (v * n < UU), x) ∧ (v * n < UU → x = wh (v * n)) := by
  unfold g_dec_wide_times
  have h1 := wh_lt hv
  have h2 := Nat.mod_lt v (show 0 < 18446744073709551616 by decide)
  have e : v = v / 18446744073709551616 * 18446744073709551616 + v % 18446744073709551616 := by omega
  unfold wh wl
  rw [mul64 k h2 (by omega), Option.bind_some, mul64 k h1 (by omega), Option.bind_some, ← Int.natCast_mul, wU, show (0 : Int) = ((0 : Nat) : Int) from rfl, add64_eq]
  generalize hA : v / 18446744073709551616 = a at *
  generalize hB : v % 18446744073709551616 = b at *
  have hp : a * n ≤ 18446744073709551615 * n := Nat.mul_le_mul_right _ (by omega)
  have hq : b * n ≤ 18446744073709551615 * n := Nat.mul_le_mul_right _ (by omega)
  have ev : v * n = a * n * 18446744073709551616 + b * n := by rw [e, Nat.add_mul, Nat.mul_right_comm]
  rw [ev]
  simp only [Option.bind_some]
  have hov : a * n / 18446744073709551616 ≤ 4294967295 := by omega
  generalize a * n = p at *
  generalize b * n = q at *
  rw [← Int.natCast_add, wUl (by omega)]
  refine ⟨(((q / 18446744073709551616 + p % 18446744073709551616 + 0) % 18446744073709551616 : Nat) : Int), ?_, fun hlt => ?_⟩
  · refine congrArg some (Prod.ext ?_ rfl)
    simp only [decide_eq_decide]
    unfold UU
    omega
  · unfold UU at hlt
    congr 1
    omega
theorem wide_times_lo {v n : Nat} : IntKind.wrap .u64 (wl v * (n : Int)) = wl (v * n) := by
  unfold wl
  rw [← Int.natCast_mul, wU]
  congr 1
  simp [Nat.mul_mod]
/-- One digit off. -/
theorem wide_by (k : Nat) (hk : 3 ≤ k) {v : Nat} (hv : v < UU) : g_dec_wide_by k (wh v) (wl v) 10 = some (((v % 10 : Nat) : Int), wh (v / 10), wl (v / 10)) := by
  unfold g_dec_wide_by
  have h1 := wh_lt hv
  have h2 := Nat.mod_lt v (show 0 < 18446744073709551616 by decide)
  unfold wh wl
  have d1 := div64 k hk (hi := 0) (lo := v / 18446744073709551616) (y := 10) h1 (by decide) (by decide)
  rw [show ((0 : Nat) : Int) = 0 from rfl, show ((10 : Nat) : Int) = 10 from rfl] at d1
  rw [d1, Option.bind_some]
  simp only [Nat.zero_mul, Nat.zero_add]
  have d2 := div64 k hk (hi := v / 18446744073709551616 % 10) (lo := v % 18446744073709551616) (y := 10) h2 (by decide) (Nat.mod_lt _ (by decide))
  rw [show ((10 : Nat) : Int) = 10 from rfl] at d2
  rw [d2, Option.bind_some]
  congr 2
  · congr 1; omega
  · congr 2
    · omega
    · omega
/-- Times ten, so often. -/
theorem wide_tens_l0 (k : Nat) {m : Nat} : ∀ (n i v : Nat), i ≤ m → m - i + 1 < n → m < 1000000 → v < UU → ∃ (b : Bool) (x y : Int), g_dec_wide_tens_l0 k (m : Int) n true (i : Int) (wh v) (wl v) = some (b, x, y) ∧
    (b = true → v * 10 ^ (m - i) < UU ∧ x = wh (v * 10 ^ (m - i)) ∧ y = wl (v * 10 ^ (m - i))) ∧ (b = false → UU ≤ v * 10 ^ (m - i)) := by
  intro n
  induction n with
  | zero => intro i v _ h; omega
  | succ n ih =>
    intro i v hi hn hm hv
    rw [g_dec_wide_tens_l0.eq_2]
    simp only [bd, wide_zero, Option.bind_some, cond_true]
    by_cases him : i < m
    · rw [if_pos (by omega), Option.bind_some]
      by_cases h0 : v = 0
      · rw [dt ((wide_or hv).2 h0)]
        refine ⟨true, wh v, wl v, rfl, fun _ => ?_, fun h => by cases h⟩
        rw [h0]; simp
      · rw [df (fun h => h0 ((wide_or hv).1 h))]
        obtain ⟨x, h1, h2⟩ := wide_times k hv (n := 10) (by decide)
        simp only [Bool.not_false, cond_true]
        rw [show (10 : Int) = ((10 : Nat) : Int) from rfl, h1, Option.bind_some, wi (by omega) (by omega), wide_times_lo]
        by_cases hlt : v * 10 < UU
        · rw [dt hlt, h2 hlt, show ((i : Int) + 1) = ((i + 1 : Nat) : Int) by omega]
          have e : v * 10 ^ (m - i) = v * 10 * 10 ^ (m - (i + 1)) := by
            rw [show m - i = (m - (i + 1)) + 1 by omega, Nat.pow_succ, Nat.mul_assoc, Nat.mul_comm 10]
          rw [e]
          exact ih (i + 1) (v * 10) (by omega) (by omega) hm hlt
        · rw [df hlt]
          have hbig : UU ≤ v * 10 ^ (m - i) := by
            obtain ⟨j, hj⟩ : ∃ j, m - i = j + 1 := ⟨m - i - 1, by omega⟩
            rw [hj, Nat.pow_succ, Nat.mul_comm (10 ^ j), ← Nat.mul_assoc]
            exact Nat.le_trans (Nat.le_of_not_lt hlt) (Nat.le_mul_of_pos_right _ (Nat.pow_pos (by decide)))
          obtain ⟨n', rfl⟩ : ∃ n', n = n' + 1 := ⟨n - 1, by omega⟩
          rw [g_dec_wide_tens_l0.eq_2]
          refine ⟨false, x, wl (v * 10), ?_, (fun h => by cases h), fun _ => hbig⟩
          simp only [cond_false, bd]
          split <;> rfl
    · rw [if_neg (by omega)]
      refine ⟨true, wh v, wl v, rfl, fun _ => ?_, fun h => by cases h⟩
      rw [show m - i = 0 by omega]; simp [hv]
theorem wide_tens (k : Nat) {v m : Nat} (hv : v < UU) (hm : m < 1000000) (hk : m + 2 ≤ k) : ∃ (b : Bool) (x y : Int), g_dec_wide_tens k (wh v) (wl v) (m : Int) = some (b, x, y) ∧
    (b = true → v * 10 ^ m < UU ∧ x = wh (v * 10 ^ m) ∧ y = wl (v * 10 ^ m)) ∧ (b = false → UU ≤ v * 10 ^ m) := by
  unfold g_dec_wide_tens
  obtain ⟨b, x, y, h1, h2, h3⟩ := wide_tens_l0 k (m := m) k 0 v (Nat.zero_le _) (by omega) hm hv
  rw [show ((0 : Nat) : Int) = 0 from rfl] at h1
  rw [h1]
  exact ⟨b, x, y, rfl, h2, h3⟩
/-- Which is more. -/
def cmpN (v w : Nat) : Int := if v = w then 0 else if v < w then -1 else 1
theorem wide_plus (k : Nat) {v w : Nat} (hv : v < UU) (hw : w < UU) : g_dec_wide_plus k (wh v) (wl v) (wh w) (wl w) = some (decide (v + w < UU)) := by
  unfold g_dec_wide_plus
  have h1 := wh_lt hv
  have h2 := wh_lt hw
  unfold wh wl
  rw [show (0 : Int) = ((0 : Nat) : Int) from rfl, add64_eq]
  simp only
  rw [add64_eq]
  simp only [Int.toNat_natCast, bd]
  rw [if_pos (by omega), Option.bind_some]
  congr 1
  rw [decide_eq_decide]
  unfold UU
  omega
theorem wide_plus_val {v w : Nat} (hv : v < UU) (hw : w < UU) (h : v + w < UU) : (add64 (wh v) (wh w) ((add64 (wl v) (wl w) 0).2)).1 = wh (v + w) ∧ (add64 (wl v) (wl w) 0).1 = wl (v + w) := by
  have h1 := wh_lt hv
  have h2 := wh_lt hw
  unfold wh wl
  rw [show (0 : Int) = ((0 : Nat) : Int) from rfl, add64_eq]
  simp only
  rw [add64_eq]
  simp only
  unfold UU at h
  constructor
  · congr 1; omega
  · congr 1; omega
end Go.Proofs.YthpcgknknpjpdaaGreatDoor.W
namespace Go.Proofs.YthpcgknknpjpdaaGreatDoor.W
open Go Go.Q Go.Proofs Go.Dz
set_option linter.unusedVariables false
set_option linter.unusedSimpArgs false
def sgn (neg : Bool) (v : Nat) : Int := if neg then -(v : Int) else (v : Int)
theorem sgn_mul {neg : Bool} {v w : Nat} : sgn neg (v * w) = sgn neg v * (w : Int) := by
  cases neg <;> simp [sgn, Int.neg_mul]
theorem sgn_zero {neg : Bool} : sgn neg 0 = 0 := by cases neg <;> simp [sgn]
theorem sgn_ne {neg : Bool} {v : Nat} (h : v ≠ 0) : sgn neg v ≠ 0 := by cases neg <;> simp [sgn] <;> omega
theorem sgn_dvd {neg : Bool} {v : Nat} : (10 : Int) ∣ sgn neg v ↔ v % 10 = 0 := by
  cases neg <;> simp [sgn] <;> omega
theorem sgn_abs {neg : Bool} {v : Nat} : (sgn neg v).natAbs = v := by cases neg <;> simp [sgn]
theorem tell_l0 (k : Nat) (hk : 3 ≤ k) : ∀ (d n v : Nat) (e : Int), d ≤ n → v ≠ 0 → v < UU → v < 10 ^ d → -4000 ≤ e → e + d ≤ 5000 → ∃ (w j : Nat), v = w * 10 ^ j ∧ w % 10 ≠ 0 ∧ j ≤ d ∧
    g_dec_num_tell_l0 k n ((v % 10 : Nat) : Int) (wh v) (wl v) e (wh (v / 10)) (wl (v / 10)) = some (wh w, wl w, e + j) := by
  intro d
  induction d with
  | zero => intro n v e _ h0 _ h; simp at h; omega
  | succ d ih =>
    intro n v e hdn h0 hU h he1 he2
    obtain ⟨n, rfl⟩ : ∃ n', n = n' + 1 := ⟨n - 1, by omega⟩
    rw [g_dec_num_tell_l0.eq_2]
    simp only [bd]
    by_cases hr : v % 10 = 0
    · rw [if_pos (by omega), wide_by k hk (v := v / 10) (by unfold UU at *; omega), Option.bind_some]
      rw [Nat.pow_succ] at h
      obtain ⟨w, j, h1, h2, h3, h4⟩ := ih n (v / 10) (e + 1) (by omega) (by omega) (by unfold UU at *; omega) (by omega) (by omega) (by omega)
      refine ⟨w, j + 1, ?_, h2, by omega, ?_⟩
      · rw [Nat.pow_succ, ← Nat.mul_assoc, ← h1]; omega
      · rw [wi (by omega) (by omega)]
        simp only
        rw [h4]
        congr 3
        omega
    · rw [if_neg (by omega)]
      exact ⟨v, 0, by simp, hr, by omega, by simp⟩
/-- The greatest size. -/
def topN (neg : Bool) : Nat := if neg then 9223372036854775808 else 9223372036854775807
theorem in_range {neg : Bool} {w : Nat} : (-9223372036854775808 ≤ sgn neg w ∧ sgn neg w ≤ 9223372036854775807) ↔ w ≤ topN neg := by
  cases neg <;> simp [sgn, topN] <;> omega
theorem neg_wrap {u : Nat} (h : u ≤ 9223372036854775808) : IntKind.wrap .i64 (0 - (IntKind.wrap .i64 (u : Int))) = -(u : Int) := by
  rw [IntKind.wrap_i64, IntKind.wrap_i64]; omega
theorem num_tell (k : Nat) (hk : 60 ≤ k) {neg : Bool} {v : Nat} {e : Int} (hv : v < UU) (he1 : -4000 ≤ e) (he2 : e ≤ 4000) : ∃ er c x : Int, g_dec_num_tell k neg (wh v) (wl v) e = some (er, c, x) ∧ Tells (· = val (sgn neg v) e) ((c, x), er) := by
  unfold g_dec_num_tell
  simp only [wide_zero, Option.bind_some, bd]
  by_cases h0 : v = 0
  · rw [if_pos ((wide_or hv).2 h0)]
    refine ⟨0, 0, 0, rfl, ?_⟩
    rw [h0, sgn_zero]
    exact tells_zero
  · rw [if_neg (fun h => h0 ((wide_or hv).1 h)), wide_by k (by omega) hv, Option.bind_some]
    obtain ⟨w, j, h1, h2, h3, h4⟩ := tell_l0 k (by omega) 39 k v e (by omega) h0 hv (Nat.lt_of_lt_of_le hv (by decide)) (by omega) (by omega)
    simp only
    rw [h4, Option.bind_some]
    have hwv : w ≤ v := by rw [h1]; exact Nat.le_mul_of_pos_right _ (Nat.pow_pos (by decide))
    have hw : w < UU := Nat.lt_of_le_of_lt hwv hv
    have hw0 : w ≠ 0 := by rintro rfl; simp at h2
    have hval : val (sgn neg v) e = val (sgn neg w) (e + j) := by
      rw [h1, sgn_mul]
      have : ((10 ^ j : Nat) : Int) = (10 : Int) ^ j := by simp
      rw [this, val_shift (by omega)]
    rw [hval]
    have hm : sgn neg w ≠ 0 := sgn_ne hw0
    have hd : ¬ (10 : Int) ∣ sgn neg w := fun h => h2 (sgn_dvd.1 h)
    clear hval h1 h4 h0 hv hwv
    generalize he' : e + (j : Int) = f at *
    have hf : -4000 ≤ f ∧ f ≤ 4039 := by omega
    clear he' he1 he2 h3
    -- what comes behind the size is known
    have top : ((bif neg then some (IntKind.wrap .u64 (9223372036854775807 + 1)) else some 9223372036854775807) : Option Int) = some ((topN neg : Nat) : Int) := by
      cases neg
      · rfl
      · simp only [cond_true]
        have : IntKind.wrap .u64 (9223372036854775807 + 1) = 9223372036854775808 := by decide
        rw [this]; rfl
    have fin : ∀ (u t : Nat) (x : Int), u = w * 10 ^ t → u < UU → x = (if f > 18 then 18 else f) → (t : Int) = f - x → ∃ er c x' : Int,
        (((bif (!true) then some true else if x < -18 then some true else if 0 < wh u then some true else some (decide (((topN neg : Nat) : Int) < wl u))) : Option Bool).bind fun x889 =>
          bif x889 then some (30, 0, 0) else (((bif neg then some (IntKind.wrap .i64 (0 - (IntKind.wrap .i64 (wl u)))) else some (IntKind.wrap .i64 (wl u))) : Option Int).bind fun x897 => some (0, x897, x))) = some (er, c, x') ∧ Tells (· = val (sgn neg w) f) ((c, x'), er) := by
      intro u t x hu huU hx ht
      have hsu : sgn neg u = sgn neg w * 10 ^ (f - x).toNat := by
        rw [hu, sgn_mul, show (f - x).toNat = t by omega]; simp
      rw [Bool.not_true, bf]
      by_cases hx18 : x < -18
      · rw [if_pos hx18, Option.bind_some, bt]
        refine ⟨30, 0, 0, rfl, tells_none hm hd (by omega) (.inl ?_)⟩
        split at hx <;> omega
      · rw [if_neg hx18]
        have hb : ((if 0 < wh u then some true else some (decide (((topN neg : Nat) : Int) < wl u))) : Option Bool) = some (decide (topN neg < u)) := by
          have htn : topN neg < 18446744073709551616 := by unfold topN; split <;> decide
          unfold wh wl
          by_cases hh : u / 18446744073709551616 = 0
          · rw [if_neg (by omega)]
            congr 1
            rw [decide_eq_decide]
            omega
          · rw [if_pos (by omega), dt (by omega)]
        rw [hb, Option.bind_some]
        by_cases hu2 : topN neg < u
        · rw [dt hu2, bt]
          refine ⟨30, 0, 0, rfl, ?_⟩
          have hnr : ¬ (-9223372036854775808 ≤ sgn neg u ∧ sgn neg u ≤ 9223372036854775807) := by rw [in_range]; omega
          by_cases hf18 : f > 18
          · rw [if_pos hf18] at hx
            subst hx
            rw [hsu] at hnr
            exact tells_none hm hd (by omega) (.inr hnr)
          · rw [if_neg hf18] at hx
            subst hx
            have ht0 : t = 0 := by omega
            subst ht0
            rw [hsu] at hnr
            refine tells_none hm hd (by omega) (.inr ?_)
            rw [show (x - 18).toNat = (x - x).toNat by omega]
            exact hnr
        · rw [df hu2, bf]
          have hr := in_range.2 (Nat.le_of_not_lt hu2)
          have ht2 : topN neg ≤ 9223372036854775808 := by unfold topN; split <;> decide
          rw [wl_small (show u < 18446744073709551616 by omega)]
          refine ⟨0, sgn neg u, x, ?_, tells_some hm hd (by omega) ⟨hx, hsu, by omega, hr.1, hr.2⟩⟩
          cases neg
          · simp only [sgn, Bool.false_eq_true, if_false] at hr ⊢
            rw [bf, wi (n := (u : Int)) (by omega) (by omega)]; rfl
          · simp only [sgn, if_true, cond_true, Option.bind_some] at hr ⊢
            rw [neg_wrap (Nat.le_trans (Nat.le_of_not_lt hu2) ht2)]
    by_cases hf18 : 18 < f
    · rw [if_pos hf18, wi (n := f - 18) (by omega) (by omega)]
      obtain ⟨m, hm40⟩ : ∃ m : Nat, (if (40 : Int) < f - 18 then (40 : Int) else f - 18) = (m : Int) := ⟨(if (40 : Int) < f - 18 then (40 : Int) else f - 18).toNat, by split <;> omega⟩
      have hm' : (f ≤ 58 ∧ (m : Int) = f - 18) ∨ (58 < f ∧ m = 40) := by split at hm40 <;> omega
      rw [hm40]
      simp only [Option.bind_some]
      obtain ⟨b, x, y, t1, t2, t3⟩ := wide_tens k (m := m) hw (by omega) (by omega)
      rw [t1]
      simp only [Option.bind_some]
      -- too great
      have big : UU ≤ w * 10 ^ (f - 18).toNat → Tells (· = val (sgn neg w) f) ((0, 0), 30) := by
        intro hb
        refine tells_none hm hd (by omega) (.inr ?_)
        have : sgn neg w * 10 ^ (f - 18).toNat = sgn neg (w * 10 ^ (f - 18).toNat) := by rw [sgn_mul]; simp
        rw [this, in_range]
        unfold UU at hb
        have ht2 : topN neg ≤ 9223372036854775808 := by unfold topN; split <;> decide
        omega
      by_cases hf58 : 58 < f
      · rw [if_pos hf58, Option.bind_some]
        simp only [top, Option.bind_some, Bool.not_false, cond_true]
        refine ⟨30, 0, 0, rfl, big ?_⟩
        have h41 : 10 ^ 41 ≤ 10 ^ (f - 18).toNat := Nat.pow_le_pow_right (by decide) (by omega)
        have : 1 * 10 ^ 41 ≤ w * 10 ^ (f - 18).toNat := Nat.mul_le_mul (by omega) h41
        exact Nat.le_trans (by decide) this
      · rw [if_neg hf58, Option.bind_some]
        have hmf : (f - 18).toNat = m := by omega
        cases b with
        | false =>
          simp only [top, Option.bind_some, Bool.not_false, cond_true]
          exact ⟨30, 0, 0, rfl, big (by rw [hmf]; exact t3 rfl)⟩
        | true =>
          obtain ⟨u1, u2, u3⟩ := t2 rfl
          simp only [top, Option.bind_some, u2, u3]
          exact fin _ m 18 rfl u1 (by rw [if_pos hf18]) (by omega)
    · rw [if_neg hf18, Option.bind_some]
      simp only [top, Option.bind_some]
      exact fin w 0 f (by simp) hw (by rw [if_neg (by omega)]) (by omega)
end Go.Proofs.YthpcgknknpjpdaaGreatDoor.W
namespace Go.Proofs.YthpcgknknpjpdaaGreatDoor.W
open Go Go.Q Go.Proofs Go.Dz
set_option linter.unusedVariables false
set_option linter.unusedSimpArgs false
theorem getD_ix {l : List Int} {i : Nat} (h : i < l.length) : ix l (i : Int) = some (l.getD i 0) := by
  rw [ix_nat h, List.getD_eq_getElem?_getD, List.getElem?_eq_getElem h]; rfl
theorem trim_l0 (k : Nat) {l : List Int} (hl : l.length ≤ 100000) : ∀ (n m : Nat), m < n → m ≤ l.length → (∀ i, m ≤ i → i < l.length → l.getD i 0 = 0) →
    ∃ r : Nat, g_r9_trim_l0 k l n (m : Int) = some (r : Int) ∧ r ≤ l.length ∧ (∀ i, r ≤ i → i < l.length → l.getD i 0 = 0) ∧ (r ≠ 0 → l.getD (r - 1) 0 ≠ 0) := by
  intro n
  induction n with
  | zero => intro m h; omega
  | succ n ih =>
    intro m h1 h2 h3
    rw [g_r9_trim_l0.eq_2]
    simp only [bd]
    by_cases hm : m = 0
    · subst hm
      exact ⟨0, by simp, by omega, h3, fun h => absurd rfl h⟩
    · obtain ⟨j, rfl⟩ : ∃ j, m = j + 1 := ⟨m - 1, by omega⟩
      rw [if_pos (by omega), show (((j + 1 : Nat) : Int) - 1) = (j : Int) by omega, wi (by omega) (by omega), getD_ix (by omega)]
      simp only [Option.bind_some]
      by_cases hz : l.getD j 0 = 0
      · rw [dt hz, bt]
        refine ih j (by omega) (by omega) fun i hi hl => ?_
        by_cases hij : i = j
        · subst hij; exact hz
        · exact h3 i (by omega) hl
      · rw [df hz, bf]
        exact ⟨j + 1, rfl, h2, h3, fun _ => hz⟩
theorem trim (k : Nat) {neg : Bool} {l : List Int} (hl : l.length ≤ 100000) (hd : Dig l) (hk : l.length < k) : g_r9_trim k neg l = some (neg && decide (nval l ≠ 0), digs (nval l)) := by
  unfold g_r9_trim
  obtain ⟨r, h1, h2, h3, h4⟩ := trim_l0 k hl k l.length (by omega) (Nat.le_refl _) (fun i hi hl => by omega)
  rw [h1, Option.bind_some]
  have hn := digs_nval hd h2 h3 h4
  simp only [bd]
  by_cases hr : r = 0
  · subst hr
    rw [if_pos (by simp)]
    have : nval l = 0 := by rw [← nval_digs (nval l), hn]; rfl
    rw [this, digs_zero]; simp
  · rw [if_neg (by omega), if_pos (by omega), if_pos (by simp; omega)]
    have hne : nval l ≠ 0 := by
      intro h0
      rw [h0, digs_zero] at hn
      have := congrArg List.length hn
      simp at this
      omega
    rw [hn]
    simp [hne]
theorem at_ (k : Nat) (neg : Bool) (l : List Int) (i : Nat) : g_r9_at k neg l (i : Int) = some (l.getD i 0) := by
  unfold g_r9_at
  simp only [bd]
  rw [if_pos (by omega)]
  simp only [Option.bind_some]
  by_cases h : i < l.length
  · rw [dt (by omega), bt, getD_ix h]; rfl
  · rw [df (by omega), bf, List.getD_eq_getElem?_getD, List.getElem?_eq_none (by omega)]; rfl
/-- A digit, in numbers. -/
theorem step10 (n i : Nat) : n / 10 ^ i = 10 * (n / 10 ^ (i + 1)) + n / 10 ^ i % 10 := by
  rw [Nat.pow_succ, ← Nat.div_div_eq_div_mul]; omega
theorem gone10 {n i : Nat} (h : (digs n).length ≤ i) : n / 10 ^ i = 0 := by
  rw [Nat.div_eq_of_lt]
  exact Nat.lt_of_lt_of_le digs_lt (Nat.pow_le_pow_right (by decide) h)
theorem more_l0 (k : Nat) (p q : Bool) {a b : Nat} (ha : (digs a).length ≤ 10000) (hb : (digs b).length ≤ 10000) : ∀ (n i : Nat), i < n → i ≤ 30000 → a / 10 ^ i = b / 10 ^ i →
    (cmpN a b = 0 → g_r9_more_l0 k p (digs a) q (digs b) n ((i : Int) - 1) = some (Sum.inr ())) ∧ (cmpN a b ≠ 0 → g_r9_more_l0 k p (digs a) q (digs b) n ((i : Int) - 1) = some (Sum.inl (cmpN a b))) := by
  intro n
  induction n with
  | zero => intro i h; omega
  | succ n ih =>
    intro i h1 h2 h3
    rw [g_r9_more_l0.eq_2]
    simp only [bd]
    by_cases h0 : i = 0
    · subst h0
      have : a = b := by simpa using h3
      subst this
      rw [if_neg (by omega)]
      simp [cmpN]
    · obtain ⟨j, rfl⟩ : ∃ j, i = j + 1 := ⟨i - 1, by omega⟩
      rw [show ((j + 1 : Nat) : Int) - 1 = (j : Int) by omega, if_pos (by omega)]
      simp only [at_, digs_at, Option.bind_some]
      have sa := step10 a j
      have sb := step10 b j
      have hgt : ∀ {x y : Nat}, y / 10 ^ j < x / 10 ^ j → y < x := fun h => by
        apply Nat.lt_of_not_le
        intro hle
        have := Nat.div_le_div_right (c := 10 ^ j) hle
        omega
      by_cases hlt : b / 10 ^ j % 10 < a / 10 ^ j % 10
      · rw [if_pos (by omega)]
        have := hgt (x := a) (y := b) (by omega)
        have hc : cmpN a b = 1 := by unfold cmpN; rw [if_neg (by omega), if_neg (by omega)]
        rw [hc]; simp
      · rw [if_neg (by omega)]
        by_cases hlt2 : a / 10 ^ j % 10 < b / 10 ^ j % 10
        · rw [if_pos (by omega)]
          have := hgt (x := b) (y := a) (by omega)
          have hc : cmpN a b = -1 := by unfold cmpN; rw [if_neg (by omega), if_pos (by omega)]
          rw [hc]; simp
        · rw [if_neg (by omega), wi (by omega) (by omega)]
          exact ih j (by omega) (by omega) (by omega)
theorem more (k : Nat) (p q : Bool) {a b : Nat} (ha : (digs a).length ≤ 10000) (hb : (digs b).length ≤ 10000) (hk : 30000 ≤ k) : g_r9_more k p (digs a) q (digs b) = some (cmpN a b) := by
  unfold g_r9_more
  rw [wi (by omega) (by omega), Option.bind_some]
  have z1 := gone10 (n := a) (i := (digs a).length + (digs b).length + 1) (by omega)
  have z2 := gone10 (n := b) (i := (digs a).length + (digs b).length + 1) (by omega)
  obtain ⟨h1, h2⟩ := more_l0 k p q ha hb k ((digs a).length + (digs b).length + 1) (by omega) (by omega) (by rw [z1, z2])
  rw [show (((digs a).length + (digs b).length + 1 : Nat) : Int) - 1 = (((digs a).length : Nat) : Int) + (((digs b).length : Nat) : Int) by omega] at h1 h2
  by_cases h : cmpN a b = 0
  · rw [h1 h, h]; rfl
  · rw [h2 h]; rfl
/-- How many digits a number has. -/
abbrev nd (x : Int) : Nat := (digs x.natAbs).length
theorem shift (k : Nat) {x : Int} {n : Nat} (hx : nd x ≤ 10000) (hn : n ≤ 10000) (hk : 30000 ≤ k) : g_r9_Shift k (decide (x < 0)) (digs x.natAbs) (n : Int) = some (decide (x * 10 ^ n < 0), digs (x * 10 ^ n).natAbs) := by
  unfold g_r9_Shift
  have hx' : (digs x.natAbs).length ≤ 10000 := hx
  simp only [bd]
  rw [if_pos (by omega), if_pos (by simp; omega)]
  have hd : Dig (List.replicate (Int.toNat (n : Int)) (0 : Int) ++ digs x.natAbs) := by
    refine Dig.app (fun d hd => ?_) (digs_dig _)
    rw [List.eq_of_mem_replicate hd]; omega
  have hv : nval (List.replicate (Int.toNat (n : Int)) (0 : Int) ++ digs x.natAbs) = (x * 10 ^ n).natAbs := by
    have h0 : ∀ m, nval (List.replicate m (0 : Int)) = 0 := by
      intro m
      induction m with
      | zero => rfl
      | succ m ih => rw [List.replicate_succ, nval, ih]; rfl
    rw [nval_app, h0, nval_digs, Int.natAbs_mul]
    simp [Int.natAbs_pow, Nat.mul_comm]
  rw [trim k (by simp; omega) hd (by simp; omega), hv]
  simp only [Option.bind_some]
  congr 2
  have hp := p10 n
  rw [Bool.eq_iff_iff]
  simp only [Bool.and_eq_true, decide_eq_true_eq]
  by_cases h0 : x < 0
  · have : x * 10 ^ n < 0 := Int.mul_neg_of_neg_of_pos h0 hp
    omega
  · have : 0 ≤ x * 10 ^ n := Int.mul_nonneg (show 0 ≤ x by omega) (Int.le_of_lt hp)
    omega
theorem of_l0 (k : Nat) : ∀ (d n : Nat) (c : Int) (acc : List Int), d ≤ n → c.natAbs < 10 ^ d → -9223372036854775808 ≤ c → c ≤ 9223372036854775807 → acc.length + d ≤ 1000 →
    g_r9_Of_l0 k (n + 1) c acc = some (acc ++ digs c.natAbs) := by
  intro d
  induction d with
  | zero =>
    intro n c acc h1 h2 _ _ _
    have : c = 0 := by simp at h2; omega
    subst this
    rw [g_r9_Of_l0.eq_2]
    simp [digs_zero]
  | succ d ih =>
    intro n c acc h1 h2 h3 h4 h5
    rw [g_r9_Of_l0.eq_2]
    by_cases h0 : c = 0
    · subst h0; simp [digs_zero]
    · rw [df h0]
      simp only [Bool.not_false, cond_true, bd]
      rw [Nat.pow_succ] at h2
      have hm : (if Int.tmod c 10 < 0 then ((some (IntKind.wrap .i64 (0 - Int.tmod c 10))).bind fun x1439 => some x1439) else some (Int.tmod c 10)) = some ((c.natAbs % 10 : Nat) : Int) := by
        have ht := Int.tmod_eq_emod (a := c) (b := 10)
        by_cases hneg : Int.tmod c 10 < 0
        · rw [if_pos hneg, Option.bind_some]
          rw [wi (by split at ht <;> omega) (by split at ht <;> omega)]
          congr 1
          split at ht <;> omega
        · rw [if_neg hneg]
          congr 1
          split at ht <;> omega
      rw [hm]
      simp only [Option.bind_some]
      have hq := Int.tdiv_eq_ediv (a := c) (b := 10)
      rw [show Int.sign 10 = 1 from rfl] at hq
      have hq2 : (Int.tdiv c 10).natAbs = c.natAbs / 10 ∧ -9223372036854775808 ≤ Int.tdiv c 10 ∧ Int.tdiv c 10 ≤ 9223372036854775807 := by split at hq <;> (rw [hq]; omega)
      rw [if_pos (by simp; omega), wi hq2.2.1 hq2.2.2]
      obtain ⟨n, rfl⟩ : ∃ n', n = n' + 1 := ⟨n - 1, by omega⟩
      rw [ih n _ _ (by omega) (by omega) hq2.2.1 hq2.2.2 (by simp; omega), hq2.1, digs_pos (n := c.natAbs) (by omega)]
      simp
theorem of_ (k : Nat) (hk : 30 ≤ k) {c : Int} (h1 : -9223372036854775808 ≤ c) (h2 : c ≤ 9223372036854775807) : g_r9_Of k c = some (digs c.natAbs) := by
  unfold g_r9_Of
  obtain ⟨k', rfl⟩ : ∃ k', k = k' + 1 := ⟨k - 1, by omega⟩
  rw [of_l0 (k' + 1) 20 k' c [] (by omega) (by omega) h1 h2 (by simp)]
  simp
theorem nd_i64 {c : Int} (h1 : -9223372036854775808 ≤ c) (h2 : c ≤ 9223372036854775807) : nd c ≤ 19 := digs_len_le (by omega)
end Go.Proofs.YthpcgknknpjpdaaGreatDoor.W
