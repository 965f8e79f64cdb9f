/- Texts joined: part 4 of what LValTurns stands on. -/
import Derived.Test.YthpcgknknpjpdaaGreatDoorSValTurnsc
namespace Go.Proofs.YthpcgknknpjpdaaGreatDoor.W
open Go Go.Q Go.Proofs
set_option linter.unusedVariables false
set_option linter.unusedSimpArgs false
set_option maxRecDepth 100000
set_option maxHeartbeats 4000000
theorem s_rv_Err (k : Nat) (x1 : Int) (x2 : Int) (H : g_rv_Err k x1 = some x2) : Go.Q.Spec Tryz.prog 17 0 [.lit (.int .i64 x1)] Mem.nil (fun o M => o = .ret (.agg [.lit (.int .i64 4), .lit (.int .i64 0), .lit (.int .i64 0), .lit (.string (ByteArray.mk #[])), .lit (.bool false), .lit (.int .i64 x2)]) ∧ M = (Mem.nil.push (.cells 29 [.lit (.int .i64 4), .lit (.int .i64 0), .lit (.int .i64 0), .lit (.string (ByteArray.mk #[])), .lit (.bool false), .lit (.int .i64 x2)]))) := by
 unfold g_rv_Err at H
 refine bo Tryz.func17 [(29, 6)] [.cell 2 29] 11 fun cx hnp => ?_
 iterate 3 refine sp ?_
 refine WP.seq ?_
 obtain ⟨x3, H1, H⟩ := bnd H
 refine mo .normal ((Env.none.upd 0 (.lit (.int .i64 x3))).upd 2 (.ptr 0 0)) (Mem.nil.push (.cells 29 [.lit (.int .i64 0), .lit (.int .i64 0), .lit (.int .i64 0), .lit (.string (ByteArray.mk #[])), .lit (.bool false), .lit (.int .i64 0)])) ?_ ?_
 · clear H
   have H := H1
   clear H1
   refine WP.seq ?_
   obtain ⟨x4, H2, H⟩ := bnd H
   refine mo .normal (((Env.none.upd 0 (.lit (.int .i64 x1))).upd 2 (.ptr 0 0)).upd 8 (.lit (.bool x4))) (Mem.nil.push (.cells 29 [.lit (.int .i64 0), .lit (.int .i64 0), .lit (.int .i64 0), .lit (.string (ByteArray.mk #[])), .lit (.bool false), .lit (.int .i64 0)])) ?_ ?_
   · clear H
     have H := H2
     clear H2
     iterate 4 refine sp ?_
     refine ws 5 H (fun hb1 H => ?_) fun hb1 H => ?_
     · iterate 3 refine sp ?_
       refine WPL.nilW ?_
       have q0 := j1 H
       subst q0
       exact wq [0]
     iterate 3 refine sp ?_
     refine WPL.nilW ?_
     have q0 := j1 H
     subst q0
     exact wq [0]
   iterate 2 refine sp ?_
   refine cd H (fun hb2 H => ?_) fun hb2 H => ?_
   · iterate 2 refine sp ?_
     refine WPL.nilW ?_
     have q0 := j1 H
     subst q0
     exact wq [0]
   refine sp ?_
   have q0 := j1 H
   subst q0
   exact wq [0]
 iterate 8 refine sp ?_
 have q0 := j1 H
 subst q0
 exact W.now (mb [0])
theorem s_r9_Of (k : Nat) (x1 : Int) (x2 : (List Int)) (H : g_r9_Of k x1 = some x2) : Go.Q.Spec Tryz.prog 85 0 [.lit (.int .i64 x1)] Mem.nil (fun o M => o = .ret (.agg [.lit (.bool (decide (x1 < 0))), .ro (Rd.slice (Rd.int .i64)) false x2]) ∧ M = (Mem.nil.push (.cells 78 [.lit (.bool (decide (x1 < 0))), .ro (Rd.slice (Rd.int .i64)) false x2]))) := by
 unfold g_r9_Of at H
 refine bo Tryz.func85 [(78, 2)] [.cell 2 78] 25 fun cx hnp => ?_
 iterate 10 refine sp ?_
 refine WP.seq ?_
 refine sp ?_
 refine WP.cv (Cv.vir 3 (Rd.int .i64) (N := 1) rfl 3 rfl) ?_
 refine WP.cv (Cv.weak (E' := ((((Env.none.upd 0 (.lit (.int .i64 x1))).upd 2 (.ptr 0 0)).upd 3 (.whole 1)).upd 4 (.lit (.int .i64 x1)))) (M' := ((Mem.nil.push (.cells 78 [.lit (.bool false), .lit (.slice none 0 0)])).push (.row 3 (Rd.int .i64) ([] : List Int)))) [0, 1] hnp ⟨rfl, AA2, by decide, rfl, trivial⟩ (LeE.u (LeE.u (LeE.u (LeE.u (LeE.none rfl rfl)))))) ?_
 obtain ⟨x3, H1, H⟩ := bnd H
 refine mo (.exit 0) (((Env.none.upd 0 (.lit (.int .i64 x1))).upd 2 (.ptr 0 0)).upd 3 (.whole 1)) ((Mem.nil.push (.cells 78 [.lit (.bool false), .lit (.slice none 0 0)])).push (.row 3 (Rd.int .i64) x3)) ?_ ?_
 · refine WP.loop (β := Int × (List Int)) (fun n b => g_r9_Of_l0 k n b.1 b.2 = some x3) (fun b => ((((Env.none.upd 0 (.lit (.int .i64 x1))).upd 2 (.ptr 0 0)).upd 3 (.whole 1)).upd 4 (.lit (.int .i64 b.1)))) (fun b => ((Mem.nil.push (.cells 78 [.lit (.bool false), .lit (.slice none 0 0)])).push (.row 3 (Rd.int .i64) b.2))) k (x1, ([] : List Int)) H1 rfl rfl ?_
   rintro n ⟨x4, x5⟩ H
   obtain _ | n := n
   · exact nf rfl H
   rw [g_r9_Of_l0.eq_2] at H
   show WP _ _ _ _ ((((Env.none.upd 0 (.lit (.int .i64 x1))).upd 2 (.ptr 0 0)).upd 3 (.whole 1)).upd 4 (.lit (.int .i64 x4))) ((Mem.nil.push (.cells 78 [.lit (.bool false), .lit (.slice none 0 0)])).push (.row 3 (Rd.int .i64) x5)) _
   refine WP.seq ?_
   iterate 4 refine sp ?_
   refine cd H (fun hb1 H => ?_) fun hb1 H => ?_
   · iterate 9 refine sp ?_
     refine WP.seq ?_
     obtain ⟨x6, H2, H⟩ := bnd H
     refine mo .normal (((((Env.none.upd 0 (.lit (.int .i64 x1))).upd 2 (.ptr 0 0)).upd 3 (.whole 1)).upd 4 (.lit (.int .i64 x4))).upd 5 (.lit (.int .i64 x6))) ((Mem.nil.push (.cells 78 [.lit (.bool false), .lit (.slice none 0 0)])).push (.row 3 (Rd.int .i64) x5)) ?_ ?_
     · clear H
       have H := H2
       clear H2
       iterate 4 refine sp ?_
       refine cd H (fun hb2 H => ?_) fun hb2 H => ?_
       · iterate 2 refine sp ?_
         obtain ⟨x7, h1, H⟩ := bnd H
         refine sn (nm_int h1) ?_
         refine sp ?_
         refine WPL.nilW ?_
         have q0 := j1 H
         subst q0
         exact wq [0, 1]
       refine sp ?_
       have q0 := j1 H
       subst q0
       exact wq [0, 1]
     iterate 5 refine sp ?_
     refine WPL.d (d_buildSlice (ds := ([x6] : List Int)) (R := (Rd.int .i64)) li76 rfl rfl rfl rfl rfl (JoinRows.cons1 Joins.sc rfl JoinRows.nil) rfl rfl) rfl ?_
     obtain ⟨h2, H⟩ := grd H
     refine WPL.d (d_append ap76 rfl rfl rfl rfl (src_row sl76 rfl rfl) h2 rfl) rfl ?_
     iterate 6 refine sp ?_
     refine WPL.nilW ?_
     exact wq [0, 3] (InBlock.n (Then.n ⟨n, ((IntKind.wrap .i64 (Int.tdiv x4 10)), (x5 ++ ([x6] : List Int))), Nat.lt_succ_self n, H, rfl, rfl⟩))
   refine sp ?_
   have q0 := j1 H
   subst q0
   exact wq [0, 1] (Then.x (Then.x r3))
 iterate 11 refine sp ?_
 refine W.cv (Cv.frzRow (i := 1) rfl rfl hnp rfl rfl) rfl ?_
 have q0 := j1 H
 subst q0
 exact W.now (mb [0])
theorem s_r9_trim (k : Nat) (x1 : Bool) (x2 : (List Int)) (x3 : Bool) (x4 : (List Int)) (H : g_r9_trim k x1 x2 = some (x3, x4)) : Go.Q.Spec Tryz.prog 97 0 [.agg [.lit (.bool x1), .ro (Rd.slice (Rd.int .i64)) false x2]] Mem.nil (fun o M => o = .ret (.agg [.lit (.bool x3), .ro (Rd.slice (Rd.int .i64)) false x4]) ∧ M = (Mem.nil.push (.cells 78 [.lit (.bool x3), .ro (Rd.slice (Rd.int .i64)) false x4]))) := by
 unfold g_r9_trim at H
 refine bo Tryz.func97 [(78, 2)] [.cell 2 78] 32 fun cx hnp => ?_
 iterate 10 refine sp ?_
 refine WP.seq ?_
 refine sp ?_
 refine WP.cv (Cv.weak (E' := (((Env.none.upd 1 (.ptr 0 0)).upd 2 (.ptr 1 0)).upd 3 (.lit (.int .i64 ((List.length x2 : Nat) : Int))))) (M' := ((Mem.nil.push (.cells 78 [.lit (.bool x1), .ro (Rd.slice (Rd.int .i64)) false x2])).push (.cells 78 [.lit (.bool false), .lit (.slice none 0 0)]))) [0, 1] hnp ⟨rfl, AA2, by decide, rfl, trivial⟩ (LeE.u (LeE.u (LeE.u (LeE.none rfl rfl))))) ?_
 obtain ⟨x5, H1, H⟩ := bnd H
 refine mo (.exit 0) (((Env.none.upd 1 (.ptr 0 0)).upd 2 (.ptr 1 0)).upd 3 (.lit (.int .i64 x5))) ((Mem.nil.push (.cells 78 [.lit (.bool x1), .ro (Rd.slice (Rd.int .i64)) false x2])).push (.cells 78 [.lit (.bool false), .lit (.slice none 0 0)])) ?_ ?_
 · refine WP.loop (β := Int) (fun n b => g_r9_trim_l0 k x2 n b = some x5) (fun b => (((Env.none.upd 1 (.ptr 0 0)).upd 2 (.ptr 1 0)).upd 3 (.lit (.int .i64 b)))) (fun b => ((Mem.nil.push (.cells 78 [.lit (.bool x1), .ro (Rd.slice (Rd.int .i64)) false x2])).push (.cells 78 [.lit (.bool false), .lit (.slice none 0 0)]))) k ((List.length x2 : Nat) : Int) H1 rfl rfl ?_
   rintro n x6 H
   obtain _ | n := n
   · exact nf rfl H
   rw [g_r9_trim_l0.eq_2] at H
   show WP _ _ _ _ (((Env.none.upd 1 (.ptr 0 0)).upd 2 (.ptr 1 0)).upd 3 (.lit (.int .i64 x6))) ((Mem.nil.push (.cells 78 [.lit (.bool x1), .ro (Rd.slice (Rd.int .i64)) false x2])).push (.cells 78 [.lit (.bool false), .lit (.slice none 0 0)])) _
   refine WP.seq ?_
   refine WP.seq ?_
   obtain ⟨x7, H2, H⟩ := bnd H
   refine mo .normal ((((Env.none.upd 1 (.ptr 0 0)).upd 2 (.ptr 1 0)).upd 3 (.lit (.int .i64 x6))).upd 17 (.lit (.bool x7))) ((Mem.nil.push (.cells 78 [.lit (.bool x1), .ro (Rd.slice (Rd.int .i64)) false x2])).push (.cells 78 [.lit (.bool false), .lit (.slice none 0 0)])) ?_ ?_
   · clear H
     have H := H2
     clear H2
     iterate 4 refine sp ?_
     refine ws 9 H (fun hb1 H => ?_) fun hb1 H => ?_
     · iterate 4 refine sp ?_
       obtain ⟨x8, h1, H⟩ := bnd H
       iterate 4 refine sp ?_
       refine WPL.nilW ?_
       have q0 := j1 H
       subst q0
       exact wq [0, 1]
     iterate 8 refine sp ?_
     refine WPL.nilW ?_
     have q0 := j1 H
     subst q0
     exact wq [0, 1]
   iterate 2 refine sp ?_
   refine cd H (fun hb2 H => ?_) fun hb2 H => ?_
   · iterate 8 refine sp ?_
     refine WPL.nilW ?_
     exact wq [0, 1] (InBlock.n (Then.n ⟨n, (IntKind.wrap .i64 (x6 - 1)), Nat.lt_succ_self n, H, rfl, rfl⟩))
   refine sp ?_
   have q0 := j1 H
   subst q0
   exact wq [0, 1] (Then.x (Then.x r3))
 iterate 3 refine sp ?_
 refine WP.seq ?_
 iterate 4 refine sp ?_
 refine cd H (fun hb3 H => ?_) fun hb3 H => ?_
 · iterate 5 refine sp ?_
   refine W.cv (Cv.nilRoC (Rd.int .i64) false (i := 1) (off := 1) rfl rfl rfl) rfl ?_
   obtain ⟨rfl, rfl⟩ := j2 H
   exact W.now (Then.r (mb [1]))
 iterate 3 refine sp ?_
 refine WP.seq ?_
 refine WP.regionD' 10 [0] [] mixed rfl ?_
 refine dT 0 ?_
 refine dT 3 ?_
 refine dT 5 ?_
 refine dK 1 ?_
 refine dK 4 ?_
 obtain ⟨h2, H⟩ := grd H
 refine WPD.tT 6 rfl (q_slice_ro (i := 0) (j := x5) sl76 rfl rfl rfl ⟨_, rfl⟩ h2) ?_
 refine dE 2 [0] [] rfl (Does.runs (d_buildSlice (ds := ([] : List Int)) (R := (Rd.int .i64)) li76 rfl rfl rfl rfl rfl JoinRows.nil rfl rfl)) ?_
 obtain ⟨h3, H⟩ := grd H
 refine dE 7 [0] [] rfl (Does.runs (d_append ap76 rfl rfl rfl rfl (src_ro sl76 rfl) h3 rfl)) ?_
 refine dT 8 ?_
 refine dS 9 [0] [] ?_
 refine WPD.doneW (by kernel_rfl) ?_
 iterate 3 refine sp ?_
 refine W.cv (Cv.frzRow (i := 3) rfl rfl hnp rfl rfl) rfl ?_
 obtain ⟨rfl, rfl⟩ := j2 H
 exact W.now (mb [1])
theorem s_r9_trim__b (k : Nat) (x1 : Bool) (x2 : (List Int)) (x3 : Bool) (x4 : (List Int)) (H : g_r9_trim k x1 x2 = some (x3, x4)) : Go.Q.Spec Tryz.prog 97 0 [.agg [.lit (.bool x1), .whole 0]] (Mem.nil.push (.row 3 (Rd.int .i64) x2)) (fun o M => o = .ret (.agg [.lit (.bool x3), .ro (Rd.slice (Rd.int .i64)) false x4]) ∧ M = (Mem.nil.push (.cells 78 [.lit (.bool x3), .ro (Rd.slice (Rd.int .i64)) false x4]))) := by
 unfold g_r9_trim at H
 refine bo Tryz.func97 [(78, 2)] [.cell 2 78] 32 fun cx hnp => ?_
 iterate 10 refine sp ?_
 refine WP.seq ?_
 refine sp ?_
 refine WP.cv (Cv.weak (E' := (((Env.none.upd 1 (.ptr 0 0)).upd 2 (.ptr 2 0)).upd 3 (.lit (.int .i64 ((List.length x2 : Nat) : Int))))) (M' := (((Mem.nil.push (.cells 78 [.lit (.bool x1), .whole 1])).push (.row 3 (Rd.int .i64) x2)).push (.cells 78 [.lit (.bool false), .lit (.slice none 0 0)]))) [1, 0, 2] hnp ⟨rfl, AA3, by decide, rfl, trivial⟩ (LeE.u (LeE.u (LeE.u (LeE.none rfl rfl))))) ?_
 obtain ⟨x5, H1, H⟩ := bnd H
 refine mo (.exit 0) (((Env.none.upd 1 (.ptr 0 0)).upd 2 (.ptr 2 0)).upd 3 (.lit (.int .i64 x5))) (((Mem.nil.push (.cells 78 [.lit (.bool x1), .whole 1])).push (.row 3 (Rd.int .i64) x2)).push (.cells 78 [.lit (.bool false), .lit (.slice none 0 0)])) ?_ ?_
 · refine WP.loop (β := Int) (fun n b => g_r9_trim_l0 k x2 n b = some x5) (fun b => (((Env.none.upd 1 (.ptr 0 0)).upd 2 (.ptr 2 0)).upd 3 (.lit (.int .i64 b)))) (fun b => (((Mem.nil.push (.cells 78 [.lit (.bool x1), .whole 1])).push (.row 3 (Rd.int .i64) x2)).push (.cells 78 [.lit (.bool false), .lit (.slice none 0 0)]))) k ((List.length x2 : Nat) : Int) H1 rfl rfl ?_
   rintro n x6 H
   obtain _ | n := n
   · exact nf rfl H
   rw [g_r9_trim_l0.eq_2] at H
   show WP _ _ _ _ (((Env.none.upd 1 (.ptr 0 0)).upd 2 (.ptr 2 0)).upd 3 (.lit (.int .i64 x6))) (((Mem.nil.push (.cells 78 [.lit (.bool x1), .whole 1])).push (.row 3 (Rd.int .i64) x2)).push (.cells 78 [.lit (.bool false), .lit (.slice none 0 0)])) _
   refine WP.seq ?_
   refine WP.seq ?_
   obtain ⟨x7, H2, H⟩ := bnd H
   refine mo .normal ((((Env.none.upd 1 (.ptr 0 0)).upd 2 (.ptr 2 0)).upd 3 (.lit (.int .i64 x6))).upd 17 (.lit (.bool x7))) (((Mem.nil.push (.cells 78 [.lit (.bool x1), .whole 1])).push (.row 3 (Rd.int .i64) x2)).push (.cells 78 [.lit (.bool false), .lit (.slice none 0 0)])) ?_ ?_
   · clear H
     have H := H2
     clear H2
     iterate 4 refine sp ?_
     refine ws 9 H (fun hb1 H => ?_) fun hb1 H => ?_
     · iterate 4 refine sp ?_
       obtain ⟨x8, h1, H⟩ := bnd H
       refine WPL.gq rfl (lb hb1) (q_index_row sl76 rfl rfl rfl (ixs h1)) ?_
       refine WPL.gq rfl (lb hb1) (q_load_row (j := (Int.toNat (IntKind.wrap .i64 (x6 - 1)))) sc3 rfl rfl (ixj h1)) ?_
       iterate 2 refine sp ?_
       refine WPL.nilW ?_
       have q0 := j1 H
       subst q0
       exact wq [0, 1, 2]
     iterate 8 refine sp ?_
     refine WPL.nilW ?_
     have q0 := j1 H
     subst q0
     exact wq [0, 1, 2]
   iterate 2 refine sp ?_
   refine cd H (fun hb2 H => ?_) fun hb2 H => ?_
   · iterate 8 refine sp ?_
     refine WPL.nilW ?_
     exact wq [0, 1, 2] (InBlock.n (Then.n ⟨n, (IntKind.wrap .i64 (x6 - 1)), Nat.lt_succ_self n, H, rfl, rfl⟩))
   refine sp ?_
   have q0 := j1 H
   subst q0
   exact wq [0, 1, 2] (Then.x (Then.x r3))
 iterate 3 refine sp ?_
 refine WP.seq ?_
 iterate 4 refine sp ?_
 refine cd H (fun hb3 H => ?_) fun hb3 H => ?_
 · iterate 5 refine sp ?_
   refine W.cv (Cv.nilRoC (Rd.int .i64) false (i := 2) (off := 1) rfl rfl rfl) rfl ?_
   obtain ⟨rfl, rfl⟩ := j2 H
   exact W.now (Then.r (mb [2]))
 iterate 3 refine sp ?_
 refine WP.seq ?_
 refine WP.regionD' 10 [0] [] mixed rfl ?_
 refine dT 0 ?_
 refine dT 3 ?_
 refine dT 5 ?_
 refine dK 1 ?_
 refine dK 4 ?_
 obtain ⟨h2, H⟩ := grd H
 refine WPD.cvL (CvL.frzRow (i := 1) rfl rfl hnp rfl rfl) rfl ?_
 refine WPD.tT 6 rfl (q_slice_ro (i := 0) (j := x5) sl76 rfl rfl rfl ⟨_, rfl⟩ h2) ?_
 refine dE 2 [0] [] rfl (Does.runs (d_buildSlice (ds := ([] : List Int)) (R := (Rd.int .i64)) li76 rfl rfl rfl rfl rfl JoinRows.nil rfl rfl)) ?_
 obtain ⟨h3, H⟩ := grd H
 refine dE 7 [0] [] rfl (Does.runs (d_append ap76 rfl rfl rfl rfl (src_ro sl76 rfl) h3 rfl)) ?_
 refine dT 8 ?_
 refine dS 9 [0] [] ?_
 refine WPD.doneW (by kernel_rfl) ?_
 iterate 3 refine sp ?_
 refine W.cv (Cv.frzRow (i := 4) rfl rfl hnp rfl rfl) rfl ?_
 obtain ⟨rfl, rfl⟩ := j2 H
 exact W.now (mb [2])
theorem s_r9_Shift (k : Nat) (x1 : Bool) (x2 : (List Int)) (x3 : Int) (x4 : Bool) (x5 : (List Int)) (H : g_r9_Shift k x1 x2 x3 = some (x4, x5)) : Go.Q.Spec Tryz.prog 118 0 [.agg [.lit (.bool x1), .ro (Rd.slice (Rd.int .i64)) false x2], .lit (.int .i64 x3)] Mem.nil (fun o M => o = .ret (.agg [.lit (.bool x4), .ro (Rd.slice (Rd.int .i64)) false x5]) ∧ M = (Mem.nil.push (.cells 78 [.lit (.bool x4), .ro (Rd.slice (Rd.int .i64)) false x5]))) := by
 unfold g_r9_Shift at H
 refine bo Tryz.func118 [(78, 2)] [.cell 4 78] 14 fun cx hnp => ?_
 iterate 4 refine sp ?_
 refine WP.seq ?_
 refine WP.regionD' 10 [0] [] mixed rfl ?_
 refine dT 0 ?_
 refine dT 2 ?_
 refine dT 4 ?_
 refine dK 1 ?_
 refine dK 5 ?_
 obtain ⟨h1, H⟩ := grd H
 refine dE 3 [0] [] rfl (Does.runs (d_make (d := (0 : Int)) (R := (Rd.int .i64)) li76 by3 rfl rfl rfl Joins.sc rfl rfl h1 rfl)) ?_
 obtain ⟨h2, H⟩ := grd H
 refine dE 6 [0] [] rfl (Does.runs (d_append ap76 rfl rfl rfl rfl (src_ro sl76 rfl) h2 rfl)) ?_
 refine dT 7 ?_
 obtain ⟨⟨x6, x7⟩, h3, H⟩ := bnd H
 refine dE 8 [0] [] rfl (rc [3] [4] 5 [] (s_r9_trim__b k x1 ((List.replicate (Int.toNat x3) (0 : Int)) ++ x2) x6 x7 h3)) ?_
 refine dS 9 [0] [] ?_
 refine WPD.doneW (by kernel_rfl) ?_
 iterate 3 refine sp ?_
 obtain ⟨rfl, rfl⟩ := j2 H
 exact W.now (mb [1])
theorem s_r9_at (k : Nat) (x1 : Bool) (x2 : (List Int)) (x3 : Int) (x4 : Int) (H : g_r9_at k x1 x2 x3 = some x4) : Go.Q.Spec Tryz.prog 130 0 [.agg [.lit (.bool x1), .ro (Rd.slice (Rd.int .i64)) false x2], .lit (.int .i64 x3)] Mem.nil (fun o M => o = .ret (.lit (.int .i64 x4)) ∧ M = Mem.nil) := by
 unfold g_r9_at at H
 refine bo Tryz.func130 [] [.tmp 4] 19 fun cx hnp => ?_
 iterate 4 refine sp ?_
 refine WP.seq ?_
 refine WP.seq ?_
 obtain ⟨x5, H1, H⟩ := bnd H
 refine mo .normal (((Env.none.upd 1 (.lit (.int .i64 x3))).upd 2 (.ptr 0 0)).upd 13 (.lit (.bool x5))) (Mem.nil.push (.cells 78 [.lit (.bool x1), .ro (Rd.slice (Rd.int .i64)) false x2])) ?_ ?_
 · clear H
   have H := H1
   clear H1
   iterate 4 refine sp ?_
   refine ws 7 H (fun hb1 H => ?_) fun hb1 H => ?_
   · iterate 4 refine sp ?_
     obtain ⟨x6, h1, H⟩ := bnd H
     refine sn (nm_bool h1) ?_
     refine sp ?_
     refine WPL.nilW ?_
     have q0 := j1 H
     subst q0
     exact wq [0]
   iterate 6 refine sp ?_
   refine WPL.nilW ?_
   have q0 := j1 H
   subst q0
   exact wq [0]
 iterate 2 refine sp ?_
 refine cd H (fun hb2 H => ?_) fun hb2 H => ?_
 · iterate 4 refine sp ?_
   obtain ⟨x7, h2, H⟩ := bnd H
   iterate 5 refine sp ?_
   have q0 := j1 H
   subst q0
   exact W.now (Then.r (mb []))
 iterate 7 refine sp ?_
 have q0 := j1 H
 subst q0
 exact W.now (mb [])
theorem s_r9_more (k : Nat) (x1 : Bool) (x2 : (List Int)) (x3 : Bool) (x4 : (List Int)) (x5 : Int) (H : g_r9_more k x1 x2 x3 x4 = some x5) : Go.Q.Spec Tryz.prog 152 0 [.agg [.lit (.bool x1), .ro (Rd.slice (Rd.int .i64)) false x2], .agg [.lit (.bool x3), .ro (Rd.slice (Rd.int .i64)) false x4]] Mem.nil (fun o M => o = .ret (.lit (.int .i64 x5)) ∧ M = Mem.nil) := by
 unfold g_r9_more at H
 refine bo Tryz.func152 [] [.tmp 4] 31 fun cx hnp => ?_
 iterate 5 refine sp ?_
 refine WP.seq ?_
 iterate 7 refine sp ?_
 obtain ⟨x6, h1, H⟩ := bnd H
 refine sn (nm_int h1) ?_
 iterate 3 refine sp ?_
 refine WP.cv (Cv.weak (E' := (((Env.none.upd 2 (.ptr 0 0)).upd 3 (.ptr 1 0)).upd 5 (.lit (.int .i64 x6)))) (M' := ((Mem.nil.push (.cells 78 [.lit (.bool x1), .ro (Rd.slice (Rd.int .i64)) false x2])).push (.cells 78 [.lit (.bool x3), .ro (Rd.slice (Rd.int .i64)) false x4]))) [0, 1] hnp ⟨rfl, AA2, by decide, rfl, trivial⟩ (LeE.u (LeE.u (LeE.u (LeE.none rfl rfl))))) ?_
 obtain ⟨y1, H1, H⟩ := bnd H
 refine WP.monoW (Q := fun x E M => match (generalizing := false) y1 with | (Sum.inl x7) => x = .ret ∧ E = (Env.none.upd 4 (.lit (.int .i64 x7))) ∧ M = Mem.nil | (Sum.inr _) => x = .exit 0 ∧ E = Env.none ∧ M = Mem.nil) ?_ ?_
 · refine WP.loop (β := Int) (fun n b => g_r9_more_l0 k x1 x2 x3 x4 n b = some y1) (fun b => (((Env.none.upd 2 (.ptr 0 0)).upd 3 (.ptr 1 0)).upd 5 (.lit (.int .i64 b)))) (fun b => ((Mem.nil.push (.cells 78 [.lit (.bool x1), .ro (Rd.slice (Rd.int .i64)) false x2])).push (.cells 78 [.lit (.bool x3), .ro (Rd.slice (Rd.int .i64)) false x4]))) k x6 H1 rfl rfl ?_
   rintro n x8 H
   obtain _ | n := n
   · exact nf rfl H
   rw [g_r9_more_l0.eq_2] at H
   show WP _ _ _ _ (((Env.none.upd 2 (.ptr 0 0)).upd 3 (.ptr 1 0)).upd 5 (.lit (.int .i64 x8))) ((Mem.nil.push (.cells 78 [.lit (.bool x1), .ro (Rd.slice (Rd.int .i64)) false x2])).push (.cells 78 [.lit (.bool x3), .ro (Rd.slice (Rd.int .i64)) false x4])) _
   refine WP.seq ?_
   iterate 4 refine sp ?_
   refine cd H (fun hb1 H => ?_) fun hb1 H => ?_
   · iterate 3 refine sp ?_
     refine WP.seq ?_
     refine sp ?_
     refine WP.seq ?_
     refine WP.seq ?_
     refine WP.regionD' 7 [0, 1] [] mixed rfl ?_
     refine dT 1 ?_
     refine dT 4 ?_
     refine dK 0 ?_
     refine dK 3 ?_
     obtain ⟨x9, h2, H⟩ := bnd H
     refine dE 2 [0, 1] [] rfl (rc [] [] 2 [] (s_r9_at k x1 x2 x8 x9 h2)) ?_
     obtain ⟨x10, h3, H⟩ := bnd H
     refine dE 5 [0, 1] [] rfl (rc [] [] 2 [] (s_r9_at k x3 x4 x8 x10 h3)) ?_
     refine dT 6 ?_
     refine WPD.doneW (by kernel_rfl) ?_
     iterate 2 refine sp ?_
     refine cd H (fun hb2 H => ?_) fun hb2 H => ?_
     · iterate 4 refine sp ?_
       have q0 := j1 H
       subst q0
       exact wq [] (Then.r (InBlock.r (Then.r (Then.r r3))))
     iterate 3 refine sp ?_
     refine WP.seq ?_
     refine WP.regionD' 7 [0, 1] [] mixed rfl ?_
     refine dT 1 ?_
     refine dT 4 ?_
     refine dK 0 ?_
     refine dK 3 ?_
     obtain ⟨x11, h4, H⟩ := bnd H
     refine dE 2 [0, 1] [] rfl (rc [] [] 2 [] (s_r9_at k x1 x2 x8 x11 h4)) ?_
     obtain ⟨x12, h5, H⟩ := bnd H
     refine dE 5 [0, 1] [] rfl (rc [] [] 2 [] (s_r9_at k x3 x4 x8 x12 h5)) ?_
     refine dT 6 ?_
     refine WPD.doneW (by kernel_rfl) ?_
     iterate 2 refine sp ?_
     refine cd H (fun hb3 H => ?_) fun hb3 H => ?_
     · iterate 4 refine sp ?_
       have q0 := j1 H
       subst q0
       exact wq [] (InBlock.r (Then.r (Then.r r3)))
     iterate 2 refine sp ?_
     refine InBlock.n ?_
     iterate 5 refine sp ?_
     refine WPL.nilW ?_
     exact wq [0, 1] (Then.n ⟨n, (IntKind.wrap .i64 (x8 - 1)), Nat.lt_succ_self n, H, rfl, rfl⟩)
   refine sp ?_
   have q0 := j1 H
   subst q0
   exact wq [] (Then.x (Then.x r3))
 rcases y1 with x7 | _
 · rintro _ _ _ ⟨rfl, rfl, rfl⟩
   have q0 := j1 H
   subst q0
   exact W.now (InBlock.r (Then.r (mb [])))
 rintro _ _ _ ⟨rfl, rfl, rfl⟩
 iterate 7 refine sp ?_
 have q0 := j1 H
 subst q0
 exact W.now (mb [])
theorem s_r9_fits (k : Nat) (x1 : Bool) (x2 : (List Int)) (x3 : Bool) (H : g_r9_fits k x1 x2 = some x3) : Go.Q.Spec Tryz.prog 134 0 [.agg [.lit (.bool x1), .ro (Rd.slice (Rd.int .i64)) false x2]] Mem.nil (fun o M => o = .ret (.lit (.bool x3)) ∧ M = Mem.nil) := by
 unfold g_r9_fits at H
 refine bo Tryz.func134 [] [.tmp 2] 22 fun cx hnp => ?_
 iterate 5 refine sp ?_
 obtain ⟨x4, h1, H⟩ := bnd H
 refine WPL.c (rc [] [1] 2 [] (s_r9_Of k (-9223372036854775808) x4 h1)) rfl ?_
 iterate 12 refine sp ?_
 obtain ⟨x5, h2, H⟩ := bnd H
 refine WPL.c (rc [] [] 3 [] (s_r9_more k x1 x2 x1 x4 x5 h2)) rfl ?_
 iterate 2 refine sp ?_
 refine WP.seq ?_
 obtain ⟨x6, H1, H⟩ := bnd H
 refine mo .normal (Env.none.upd 2 (.lit (.bool x6))) Mem.nil ?_ ?_
 · clear H
   have H := H1
   clear H1
   iterate 4 refine sp ?_
   refine ws 14 H (fun hb1 H => ?_) fun hb1 H => ?_
   · iterate 8 refine sp ?_
     refine WPL.nilW ?_
     have q0 := j1 H
     subst q0
     exact wq []
   iterate 3 refine sp ?_
   refine ws 17 H (fun hb2 H => ?_) fun hb2 H => ?_
   · iterate 5 refine sp ?_
     refine WPL.nilW ?_
     have q0 := j1 H
     subst q0
     exact wq []
   iterate 5 refine sp ?_
   refine WPL.nilW ?_
   have q0 := j1 H
   subst q0
   exact wq []
 iterate 3 refine sp ?_
 have q0 := j1 H
 subst q0
 exact W.now (mb [])
theorem s_r9_Tell (k : Nat) (x1 : Bool) (x2 : (List Int)) (x3 : Int) (x4 : Int) (x5 : Int) (x6 : Int) (H : g_r9_Tell k x1 x2 x3 = some (x4, x5, x6)) : Go.Q.Spec Tryz.prog 84 0 [.agg [.lit (.bool x1), .ro (Rd.slice (Rd.int .i64)) false x2, .lit (.int .i64 x3)]] Mem.nil (fun o M => o = .ret (.tup [.agg [.lit (.int .i64 x5), .lit (.int .i64 x6)], .lit (.int .i64 x4)]) ∧ M = (Mem.nil.push (.cells 23 [.lit (.int .i64 x5), .lit (.int .i64 x6)]))) := by
 unfold g_r9_Tell at H
 refine bo Tryz.func84 [(23, 2)] [.cell 2 23, .tmp 3] 93 fun cx hnp => ?_
 iterate 5 refine sp ?_
 refine WP.seq ?_
 refine WP.regionD' 7 [0] [] mixed rfl ?_
 refine dT 0 ?_
 refine dT 2 ?_
 refine dK 1 ?_
 refine dK 3 ?_
 refine dE 4 [0] [] rfl (Does.runs (d_alloc ze78 rfl)) ?_
 refine dS 5 [0] [] ?_
 refine dT 6 ?_
 refine WPD.doneW (by kernel_rfl) ?_
 iterate 2 refine sp ?_
 refine WP.seq ?_
 iterate 4 refine sp ?_
 obtain ⟨x7, h1, H⟩ := bnd H
 refine sn (nm_bool h1) ?_
 refine sp ?_
 refine cd H (fun hb1 H => ?_) fun hb1 H => ?_
 · iterate 6 refine sp ?_
   obtain ⟨rfl, rfl, rfl⟩ := j3 H
   exact W.now (Then.r (mb [1]))
 iterate 3 refine sp ?_
 refine WP.seq ?_
 iterate 4 refine sp ?_
 refine cd H (fun hb2 H => ?_) fun hb2 H => ?_
 · iterate 6 refine sp ?_
   obtain ⟨rfl, rfl, rfl⟩ := j3 H
   exact W.now (Then.r (mb [1]))
 iterate 3 refine sp ?_
 refine WP.seq ?_
 refine sp ?_
 refine WP.cv (Cv.weak (E' := (((Env.none.upd 2 (.ptr 0 0)).upd 4 (.ptr 1 0)).upd 5 (.lit (.int .i64 x3)))) (M' := ((Mem.nil.push (.cells 23 [.lit (.int .i64 0), .lit (.int .i64 0)])).push (.cells 78 [.lit (.bool x1), .ro (Rd.slice (Rd.int .i64)) false x2]))) [1, 2] hnp ⟨rfl, AA2, by decide, rfl, trivial⟩ (LeE.u (LeE.u (LeE.u (LeE.none rfl rfl))))) ?_
 obtain ⟨⟨x8, x9, x10⟩, H1, H⟩ := bnd H
 refine mo (.exit 0) (((Env.none.upd 2 (.ptr 0 0)).upd 4 (.ptr 1 0)).upd 5 (.lit (.int .i64 x8))) ((Mem.nil.push (.cells 23 [.lit (.int .i64 0), .lit (.int .i64 0)])).push (.cells 78 [.lit (.bool x9), .ro (Rd.slice (Rd.int .i64)) false x10])) ?_ ?_
 · refine WP.loop (β := Int × Bool × (List Int)) (fun n b => g_r9_Tell_l0 k n b.1 b.2.1 b.2.2 = some (x8, x9, x10)) (fun b => (((Env.none.upd 2 (.ptr 0 0)).upd 4 (.ptr 1 0)).upd 5 (.lit (.int .i64 b.1)))) (fun b => ((Mem.nil.push (.cells 23 [.lit (.int .i64 0), .lit (.int .i64 0)])).push (.cells 78 [.lit (.bool b.2.1), .ro (Rd.slice (Rd.int .i64)) false b.2.2]))) k (x3, x1, x2) H1 rfl rfl ?_
   rintro n ⟨x11, x12, x13⟩ H
   obtain _ | n := n
   · exact nf rfl H
   rw [g_r9_Tell_l0.eq_2] at H
   show WP _ _ _ _ (((Env.none.upd 2 (.ptr 0 0)).upd 4 (.ptr 1 0)).upd 5 (.lit (.int .i64 x11))) ((Mem.nil.push (.cells 23 [.lit (.int .i64 0), .lit (.int .i64 0)])).push (.cells 78 [.lit (.bool x12), .ro (Rd.slice (Rd.int .i64)) false x13])) _
   refine WP.seq ?_
   refine WP.seq ?_
   obtain ⟨x14, H2, H⟩ := bnd H
   refine mo .normal ((((Env.none.upd 2 (.ptr 0 0)).upd 4 (.ptr 1 0)).upd 5 (.lit (.int .i64 x11))).upd 30 (.lit (.bool x14))) ((Mem.nil.push (.cells 23 [.lit (.int .i64 0), .lit (.int .i64 0)])).push (.cells 78 [.lit (.bool x12), .ro (Rd.slice (Rd.int .i64)) false x13])) ?_ ?_
   · clear H
     have H := H2
     clear H2
     iterate 4 refine sp ?_
     obtain ⟨x15, h2, H⟩ := bnd H
     refine sn (nm_bool h2) ?_
     refine sp ?_
     refine ws 24 H (fun hb3 H => ?_) fun hb3 H => ?_
     · iterate 2 refine sp ?_
       obtain ⟨x16, h3, H⟩ := bnd H
       iterate 4 refine sp ?_
       refine WPL.nilW ?_
       have q0 := j1 H
       subst q0
       exact wq [0, 1]
     iterate 6 refine sp ?_
     refine WPL.nilW ?_
     have q0 := j1 H
     subst q0
     exact wq [0, 1]
   iterate 2 refine sp ?_
   refine cd H (fun hb4 H => ?_) fun hb4 H => ?_
   · iterate 4 refine sp ?_
     refine WP.seq ?_
     refine WP.regionD' 8 [1] [7] mixed rfl ?_
     refine dT 0 ?_
     refine dT 2 ?_
     refine dK 1 ?_
     refine dK 3 ?_
     obtain ⟨h4, H⟩ := grd H
     refine WPD.tT 4 rfl (q_slice_ro (i := 1) (j := ((List.length x13 : Nat) : Int)) sl76 rfl rfl ⟨_, rfl⟩ rfl h4) ?_
     refine dT 5 ?_
     obtain ⟨⟨x17, x18⟩, h5, H⟩ := bnd H
     refine dE 6 [1] [7] rfl (rc [] [2] 3 [] (s_r9_trim k x12 (List.drop (Int.toNat 1) (List.take (Int.toNat ((List.length x13 : Nat) : Int)) x13)) x17 x18 h5)) ?_
     refine dS 7 [] [] ?_
     refine WPD.doneW (by kernel_rfl) ?_
     iterate 6 refine sp ?_
     refine WPL.nilW ?_
     exact wq [0, 1] (InBlock.n (Then.n ⟨n, ((IntKind.wrap .i64 (x11 + 1)), x17, x18), Nat.lt_succ_self n, H, rfl, rfl⟩))
   refine sp ?_
   obtain ⟨rfl, rfl, rfl⟩ := j3 H
   exact wq [0, 1] (Then.x (Then.x r3))
 iterate 3 refine sp ?_
 refine WP.seq ?_
 refine sp ?_
 refine WP.cv (Cv.weak (E' := (((Env.none.upd 2 (.ptr 0 0)).upd 4 (.ptr 1 0)).upd 5 (.lit (.int .i64 x8)))) (M' := ((Mem.nil.push (.cells 23 [.lit (.int .i64 0), .lit (.int .i64 0)])).push (.cells 78 [.lit (.bool x9), .ro (Rd.slice (Rd.int .i64)) false x10]))) [0, 1] hnp ⟨rfl, AA2, by decide, rfl, trivial⟩ (LeE.u (LeE.u (LeE.u (LeE.none rfl rfl))))) ?_
 obtain ⟨⟨x19, x20, x21⟩, H3, H⟩ := bnd H
 refine mo (.exit 2) (((Env.none.upd 2 (.ptr 0 0)).upd 4 (.ptr 1 0)).upd 5 (.lit (.int .i64 x19))) ((Mem.nil.push (.cells 23 [.lit (.int .i64 0), .lit (.int .i64 0)])).push (.cells 78 [.lit (.bool x20), .ro (Rd.slice (Rd.int .i64)) false x21])) ?_ ?_
 · refine WP.loop (β := Int × Bool × (List Int)) (fun n b => g_r9_Tell_l1 k n b.1 b.2.1 b.2.2 = some (x19, x20, x21)) (fun b => (((Env.none.upd 2 (.ptr 0 0)).upd 4 (.ptr 1 0)).upd 5 (.lit (.int .i64 b.1)))) (fun b => ((Mem.nil.push (.cells 23 [.lit (.int .i64 0), .lit (.int .i64 0)])).push (.cells 78 [.lit (.bool b.2.1), .ro (Rd.slice (Rd.int .i64)) false b.2.2]))) k (x8, x9, x10) H3 rfl rfl ?_
   rintro n ⟨x22, x23, x24⟩ H
   obtain _ | n := n
   · exact nf rfl H
   rw [g_r9_Tell_l1.eq_2] at H
   show WP _ _ _ _ (((Env.none.upd 2 (.ptr 0 0)).upd 4 (.ptr 1 0)).upd 5 (.lit (.int .i64 x22))) ((Mem.nil.push (.cells 23 [.lit (.int .i64 0), .lit (.int .i64 0)])).push (.cells 78 [.lit (.bool x23), .ro (Rd.slice (Rd.int .i64)) false x24])) _
   refine WP.seq ?_
   refine WP.seq ?_
   obtain ⟨x25, H4, H⟩ := bnd H
   refine mo .normal ((((Env.none.upd 2 (.ptr 0 0)).upd 4 (.ptr 1 0)).upd 5 (.lit (.int .i64 x22))).upd 47 (.lit (.bool x25))) ((Mem.nil.push (.cells 23 [.lit (.int .i64 0), .lit (.int .i64 0)])).push (.cells 78 [.lit (.bool x23), .ro (Rd.slice (Rd.int .i64)) false x24])) ?_ ?_
   · clear H
     have H := H4
     clear H4
     iterate 4 refine sp ?_
     refine ws 42 H (fun hb5 H => ?_) fun hb5 H => ?_
     · iterate 3 refine sp ?_
       obtain ⟨x26, h6, H⟩ := bnd H
       refine sn (nm_bool h6) ?_
       refine sp ?_
       refine WPL.nilW ?_
       have q0 := j1 H
       subst q0
       exact wq [0, 1]
     iterate 5 refine sp ?_
     refine WPL.nilW ?_
     have q0 := j1 H
     subst q0
     exact wq [0, 1]
   iterate 2 refine sp ?_
   refine cd H (fun hb6 H => ?_) fun hb6 H => ?_
   · iterate 6 refine sp ?_
     obtain ⟨⟨x27, x28⟩, h7, H⟩ := bnd H
     refine WPL.c (rc [] [2] 3 [] (s_r9_Shift k x23 x24 1 x27 x28 h7)) rfl ?_
     iterate 6 refine sp ?_
     refine WPL.nilW ?_
     exact wq [0, 1] (InBlock.n (Then.n ⟨n, ((IntKind.wrap .i64 (x22 - 1)), x27, x28), Nat.lt_succ_self n, H, rfl, rfl⟩))
   refine sp ?_
   obtain ⟨rfl, rfl, rfl⟩ := j3 H
   exact wq [0, 1] (Then.x (Then.x r3))
 iterate 3 refine sp ?_
 refine WP.seq ?_
 refine WP.seq ?_
 obtain ⟨x29, H5, H⟩ := bnd H
 refine mo .normal ((((Env.none.upd 2 (.ptr 0 0)).upd 4 (.ptr 1 0)).upd 5 (.lit (.int .i64 x19))).upd 62 (.lit (.bool x29))) ((Mem.nil.push (.cells 23 [.lit (.int .i64 0), .lit (.int .i64 0)])).push (.cells 78 [.lit (.bool x20), .ro (Rd.slice (Rd.int .i64)) false x21])) ?_ ?_
 · clear H
   have H := H5
   clear H5
   iterate 4 refine sp ?_
   refine ws 54 H (fun hb7 H => ?_) fun hb7 H => ?_
   · iterate 8 refine sp ?_
     refine WPL.nilW ?_
     have q0 := j1 H
     subst q0
     exact wq [0, 1]
   iterate 4 refine sp ?_
   refine ws 58 H (fun hb8 H => ?_) fun hb8 H => ?_
   · iterate 4 refine sp ?_
     refine WPL.nilW ?_
     have q0 := j1 H
     subst q0
     exact wq [0, 1]
   refine sp ?_
   obtain ⟨x30, h8, H⟩ := bnd H
   refine WPL.cg rfl rfl (lb hb8) (rc [] [] 2 [] (s_r9_fits k x20 x21 x30 h8)) rfl ?_
   iterate 2 refine sp ?_
   refine WPL.nilW ?_
   have q0 := j1 H
   subst q0
   exact wq [0, 1]
 iterate 2 refine sp ?_
 refine cd H (fun hb9 H => ?_) fun hb9 H => ?_
 · iterate 6 refine sp ?_
   obtain ⟨rfl, rfl, rfl⟩ := j3 H
   exact W.now (Then.r (mb [0]))
 iterate 6 refine sp ?_
 refine WP.seq ?_
 iterate 4 refine sp ?_
 obtain ⟨x31, h9, H⟩ := bnd H
 refine sn (nm_int h9) ?_
 iterate 3 refine sp ?_
 refine WP.cv (Cv.weak (E' := (((((Env.none.upd 2 (.ptr 0 0)).upd 4 (.ptr 1 0)).upd 5 (.lit (.int .i64 x19))).upd 6 (.lit (.int .i64 0))).upd 7 (.lit (.int .i64 x31)))) (M' := ((Mem.nil.push (.cells 23 [.lit (.int .i64 0), .lit (.int .i64 0)])).push (.cells 78 [.lit (.bool x20), .ro (Rd.slice (Rd.int .i64)) false x21]))) [0, 1] hnp ⟨rfl, AA2, by decide, rfl, trivial⟩ (LeE.u (LeE.u (LeE.u (LeE.u (LeE.u (LeE.none rfl rfl))))))) ?_
 obtain ⟨x32, H6, H⟩ := bnd H
 refine mo (.exit 4) (((Env.none.upd 2 (.ptr 0 0)).upd 5 (.lit (.int .i64 x19))).upd 6 (.lit (.int .i64 x32))) (Mem.nil.push (.cells 23 [.lit (.int .i64 0), .lit (.int .i64 0)])) ?_ ?_
 · refine WP.loop (β := Int × Int) (fun n b => g_r9_Tell_l2 k x20 x21 n b.1 b.2 = some x32) (fun b => (((((Env.none.upd 2 (.ptr 0 0)).upd 4 (.ptr 1 0)).upd 5 (.lit (.int .i64 x19))).upd 6 (.lit (.int .i64 b.1))).upd 7 (.lit (.int .i64 b.2)))) (fun b => ((Mem.nil.push (.cells 23 [.lit (.int .i64 0), .lit (.int .i64 0)])).push (.cells 78 [.lit (.bool x20), .ro (Rd.slice (Rd.int .i64)) false x21]))) k (0, x31) H6 rfl rfl ?_
   rintro n ⟨x33, x34⟩ H
   obtain _ | n := n
   · exact nf rfl H
   rw [g_r9_Tell_l2.eq_2] at H
   show WP _ _ _ _ (((((Env.none.upd 2 (.ptr 0 0)).upd 4 (.ptr 1 0)).upd 5 (.lit (.int .i64 x19))).upd 6 (.lit (.int .i64 x33))).upd 7 (.lit (.int .i64 x34))) ((Mem.nil.push (.cells 23 [.lit (.int .i64 0), .lit (.int .i64 0)])).push (.cells 78 [.lit (.bool x20), .ro (Rd.slice (Rd.int .i64)) false x21])) _
   refine WP.seq ?_
   iterate 4 refine sp ?_
   refine cd H (fun hb10 H => ?_) fun hb10 H => ?_
   · iterate 3 refine sp ?_
     refine WP.seq ?_
     obtain ⟨x35, H7, H⟩ := bnd H
     refine mo .normal (((((Env.none.upd 2 (.ptr 0 0)).upd 4 (.ptr 1 0)).upd 5 (.lit (.int .i64 x19))).upd 6 (.lit (.int .i64 x35))).upd 7 (.lit (.int .i64 x34))) ((Mem.nil.push (.cells 23 [.lit (.int .i64 0), .lit (.int .i64 0)])).push (.cells 78 [.lit (.bool x20), .ro (Rd.slice (Rd.int .i64)) false x21])) ?_ ?_
     · clear H
       have H := H7
       clear H7
       iterate 5 refine sp ?_
       refine cd H (fun hb11 H => ?_) fun hb11 H => ?_
       · iterate 6 refine sp ?_
         obtain ⟨x36, h10, H⟩ := bnd H
         iterate 2 refine sp ?_
         obtain ⟨x37, h11, H⟩ := bnd H
         refine sn (nm_int h11) ?_
         refine sp ?_
         refine WPL.nilW ?_
         have q0 := j1 H
         subst q0
         exact wq [0, 1] (InBlock.n r3)
       iterate 6 refine sp ?_
       obtain ⟨x38, h12, H⟩ := bnd H
       iterate 2 refine sp ?_
       obtain ⟨x39, h13, H⟩ := bnd H
       refine sn (nm_int h13) ?_
       refine sp ?_
       refine WPL.nilW ?_
       have q0 := j1 H
       subst q0
       exact wq [0, 1] (InBlock.n r3)
     iterate 6 refine sp ?_
     refine WPL.nilW ?_
     exact wq [0, 1] (Then.n ⟨n, (x35, (IntKind.wrap .i64 (x34 - 1))), Nat.lt_succ_self n, H, rfl, rfl⟩)
   refine sp ?_
   have q0 := j1 H
   subst q0
   exact wq [0] (Then.x (Then.x r3))
 iterate 11 refine sp ?_
 obtain ⟨rfl, rfl, rfl⟩ := j3 H
 exact W.now (mb [0])
end Go.Proofs.YthpcgknknpjpdaaGreatDoor.W
namespace Go.Proofs.YthpcgknknpjpdaaGreatDoor.W
open Go Go.Q Go.Proofs
set_option linter.unusedVariables false
set_option linter.unusedSimpArgs false
set_option maxRecDepth 100000
set_option maxHeartbeats 4000000
theorem s_r9_Right (k : Nat) (x1 : Int) (x2 : Int) (x3 : Bool) (H : g_r9_Right k x1 x2 = some x3) : Go.Q.Spec Tryz.prog 46 0 [.agg [.lit (.int .i64 x1), .lit (.int .i64 x2)]] Mem.nil (fun o M => o = .ret (.lit (.bool x3)) ∧ M = Mem.nil) := by
 unfold g_r9_Right at H
 refine bo Tryz.func46 [] [.tmp 2] 30 fun cx hnp => ?_
 iterate 4 refine sp ?_
 refine WP.seq ?_
 refine WP.seq ?_
 obtain ⟨x4, H1, H⟩ := bnd H
 refine mo .normal ((Env.none.upd 1 (.ptr 0 0)).upd 12 (.lit (.bool x4))) (Mem.nil.push (.cells 23 [.lit (.int .i64 x1), .lit (.int .i64 x2)])) ?_ ?_
 · clear H
   have H := H1
   clear H1
   iterate 5 refine sp ?_
   refine ws 8 H (fun hb1 H => ?_) fun hb1 H => ?_
   · iterate 4 refine sp ?_
     refine WPL.nilW ?_
     have q0 := j1 H
     subst q0
     exact wq [0]
   iterate 4 refine sp ?_
   refine WPL.nilW ?_
   have q0 := j1 H
   subst q0
   exact wq [0]
 iterate 2 refine sp ?_
 refine cd H (fun hb2 H => ?_) fun hb2 H => ?_
 · iterate 4 refine sp ?_
   have q0 := j1 H
   subst q0
   exact W.now (Then.r (mb []))
 iterate 3 refine sp ?_
 refine WP.seq ?_
 obtain ⟨⟨x5, x6, x7⟩, H2, H⟩ := bnd H
 refine mo .normal (((Env.none.upd 1 (.ptr 0 0)).upd 3 (.ptr 1 0)).upd 4 (.lit (.int .i64 x5))) ((Mem.nil.push (.cells 23 [.lit (.int .i64 x1), .lit (.int .i64 x2)])).push (.cells 23 [.lit (.int .i64 x6), .lit (.int .i64 x7)])) ?_ ?_
 · clear H
   have H := H2
   clear H2
   refine WP.regionD' 13 [0] [] mixed rfl ?_
   refine dT 0 ?_
   refine dT 3 ?_
   refine dK 1 ?_
   refine dK 4 ?_
   refine WPD.of2 2 10 (by kernel_rfl) ?_ ?_
   · obtain ⟨x8, h1, H⟩ := bnd H
     refine WPD1.eff 2 [0] [] rfl (rc [] [1] 2 [] (s_r9_Of k x1 x8 h1)) rfl rfl ?_
     refine dT 5 ?_
     refine WPD.of2 6 10 (by kernel_rfl) ?_ ?_
     · obtain ⟨⟨x9, x10, x11⟩, h2, H⟩ := bnd H
       refine WPD1.eff 6 [0] [] rfl (rc [] [2] 3 [] (s_r9_Tell k (decide (x1 < 0)) x8 x2 x9 x10 x11 h2)) rfl rfl ?_
       refine dT 7 ?_
       refine dT 8 ?_
       refine dT 9 ?_
       refine dE 10 [0] [] rfl (Does.runs (d_alloc ze23 rfl)) ?_
       refine dS 11 [0] [] ?_
       refine dT 12 ?_
       refine WPD.doneW (by kernel_rfl) ?_
       obtain ⟨rfl, rfl, rfl⟩ := j3 H
       exact wq [0, 3]
     refine WPD1.eff 10 [0] [] rfl (Does.runs (d_alloc ze23 rfl)) rfl rfl ?_
     obtain ⟨⟨x12, x13, x14⟩, h3, H⟩ := bnd H
     refine dE 6 [0] [] rfl (rc [] [3] 4 [] (s_r9_Tell k (decide (x1 < 0)) x8 x2 x12 x13 x14 h3)) ?_
     refine dT 7 ?_
     refine dT 8 ?_
     refine dT 9 ?_
     refine dS 11 [0] [] ?_
     refine dT 12 ?_
     refine WPD.doneW (by kernel_rfl) ?_
     obtain ⟨rfl, rfl, rfl⟩ := j3 H
     exact wq [0, 2]
   refine WPD1.eff 10 [0] [] rfl (Does.runs (d_alloc ze23 rfl)) rfl rfl ?_
   obtain ⟨x15, h4, H⟩ := bnd H
   refine dE 2 [0] [] rfl (rc [] [2] 3 [] (s_r9_Of k x1 x15 h4)) ?_
   refine dT 5 ?_
   obtain ⟨⟨x16, x17, x18⟩, h5, H⟩ := bnd H
   refine dE 6 [0] [] rfl (rc [] [3] 4 [] (s_r9_Tell k (decide (x1 < 0)) x15 x2 x16 x17 x18 h5)) ?_
   refine dT 7 ?_
   refine dT 8 ?_
   refine dT 9 ?_
   refine dS 11 [0] [] ?_
   refine dT 12 ?_
   refine WPD.doneW (by kernel_rfl) ?_
   obtain ⟨rfl, rfl, rfl⟩ := j3 H
   exact wq [0, 1]
 iterate 2 refine sp ?_
 refine WP.seq ?_
 obtain ⟨x19, H3, H⟩ := bnd H
 refine mo .normal (Env.none.upd 2 (.lit (.bool x19))) Mem.nil ?_ ?_
 · clear H
   have H := H3
   clear H3
   iterate 4 refine sp ?_
   refine ws 25 H (fun hb3 H => ?_) fun hb3 H => ?_
   · iterate 2 refine sp ?_
     obtain ⟨x20, h6, H⟩ := bnd H
     refine WPL.gq rfl (lb hb3) (q_nm (q_eqlAg (xs := [(.int .i64 x6), (.int .i64 x7)]) (ys := [(.int .i64 x1), (.int .i64 x2)]) (n := 9) rfl eg23 rfl rfl eq23) (nm_bool h6)) ?_
     iterate 2 refine sp ?_
     refine WPL.nilW ?_
     have q0 := j1 H
     subst q0
     exact wq []
   iterate 5 refine sp ?_
   refine WPL.nilW ?_
   have q0 := j1 H
   subst q0
   exact wq []
 iterate 3 refine sp ?_
 have q0 := j1 H
 subst q0
 exact W.now (mb [])
theorem s_rv_Of (k : Nat) (x1 : Int) (x2 : Int) (x3 : Int) (x4 : Int) (x5 : Int) (x6 : Int) (x7 : Int) (H : g_rv_Of k x1 x2 x3 = some (x4, x5, x6, x7)) : Go.Q.Spec Tryz.prog 13 0 [.agg [.lit (.int .i64 x1), .lit (.int .i64 x2)], .lit (.int .i64 x3)] Mem.nil (fun o M => o = .ret (.agg [.lit (.int .i64 x4), .lit (.int .i64 x5), .lit (.int .i64 x6), .lit (.string (ByteArray.mk #[])), .lit (.bool false), .lit (.int .i64 x7)]) ∧ M = (Mem.nil.push (.cells 29 [.lit (.int .i64 x4), .lit (.int .i64 x5), .lit (.int .i64 x6), .lit (.string (ByteArray.mk #[])), .lit (.bool false), .lit (.int .i64 x7)]))) := by
 unfold g_rv_Of at H
 refine bo Tryz.func13 [(29, 6)] [.cell 4 29] 18 fun cx hnp => ?_
 iterate 4 refine sp ?_
 refine WP.seq ?_
 iterate 4 refine sp ?_
 refine cd H (fun hb1 H => ?_) fun hb1 H => ?_
 · refine sp ?_
   obtain ⟨x8, h1, H⟩ := bnd H
   refine WPL.c (rc [] [2] 3 [] (s_rv_Err k 1 x8 h1)) rfl ?_
   iterate 3 refine sp ?_
   obtain ⟨rfl, rfl, rfl, rfl⟩ := j4 H
   exact W.now (Then.r (mb [1]))
 iterate 3 refine sp ?_
 refine WP.seq ?_
 refine WP.seq ?_
 obtain ⟨x9, H1, H⟩ := bnd H
 refine mo .normal (((Env.none.upd 2 (.ptr 0 0)).upd 4 (.ptr 1 0)).upd 14 (.lit (.bool x9))) ((Mem.nil.push (.cells 23 [.lit (.int .i64 x1), .lit (.int .i64 x2)])).push (.cells 29 [.lit (.int .i64 0), .lit (.int .i64 0), .lit (.int .i64 0), .lit (.string (ByteArray.mk #[])), .lit (.bool false), .lit (.int .i64 0)])) ?_ ?_
 · clear H
   have H := H1
   clear H1
   iterate 4 refine sp ?_
   refine ws 10 H (fun hb2 H => ?_) fun hb2 H => ?_
   · iterate 4 refine sp ?_
     refine WPL.nilW ?_
     have q0 := j1 H
     subst q0
     exact wq [0, 1]
   refine sp ?_
   obtain ⟨x10, h2, H⟩ := bnd H
   refine WPL.cg rfl rfl (lb hb2) (rc [] [] 2 [] (s_r9_Right k x1 x2 x10 h2)) rfl ?_
   iterate 2 refine sp ?_
   refine WPL.nilW ?_
   have q0 := j1 H
   subst q0
   exact wq [0, 1]
 iterate 2 refine sp ?_
 refine cd H (fun hb3 H => ?_) fun hb3 H => ?_
 · refine sp ?_
   obtain ⟨x11, h3, H⟩ := bnd H
   refine WPL.c (rc [] [2] 3 [] (s_rv_Err k 5 x11 h3)) rfl ?_
   iterate 3 refine sp ?_
   obtain ⟨rfl, rfl, rfl, rfl⟩ := j4 H
   exact W.now (Then.r (mb [1]))
 iterate 9 refine sp ?_
 obtain ⟨rfl, rfl, rfl, rfl⟩ := j4 H
 exact W.now (mb [1])
theorem s_u8_word_string (k : Nat) (x1 : ByteArray) (x2 : Int) (H : g_u8_word_string k x1 = some x2) : Go.Q.Spec Tryz.prog 135 0 [.lit (.string x1)] Mem.nil (fun o M => o = .ret (.lit (.int .u64 x2)) ∧ M = Mem.nil) := by
 unfold g_u8_word_string at H
 refine bo Tryz.func135 [] [.tmp 2] 59 fun cx hnp => ?_
 iterate 3 refine sp ?_
 refine WP.seq ?_
 refine WP.condF rfl ?_
 iterate 3 refine sp ?_
 refine WP.seq ?_
 refine WP.regionD' 39 [] [] mixed rfl ?_
 refine dT 0 ?_
 obtain ⟨x3, h1, H⟩ := bnd H
 refine dT 1 ?_
 refine dT 2 ?_
 refine dT 3 ?_
 obtain ⟨x4, h2, H⟩ := bnd H
 refine dT 4 ?_
 refine dT 5 ?_
 refine dT 6 ?_
 obtain ⟨x5, h3, H⟩ := bnd H
 refine dT 7 ?_ rfl (q_nm aq (nm_int h3))
 refine dT 8 ?_
 obtain ⟨x6, h4, H⟩ := bnd H
 refine dT 9 ?_
 refine dT 10 ?_
 obtain ⟨x7, h5, H⟩ := bnd H
 refine dT 11 ?_ rfl (q_nm aq (nm_int h5))
 refine dT 12 ?_
 refine dT 13 ?_
 obtain ⟨x8, h6, H⟩ := bnd H
 refine dT 14 ?_
 refine dT 15 ?_
 obtain ⟨x9, h7, H⟩ := bnd H
 refine dT 16 ?_ rfl (q_nm aq (nm_int h7))
 obtain ⟨x10, h8, H⟩ := bnd H
 refine dT 17 ?_ rfl (q_nm aq (nm_int h8))
 refine dT 18 ?_
 obtain ⟨x11, h9, H⟩ := bnd H
 refine dT 19 ?_
 refine dT 20 ?_
 obtain ⟨x12, h10, H⟩ := bnd H
 refine dT 21 ?_ rfl (q_nm aq (nm_int h10))
 refine dT 22 ?_
 refine dT 23 ?_
 obtain ⟨x13, h11, H⟩ := bnd H
 refine dT 24 ?_
 refine dT 25 ?_
 obtain ⟨x14, h12, H⟩ := bnd H
 refine dT 26 ?_ rfl (q_nm aq (nm_int h12))
 obtain ⟨x15, h13, H⟩ := bnd H
 refine dT 27 ?_ rfl (q_nm aq (nm_int h13))
 refine dT 28 ?_
 obtain ⟨x16, h14, H⟩ := bnd H
 refine dT 29 ?_
 refine dT 30 ?_
 obtain ⟨x17, h15, H⟩ := bnd H
 refine dT 31 ?_ rfl (q_nm aq (nm_int h15))
 refine dT 32 ?_
 refine dT 33 ?_
 obtain ⟨x18, h16, H⟩ := bnd H
 refine dT 34 ?_
 refine dT 35 ?_
 obtain ⟨x19, h17, H⟩ := bnd H
 refine dT 36 ?_ rfl (q_nm aq (nm_int h17))
 obtain ⟨x20, h18, H⟩ := bnd H
 refine dT 37 ?_ rfl (q_nm aq (nm_int h18))
 refine dT 38 ?_
 refine WPD.doneW (by kernel_rfl) ?_
 iterate 3 refine sp ?_
 have q0 := j1 H
 subst q0
 exact W.now (mb [])
theorem s_u8_ValidString (k : Nat) (x1 : ByteArray) (x2 : Bool) (H : g_u8_ValidString k x1 = some x2) : Go.Q.Spec Tryz.prog 86 0 [.lit (.string x1)] Mem.nil (fun o M => o = .ret (.lit (.bool x2)) ∧ M = Mem.nil) := by
 unfold g_u8_ValidString at H
 refine bo Tryz.func86 [] [.tmp 2] 169 fun cx hnp => ?_
 iterate 3 refine sp ?_
 refine WP.seq ?_
 refine sp ?_
 refine WP.cv (Cv.weak (E' := (Env.none.upd 0 (.lit (.string x1)))) (M' := Mem.nil) [] hnp ⟨rfl, trivial, by decide, rfl, trivial⟩ (LeE.u (LeE.none rfl rfl))) ?_
 obtain ⟨y1, H1, H⟩ := bnd H
 refine WP.monoW (Q := fun x E M => match (generalizing := false) y1 with | (Sum.inl _) => x = .ret ∧ E = (Env.none.upd 2 (.lit (.bool false))) ∧ M = Mem.nil | (Sum.inr _) => x = .exit 0 ∧ E = Env.none ∧ M = Mem.nil) ?_ ?_
 · refine WP.loop (β := ByteArray) (fun n b => g_u8_ValidString_l0 k n b = some y1) (fun b => (Env.none.upd 0 (.lit (.string b)))) (fun b => Mem.nil) k x1 H1 rfl rfl ?_
   rintro n x3 H
   obtain _ | n := n
   · exact nf rfl H
   rw [g_u8_ValidString_l0.eq_2] at H
   show WP _ _ _ _ (Env.none.upd 0 (.lit (.string x3))) Mem.nil _
   refine WP.seq ?_
   iterate 3 refine sp ?_
   obtain ⟨x4, h1, H⟩ := bnd H
   refine sn (nm_bool h1) ?_
   refine sp ?_
   refine cd H (fun hb1 H => ?_) fun hb1 H => ?_
   · iterate 6 refine sp ?_
     obtain ⟨x5, h2, H⟩ := bnd H
     iterate 3 refine sp ?_
     refine WP.seq ?_
     iterate 4 refine sp ?_
     refine cd H (fun hb2 H => ?_) fun hb2 H => ?_
     · iterate 2 refine sp ?_
       obtain ⟨h3, H⟩ := grd H
       obtain ⟨x6, h4, H⟩ := bnd H
       refine WPL.qq (q_nm (q_slice_str (i := 1) (j := ((ByteArray.size x3 : Nat) : Int)) Tryz.underlying9 rfl ⟨_, rfl⟩ rfl h3) (nm_str h4)) ?_
       iterate 2 refine sp ?_
       refine WP.seq ?_
       obtain ⟨x7, H2, H⟩ := bnd H
       refine mo .normal (Env.none.upd 0 (.lit (.string x7))) Mem.nil ?_ ?_
       · clear H
         have H := H2
         clear H2
         refine WP.seq ?_
         obtain ⟨x8, H3, H⟩ := bnd H
         refine mo .normal ((Env.none.upd 0 (.lit (.string x6))).upd 24 (.lit (.bool x8))) Mem.nil ?_ ?_
         · clear H
           have H := H3
           clear H3
           iterate 3 refine sp ?_
           obtain ⟨x9, h5, H⟩ := bnd H
           refine sn (nm_bool h5) ?_
           refine sp ?_
           refine ws 19 H (fun hb3 H => ?_) fun hb3 H => ?_
           · refine sp ?_
             obtain ⟨x10, h6, H⟩ := bnd H
             refine WPL.cg rfl rfl (lb hb3) (rc [] [] 0 [] (s_u8_word_string k x6 x10 h6)) rfl ?_
             obtain ⟨x11, h7, H⟩ := bnd H
             refine sn (nm_int h7) ?_
             iterate 2 refine sp ?_
             refine WPL.nilW ?_
             have q0 := j1 H
             subst q0
             exact wq []
           iterate 5 refine sp ?_
           refine WPL.nilW ?_
           have q0 := j1 H
           subst q0
           exact wq []
         iterate 2 refine sp ?_
         refine cd H (fun hb4 H => ?_) fun hb4 H => ?_
         · iterate 2 refine sp ?_
           obtain ⟨h8, H⟩ := grd H
           obtain ⟨x12, h9, H⟩ := bnd H
           refine WPL.qq (q_nm (q_slice_str (i := 8) (j := ((ByteArray.size x6 : Nat) : Int)) Tryz.underlying9 rfl ⟨_, rfl⟩ rfl h8) (nm_str h9)) ?_
           iterate 2 refine sp ?_
           refine WP.seq ?_
           obtain ⟨x13, H4, H⟩ := bnd H
           refine mo .normal ((Env.none.upd 0 (.lit (.string x12))).upd 39 (.lit (.bool x13))) Mem.nil ?_ ?_
           · clear H
             have H := H4
             clear H4
             refine WP.regionD' 13 [] [] mixed rfl ?_
             refine dT 0 ?_
             refine dT 1 ?_
             obtain ⟨x14, h10, H⟩ := bnd H
             refine dT 2 ?_ rfl (q_nm aq (nm_bool h10))
             refine dT 3 ?_
             refine ds 30 H (fun hb5 H => ?_) fun hb5 H => ?_
             · refine dG 4 ?_
               refine dG 6 ?_
               obtain ⟨h11, H⟩ := grd H
               obtain ⟨x15, h12, H⟩ := bnd H
               refine WPD.takegT 7 rfl (by kernel_rfl) rfl rfl (lb hb5) (q_nm (q_slice_str (i := 8) (j := ((ByteArray.size x12 : Nat) : Int)) Tryz.underlying9 rfl ⟨_, rfl⟩ rfl h11) (nm_str h12)) rfl ?_
               obtain ⟨x16, h12, H⟩ := bnd H
               refine dF 5 [] [] rfl (rc [] [] 0 [] (s_u8_word_string k x12 x16 h12)) ?_
               obtain ⟨x17, h13, H⟩ := bnd H
               refine dF 8 [] [] rfl (rc [] [] 0 [] (s_u8_word_string k x15 x17 h13)) ?_
               refine dG 9 ?_
               obtain ⟨x18, h14, H⟩ := bnd H
               refine dG 10 ?_ rfl rfl gv (q_nm aq (nm_int h14))
               refine dG 11 ?_
               refine dT 12 ?_
               refine WPD.doneW (by kernel_rfl) ?_
               have q0 := j1 H
               subst q0
               exact wq []
             refine dP false 4 ?_
             refine dP false 5 ?_
             refine dP false 6 ?_
             refine dP false 7 ?_
             refine dP false 8 ?_
             refine dP false 9 ?_
             refine dP false 10 ?_
             refine dP false 11 ?_
             refine dT 12 ?_
             refine WPD.doneW (by kernel_rfl) ?_
             have q0 := j1 H
             subst q0
             exact wq []
           iterate 2 refine sp ?_
           refine cd H (fun hb6 H => ?_) fun hb6 H => ?_
           · iterate 2 refine sp ?_
             obtain ⟨h15, H⟩ := grd H
             obtain ⟨x19, h16, H⟩ := bnd H
             refine WPL.qq (q_nm (q_slice_str (i := 16) (j := ((ByteArray.size x12 : Nat) : Int)) Tryz.underlying9 rfl ⟨_, rfl⟩ rfl h15) (nm_str h16)) ?_
             iterate 3 refine sp ?_
             refine WP.cv (Cv.weak (E' := (Env.none.upd 0 (.lit (.string x19)))) (M' := Mem.nil) [] hnp ⟨rfl, trivial, by decide, rfl, trivial⟩ (LeE.u (LeE.none rfl rfl))) ?_
             obtain ⟨x20, H5, H⟩ := bnd H
             refine mo (.exit 2) (Env.none.upd 0 (.lit (.string x20))) Mem.nil ?_ ?_
             · refine WP.loop (β := ByteArray) (fun n b => g_u8_ValidString_l1 k n b = some x20) (fun b => (Env.none.upd 0 (.lit (.string b)))) (fun b => Mem.nil) k x19 H5 rfl rfl ?_
               rintro n x21 H
               obtain _ | n := n
               · exact nf rfl H
               rw [g_u8_ValidString_l1.eq_2] at H
               show WP _ _ _ _ (Env.none.upd 0 (.lit (.string x21))) Mem.nil _
               refine WP.seq ?_
               refine WP.seq ?_
               obtain ⟨x22, H6, H⟩ := bnd H
               refine mo .normal ((Env.none.upd 0 (.lit (.string x21))).upd 62 (.lit (.bool x22))) Mem.nil ?_ ?_
               · clear H
                 have H := H6
                 clear H6
                 refine WP.regionD' 21 [] [] mixed rfl ?_
                 refine dT 0 ?_
                 refine dT 1 ?_
                 obtain ⟨x23, h17, H⟩ := bnd H
                 refine dT 2 ?_ rfl (q_nm aq (nm_bool h17))
                 refine dT 3 ?_
                 refine ds 45 H (fun hb7 H => ?_) fun hb7 H => ?_
                 · refine dG 4 ?_
                   refine dG 6 ?_
                   obtain ⟨h18, H⟩ := grd H
                   obtain ⟨x24, h19, H⟩ := bnd H
                   refine WPD.takegT 7 rfl (by kernel_rfl) rfl rfl (lb hb7) (q_nm (q_slice_str (i := 8) (j := ((ByteArray.size x21 : Nat) : Int)) Tryz.underlying9 rfl ⟨_, rfl⟩ rfl h18) (nm_str h19)) rfl ?_
                   refine dG 10 ?_
                   obtain ⟨h19, H⟩ := grd H
                   obtain ⟨x25, h20, H⟩ := bnd H
                   refine WPD.takegT 11 rfl (by kernel_rfl) rfl rfl (lb hb7) (q_nm (q_slice_str (i := 16) (j := ((ByteArray.size x21 : Nat) : Int)) Tryz.underlying9 rfl ⟨_, rfl⟩ rfl h19) (nm_str h20)) rfl ?_
                   refine dG 13 ?_
                   obtain ⟨h20, H⟩ := grd H
                   obtain ⟨x26, h21, H⟩ := bnd H
                   refine WPD.takegT 14 rfl (by kernel_rfl) rfl rfl (lb hb7) (q_nm (q_slice_str (i := 24) (j := ((ByteArray.size x21 : Nat) : Int)) Tryz.underlying9 rfl ⟨_, rfl⟩ rfl h20) (nm_str h21)) rfl ?_
                   obtain ⟨x27, h21, H⟩ := bnd H
                   refine dF 5 [] [] rfl (rc [] [] 0 [] (s_u8_word_string k x21 x27 h21)) ?_
                   obtain ⟨x28, h22, H⟩ := bnd H
                   refine dF 8 [] [] rfl (rc [] [] 0 [] (s_u8_word_string k x24 x28 h22)) ?_
                   refine dG 9 ?_
                   obtain ⟨x29, h23, H⟩ := bnd H
                   refine dF 12 [] [] rfl (rc [] [] 0 [] (s_u8_word_string k x25 x29 h23)) ?_
                   obtain ⟨x30, h24, H⟩ := bnd H
                   refine dF 15 [] [] rfl (rc [] [] 0 [] (s_u8_word_string k x26 x30 h24)) ?_
                   refine dG 16 ?_
                   obtain ⟨x31, h25, H⟩ := bnd H
                   refine dG 17 ?_ rfl rfl gv (q_nm aq (nm_int h25))
                   obtain ⟨x32, h26, H⟩ := bnd H
                   refine dG 18 ?_ rfl rfl gv (q_nm aq (nm_int h26))
                   refine dG 19 ?_
                   refine dT 20 ?_
                   refine WPD.doneW (by kernel_rfl) ?_
                   have q0 := j1 H
                   subst q0
                   exact wq []
                 refine dP false 4 ?_
                 refine dP false 5 ?_
                 refine dP false 6 ?_
                 refine dP false 7 ?_
                 refine dP false 8 ?_
                 refine dP false 9 ?_
                 refine dP false 10 ?_
                 refine dP false 11 ?_
                 refine dP false 12 ?_
                 refine dP false 13 ?_
                 refine dP false 14 ?_
                 refine dP false 15 ?_
                 refine dP false 16 ?_
                 refine dP false 17 ?_
                 refine dP false 18 ?_
                 refine dP false 19 ?_
                 refine dT 20 ?_
                 refine WPD.doneW (by kernel_rfl) ?_
                 have q0 := j1 H
                 subst q0
                 exact wq []
               iterate 2 refine sp ?_
               refine cd H (fun hb8 H => ?_) fun hb8 H => ?_
               · iterate 6 refine sp ?_
                 obtain ⟨h27, H⟩ := grd H
                 obtain ⟨x33, h28, H⟩ := bnd H
                 refine WPL.qq (q_nm (q_slice_str (i := 32) (j := ((ByteArray.size x21 : Nat) : Int)) Tryz.underlying9 rfl ⟨_, rfl⟩ rfl h27) (nm_str h28)) ?_
                 refine sp ?_
                 refine WPL.nilW ?_
                 exact wq [] (InBlock.n (Then.n ⟨n, x33, Nat.lt_succ_self n, H, rfl, rfl⟩))
               refine sp ?_
               have q0 := j1 H
               subst q0
               exact wq [] (Then.x (Then.x r3))
             have q0 := j1 H
             subst q0
             exact wq [] (InBlock.x0 r3)
           refine sp ?_
           have q0 := j1 H
           subst q0
           exact wq []
         refine sp ?_
         have q0 := j1 H
         subst q0
         exact wq []
       iterate 3 refine sp ?_
       exact wq [] (Then.x (InBlock.x0 (Then.n ⟨n, x7, Nat.lt_succ_self n, H, rfl, rfl⟩)))
     iterate 5 refine sp ?_
     obtain ⟨h29, H⟩ := grd H
     refine WPL.qq (q_indexTab ar133 rfl rfl tb0 rfl h29) ?_
     iterate 5 refine sp ?_
     obtain ⟨x34, h30, H⟩ := bnd H
     refine sn (nm_int h30) ?_
     iterate 5 refine sp ?_
     obtain ⟨x35, h31, H⟩ := bnd H
     refine sn (nm_int h31) ?_
     obtain ⟨h31, H⟩ := grd H
     refine WPL.qq (q_indexTab ar136 rfl rfl tb1 rfl h31) ?_
     refine WPL.qq (q_load_roag ag135 rfl rfl S_unicode_utf8_acceptRange.sp) ?_
     iterate 8 refine sp ?_
     obtain ⟨x36, h32, H⟩ := bnd H
     refine sn (nm_bool h32) ?_
     iterate 2 refine sp ?_
     refine cd H (fun hb9 H => ?_) fun hb9 H => ?_
     · refine WP.seq ?_
       refine WP.seq ?_
       obtain ⟨x37, H7, H⟩ := bnd H
       refine mo .normal ((Env.none.upd 0 (.lit (.string x3))).upd 94 (.lit (.bool x37))) Mem.nil ?_ ?_
       · clear H
         have H := H7
         clear H7
         refine WP.regionD' 17 [0] [] mixed rfl ?_
         refine dT 0 ?_
         refine dT 1 ?_
         obtain ⟨x38, h33, H⟩ := bnd H
         refine dT 2 ?_ rfl (q_nm aq (nm_bool h33))
         refine dT 3 ?_
         refine ds 81 H (fun hb10 H => ?_) fun hb10 H => ?_
         · refine dP true 4 ?_
           refine dP true 5 ?_
           refine dP true 6 ?_
           refine dP true 7 ?_
           refine dP true 8 ?_
           refine dT 9 ?_
           refine dT 10 ?_
           refine dP true 11 ?_
           refine dP true 12 ?_
           refine dP true 13 ?_
           refine dP true 14 ?_
           refine dP true 15 ?_
           refine dT 16 ?_
           refine WPD.doneW (by kernel_rfl) ?_
           have q0 := j1 H
           subst q0
           exact wq []
         refine dG 4 ?_
         obtain ⟨x39, h34, H⟩ := bnd H
         refine dG 5 ?_
         refine dG 6 ?_
         refine dH 7 ?_
         obtain ⟨x40, h35, H⟩ := bnd H
         refine dG 8 ?_ rfl rfl gv (q_nm aq (nm_bool h35))
         refine dT 9 ?_
         refine dT 10 ?_
         refine ds 88 H (fun hb11 H => ?_) fun hb11 H => ?_
         · refine dP true 11 ?_
           refine dP true 12 ?_
           refine dP true 13 ?_
           refine dP true 14 ?_
           refine dP true 15 ?_
           refine dT 16 ?_
           refine WPD.doneW (by kernel_rfl) ?_
           have q0 := j1 H
           subst q0
           exact wq []
         refine dG 11 ?_
         refine dG 13 ?_
         obtain ⟨x41, h36, H⟩ := bnd H
         refine dG 14 ?_
         refine dH 12 ?_
         obtain ⟨x42, h37, H⟩ := bnd H
         refine dG 15 ?_ rfl rfl gv (q_nm aq (nm_bool h37))
         refine dT 16 ?_
         refine WPD.doneW (by kernel_rfl) ?_
         have q0 := j1 H
         subst q0
         exact wq []
       iterate 2 refine sp ?_
       refine cd H (fun hb12 H => ?_) fun hb12 H => ?_
       · iterate 4 refine sp ?_
         have q0 := j1 H
         subst q0
         exact wq [] (Then.r (InBlock.r (InBlock.r (Then.r r3))))
       iterate 5 refine sp ?_
       obtain ⟨h38, H⟩ := grd H
       obtain ⟨x43, h39, H⟩ := bnd H
       refine WPL.qq (q_nm (q_slice_str (i := 2) (j := ((ByteArray.size x3 : Nat) : Int)) Tryz.underlying9 rfl ⟨_, rfl⟩ rfl h38) (nm_str h39)) ?_
       refine sp ?_
       refine WPL.nilW ?_
       exact wq [] (InBlock.n (InBlock.n (Then.n ⟨n, x43, Nat.lt_succ_self n, H, rfl, rfl⟩)))
     refine sp ?_
     obtain ⟨x44, h40, H⟩ := bnd H
     refine sn (nm_bool h40) ?_
     iterate 2 refine sp ?_
     refine cd H (fun hb13 H => ?_) fun hb13 H => ?_
     · refine WP.seq ?_
       refine WP.seq ?_
       obtain ⟨x45, H8, H⟩ := bnd H
       refine mo .normal ((Env.none.upd 0 (.lit (.string x3))).upd 125 (.lit (.bool x45))) Mem.nil ?_ ?_
       · clear H
         have H := H8
         clear H8
         refine WP.regionD' 27 [0] [] mixed rfl ?_
         refine dT 0 ?_
         refine dT 1 ?_
         obtain ⟨x46, h41, H⟩ := bnd H
         refine dT 2 ?_ rfl (q_nm aq (nm_bool h41))
         refine dT 3 ?_
         refine ds 102 H (fun hb14 H => ?_) fun hb14 H => ?_
         · refine dP true 4 ?_
           refine dP true 5 ?_
           refine dP true 6 ?_
           refine dP true 7 ?_
           refine dP true 8 ?_
           refine dT 9 ?_
           refine dT 10 ?_
           refine dP true 11 ?_
           refine dP true 12 ?_
           refine dP true 13 ?_
           refine dP true 14 ?_
           refine dP true 15 ?_
           refine dT 16 ?_
           refine dT 17 ?_
           refine dP true 18 ?_
           refine dP true 19 ?_
           refine dP true 20 ?_
           refine dT 21 ?_
           refine dT 22 ?_
           refine dP true 23 ?_
           refine dP true 24 ?_
           refine dP true 25 ?_
           refine dT 26 ?_
           refine WPD.doneW (by kernel_rfl) ?_
           have q0 := j1 H
           subst q0
           exact wq []
         refine dG 4 ?_
         obtain ⟨x47, h42, H⟩ := bnd H
         refine dG 5 ?_
         refine dG 6 ?_
         refine dH 7 ?_
         obtain ⟨x48, h43, H⟩ := bnd H
         refine dG 8 ?_ rfl rfl gv (q_nm aq (nm_bool h43))
         refine dT 9 ?_
         refine dT 10 ?_
         refine ds 109 H (fun hb15 H => ?_) fun hb15 H => ?_
         · refine dP true 11 ?_
           refine dP true 12 ?_
           refine dP true 13 ?_
           refine dP true 14 ?_
           refine dP true 15 ?_
           refine dT 16 ?_
           refine dT 17 ?_
           refine dP true 18 ?_
           refine dP true 19 ?_
           refine dP true 20 ?_
           refine dT 21 ?_
           refine dT 22 ?_
           refine dP true 23 ?_
           refine dP true 24 ?_
           refine dP true 25 ?_
           refine dT 26 ?_
           refine WPD.doneW (by kernel_rfl) ?_
           have q0 := j1 H
           subst q0
           exact wq []
         refine dG 11 ?_
         refine dG 13 ?_
         obtain ⟨x49, h44, H⟩ := bnd H
         refine dG 14 ?_
         refine dH 12 ?_
         obtain ⟨x50, h45, H⟩ := bnd H
         refine dG 15 ?_ rfl rfl gv (q_nm aq (nm_bool h45))
         refine dT 16 ?_
         refine dT 17 ?_
         refine ds 116 H (fun hb16 H => ?_) fun hb16 H => ?_
         · refine dP true 18 ?_
           refine dP true 19 ?_
           refine dP true 20 ?_
           refine dT 21 ?_
           refine dT 22 ?_
           refine dP true 23 ?_
           refine dP true 24 ?_
           refine dP true 25 ?_
           refine dT 26 ?_
           refine WPD.doneW (by kernel_rfl) ?_
           have q0 := j1 H
           subst q0
           exact wq []
         refine dG 18 ?_
         obtain ⟨x51, h46, H⟩ := bnd H
         refine dG 19 ?_
         refine dG 20 ?_
         refine dT 21 ?_
         refine dT 22 ?_
         refine ds 121 H (fun hb17 H => ?_) fun hb17 H => ?_
         · refine dP true 23 ?_
           refine dP true 24 ?_
           refine dP true 25 ?_
           refine dT 26 ?_
           refine WPD.doneW (by kernel_rfl) ?_
           have q0 := j1 H
           subst q0
           exact wq []
         refine dG 23 ?_
         obtain ⟨x52, h47, H⟩ := bnd H
         refine dG 24 ?_
         refine dG 25 ?_
         refine dT 26 ?_
         refine WPD.doneW (by kernel_rfl) ?_
         have q0 := j1 H
         subst q0
         exact wq []
       iterate 2 refine sp ?_
       refine cd H (fun hb18 H => ?_) fun hb18 H => ?_
       · iterate 4 refine sp ?_
         have q0 := j1 H
         subst q0
         exact wq [] (Then.r (InBlock.r (InBlock.r (Then.r r3))))
       iterate 5 refine sp ?_
       obtain ⟨h48, H⟩ := grd H
       obtain ⟨x53, h49, H⟩ := bnd H
       refine WPL.qq (q_nm (q_slice_str (i := 3) (j := ((ByteArray.size x3 : Nat) : Int)) Tryz.underlying9 rfl ⟨_, rfl⟩ rfl h48) (nm_str h49)) ?_
       refine sp ?_
       refine WPL.nilW ?_
       exact wq [] (InBlock.n (InBlock.n (Then.n ⟨n, x53, Nat.lt_succ_self n, H, rfl, rfl⟩)))
     refine sp ?_
     obtain ⟨x54, h50, H⟩ := bnd H
     refine sn (nm_bool h50) ?_
     iterate 2 refine sp ?_
     refine cd H (fun hb19 H => ?_) fun hb19 H => ?_
     · refine WP.seq ?_
       refine WP.seq ?_
       obtain ⟨x55, H9, H⟩ := bnd H
       refine mo .normal ((Env.none.upd 0 (.lit (.string x3))).upd 166 (.lit (.bool x55))) Mem.nil ?_ ?_
       · clear H
         have H := H9
         clear H9
         refine WP.regionD' 37 [0] [] mixed rfl ?_
         refine dT 0 ?_
         refine dT 1 ?_
         obtain ⟨x56, h51, H⟩ := bnd H
         refine dT 2 ?_ rfl (q_nm aq (nm_bool h51))
         refine dT 3 ?_
         refine ds 133 H (fun hb20 H => ?_) fun hb20 H => ?_
         · refine dP true 4 ?_
           refine dP true 5 ?_
           refine dP true 6 ?_
           refine dP true 7 ?_
           refine dP true 8 ?_
           refine dT 9 ?_
           refine dT 10 ?_
           refine dP true 11 ?_
           refine dP true 12 ?_
           refine dP true 13 ?_
           refine dP true 14 ?_
           refine dP true 15 ?_
           refine dT 16 ?_
           refine dT 17 ?_
           refine dP true 18 ?_
           refine dP true 19 ?_
           refine dP true 20 ?_
           refine dT 21 ?_
           refine dT 22 ?_
           refine dP true 23 ?_
           refine dP true 24 ?_
           refine dP true 25 ?_
           refine dT 26 ?_
           refine dT 27 ?_
           refine dP true 28 ?_
           refine dP true 29 ?_
           refine dP true 30 ?_
           refine dT 31 ?_
           refine dT 32 ?_
           refine dP true 33 ?_
           refine dP true 34 ?_
           refine dP true 35 ?_
           refine dT 36 ?_
           refine WPD.doneW (by kernel_rfl) ?_
           have q0 := j1 H
           subst q0
           exact wq []
         refine dG 4 ?_
         obtain ⟨x57, h52, H⟩ := bnd H
         refine dG 5 ?_
         refine dG 6 ?_
         refine dH 7 ?_
         obtain ⟨x58, h53, H⟩ := bnd H
         refine dG 8 ?_ rfl rfl gv (q_nm aq (nm_bool h53))
         refine dT 9 ?_
         refine dT 10 ?_
         refine ds 140 H (fun hb21 H => ?_) fun hb21 H => ?_
         · refine dP true 11 ?_
           refine dP true 12 ?_
           refine dP true 13 ?_
           refine dP true 14 ?_
           refine dP true 15 ?_
           refine dT 16 ?_
           refine dT 17 ?_
           refine dP true 18 ?_
           refine dP true 19 ?_
           refine dP true 20 ?_
           refine dT 21 ?_
           refine dT 22 ?_
           refine dP true 23 ?_
           refine dP true 24 ?_
           refine dP true 25 ?_
           refine dT 26 ?_
           refine dT 27 ?_
           refine dP true 28 ?_
           refine dP true 29 ?_
           refine dP true 30 ?_
           refine dT 31 ?_
           refine dT 32 ?_
           refine dP true 33 ?_
           refine dP true 34 ?_
           refine dP true 35 ?_
           refine dT 36 ?_
           refine WPD.doneW (by kernel_rfl) ?_
           have q0 := j1 H
           subst q0
           exact wq []
         refine dG 11 ?_
         refine dG 13 ?_
         obtain ⟨x59, h54, H⟩ := bnd H
         refine dG 14 ?_
         refine dH 12 ?_
         obtain ⟨x60, h55, H⟩ := bnd H
         refine dG 15 ?_ rfl rfl gv (q_nm aq (nm_bool h55))
         refine dT 16 ?_
         refine dT 17 ?_
         refine ds 147 H (fun hb22 H => ?_) fun hb22 H => ?_
         · refine dP true 18 ?_
           refine dP true 19 ?_
           refine dP true 20 ?_
           refine dT 21 ?_
           refine dT 22 ?_
           refine dP true 23 ?_
           refine dP true 24 ?_
           refine dP true 25 ?_
           refine dT 26 ?_
           refine dT 27 ?_
           refine dP true 28 ?_
           refine dP true 29 ?_
           refine dP true 30 ?_
           refine dT 31 ?_
           refine dT 32 ?_
           refine dP true 33 ?_
           refine dP true 34 ?_
           refine dP true 35 ?_
           refine dT 36 ?_
           refine WPD.doneW (by kernel_rfl) ?_
           have q0 := j1 H
           subst q0
           exact wq []
         refine dG 18 ?_
         obtain ⟨x61, h56, H⟩ := bnd H
         refine dG 19 ?_
         refine dG 20 ?_
         refine dT 21 ?_
         refine dT 22 ?_
         refine ds 152 H (fun hb23 H => ?_) fun hb23 H => ?_
         · refine dP true 23 ?_
           refine dP true 24 ?_
           refine dP true 25 ?_
           refine dT 26 ?_
           refine dT 27 ?_
           refine dP true 28 ?_
           refine dP true 29 ?_
           refine dP true 30 ?_
           refine dT 31 ?_
           refine dT 32 ?_
           refine dP true 33 ?_
           refine dP true 34 ?_
           refine dP true 35 ?_
           refine dT 36 ?_
           refine WPD.doneW (by kernel_rfl) ?_
           have q0 := j1 H
           subst q0
           exact wq []
         refine dG 23 ?_
         obtain ⟨x62, h57, H⟩ := bnd H
         refine dG 24 ?_
         refine dG 25 ?_
         refine dT 26 ?_
         refine dT 27 ?_
         refine ds 157 H (fun hb24 H => ?_) fun hb24 H => ?_
         · refine dP true 28 ?_
           refine dP true 29 ?_
           refine dP true 30 ?_
           refine dT 31 ?_
           refine dT 32 ?_
           refine dP true 33 ?_
           refine dP true 34 ?_
           refine dP true 35 ?_
           refine dT 36 ?_
           refine WPD.doneW (by kernel_rfl) ?_
           have q0 := j1 H
           subst q0
           exact wq []
         refine dG 28 ?_
         obtain ⟨x63, h58, H⟩ := bnd H
         refine dG 29 ?_
         refine dG 30 ?_
         refine dT 31 ?_
         refine dT 32 ?_
         refine ds 162 H (fun hb25 H => ?_) fun hb25 H => ?_
         · refine dP true 33 ?_
           refine dP true 34 ?_
           refine dP true 35 ?_
           refine dT 36 ?_
           refine WPD.doneW (by kernel_rfl) ?_
           have q0 := j1 H
           subst q0
           exact wq []
         refine dG 33 ?_
         obtain ⟨x64, h59, H⟩ := bnd H
         refine dG 34 ?_
         refine dG 35 ?_
         refine dT 36 ?_
         refine WPD.doneW (by kernel_rfl) ?_
         have q0 := j1 H
         subst q0
         exact wq []
       iterate 2 refine sp ?_
       refine cd H (fun hb26 H => ?_) fun hb26 H => ?_
       · iterate 4 refine sp ?_
         have q0 := j1 H
         subst q0
         exact wq [] (Then.r (InBlock.r (InBlock.r (Then.r r3))))
       iterate 5 refine sp ?_
       obtain ⟨h60, H⟩ := grd H
       obtain ⟨x65, h61, H⟩ := bnd H
       refine WPL.qq (q_nm (q_slice_str (i := 4) (j := ((ByteArray.size x3 : Nat) : Int)) Tryz.underlying9 rfl ⟨_, rfl⟩ rfl h60) (nm_str h61)) ?_
       refine sp ?_
       refine WPL.nilW ?_
       exact wq [] (InBlock.n (InBlock.n (Then.n ⟨n, x65, Nat.lt_succ_self n, H, rfl, rfl⟩)))
     iterate 4 refine sp ?_
     have q0 := j1 H
     subst q0
     exact wq [] (InBlock.r (InBlock.r (Then.r r3)))
   refine sp ?_
   have q0 := j1 H
   subst q0
   exact wq [] (Then.x (Then.x r3))
 rcases y1 with _ | _
 · rintro _ _ _ ⟨rfl, rfl, rfl⟩
   have q0 := j1 H
   subst q0
   exact W.now (InBlock.r (Then.r (mb [])))
 rintro _ _ _ ⟨rfl, rfl, rfl⟩
 iterate 7 refine sp ?_
 have q0 := j1 H
 subst q0
 exact W.now (mb [])
end Go.Proofs.YthpcgknknpjpdaaGreatDoor.W
namespace Go.Proofs.YthpcgknknpjpdaaGreatDoor.W
open Go Go.Q Go.Proofs
set_option linter.unusedVariables false
set_option linter.unusedSimpArgs false
set_option maxRecDepth 100000
set_option maxHeartbeats 4000000
theorem s_utf_Xml (k : Nat) (x1 : ByteArray) (x2 : Int) (H : g_utf_Xml k x1 = some x2) : Go.Q.Spec Tryz.prog 47 0 [.lit (.string x1)] Mem.nil (fun o M => o = .ret (.lit (.int .i64 x2)) ∧ M = Mem.nil) := by
 unfold g_utf_Xml at H
 refine bo Tryz.func47 [] [.tmp 2] 27 fun cx hnp => ?_
 iterate 3 refine sp ?_
 refine WP.seq ?_
 iterate 2 refine sp ?_
 obtain ⟨x3, h1, H⟩ := bnd H
 refine WPL.c (rc [] [] 0 [] (s_u8_ValidString k x1 x3 h1)) rfl ?_
 iterate 2 refine sp ?_
 refine cd H (fun hb1 H => ?_) fun hb1 H => ?_
 · iterate 4 refine sp ?_
   have q0 := j1 H
   subst q0
   exact W.now (Then.r (mb []))
 iterate 3 refine sp ?_
 refine WP.seq ?_
 iterate 2 refine sp ?_
 refine WPL.d (d_range Tryz.underlying9 rfl rfl) rfl ?_
 iterate 2 refine sp ?_
 refine WP.cv (Cv.weak (E' := (Env.none.upd 9 (.ptr 0 0))) (M' := (Mem.nil.push (.obj (.stringIter x1 0)))) [0] hnp ⟨rfl, AA1, by decide, rfl, trivial⟩ (LeE.u (LeE.none rfl rfl))) ?_
 obtain ⟨y1, H1, H⟩ := bnd H
 refine WP.monoW (Q := fun x E M => match (generalizing := false) y1 with | (Sum.inl _) => x = .ret ∧ E = (Env.none.upd 2 (.lit (.int .i64 20))) ∧ M = Mem.nil | (Sum.inr _) => x = .exit 0 ∧ E = Env.none ∧ M = Mem.nil) ?_ ?_
 · refine WP.loop (β := Nat) (fun n b => g_utf_Xml_l0 k x1 n b = some y1) (fun b => (Env.none.upd 9 (.ptr 0 0))) (fun b => (Mem.nil.push (.obj (.stringIter x1 b)))) k 0 H1 rfl rfl ?_
   rintro n x4 H
   obtain _ | n := n
   · exact nf rfl H
   rw [g_utf_Xml_l0.eq_2] at H
   show WP _ _ _ _ (Env.none.upd 9 (.ptr 0 0)) (Mem.nil.push (.obj (.stringIter x1 x4))) _
   refine sp ?_
   refine WPL.splitB (decide (x4 < ByteArray.size x1)) (fun hb2 => ?_) (fun hb2 => ?_)
   · replace H := cnt hb2 H
     refine WPL.d (d_next rfl rfl hb2) rfl ?_
     iterate 2 refine sp ?_
     refine WP.seq ?_
     refine WP.condT rfl ?_
     iterate 9 refine sp ?_
     refine WP.seq ?_
     obtain ⟨x5, H2, H⟩ := bnd H
     refine mo .normal (((Env.none.upd 4 (.lit (.int .i32 (((Utf8.decode x1 x4).1 : Nat) : Int)))).upd 9 (.ptr 0 0)).upd 13 (.lit (.bool x5))) (Mem.nil.push (.obj (.stringIter x1 (x4 + (Utf8.decode x1 x4).2)))) ?_ ?_
     · clear H
       have H := H2
       clear H2
       iterate 2 refine sp ?_
       obtain ⟨x6, h2, H⟩ := bnd H
       refine sn (nm_bool h2) ?_
       iterate 2 refine sp ?_
       refine cd H (fun hb3 H => ?_) fun hb3 H => ?_
       · refine sp ?_
         have q0 := j1 H
         subst q0
         exact wq [0]
       iterate 2 refine sp ?_
       obtain ⟨x7, h3, H⟩ := bnd H
       refine sn (nm_bool h3) ?_
       iterate 2 refine sp ?_
       refine cd H (fun hb4 H => ?_) fun hb4 H => ?_
       · refine sp ?_
         have q0 := j1 H
         subst q0
         exact wq [0]
       iterate 2 refine sp ?_
       obtain ⟨x8, h4, H⟩ := bnd H
       refine sn (nm_bool h4) ?_
       refine sp ?_
       refine WPL.nilW ?_
       have q0 := j1 H
       subst q0
       exact wq [0]
     iterate 2 refine sp ?_
     refine cd H (fun hb5 H => ?_) fun hb5 H => ?_
     · refine sp ?_
       exact wq [0] (InBlock.n (InBlock.n (Then.n ⟨n, (x4 + (Utf8.decode x1 x4).2), Nat.lt_succ_self n, H, rfl, rfl⟩)))
     refine WP.seq ?_
     obtain ⟨x9, H3, H⟩ := bnd H
     refine mo .normal ((Env.none.upd 9 (.ptr 0 0)).upd 20 (.lit (.bool x9))) (Mem.nil.push (.obj (.stringIter x1 (x4 + (Utf8.decode x1 x4).2)))) ?_ ?_
     · clear H
       have H := H3
       clear H3
       iterate 2 refine sp ?_
       obtain ⟨x10, h5, H⟩ := bnd H
       refine sn (nm_bool h5) ?_
       iterate 2 refine sp ?_
       refine cd H (fun hb6 H => ?_) fun hb6 H => ?_
       · refine sp ?_
         have q0 := j1 H
         subst q0
         exact wq [0]
       iterate 2 refine sp ?_
       obtain ⟨x11, h6, H⟩ := bnd H
       refine sn (nm_bool h6) ?_
       iterate 2 refine sp ?_
       refine cd H (fun hb7 H => ?_) fun hb7 H => ?_
       · refine sp ?_
         have q0 := j1 H
         subst q0
         exact wq [0]
       iterate 2 refine sp ?_
       obtain ⟨x12, h7, H⟩ := bnd H
       refine sn (nm_bool h7) ?_
       refine sp ?_
       refine WPL.nilW ?_
       have q0 := j1 H
       subst q0
       exact wq [0]
     iterate 2 refine sp ?_
     refine cd H (fun hb8 H => ?_) fun hb8 H => ?_
     · iterate 4 refine sp ?_
       have q0 := j1 H
       subst q0
       exact wq [] (InBlock.r (InBlock.r (Then.r r3)))
     refine sp ?_
     exact wq [0] (InBlock.n (InBlock.n (Then.n ⟨n, (x4 + (Utf8.decode x1 x4).2), Nat.lt_succ_self n, H, rfl, rfl⟩)))
   replace H := cnf hb2 H
   refine WPL.qq (q_nextEnd rfl rfl hb2) ?_
   iterate 2 refine sp ?_
   refine WP.seq ?_
   refine WP.condF rfl ?_
   refine sp ?_
   have q0 := j1 H
   subst q0
   exact wq [] (Then.x (Then.x r3))
 rcases y1 with _ | _
 · rintro _ _ _ ⟨rfl, rfl, rfl⟩
   have q0 := j1 H
   subst q0
   exact W.now (InBlock.r (Then.r (mb [])))
 rintro _ _ _ ⟨rfl, rfl, rfl⟩
 iterate 7 refine sp ?_
 have q0 := j1 H
 subst q0
 exact W.now (mb [])
theorem s_val_Str (k : Nat) (x1 : ByteArray) (x2 : Int) (x3 : ByteArray) (x4 : Int) (H : g_val_Str k x1 = some (x2, x3, x4)) : Go.Q.Spec Tryz.prog 14 0 [.lit (.string x1)] Mem.nil (fun o M => o = .ret (.agg [.lit (.int .i64 x2), .lit (.int .i64 0), .lit (.int .i64 0), .lit (.string x3), .lit (.bool false), .lit (.int .i64 x4)]) ∧ M = (Mem.nil.push (.cells 29 [.lit (.int .i64 x2), .lit (.int .i64 0), .lit (.int .i64 0), .lit (.string x3), .lit (.bool false), .lit (.int .i64 x4)]))) := by
 unfold g_val_Str at H
 refine bo Tryz.func14 [(29, 6)] [.cell 2 29] 14 fun cx hnp => ?_
 iterate 3 refine sp ?_
 refine WP.seq ?_
 refine WP.seq ?_
 obtain ⟨x5, H1, H⟩ := bnd H
 refine mo .normal (((Env.none.upd 0 (.lit (.string x1))).upd 2 (.ptr 0 0)).upd 10 (.lit (.bool x5))) (Mem.nil.push (.cells 29 [.lit (.int .i64 0), .lit (.int .i64 0), .lit (.int .i64 0), .lit (.string (ByteArray.mk #[])), .lit (.bool false), .lit (.int .i64 0)])) ?_ ?_
 · clear H
   have H := H1
   clear H1
   iterate 3 refine sp ?_
   obtain ⟨x6, h1, H⟩ := bnd H
   refine sn (nm_bool h1) ?_
   refine sp ?_
   refine ws 6 H (fun hb1 H => ?_) fun hb1 H => ?_
   · iterate 4 refine sp ?_
     refine WPL.nilW ?_
     have q0 := j1 H
     subst q0
     exact wq [0]
   refine sp ?_
   obtain ⟨x7, h2, H⟩ := bnd H
   refine WPL.cg rfl rfl (lb hb1) (rc [] [] 1 [] (s_utf_Xml k x1 x7 h2)) rfl ?_
   iterate 2 refine sp ?_
   refine WPL.nilW ?_
   have q0 := j1 H
   subst q0
   exact wq [0]
 iterate 2 refine sp ?_
 refine cd H (fun hb2 H => ?_) fun hb2 H => ?_
 · refine sp ?_
   obtain ⟨x8, h3, H⟩ := bnd H
   refine WPL.c (rc [] [1] 2 [] (s_val_Err k 2 x8 h3)) rfl ?_
   iterate 3 refine sp ?_
   obtain ⟨rfl, rfl, rfl⟩ := j3 H
   exact W.now (Then.r (mb [0]))
 iterate 9 refine sp ?_
 obtain ⟨rfl, rfl, rfl⟩ := j3 H
 exact W.now (mb [0])
theorem s_r6_char (k : Nat) (x1 : Int) (x2 : Bool) (H : g_r6_char k x1 = some x2) : Go.Q.Spec Tryz.prog 159 0 [.lit (.int .i64 x1)] Mem.nil (fun o M => o = .ret (.lit (.bool x2)) ∧ M = Mem.nil) := by
 unfold g_r6_char at H
 refine bo Tryz.func159 [] [.tmp 2] 18 fun cx hnp => ?_
 iterate 3 refine sp ?_
 refine WP.seq ?_
 obtain ⟨x3, H1, H⟩ := bnd H
 refine mo .normal (Env.none.upd 2 (.lit (.bool x3))) Mem.nil ?_ ?_
 · clear H
   have H := H1
   clear H1
   iterate 4 refine sp ?_
   refine ws 5 H (fun hb1 H => ?_) fun hb1 H => ?_
   · iterate 4 refine sp ?_
     refine ws 9 H (fun hb2 H => ?_) fun hb2 H => ?_
     · iterate 3 refine sp ?_
       refine ws 12 H (fun hb3 H => ?_) fun hb3 H => ?_
       · iterate 6 refine sp ?_
         refine WPL.nilW ?_
         have q0 := j1 H
         subst q0
         exact wq []
       iterate 6 refine sp ?_
       refine WPL.nilW ?_
       have q0 := j1 H
       subst q0
       exact wq []
     iterate 9 refine sp ?_
     refine WPL.nilW ?_
     have q0 := j1 H
     subst q0
     exact wq []
   iterate 13 refine sp ?_
   refine WPL.nilW ?_
   have q0 := j1 H
   subst q0
   exact wq []
 iterate 3 refine sp ?_
 have q0 := j1 H
 subst q0
 exact W.now (mb [])
theorem s_r6_Write (k : Nat) (x1 : Int) (x2 : (List Int)) (H : g_r6_Write k x1 = some x2) : Go.Q.Spec Tryz.prog 160 0 [.lit (.int .i64 x1)] Mem.nil (fun o M => o = .ret (.ro (Rd.slice (Rd.int .u8)) false x2) ∧ M = Mem.nil) := by
 unfold g_r6_Write at H
 refine bo Tryz.func160 [] [.tmp 2] 57 fun cx hnp => ?_
 iterate 3 refine sp ?_
 refine WP.seq ?_
 obtain ⟨x3, H1, H⟩ := bnd H
 refine mo .normal (Env.none.upd 0 (.lit (.int .i64 x3))) Mem.nil ?_ ?_
 · clear H
   have H := H1
   clear H1
   iterate 2 refine sp ?_
   obtain ⟨x4, h1, H⟩ := bnd H
   refine WPL.c (rc [] [] 0 [] (s_r6_char k x1 x4 h1)) rfl ?_
   iterate 2 refine sp ?_
   refine cd H (fun hb1 H => ?_) fun hb1 H => ?_
   · iterate 2 refine sp ?_
     refine WPL.nilW ?_
     have q0 := j1 H
     subst q0
     exact wq []
   refine sp ?_
   have q0 := j1 H
   subst q0
   exact wq []
 iterate 2 refine sp ?_
 refine WP.seq ?_
 iterate 4 refine sp ?_
 refine cd H (fun hb2 H => ?_) fun hb2 H => ?_
 · iterate 3 refine sp ?_
   refine WPL.d (d_buildSlice (ds := ([(IntKind.wrap .u8 x3)] : List Int)) (R := (Rd.int .u8)) li104 rfl rfl rfl rfl rfl (JoinRows.cons1 Joins.sc rfl JoinRows.nil) rfl rfl) rfl ?_
   iterate 3 refine sp ?_
   refine W.cv (Cv.frzRow (i := 0) rfl rfl hnp rfl rfl) rfl ?_
   have q0 := j1 H
   subst q0
   exact W.now (Then.r (mb []))
 iterate 3 refine sp ?_
 refine WP.seq ?_
 iterate 4 refine sp ?_
 refine cd H (fun hb3 H => ?_) fun hb3 H => ?_
 · iterate 3 refine sp ?_
   obtain ⟨x5, h2, H⟩ := bnd H
   refine sn (nm_int h2) ?_
   iterate 3 refine sp ?_
   obtain ⟨x6, h3, H⟩ := bnd H
   refine sn (nm_int h3) ?_
   refine sp ?_
   refine WPL.d (d_buildSlice (ds := ([(IntKind.wrap .u8 x5), (IntKind.wrap .u8 x6)] : List Int)) (R := (Rd.int .u8)) li104 rfl rfl rfl rfl rfl (JoinRows.cons1 Joins.sc rfl (JoinRows.cons1 Joins.sc rfl JoinRows.nil)) rfl rfl) rfl ?_
   iterate 3 refine sp ?_
   refine W.cv (Cv.frzRow (i := 0) rfl rfl hnp rfl rfl) rfl ?_
   have q0 := j1 H
   subst q0
   exact W.now (Then.r (mb []))
 iterate 3 refine sp ?_
 refine WP.seq ?_
 iterate 4 refine sp ?_
 refine cd H (fun hb4 H => ?_) fun hb4 H => ?_
 · iterate 2 refine sp ?_
   obtain ⟨x7, h4, H⟩ := bnd H
   refine sn (nm_int h4) ?_
   refine sp ?_
   obtain ⟨x8, h5, H⟩ := bnd H
   refine sn (nm_int h5) ?_
   iterate 2 refine sp ?_
   obtain ⟨x9, h6, H⟩ := bnd H
   refine sn (nm_int h6) ?_
   refine sp ?_
   obtain ⟨x10, h7, H⟩ := bnd H
   refine sn (nm_int h7) ?_
   iterate 2 refine sp ?_
   obtain ⟨x11, h8, H⟩ := bnd H
   refine sn (nm_int h8) ?_
   refine sp ?_
   refine WPL.d (d_buildSlice (ds := ([x8, x10, (IntKind.wrap .u8 x11)] : List Int)) (R := (Rd.int .u8)) li104 rfl rfl rfl rfl rfl (JoinRows.cons1 Joins.sc rfl (JoinRows.cons1 Joins.sc rfl (JoinRows.cons1 Joins.sc rfl JoinRows.nil))) rfl rfl) rfl ?_
   iterate 3 refine sp ?_
   refine W.cv (Cv.frzRow (i := 0) rfl rfl hnp rfl rfl) rfl ?_
   have q0 := j1 H
   subst q0
   exact W.now (Then.r (mb []))
 iterate 5 refine sp ?_
 obtain ⟨x12, h9, H⟩ := bnd H
 refine sn (nm_int h9) ?_
 refine sp ?_
 obtain ⟨x13, h10, H⟩ := bnd H
 refine sn (nm_int h10) ?_
 refine sp ?_
 obtain ⟨x14, h11, H⟩ := bnd H
 refine sn (nm_int h11) ?_
 refine sp ?_
 obtain ⟨x15, h12, H⟩ := bnd H
 refine sn (nm_int h12) ?_
 iterate 3 refine sp ?_
 obtain ⟨x16, h13, H⟩ := bnd H
 refine sn (nm_int h13) ?_
 refine sp ?_
 obtain ⟨x17, h14, H⟩ := bnd H
 refine sn (nm_int h14) ?_
 iterate 2 refine sp ?_
 obtain ⟨x18, h15, H⟩ := bnd H
 refine sn (nm_int h15) ?_
 refine sp ?_
 refine WPL.d (d_buildSlice (ds := ([x13, (IntKind.wrap .u8 x15), x17, (IntKind.wrap .u8 x18)] : List Int)) (R := (Rd.int .u8)) li104 rfl rfl rfl rfl rfl (JoinRows.cons1 Joins.sc rfl (JoinRows.cons1 Joins.sc rfl (JoinRows.cons1 Joins.sc rfl (JoinRows.cons1 Joins.sc rfl JoinRows.nil)))) rfl rfl) rfl ?_
 iterate 3 refine sp ?_
 refine W.cv (Cv.frzRow (i := 0) rfl rfl hnp rfl rfl) rfl ?_
 have q0 := j1 H
 subst q0
 exact W.now (mb [])
theorem s_r6_first (k : Nat) (x1 : ByteArray) (x2 : Int) (x3 : Int) (x4 : Bool) (H : g_r6_first k x1 = some (x2, x3, x4)) : Go.Q.Spec Tryz.prog 136 0 [.lit (.string x1)] Mem.nil (fun o M => o = .ret (.tup [.lit (.int .i64 x2), .lit (.int .i64 x3), .lit (.bool x4)]) ∧ M = Mem.nil) := by
 unfold g_r6_first at H
 refine bo Tryz.func136 [] [.tmp 2, .tmp 3, .tmp 4] 69 fun cx hnp => ?_
 iterate 5 refine sp ?_
 refine WP.seq ?_
 iterate 4 refine sp ?_
 refine WP.cv (Cv.weak (E' := ((Env.none.upd 0 (.lit (.string x1))).upd 5 (.lit (.int .i64 1)))) (M' := Mem.nil) [] hnp ⟨rfl, trivial, by decide, rfl, trivial⟩ (LeE.u (LeE.u (LeE.none rfl rfl)))) ?_
 obtain ⟨y1, H1, H⟩ := bnd H
 refine WP.monoW (Q := fun x E M => match (generalizing := false) y1 with | (Sum.inl (x5, x6)) => x = .ret ∧ E = (((Env.none.upd 2 (.lit (.int .i64 x5))).upd 3 (.lit (.int .i64 x6))).upd 4 (.lit (.bool true))) ∧ M = Mem.nil | (Sum.inr _) => x = .exit 0 ∧ E = Env.none ∧ M = Mem.nil) ?_ ?_
 · refine WP.loop (β := Int) (fun n b => g_r6_first_l0 k x1 n b = some y1) (fun b => ((Env.none.upd 0 (.lit (.string x1))).upd 5 (.lit (.int .i64 b)))) (fun b => Mem.nil) k 1 H1 rfl rfl ?_
   rintro n x7 H
   obtain _ | n := n
   · exact nf rfl H
   rw [g_r6_first_l0.eq_2] at H
   show WP _ _ _ _ ((Env.none.upd 0 (.lit (.string x1))).upd 5 (.lit (.int .i64 x7))) Mem.nil _
   refine WP.seq ?_
   refine WP.seq ?_
   obtain ⟨x8, H2, H⟩ := bnd H
   refine mo .normal (((Env.none.upd 0 (.lit (.string x1))).upd 5 (.lit (.int .i64 x7))).upd 15 (.lit (.bool x8))) Mem.nil ?_ ?_
   · clear H
     have H := H2
     clear H2
     iterate 4 refine sp ?_
     refine ws 10 H (fun hb1 H => ?_) fun hb1 H => ?_
     · iterate 3 refine sp ?_
       obtain ⟨x9, h1, H⟩ := bnd H
       refine sn (nm_bool h1) ?_
       refine sp ?_
       refine WPL.nilW ?_
       have q0 := j1 H
       subst q0
       exact wq []
     iterate 5 refine sp ?_
     refine WPL.nilW ?_
     have q0 := j1 H
     subst q0
     exact wq []
   iterate 2 refine sp ?_
   refine cd H (fun hb2 H => ?_) fun hb2 H => ?_
   · iterate 3 refine sp ?_
     refine WP.seq ?_
     iterate 3 refine sp ?_
     obtain ⟨x10, h2, H⟩ := bnd H
     iterate 4 refine sp ?_
     refine WP.seq ?_
     obtain ⟨x11, H3, H⟩ := bnd H
     refine mo .normal (((Env.none.upd 0 (.lit (.string x1))).upd 5 (.lit (.int .i64 x7))).upd 6 (.lit (.int .i64 x11))) Mem.nil ?_ ?_
     · clear H
       have H := H3
       clear H3
       iterate 4 refine sp ?_
       refine cd H (fun hb3 H => ?_) fun hb3 H => ?_
       · iterate 2 refine sp ?_
         obtain ⟨x12, h3, H⟩ := bnd H
         iterate 2 refine sp ?_
         obtain ⟨x13, h4, H⟩ := bnd H
         refine sn (nm_int h4) ?_
         refine sp ?_
         refine WPL.nilW ?_
         have q0 := j1 H
         subst q0
         exact wq []
       refine sp ?_
       have q0 := j1 H
       subst q0
       exact wq []
     iterate 2 refine sp ?_
     refine WP.seq ?_
     obtain ⟨x14, H4, H⟩ := bnd H
     refine mo .normal (((Env.none.upd 0 (.lit (.string x1))).upd 5 (.lit (.int .i64 x7))).upd 6 (.lit (.int .i64 x14))) Mem.nil ?_ ?_
     · clear H
       have H := H4
       clear H4
       iterate 4 refine sp ?_
       refine cd H (fun hb4 H => ?_) fun hb4 H => ?_
       · iterate 2 refine sp ?_
         obtain ⟨x15, h5, H⟩ := bnd H
         iterate 2 refine sp ?_
         obtain ⟨x16, h6, H⟩ := bnd H
         refine sn (nm_int h6) ?_
         refine sp ?_
         refine WPL.nilW ?_
         have q0 := j1 H
         subst q0
         exact wq []
       refine sp ?_
       have q0 := j1 H
       subst q0
       exact wq []
     iterate 2 refine sp ?_
     refine WP.seq ?_
     obtain ⟨x17, H5, H⟩ := bnd H
     refine mo .normal (((Env.none.upd 0 (.lit (.string x1))).upd 5 (.lit (.int .i64 x7))).upd 6 (.lit (.int .i64 x17))) Mem.nil ?_ ?_
     · clear H
       have H := H5
       clear H5
       iterate 4 refine sp ?_
       refine cd H (fun hb5 H => ?_) fun hb5 H => ?_
       · iterate 2 refine sp ?_
         obtain ⟨x18, h7, H⟩ := bnd H
         iterate 2 refine sp ?_
         obtain ⟨x19, h8, H⟩ := bnd H
         refine sn (nm_int h8) ?_
         refine sp ?_
         refine WPL.nilW ?_
         have q0 := j1 H
         subst q0
         exact wq []
       refine sp ?_
       have q0 := j1 H
       subst q0
       exact wq []
     iterate 2 refine sp ?_
     refine WP.seq ?_
     iterate 4 refine sp ?_
     refine WP.cv (Cv.weak (E' := ((((Env.none.upd 0 (.lit (.string x1))).upd 5 (.lit (.int .i64 x7))).upd 6 (.lit (.int .i64 x17))).upd 7 (.lit (.int .i64 1)))) (M' := Mem.nil) [] hnp ⟨rfl, trivial, by decide, rfl, trivial⟩ (LeE.u (LeE.u (LeE.u (LeE.u (LeE.none rfl rfl)))))) ?_
     obtain ⟨x20, H6, H⟩ := bnd H
     refine mo (.exit 2) (((Env.none.upd 0 (.lit (.string x1))).upd 5 (.lit (.int .i64 x7))).upd 6 (.lit (.int .i64 x20))) Mem.nil ?_ ?_
     · refine WP.loop (β := Int × Int) (fun n b => g_r6_first_l1 k x1 x7 n b.1 b.2 = some x20) (fun b => ((((Env.none.upd 0 (.lit (.string x1))).upd 5 (.lit (.int .i64 x7))).upd 6 (.lit (.int .i64 b.1))).upd 7 (.lit (.int .i64 b.2)))) (fun b => Mem.nil) k (x17, 1) H6 rfl rfl ?_
       rintro n ⟨x21, x22⟩ H
       obtain _ | n := n
       · exact nf rfl H
       rw [g_r6_first_l1.eq_2] at H
       show WP _ _ _ _ ((((Env.none.upd 0 (.lit (.string x1))).upd 5 (.lit (.int .i64 x7))).upd 6 (.lit (.int .i64 x21))).upd 7 (.lit (.int .i64 x22))) Mem.nil _
       refine WP.seq ?_
       iterate 5 refine sp ?_
       refine cd H (fun hb6 H => ?_) fun hb6 H => ?_
       · iterate 3 refine sp ?_
         refine WP.seq ?_
         iterate 6 refine sp ?_
         obtain ⟨x23, h9, H⟩ := bnd H
         iterate 2 refine sp ?_
         obtain ⟨x24, h10, H⟩ := bnd H
         refine sn (nm_int h10) ?_
         iterate 2 refine sp ?_
         refine WPL.nilW ?_
         refine sp ?_
         refine InBlock.n ?_
         iterate 5 refine sp ?_
         refine WPL.nilW ?_
         exact wq [] (Then.n ⟨n, ((IntKind.wrap .i64 (x24 - 128)), (IntKind.wrap .i64 (x22 + 1))), Nat.lt_succ_self n, H, rfl, rfl⟩)
       refine sp ?_
       have q0 := j1 H
       subst q0
       exact wq [] (Then.x (Then.x r3))
     iterate 3 refine sp ?_
     refine WP.seq ?_
     obtain ⟨x25, H7, H⟩ := bnd H
     refine mo .normal ((((Env.none.upd 0 (.lit (.string x1))).upd 5 (.lit (.int .i64 x7))).upd 6 (.lit (.int .i64 x20))).upd 66 (.lit (.bool x25))) Mem.nil ?_ ?_
     · clear H
       have H := H7
       clear H7
       refine WP.regionD' 15 [] [] mixed rfl ?_
       refine dT 0 ?_
       refine dT 1 ?_
       refine dT 2 ?_
       refine ds 54 H (fun hb7 H => ?_) fun hb7 H => ?_
       · refine dG 3 ?_
         obtain ⟨x26, h11, H⟩ := bnd H
         refine dF 4 [] [] rfl (rc [] [] 0 [] (s_r6_char k x20 x26 h11)) ?_
         refine dT 5 ?_
         refine dT 6 ?_
         refine ds 58 H (fun hb8 H => ?_) fun hb8 H => ?_
         · refine dG 7 ?_
           refine dG 10 ?_
           refine dG 11 ?_
           obtain ⟨h12, H⟩ := grd H
           refine WPD.takegT 12 rfl (by kernel_rfl) rfl rfl (lb hb8) (q_slice_str (i := 0) (j := x7) Tryz.underlying9 rfl rfl ⟨_, rfl⟩ h12) rfl ?_
           obtain ⟨x27, h13, H⟩ := bnd H
           refine dF 8 [] [] rfl (rc [] [] 0 [] (s_r6_Write k x20 x27 h13)) ?_
           refine WPD.takegT 9 rfl (by kernel_rfl) rfl rfl (lb hb8) (q_bytes_str Tryz.underlying104 Tryz.underlying5 Tryz.underlying9 rfl) rfl ?_
           obtain ⟨x28, h14, H⟩ := bnd H
           refine dG 13 ?_ rfl rfl gv (q_nm aq (nm_bool h14))
           refine dT 14 ?_
           refine WPD.doneW (by kernel_rfl) ?_
           have q0 := j1 H
           subst q0
           exact wq []
         refine dP false 7 ?_
         refine dP false 8 ?_
         refine dP false 9 ?_
         refine dP false 10 ?_
         refine dP false 11 ?_
         refine dP false 12 ?_
         refine dP false 13 ?_
         refine dT 14 ?_
         refine WPD.doneW (by kernel_rfl) ?_
         have q0 := j1 H
         subst q0
         exact wq []
       refine dP false 3 ?_
       refine dP false 4 ?_
       refine dT 5 ?_
       refine dT 6 ?_
       refine dP false 7 ?_
       refine dP false 8 ?_
       refine dP false 9 ?_
       refine dP false 10 ?_
       refine dP false 11 ?_
       refine dP false 12 ?_
       refine dP false 13 ?_
       refine dT 14 ?_
       refine WPD.doneW (by kernel_rfl) ?_
       have q0 := j1 H
       subst q0
       exact wq []
     iterate 2 refine sp ?_
     refine cd H (fun hb9 H => ?_) fun hb9 H => ?_
     · iterate 8 refine sp ?_
       have q0 := j1 H
       subst q0
       exact wq [] (InBlock.r (Then.r (Then.r r3)))
     iterate 2 refine sp ?_
     refine InBlock.n ?_
     iterate 5 refine sp ?_
     refine WPL.nilW ?_
     exact wq [] (Then.n ⟨n, (IntKind.wrap .i64 (x7 + 1)), Nat.lt_succ_self n, H, rfl, rfl⟩)
   refine sp ?_
   have q0 := j1 H
   subst q0
   exact wq [] (Then.x (Then.x r3))
 rcases y1 with ⟨x5, x6⟩ | _
 · rintro _ _ _ ⟨rfl, rfl, rfl⟩
   obtain ⟨rfl, rfl, rfl⟩ := j3 H
   exact W.now (InBlock.r (Then.r (mb [])))
 rintro _ _ _ ⟨rfl, rfl, rfl⟩
 iterate 9 refine sp ?_
 obtain ⟨rfl, rfl, rfl⟩ := j3 H
 exact W.now (mb [])
theorem s_r6_Xml (k : Nat) (x1 : ByteArray) (x2 : Int) (H : g_r6_Xml k x1 = some x2) : Go.Q.Spec Tryz.prog 87 0 [.lit (.string x1)] Mem.nil (fun o M => o = .ret (.lit (.int .i64 x2)) ∧ M = Mem.nil) := by
 unfold g_r6_Xml at H
 refine bo Tryz.func87 [] [.tmp 2] 44 fun cx hnp => ?_
 iterate 3 refine sp ?_
 refine WP.seq ?_
 refine sp ?_
 refine WP.cv (Cv.weak (E' := (Env.none.upd 0 (.lit (.string x1)))) (M' := Mem.nil) [] hnp ⟨rfl, trivial, by decide, rfl, trivial⟩ (LeE.u (LeE.none rfl rfl))) ?_
 obtain ⟨y1, H1, H⟩ := bnd H
 refine WP.monoW (Q := fun x E M => match (generalizing := false) y1 with | (Sum.inl _) => x = .ret ∧ E = (Env.none.upd 2 (.lit (.int .i64 20))) ∧ M = Mem.nil | (Sum.inr _) => x = .exit 0 ∧ E = Env.none ∧ M = Mem.nil) ?_ ?_
 · refine WP.loop (β := ByteArray) (fun n b => g_r6_Xml_l0 k n b = some y1) (fun b => (Env.none.upd 0 (.lit (.string b)))) (fun b => Mem.nil) k x1 H1 rfl rfl ?_
   rintro n x3 H
   obtain _ | n := n
   · exact nf rfl H
   rw [g_r6_Xml_l0.eq_2] at H
   show WP _ _ _ _ (Env.none.upd 0 (.lit (.string x3))) Mem.nil _
   refine WP.seq ?_
   iterate 3 refine sp ?_
   obtain ⟨x4, h1, H⟩ := bnd H
   refine sn (nm_bool h1) ?_
   refine sp ?_
   refine cd H (fun hb1 H => ?_) fun hb1 H => ?_
   · iterate 6 refine sp ?_
     obtain ⟨⟨x5, x6, x7⟩, h2, H⟩ := bnd H
     refine WPL.c (rc [] [] 0 [] (s_r6_first k x3 x5 x6 x7 h2)) rfl ?_
     iterate 8 refine sp ?_
     refine WP.seq ?_
     refine WP.seq ?_
     obtain ⟨x8, H2, H⟩ := bnd H
     refine mo .normal (((Env.none.upd 0 (.lit (.string x3))).upd 4 (.lit (.int .i64 x6))).upd 40 (.lit (.bool x8))) Mem.nil ?_ ?_
     · clear H
       have H := H2
       clear H2
       iterate 4 refine sp ?_
       refine ws 17 H (fun hb2 H => ?_) fun hb2 H => ?_
       · iterate 23 refine sp ?_
         refine WPL.nilW ?_
         have q0 := j1 H
         subst q0
         exact wq []
       iterate 3 refine sp ?_
       refine ws 20 H (fun hb3 H => ?_) fun hb3 H => ?_
       · iterate 4 refine sp ?_
         refine ws 24 H (fun hb4 H => ?_) fun hb4 H => ?_
         · iterate 4 refine sp ?_
           refine ws 28 H (fun hb5 H => ?_) fun hb5 H => ?_
           · iterate 5 refine sp ?_
             refine ws 33 H (fun hb6 H => ?_) fun hb6 H => ?_
             · iterate 7 refine sp ?_
               refine WPL.nilW ?_
               have q0 := j1 H
               subst q0
               exact wq []
             iterate 4 refine sp ?_
             refine ws 37 H (fun hb7 H => ?_) fun hb7 H => ?_
             · iterate 3 refine sp ?_
               refine WPL.nilW ?_
               have q0 := j1 H
               subst q0
               exact wq []
             iterate 3 refine sp ?_
             refine WPL.nilW ?_
             have q0 := j1 H
             subst q0
             exact wq []
           iterate 5 refine sp ?_
           refine WPL.qg rfl rfl rfl aq rfl ?_
           refine WPL.qg rfl rfl rfl aq rfl ?_
           iterate 2 refine sp ?_
           refine ws 37 H (fun hb8 H => ?_) fun hb8 H => ?_
           · iterate 3 refine sp ?_
             refine WPL.nilW ?_
             have q0 := j1 H
             subst q0
             exact wq []
           iterate 3 refine sp ?_
           refine WPL.nilW ?_
           have q0 := j1 H
           subst q0
           exact wq []
         iterate 9 refine sp ?_
         refine WPL.qg rfl rfl rfl aq rfl ?_
         refine WPL.qg rfl rfl rfl aq rfl ?_
         iterate 2 refine sp ?_
         refine ws 37 H (fun hb9 H => ?_) fun hb9 H => ?_
         · iterate 3 refine sp ?_
           refine WPL.nilW ?_
           have q0 := j1 H
           subst q0
           exact wq []
         iterate 3 refine sp ?_
         refine WPL.nilW ?_
         have q0 := j1 H
         subst q0
         exact wq []
       iterate 13 refine sp ?_
       refine WPL.qg rfl rfl rfl aq rfl ?_
       refine WPL.qg rfl rfl rfl aq rfl ?_
       iterate 2 refine sp ?_
       refine ws 37 H (fun hb10 H => ?_) fun hb10 H => ?_
       · iterate 3 refine sp ?_
         refine WPL.nilW ?_
         have q0 := j1 H
         subst q0
         exact wq []
       iterate 3 refine sp ?_
       refine WPL.nilW ?_
       have q0 := j1 H
       subst q0
       exact wq []
     iterate 2 refine sp ?_
     refine cd H (fun hb11 H => ?_) fun hb11 H => ?_
     · iterate 4 refine sp ?_
       have q0 := j1 H
       subst q0
       exact wq [] (Then.r (InBlock.r (Then.r r3)))
     iterate 6 refine sp ?_
     obtain ⟨h3, H⟩ := grd H
     obtain ⟨x9, h4, H⟩ := bnd H
     refine WPL.qq (q_nm (q_slice_str (i := x6) (j := ((ByteArray.size x3 : Nat) : Int)) Tryz.underlying9 rfl ⟨_, rfl⟩ rfl h3) (nm_str h4)) ?_
     refine sp ?_
     refine WPL.nilW ?_
     exact wq [] (InBlock.n (Then.n ⟨n, x9, Nat.lt_succ_self n, H, rfl, rfl⟩))
   refine sp ?_
   have q0 := j1 H
   subst q0
   exact wq [] (Then.x (Then.x r3))
 rcases y1 with _ | _
 · rintro _ _ _ ⟨rfl, rfl, rfl⟩
   have q0 := j1 H
   subst q0
   exact W.now (InBlock.r (Then.r (mb [])))
 rintro _ _ _ ⟨rfl, rfl, rfl⟩
 iterate 7 refine sp ?_
 have q0 := j1 H
 subst q0
 exact W.now (mb [])
end Go.Proofs.YthpcgknknpjpdaaGreatDoor.W
namespace Go.Proofs.YthpcgknknpjpdaaGreatDoor.W
open Go Go.Q Go.Proofs
set_option linter.unusedVariables false
set_option linter.unusedSimpArgs false
set_option maxRecDepth 100000
set_option maxHeartbeats 4000000
theorem s_rv_text (k : Nat) (x1 : ByteArray) (x2 : Bool) (H : g_rv_text k x1 = some x2) : Go.Q.Spec Tryz.prog 48 0 [.lit (.string x1)] Mem.nil (fun o M => o = .ret (.lit (.bool x2)) ∧ M = Mem.nil) := by
 unfold g_rv_text at H
 refine bo Tryz.func48 [] [.tmp 2] 11 fun cx hnp => ?_
 iterate 3 refine sp ?_
 refine WP.seq ?_
 obtain ⟨x3, H1, H⟩ := bnd H
 refine mo .normal (Env.none.upd 2 (.lit (.bool x3))) Mem.nil ?_ ?_
 · clear H
   have H := H1
   clear H1
   iterate 3 refine sp ?_
   obtain ⟨x4, h1, H⟩ := bnd H
   refine sn (nm_bool h1) ?_
   refine sp ?_
   refine ws 6 H (fun hb1 H => ?_) fun hb1 H => ?_
   · refine sp ?_
     obtain ⟨x5, h2, H⟩ := bnd H
     refine WPL.cg rfl rfl (lb hb1) (rc [] [] 0 [] (s_r6_Xml k x1 x5 h2)) rfl ?_
     iterate 3 refine sp ?_
     refine WPL.nilW ?_
     have q0 := j1 H
     subst q0
     exact wq []
   iterate 5 refine sp ?_
   refine WPL.nilW ?_
   have q0 := j1 H
   subst q0
   exact wq []
 iterate 3 refine sp ?_
 have q0 := j1 H
 subst q0
 exact W.now (mb [])
theorem s_rv_Str (k : Nat) (x1 : ByteArray) (x2 : Int) (x3 : ByteArray) (x4 : Int) (H : g_rv_Str k x1 = some (x2, x3, x4)) : Go.Q.Spec Tryz.prog 15 0 [.lit (.string x1)] Mem.nil (fun o M => o = .ret (.agg [.lit (.int .i64 x2), .lit (.int .i64 0), .lit (.int .i64 0), .lit (.string x3), .lit (.bool false), .lit (.int .i64 x4)]) ∧ M = (Mem.nil.push (.cells 29 [.lit (.int .i64 x2), .lit (.int .i64 0), .lit (.int .i64 0), .lit (.string x3), .lit (.bool false), .lit (.int .i64 x4)]))) := by
 unfold g_rv_Str at H
 refine bo Tryz.func15 [(29, 6)] [.cell 2 29] 9 fun cx hnp => ?_
 iterate 3 refine sp ?_
 refine WP.seq ?_
 iterate 2 refine sp ?_
 obtain ⟨x5, h1, H⟩ := bnd H
 refine WPL.c (rc [] [] 1 [] (s_rv_text k x1 x5 h1)) rfl ?_
 iterate 2 refine sp ?_
 refine cd H (fun hb1 H => ?_) fun hb1 H => ?_
 · refine sp ?_
   obtain ⟨x6, h2, H⟩ := bnd H
   refine WPL.c (rc [] [1] 2 [] (s_rv_Err k 2 x6 h2)) rfl ?_
   iterate 3 refine sp ?_
   obtain ⟨rfl, rfl, rfl⟩ := j3 H
   exact W.now (Then.r (mb [0]))
 iterate 9 refine sp ?_
 obtain ⟨rfl, rfl, rfl⟩ := j3 H
 exact W.now (mb [0])
theorem s_sl_HasPrefix (k : Nat) (x1 : ByteArray) (x2 : ByteArray) (x3 : Bool) (H : g_sl_HasPrefix k x1 x2 = some x3) : Go.Q.Spec Tryz.prog 140 0 [.lit (.string x1), .lit (.string x2)] Mem.nil (fun o M => o = .ret (.lit (.bool x3)) ∧ M = Mem.nil) := by
 unfold g_sl_HasPrefix at H
 refine bo Tryz.func140 [] [.tmp 4] 18 fun cx hnp => ?_
 iterate 3 refine sp ?_
 refine WP.seq ?_
 obtain ⟨x4, H1, H⟩ := bnd H
 refine mo .normal (Env.none.upd 4 (.lit (.bool x4))) Mem.nil ?_ ?_
 · clear H
   have H := H1
   clear H1
   iterate 5 refine sp ?_
   obtain ⟨x5, h1, H⟩ := bnd H
   refine sn (nm_bool h1) ?_
   refine sp ?_
   refine ws 10 H (fun hb1 H => ?_) fun hb1 H => ?_
   · iterate 3 refine sp ?_
     obtain ⟨h2, H⟩ := grd H
     obtain ⟨x6, h3, H⟩ := bnd H
     refine WPL.gq rfl (lb hb1) (q_nm (q_slice_str (i := 0) (j := ((ByteArray.size x2 : Nat) : Int)) Tryz.underlying9 rfl rfl ⟨_, rfl⟩ h2) (nm_str h3)) ?_
     iterate 4 refine sp ?_
     refine WPL.nilW ?_
     have q0 := j1 H
     subst q0
     exact wq []
   iterate 8 refine sp ?_
   refine WPL.nilW ?_
   have q0 := j1 H
   subst q0
   exact wq []
 iterate 3 refine sp ?_
 have q0 := j1 H
 subst q0
 exact W.now (mb [])
theorem s_sl_CutPrefix (k : Nat) (x1 : ByteArray) (x2 : ByteArray) (x3 : ByteArray) (x4 : Bool) (H : g_sl_CutPrefix k x1 x2 = some (x3, x4)) : Go.Q.Spec Tryz.prog 161 0 [.lit (.string x1), .lit (.string x2)] Mem.nil (fun o M => o = .ret (.tup [.lit (.string x3), .lit (.bool x4)]) ∧ M = Mem.nil) := by
 unfold g_sl_CutPrefix at H
 refine bo Tryz.func161 [] [.tmp 4, .tmp 5] 15 fun cx hnp => ?_
 iterate 4 refine sp ?_
 refine WP.seq ?_
 iterate 3 refine sp ?_
 obtain ⟨x5, h1, H⟩ := bnd H
 refine WPL.c (rc [] [] 0 [] (s_sl_HasPrefix k x1 x2 x5 h1)) rfl ?_
 iterate 2 refine sp ?_
 refine cd H (fun hb1 H => ?_) fun hb1 H => ?_
 · iterate 6 refine sp ?_
   obtain ⟨rfl, rfl⟩ := j2 H
   exact W.now (Then.r (mb []))
 iterate 7 refine sp ?_
 obtain ⟨h2, H⟩ := grd H
 obtain ⟨x6, h3, H⟩ := bnd H
 refine WPL.qq (q_nm (q_slice_str (i := ((ByteArray.size x2 : Nat) : Int)) (j := ((ByteArray.size x1 : Nat) : Int)) Tryz.underlying9 rfl ⟨_, rfl⟩ rfl h2) (nm_str h3)) ?_
 iterate 4 refine sp ?_
 obtain ⟨rfl, rfl⟩ := j2 H
 exact W.now (mb [])
theorem s_st_CutPrefix (k : Nat) (x1 : ByteArray) (x2 : ByteArray) (x3 : ByteArray) (x4 : Bool) (H : g_st_CutPrefix k x1 x2 = some (x3, x4)) : Go.Q.Spec Tryz.prog 137 0 [.lit (.string x1), .lit (.string x2)] Mem.nil (fun o M => o = .ret (.tup [.lit (.string x3), .lit (.bool x4)]) ∧ M = Mem.nil) := by
 unfold g_st_CutPrefix at H
 refine bo Tryz.func137 [] [.tmp 4, .tmp 5] 11 fun cx hnp => ?_
 iterate 7 refine sp ?_
 obtain ⟨⟨x5, x6⟩, h1, H⟩ := bnd H
 refine WPL.c (rc [] [] 0 [] (s_sl_CutPrefix k x1 x2 x5 x6 h1)) rfl ?_
 iterate 6 refine sp ?_
 obtain ⟨rfl, rfl⟩ := j2 H
 exact W.now (mb [])
theorem s_dec_parser_take (k : Nat) (x1 : ByteArray) (x2 : ByteArray) (x3 : Bool) (x4 : ByteArray) (H : g_dec_parser_take k x1 x2 = some (x3, x4)) : Go.Q.Spec Tryz.prog 88 1 [.ptr 0 0, .lit (.string x1)] (Mem.nil.push (.cells 84 [.lit (.string x2)])) (fun o M => o = .ret (.lit (.bool x3)) ∧ M = (Mem.nil.push (.cells 84 [.lit (.string x4)]))) := by
 unfold g_dec_parser_take at H
 refine bo Tryz.func88 [] [.tmp 4] 21 fun cx hnp => ?_
 iterate 9 refine sp ?_
 obtain ⟨⟨x5, x6⟩, h1, H⟩ := bnd H
 refine WPL.c (rc [] [] 1 [] (s_st_CutPrefix k x2 x1 x5 x6 h1)) rfl ?_
 iterate 18 refine sp ?_
 obtain ⟨rfl, rfl⟩ := j2 H
 exact W.now (mb [0])
theorem s_dec_parser_some (k : Nat) (x1 : ByteArray) (x2 : ByteArray) (x3 : ByteArray) (H : g_dec_parser_some k x1 = some (x2, x3)) : Go.Q.Spec Tryz.prog 89 1 [.ptr 0 0] (Mem.nil.push (.cells 84 [.lit (.string x1)])) (fun o M => o = .ret (.lit (.string x2)) ∧ M = (Mem.nil.push (.cells 84 [.lit (.string x3)]))) := by
 unfold g_dec_parser_some at H
 refine bo Tryz.func89 [] [.tmp 2] 48 fun cx hnp => ?_
 iterate 6 refine sp ?_
 refine WP.seq ?_
 refine sp ?_
 refine WP.cv (Cv.weak (E' := ((Env.none.upd 0 (.ptr 0 0)).upd 3 (.lit (.int .i64 0)))) (M' := (Mem.nil.push (.cells 84 [.lit (.string x1)]))) [0] hnp ⟨rfl, AA1, by decide, rfl, BB1⟩ (LeE.u (LeE.u (LeE.none rfl rfl)))) ?_
 obtain ⟨x4, H1, H⟩ := bnd H
 refine mo (.exit 0) ((Env.none.upd 0 (.ptr 0 0)).upd 3 (.lit (.int .i64 x4))) (Mem.nil.push (.cells 84 [.lit (.string x1)])) ?_ ?_
 · refine WP.loop (β := Int) (fun n b => g_dec_parser_some_l0 k x1 n b = some x4) (fun b => ((Env.none.upd 0 (.ptr 0 0)).upd 3 (.lit (.int .i64 b)))) (fun b => (Mem.nil.push (.cells 84 [.lit (.string x1)]))) k 0 H1 rfl rfl ?_
   rintro n x5 H
   obtain _ | n := n
   · exact nf rfl H
   rw [g_dec_parser_some_l0.eq_2] at H
   show WP _ _ _ _ ((Env.none.upd 0 (.ptr 0 0)).upd 3 (.lit (.int .i64 x5))) (Mem.nil.push (.cells 84 [.lit (.string x1)])) _
   refine WP.seq ?_
   refine WP.seq ?_
   obtain ⟨x6, H2, H⟩ := bnd H
   refine mo .normal (((Env.none.upd 0 (.ptr 0 0)).upd 3 (.lit (.int .i64 x5))).upd 29 (.lit (.bool x6))) (Mem.nil.push (.cells 84 [.lit (.string x1)])) ?_ ?_
   · clear H
     have H := H2
     clear H2
     iterate 7 refine sp ?_
     obtain ⟨x7, h1, H⟩ := bnd H
     refine sn (nm_bool h1) ?_
     refine sp ?_
     refine ws 12 H (fun hb1 H => ?_) fun hb1 H => ?_
     · iterate 5 refine sp ?_
       obtain ⟨x8, h2, H⟩ := bnd H
       iterate 4 refine sp ?_
       refine ws 21 H (fun hb2 H => ?_) fun hb2 H => ?_
       · iterate 5 refine sp ?_
         obtain ⟨x9, h3, H⟩ := bnd H
         iterate 3 refine sp ?_
         refine WPL.nilW ?_
         have q0 := j1 H
         subst q0
         exact wq [0]
       iterate 8 refine sp ?_
       refine WPL.nilW ?_
       have q0 := j1 H
       subst q0
       exact wq [0]
     iterate 17 refine sp ?_
     refine WPL.nilW ?_
     have q0 := j1 H
     subst q0
     exact wq [0]
   iterate 2 refine sp ?_
   refine cd H (fun hb3 H => ?_) fun hb3 H => ?_
   · iterate 8 refine sp ?_
     refine WPL.nilW ?_
     exact wq [0] (InBlock.n (Then.n ⟨n, (IntKind.wrap .i64 (x5 + 1)), Nat.lt_succ_self n, H, rfl, rfl⟩))
   refine sp ?_
   have q0 := j1 H
   subst q0
   exact wq [0] (Then.x (Then.x r3))
 iterate 9 refine sp ?_
 obtain ⟨h4, H⟩ := grd H
 refine WPL.qq (q_slice_str (i := 0) (j := x4) Tryz.underlying9 rfl rfl ⟨_, rfl⟩ h4) ?_
 iterate 9 refine sp ?_
 obtain ⟨h5, H⟩ := grd H
 obtain ⟨x10, h6, H⟩ := bnd H
 refine WPL.qq (q_nm (q_slice_str (i := x4) (j := ((ByteArray.size x1 : Nat) : Int)) Tryz.underlying9 rfl ⟨_, rfl⟩ rfl h5) (nm_str h6)) ?_
 iterate 9 refine sp ?_
 obtain ⟨rfl, rfl⟩ := j2 H
 exact W.now (mb [0])
theorem s_dec_values (k : Nat) (x1 : ByteArray) (H : g_dec_values k x1 = some ()) : Go.Q.Spec Tryz.prog 90 0 [.lit (.string x1)] Mem.nil (fun o M => o = .ret (.fn 138 [.ptr 0 0]) ∧ M = (Mem.nil.push (.cells 9 [.lit (.string x1)]))) := by
 unfold g_dec_values at H
 refine bo Tryz.func90 [] [.tmp 2] 4 fun cx hnp => ?_
 iterate 5 refine sp ?_
 refine WPL.qq (q_makeFunc) ?_
 iterate 3 refine sp ?_
 exact W.now (mb [0])
theorem s_st_trimLeftByte (k : Nat) (x1 : ByteArray) (x2 : Int) (x3 : ByteArray) (H : g_st_trimLeftByte k x1 x2 = some x3) : Go.Q.Spec Tryz.prog 122 0 [.lit (.string x1), .lit (.int .u8 x2)] Mem.nil (fun o M => o = .ret (.lit (.string x3)) ∧ M = Mem.nil) := by
 unfold g_st_trimLeftByte at H
 refine bo Tryz.func122 [] [.tmp 4] 17 fun cx hnp => ?_
 iterate 3 refine sp ?_
 refine WP.seq ?_
 refine sp ?_
 refine WP.cv (Cv.weak (E' := ((Env.none.upd 0 (.lit (.string x1))).upd 1 (.lit (.int .u8 x2)))) (M' := Mem.nil) [] hnp ⟨rfl, trivial, by decide, rfl, trivial⟩ (LeE.u (LeE.u (LeE.none rfl rfl)))) ?_
 obtain ⟨x4, H1, H⟩ := bnd H
 refine mo (.exit 0) (Env.none.upd 0 (.lit (.string x4))) Mem.nil ?_ ?_
 · refine WP.loop (β := ByteArray) (fun n b => g_st_trimLeftByte_l0 k x2 n b = some x4) (fun b => ((Env.none.upd 0 (.lit (.string b))).upd 1 (.lit (.int .u8 x2)))) (fun b => Mem.nil) k x1 H1 rfl rfl ?_
   rintro n x5 H
   obtain _ | n := n
   · exact nf rfl H
   rw [g_st_trimLeftByte_l0.eq_2] at H
   show WP _ _ _ _ ((Env.none.upd 0 (.lit (.string x5))).upd 1 (.lit (.int .u8 x2))) Mem.nil _
   refine WP.seq ?_
   refine WP.seq ?_
   obtain ⟨x6, H2, H⟩ := bnd H
   refine mo .normal (((Env.none.upd 0 (.lit (.string x5))).upd 1 (.lit (.int .u8 x2))).upd 13 (.lit (.bool x6))) Mem.nil ?_ ?_
   · clear H
     have H := H2
     clear H2
     iterate 3 refine sp ?_
     obtain ⟨x7, h1, H⟩ := bnd H
     refine sn (nm_bool h1) ?_
     refine sp ?_
     refine ws 8 H (fun hb1 H => ?_) fun hb1 H => ?_
     · refine sp ?_
       obtain ⟨x8, h2, H⟩ := bnd H
       iterate 4 refine sp ?_
       refine WPL.nilW ?_
       have q0 := j1 H
       subst q0
       exact wq []
     iterate 5 refine sp ?_
     refine WPL.nilW ?_
     have q0 := j1 H
     subst q0
     exact wq []
   iterate 2 refine sp ?_
   refine cd H (fun hb2 H => ?_) fun hb2 H => ?_
   · iterate 6 refine sp ?_
     obtain ⟨h3, H⟩ := grd H
     obtain ⟨x9, h4, H⟩ := bnd H
     refine WPL.qq (q_nm (q_slice_str (i := 1) (j := ((ByteArray.size x5 : Nat) : Int)) Tryz.underlying9 rfl ⟨_, rfl⟩ rfl h3) (nm_str h4)) ?_
     refine sp ?_
     refine WPL.nilW ?_
     exact wq [] (InBlock.n (Then.n ⟨n, x9, Nat.lt_succ_self n, H, rfl, rfl⟩))
   refine sp ?_
   have q0 := j1 H
   subst q0
   exact wq [] (Then.x (Then.x r3))
 iterate 8 refine sp ?_
 have q0 := j1 H
 subst q0
 exact W.now (mb [])
theorem s_st_TrimLeft (k : Nat) (x1 : ByteArray) (x2 : ByteArray) (x3 : ByteArray) (H : g_st_TrimLeft k x1 x2 = some x3) : Go.Q.Spec Tryz.prog 91 0 [.lit (.string x1), .lit (.string x2)] Mem.nil (fun o M => o = .ret (.lit (.string x3)) ∧ M = Mem.nil) := by
 unfold g_st_TrimLeft at H
 refine bo Tryz.func91 [] [.tmp 4] 37 fun cx hnp => ?_
 iterate 3 refine sp ?_
 refine WP.seq ?_
 refine WP.seq ?_
 obtain ⟨x4, H1, H⟩ := bnd H
 refine mo .normal (((Env.none.upd 0 (.lit (.string x1))).upd 1 (.lit (.string x2))).upd 12 (.lit (.bool x4))) Mem.nil ?_ ?_
 · clear H
   have H := H1
   clear H1
   iterate 2 refine sp ?_
   obtain ⟨x5, h1, H⟩ := bnd H
   refine sn (nm_bool h1) ?_
   refine sp ?_
   refine ws 9 H (fun hb1 H => ?_) fun hb1 H => ?_
   · iterate 3 refine sp ?_
     refine WPL.nilW ?_
     have q0 := j1 H
     subst q0
     exact wq []
   refine sp ?_
   obtain ⟨x6, h2, H⟩ := bnd H
   refine sn (nm_bool h2) ?_
   refine sp ?_
   refine WPL.nilW ?_
   have q0 := j1 H
   subst q0
   exact wq []
 iterate 2 refine sp ?_
 refine cd H (fun hb2 H => ?_) fun hb2 H => ?_
 · iterate 5 refine sp ?_
   have q0 := j1 H
   subst q0
   exact W.now (Then.r (mb []))
 iterate 3 refine sp ?_
 refine WP.seq ?_
 refine WP.seq ?_
 obtain ⟨x7, H2, H⟩ := bnd H
 refine mo .normal (((Env.none.upd 0 (.lit (.string x1))).upd 1 (.lit (.string x2))).upd 21 (.lit (.bool x7))) Mem.nil ?_ ?_
 · clear H
   have H := H2
   clear H2
   iterate 3 refine sp ?_
   obtain ⟨x8, h3, H⟩ := bnd H
   refine sn (nm_bool h3) ?_
   refine sp ?_
   refine ws 17 H (fun hb3 H => ?_) fun hb3 H => ?_
   · refine sp ?_
     obtain ⟨x9, h4, H⟩ := bnd H
     iterate 3 refine sp ?_
     refine WPL.nilW ?_
     have q0 := j1 H
     subst q0
     exact wq []
   iterate 4 refine sp ?_
   refine WPL.nilW ?_
   have q0 := j1 H
   subst q0
   exact wq []
 iterate 2 refine sp ?_
 refine cd H (fun hb4 H => ?_) fun hb4 H => ?_
 · iterate 3 refine sp ?_
   obtain ⟨x10, h5, H⟩ := bnd H
   refine sp ?_
   obtain ⟨x11, h5, H⟩ := bnd H
   refine WPL.c (rc [] [] 0 [] (s_st_trimLeftByte k x1 x10 x11 h5)) rfl ?_
   iterate 3 refine sp ?_
   have q0 := j1 H
   subst q0
   exact W.now (Then.r (mb []))
 iterate 3 refine sp ?_
 refine WP.seq ?_
 iterate 2 refine sp ?_
 exact nf rfl H
theorem s_st_trimRightByte (k : Nat) (x1 : ByteArray) (x2 : Int) (x3 : ByteArray) (H : g_st_trimRightByte k x1 x2 = some x3) : Go.Q.Spec Tryz.prog 123 0 [.lit (.string x1), .lit (.int .u8 x2)] Mem.nil (fun o M => o = .ret (.lit (.string x3)) ∧ M = Mem.nil) := by
 unfold g_st_trimRightByte at H
 refine bo Tryz.func123 [] [.tmp 4] 23 fun cx hnp => ?_
 iterate 3 refine sp ?_
 refine WP.seq ?_
 refine sp ?_
 refine WP.cv (Cv.weak (E' := ((Env.none.upd 0 (.lit (.string x1))).upd 1 (.lit (.int .u8 x2)))) (M' := Mem.nil) [] hnp ⟨rfl, trivial, by decide, rfl, trivial⟩ (LeE.u (LeE.u (LeE.none rfl rfl)))) ?_
 obtain ⟨x4, H1, H⟩ := bnd H
 refine mo (.exit 0) (Env.none.upd 0 (.lit (.string x4))) Mem.nil ?_ ?_
 · refine WP.loop (β := ByteArray) (fun n b => g_st_trimRightByte_l0 k x2 n b = some x4) (fun b => ((Env.none.upd 0 (.lit (.string b))).upd 1 (.lit (.int .u8 x2)))) (fun b => Mem.nil) k x1 H1 rfl rfl ?_
   rintro n x5 H
   obtain _ | n := n
   · exact nf rfl H
   rw [g_st_trimRightByte_l0.eq_2] at H
   show WP _ _ _ _ ((Env.none.upd 0 (.lit (.string x5))).upd 1 (.lit (.int .u8 x2))) Mem.nil _
   refine WP.seq ?_
   refine WP.seq ?_
   obtain ⟨x6, H2, H⟩ := bnd H
   refine mo .normal (((Env.none.upd 0 (.lit (.string x5))).upd 1 (.lit (.int .u8 x2))).upd 16 (.lit (.bool x6))) Mem.nil ?_ ?_
   · clear H
     have H := H2
     clear H2
     iterate 3 refine sp ?_
     obtain ⟨x7, h1, H⟩ := bnd H
     refine sn (nm_bool h1) ?_
     refine sp ?_
     refine ws 8 H (fun hb1 H => ?_) fun hb1 H => ?_
     · iterate 3 refine sp ?_
       obtain ⟨x8, h2, H⟩ := bnd H
       refine sn (nm_int h2) ?_
       obtain ⟨x9, h3, H⟩ := bnd H
       iterate 4 refine sp ?_
       refine WPL.nilW ?_
       have q0 := j1 H
       subst q0
       exact wq []
     iterate 8 refine sp ?_
     refine WPL.nilW ?_
     have q0 := j1 H
     subst q0
     exact wq []
   iterate 2 refine sp ?_
   refine cd H (fun hb2 H => ?_) fun hb2 H => ?_
   · iterate 8 refine sp ?_
     obtain ⟨x10, h4, H⟩ := bnd H
     refine sn (nm_int h4) ?_
     obtain ⟨h4, H⟩ := grd H
     refine WPL.qq (q_slice_str (i := 0) (j := x10) Tryz.underlying9 rfl rfl ⟨_, rfl⟩ h4) ?_
     refine sp ?_
     refine WPL.nilW ?_
     exact wq [] (InBlock.n (Then.n ⟨n, (ByteArray.extract x5 (Int.toNat 0) (Int.toNat x10)), Nat.lt_succ_self n, H, rfl, rfl⟩))
   refine sp ?_
   have q0 := j1 H
   subst q0
   exact wq [] (Then.x (Then.x r3))
 iterate 8 refine sp ?_
 have q0 := j1 H
 subst q0
 exact W.now (mb [])
theorem s_st_TrimRight (k : Nat) (x1 : ByteArray) (x2 : ByteArray) (x3 : ByteArray) (H : g_st_TrimRight k x1 x2 = some x3) : Go.Q.Spec Tryz.prog 92 0 [.lit (.string x1), .lit (.string x2)] Mem.nil (fun o M => o = .ret (.lit (.string x3)) ∧ M = Mem.nil) := by
 unfold g_st_TrimRight at H
 refine bo Tryz.func92 [] [.tmp 4] 37 fun cx hnp => ?_
 iterate 3 refine sp ?_
 refine WP.seq ?_
 refine WP.seq ?_
 obtain ⟨x4, H1, H⟩ := bnd H
 refine mo .normal (((Env.none.upd 0 (.lit (.string x1))).upd 1 (.lit (.string x2))).upd 12 (.lit (.bool x4))) Mem.nil ?_ ?_
 · clear H
   have H := H1
   clear H1
   iterate 2 refine sp ?_
   obtain ⟨x5, h1, H⟩ := bnd H
   refine sn (nm_bool h1) ?_
   refine sp ?_
   refine ws 9 H (fun hb1 H => ?_) fun hb1 H => ?_
   · iterate 3 refine sp ?_
     refine WPL.nilW ?_
     have q0 := j1 H
     subst q0
     exact wq []
   refine sp ?_
   obtain ⟨x6, h2, H⟩ := bnd H
   refine sn (nm_bool h2) ?_
   refine sp ?_
   refine WPL.nilW ?_
   have q0 := j1 H
   subst q0
   exact wq []
 iterate 2 refine sp ?_
 refine cd H (fun hb2 H => ?_) fun hb2 H => ?_
 · iterate 5 refine sp ?_
   have q0 := j1 H
   subst q0
   exact W.now (Then.r (mb []))
 iterate 3 refine sp ?_
 refine WP.seq ?_
 refine WP.seq ?_
 obtain ⟨x7, H2, H⟩ := bnd H
 refine mo .normal (((Env.none.upd 0 (.lit (.string x1))).upd 1 (.lit (.string x2))).upd 21 (.lit (.bool x7))) Mem.nil ?_ ?_
 · clear H
   have H := H2
   clear H2
   iterate 3 refine sp ?_
   obtain ⟨x8, h3, H⟩ := bnd H
   refine sn (nm_bool h3) ?_
   refine sp ?_
   refine ws 17 H (fun hb3 H => ?_) fun hb3 H => ?_
   · refine sp ?_
     obtain ⟨x9, h4, H⟩ := bnd H
     iterate 3 refine sp ?_
     refine WPL.nilW ?_
     have q0 := j1 H
     subst q0
     exact wq []
   iterate 4 refine sp ?_
   refine WPL.nilW ?_
   have q0 := j1 H
   subst q0
   exact wq []
 iterate 2 refine sp ?_
 refine cd H (fun hb4 H => ?_) fun hb4 H => ?_
 · iterate 3 refine sp ?_
   obtain ⟨x10, h5, H⟩ := bnd H
   refine sp ?_
   obtain ⟨x11, h5, H⟩ := bnd H
   refine WPL.c (rc [] [] 0 [] (s_st_trimRightByte k x1 x10 x11 h5)) rfl ?_
   iterate 3 refine sp ?_
   have q0 := j1 H
   subst q0
   exact W.now (Then.r (mb []))
 iterate 3 refine sp ?_
 refine WP.seq ?_
 iterate 2 refine sp ?_
 exact nf rfl H
theorem s_dec_wide_plus (k : Nat) (x1 : Int) (x2 : Int) (x3 : Int) (x4 : Int) (x5 : Bool) (H : g_dec_wide_plus k x1 x2 x3 x4 = some x5) : Go.Q.Spec Tryz.prog 94 0 [.agg [.lit (.int .u64 x1), .lit (.int .u64 x2)], .agg [.lit (.int .u64 x3), .lit (.int .u64 x4)]] Mem.nil (fun o M => o = .ret (.tup [.agg [.lit (.int .u64 ((add64 x1 x3 ((add64 x2 x4 0).2)).1)), .lit (.int .u64 ((add64 x2 x4 0).1))], .lit (.bool x5)]) ∧ M = (Mem.nil.push (.cells 69 [.lit (.int .u64 ((add64 x1 x3 ((add64 x2 x4 0).2)).1)), .lit (.int .u64 ((add64 x2 x4 0).1))]))) := by
 unfold g_dec_wide_plus at H
 refine bo Tryz.func94 [(69, 2)] [.cell 4 69, .tmp 5] 31 fun cx hnp => ?_
 iterate 11 refine sp ?_
 refine WPL.qq (q_add64 ex139 rfl rfl rfl rfl rfl) ?_
 iterate 12 refine sp ?_
 obtain ⟨h1, H⟩ := grd H
 refine WPL.qq (q_add64 ex139 rfl rfl rfl rfl h1) ?_
 iterate 11 refine sp ?_
 obtain ⟨x6, h2, H⟩ := bnd H
 refine sn (nm_bool h2) ?_
 iterate 4 refine sp ?_
 have q0 := j1 H
 subst q0
 exact W.now (mb [2])
theorem s_dec_Parse (k : Nat) (x1 : ByteArray) (x2 : Int) (x3 : Int) (x4 : Int) (H : g_dec_Parse k x1 = some (x2, x3, x4)) : Go.Q.Spec Tryz.prog 49 0 [.lit (.string x1)] Mem.nil (fun o M => o = .ret (.tup [.agg [.lit (.int .i64 x3), .lit (.int .i64 x4)], .lit (.int .i64 x2)]) ∧ M = (Mem.nil.push (.cells 23 [.lit (.int .i64 x3), .lit (.int .i64 x4)]))) := by
 unfold g_dec_Parse at H
 refine bo Tryz.func49 [(23, 2)] [.cell 2 23, .tmp 3] 131 fun cx hnp => ?_
 iterate 12 refine sp ?_
 obtain ⟨⟨x5, x6⟩, h1, H⟩ := bnd H
 refine WPL.c (rc [1] [1] 2 [] (s_dec_parser_take k (ByteArray.mk #[45]) x1 x5 x6 h1)) rfl ?_
 iterate 4 refine sp ?_
 obtain ⟨⟨x7, x8⟩, h2, H⟩ := bnd H
 refine WPL.c (rc [1] [1] 2 [] (s_dec_parser_some k x6 x7 x8 h2)) rfl ?_
 iterate 3 refine sp ?_
 refine WP.seq ?_
 obtain ⟨x9, H1, H⟩ := bnd H
 refine mo .normal ((((((Env.none.upd 2 (.ptr 0 0)).upd 4 (.ptr 1 0)).upd 5 (.lit (.bool x5))).upd 6 (.lit (.string x7))).upd 7 (.lit (.string (ByteArray.mk #[])))).upd 8 (.lit (.bool x9))) ((Mem.nil.push (.cells 23 [.lit (.int .i64 0), .lit (.int .i64 0)])).push (.cells 84 [.lit (.string x8)])) ?_ ?_
 · clear H
   have H := H1
   clear H1
   iterate 3 refine sp ?_
   obtain ⟨x10, h3, H⟩ := bnd H
   refine sn (nm_bool h3) ?_
   refine sp ?_
   refine ws 27 H (fun hb1 H => ?_) fun hb1 H => ?_
   · refine sp ?_
     obtain ⟨x11, h4, H⟩ := bnd H
     refine sn (nm_bool h4) ?_
     iterate 2 refine sp ?_
     refine WPL.nilW ?_
     have q0 := j1 H
     subst q0
     exact wq [0, 1]
   iterate 4 refine sp ?_
   refine WPL.nilW ?_
   have q0 := j1 H
   subst q0
   exact wq [0, 1]
 iterate 2 refine sp ?_
 refine WP.seq ?_
 obtain ⟨⟨x12, x13, x14⟩, H2, H⟩ := bnd H
 refine mo .normal ((((((Env.none.upd 2 (.ptr 0 0)).upd 4 (.ptr 1 0)).upd 5 (.lit (.bool x5))).upd 6 (.lit (.string x7))).upd 7 (.lit (.string x12))).upd 8 (.lit (.bool x13))) ((Mem.nil.push (.cells 23 [.lit (.int .i64 0), .lit (.int .i64 0)])).push (.cells 84 [.lit (.string x14)])) ?_ ?_
 · clear H
   have H := H2
   clear H2
   iterate 2 refine sp ?_
   obtain ⟨⟨x15, x16⟩, h5, H⟩ := bnd H
   refine WPL.c (rc [1] [1] 2 [] (s_dec_parser_take k (ByteArray.mk #[46]) x8 x15 x16 h5)) rfl ?_
   refine sp ?_
   refine cd H (fun hb2 H => ?_) fun hb2 H => ?_
   · iterate 2 refine sp ?_
     obtain ⟨⟨x17, x18⟩, h6, H⟩ := bnd H
     refine WPL.c (rc [1] [1] 2 [] (s_dec_parser_some k x16 x17 x18 h6)) rfl ?_
     iterate 5 refine sp ?_
     refine ws 36 H (fun hb3 H => ?_) fun hb3 H => ?_
     · refine sp ?_
       obtain ⟨x19, h7, H⟩ := bnd H
       refine sn (nm_bool h7) ?_
       iterate 2 refine sp ?_
       refine WPL.nilW ?_
       obtain ⟨rfl, rfl, rfl⟩ := j3 H
       exact wq [0, 1]
     iterate 4 refine sp ?_
     refine WPL.nilW ?_
     obtain ⟨rfl, rfl, rfl⟩ := j3 H
     exact wq [0, 1]
   refine sp ?_
   obtain ⟨rfl, rfl, rfl⟩ := j3 H
   exact wq [0, 1]
 iterate 6 refine sp ?_
 refine WP.seq ?_
 obtain ⟨⟨x20, x21, x22⟩, H3, H⟩ := bnd H
 refine mo .normal ((((((((⟨fun _ => .any, [3], [], []⟩ : Env).upd 2 (.ptr 0 0)).upd 4 (.ptr 1 0)).upd 5 (.lit (.bool x5))).upd 6 (.lit (.string x7))).upd 7 (.lit (.string x12))).upd 8 (.lit (.bool x20))).upd 9 (.ptr 2 0)) ((((Mem.nil.push (.cells 23 [.lit (.int .i64 0), .lit (.int .i64 0)])).push (.cells 84 [.lit (.string x21)])).push (.cells 3 [.lit (.int .i64 x22)])).push (.bag)) ?_ ?_
 · clear H
   have H := H3
   clear H3
   refine WP.seq ?_
   obtain ⟨⟨x23, x24⟩, H4, H⟩ := bnd H
   refine mo .normal ((((((((Env.none.upd 2 (.ptr 0 0)).upd 4 (.ptr 1 0)).upd 5 (.lit (.bool x5))).upd 6 (.lit (.string x7))).upd 7 (.lit (.string x12))).upd 8 (.lit (.bool x13))).upd 9 (.ptr 2 0)).upd 45 (.lit (.bool x23))) (((Mem.nil.push (.cells 23 [.lit (.int .i64 0), .lit (.int .i64 0)])).push (.cells 84 [.lit (.string x24)])).push (.cells 3 [.lit (.int .i64 0)])) ?_ ?_
   · clear H
     have H := H4
     clear H4
     iterate 2 refine sp ?_
     obtain ⟨⟨x25, x26⟩, h8, H⟩ := bnd H
     refine WPL.c (rc [1] [1] 3 [] (s_dec_parser_take k (ByteArray.mk #[101]) x14 x25 x26 h8)) rfl ?_
     refine sp ?_
     refine ws 42 H (fun hb4 H => ?_) fun hb4 H => ?_
     · iterate 3 refine sp ?_
       refine WPL.nilW ?_
       obtain ⟨rfl, rfl⟩ := j2 H
       exact wq [0, 1, 2]
     refine sp ?_
     obtain ⟨⟨x27, x28⟩, h9, H⟩ := bnd H
     refine WPL.cg rfl rfl (lb hb4) (rc [1] [1] 3 [] (s_dec_parser_take k (ByteArray.mk #[69]) x26 x27 x28 h9)) rfl ?_
     refine sp ?_
     refine WPL.nilW ?_
     obtain ⟨rfl, rfl⟩ := j2 H
     exact wq [0, 1, 2]
   iterate 2 refine sp ?_
   refine cd H (fun hb5 H => ?_) fun hb5 H => ?_
   · iterate 2 refine sp ?_
     obtain ⟨⟨x29, x30⟩, h10, H⟩ := bnd H
     refine WPL.c (rc [1] [1] 3 [] (s_dec_parser_take k (ByteArray.mk #[45]) x24 x29 x30 h10)) rfl ?_
     iterate 2 refine sp ?_
     refine WP.seq ?_
     obtain ⟨x31, H5, H⟩ := bnd H
     refine mo .normal ((((((((Env.none.upd 2 (.ptr 0 0)).upd 4 (.ptr 1 0)).upd 5 (.lit (.bool x5))).upd 6 (.lit (.string x7))).upd 7 (.lit (.string x12))).upd 8 (.lit (.bool x13))).upd 9 (.ptr 2 0)).upd 10 (.lit (.bool x29))) (((Mem.nil.push (.cells 23 [.lit (.int .i64 0), .lit (.int .i64 0)])).push (.cells 84 [.lit (.string x31)])).push (.cells 3 [.lit (.int .i64 0)])) ?_ ?_
     · clear H
       have H := H5
       clear H5
       iterate 4 refine sp ?_
       refine cd H (fun hb6 H => ?_) fun hb6 H => ?_
       · iterate 2 refine sp ?_
         obtain ⟨⟨x32, x33⟩, h11, H⟩ := bnd H
         refine WPL.c (rc [1] [1] 3 [] (s_dec_parser_take k (ByteArray.mk #[43]) x30 x32 x33 h11)) rfl ?_
         refine WPL.nilW ?_
         have q0 := j1 H
         subst q0
         exact wq [0, 1, 2]
       refine sp ?_
       have q0 := j1 H
       subst q0
       exact wq [0, 1, 2]
     iterate 4 refine sp ?_
     obtain ⟨⟨x34, x35⟩, h12, H⟩ := bnd H
     refine WPL.c (rc [1] [1] 3 [] (s_dec_parser_some k x31 x34 x35 h12)) rfl ?_
     iterate 2 refine sp ?_
     refine WP.seq ?_
     obtain ⟨x36, H6, H⟩ := bnd H
     refine mo .normal (((((((((Env.none.upd 2 (.ptr 0 0)).upd 4 (.ptr 1 0)).upd 5 (.lit (.bool x5))).upd 6 (.lit (.string x7))).upd 7 (.lit (.string x12))).upd 8 (.lit (.bool x36))).upd 9 (.ptr 2 0)).upd 10 (.lit (.bool x29))).upd 11 (.lit (.string x34))) (((Mem.nil.push (.cells 23 [.lit (.int .i64 0), .lit (.int .i64 0)])).push (.cells 84 [.lit (.string x35)])).push (.cells 3 [.lit (.int .i64 0)])) ?_ ?_
     · clear H
       have H := H6
       clear H6
       iterate 3 refine sp ?_
       refine ws 55 H (fun hb7 H => ?_) fun hb7 H => ?_
       · iterate 2 refine sp ?_
         obtain ⟨x37, h13, H⟩ := bnd H
         refine sn (nm_bool h13) ?_
         iterate 2 refine sp ?_
         refine ws 60 H (fun hb8 H => ?_) fun hb8 H => ?_
         · iterate 2 refine sp ?_
           obtain ⟨x38, h14, H⟩ := bnd H
           refine sn (nm_bool h14) ?_
           iterate 2 refine sp ?_
           refine WPL.nilW ?_
           have q0 := j1 H
           subst q0
           exact wq [0, 1, 2]
         iterate 5 refine sp ?_
         refine WPL.nilW ?_
         have q0 := j1 H
         subst q0
         exact wq [0, 1, 2]
       iterate 10 refine sp ?_
       refine WPL.nilW ?_
       have q0 := j1 H
       subst q0
       exact wq [0, 1, 2]
     iterate 2 refine sp ?_
     refine WP.seq ?_
     obtain ⟨x39, H7, H⟩ := bnd H
     refine mo .normal (((((((((⟨fun _ => .any, [3], [], []⟩ : Env).upd 2 (.ptr 0 0)).upd 4 (.ptr 1 0)).upd 5 (.lit (.bool x5))).upd 6 (.lit (.string x7))).upd 7 (.lit (.string x12))).upd 8 (.lit (.bool x36))).upd 9 (.ptr 2 0)).upd 10 (.lit (.bool x29))) ((((Mem.nil.push (.cells 23 [.lit (.int .i64 0), .lit (.int .i64 0)])).push (.cells 84 [.lit (.string x35)])).push (.cells 3 [.lit (.int .i64 x39)])).push (.bag)) ?_ ?_
     · clear H
       have H := H7
       clear H7
       iterate 3 refine sp ?_
       refine cd H (fun hb9 H => ?_) fun hb9 H => ?_
       · iterate 2 refine sp ?_
         obtain ⟨_, h15, H⟩ := bnd H
         refine WPL.c (rc [] [3] 4 [] (s_dec_values k x34 h15)) rfl ?_
         iterate 2 refine sp ?_
         refine WP.cv (Cv.nullMark (N := 4) rfl rfl) ?_
         refine WP.range (nti := 18) (n := 5) rfl rfl Tryz.func138 rfl (by kernel_rfl) rfl rfl rfl rfl fun l_1 r_1 aC1 hp1 ha1 hb10 ht1 hs1 hf1 => ?_
         iterate 6 refine sp ?_
         refine WP.cv (Cv.weak (E' := (((((⟨fun _ => .any, [], [⟨aC1, ((((((((((Env.none.upd 2 (.ptr 1 0)).upd 4 (.ptr 2 0)).upd 5 (.lit (.bool x5))).upd 6 (.lit (.string x7))).upd 7 (.lit (.string x12))).upd 8 (.lit (.bool x36))).upd 9 (.ptr 3 0)).upd 10 (.lit (.bool x29))).upd 67 (.fn 138 [.ptr 0 0]))).v, [4, 5], some (6, l_1)⟩], []⟩ : Env).upd 0 (.lit (.func (.yield l_1) #[] #[]))).upd 1 (.ptr 0 0)).upd 5 (.lit (.int .i64 ((ByteArray.size x34 : Nat) : Int)))).upd 6 (.lit (.int .i64 0)))) (M' := (((((((Mem.nil.push (.cells 9 [.lit (.string x34)])).push (.cells 23 [.lit (.int .i64 0), .lit (.int .i64 0)])).push (.cells 84 [.lit (.string x35)])).push (.cells 3 [.lit (.int .i64 0)])).push (.obj (Obj.deferred (some [])))).push (.bag)).push (.obj (lp r_1 .ready none)))) [3, 0, 1, 2, 5, 4, 6] hnp ⟨rfl, AA7, by decide, rfl, trivial⟩ (LeE.u (LeE.u (LeE.u (LeE.u (LeE.noneD rfl rfl (.cons ⟨rfl, (LeV.upd rfl rfl (LeV.upd rfl rfl (LeV.upd rfl rfl (LeV.upd rfl rfl (LeV.upd rfl rfl (LeV.upd rfl rfl (LeV.upd rfl rfl (LeV.upd rfl rfl (LeV.upd rfl rfl LeV.none))))))))), rfl, rfl, rfl, rfl⟩ .nil))))))) ?_
         obtain ⟨x40, H8, H⟩ := bnd H
         refine mo (.exit 0) (⟨fun _ => .any, [], [⟨aC1, ((((((((((Env.none.upd 2 (.ptr 0 0)).upd 4 (.ptr 1 0)).upd 5 (.lit (.bool x5))).upd 6 (.lit (.string x7))).upd 7 (.lit (.string x12))).upd 8 (.lit (.bool x36))).upd 9 (.ptr 2 0)).upd 10 (.lit (.bool x29))).upd 67 (.fn 138 [.ptr 3 0]))).v, [4, 5], some (6, l_1)⟩], []⟩ : Env) (((((((Mem.nil.push (.cells 23 [.lit (.int .i64 0), .lit (.int .i64 0)])).push (.cells 84 [.lit (.string x35)])).push (.cells 3 [.lit (.int .i64 x40)])).push (.cells 9 [.lit (.string x34)])).push (.obj (Obj.deferred (some [])))).push (.bag)).push (.obj (lp r_1 .ready none))) ?_ ?_
         · refine WP.loop (β := Int × Int) (fun n b => g_dec_Parse_l0 k x34 n b.1 b.2 = some x40) (fun b => (((((⟨fun _ => .any, [], [⟨aC1, ((((((((((Env.none.upd 2 (.ptr 1 0)).upd 4 (.ptr 2 0)).upd 5 (.lit (.bool x5))).upd 6 (.lit (.string x7))).upd 7 (.lit (.string x12))).upd 8 (.lit (.bool x36))).upd 9 (.ptr 3 0)).upd 10 (.lit (.bool x29))).upd 67 (.fn 138 [.ptr 0 0]))).v, [4, 5], some (6, l_1)⟩], []⟩ : Env).upd 0 (.lit (.func (.yield l_1) #[] #[]))).upd 1 (.ptr 0 0)).upd 5 (.lit (.int .i64 ((ByteArray.size x34 : Nat) : Int)))).upd 6 (.lit (.int .i64 b.1)))) (fun b => (((((((Mem.nil.push (.cells 9 [.lit (.string x34)])).push (.cells 23 [.lit (.int .i64 0), .lit (.int .i64 0)])).push (.cells 84 [.lit (.string x35)])).push (.cells 3 [.lit (.int .i64 b.2)])).push (.obj (Obj.deferred (some [])))).push (.bag)).push (.obj (lp r_1 .ready none)))) k (0, 0) H8 rfl rfl ?_
           rintro n ⟨x41, x42⟩ H
           obtain _ | n := n
           · exact nf rfl H
           rw [g_dec_Parse_l0.eq_2] at H
           show WP _ _ _ _ (((((⟨fun _ => .any, [], [⟨aC1, ((((((((((Env.none.upd 2 (.ptr 1 0)).upd 4 (.ptr 2 0)).upd 5 (.lit (.bool x5))).upd 6 (.lit (.string x7))).upd 7 (.lit (.string x12))).upd 8 (.lit (.bool x36))).upd 9 (.ptr 3 0)).upd 10 (.lit (.bool x29))).upd 67 (.fn 138 [.ptr 0 0]))).v, [4, 5], some (6, l_1)⟩], []⟩ : Env).upd 0 (.lit (.func (.yield l_1) #[] #[]))).upd 1 (.ptr 0 0)).upd 5 (.lit (.int .i64 ((ByteArray.size x34 : Nat) : Int)))).upd 6 (.lit (.int .i64 x41))) (((((((Mem.nil.push (.cells 9 [.lit (.string x34)])).push (.cells 23 [.lit (.int .i64 0), .lit (.int .i64 0)])).push (.cells 84 [.lit (.string x35)])).push (.cells 3 [.lit (.int .i64 x42)])).push (.obj (Obj.deferred (some [])))).push (.bag)).push (.obj (lp r_1 .ready none))) _
           refine sp ?_
           obtain ⟨x43, h16, H⟩ := bnd H
           refine sn (nm_bool h16) ?_
           refine sp ?_
           refine WP.seq ?_
           refine cd H (fun hb11 H => ?_) fun hb11 H => ?_
           · iterate 3 refine sp ?_
             refine WP.seq ?_
             iterate 9 refine sp ?_
             obtain ⟨x44, h17, H⟩ := bnd H
             iterate 2 refine sp ?_
             obtain ⟨x45, h18, H⟩ := bnd H
             refine sn (nm_int h18) ?_
             refine WPL.y rfl rfl rfl rfl hp1 ha1 hb10 ht1 hs1 hf1 rfl rfl rfl fun aI1 => ?_
             iterate 2 refine sp ?_
             refine WPL.nilW ?_
             refine sp ?_
             refine ⟨rfl, rfl, _, _, _, _, _, _, rfl, rfl, ?_⟩
             iterate 5 refine sp ?_
             obtain ⟨x46, h19, H⟩ := bnd H
             refine sn (nm_int h19) ?_
             refine sp ?_
             refine WPL.nilW ?_
             refine sp ?_
             refine InBlock.n ?_
             refine ⟨rfl, _, _, _, _, _, _, rfl, rfl, _, rfl, ?_⟩
             iterate 2 refine sp ?_
             refine WP.condFB (t := (!true)) rfl rfl ?_
             iterate 2 refine sp ?_
             refine InBlock.n ?_
             iterate 4 refine sp ?_
             refine WPL.nilW ?_
             exact W.wk [0, 1, 2, 3, 4, 5, 6] hnp (Then.n ⟨n, ((IntKind.wrap .i64 (x41 + 1)), x46), Nat.lt_succ_self n, H, rfl, rfl⟩) ⟨rfl, AA7, by decide, rfl, trivial⟩ (LeE.u (LeE.u (LeE.u (LeE.u (LeE.noneD rfl rfl (.cons ⟨rfl, (LeV.upd rfl rfl (LeV.upd rfl rfl (LeV.upd rfl rfl (LeV.upd rfl rfl (LeV.upd rfl rfl (LeV.upd rfl rfl (LeV.upd rfl rfl (LeV.upd rfl rfl (LeV.upd rfl rfl LeV.none))))))))), rfl, rfl, rfl, rfl⟩ .nil)))))) rfl
           refine sp ?_
           have q0 := j1 H
           subst q0
           exact W.wk [1, 2, 3, 0, 4, 5, 6] hnp (Then.x (Then.x r3)) ⟨rfl, AA7, by decide, rfl, trivial⟩ (LeE.noneD rfl rfl (.cons ⟨rfl, (LeV.upd rfl rfl (LeV.upd rfl rfl (LeV.upd rfl rfl (LeV.upd rfl rfl (LeV.upd rfl rfl (LeV.upd rfl rfl (LeV.upd rfl rfl (LeV.upd rfl rfl (LeV.upd rfl rfl LeV.none))))))))), rfl, rfl, rfl, rfl⟩ .nil)) rfl
         iterate 2 refine sp ?_
         refine ⟨trivial, _, _, _, _, rfl, _, _, rfl, (fun h => by cases h), ?_⟩
         refine W.cv (Cv.absorb (N := 7) (j := 4) (i := 5) rfl rfl rfl rfl) rfl ?_
         have q0 := j1 H
         subst q0
         exact W.wk [0, 1, 2, 7] hnp (InBlock.n r3) ⟨rfl, AA4, by decide, rfl, trivial⟩ (LeE.u (LeE.u (LeE.u (LeE.u (LeE.u (LeE.u (LeE.u (LeE.u (LeE.noneD rfl rfl .nil))))))))) rfl
       refine sp ?_
       refine W.cv (Cv.nullMark (N := 3) rfl rfl) rfl ?_
       have q0 := j1 H
       subst q0
       exact W.wk [0, 1, 2, 3] hnp r3 ⟨rfl, AA4, by decide, rfl, trivial⟩ (LeE.u (LeE.u (LeE.u (LeE.u (LeE.u (LeE.u (LeE.u (LeE.u (LeE.noneD rfl rfl .nil))))))))) rfl
     iterate 5 refine sp ?_
     refine cd H (fun hb12 H => ?_) fun hb12 H => ?_
     · iterate 4 refine sp ?_
       refine WPL.nilW ?_
       obtain ⟨rfl, rfl, rfl⟩ := j3 H
       exact W.wk [0, 1, 2, 3] hnp r3 ⟨rfl, AA4, by decide, rfl, trivial⟩ (LeE.u (LeE.u (LeE.u (LeE.u (LeE.u (LeE.u (LeE.u (LeE.noneD rfl rfl .nil)))))))) rfl
     refine sp ?_
     obtain ⟨rfl, rfl, rfl⟩ := j3 H
     exact W.wk [0, 1, 2, 3] hnp r3 ⟨rfl, AA4, by decide, rfl, trivial⟩ (LeE.u (LeE.u (LeE.u (LeE.u (LeE.u (LeE.u (LeE.u (LeE.noneD rfl rfl .nil)))))))) rfl
   refine sp ?_
   refine W.cv (Cv.nullMark (N := 3) rfl rfl) rfl ?_
   obtain ⟨rfl, rfl, rfl⟩ := j3 H
   exact W.wk [0, 1, 2, 3] hnp r3 ⟨rfl, AA4, by decide, rfl, trivial⟩ (LeE.u (LeE.u (LeE.u (LeE.u (LeE.u (LeE.u (LeE.u (LeE.noneD rfl rfl .nil)))))))) rfl
 iterate 2 refine sp ?_
 refine WP.seq ?_
 refine WP.seq ?_
 obtain ⟨x47, H9, H⟩ := bnd H
 refine mo .normal (((((((⟨fun _ => .any, [2], [], []⟩ : Env).upd 2 (.ptr 0 0)).upd 5 (.lit (.bool x5))).upd 6 (.lit (.string x7))).upd 7 (.lit (.string x12))).upd 9 (.ptr 1 0)).upd 84 (.lit (.bool x47))) (((Mem.nil.push (.cells 23 [.lit (.int .i64 0), .lit (.int .i64 0)])).push (.cells 3 [.lit (.int .i64 x22)])).push (.bag)) ?_ ?_
 · clear H
   have H := H9
   clear H9
   iterate 4 refine sp ?_
   refine ws 78 H (fun hb13 H => ?_) fun hb13 H => ?_
   · iterate 6 refine sp ?_
     refine WPL.nilW ?_
     have q0 := j1 H
     subst q0
     exact W.wk [0, 2, 3] hnp r3 ⟨rfl, AA3, by decide, rfl, trivial⟩ (LeE.u (LeE.u (LeE.u (LeE.u (LeE.u (LeE.u (LeE.noneD rfl rfl .nil))))))) rfl
   iterate 4 refine sp ?_
   obtain ⟨x48, h20, H⟩ := bnd H
   refine sn (nm_bool h20) ?_
   refine sp ?_
   refine WPL.nilW ?_
   have q0 := j1 H
   subst q0
   exact W.wk [0, 2, 3] hnp r3 ⟨rfl, AA3, by decide, rfl, trivial⟩ (LeE.u (LeE.u (LeE.u (LeE.u (LeE.u (LeE.u (LeE.noneD rfl rfl .nil))))))) rfl
 iterate 2 refine sp ?_
 refine cd H (fun hb14 H => ?_) fun hb14 H => ?_
 · iterate 6 refine sp ?_
   obtain ⟨rfl, rfl, rfl⟩ := j3 H
   exact W.now (Then.r (BodyR.mkR ⟨.inr rfl, trivial⟩ rfl [0] ⟨rfl, rfl⟩ ⟨rfl, AA1, by decide, rfl, trivial⟩ rfl rfl))
 iterate 6 refine sp ?_
 obtain ⟨h21, H⟩ := grd H
 refine sp ?_
 obtain ⟨x49, h22, H⟩ := bnd H
 refine WPL.c (rc [] [] 3 [] (s_st_TrimLeft k (x7 ++ x12) (ByteArray.mk #[48]) x49 h22)) rfl ?_
 iterate 6 refine sp ?_
 obtain ⟨x50, h23, H⟩ := bnd H
 refine sn (nm_int h23) ?_
 iterate 4 refine sp ?_
 obtain ⟨x51, h23, H⟩ := bnd H
 refine WPL.c (rc [] [] 3 [] (s_st_TrimRight k x49 (ByteArray.mk #[48]) x51 h23)) rfl ?_
 iterate 8 refine sp ?_
 obtain ⟨x52, h24, H⟩ := bnd H
 refine sn (nm_int h24) ?_
 iterate 3 refine sp ?_
 refine WP.seq ?_
 iterate 3 refine sp ?_
 obtain ⟨x53, h25, H⟩ := bnd H
 refine sn (nm_bool h25) ?_
 refine sp ?_
 refine cd H (fun hb15 H => ?_) fun hb15 H => ?_
 · iterate 6 refine sp ?_
   obtain ⟨rfl, rfl, rfl⟩ := j3 H
   exact W.now (Then.r (BodyR.mkR ⟨.inr rfl, trivial⟩ rfl [0] ⟨rfl, rfl⟩ ⟨rfl, AA1, by decide, rfl, trivial⟩ rfl rfl))
 iterate 8 refine sp ?_
 refine WP.seq ?_
 iterate 2 refine sp ?_
 obtain ⟨_, h26, H⟩ := bnd H
 refine WPL.c (rc [] [4] 5 [] (s_dec_values k x51 h26)) rfl ?_
 iterate 2 refine sp ?_
 refine WP.range (nti := 18) (n := 5) rfl rfl Tryz.func138 rfl (by kernel_rfl) rfl rfl rfl rfl fun l_2 r_2 aC2 hp2 ha2 hb16 ht2 hs2 hf2 => ?_
 iterate 6 refine sp ?_
 refine WP.cv (Cv.weak (E' := (((((⟨fun _ => .any, [], [⟨aC2, ((((((Env.none.upd 2 (.ptr 1 0)).upd 5 (.lit (.bool x5))).upd 9 (.ptr 2 0)).upd 15 (.ptr 3 0)).upd 109 (.fn 138 [.ptr 0 0]))).v, [4, 5], some (6, l_2)⟩], []⟩ : Env).upd 0 (.lit (.func (.yield l_2) #[] #[]))).upd 1 (.ptr 0 0)).upd 5 (.lit (.int .i64 ((ByteArray.size x51 : Nat) : Int)))).upd 6 (.lit (.int .i64 0)))) (M' := (((((((Mem.nil.push (.cells 9 [.lit (.string x51)])).push (.cells 23 [.lit (.int .i64 0), .lit (.int .i64 0)])).push (.cells 3 [.lit (.int .i64 (IntKind.wrap .i64 (x50 + x52)))])).push (.cells 69 [.lit (.int .u64 0), .lit (.int .u64 0)])).push (.obj (Obj.deferred (some [])))).push (.bag)).push (.obj (lp r_2 .ready none)))) [4, 0, 1, 3, 5, 2, 6] hnp ⟨rfl, AA7, by decide, rfl, trivial⟩ (LeE.u (LeE.u (LeE.u (LeE.u (LeE.noneD rfl rfl (.cons ⟨rfl, (LeV.upd rfl rfl (LeV.upd rfl rfl (LeV.upd rfl rfl (LeV.upd rfl rfl (LeV.upd rfl rfl LeV.none))))), rfl, rfl, rfl, rfl⟩ .nil))))))) ?_
 obtain ⟨⟨x54, x55⟩, H10, H⟩ := bnd H
 refine mo (.exit 0) (⟨fun _ => .any, [], [⟨aC2, ((((((Env.none.upd 2 (.ptr 0 0)).upd 5 (.lit (.bool x5))).upd 9 (.ptr 1 0)).upd 15 (.ptr 2 0)).upd 109 (.fn 138 [.ptr 3 0]))).v, [4, 5], some (6, l_2)⟩], []⟩ : Env) (((((((Mem.nil.push (.cells 23 [.lit (.int .i64 0), .lit (.int .i64 0)])).push (.cells 3 [.lit (.int .i64 (IntKind.wrap .i64 (x50 + x52)))])).push (.cells 69 [.lit (.int .u64 x54), .lit (.int .u64 x55)])).push (.cells 9 [.lit (.string x51)])).push (.obj (Obj.deferred (some [])))).push (.bag)).push (.obj (lp r_2 .ready none))) ?_ ?_
 · refine WP.loop (β := Int × Int × Int) (fun n b => g_dec_Parse_l1 k x51 n b.1 b.2.1 b.2.2 = some (x54, x55)) (fun b => (((((⟨fun _ => .any, [], [⟨aC2, ((((((Env.none.upd 2 (.ptr 1 0)).upd 5 (.lit (.bool x5))).upd 9 (.ptr 2 0)).upd 15 (.ptr 3 0)).upd 109 (.fn 138 [.ptr 0 0]))).v, [4, 5], some (6, l_2)⟩], []⟩ : Env).upd 0 (.lit (.func (.yield l_2) #[] #[]))).upd 1 (.ptr 0 0)).upd 5 (.lit (.int .i64 ((ByteArray.size x51 : Nat) : Int)))).upd 6 (.lit (.int .i64 b.1)))) (fun b => (((((((Mem.nil.push (.cells 9 [.lit (.string x51)])).push (.cells 23 [.lit (.int .i64 0), .lit (.int .i64 0)])).push (.cells 3 [.lit (.int .i64 (IntKind.wrap .i64 (x50 + x52)))])).push (.cells 69 [.lit (.int .u64 b.2.1), .lit (.int .u64 b.2.2)])).push (.obj (Obj.deferred (some [])))).push (.bag)).push (.obj (lp r_2 .ready none)))) k (0, 0, 0) H10 rfl rfl ?_
   rintro n ⟨x56, x57, x58⟩ H
   obtain _ | n := n
   · exact nf rfl H
   rw [g_dec_Parse_l1.eq_2] at H
   show WP _ _ _ _ (((((⟨fun _ => .any, [], [⟨aC2, ((((((Env.none.upd 2 (.ptr 1 0)).upd 5 (.lit (.bool x5))).upd 9 (.ptr 2 0)).upd 15 (.ptr 3 0)).upd 109 (.fn 138 [.ptr 0 0]))).v, [4, 5], some (6, l_2)⟩], []⟩ : Env).upd 0 (.lit (.func (.yield l_2) #[] #[]))).upd 1 (.ptr 0 0)).upd 5 (.lit (.int .i64 ((ByteArray.size x51 : Nat) : Int)))).upd 6 (.lit (.int .i64 x56))) (((((((Mem.nil.push (.cells 9 [.lit (.string x51)])).push (.cells 23 [.lit (.int .i64 0), .lit (.int .i64 0)])).push (.cells 3 [.lit (.int .i64 (IntKind.wrap .i64 (x50 + x52)))])).push (.cells 69 [.lit (.int .u64 x57), .lit (.int .u64 x58)])).push (.obj (Obj.deferred (some [])))).push (.bag)).push (.obj (lp r_2 .ready none))) _
   refine sp ?_
   obtain ⟨x59, h27, H⟩ := bnd H
   refine sn (nm_bool h27) ?_
   refine sp ?_
   refine WP.seq ?_
   refine cd H (fun hb17 H => ?_) fun hb17 H => ?_
   · iterate 3 refine sp ?_
     refine WP.seq ?_
     iterate 9 refine sp ?_
     obtain ⟨x60, h28, H⟩ := bnd H
     iterate 2 refine sp ?_
     obtain ⟨x61, h29, H⟩ := bnd H
     refine sn (nm_int h29) ?_
     refine WPL.y rfl rfl rfl rfl hp2 ha2 hb16 ht2 hs2 hf2 rfl rfl rfl fun aI2 => ?_
     iterate 2 refine sp ?_
     refine WPL.nilW ?_
     refine sp ?_
     refine ⟨rfl, rfl, _, _, _, _, _, _, rfl, rfl, ?_⟩
     iterate 3 refine sp ?_
     obtain ⟨⟨x62, x63⟩, h30, H⟩ := bnd H
     refine WPL.c (rc [] [7] 8 [] (s_dec_wide_times k x57 x58 10 x62 x63 h30)) rfl ?_
     iterate 10 refine sp ?_
     obtain ⟨x64, h31, H⟩ := bnd H
     refine WPL.c (rc [] [8] 9 [] (s_dec_wide_plus k x63 (IntKind.wrap .u64 (x58 * 10)) 0 (IntKind.wrap .u64 x61) x64 h31)) rfl ?_
     iterate 4 refine sp ?_
     refine WPL.nilW ?_
     refine sp ?_
     refine InBlock.n ?_
     refine ⟨rfl, _, _, _, _, _, _, rfl, rfl, _, rfl, ?_⟩
     iterate 2 refine sp ?_
     refine WP.condFB (t := (!true)) rfl rfl ?_
     iterate 2 refine sp ?_
     refine InBlock.n ?_
     iterate 4 refine sp ?_
     refine WPL.nilW ?_
     exact W.wk [0, 1, 2, 3, 4, 5, 6] hnp (Then.n ⟨n, ((IntKind.wrap .i64 (x56 + 1)), (add64 x63 0 ((add64 (IntKind.wrap .u64 (x58 * 10)) (IntKind.wrap .u64 x61) 0).2)).1, (add64 (IntKind.wrap .u64 (x58 * 10)) (IntKind.wrap .u64 x61) 0).1), Nat.lt_succ_self n, H, rfl, rfl⟩) ⟨rfl, AA7, by decide, rfl, trivial⟩ (LeE.u (LeE.u (LeE.u (LeE.u (LeE.noneD rfl rfl (.cons ⟨rfl, (LeV.upd rfl rfl (LeV.upd rfl rfl (LeV.upd rfl rfl (LeV.upd rfl rfl (LeV.upd rfl rfl LeV.none))))), rfl, rfl, rfl, rfl⟩ .nil)))))) rfl
   refine sp ?_
   obtain ⟨rfl, rfl⟩ := j2 H
   exact W.wk [1, 2, 3, 0, 4, 5, 6] hnp (Then.x (Then.x r3)) ⟨rfl, AA7, by decide, rfl, trivial⟩ (LeE.noneD rfl rfl (.cons ⟨rfl, (LeV.upd rfl rfl (LeV.upd rfl rfl (LeV.upd rfl rfl (LeV.upd rfl rfl (LeV.upd rfl rfl LeV.none))))), rfl, rfl, rfl, rfl⟩ .nil)) rfl
 iterate 2 refine sp ?_
 refine ⟨trivial, _, _, _, _, rfl, _, _, rfl, (fun h => by cases h), ?_⟩
 refine W.cv (Cv.absorb (N := 7) (j := 4) (i := 5) rfl rfl rfl rfl) rfl ?_
 refine sp ?_
 refine InBlock.n ?_
 iterate 6 refine sp ?_
 obtain ⟨⟨x65, x66, x67⟩, h32, H⟩ := bnd H
 refine WPL.c (rc [] [8] 9 [] (s_dec_num_tell k x5 x54 x55 (IntKind.wrap .i64 (x50 + x52)) x65 x66 x67 h32)) rfl ?_
 iterate 6 refine sp ?_
 obtain ⟨rfl, rfl, rfl⟩ := j3 H
 exact W.now (BodyR.mkR ⟨.inr rfl, trivial⟩ rfl [0] ⟨rfl, rfl⟩ ⟨rfl, AA1, by decide, rfl, trivial⟩ rfl rfl)
end Go.Proofs.YthpcgknknpjpdaaGreatDoor.W
namespace Go.Proofs.YthpcgknknpjpdaaGreatDoor.W
open Go Go.Q Go.Proofs
set_option linter.unusedVariables false
set_option linter.unusedSimpArgs false
set_option maxRecDepth 100000
set_option maxHeartbeats 4000000
theorem s_val_Truth (k : Nat) (x1 : Bool) (H : g_val_Truth k x1 = some ()) : Go.Q.Spec Tryz.prog 21 0 [.lit (.bool x1)] Mem.nil (fun o M => o = .ret (.agg [.lit (.int .i64 3), .lit (.int .i64 0), .lit (.int .i64 0), .lit (.string (ByteArray.mk #[])), .lit (.bool x1), .lit (.int .i64 0)]) ∧ M = (Mem.nil.push (.cells 29 [.lit (.int .i64 3), .lit (.int .i64 0), .lit (.int .i64 0), .lit (.string (ByteArray.mk #[])), .lit (.bool x1), .lit (.int .i64 0)]))) := by
 unfold g_val_Truth at H
 refine bo Tryz.func21 [(29, 6)] [.cell 2 29] 5 fun cx hnp => ?_
 iterate 9 refine sp ?_
 exact W.now (mb [0])
theorem s_sl_TrimPrefix (k : Nat) (x1 : ByteArray) (x2 : ByteArray) (x3 : ByteArray) (H : g_sl_TrimPrefix k x1 x2 = some x3) : Go.Q.Spec Tryz.prog 95 0 [.lit (.string x1), .lit (.string x2)] Mem.nil (fun o M => o = .ret (.lit (.string x3)) ∧ M = Mem.nil) := by
 unfold g_sl_TrimPrefix at H
 refine bo Tryz.func95 [] [.tmp 4] 13 fun cx hnp => ?_
 iterate 3 refine sp ?_
 refine WP.seq ?_
 iterate 3 refine sp ?_
 obtain ⟨x4, h1, H⟩ := bnd H
 refine WPL.c (rc [] [] 0 [] (s_sl_HasPrefix k x1 x2 x4 h1)) rfl ?_
 refine sp ?_
 refine cd H (fun hb1 H => ?_) fun hb1 H => ?_
 · iterate 4 refine sp ?_
   obtain ⟨h2, H⟩ := grd H
   obtain ⟨x5, h3, H⟩ := bnd H
   refine WPL.qq (q_nm (q_slice_str (i := ((ByteArray.size x2 : Nat) : Int)) (j := ((ByteArray.size x1 : Nat) : Int)) Tryz.underlying9 rfl ⟨_, rfl⟩ rfl h2) (nm_str h3)) ?_
   iterate 3 refine sp ?_
   have q0 := j1 H
   subst q0
   exact W.now (Then.r (mb []))
 iterate 8 refine sp ?_
 have q0 := j1 H
 subst q0
 exact W.now (mb [])
theorem s_st_TrimPrefix (k : Nat) (x1 : ByteArray) (x2 : ByteArray) (x3 : ByteArray) (H : g_st_TrimPrefix k x1 x2 = some x3) : Go.Q.Spec Tryz.prog 50 0 [.lit (.string x1), .lit (.string x2)] Mem.nil (fun o M => o = .ret (.lit (.string x3)) ∧ M = Mem.nil) := by
 unfold g_st_TrimPrefix at H
 refine bo Tryz.func50 [] [.tmp 4] 8 fun cx hnp => ?_
 iterate 6 refine sp ?_
 obtain ⟨x4, h1, H⟩ := bnd H
 refine WPL.c (rc [] [] 0 [] (s_sl_TrimPrefix k x1 x2 x4 h1)) rfl ?_
 iterate 3 refine sp ?_
 have q0 := j1 H
 subst q0
 exact W.now (mb [])
theorem s_val_Typed (k : Nat) (x1 : ByteArray) (x2 : Int) (x3 : Int) (x4 : Int) (x5 : ByteArray) (x6 : Bool) (x7 : Int) (H : g_val_Typed k x1 = some (x2, x3, x4, x5, x6, x7)) : Go.Q.Spec Tryz.prog 19 0 [.lit (.string x1)] Mem.nil (fun o M => o = .ret (.agg [.lit (.int .i64 x2), .lit (.int .i64 x3), .lit (.int .i64 x4), .lit (.string x5), .lit (.bool x6), .lit (.int .i64 x7)]) ∧ M = (Mem.nil.push (.cells 29 [.lit (.int .i64 x2), .lit (.int .i64 x3), .lit (.int .i64 x4), .lit (.string x5), .lit (.bool x6), .lit (.int .i64 x7)]))) := by
 unfold g_val_Typed at H
 refine bo Tryz.func19 [(29, 6)] [.cell 2 29] 44 fun cx hnp => ?_
 iterate 5 refine sp ?_
 obtain ⟨⟨x8, x9⟩, h1, H⟩ := bnd H
 refine WPL.c (rc [] [] 1 [] (s_val_ErrCode k x1 x8 x9 h1)) rfl ?_
 iterate 8 refine sp ?_
 obtain ⟨⟨x10, x11, x12⟩, h2, H⟩ := bnd H
 refine WPL.c (rc [] [1] 2 [] (s_dec_Parse k x1 x10 x11 x12 h2)) rfl ?_
 iterate 7 refine sp ?_
 refine WP.seq ?_
 iterate 3 refine sp ?_
 obtain ⟨x13, h3, H⟩ := bnd H
 refine sn (nm_bool h3) ?_
 iterate 2 refine sp ?_
 refine cd H (fun hb1 H => ?_) fun hb1 H => ?_
 · iterate 5 refine sp ?_
   obtain ⟨rfl, rfl, rfl, rfl, rfl, rfl⟩ := j6 H
   exact W.now (InBlock.r (Then.r (mb [0])))
 refine WP.seq ?_
 obtain ⟨x14, H1, H⟩ := bnd H
 refine mo .normal (((((((Env.none.upd 0 (.lit (.string x1))).upd 2 (.ptr 0 0)).upd 3 (.lit (.int .i64 x8))).upd 4 (.lit (.bool x9))).upd 5 (.ptr 1 0)).upd 6 (.lit (.int .i64 x10))).upd 21 (.lit (.bool x14))) ((Mem.nil.push (.cells 29 [.lit (.int .i64 0), .lit (.int .i64 0), .lit (.int .i64 0), .lit (.string (ByteArray.mk #[])), .lit (.bool false), .lit (.int .i64 0)])).push (.cells 23 [.lit (.int .i64 x11), .lit (.int .i64 x12)])) ?_ ?_
 · clear H
   have H := H1
   clear H1
   iterate 2 refine sp ?_
   obtain ⟨x15, h4, H⟩ := bnd H
   refine sn (nm_bool h4) ?_
   refine sp ?_
   refine ws 24 H (fun hb2 H => ?_) fun hb2 H => ?_
   · iterate 4 refine sp ?_
     refine WPL.nilW ?_
     have q0 := j1 H
     subst q0
     exact wq [0, 2]
   refine sp ?_
   obtain ⟨x16, h5, H⟩ := bnd H
   refine sn (nm_bool h5) ?_
   iterate 2 refine sp ?_
   refine WPL.nilW ?_
   have q0 := j1 H
   subst q0
   exact wq [0, 2]
 iterate 2 refine sp ?_
 refine cd H (fun hb3 H => ?_) fun hb3 H => ?_
 · iterate 2 refine sp ?_
   obtain ⟨x17, h6, H⟩ := bnd H
   refine sn (nm_bool h6) ?_
   obtain ⟨_, h6, H⟩ := bnd H
   refine WPL.c (rc [] [2] 3 [] (s_val_Truth k x17 h6)) rfl ?_
   iterate 3 refine sp ?_
   obtain ⟨rfl, rfl, rfl, rfl, rfl, rfl⟩ := j6 H
   exact W.now (InBlock.r (Then.r (mb [0])))
 iterate 4 refine sp ?_
 refine cd H (fun hb4 H => ?_) fun hb4 H => ?_
 · iterate 2 refine sp ?_
   obtain ⟨x18, h7, H⟩ := bnd H
   refine WPL.c (rc [] [2] 3 [] (s_val_Err k x8 x18 h7)) rfl ?_
   iterate 3 refine sp ?_
   obtain ⟨rfl, rfl, rfl, rfl, rfl, rfl⟩ := j6 H
   exact W.now (InBlock.r (Then.r (mb [0])))
 iterate 5 refine sp ?_
 refine cd H (fun hb5 H => ?_) fun hb5 H => ?_
 · iterate 3 refine sp ?_
   obtain ⟨⟨x19, x20, x21, x22⟩, h8, H⟩ := bnd H
   refine WPL.c (rc [] [2] 3 [] (s_val_Of k x11 x12 x10 x19 x20 x21 x22 h8)) rfl ?_
   iterate 3 refine sp ?_
   obtain ⟨rfl, rfl, rfl, rfl, rfl, rfl⟩ := j6 H
   exact W.now (InBlock.r (Then.r (mb [0])))
 iterate 2 refine sp ?_
 refine InBlock.n ?_
 iterate 3 refine sp ?_
 obtain ⟨x23, h9, H⟩ := bnd H
 refine WPL.c (rc [] [] 2 [] (s_st_TrimPrefix k x1 (ByteArray.mk #[39]) x23 h9)) rfl ?_
 obtain ⟨⟨x24, x25, x26⟩, h10, H⟩ := bnd H
 refine WPL.c (rc [] [2] 3 [] (s_val_Str k x23 x24 x25 x26 h10)) rfl ?_
 iterate 3 refine sp ?_
 obtain ⟨rfl, rfl, rfl, rfl, rfl, rfl⟩ := j6 H
 exact W.now (mb [0])
theorem s_rv_Truth (k : Nat) (x1 : Bool) (H : g_rv_Truth k x1 = some ()) : Go.Q.Spec Tryz.prog 22 0 [.lit (.bool x1)] Mem.nil (fun o M => o = .ret (.agg [.lit (.int .i64 3), .lit (.int .i64 0), .lit (.int .i64 0), .lit (.string (ByteArray.mk #[])), .lit (.bool x1), .lit (.int .i64 0)]) ∧ M = (Mem.nil.push (.cells 29 [.lit (.int .i64 3), .lit (.int .i64 0), .lit (.int .i64 0), .lit (.string (ByteArray.mk #[])), .lit (.bool x1), .lit (.int .i64 0)]))) := by
 unfold g_rv_Truth at H
 refine bo Tryz.func22 [(29, 6)] [.cell 2 29] 5 fun cx hnp => ?_
 iterate 9 refine sp ?_
 exact W.now (mb [0])
theorem s_r9_digit (k : Nat) (x1 : Int) (x2 : Bool) (H : g_r9_digit k x1 = some x2) : Go.Q.Spec Tryz.prog 96 0 [.lit (.int .u8 x1)] Mem.nil (fun o M => o = .ret (.lit (.bool x2)) ∧ M = Mem.nil) := by
 unfold g_r9_digit at H
 refine bo Tryz.func96 [] [.tmp 2] 9 fun cx hnp => ?_
 iterate 3 refine sp ?_
 refine WP.seq ?_
 obtain ⟨x3, H1, H⟩ := bnd H
 refine mo .normal (Env.none.upd 2 (.lit (.bool x3))) Mem.nil ?_ ?_
 · clear H
   have H := H1
   clear H1
   iterate 4 refine sp ?_
   refine ws 5 H (fun hb1 H => ?_) fun hb1 H => ?_
   · iterate 4 refine sp ?_
     refine WPL.nilW ?_
     have q0 := j1 H
     subst q0
     exact wq []
   iterate 4 refine sp ?_
   refine WPL.nilW ?_
   have q0 := j1 H
   subst q0
   exact wq []
 iterate 3 refine sp ?_
 have q0 := j1 H
 subst q0
 exact W.now (mb [])
theorem s_r9_Parse (k : Nat) (x1 : ByteArray) (x2 : Int) (x3 : Int) (x4 : Int) (H : g_r9_Parse k x1 = some (x2, x3, x4)) : Go.Q.Spec Tryz.prog 51 0 [.lit (.string x1)] Mem.nil (fun o M => o = .ret (.tup [.agg [.lit (.int .i64 x3), .lit (.int .i64 x4)], .lit (.int .i64 x2)]) ∧ M = (Mem.nil.push (.cells 23 [.lit (.int .i64 x3), .lit (.int .i64 x4)]))) := by
 unfold g_r9_Parse at H
 refine bo Tryz.func51 [(23, 2)] [.cell 2 23, .tmp 3] 210 fun cx hnp => ?_
 iterate 4 refine sp ?_
 refine WP.seq ?_
 iterate 3 refine sp ?_
 obtain ⟨x5, h1, H⟩ := bnd H
 refine sn (nm_bool h1) ?_
 refine sp ?_
 refine cd H (fun hb1 H => ?_) fun hb1 H => ?_
 · iterate 6 refine sp ?_
   obtain ⟨rfl, rfl, rfl⟩ := j3 H
   exact W.now (Then.r (mb [0]))
 iterate 11 refine sp ?_
 refine WP.seq ?_
 obtain ⟨x6, H1, H⟩ := bnd H
 refine mo .normal (((((Env.none.upd 0 (.lit (.string x1))).upd 2 (.ptr 0 0)).upd 4 (.ptr 1 0)).upd 5 (.lit (.int .i64 0))).upd 6 (.lit (.bool x6))) ((Mem.nil.push (.cells 23 [.lit (.int .i64 0), .lit (.int .i64 0)])).push (.cells 81 [.lit (.bool false), .lit (.slice none 0 0), .lit (.int .i64 0)])) ?_ ?_
 · clear H
   have H := H1
   clear H1
   iterate 3 refine sp ?_
   obtain ⟨x7, h2, H⟩ := bnd H
   refine sn (nm_bool h2) ?_
   refine sp ?_
   refine ws 20 H (fun hb2 H => ?_) fun hb2 H => ?_
   · refine sp ?_
     obtain ⟨x8, h3, H⟩ := bnd H
     iterate 4 refine sp ?_
     refine WPL.nilW ?_
     have q0 := j1 H
     subst q0
     exact wq [0, 1]
   iterate 5 refine sp ?_
   refine WPL.nilW ?_
   have q0 := j1 H
   subst q0
   exact wq [0, 1]
 iterate 2 refine sp ?_
 refine WP.seq ?_
 obtain ⟨x9, H2, H⟩ := bnd H
 refine mo .normal (((((Env.none.upd 0 (.lit (.string x1))).upd 2 (.ptr 0 0)).upd 4 (.ptr 1 0)).upd 5 (.lit (.int .i64 x9))).upd 6 (.lit (.bool x6))) ((Mem.nil.push (.cells 23 [.lit (.int .i64 0), .lit (.int .i64 0)])).push (.cells 81 [.lit (.bool false), .lit (.slice none 0 0), .lit (.int .i64 0)])) ?_ ?_
 · clear H
   have H := H2
   clear H2
   iterate 3 refine sp ?_
   refine cd H (fun hb3 H => ?_) fun hb3 H => ?_
   · iterate 2 refine sp ?_
     refine WPL.nilW ?_
     have q0 := j1 H
     subst q0
     exact wq [0, 1]
   refine sp ?_
   have q0 := j1 H
   subst q0
   exact wq [0, 1]
 iterate 9 refine sp ?_
 refine WP.seq ?_
 refine sp ?_
 refine WP.cv (Cv.vir 3 (Rd.int .i64) (N := 2) rfl 7 rfl) ?_
 refine WP.cv (Cv.weak (E' := (((((((Env.none.upd 0 (.lit (.string x1))).upd 2 (.ptr 0 0)).upd 4 (.ptr 1 0)).upd 5 (.lit (.int .i64 x9))).upd 6 (.lit (.bool x6))).upd 7 (.whole 2)).upd 8 (.lit (.int .i64 x9)))) (M' := (((Mem.nil.push (.cells 23 [.lit (.int .i64 0), .lit (.int .i64 0)])).push (.cells 81 [.lit (.bool false), .lit (.slice none 0 0), .lit (.int .i64 0)])).push (.row 3 (Rd.int .i64) ([] : List Int)))) [0, 1, 2] hnp ⟨rfl, AA3, by decide, rfl, trivial⟩ (LeE.u (LeE.u (LeE.u (LeE.u (LeE.u (LeE.u (LeE.u (LeE.none rfl rfl))))))))) ?_
 obtain ⟨⟨x10, x11⟩, H3, H⟩ := bnd H
 refine mo (.exit 0) (((((((Env.none.upd 0 (.lit (.string x1))).upd 2 (.ptr 0 0)).upd 4 (.ptr 1 0)).upd 5 (.lit (.int .i64 x10))).upd 6 (.lit (.bool x6))).upd 7 (.whole 2)).upd 8 (.lit (.int .i64 x9))) (((Mem.nil.push (.cells 23 [.lit (.int .i64 0), .lit (.int .i64 0)])).push (.cells 81 [.lit (.bool false), .lit (.slice none 0 0), .lit (.int .i64 0)])).push (.row 3 (Rd.int .i64) x11)) ?_ ?_
 · refine WP.loop (β := Int × (List Int)) (fun n b => g_r9_Parse_l0 k x1 n b.1 b.2 = some (x10, x11)) (fun b => (((((((Env.none.upd 0 (.lit (.string x1))).upd 2 (.ptr 0 0)).upd 4 (.ptr 1 0)).upd 5 (.lit (.int .i64 b.1))).upd 6 (.lit (.bool x6))).upd 7 (.whole 2)).upd 8 (.lit (.int .i64 x9)))) (fun b => (((Mem.nil.push (.cells 23 [.lit (.int .i64 0), .lit (.int .i64 0)])).push (.cells 81 [.lit (.bool false), .lit (.slice none 0 0), .lit (.int .i64 0)])).push (.row 3 (Rd.int .i64) b.2))) k (x9, ([] : List Int)) H3 rfl rfl ?_
   rintro n ⟨x12, x13⟩ H
   obtain _ | n := n
   · exact nf rfl H
   rw [g_r9_Parse_l0.eq_2] at H
   show WP _ _ _ _ (((((((Env.none.upd 0 (.lit (.string x1))).upd 2 (.ptr 0 0)).upd 4 (.ptr 1 0)).upd 5 (.lit (.int .i64 x12))).upd 6 (.lit (.bool x6))).upd 7 (.whole 2)).upd 8 (.lit (.int .i64 x9))) (((Mem.nil.push (.cells 23 [.lit (.int .i64 0), .lit (.int .i64 0)])).push (.cells 81 [.lit (.bool false), .lit (.slice none 0 0), .lit (.int .i64 0)])).push (.row 3 (Rd.int .i64) x13)) _
   refine WP.seq ?_
   refine WP.seq ?_
   obtain ⟨x14, H4, H⟩ := bnd H
   refine mo .normal ((((((((Env.none.upd 0 (.lit (.string x1))).upd 2 (.ptr 0 0)).upd 4 (.ptr 1 0)).upd 5 (.lit (.int .i64 x12))).upd 6 (.lit (.bool x6))).upd 7 (.whole 2)).upd 8 (.lit (.int .i64 x9))).upd 36 (.lit (.bool x14))) (((Mem.nil.push (.cells 23 [.lit (.int .i64 0), .lit (.int .i64 0)])).push (.cells 81 [.lit (.bool false), .lit (.slice none 0 0), .lit (.int .i64 0)])).push (.row 3 (Rd.int .i64) x13)) ?_ ?_
   · clear H
     have H := H4
     clear H4
     iterate 4 refine sp ?_
     obtain ⟨x15, h4, H⟩ := bnd H
     refine sn (nm_bool h4) ?_
     refine sp ?_
     refine ws 31 H (fun hb4 H => ?_) fun hb4 H => ?_
     · iterate 2 refine sp ?_
       obtain ⟨x16, h5, H⟩ := bnd H
       refine sp ?_
       obtain ⟨x17, h5, H⟩ := bnd H
       refine WPL.cg rfl rfl (lb hb4) (rc [] [] 3 [] (s_r9_digit k x16 x17 h5)) rfl ?_
       refine sp ?_
       refine WPL.nilW ?_
       have q0 := j1 H
       subst q0
       exact wq [0, 1, 2]
     iterate 5 refine sp ?_
     refine WPL.nilW ?_
     have q0 := j1 H
     subst q0
     exact wq [0, 1, 2]
   iterate 2 refine sp ?_
   refine cd H (fun hb5 H => ?_) fun hb5 H => ?_
   · iterate 8 refine sp ?_
     obtain ⟨x18, h6, H⟩ := bnd H
     iterate 2 refine sp ?_
     obtain ⟨x19, h7, H⟩ := bnd H
     refine sn (nm_int h7) ?_
     refine WPL.d (d_buildSlice (ds := ([x19] : List Int)) (R := (Rd.int .i64)) li76 rfl rfl rfl rfl rfl (JoinRows.cons1 Joins.sc rfl JoinRows.nil) rfl rfl) rfl ?_
     obtain ⟨h7, H⟩ := grd H
     refine WPL.d (d_append ap76 rfl rfl rfl rfl (src_row sl76 rfl rfl) h7 rfl) rfl ?_
     iterate 6 refine sp ?_
     refine WPL.nilW ?_
     exact wq [0, 1, 4] (InBlock.n (Then.n ⟨n, ((IntKind.wrap .i64 (x12 + 1)), (x13 ++ ([x19] : List Int))), Nat.lt_succ_self n, H, rfl, rfl⟩))
   refine sp ?_
   obtain ⟨rfl, rfl⟩ := j2 H
   exact wq [0, 1, 2] (Then.x (Then.x r3))
 iterate 3 refine sp ?_
 refine WP.seq ?_
 iterate 5 refine sp ?_
 refine cd H (fun hb6 H => ?_) fun hb6 H => ?_
 · iterate 6 refine sp ?_
   obtain ⟨rfl, rfl, rfl⟩ := j3 H
   exact W.now (Then.r (mb [0]))
 iterate 3 refine sp ?_
 refine WP.seq ?_
 obtain ⟨y1, H5, H⟩ := bnd H
 refine WP.monoW (Q := fun x E M => match (generalizing := false) y1 with | (Sum.inl _) => x = .ret ∧ E = ((Env.none.upd 2 (.ptr 0 0)).upd 3 (.lit (.int .i64 40))) ∧ M = (Mem.nil.push (.cells 23 [.lit (.int .i64 0), .lit (.int .i64 0)])) | (Sum.inr (x20, x21, x22)) => x = .normal ∧ E = ((((((Env.none.upd 0 (.lit (.string x1))).upd 2 (.ptr 0 0)).upd 4 (.ptr 1 0)).upd 5 (.lit (.int .i64 x20))).upd 6 (.lit (.bool x6))).upd 7 (.whole 2)) ∧ M = (((Mem.nil.push (.cells 23 [.lit (.int .i64 0), .lit (.int .i64 0)])).push (.cells 81 [.lit (.bool false), .lit (.slice none 0 0), .lit (.int .i64 x21)])).push (.row 3 (Rd.int .i64) x22))) ?_ ?_
 · clear H
   have H := H5
   clear H5
   refine WP.seq ?_
   obtain ⟨x23, H6, H⟩ := bnd H
   refine mo .normal (((((((Env.none.upd 0 (.lit (.string x1))).upd 2 (.ptr 0 0)).upd 4 (.ptr 1 0)).upd 5 (.lit (.int .i64 x10))).upd 6 (.lit (.bool x6))).upd 7 (.whole 2)).upd 60 (.lit (.bool x23))) (((Mem.nil.push (.cells 23 [.lit (.int .i64 0), .lit (.int .i64 0)])).push (.cells 81 [.lit (.bool false), .lit (.slice none 0 0), .lit (.int .i64 0)])).push (.row 3 (Rd.int .i64) x11)) ?_ ?_
   · clear H
     have H := H6
     clear H6
     iterate 4 refine sp ?_
     obtain ⟨x24, h8, H⟩ := bnd H
     refine sn (nm_bool h8) ?_
     refine sp ?_
     refine ws 55 H (fun hb7 H => ?_) fun hb7 H => ?_
     · iterate 2 refine sp ?_
       obtain ⟨x25, h9, H⟩ := bnd H
       iterate 3 refine sp ?_
       refine WPL.nilW ?_
       have q0 := j1 H
       subst q0
       exact wq [0, 1, 2]
     iterate 5 refine sp ?_
     refine WPL.nilW ?_
     have q0 := j1 H
     subst q0
     exact wq [0, 1, 2]
   iterate 2 refine sp ?_
   refine cd H (fun hb8 H => ?_) fun hb8 H => ?_
   · iterate 9 refine sp ?_
     refine WP.seq ?_
     refine sp ?_
     refine WP.cv (Cv.weak (E' := (((((((Env.none.upd 0 (.lit (.string x1))).upd 2 (.ptr 0 0)).upd 4 (.ptr 1 0)).upd 5 (.lit (.int .i64 (IntKind.wrap .i64 (x10 + 1))))).upd 6 (.lit (.bool x6))).upd 7 (.whole 2)).upd 8 (.lit (.int .i64 (IntKind.wrap .i64 (x10 + 1)))))) (M' := (((Mem.nil.push (.cells 23 [.lit (.int .i64 0), .lit (.int .i64 0)])).push (.cells 81 [.lit (.bool false), .lit (.slice none 0 0), .lit (.int .i64 0)])).push (.row 3 (Rd.int .i64) x11))) [0, 1, 2] hnp ⟨rfl, AA3, by decide, rfl, trivial⟩ (LeE.u (LeE.u (LeE.u (LeE.u (LeE.u (LeE.u (LeE.u (LeE.none rfl rfl))))))))) ?_
     obtain ⟨⟨x26, x27, x28⟩, H7, H⟩ := bnd H
     refine mo (.exit 2) (((((((Env.none.upd 0 (.lit (.string x1))).upd 2 (.ptr 0 0)).upd 4 (.ptr 1 0)).upd 5 (.lit (.int .i64 x26))).upd 6 (.lit (.bool x6))).upd 7 (.whole 2)).upd 8 (.lit (.int .i64 (IntKind.wrap .i64 (x10 + 1))))) (((Mem.nil.push (.cells 23 [.lit (.int .i64 0), .lit (.int .i64 0)])).push (.cells 81 [.lit (.bool false), .lit (.slice none 0 0), .lit (.int .i64 x27)])).push (.row 3 (Rd.int .i64) x28)) ?_ ?_
     · refine WP.loop (β := Int × Int × (List Int)) (fun n b => g_r9_Parse_l1 k x1 n b.1 b.2.1 b.2.2 = some (x26, x27, x28)) (fun b => (((((((Env.none.upd 0 (.lit (.string x1))).upd 2 (.ptr 0 0)).upd 4 (.ptr 1 0)).upd 5 (.lit (.int .i64 b.1))).upd 6 (.lit (.bool x6))).upd 7 (.whole 2)).upd 8 (.lit (.int .i64 (IntKind.wrap .i64 (x10 + 1)))))) (fun b => (((Mem.nil.push (.cells 23 [.lit (.int .i64 0), .lit (.int .i64 0)])).push (.cells 81 [.lit (.bool false), .lit (.slice none 0 0), .lit (.int .i64 b.2.1)])).push (.row 3 (Rd.int .i64) b.2.2))) k ((IntKind.wrap .i64 (x10 + 1)), 0, x11) H7 rfl rfl ?_
       rintro n ⟨x29, x30, x31⟩ H
       obtain _ | n := n
       · exact nf rfl H
       rw [g_r9_Parse_l1.eq_2] at H
       show WP _ _ _ _ (((((((Env.none.upd 0 (.lit (.string x1))).upd 2 (.ptr 0 0)).upd 4 (.ptr 1 0)).upd 5 (.lit (.int .i64 x29))).upd 6 (.lit (.bool x6))).upd 7 (.whole 2)).upd 8 (.lit (.int .i64 (IntKind.wrap .i64 (x10 + 1))))) (((Mem.nil.push (.cells 23 [.lit (.int .i64 0), .lit (.int .i64 0)])).push (.cells 81 [.lit (.bool false), .lit (.slice none 0 0), .lit (.int .i64 x30)])).push (.row 3 (Rd.int .i64) x31)) _
       refine WP.seq ?_
       refine WP.seq ?_
       obtain ⟨x32, H8, H⟩ := bnd H
       refine mo .normal ((((((((Env.none.upd 0 (.lit (.string x1))).upd 2 (.ptr 0 0)).upd 4 (.ptr 1 0)).upd 5 (.lit (.int .i64 x29))).upd 6 (.lit (.bool x6))).upd 7 (.whole 2)).upd 8 (.lit (.int .i64 (IntKind.wrap .i64 (x10 + 1))))).upd 73 (.lit (.bool x32))) (((Mem.nil.push (.cells 23 [.lit (.int .i64 0), .lit (.int .i64 0)])).push (.cells 81 [.lit (.bool false), .lit (.slice none 0 0), .lit (.int .i64 x30)])).push (.row 3 (Rd.int .i64) x31)) ?_ ?_
       · clear H
         have H := H8
         clear H8
         iterate 4 refine sp ?_
         obtain ⟨x33, h10, H⟩ := bnd H
         refine sn (nm_bool h10) ?_
         refine sp ?_
         refine ws 68 H (fun hb9 H => ?_) fun hb9 H => ?_
         · iterate 2 refine sp ?_
           obtain ⟨x34, h11, H⟩ := bnd H
           refine sp ?_
           obtain ⟨x35, h11, H⟩ := bnd H
           refine WPL.cg rfl rfl (lb hb9) (rc [] [] 3 [] (s_r9_digit k x34 x35 h11)) rfl ?_
           refine sp ?_
           refine WPL.nilW ?_
           have q0 := j1 H
           subst q0
           exact wq [0, 1, 2]
         iterate 5 refine sp ?_
         refine WPL.nilW ?_
         have q0 := j1 H
         subst q0
         exact wq [0, 1, 2]
       iterate 2 refine sp ?_
       refine cd H (fun hb10 H => ?_) fun hb10 H => ?_
       · iterate 8 refine sp ?_
         obtain ⟨x36, h12, H⟩ := bnd H
         iterate 2 refine sp ?_
         obtain ⟨x37, h13, H⟩ := bnd H
         refine sn (nm_int h13) ?_
         refine WPL.d (d_buildSlice (ds := ([x37] : List Int)) (R := (Rd.int .i64)) li76 rfl rfl rfl rfl rfl (JoinRows.cons1 Joins.sc rfl JoinRows.nil) rfl rfl) rfl ?_
         obtain ⟨h13, H⟩ := grd H
         refine WPL.d (d_append ap76 rfl rfl rfl rfl (src_row sl76 rfl rfl) h13 rfl) rfl ?_
         iterate 13 refine sp ?_
         refine WPL.nilW ?_
         exact wq [0, 1, 4] (InBlock.n (Then.n ⟨n, ((IntKind.wrap .i64 (x29 + 1)), (IntKind.wrap .i64 (x30 - 1)), (x31 ++ ([x37] : List Int))), Nat.lt_succ_self n, H, rfl, rfl⟩))
       refine sp ?_
       obtain ⟨rfl, rfl, rfl⟩ := j3 H
       exact wq [0, 1, 2] (Then.x (Then.x r3))
     iterate 6 refine sp ?_
     obtain ⟨x38, h14, H⟩ := bnd H
     refine sn (nm_bool h14) ?_
     refine sp ?_
     refine cd H (fun hb11 H => ?_) fun hb11 H => ?_
     · iterate 6 refine sp ?_
       have q0 := j1 H
       subst q0
       exact wq [0]
     refine sp ?_
     have q0 := j1 H
     subst q0
     exact wq [0, 1, 2]
   refine sp ?_
   have q0 := j1 H
   subst q0
   exact wq [0, 1, 2]
 rcases y1 with _ | ⟨x20, x21, x22⟩
 · rintro _ _ _ ⟨rfl, rfl, rfl⟩
   obtain ⟨rfl, rfl, rfl⟩ := j3 H
   exact W.now (Then.r (mb [0]))
 rintro _ _ _ ⟨rfl, rfl, rfl⟩
 iterate 2 refine sp ?_
 refine WP.seq ?_
 obtain ⟨y2, H9, H⟩ := bnd H
 refine WP.monoW (Q := fun x E M => match (generalizing := false) y2 with | (Sum.inl _) => x = .ret ∧ E = ((Env.none.upd 2 (.ptr 0 0)).upd 3 (.lit (.int .i64 40))) ∧ M = (Mem.nil.push (.cells 23 [.lit (.int .i64 0), .lit (.int .i64 0)])) | (Sum.inr (x39, x40)) => x = .normal ∧ E = ((((((Env.none.upd 0 (.lit (.string x1))).upd 2 (.ptr 0 0)).upd 4 (.ptr 1 0)).upd 5 (.lit (.int .i64 x39))).upd 6 (.lit (.bool x6))).upd 7 (.whole 2)) ∧ M = (((Mem.nil.push (.cells 23 [.lit (.int .i64 0), .lit (.int .i64 0)])).push (.cells 81 [.lit (.bool false), .lit (.slice none 0 0), .lit (.int .i64 x40)])).push (.row 3 (Rd.int .i64) x22))) ?_ ?_
 · clear H
   have H := H9
   clear H9
   refine WP.seq ?_
   obtain ⟨x41, H10, H⟩ := bnd H
   refine mo .normal (((((((Env.none.upd 0 (.lit (.string x1))).upd 2 (.ptr 0 0)).upd 4 (.ptr 1 0)).upd 5 (.lit (.int .i64 x20))).upd 6 (.lit (.bool x6))).upd 7 (.whole 2)).upd 107 (.lit (.bool x41))) (((Mem.nil.push (.cells 23 [.lit (.int .i64 0), .lit (.int .i64 0)])).push (.cells 81 [.lit (.bool false), .lit (.slice none 0 0), .lit (.int .i64 x21)])).push (.row 3 (Rd.int .i64) x22)) ?_ ?_
   · clear H
     have H := H10
     clear H10
     iterate 4 refine sp ?_
     obtain ⟨x42, h15, H⟩ := bnd H
     refine sn (nm_bool h15) ?_
     refine sp ?_
     refine ws 96 H (fun hb12 H => ?_) fun hb12 H => ?_
     · iterate 2 refine sp ?_
       obtain ⟨x43, h16, H⟩ := bnd H
       iterate 3 refine sp ?_
       refine ws 101 H (fun hb13 H => ?_) fun hb13 H => ?_
       · iterate 6 refine sp ?_
         refine WPL.nilW ?_
         have q0 := j1 H
         subst q0
         exact wq [0, 1, 2]
       iterate 2 refine sp ?_
       obtain ⟨x44, h17, H⟩ := bnd H
       iterate 4 refine sp ?_
       refine WPL.nilW ?_
       have q0 := j1 H
       subst q0
       exact wq [0, 1, 2]
     iterate 11 refine sp ?_
     refine WPL.nilW ?_
     have q0 := j1 H
     subst q0
     exact wq [0, 1, 2]
   iterate 2 refine sp ?_
   refine cd H (fun hb14 H => ?_) fun hb14 H => ?_
   · iterate 5 refine sp ?_
     refine WP.seq ?_
     obtain ⟨x45, H11, H⟩ := bnd H
     refine mo .normal (((((((Env.none.upd 0 (.lit (.string x1))).upd 2 (.ptr 0 0)).upd 4 (.ptr 1 0)).upd 5 (.lit (.int .i64 (IntKind.wrap .i64 (x20 + 1))))).upd 6 (.lit (.bool x6))).upd 7 (.whole 2)).upd 9 (.lit (.bool x45))) (((Mem.nil.push (.cells 23 [.lit (.int .i64 0), .lit (.int .i64 0)])).push (.cells 81 [.lit (.bool false), .lit (.slice none 0 0), .lit (.int .i64 x21)])).push (.row 3 (Rd.int .i64) x22)) ?_ ?_
     · clear H
       have H := H11
       clear H11
       iterate 4 refine sp ?_
       obtain ⟨x46, h18, H⟩ := bnd H
       refine sn (nm_bool h18) ?_
       refine sp ?_
       refine ws 114 H (fun hb15 H => ?_) fun hb15 H => ?_
       · iterate 2 refine sp ?_
         obtain ⟨x47, h19, H⟩ := bnd H
         iterate 4 refine sp ?_
         refine WPL.nilW ?_
         have q0 := j1 H
         subst q0
         exact wq [0, 1, 2]
       iterate 6 refine sp ?_
       refine WPL.nilW ?_
       have q0 := j1 H
       subst q0
       exact wq [0, 1, 2]
     iterate 2 refine sp ?_
     refine WP.seq ?_
     obtain ⟨x48, H12, H⟩ := bnd H
     refine mo .normal (((((((Env.none.upd 0 (.lit (.string x1))).upd 2 (.ptr 0 0)).upd 4 (.ptr 1 0)).upd 5 (.lit (.int .i64 x48))).upd 6 (.lit (.bool x6))).upd 7 (.whole 2)).upd 9 (.lit (.bool x45))) (((Mem.nil.push (.cells 23 [.lit (.int .i64 0), .lit (.int .i64 0)])).push (.cells 81 [.lit (.bool false), .lit (.slice none 0 0), .lit (.int .i64 x21)])).push (.row 3 (Rd.int .i64) x22)) ?_ ?_
     · clear H
       have H := H12
       clear H12
       refine WP.seq ?_
       obtain ⟨x49, H13, H⟩ := bnd H
       refine mo .normal ((((((((Env.none.upd 0 (.lit (.string x1))).upd 2 (.ptr 0 0)).upd 4 (.ptr 1 0)).upd 5 (.lit (.int .i64 (IntKind.wrap .i64 (x20 + 1))))).upd 6 (.lit (.bool x6))).upd 7 (.whole 2)).upd 9 (.lit (.bool x45))).upd 135 (.lit (.bool x49))) (((Mem.nil.push (.cells 23 [.lit (.int .i64 0), .lit (.int .i64 0)])).push (.cells 81 [.lit (.bool false), .lit (.slice none 0 0), .lit (.int .i64 x21)])).push (.row 3 (Rd.int .i64) x22)) ?_ ?_
       · clear H
         have H := H13
         clear H13
         iterate 4 refine sp ?_
         obtain ⟨x50, h20, H⟩ := bnd H
         refine sn (nm_bool h20) ?_
         refine sp ?_
         refine ws 124 H (fun hb16 H => ?_) fun hb16 H => ?_
         · iterate 2 refine sp ?_
           obtain ⟨x51, h21, H⟩ := bnd H
           iterate 3 refine sp ?_
           refine ws 129 H (fun hb17 H => ?_) fun hb17 H => ?_
           · iterate 6 refine sp ?_
             refine WPL.nilW ?_
             have q0 := j1 H
             subst q0
             exact wq [0, 1, 2]
           iterate 2 refine sp ?_
           obtain ⟨x52, h22, H⟩ := bnd H
           iterate 4 refine sp ?_
           refine WPL.nilW ?_
           have q0 := j1 H
           subst q0
           exact wq [0, 1, 2]
         iterate 11 refine sp ?_
         refine WPL.nilW ?_
         have q0 := j1 H
         subst q0
         exact wq [0, 1, 2]
       iterate 2 refine sp ?_
       refine cd H (fun hb18 H => ?_) fun hb18 H => ?_
       · iterate 2 refine sp ?_
         obtain ⟨x53, h23, H⟩ := bnd H
         refine sn (nm_int h23) ?_
         refine sp ?_
         refine WPL.nilW ?_
         have q0 := j1 H
         subst q0
         exact wq [0, 1, 2]
       refine sp ?_
       have q0 := j1 H
       subst q0
       exact wq [0, 1, 2]
     iterate 9 refine sp ?_
     refine WP.seq ?_
     refine sp ?_
     refine WP.cv (Cv.weak (E' := (((((((((Env.none.upd 0 (.lit (.string x1))).upd 2 (.ptr 0 0)).upd 4 (.ptr 1 0)).upd 5 (.lit (.int .i64 x48))).upd 6 (.lit (.bool x6))).upd 7 (.whole 2)).upd 8 (.lit (.int .i64 x48))).upd 9 (.lit (.bool x45))).upd 10 (.lit (.int .i64 0)))) (M' := (((Mem.nil.push (.cells 23 [.lit (.int .i64 0), .lit (.int .i64 0)])).push (.cells 81 [.lit (.bool false), .lit (.slice none 0 0), .lit (.int .i64 x21)])).push (.row 3 (Rd.int .i64) x22))) [0, 1, 2] hnp ⟨rfl, AA3, by decide, rfl, trivial⟩ (LeE.u (LeE.u (LeE.u (LeE.u (LeE.u (LeE.u (LeE.u (LeE.u (LeE.u (LeE.none rfl rfl))))))))))) ?_
     obtain ⟨y3, H14, H⟩ := bnd H
     refine WP.monoW (Q := fun x E M => match (generalizing := false) y3 with | (Sum.inl _) => x = .ret ∧ E = ((Env.none.upd 2 (.ptr 0 0)).upd 3 (.lit (.int .i64 40))) ∧ M = (Mem.nil.push (.cells 23 [.lit (.int .i64 0), .lit (.int .i64 0)])) | (Sum.inr (x54, x55)) => x = .exit 4 ∧ E = (((((((((Env.none.upd 0 (.lit (.string x1))).upd 2 (.ptr 0 0)).upd 4 (.ptr 1 0)).upd 5 (.lit (.int .i64 x54))).upd 6 (.lit (.bool x6))).upd 7 (.whole 2)).upd 8 (.lit (.int .i64 x48))).upd 9 (.lit (.bool x45))).upd 10 (.lit (.int .i64 x55))) ∧ M = (((Mem.nil.push (.cells 23 [.lit (.int .i64 0), .lit (.int .i64 0)])).push (.cells 81 [.lit (.bool false), .lit (.slice none 0 0), .lit (.int .i64 x21)])).push (.row 3 (Rd.int .i64) x22))) ?_ ?_
     · refine WP.loop (β := Int × Int) (fun n b => g_r9_Parse_l2 k x1 x48 n b.1 b.2 = some y3) (fun b => (((((((((Env.none.upd 0 (.lit (.string x1))).upd 2 (.ptr 0 0)).upd 4 (.ptr 1 0)).upd 5 (.lit (.int .i64 b.1))).upd 6 (.lit (.bool x6))).upd 7 (.whole 2)).upd 8 (.lit (.int .i64 x48))).upd 9 (.lit (.bool x45))).upd 10 (.lit (.int .i64 b.2)))) (fun b => (((Mem.nil.push (.cells 23 [.lit (.int .i64 0), .lit (.int .i64 0)])).push (.cells 81 [.lit (.bool false), .lit (.slice none 0 0), .lit (.int .i64 x21)])).push (.row 3 (Rd.int .i64) x22))) k (x48, 0) H14 rfl rfl ?_
       rintro n ⟨x56, x57⟩ H
       obtain _ | n := n
       · exact nf rfl H
       rw [g_r9_Parse_l2.eq_2] at H
       show WP _ _ _ _ (((((((((Env.none.upd 0 (.lit (.string x1))).upd 2 (.ptr 0 0)).upd 4 (.ptr 1 0)).upd 5 (.lit (.int .i64 x56))).upd 6 (.lit (.bool x6))).upd 7 (.whole 2)).upd 8 (.lit (.int .i64 x48))).upd 9 (.lit (.bool x45))).upd 10 (.lit (.int .i64 x57))) (((Mem.nil.push (.cells 23 [.lit (.int .i64 0), .lit (.int .i64 0)])).push (.cells 81 [.lit (.bool false), .lit (.slice none 0 0), .lit (.int .i64 x21)])).push (.row 3 (Rd.int .i64) x22)) _
       refine WP.seq ?_
       refine WP.seq ?_
       obtain ⟨x58, H15, H⟩ := bnd H
       refine mo .normal ((((((((((Env.none.upd 0 (.lit (.string x1))).upd 2 (.ptr 0 0)).upd 4 (.ptr 1 0)).upd 5 (.lit (.int .i64 x56))).upd 6 (.lit (.bool x6))).upd 7 (.whole 2)).upd 8 (.lit (.int .i64 x48))).upd 9 (.lit (.bool x45))).upd 10 (.lit (.int .i64 x57))).upd 148 (.lit (.bool x58))) (((Mem.nil.push (.cells 23 [.lit (.int .i64 0), .lit (.int .i64 0)])).push (.cells 81 [.lit (.bool false), .lit (.slice none 0 0), .lit (.int .i64 x21)])).push (.row 3 (Rd.int .i64) x22)) ?_ ?_
       · clear H
         have H := H15
         clear H15
         iterate 4 refine sp ?_
         obtain ⟨x59, h24, H⟩ := bnd H
         refine sn (nm_bool h24) ?_
         refine sp ?_
         refine ws 143 H (fun hb19 H => ?_) fun hb19 H => ?_
         · iterate 2 refine sp ?_
           obtain ⟨x60, h25, H⟩ := bnd H
           refine sp ?_
           obtain ⟨x61, h25, H⟩ := bnd H
           refine WPL.cg rfl rfl (lb hb19) (rc [] [] 3 [] (s_r9_digit k x60 x61 h25)) rfl ?_
           refine sp ?_
           refine WPL.nilW ?_
           have q0 := j1 H
           subst q0
           exact wq [0, 1, 2]
         iterate 5 refine sp ?_
         refine WPL.nilW ?_
         have q0 := j1 H
         subst q0
         exact wq [0, 1, 2]
       iterate 2 refine sp ?_
       refine cd H (fun hb20 H => ?_) fun hb20 H => ?_
       · iterate 9 refine sp ?_
         obtain ⟨x62, h26, H⟩ := bnd H
         iterate 2 refine sp ?_
         obtain ⟨x63, h27, H⟩ := bnd H
         refine sn (nm_int h27) ?_
         obtain ⟨x64, h28, H⟩ := bnd H
         refine sn (nm_int h28) ?_
         iterate 10 refine sp ?_
         obtain ⟨x65, h29, H⟩ := bnd H
         refine sn (nm_int h29) ?_
         iterate 2 refine sp ?_
         refine cd H (fun hb21 H => ?_) fun hb21 H => ?_
         · iterate 6 refine sp ?_
           have q0 := j1 H
           subst q0
           exact wq [0] (InBlock.r (Then.r r3))
         refine sp ?_
         exact wq [0, 1, 2] (InBlock.n (Then.n ⟨n, ((IntKind.wrap .i64 (x56 + 1)), x64), Nat.lt_succ_self n, H, rfl, rfl⟩))
       refine sp ?_
       have q0 := j1 H
       subst q0
       exact wq [0, 1, 2] (Then.x (Then.x r3))
     rcases y3 with _ | ⟨x54, x55⟩
     · rintro _ _ _ ⟨rfl, rfl, rfl⟩
       have q0 := j1 H
       subst q0
       exact wq [0] (InBlock.r (Then.r r3))
     rintro _ _ _ ⟨rfl, rfl, rfl⟩
     iterate 3 refine sp ?_
     refine WP.seq ?_
     iterate 5 refine sp ?_
     refine cd H (fun hb22 H => ?_) fun hb22 H => ?_
     · iterate 6 refine sp ?_
       have q0 := j1 H
       subst q0
       exact wq [0] (Then.r r3)
     iterate 3 refine sp ?_
     refine WP.seq ?_
     obtain ⟨x66, H16, H⟩ := bnd H
     refine mo .normal (((((((Env.none.upd 0 (.lit (.string x1))).upd 2 (.ptr 0 0)).upd 4 (.ptr 1 0)).upd 5 (.lit (.int .i64 x54))).upd 6 (.lit (.bool x6))).upd 7 (.whole 2)).upd 10 (.lit (.int .i64 x66))) (((Mem.nil.push (.cells 23 [.lit (.int .i64 0), .lit (.int .i64 0)])).push (.cells 81 [.lit (.bool false), .lit (.slice none 0 0), .lit (.int .i64 x21)])).push (.row 3 (Rd.int .i64) x22)) ?_ ?_
     · clear H
       have H := H16
       clear H16
       iterate 3 refine sp ?_
       refine cd H (fun hb23 H => ?_) fun hb23 H => ?_
       · iterate 4 refine sp ?_
         refine WPL.nilW ?_
         have q0 := j1 H
         subst q0
         exact wq [0, 1, 2]
       refine sp ?_
       have q0 := j1 H
       subst q0
       exact wq [0, 1, 2]
     iterate 9 refine sp ?_
     refine WPL.nilW ?_
     have q0 := j1 H
     subst q0
     exact wq [0, 1, 2]
   refine sp ?_
   have q0 := j1 H
   subst q0
   exact wq [0, 1, 2]
 rcases y2 with _ | ⟨x39, x40⟩
 · rintro _ _ _ ⟨rfl, rfl, rfl⟩
   obtain ⟨rfl, rfl, rfl⟩ := j3 H
   exact W.now (Then.r (mb [0]))
 rintro _ _ _ ⟨rfl, rfl, rfl⟩
 iterate 2 refine sp ?_
 refine WP.seq ?_
 iterate 4 refine sp ?_
 obtain ⟨x67, h30, H⟩ := bnd H
 refine sn (nm_bool h30) ?_
 refine sp ?_
 refine cd H (fun hb24 H => ?_) fun hb24 H => ?_
 · iterate 6 refine sp ?_
   obtain ⟨rfl, rfl, rfl⟩ := j3 H
   exact W.now (Then.r (mb [0]))
 iterate 3 refine sp ?_
 refine WP.seq ?_
 iterate 3 refine sp ?_
 obtain ⟨x68, h31, H⟩ := bnd H
 refine sn (nm_int h31) ?_
 iterate 3 refine sp ?_
 refine WP.cv (Cv.virC 3 (Rd.int .i64) (N := 3) rfl rfl (i := 1) (off := 1) rfl rfl) ?_
 refine WP.cv (Cv.weak (E' := (((((Env.none.upd 2 (.ptr 0 0)).upd 4 (.ptr 1 0)).upd 6 (.lit (.bool x6))).upd 7 (.whole 3)).upd 11 (.lit (.int .i64 x68)))) (M' := ((((Mem.nil.push (.cells 23 [.lit (.int .i64 0), .lit (.int .i64 0)])).push (.cells 81 [.lit (.bool false), .whole 2, .lit (.int .i64 x40)])).push (.row 3 (Rd.int .i64) ([] : List Int))).push (.row 3 (Rd.int .i64) x22))) [0, 1, 3, 2] hnp ⟨rfl, AA4, by decide, rfl, trivial⟩ (LeE.u (LeE.u (LeE.u (LeE.u (LeE.u (LeE.none rfl rfl))))))) ?_
 obtain ⟨x69, H17, H⟩ := bnd H
 refine mo (.exit 6) (((Env.none.upd 2 (.ptr 0 0)).upd 4 (.ptr 1 0)).upd 6 (.lit (.bool x6))) (((Mem.nil.push (.cells 23 [.lit (.int .i64 0), .lit (.int .i64 0)])).push (.cells 81 [.lit (.bool false), .whole 2, .lit (.int .i64 x40)])).push (.row 3 (Rd.int .i64) x69)) ?_ ?_
 · refine WP.loop (β := Int × (List Int)) (fun n b => g_r9_Parse_l3 k x22 n b.1 b.2 = some x69) (fun b => (((((Env.none.upd 2 (.ptr 0 0)).upd 4 (.ptr 1 0)).upd 6 (.lit (.bool x6))).upd 7 (.whole 3)).upd 11 (.lit (.int .i64 b.1)))) (fun b => ((((Mem.nil.push (.cells 23 [.lit (.int .i64 0), .lit (.int .i64 0)])).push (.cells 81 [.lit (.bool false), .whole 2, .lit (.int .i64 x40)])).push (.row 3 (Rd.int .i64) b.2)).push (.row 3 (Rd.int .i64) x22))) k (x68, ([] : List Int)) H17 rfl rfl ?_
   rintro n ⟨x70, x71⟩ H
   obtain _ | n := n
   · exact nf rfl H
   rw [g_r9_Parse_l3.eq_2] at H
   show WP _ _ _ _ (((((Env.none.upd 2 (.ptr 0 0)).upd 4 (.ptr 1 0)).upd 6 (.lit (.bool x6))).upd 7 (.whole 3)).upd 11 (.lit (.int .i64 x70))) ((((Mem.nil.push (.cells 23 [.lit (.int .i64 0), .lit (.int .i64 0)])).push (.cells 81 [.lit (.bool false), .whole 2, .lit (.int .i64 x40)])).push (.row 3 (Rd.int .i64) x71)).push (.row 3 (Rd.int .i64) x22)) _
   refine WP.seq ?_
   iterate 4 refine sp ?_
   refine cd H (fun hb25 H => ?_) fun hb25 H => ?_
   · iterate 3 refine sp ?_
     refine WP.seq ?_
     refine sp ?_
     refine WP.regionD' 12 [1, 3] [11] mixed rfl ?_
     refine dT 0 ?_
     refine dT 1 ?_
     refine dT 3 ?_
     refine dT 4 ?_
     obtain ⟨x72, h32, H⟩ := bnd H
     refine WPD.tT 5 rfl (q_index_row sl76 rfl rfl rfl (ixs h32)) ?_
     refine dK 2 ?_
     refine WPD.take 6 rfl (by kernel_rfl) (q_load_row (j := (Int.toNat x70)) sc3 rfl rfl (ixj h32)) rfl rfl ?_
     refine dE 7 [1, 3] [11] rfl (Does.runs (d_buildSlice (ds := ([x72] : List Int)) (R := (Rd.int .i64)) li76 rfl rfl rfl rfl rfl (JoinRows.cons1 Joins.sc rfl JoinRows.nil) rfl rfl)) ?_
     obtain ⟨h32, H⟩ := grd H
     refine dE 8 [1, 3] [11] rfl (Does.runs (d_append ap76 rfl rfl rfl rfl (src_row sl76 rfl rfl) h32 rfl)) ?_
     refine dT 9 ?_
     refine dT 10 ?_
     refine dS 11 [] [] ?_
     refine WPD.doneW (by kernel_rfl) ?_
     refine sp ?_
     refine InBlock.n ?_
     iterate 5 refine sp ?_
     refine WPL.nilW ?_
     exact wq [0, 1, 5, 3] (Then.n ⟨n, ((IntKind.wrap .i64 (x70 - 1)), (x71 ++ ([x72] : List Int))), Nat.lt_succ_self n, H, rfl, rfl⟩)
   refine sp ?_
   have q0 := j1 H
   subst q0
   exact wq [0, 1, 2] (Then.x (Then.x r3))
 iterate 12 refine sp ?_
 obtain ⟨⟨x73, x74⟩, h33, H⟩ := bnd H
 refine WPL.c (rc [2] [3] 4 [] (s_r9_trim__b k x6 x69 x73 x74 h33)) rfl ?_
 iterate 5 refine sp ?_
 obtain ⟨⟨x75, x76, x77⟩, h34, H⟩ := bnd H
 refine WPL.c (rc [] [4] 5 [] (s_r9_Tell k x73 x74 x40 x75 x76 x77 h34)) rfl ?_
 iterate 6 refine sp ?_
 obtain ⟨rfl, rfl, rfl⟩ := j3 H
 exact W.now (mb [0])
end Go.Proofs.YthpcgknknpjpdaaGreatDoor.W
namespace Go.Proofs.YthpcgknknpjpdaaGreatDoor.W
open Go Go.Q Go.Proofs
set_option linter.unusedVariables false
set_option linter.unusedSimpArgs false
set_option maxRecDepth 100000
set_option maxHeartbeats 4000000
theorem s_val_Right (k : Nat) (x1 : Int) (x2 : Int) (x3 : Int) (x4 : ByteArray) (x5 : Bool) (x6 : Int) (x7 : Bool) (H : g_val_Right k x1 x2 x3 x4 x5 x6 = some x7) : Go.Q.Spec Tryz.prog 25 0 [.agg [.lit (.int .i64 x1), .lit (.int .i64 x2), .lit (.int .i64 x3), .lit (.string x4), .lit (.bool x5), .lit (.int .i64 x6)]] Mem.nil (fun o M => o = .ret (.lit (.bool x7)) ∧ M = Mem.nil) := by
 unfold g_val_Right at H
 refine bo Tryz.func25 [] [.tmp 2] 46 fun cx hnp => ?_
 iterate 4 refine sp ?_
 refine WP.seq ?_
 iterate 5 refine sp ?_
 refine WP.seq ?_
 obtain ⟨x8, H1, H⟩ := bnd H
 refine mo .normal (((Env.none.upd 1 (.ptr 0 0)).upd 4 (.lit (.int .i64 x1))).upd 5 (.lit (.bool x8))) (Mem.nil.push (.cells 29 [.lit (.int .i64 x1), .lit (.int .i64 x2), .lit (.int .i64 x3), .lit (.string x4), .lit (.bool x5), .lit (.int .i64 x6)])) ?_ ?_
 · clear H
   have H := H1
   clear H1
   iterate 4 refine sp ?_
   refine cd H (fun hb1 H => ?_) fun hb1 H => ?_
   · refine sp ?_
     have q0 := j1 H
     subst q0
     exact wq [0]
   iterate 3 refine sp ?_
   refine WPL.nilW ?_
   have q0 := j1 H
   subst q0
   exact wq [0]
 iterate 2 refine sp ?_
 refine cd H (fun hb2 H => ?_) fun hb2 H => ?_
 · refine WP.seq ?_
   obtain ⟨x9, H2, H⟩ := bnd H
   refine mo .normal (Env.none.upd 2 (.lit (.bool x9))) Mem.nil ?_ ?_
   · clear H
     have H := H2
     clear H2
     iterate 7 refine sp ?_
     refine ws 13 H (fun hb3 H => ?_) fun hb3 H => ?_
     · iterate 5 refine sp ?_
       obtain ⟨x10, h1, H⟩ := bnd H
       refine WPL.qq (q_nm (q_eqlAg (xs := [(.int .i64 x1), (.int .i64 x2), (.int .i64 x3), (.string x4), (.bool x5), (.int .i64 x6)]) (ys := [(.int .i64 x1), (.int .i64 0), (.int .i64 0), (.string (ByteArray.mk #[])), (.bool (decide (x1 = 3))), (.int .i64 0)]) (n := 9) rfl eg29 rfl rfl eq29) (nm_bool h1)) ?_
       refine sp ?_
       refine WPL.nilW ?_
       have q0 := j1 H
       subst q0
       exact wq []
     iterate 5 refine sp ?_
     obtain ⟨x11, h2, H⟩ := bnd H
     refine WPL.qq (q_nm (q_eqlAg (xs := [(.int .i64 x1), (.int .i64 x2), (.int .i64 x3), (.string x4), (.bool x5), (.int .i64 x6)]) (ys := [(.int .i64 x1), (.int .i64 0), (.int .i64 0), (.string (ByteArray.mk #[])), (.bool false), (.int .i64 0)]) (n := 9) rfl eg29 rfl rfl eq29) (nm_bool h2)) ?_
     refine sp ?_
     refine WPL.nilW ?_
     have q0 := j1 H
     subst q0
     exact wq []
   iterate 3 refine sp ?_
   have q0 := j1 H
   subst q0
   exact W.now (InBlock.r (Then.r (mb [])))
 iterate 4 refine sp ?_
 refine cd H (fun hb4 H => ?_) fun hb4 H => ?_
 · refine WP.seq ?_
   obtain ⟨x12, H3, H⟩ := bnd H
   refine mo .normal (Env.none.upd 2 (.lit (.bool x12))) Mem.nil ?_ ?_
   · clear H
     have H := H3
     clear H3
     iterate 3 refine sp ?_
     obtain ⟨x13, h3, H⟩ := bnd H
     refine WPL.c (rc [] [] 1 [] (s_dec_Right k x2 x3 x13 h3)) rfl ?_
     refine sp ?_
     refine ws 25 H (fun hb5 H => ?_) fun hb5 H => ?_
     · iterate 4 refine sp ?_
       obtain ⟨x14, h4, H⟩ := bnd H
       refine WPL.gq rfl (lb hb5) (q_nm (q_eqlAg (xs := [(.int .i64 x1), (.int .i64 x2), (.int .i64 x3), (.string x4), (.bool x5), (.int .i64 x6)]) (ys := [(.int .i64 1), (.int .i64 x2), (.int .i64 x3), (.string (ByteArray.mk #[])), (.bool false), (.int .i64 0)]) (n := 9) rfl eg29 rfl rfl eq29) (nm_bool h4)) ?_
       iterate 2 refine sp ?_
       refine WPL.nilW ?_
       have q0 := j1 H
       subst q0
       exact wq []
     iterate 7 refine sp ?_
     refine WPL.nilW ?_
     have q0 := j1 H
     subst q0
     exact wq []
   iterate 3 refine sp ?_
   have q0 := j1 H
   subst q0
   exact W.now (InBlock.r (Then.r (mb [])))
 iterate 4 refine sp ?_
 refine cd H (fun hb6 H => ?_) fun hb6 H => ?_
 · refine WP.seq ?_
   refine WP.regionD' 6 [0] [] mixed rfl ?_
   refine dT 1 ?_
   refine dK 0 ?_
   refine dK 2 ?_
   obtain ⟨⟨x15, x16, x17⟩, h5, H⟩ := bnd H
   refine dE 3 [0] [] rfl (rc [] [1] 2 [] (s_val_Str k x4 x15 x16 x17 h5)) ?_
   obtain ⟨x18, h6, H⟩ := bnd H
   refine WPD.tT 4 rfl (q_nm (q_eqlAg (xs := [(.int .i64 x1), (.int .i64 x2), (.int .i64 x3), (.string x4), (.bool x5), (.int .i64 x6)]) (ys := [(.int .i64 x15), (.int .i64 0), (.int .i64 0), (.string x16), (.bool false), (.int .i64 x17)]) (n := 9) rfl eg29 rfl rfl eq29) (nm_bool h6)) ?_
   refine dT 5 ?_
   refine WPD.doneW (by kernel_rfl) ?_
   iterate 3 refine sp ?_
   have q0 := j1 H
   subst q0
   exact W.now (InBlock.r (Then.r (mb [])))
 iterate 4 refine sp ?_
 refine cd H (fun hb7 H => ?_) fun hb7 H => ?_
 · refine WP.seq ?_
   refine WP.regionD' 6 [0] [] mixed rfl ?_
   refine dT 1 ?_
   refine dK 0 ?_
   refine dK 2 ?_
   obtain ⟨x19, h7, H⟩ := bnd H
   refine dE 3 [0] [] rfl (rc [] [1] 2 [] (s_val_Err k x6 x19 h7)) ?_
   obtain ⟨x20, h8, H⟩ := bnd H
   refine WPD.tT 4 rfl (q_nm (q_eqlAg (xs := [(.int .i64 x1), (.int .i64 x2), (.int .i64 x3), (.string x4), (.bool x5), (.int .i64 x6)]) (ys := [(.int .i64 4), (.int .i64 0), (.int .i64 0), (.string (ByteArray.mk #[])), (.bool false), (.int .i64 x19)]) (n := 9) rfl eg29 rfl rfl eq29) (nm_bool h8)) ?_
   refine dT 5 ?_
   refine WPD.doneW (by kernel_rfl) ?_
   iterate 3 refine sp ?_
   have q0 := j1 H
   subst q0
   exact W.now (InBlock.r (Then.r (mb [])))
 iterate 2 refine sp ?_
 refine InBlock.n ?_
 iterate 5 refine sp ?_
 have q0 := j1 H
 subst q0
 exact W.now (mb [])
theorem s_val_clean (k : Nat) (x1 : Int) (x2 : Int) (x3 : Int) (x4 : ByteArray) (x5 : Bool) (x6 : Int) (x7 : Int) (x8 : Int) (x9 : Int) (x10 : ByteArray) (x11 : Bool) (x12 : Int) (H : g_val_clean k x1 x2 x3 x4 x5 x6 = some (x7, x8, x9, x10, x11, x12)) : Go.Q.Spec Tryz.prog 53 0 [.agg [.lit (.int .i64 x1), .lit (.int .i64 x2), .lit (.int .i64 x3), .lit (.string x4), .lit (.bool x5), .lit (.int .i64 x6)]] Mem.nil (fun o M => o = .ret (.agg [.lit (.int .i64 x7), .lit (.int .i64 x8), .lit (.int .i64 x9), .lit (.string x10), .lit (.bool x11), .lit (.int .i64 x12)]) ∧ M = (Mem.nil.push (.cells 29 [.lit (.int .i64 x7), .lit (.int .i64 x8), .lit (.int .i64 x9), .lit (.string x10), .lit (.bool x11), .lit (.int .i64 x12)]))) := by
 unfold g_val_clean at H
 refine bo Tryz.func53 [(29, 6)] [.cell 2 29] 7 fun cx hnp => ?_
 iterate 4 refine sp ?_
 refine WP.seq ?_
 iterate 2 refine sp ?_
 obtain ⟨x13, h1, H⟩ := bnd H
 refine WPL.c (rc [] [] 2 [] (s_val_Right k x1 x2 x3 x4 x5 x6 x13 h1)) rfl ?_
 refine sp ?_
 refine cd H (fun hb1 H => ?_) fun hb1 H => ?_
 · iterate 5 refine sp ?_
   obtain ⟨rfl, rfl, rfl, rfl, rfl, rfl⟩ := j6 H
   exact W.now (Then.r (mb [1]))
 iterate 4 refine sp ?_
 obtain ⟨x14, h2, H⟩ := bnd H
 refine WPL.c (rc [] [2] 3 [] (s_val_Err k 2 x14 h2)) rfl ?_
 iterate 3 refine sp ?_
 obtain ⟨rfl, rfl, rfl, rfl, rfl, rfl⟩ := j6 H
 exact W.now (mb [1])
theorem s_st_Trim (k : Nat) (x1 : ByteArray) (x2 : ByteArray) (x3 : ByteArray) (H : g_st_Trim k x1 x2 = some x3) : Go.Q.Spec Tryz.prog 76 0 [.lit (.string x1), .lit (.string x2)] Mem.nil (fun o M => o = .ret (.lit (.string x3)) ∧ M = Mem.nil) := by
 unfold g_st_Trim at H
 refine bo Tryz.func76 [] [.tmp 4] 43 fun cx hnp => ?_
 iterate 3 refine sp ?_
 refine WP.seq ?_
 refine WP.seq ?_
 obtain ⟨x4, H1, H⟩ := bnd H
 refine mo .normal (((Env.none.upd 0 (.lit (.string x1))).upd 1 (.lit (.string x2))).upd 12 (.lit (.bool x4))) Mem.nil ?_ ?_
 · clear H
   have H := H1
   clear H1
   iterate 2 refine sp ?_
   obtain ⟨x5, h1, H⟩ := bnd H
   refine sn (nm_bool h1) ?_
   refine sp ?_
   refine ws 9 H (fun hb1 H => ?_) fun hb1 H => ?_
   · iterate 3 refine sp ?_
     refine WPL.nilW ?_
     have q0 := j1 H
     subst q0
     exact wq []
   refine sp ?_
   obtain ⟨x6, h2, H⟩ := bnd H
   refine sn (nm_bool h2) ?_
   refine sp ?_
   refine WPL.nilW ?_
   have q0 := j1 H
   subst q0
   exact wq []
 iterate 2 refine sp ?_
 refine cd H (fun hb2 H => ?_) fun hb2 H => ?_
 · iterate 5 refine sp ?_
   have q0 := j1 H
   subst q0
   exact W.now (Then.r (mb []))
 iterate 3 refine sp ?_
 refine WP.seq ?_
 refine WP.seq ?_
 obtain ⟨x7, H2, H⟩ := bnd H
 refine mo .normal (((Env.none.upd 0 (.lit (.string x1))).upd 1 (.lit (.string x2))).upd 21 (.lit (.bool x7))) Mem.nil ?_ ?_
 · clear H
   have H := H2
   clear H2
   iterate 3 refine sp ?_
   obtain ⟨x8, h3, H⟩ := bnd H
   refine sn (nm_bool h3) ?_
   refine sp ?_
   refine ws 17 H (fun hb3 H => ?_) fun hb3 H => ?_
   · refine sp ?_
     obtain ⟨x9, h4, H⟩ := bnd H
     iterate 3 refine sp ?_
     refine WPL.nilW ?_
     have q0 := j1 H
     subst q0
     exact wq []
   iterate 4 refine sp ?_
   refine WPL.nilW ?_
   have q0 := j1 H
   subst q0
   exact wq []
 iterate 2 refine sp ?_
 refine cd H (fun hb4 H => ?_) fun hb4 H => ?_
 · refine WP.seq ?_
   refine WP.regionD' 8 [] [] mixed rfl ?_
   refine dT 0 ?_
   refine dT 1 ?_
   obtain ⟨x10, h5, H⟩ := bnd H
   refine dT 2 ?_
   refine dT 4 ?_
   obtain ⟨x11, h6, H⟩ := bnd H
   refine dT 5 ?_
   obtain ⟨x12, h6, H⟩ := bnd H
   refine dE 3 [] [] rfl (rc [] [] 0 [] (s_st_trimRightByte k x1 x10 x12 h6)) ?_
   obtain ⟨x13, h7, H⟩ := bnd H
   refine dE 6 [] [] rfl (rc [] [] 0 [] (s_st_trimLeftByte k x12 x11 x13 h7)) ?_
   refine dT 7 ?_
   refine WPD.doneW (by kernel_rfl) ?_
   iterate 3 refine sp ?_
   have q0 := j1 H
   subst q0
   exact W.now (Then.r (mb []))
 iterate 3 refine sp ?_
 refine WP.seq ?_
 iterate 2 refine sp ?_
 exact nf rfl H
theorem s_val_Num (k : Nat) (x1 : Int) (x2 : Int) (x3 : Int) (x4 : ByteArray) (x5 : Bool) (x6 : Int) (x7 : Int) (x8 : Int) (x9 : Int) (x10 : ByteArray) (x11 : Bool) (x12 : Int) (H : g_val_Num k x1 x2 x3 x4 x5 x6 = some (x7, x8, x9, x10, x11, x12)) : Go.Q.Spec Tryz.prog 36 0 [.agg [.lit (.int .i64 x1), .lit (.int .i64 x2), .lit (.int .i64 x3), .lit (.string x4), .lit (.bool x5), .lit (.int .i64 x6)]] Mem.nil (fun o M => o = .ret (.agg [.lit (.int .i64 x7), .lit (.int .i64 x8), .lit (.int .i64 x9), .lit (.string x10), .lit (.bool x11), .lit (.int .i64 x12)]) ∧ M = (Mem.nil.push (.cells 29 [.lit (.int .i64 x7), .lit (.int .i64 x8), .lit (.int .i64 x9), .lit (.string x10), .lit (.bool x11), .lit (.int .i64 x12)]))) := by
 unfold g_val_Num at H
 refine bo Tryz.func36 [(29, 6)] [.cell 2 29] 36 fun cx hnp => ?_
 iterate 6 refine sp ?_
 obtain ⟨⟨x13, x14, x15, x16, x17, x18⟩, h1, H⟩ := bnd H
 refine WPL.c (rc [] [2] 3 [] (s_val_clean k x1 x2 x3 x4 x5 x6 x13 x14 x15 x16 x17 x18 h1)) rfl ?_
 iterate 7 refine sp ?_
 refine WP.seq ?_
 iterate 5 refine sp ?_
 refine WP.seq ?_
 refine sp ?_
 refine WP.seq ?_
 obtain ⟨y1, H1, H⟩ := bnd H
 refine WP.monoW (Q := fun x E M => match (generalizing := false) y1 with | (Sum.inl x19) => x = .normal ∧ E = ((Env.none.upd 2 (.ptr 0 0)).upd 3 (.ptr 1 0)) ∧ M = ((Mem.nil.push (.cells 29 [.lit (.int .i64 0), .lit (.int .i64 0), .lit (.int .i64 0), .lit (.string (ByteArray.mk #[])), .lit (.bool false), .lit (.int .i64 0)])).push (.cells 23 [.lit (.int .i64 x19), .lit (.int .i64 0)])) | (Sum.inr (Sum.inl _)) => x = .exit 3 ∧ E = ((Env.none.upd 1 (.ptr 0 0)).upd 2 (.ptr 1 0)) ∧ M = ((Mem.nil.push (.cells 29 [.lit (.int .i64 x13), .lit (.int .i64 x14), .lit (.int .i64 x15), .lit (.string x16), .lit (.bool x17), .lit (.int .i64 x18)])).push (.cells 29 [.lit (.int .i64 0), .lit (.int .i64 0), .lit (.int .i64 0), .lit (.string (ByteArray.mk #[])), .lit (.bool false), .lit (.int .i64 0)])) | (Sum.inr (Sum.inr _)) => x = .exit 0 ∧ E = ((Env.none.upd 1 (.ptr 0 0)).upd 2 (.ptr 1 0)) ∧ M = ((Mem.nil.push (.cells 29 [.lit (.int .i64 x13), .lit (.int .i64 x14), .lit (.int .i64 x15), .lit (.string x16), .lit (.bool x17), .lit (.int .i64 x18)])).push (.cells 29 [.lit (.int .i64 0), .lit (.int .i64 0), .lit (.int .i64 0), .lit (.string (ByteArray.mk #[])), .lit (.bool false), .lit (.int .i64 0)]))) ?_ ?_
 · clear H
   have H := H1
   clear H1
   refine sp ?_
   refine WP.seq ?_
   refine sp ?_
   refine WP.seq ?_
   refine WP.seq ?_
   iterate 4 refine sp ?_
   refine cd H (fun hb1 H => ?_) fun hb1 H => ?_
   · iterate 2 refine sp ?_
     refine Then.x ?_
     refine Then.x ?_
     iterate 6 refine sp ?_
     refine cd H (fun hb2 H => ?_) fun hb2 H => ?_
     · iterate 3 refine sp ?_
       refine WPL.nilW ?_
       have q0 := j1 H
       subst q0
       exact wq [1, 3] (InBlock.n r3)
     refine sp ?_
     have q0 := j1 H
     subst q0
     exact wq [1, 3] (InBlock.n r3)
   iterate 3 refine sp ?_
   refine WP.seq ?_
   iterate 4 refine sp ?_
   refine cd H (fun hb3 H => ?_) fun hb3 H => ?_
   · refine sp ?_
     have q0 := j1 H
     subst q0
     exact wq [1, 3] (Then.x (Then.x (InBlock.x rfl (Then.x (InBlock.x0 r3)))))
   iterate 7 refine sp ?_
   refine cd H (fun hb4 H => ?_) fun hb4 H => ?_
   · refine sp ?_
     have q0 := j1 H
     subst q0
     exact wq [0, 1] (Then.x (InBlock.x rfl (Then.x (InBlock.x rfl r3))))
   iterate 4 refine sp ?_
   have q0 := j1 H
   subst q0
   exact wq [0, 1] (InBlock.x rfl (Then.x (InBlock.x rfl r3)))
 rcases y1 with x19 | _ | _
 · rintro _ _ _ ⟨rfl, rfl, rfl⟩
   iterate 2 refine sp ?_
   refine WP.seq ?_
   iterate 2 refine sp ?_
   obtain ⟨⟨x20, x21, x22, x23⟩, h2, H⟩ := bnd H
   refine WPL.c (rc [] [2] 3 [] (s_val_Of k x19 0 0 x20 x21 x22 x23 h2)) rfl ?_
   iterate 3 refine sp ?_
   obtain ⟨rfl, rfl, rfl, rfl, rfl, rfl⟩ := j6 H
   exact W.now (Then.r (InBlock.r (Then.r (InBlock.r (Then.r (mb [0]))))))
 · rintro _ _ _ ⟨rfl, rfl, rfl⟩
   refine sp ?_
   refine Then.x ?_
   iterate 2 refine sp ?_
   refine WP.seq ?_
   iterate 3 refine sp ?_
   obtain ⟨x24, h3, H⟩ := bnd H
   refine WPL.c (rc [] [] 2 [] (s_st_Trim k x16 (ByteArray.mk #[32]) x24 h3)) rfl ?_
   obtain ⟨⟨x25, x26, x27⟩, h4, H⟩ := bnd H
   refine WPL.c (rc [] [2] 3 [] (s_dec_Parse k x24 x25 x26 x27 h4)) rfl ?_
   iterate 7 refine sp ?_
   refine WP.seq ?_
   iterate 4 refine sp ?_
   refine cd H (fun hb5 H => ?_) fun hb5 H => ?_
   · refine sp ?_
     obtain ⟨x28, h5, H⟩ := bnd H
     refine WPL.c (rc [] [4] 5 [] (s_val_Err k 2 x28 h5)) rfl ?_
     iterate 3 refine sp ?_
     obtain ⟨rfl, rfl, rfl, rfl, rfl, rfl⟩ := j6 H
     exact W.now (Then.r (Then.r (InBlock.r (Then.r (mb [1])))))
   iterate 6 refine sp ?_
   obtain ⟨⟨x29, x30, x31, x32⟩, h6, H⟩ := bnd H
   refine WPL.c (rc [] [4] 5 [] (s_val_Of k x26 x27 x25 x29 x30 x31 x32 h6)) rfl ?_
   iterate 3 refine sp ?_
   obtain ⟨rfl, rfl, rfl, rfl, rfl, rfl⟩ := j6 H
   exact W.now (Then.r (InBlock.r (Then.r (mb [1]))))
 rintro _ _ _ ⟨rfl, rfl, rfl⟩
 refine sp ?_
 refine Then.x ?_
 refine InBlock.x rfl ?_
 refine Then.x ?_
 iterate 7 refine sp ?_
 obtain ⟨rfl, rfl, rfl, rfl, rfl, rfl⟩ := j6 H
 exact W.now (mb [1])
theorem s_dec_clean (k : Nat) (x1 : Int) (x2 : Int) (x3 : Int) (x4 : Int) (x5 : Bool) (x6 : Int) (x7 : Int) (x8 : Int) (x9 : Int) (H : g_dec_clean k x1 x2 x3 x4 = some (x5, x6, x7, x8, x9)) : Go.Q.Spec Tryz.prog 99 3 [.sl 0 1 0 2] (((Mem.nil.push (.cells 96 [.ptr 1 0, .ptr 2 0])).push (.cells 23 [.lit (.int .i64 x1), .lit (.int .i64 x2)])).push (.cells 23 [.lit (.int .i64 x3), .lit (.int .i64 x4)])) (fun o M => o = .ret (.lit (.bool x5)) ∧ M = (((Mem.nil.push (.cells 96 [.ptr 1 0, .ptr 2 0])).push (.cells 23 [.lit (.int .i64 x6), .lit (.int .i64 x7)])).push (.cells 23 [.lit (.int .i64 x8), .lit (.int .i64 x9)]))) := by
 unfold g_dec_clean at H
 refine bo Tryz.func99 [] [.tmp 2] 28 fun cx hnp => ?_
 iterate 3 refine sp ?_
 refine WP.seq ?_
 iterate 2 refine sp ?_
 refine WPL.qq (q_len_sl (k := 2) sl144 rfl rfl) ?_
 iterate 3 refine sp ?_
 refine WP.loopU ?_
 refine WPI.round ?_
 iterate 3 refine sp ?_
 refine WP.seq ?_
 refine WP.condT rfl ?_
 iterate 3 refine sp ?_
 refine WP.seq ?_
 iterate 2 refine sp ?_
 refine WPL.qq (q_index_sl (o := 0) sl144 rfl rfl rfl rfl) ?_
 iterate 3 refine sp ?_
 refine WP.seq ?_
 iterate 4 refine sp ?_
 refine WPL.d (d_buildSlice (ds := ([(⟨x1, x2⟩ : S_api_Dec)] : List S_api_Dec)) (R := rdS_api_Dec) li130 rfl rfl rfl rfl rfl (JoinRows.cons (l := [.lit (.int .i64 x1), .lit (.int .i64 x2)]) (Joins.via (Joins.cons Joins.sc (Joins.cons Joins.sc Joins.unit))) rfl JoinRows.nil) rfl rfl) rfl ?_
 obtain ⟨x10, h1, H⟩ := bnd H
 refine WPL.c (rc [] [] 4 [3] (s_dec_ranged k ([(⟨x1, x2⟩ : S_api_Dec)] : List S_api_Dec) x10 h1)) rfl ?_
 iterate 2 refine sp ?_
 refine cd H (fun hb1 H => ?_) fun hb1 H => ?_
 · iterate 4 refine sp ?_
   obtain ⟨rfl, rfl, rfl, rfl, rfl⟩ := j5 H
   exact W.now (Then.r (InBlock.r (Then.r (Then.r (InBlock.r (Then.r (mb [0, 1, 2])))))))
 iterate 8 refine sp ?_
 obtain ⟨x11, h2, H⟩ := bnd H
 refine WPL.c (rc [] [4] 5 [] (s_dec_of k x1 x2 x11 h2)) rfl ?_
 obtain ⟨⟨x12, x13, x14⟩, h3, H⟩ := bnd H
 refine WPL.c (rc [] [5] 6 [] (s_dec_num_tell k (decide (x1 < 0)) 0 x11 x2 x12 x13 x14 h3)) rfl ?_
 iterate 5 refine sp ?_
 refine WPL.nilW ?_
 refine sp ?_
 refine InBlock.n ?_
 iterate 2 refine sp ?_
 refine WPL.qq (q_nm aq (fold_int (b := 1) (by decide))) ?_
 iterate 2 refine sp ?_
 refine WPI.round ?_
 iterate 3 refine sp ?_
 refine WP.seq ?_
 refine WP.condT rfl ?_
 iterate 3 refine sp ?_
 refine WP.seq ?_
 iterate 2 refine sp ?_
 refine WPL.qq (q_index_sl (o := 1) sl144 rfl rfl rfl rfl) ?_
 iterate 3 refine sp ?_
 refine WP.seq ?_
 iterate 4 refine sp ?_
 refine WPL.d (d_buildSlice (ds := ([(⟨x3, x4⟩ : S_api_Dec)] : List S_api_Dec)) (R := rdS_api_Dec) li130 rfl rfl rfl rfl rfl (JoinRows.cons (l := [.lit (.int .i64 x3), .lit (.int .i64 x4)]) (Joins.via (Joins.cons Joins.sc (Joins.cons Joins.sc Joins.unit))) rfl JoinRows.nil) rfl rfl) rfl ?_
 obtain ⟨x15, h4, H⟩ := bnd H
 refine WPL.c (rc [] [] 7 [6] (s_dec_ranged k ([(⟨x3, x4⟩ : S_api_Dec)] : List S_api_Dec) x15 h4)) rfl ?_
 iterate 2 refine sp ?_
 refine cd H (fun hb2 H => ?_) fun hb2 H => ?_
 · iterate 4 refine sp ?_
   obtain ⟨rfl, rfl, rfl, rfl, rfl⟩ := j5 H
   exact W.now (Then.r (InBlock.r (Then.r (Then.r (InBlock.r (Then.r (mb [0, 1, 2])))))))
 iterate 8 refine sp ?_
 obtain ⟨x16, h5, H⟩ := bnd H
 refine WPL.c (rc [] [7] 8 [] (s_dec_of k x3 x4 x16 h5)) rfl ?_
 obtain ⟨⟨x17, x18, x19⟩, h6, H⟩ := bnd H
 refine WPL.c (rc [] [8] 9 [] (s_dec_num_tell k (decide (x3 < 0)) 0 x16 x4 x17 x18 x19 h6)) rfl ?_
 iterate 5 refine sp ?_
 refine WPL.nilW ?_
 refine sp ?_
 refine InBlock.n ?_
 iterate 2 refine sp ?_
 refine WPL.qq (q_nm aq (fold_int (b := 2) (by decide))) ?_
 iterate 2 refine sp ?_
 refine WPI.round ?_
 iterate 3 refine sp ?_
 refine WP.seq ?_
 refine WP.condF rfl ?_
 iterate 2 refine sp ?_
 refine Then.x ?_
 refine Then.x ?_
 iterate 6 refine sp ?_
 obtain ⟨rfl, rfl, rfl, rfl, rfl⟩ := j5 H
 exact W.now (mb [0, 1, 2])
end Go.Proofs.YthpcgknknpjpdaaGreatDoor.W
namespace Go.Proofs.YthpcgknknpjpdaaGreatDoor.W
open Go Go.Q Go.Proofs
set_option linter.unusedVariables false
set_option linter.unusedSimpArgs false
set_option maxRecDepth 100000
set_option maxHeartbeats 4000000
theorem s_dec_even (k : Nat) (x1 : Int) (x2 : Int) (x3 : Int) (x4 : Int) (x5 : Bool) (x6 : Int) (x7 : Int) (x8 : Int) (x9 : Int) (x10 : Int) (x11 : Int) (H : g_dec_even k x1 x2 x3 x4 = some (x5, x6, x7, x8, x9, x10, x11)) : Go.Q.Spec Tryz.prog 103 0 [.agg [.lit (.int .i64 x1), .lit (.int .i64 x2)], .agg [.lit (.int .i64 x3), .lit (.int .i64 x4)]] Mem.nil (fun o M => o = .ret (.tup [.agg [.lit (.bool (decide (x1 < 0))), .lit (.int .u64 x6), .lit (.int .u64 x7), .lit (.int .i64 x8)], .agg [.lit (.bool (decide (x3 < 0))), .lit (.int .u64 x9), .lit (.int .u64 x10), .lit (.int .i64 x11)], .lit (.bool x5)]) ∧ M = ((Mem.nil.push (.cells 71 [.lit (.bool (decide (x1 < 0))), .lit (.int .u64 x6), .lit (.int .u64 x7), .lit (.int .i64 x8)])).push (.cells 71 [.lit (.bool (decide (x3 < 0))), .lit (.int .u64 x9), .lit (.int .u64 x10), .lit (.int .i64 x11)]))) := by
 unfold g_dec_even at H
 refine Go.Q.Spec.of_bodyR (az := [(71, 4)]) (rs := [.cell 4 71, .cell 5 71, .tmp 6]) (nt := 73) Tryz.func103 rfl rfl (by intro t T h; simp at h; rcases h with ⟨rfl, rfl⟩ | ⟨rfl, rfl⟩ <;> first | exact ag71 | exact ag71) rfl rfl fun cx hnp => ?_
 iterate 7 refine sp ?_
 refine WP.seq ?_
 obtain ⟨⟨x12, x13⟩, H1, H⟩ := bnd H
 refine mo .normal ((((Env.none.upd 4 (.ptr 0 0)).upd 5 (.ptr 1 0)).upd 7 (.ptr 2 0)).upd 8 (.ptr 3 0)) ((((Mem.nil.push (.cells 71 [.lit (.bool false), .lit (.int .u64 0), .lit (.int .u64 0), .lit (.int .i64 0)])).push (.cells 71 [.lit (.bool false), .lit (.int .u64 0), .lit (.int .u64 0), .lit (.int .i64 0)])).push (.cells 71 [.lit (.bool (decide (x1 < 0))), .lit (.int .u64 0), .lit (.int .u64 x12), .lit (.int .i64 x2)])).push (.cells 71 [.lit (.bool (decide (x3 < 0))), .lit (.int .u64 0), .lit (.int .u64 x13), .lit (.int .i64 x4)])) ?_ ?_
 · clear H
   have H := H1
   clear H1
   refine WP.regionD' 8 [0, 1] [] mixed rfl ?_
   refine dK 0 ?_
   refine dK 2 ?_
   refine WPD.of3 1 4 5 (by kernel_rfl) ?_ ?_ ?_
   · obtain ⟨x14, h1, H⟩ := bnd H
     refine WPD1.eff 1 [0, 1] [] rfl (rc [] [4] 5 [] (s_dec_of k x1 x2 x14 h1)) rfl rfl ?_
     refine WPD.of3 3 4 5 (by kernel_rfl) ?_ ?_ ?_
     · obtain ⟨x15, h2, H⟩ := bnd H
       refine WPD1.eff 3 [0, 1] [] rfl (rc [] [5] 6 [] (s_dec_of k x3 x4 x15 h2)) rfl rfl ?_
       refine WPD.of2 4 5 (by kernel_rfl) ?_ ?_
       · refine WPD1.eff 4 [0, 1] [] rfl (Does.runs (d_alloc ze71 rfl)) rfl rfl ?_
         refine dE 5 [0, 1] [] rfl (Does.runs (d_alloc ze71 rfl)) ?_
         refine dS 6 [0, 1] [] ?_
         refine dS 7 [0, 1] [] ?_
         refine WPD.doneW (by kernel_rfl) ?_
         obtain ⟨rfl, rfl⟩ := j2 H
         exact wq [2, 3, 6, 7]
       refine WPD1.eff 5 [0, 1] [] rfl (Does.runs (d_alloc ze71 rfl)) rfl rfl ?_
       refine dE 4 [0, 1] [] rfl (Does.runs (d_alloc ze71 rfl)) ?_
       refine dS 6 [0, 1] [] ?_
       refine dS 7 [0, 1] [] ?_
       refine WPD.doneW (by kernel_rfl) ?_
       obtain ⟨rfl, rfl⟩ := j2 H
       exact wq [2, 3, 7, 6]
     · refine WPD1.eff 4 [0, 1] [] rfl (Does.runs (d_alloc ze71 rfl)) rfl rfl ?_
       refine WPD.of2 3 5 (by kernel_rfl) ?_ ?_
       · obtain ⟨x16, h3, H⟩ := bnd H
         refine WPD1.eff 3 [0, 1] [] rfl (rc [] [6] 7 [] (s_dec_of k x3 x4 x16 h3)) rfl rfl ?_
         refine dE 5 [0, 1] [] rfl (Does.runs (d_alloc ze71 rfl)) ?_
         refine dS 6 [0, 1] [] ?_
         refine dS 7 [0, 1] [] ?_
         refine WPD.doneW (by kernel_rfl) ?_
         obtain ⟨rfl, rfl⟩ := j2 H
         exact wq [2, 3, 5, 7]
       refine WPD1.eff 5 [0, 1] [] rfl (Does.runs (d_alloc ze71 rfl)) rfl rfl ?_
       obtain ⟨x17, h4, H⟩ := bnd H
       refine dE 3 [0, 1] [] rfl (rc [] [7] 8 [] (s_dec_of k x3 x4 x17 h4)) ?_
       refine dS 6 [0, 1] [] ?_
       refine dS 7 [0, 1] [] ?_
       refine WPD.doneW (by kernel_rfl) ?_
       obtain ⟨rfl, rfl⟩ := j2 H
       exact wq [2, 3, 5, 6]
     refine WPD1.eff 5 [0, 1] [] rfl (Does.runs (d_alloc ze71 rfl)) rfl rfl ?_
     refine WPD.of2 3 4 (by kernel_rfl) ?_ ?_
     · obtain ⟨x18, h5, H⟩ := bnd H
       refine WPD1.eff 3 [0, 1] [] rfl (rc [] [6] 7 [] (s_dec_of k x3 x4 x18 h5)) rfl rfl ?_
       refine dE 4 [0, 1] [] rfl (Does.runs (d_alloc ze71 rfl)) ?_
       refine dS 6 [0, 1] [] ?_
       refine dS 7 [0, 1] [] ?_
       refine WPD.doneW (by kernel_rfl) ?_
       obtain ⟨rfl, rfl⟩ := j2 H
       exact wq [2, 3, 7, 5]
     refine WPD1.eff 4 [0, 1] [] rfl (Does.runs (d_alloc ze71 rfl)) rfl rfl ?_
     obtain ⟨x19, h6, H⟩ := bnd H
     refine dE 3 [0, 1] [] rfl (rc [] [7] 8 [] (s_dec_of k x3 x4 x19 h6)) ?_
     refine dS 6 [0, 1] [] ?_
     refine dS 7 [0, 1] [] ?_
     refine WPD.doneW (by kernel_rfl) ?_
     obtain ⟨rfl, rfl⟩ := j2 H
     exact wq [2, 3, 6, 5]
   · refine WPD1.eff 4 [0, 1] [] rfl (Does.runs (d_alloc ze71 rfl)) rfl rfl ?_
     refine WPD.of2 1 5 (by kernel_rfl) ?_ ?_
     · obtain ⟨x20, h7, H⟩ := bnd H
       refine WPD1.eff 1 [0, 1] [] rfl (rc [] [5] 6 [] (s_dec_of k x1 x2 x20 h7)) rfl rfl ?_
       refine WPD.of2 3 5 (by kernel_rfl) ?_ ?_
       · obtain ⟨x21, h8, H⟩ := bnd H
         refine WPD1.eff 3 [0, 1] [] rfl (rc [] [6] 7 [] (s_dec_of k x3 x4 x21 h8)) rfl rfl ?_
         refine dE 5 [0, 1] [] rfl (Does.runs (d_alloc ze71 rfl)) ?_
         refine dS 6 [0, 1] [] ?_
         refine dS 7 [0, 1] [] ?_
         refine WPD.doneW (by kernel_rfl) ?_
         obtain ⟨rfl, rfl⟩ := j2 H
         exact wq [2, 3, 4, 7]
       refine WPD1.eff 5 [0, 1] [] rfl (Does.runs (d_alloc ze71 rfl)) rfl rfl ?_
       obtain ⟨x22, h9, H⟩ := bnd H
       refine dE 3 [0, 1] [] rfl (rc [] [7] 8 [] (s_dec_of k x3 x4 x22 h9)) ?_
       refine dS 6 [0, 1] [] ?_
       refine dS 7 [0, 1] [] ?_
       refine WPD.doneW (by kernel_rfl) ?_
       obtain ⟨rfl, rfl⟩ := j2 H
       exact wq [2, 3, 4, 6]
     refine WPD1.eff 5 [0, 1] [] rfl (Does.runs (d_alloc ze71 rfl)) rfl rfl ?_
     obtain ⟨x23, h10, H⟩ := bnd H
     refine dE 1 [0, 1] [] rfl (rc [] [6] 7 [] (s_dec_of k x1 x2 x23 h10)) ?_
     obtain ⟨x24, h11, H⟩ := bnd H
     refine dE 3 [0, 1] [] rfl (rc [] [7] 8 [] (s_dec_of k x3 x4 x24 h11)) ?_
     refine dS 6 [0, 1] [] ?_
     refine dS 7 [0, 1] [] ?_
     refine WPD.doneW (by kernel_rfl) ?_
     obtain ⟨rfl, rfl⟩ := j2 H
     exact wq [2, 3, 4, 5]
   refine WPD1.eff 5 [0, 1] [] rfl (Does.runs (d_alloc ze71 rfl)) rfl rfl ?_
   refine WPD.of2 1 4 (by kernel_rfl) ?_ ?_
   · obtain ⟨x25, h12, H⟩ := bnd H
     refine WPD1.eff 1 [0, 1] [] rfl (rc [] [5] 6 [] (s_dec_of k x1 x2 x25 h12)) rfl rfl ?_
     refine WPD.of2 3 4 (by kernel_rfl) ?_ ?_
     · obtain ⟨x26, h13, H⟩ := bnd H
       refine WPD1.eff 3 [0, 1] [] rfl (rc [] [6] 7 [] (s_dec_of k x3 x4 x26 h13)) rfl rfl ?_
       refine dE 4 [0, 1] [] rfl (Does.runs (d_alloc ze71 rfl)) ?_
       refine dS 6 [0, 1] [] ?_
       refine dS 7 [0, 1] [] ?_
       refine WPD.doneW (by kernel_rfl) ?_
       obtain ⟨rfl, rfl⟩ := j2 H
       exact wq [2, 3, 7, 4]
     refine WPD1.eff 4 [0, 1] [] rfl (Does.runs (d_alloc ze71 rfl)) rfl rfl ?_
     obtain ⟨x27, h14, H⟩ := bnd H
     refine dE 3 [0, 1] [] rfl (rc [] [7] 8 [] (s_dec_of k x3 x4 x27 h14)) ?_
     refine dS 6 [0, 1] [] ?_
     refine dS 7 [0, 1] [] ?_
     refine WPD.doneW (by kernel_rfl) ?_
     obtain ⟨rfl, rfl⟩ := j2 H
     exact wq [2, 3, 6, 4]
   refine WPD1.eff 4 [0, 1] [] rfl (Does.runs (d_alloc ze71 rfl)) rfl rfl ?_
   obtain ⟨x28, h15, H⟩ := bnd H
   refine dE 1 [0, 1] [] rfl (rc [] [6] 7 [] (s_dec_of k x1 x2 x28 h15)) ?_
   obtain ⟨x29, h16, H⟩ := bnd H
   refine dE 3 [0, 1] [] rfl (rc [] [7] 8 [] (s_dec_of k x3 x4 x29 h16)) ?_
   refine dS 6 [0, 1] [] ?_
   refine dS 7 [0, 1] [] ?_
   refine WPD.doneW (by kernel_rfl) ?_
   obtain ⟨rfl, rfl⟩ := j2 H
   exact wq [2, 3, 5, 4]
 iterate 5 refine sp ?_
 refine WP.seq ?_
 obtain ⟨⟨x30, x31, x32, x33, x34, x35, x36⟩, H2, H⟩ := bnd H
 refine mo .normal (((((Env.none.upd 4 (.ptr 0 0)).upd 5 (.ptr 1 0)).upd 7 (.ptr 2 0)).upd 8 (.ptr 3 0)).upd 9 (.lit (.bool x30))) ((((Mem.nil.push (.cells 71 [.lit (.bool false), .lit (.int .u64 0), .lit (.int .u64 0), .lit (.int .i64 0)])).push (.cells 71 [.lit (.bool false), .lit (.int .u64 0), .lit (.int .u64 0), .lit (.int .i64 0)])).push (.cells 71 [.lit (.bool (decide (x1 < 0))), .lit (.int .u64 x31), .lit (.int .u64 x32), .lit (.int .i64 x33)])).push (.cells 71 [.lit (.bool (decide (x3 < 0))), .lit (.int .u64 x34), .lit (.int .u64 x35), .lit (.int .i64 x36)])) ?_ ?_
 · clear H
   have H := H2
   clear H2
   iterate 4 refine sp ?_
   obtain ⟨_, h17, H⟩ := bnd H
   refine WPL.c (rc [] [] 4 [] (s_dec_wide_zero k 0 x12 h17)) rfl ?_
   iterate 2 refine sp ?_
   refine cd H (fun hb1 H => ?_) fun hb1 H => ?_
   · iterate 5 refine sp ?_
     refine WPL.nilW ?_
     obtain ⟨rfl, rfl, rfl, rfl, rfl, rfl, rfl⟩ := j7 H
     exact wq [0, 1, 2, 3] (InBlock.n r3)
   iterate 3 refine sp ?_
   obtain ⟨_, h18, H⟩ := bnd H
   refine WPL.c (rc [] [] 4 [] (s_dec_wide_zero k 0 x13 h18)) rfl ?_
   iterate 2 refine sp ?_
   refine cd H (fun hb2 H => ?_) fun hb2 H => ?_
   · iterate 5 refine sp ?_
     refine WPL.nilW ?_
     obtain ⟨rfl, rfl, rfl, rfl, rfl, rfl, rfl⟩ := j7 H
     exact wq [0, 1, 2, 3] (InBlock.n r3)
   iterate 8 refine sp ?_
   refine cd H (fun hb3 H => ?_) fun hb3 H => ?_
   · iterate 8 refine sp ?_
     obtain ⟨⟨x37, x38, x39⟩, h19, H⟩ := bnd H
     refine WPL.c (rc [] [4] 5 [] (s_dec_wide_tens k 0 x12 (IntKind.wrap .i64 (x2 - x4)) x37 x38 x39 h19)) rfl ?_
     iterate 12 refine sp ?_
     refine WPL.nilW ?_
     obtain ⟨rfl, rfl, rfl, rfl, rfl, rfl, rfl⟩ := j7 H
     exact wq [0, 1, 2, 3] (InBlock.n r3)
   iterate 8 refine sp ?_
   refine cd H (fun hb4 H => ?_) fun hb4 H => ?_
   · iterate 8 refine sp ?_
     obtain ⟨⟨x40, x41, x42⟩, h20, H⟩ := bnd H
     refine WPL.c (rc [] [4] 5 [] (s_dec_wide_tens k 0 x13 (IntKind.wrap .i64 (x4 - x2)) x40 x41 x42 h20)) rfl ?_
     iterate 12 refine sp ?_
     refine WPL.nilW ?_
     obtain ⟨rfl, rfl, rfl, rfl, rfl, rfl, rfl⟩ := j7 H
     exact wq [0, 1, 2, 3] (InBlock.n r3)
   refine sp ?_
   obtain ⟨rfl, rfl, rfl, rfl, rfl, rfl, rfl⟩ := j7 H
   exact wq [0, 1, 2, 3] (InBlock.n r3)
 iterate 2 refine sp ?_
 refine WP.seq ?_
 refine WP.regionD' 6 [2, 3] [] mixed rfl ?_
 refine dT 2 ?_
 refine dK 0 ?_
 refine dK 1 ?_
 refine dS 3 [2, 3] [] ?_
 refine dS 4 [2, 3] [] ?_
 refine dT 5 ?_
 refine WPD.doneW (by kernel_rfl) ?_
 iterate 3 refine sp ?_
 obtain ⟨rfl, rfl, rfl, rfl, rfl, rfl, rfl⟩ := j7 H
 exact W.now (mb [0, 1])
theorem s_dec_wide_cmp (k : Nat) (x1 : Int) (x2 : Int) (x3 : Int) (x4 : Int) (x5 : Int) (H : g_dec_wide_cmp k x1 x2 x3 x4 = some x5) : Go.Q.Spec Tryz.prog 104 0 [.agg [.lit (.int .u64 x1), .lit (.int .u64 x2)], .agg [.lit (.int .u64 x3), .lit (.int .u64 x4)]] Mem.nil (fun o M => o = .ret (.lit (.int .i64 x5)) ∧ M = Mem.nil) := by
 unfold g_dec_wide_cmp at H
 refine bo Tryz.func104 [] [.tmp 4] 29 fun cx hnp => ?_
 iterate 5 refine sp ?_
 refine WP.seq ?_
 iterate 4 refine sp ?_
 obtain ⟨x6, h1, H⟩ := bnd H
 refine WPL.qq (q_nm (q_eqlAg (xs := [(.int .u64 x1), (.int .u64 x2)]) (ys := [(.int .u64 x3), (.int .u64 x4)]) (n := 9) rfl eg69 rfl rfl eq69) (nm_bool h1)) ?_
 iterate 2 refine sp ?_
 refine cd H (fun hb1 H => ?_) fun hb1 H => ?_
 · iterate 4 refine sp ?_
   have q0 := j1 H
   subst q0
   exact W.now (InBlock.r (Then.r (mb [])))
 refine WP.seq ?_
 obtain ⟨x7, H1, H⟩ := bnd H
 refine mo .normal (Env.none.upd 9 (.lit (.bool x7))) Mem.nil ?_ ?_
 · clear H
   have H := H1
   clear H1
   iterate 7 refine sp ?_
   refine ws 15 H (fun hb2 H => ?_) fun hb2 H => ?_
   · iterate 14 refine sp ?_
     refine WPL.nilW ?_
     have q0 := j1 H
     subst q0
     exact wq []
   iterate 6 refine sp ?_
   refine ws 21 H (fun hb3 H => ?_) fun hb3 H => ?_
   · iterate 8 refine sp ?_
     refine WPL.nilW ?_
     have q0 := j1 H
     subst q0
     exact wq []
   iterate 8 refine sp ?_
   refine WPL.nilW ?_
   have q0 := j1 H
   subst q0
   exact wq []
 iterate 2 refine sp ?_
 refine cd H (fun hb4 H => ?_) fun hb4 H => ?_
 · iterate 4 refine sp ?_
   have q0 := j1 H
   subst q0
   exact W.now (InBlock.r (Then.r (mb [])))
 iterate 2 refine sp ?_
 refine InBlock.n ?_
 iterate 5 refine sp ?_
 have q0 := j1 H
 subst q0
 exact W.now (mb [])
theorem s_dec_wide_less (k : Nat) (x1 : Int) (x2 : Int) (x3 : Int) (x4 : Int) (H : g_dec_wide_less k x1 x2 x3 x4 = some ()) : Go.Q.Spec Tryz.prog 147 0 [.agg [.lit (.int .u64 x1), .lit (.int .u64 x2)], .agg [.lit (.int .u64 x3), .lit (.int .u64 x4)]] Mem.nil (fun o M => o = .ret (.agg [.lit (.int .u64 ((sub64 x1 x3 ((sub64 x2 x4 0).2)).1)), .lit (.int .u64 ((sub64 x2 x4 0).1))]) ∧ M = (Mem.nil.push (.cells 69 [.lit (.int .u64 ((sub64 x1 x3 ((sub64 x2 x4 0).2)).1)), .lit (.int .u64 ((sub64 x2 x4 0).1))]))) := by
 unfold g_dec_wide_less at H
 refine bo Tryz.func147 [(69, 2)] [.cell 4 69] 29 fun cx hnp => ?_
 iterate 10 refine sp ?_
 refine WPL.qq (q_sub64 ex165 rfl rfl rfl rfl rfl) ?_
 iterate 12 refine sp ?_
 obtain ⟨h1, H⟩ := grd H
 refine WPL.qq (q_sub64 ex165 rfl rfl rfl rfl h1) ?_
 iterate 13 refine sp ?_
 exact W.now (mb [2])
theorem s_dec_Add (k : Nat) (x1 : Int) (x2 : Int) (x3 : Int) (x4 : Int) (x5 : Int) (x6 : Int) (x7 : Int) (H : g_dec_Add k x1 x2 x3 x4 = some (x5, x6, x7)) : Go.Q.Spec Tryz.prog 108 0 [.agg [.lit (.int .i64 x1), .lit (.int .i64 x2)], .agg [.lit (.int .i64 x3), .lit (.int .i64 x4)]] Mem.nil (fun o M => o = .ret (.tup [.agg [.lit (.int .i64 x6), .lit (.int .i64 x7)], .lit (.int .i64 x5)]) ∧ M = (Mem.nil.push (.cells 23 [.lit (.int .i64 x6), .lit (.int .i64 x7)]))) := by
 unfold g_dec_Add at H
 refine bo Tryz.func108 [(23, 2)] [.cell 4 23, .tmp 5] 68 fun cx hnp => ?_
 iterate 6 refine sp ?_
 refine WP.seq ?_
 refine sp ?_
 refine WPL.d (d_buildCells li144 rfl rfl rfl rfl rfl) rfl ?_
 obtain ⟨⟨x8, x9, x10, x11, x12⟩, h1, H⟩ := bnd H
 refine WPL.c (rc [3, 0, 1] [3, 0, 1] 4 [] (s_dec_clean k x1 x2 x3 x4 x8 x9 x10 x11 x12 h1)) rfl ?_
 iterate 2 refine sp ?_
 refine cd H (fun hb1 H => ?_) fun hb1 H => ?_
 · iterate 6 refine sp ?_
   obtain ⟨rfl, rfl, rfl⟩ := j3 H
   exact W.now (Then.r (mb [2]))
 iterate 6 refine sp ?_
 obtain ⟨⟨x13, x14, x15, x16, x17, x18, x19⟩, h2, H⟩ := bnd H
 refine WPL.c (rc [] [4, 5] 6 [] (s_dec_even k x9 x10 x11 x12 x13 x14 x15 x16 x17 x18 x19 h2)) rfl ?_
 iterate 10 refine sp ?_
 refine WP.seq ?_
 obtain ⟨y1, H1, H⟩ := bnd H
 refine WP.monoW (Q := fun x E M => match (generalizing := false) y1 with | (Sum.inl _) => x = .ret ∧ E = ((Env.none.upd 4 (.ptr 0 0)).upd 5 (.lit (.int .i64 30))) ∧ M = (Mem.nil.push (.cells 23 [.lit (.int .i64 0), .lit (.int .i64 0)])) | (Sum.inr (x20, x21, x22, x23)) => x = .normal ∧ E = (((Env.none.upd 4 (.ptr 0 0)).upd 6 (.ptr 1 0)).upd 8 (.lit (.bool x20))) ∧ M = ((Mem.nil.push (.cells 23 [.lit (.int .i64 0), .lit (.int .i64 0)])).push (.cells 71 [.lit (.bool x21), .lit (.int .u64 x22), .lit (.int .u64 x23), .lit (.int .i64 x16)]))) ?_ ?_
 · clear H
   have H := H1
   clear H1
   iterate 6 refine sp ?_
   refine cd H (fun hb2 H => ?_) fun hb2 H => ?_
   · iterate 6 refine sp ?_
     have q0 := j1 H
     subst q0
     exact wq [2] (InBlock.r r3)
   iterate 5 refine sp ?_
   obtain ⟨x24, h3, H⟩ := bnd H
   refine WPL.qq (q_nm (q_eqlb Tryz.underlying4 rfl rfl) (nm_bool h3)) ?_
   iterate 2 refine sp ?_
   refine cd H (fun hb3 H => ?_) fun hb3 H => ?_
   · iterate 5 refine sp ?_
     obtain ⟨x25, h4, H⟩ := bnd H
     refine WPL.c (rc [] [8] 9 [] (s_dec_wide_plus k x14 x15 x17 x18 x25 h4)) rfl ?_
     iterate 6 refine sp ?_
     refine WPL.nilW ?_
     have q0 := j1 H
     subst q0
     exact wq [2, 6] (InBlock.n r3)
   iterate 5 refine sp ?_
   obtain ⟨x26, h5, H⟩ := bnd H
   refine WPL.c (rc [] [] 8 [] (s_dec_wide_cmp k x14 x15 x17 x18 x26 h5)) rfl ?_
   iterate 3 refine sp ?_
   refine cd H (fun hb4 H => ?_) fun hb4 H => ?_
   · iterate 5 refine sp ?_
     obtain ⟨_, h6, H⟩ := bnd H
     refine WPL.c (rc [] [8] 9 [] (s_dec_wide_less k x14 x15 x17 x18 h6)) rfl ?_
     iterate 2 refine sp ?_
     refine WPL.nilW ?_
     have q0 := j1 H
     subst q0
     exact wq [2, 6] (InBlock.n r3)
   refine WP.regionD' 11 [6, 7] [8] mixed rfl ?_
   refine dT 0 ?_
   refine dT 2 ?_
   refine dT 4 ?_
   refine dK 1 ?_
   refine dK 3 ?_
   refine dK 5 ?_
   refine dT 7 ?_
   obtain ⟨_, h7, H⟩ := bnd H
   refine dE 6 [6, 7] [8] rfl (rc [] [8] 9 [] (s_dec_wide_less k x17 x18 x14 x15 h7)) ?_
   refine dS 8 [] [] ?_
   refine dT 9 ?_
   refine dS 10 [] [] ?_
   refine WPD.doneW (by kernel_rfl) ?_
   have q0 := j1 H
   subst q0
   exact wq [2, 6] (InBlock.n r3)
 rcases y1 with _ | ⟨x20, x21, x22, x23⟩
 · rintro _ _ _ ⟨rfl, rfl, rfl⟩
   obtain ⟨rfl, rfl, rfl⟩ := j3 H
   exact W.now (Then.r (mb [0]))
 rintro _ _ _ ⟨rfl, rfl, rfl⟩
 iterate 2 refine sp ?_
 refine WP.seq ?_
 iterate 4 refine sp ?_
 refine cd H (fun hb5 H => ?_) fun hb5 H => ?_
 · iterate 6 refine sp ?_
   obtain ⟨rfl, rfl, rfl⟩ := j3 H
   exact W.now (Then.r (mb [0]))
 iterate 5 refine sp ?_
 obtain ⟨⟨x27, x28, x29⟩, h8, H⟩ := bnd H
 refine WPL.c (rc [] [2] 3 [] (s_dec_num_tell k x21 x22 x23 x16 x27 x28 x29 h8)) rfl ?_
 iterate 6 refine sp ?_
 obtain ⟨rfl, rfl, rfl⟩ := j3 H
 exact W.now (mb [0])
theorem s_dec_lowest (k : Nat) (x1 : Int) (x2 : Int) (x3 : Int) (x4 : Int) (x5 : Int) (x6 : Int) (x7 : Int) (H : g_dec_lowest k x1 x2 x3 x4 = some (x5, x6, x7)) : Go.Q.Spec Tryz.prog 148 0 [.agg [.lit (.int .i64 x1), .lit (.int .i64 x2)], .agg [.lit (.int .i64 x3), .lit (.int .i64 x4)]] Mem.nil (fun o M => o = .ret (.tup [.agg [.lit (.int .i64 x6), .lit (.int .i64 x7)], .lit (.int .i64 x5)]) ∧ M = (Mem.nil.push (.cells 23 [.lit (.int .i64 x6), .lit (.int .i64 x7)]))) := by
 unfold g_dec_lowest at H
 refine bo Tryz.func148 [(23, 2)] [.cell 4 23, .tmp 5] 61 fun cx hnp => ?_
 iterate 9 refine sp ?_
 obtain ⟨⟨x8, x9, x10, x11, x12, x13, x14⟩, h1, H⟩ := bnd H
 refine WPL.c (rc [] [3, 4] 5 [] (s_dec_even k x1 x2 x3 x4 x8 x9 x10 x11 x12 x13 x14 h1)) rfl ?_
 iterate 10 refine sp ?_
 refine WP.seq ?_
 iterate 4 refine sp ?_
 refine cd H (fun hb1 H => ?_) fun hb1 H => ?_
 · iterate 6 refine sp ?_
   obtain ⟨rfl, rfl, rfl⟩ := j3 H
   exact W.now (Then.r (mb [2]))
 iterate 7 refine sp ?_
 refine WP.seq ?_
 iterate 4 refine sp ?_
 refine cd H (fun hb2 H => ?_) fun hb2 H => ?_
 · refine WP.seq ?_
   obtain ⟨⟨x15, x16, x17⟩, H1, H⟩ := bnd H
   refine mo .normal ((Env.none.upd 4 (.ptr 0 0)).upd 6 (.ptr 1 0)) ((Mem.nil.push (.cells 23 [.lit (.int .i64 0), .lit (.int .i64 0)])).push (.cells 71 [.lit (.bool x15), .lit (.int .u64 x16), .lit (.int .u64 x17), .lit (.int .i64 x11)])) ?_ ?_
   · clear H
     have H := H1
     clear H1
     iterate 5 refine sp ?_
     obtain ⟨x18, h2, H⟩ := bnd H
     refine WPL.c (rc [] [] 7 [] (s_dec_wide_cmp k x9 x10 x12 x13 x18 h2)) rfl ?_
     iterate 2 refine sp ?_
     refine cd H (fun hb3 H => ?_) fun hb3 H => ?_
     · iterate 5 refine sp ?_
       obtain ⟨_, h3, H⟩ := bnd H
       refine WPL.c (rc [] [7] 8 [] (s_dec_wide_less k x9 x10 x12 x13 h3)) rfl ?_
       iterate 2 refine sp ?_
       refine WPL.nilW ?_
       obtain ⟨rfl, rfl, rfl⟩ := j3 H
       exact wq [2, 5]
     iterate 5 refine sp ?_
     obtain ⟨_, h4, H⟩ := bnd H
     refine WPL.c (rc [] [7] 8 [] (s_dec_wide_less k x12 x13 x9 x10 h4)) rfl ?_
     iterate 4 refine sp ?_
     refine WPL.nilW ?_
     obtain ⟨rfl, rfl, rfl⟩ := j3 H
     exact wq [2, 5]
   iterate 4 refine sp ?_
   obtain ⟨⟨x19, x20, x21⟩, h5, H⟩ := bnd H
   refine WPL.c (rc [] [2] 3 [] (s_dec_num_tell k x15 x16 x17 x11 x19 x20 x21 h5)) rfl ?_
   iterate 6 refine sp ?_
   obtain ⟨rfl, rfl, rfl⟩ := j3 H
   exact W.now (Then.r (mb [0]))
 iterate 3 refine sp ?_
 refine WP.seq ?_
 iterate 5 refine sp ?_
 obtain ⟨x22, h6, H⟩ := bnd H
 refine WPL.c (rc [] [7] 8 [] (s_dec_wide_plus k x9 x10 x12 x13 x22 h6)) rfl ?_
 iterate 11 refine sp ?_
 refine cd H (fun hb4 H => ?_) fun hb4 H => ?_
 · iterate 6 refine sp ?_
   obtain ⟨rfl, rfl, rfl⟩ := j3 H
   exact W.now (Then.r (mb [2]))
 iterate 5 refine sp ?_
 obtain ⟨⟨x23, x24, x25⟩, h7, H⟩ := bnd H
 refine WPL.c (rc [] [8] 9 [] (s_dec_num_tell k (decide (x1 < 0)) ((add64 x9 x12 ((add64 x10 x13 0).2)).1) ((add64 x10 x13 0).1) x11 x23 x24 x25 h7)) rfl ?_
 iterate 6 refine sp ?_
 obtain ⟨rfl, rfl, rfl⟩ := j3 H
 exact W.now (mb [2])
end Go.Proofs.YthpcgknknpjpdaaGreatDoor.W
