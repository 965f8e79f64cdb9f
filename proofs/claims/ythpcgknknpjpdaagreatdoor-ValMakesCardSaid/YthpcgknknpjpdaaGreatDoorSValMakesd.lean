/- Texts joined: part 4 of what LValMakes stands on. -/
import Derived.Test.YthpcgknknpjpdaaGreatDoorSValMakesc
namespace Go.Proofs.YthpcgknknpjpdaaGreatDoor.W
open Go Go.Q Go.Proofs
set_option linter.unusedVariables false
set_option linter.unusedSimpArgs false
set_option maxRecDepth 100000
set_option maxHeartbeats 4000000
theorem s_rv_Err (k : Nat) (x1 : Int) (x2 : Int) (H : g_rv_Err k x1 = some x2) : Go.Q.Spec Tryz.prog 17 0 [.lit (.int .i64 x1)] Mem.nil (fun o M => o = .ret (.agg [.lit (.int .i64 4), .lit (.int .i64 0), .lit (.int .i64 0), .lit (.string (ByteArray.mk #[])), .lit (.bool false), .lit (.int .i64 x2)]) ∧ M = (Mem.nil.push (.cells 29 [.lit (.int .i64 4), .lit (.int .i64 0), .lit (.int .i64 0), .lit (.string (ByteArray.mk #[])), .lit (.bool false), .lit (.int .i64 x2)]))) := by
 unfold g_rv_Err at H
 refine Go.Q.Spec.of_bodyR (az := [(29, 6)]) (rs := [.cell 2 29]) (nt := 11) Tryz.func17 rfl rfl (by intro t T h; simp at h; rcases h with ⟨rfl, rfl⟩ <;> first | exact ag29) rfl rfl fun cx hnp => ?_
 refine WP.sr ?_
 refine WPL.d (d_alloc ze29 rfl) rfl ?_
 refine WPL.nx ?_
 refine WP.seq ?_
 obtain ⟨x3, H1, H⟩ := bnd H
 refine WP.monoW (Q := fun x E M => x = .normal ∧ E = ((Env.none.upd 0 (.lit (.int .i64 x3))).upd 2 (.ptr 0 0)) ∧ M = (Mem.nil.push (.cells 29 [.lit (.int .i64 0), .lit (.int .i64 0), .lit (.int .i64 0), .lit (.string (ByteArray.mk #[])), .lit (.bool false), .lit (.int .i64 0)]))) ?_ ?_
 · clear H
   have H := H1
   clear H1
   refine WP.seq ?_
   obtain ⟨x4, H2, H⟩ := bnd H
   refine WP.monoW (Q := fun x E M => x = .normal ∧ E = (((Env.none.upd 0 (.lit (.int .i64 x1))).upd 2 (.ptr 0 0)).upd 8 (.lit (.bool x4))) ∧ M = (Mem.nil.push (.cells 29 [.lit (.int .i64 0), .lit (.int .i64 0), .lit (.int .i64 0), .lit (.string (ByteArray.mk #[])), .lit (.bool false), .lit (.int .i64 0)]))) ?_ ?_
   · clear H
     have H := H2
     clear H2
     refine WP.region ?_
     refine WPL.qq (q_mv (v := .lit (.int _ _)) rfl) ?_
     refine WPL.qq (q_lss rfl rfl) ?_
     refine WPL.qq (q_mv (v := .lit (.bool _)) rfl) ?_
     refine WPL.split (t := 5) (b := (decide (x1 < 1))) rfl (fun hb1 => ?_) (fun hb1 => ?_)
     · replace H := cnt hb1 H
       refine WPL.sg true rfl (lb hb1) ?_
       refine WPL.sg true rfl (lb hb1) ?_
       refine WPL.qq (q_pickT (v := .lit (.bool _)) (lb hb1) rfl) ?_
       refine WPL.nilW ?_
       have q0 := j1 H
       subst q0
       exact W.wk [0] hnp r3 ⟨rfl, AA1, by decide, rfl, trivial⟩ (LeE.u (LeE.u (LeE.u (LeE.none rfl rfl)))) rfl
     replace H := cnf hb1 H
     refine WPL.gq rfl (lb hb1) (q_mv (v := .lit (.int _ _)) rfl) ?_
     refine WPL.gq rfl (lb hb1) (q_gtr rfl rfl) ?_
     refine WPL.qq (q_pickF (v := .lit (.bool _)) (lb hb1) rfl) ?_
     refine WPL.nilW ?_
     have q0 := j1 H
     subst q0
     exact W.wk [0] hnp r3 ⟨rfl, AA1, by decide, rfl, trivial⟩ (LeE.u (LeE.u (LeE.u (LeE.none rfl rfl)))) rfl
   rintro _ _ _ ⟨rfl, rfl, rfl⟩
   refine W.now ?_
   refine Then.n ?_
   refine WP.cond (t := x4) rfl (fun hb2 => ?_) (fun hb2 => ?_)
   · replace H := cnt hb2 H
     refine WP.region ?_
     refine WPL.qq (q_as (v := .lit (.int _ _)) rfl) ?_
     refine WPL.nilW ?_
     have q0 := j1 H
     subst q0
     exact W.wk [0] hnp r3 ⟨rfl, AA1, by decide, rfl, trivial⟩ (LeE.u (LeE.u (LeE.none rfl rfl))) rfl
   replace H := cnf hb2 H
   refine WP.skipW ?_
   have q0 := j1 H
   subst q0
   exact W.wk [0] hnp r3 ⟨rfl, AA1, by decide, rfl, trivial⟩ (LeE.u (LeE.u (LeE.none rfl rfl))) rfl
 rintro _ _ _ ⟨rfl, rfl, rfl⟩
 refine W.now ?_
 refine Then.n ?_
 refine WP.sr ?_
 refine WPL.qq (q_mv (v := .lit (.int _ _)) rfl) ?_
 refine WPL.qq (q_build bu29 rfl) ?_
 refine WPL.s (s_store sz29 rfl rfl rfl rfl rfl) ?_
 refine WPL.nx ?_
 refine WP.retW ?_
 have q0 := j1 H
 subst q0
 exact W.now (BodyR.mkR trivial rfl [0] ⟨rfl, rfl⟩ ⟨rfl, AA1, by decide, rfl, trivial⟩ rfl rfl)
theorem s_r9_Of (k : Nat) (x1 : Int) (x2 : (List Int)) (H : g_r9_Of k x1 = some x2) : Go.Q.Spec Tryz.prog 85 0 [.lit (.int .i64 x1)] Mem.nil (fun o M => o = .ret (.agg [.lit (.bool (decide (x1 < 0))), .ro (Rd.slice (Rd.int .i64)) false x2]) ∧ M = (Mem.nil.push (.cells 78 [.lit (.bool (decide (x1 < 0))), .ro (Rd.slice (Rd.int .i64)) false x2]))) := by
 unfold g_r9_Of at H
 refine Go.Q.Spec.of_bodyR (az := [(78, 2)]) (rs := [.cell 2 78]) (nt := 25) Tryz.func85 rfl rfl (by intro t T h; simp at h; rcases h with ⟨rfl, rfl⟩ <;> first | exact ag78) rfl rfl fun cx hnp => ?_
 refine WP.sr ?_
 refine WPL.d (d_alloc ze78 rfl) rfl ?_
 refine WPL.nx ?_
 refine WP.sr ?_
 refine WPL.qq (q_as (v := .lit _) rfl) ?_
 refine WPL.nx ?_
 refine WP.sr ?_
 refine WPL.qq (q_mv (v := .lit (.int _ _)) rfl) ?_
 refine WPL.qq (q_as (v := .lit (.int _ _)) rfl) ?_
 refine WPL.nx ?_
 refine WP.seq ?_
 refine WP.block ?_
 refine WP.cv (Cv.vir 3 (Rd.int .i64) (N := 1) rfl 3 rfl) ?_
 refine WP.cv (Cv.weak (E' := ((((Env.none.upd 0 (.lit (.int .i64 x1))).upd 2 (.ptr 0 0)).upd 3 (.whole 1)).upd 4 (.lit (.int .i64 x1)))) (M' := ((Mem.nil.push (.cells 78 [.lit (.bool false), .lit (.slice none 0 0)])).push (.row 3 (Rd.int .i64) ([] : List Int)))) [0, 1] hnp ⟨rfl, AA2, by decide, rfl, trivial⟩ (LeE.u (LeE.u (LeE.u (LeE.u (LeE.none rfl rfl)))))) ?_
 obtain ⟨x3, H1, H⟩ := bnd H
 refine WP.monoW (Q := fun x E M => x = .exit 0 ∧ E = (((Env.none.upd 0 (.lit (.int .i64 x1))).upd 2 (.ptr 0 0)).upd 3 (.whole 1)) ∧ M = ((Mem.nil.push (.cells 78 [.lit (.bool false), .lit (.slice none 0 0)])).push (.row 3 (Rd.int .i64) x3))) ?_ ?_
 · refine WP.loop (β := Int × (List Int)) (fun n b => g_r9_Of_l0 k n b.1 b.2 = some x3) (fun b => ((((Env.none.upd 0 (.lit (.int .i64 x1))).upd 2 (.ptr 0 0)).upd 3 (.whole 1)).upd 4 (.lit (.int .i64 b.1)))) (fun b => ((Mem.nil.push (.cells 78 [.lit (.bool false), .lit (.slice none 0 0)])).push (.row 3 (Rd.int .i64) b.2))) k (x1, ([] : List Int)) H1 rfl rfl ?_
   rintro n ⟨x4, x5⟩ H
   obtain _ | n := n
   · exact nf rfl H
   rw [g_r9_Of_l0.eq_2] at H
   show WP _ _ _ _ ((((Env.none.upd 0 (.lit (.int .i64 x1))).upd 2 (.ptr 0 0)).upd 3 (.whole 1)).upd 4 (.lit (.int .i64 x4))) ((Mem.nil.push (.cells 78 [.lit (.bool false), .lit (.slice none 0 0)])).push (.row 3 (Rd.int .i64) x5)) _
   refine WP.seq ?_
   refine WP.sr ?_
   refine WPL.qq (q_mv (v := .lit (.int _ _)) rfl) ?_
   refine WPL.qq (q_neq rfl rfl) ?_
   refine WPL.nx ?_
   refine WP.cond (t := (!decide (x4 = 0))) rfl (fun hb1 => ?_) (fun hb1 => ?_)
   · replace H := cnt hb1 H
     refine WP.skipW ?_
     refine W.now ?_
     refine Then.n ?_
     refine WP.block ?_
     refine WP.sr ?_
     refine WPL.qq (q_mv (v := .lit (.int _ _)) rfl) ?_
     refine WPL.qq (q_rem rfl rfl rfl) ?_
     refine WPL.qq (q_as (v := .lit (.int _ _)) rfl) ?_
     refine WPL.nx ?_
     refine WP.seq ?_
     obtain ⟨x6, H2, H⟩ := bnd H
     refine WP.monoW (Q := fun x E M => x = .normal ∧ E = (((((Env.none.upd 0 (.lit (.int .i64 x1))).upd 2 (.ptr 0 0)).upd 3 (.whole 1)).upd 4 (.lit (.int .i64 x4))).upd 5 (.lit (.int .i64 x6))) ∧ M = ((Mem.nil.push (.cells 78 [.lit (.bool false), .lit (.slice none 0 0)])).push (.row 3 (Rd.int .i64) x5))) ?_ ?_
     · clear H
       have H := H2
       clear H2
       refine WP.sr ?_
       refine WPL.qq (q_mv (v := .lit (.int _ _)) rfl) ?_
       refine WPL.qq (q_lss rfl rfl) ?_
       refine WPL.nx ?_
       refine WP.cond (t := (decide ((Int.tmod x4 10) < 0))) rfl (fun hb2 => ?_) (fun hb2 => ?_)
       · replace H := cnt hb2 H
         refine WP.region ?_
         refine WPL.qq (q_mv (v := .lit (.int _ _)) rfl) ?_
         obtain ⟨x7, h1, H⟩ := bnd H
         refine WPL.qq (q_nm (q_neg rfl) (nm_int h1)) ?_
         refine WPL.qq (q_as (v := .lit (.int _ _)) rfl) ?_
         refine WPL.nilW ?_
         have q0 := j1 H
         subst q0
         exact W.wk [0, 1] hnp r3 ⟨rfl, AA2, by decide, rfl, trivial⟩ (LeE.u (LeE.u (LeE.u (LeE.u (LeE.u (LeE.none rfl rfl)))))) rfl
       replace H := cnf hb2 H
       refine WP.skipW ?_
       have q0 := j1 H
       subst q0
       exact W.wk [0, 1] hnp r3 ⟨rfl, AA2, by decide, rfl, trivial⟩ (LeE.u (LeE.u (LeE.u (LeE.u (LeE.u (LeE.none rfl rfl)))))) rfl
     rintro _ _ _ ⟨rfl, rfl, rfl⟩
     refine W.now ?_
     refine Then.n ?_
     refine WP.sr ?_
     refine WPL.qq (q_mv (v := .whole _) rfl) ?_
     refine WPL.qq (q_mv (v := .lit (.int _ _)) rfl) ?_
     refine WPL.d (d_buildSlice (ds := ([x6] : List Int)) (R := (Rd.int .i64)) li76 rfl rfl rfl rfl rfl (JoinRows.cons1 Joins.sc rfl JoinRows.nil) rfl rfl) rfl ?_
     obtain ⟨h2, H⟩ := grd H
     refine WPL.d (d_append ap76 rfl rfl rfl rfl (src_row sl76 rfl rfl) h2 rfl) rfl ?_
     refine WPL.qq (q_as (v := .whole _) rfl) ?_
     refine WPL.nx ?_
     refine WP.region ?_
     refine WPL.qq (q_mv (v := .lit (.int _ _)) rfl) ?_
     refine WPL.qq (q_quo rfl rfl rfl) ?_
     refine WPL.qq (q_as (v := .lit (.int _ _)) rfl) ?_
     refine WPL.nilW ?_
     exact W.wk [0, 3] hnp (InBlock.n (Then.n ⟨n, ((IntKind.wrap .i64 (Int.tdiv x4 10)), (x5 ++ ([x6] : List Int))), Nat.lt_succ_self n, H, rfl, rfl⟩)) ⟨rfl, AA2, by decide, rfl, trivial⟩ (LeE.u (LeE.u (LeE.u (LeE.u (LeE.none rfl rfl))))) rfl
   replace H := cnf hb1 H
   refine WP.exitW ?_
   have q0 := j1 H
   subst q0
   exact W.wk [0, 1] hnp (Then.x (Then.x r3)) ⟨rfl, AA2, by decide, rfl, trivial⟩ (LeE.u (LeE.u (LeE.u (LeE.none rfl rfl)))) rfl
 rintro _ _ _ ⟨rfl, rfl, rfl⟩
 refine W.now ?_
 refine InBlock.x0 ?_
 refine Then.n ?_
 refine WP.sr ?_
 refine WPL.qq (q_mv (v := .lit (.int _ _)) rfl) ?_
 refine WPL.qq (q_lss rfl rfl) ?_
 refine WPL.qq (q_mv (v := .whole _) rfl) ?_
 refine WPL.qq (q_build bu78 rfl) ?_
 refine WPL.s (s_store sz78 rfl rfl rfl rfl rfl) ?_
 refine WPL.nx ?_
 refine WP.retW ?_
 refine W.cv (Cv.frzRow (i := 1) rfl rfl hnp rfl rfl) rfl ?_
 have q0 := j1 H
 subst q0
 exact W.now (BodyR.mkR trivial rfl [0] ⟨rfl, rfl⟩ ⟨rfl, AA1, by decide, rfl, trivial⟩ rfl rfl)
theorem s_r9_trim (k : Nat) (x1 : Bool) (x2 : (List Int)) (x3 : Bool) (x4 : (List Int)) (H : g_r9_trim k x1 x2 = some (x3, x4)) : Go.Q.Spec Tryz.prog 97 0 [.agg [.lit (.bool x1), .ro (Rd.slice (Rd.int .i64)) false x2]] Mem.nil (fun o M => o = .ret (.agg [.lit (.bool x3), .ro (Rd.slice (Rd.int .i64)) false x4]) ∧ M = (Mem.nil.push (.cells 78 [.lit (.bool x3), .ro (Rd.slice (Rd.int .i64)) false x4]))) := by
 unfold g_r9_trim at H
 refine Go.Q.Spec.of_bodyR (az := [(78, 2)]) (rs := [.cell 2 78]) (nt := 32) Tryz.func97 rfl rfl (by intro t T h; simp at h; rcases h with ⟨rfl, rfl⟩ <;> first | exact ag78) rfl rfl fun cx hnp => ?_
 refine WP.sr ?_
 refine WPL.d (d_box rfl rfl) rfl ?_
 refine WPL.d (d_alloc ze78 rfl) rfl ?_
 refine WPL.nx ?_
 refine WP.sr ?_
 refine WPL.qq (q_fieldAddr fi78_1 rfl rfl) ?_
 refine WPL.qq (q_load sc76 rfl rfl rfl) ?_
 refine WPL.qq (q_len_ro sl76 rfl) ?_
 refine WPL.qq (q_as (v := .lit (.int _ _)) rfl) ?_
 refine WPL.nx ?_
 refine WP.seq ?_
 refine WP.block ?_
 refine WP.cv (Cv.weak (E' := (((Env.none.upd 1 (.ptr 0 0)).upd 2 (.ptr 1 0)).upd 3 (.lit (.int .i64 ((List.length x2 : Nat) : Int))))) (M' := ((Mem.nil.push (.cells 78 [.lit (.bool x1), .ro (Rd.slice (Rd.int .i64)) false x2])).push (.cells 78 [.lit (.bool false), .lit (.slice none 0 0)]))) [0, 1] hnp ⟨rfl, AA2, by decide, rfl, trivial⟩ (LeE.u (LeE.u (LeE.u (LeE.none rfl rfl))))) ?_
 obtain ⟨x5, H1, H⟩ := bnd H
 refine WP.monoW (Q := fun x E M => x = .exit 0 ∧ E = (((Env.none.upd 1 (.ptr 0 0)).upd 2 (.ptr 1 0)).upd 3 (.lit (.int .i64 x5))) ∧ M = ((Mem.nil.push (.cells 78 [.lit (.bool x1), .ro (Rd.slice (Rd.int .i64)) false x2])).push (.cells 78 [.lit (.bool false), .lit (.slice none 0 0)]))) ?_ ?_
 · refine WP.loop (β := Int) (fun n b => g_r9_trim_l0 k x2 n b = some x5) (fun b => (((Env.none.upd 1 (.ptr 0 0)).upd 2 (.ptr 1 0)).upd 3 (.lit (.int .i64 b)))) (fun b => ((Mem.nil.push (.cells 78 [.lit (.bool x1), .ro (Rd.slice (Rd.int .i64)) false x2])).push (.cells 78 [.lit (.bool false), .lit (.slice none 0 0)]))) k ((List.length x2 : Nat) : Int) H1 rfl rfl ?_
   rintro n x6 H
   obtain _ | n := n
   · exact nf rfl H
   rw [g_r9_trim_l0.eq_2] at H
   show WP _ _ _ _ (((Env.none.upd 1 (.ptr 0 0)).upd 2 (.ptr 1 0)).upd 3 (.lit (.int .i64 x6))) ((Mem.nil.push (.cells 78 [.lit (.bool x1), .ro (Rd.slice (Rd.int .i64)) false x2])).push (.cells 78 [.lit (.bool false), .lit (.slice none 0 0)])) _
   refine WP.seq ?_
   refine WP.seq ?_
   obtain ⟨x7, H2, H⟩ := bnd H
   refine WP.monoW (Q := fun x E M => x = .normal ∧ E = ((((Env.none.upd 1 (.ptr 0 0)).upd 2 (.ptr 1 0)).upd 3 (.lit (.int .i64 x6))).upd 17 (.lit (.bool x7))) ∧ M = ((Mem.nil.push (.cells 78 [.lit (.bool x1), .ro (Rd.slice (Rd.int .i64)) false x2])).push (.cells 78 [.lit (.bool false), .lit (.slice none 0 0)]))) ?_ ?_
   · clear H
     have H := H2
     clear H2
     refine WP.region ?_
     refine WPL.qq (q_mv (v := .lit (.int _ _)) rfl) ?_
     refine WPL.qq (q_gtr rfl rfl) ?_
     refine WPL.qq (q_mv (v := .lit (.bool _)) rfl) ?_
     refine WPL.split (t := 9) (b := (decide (0 < x6))) rfl (fun hb1 => ?_) (fun hb1 => ?_)
     · replace H := cnt hb1 H
       refine WPL.gq rfl (lb hb1) (q_fieldAddr fi78_1 rfl rfl) ?_
       refine WPL.gq rfl (lb hb1) (q_load sc76 rfl rfl rfl) ?_
       refine WPL.gq rfl (lb hb1) (q_mv (v := .lit (.int _ _)) rfl) ?_
       refine WPL.gq rfl (lb hb1) (q_sub rfl rfl) ?_
       obtain ⟨x8, h1, H⟩ := bnd H
       refine WPL.gq rfl (lb hb1) (q_index_ro sl76 rfl rfl rfl h1) ?_
       refine WPL.gq rfl (lb hb1) (q_load_sc sc3 rfl) ?_
       refine WPL.gq rfl (lb hb1) (q_eql rfl rfl) ?_
       refine WPL.qq (q_pickT (v := .lit (.bool _)) (lb hb1) rfl) ?_
       refine WPL.nilW ?_
       have q0 := j1 H
       subst q0
       exact W.wk [0, 1] hnp r3 ⟨rfl, AA2, by decide, rfl, trivial⟩ (LeE.u (LeE.u (LeE.u (LeE.u (LeE.none rfl rfl))))) rfl
     replace H := cnf hb1 H
     refine WPL.sg false rfl (lb hb1) ?_
     refine WPL.sg false rfl (lb hb1) ?_
     refine WPL.sg false rfl (lb hb1) ?_
     refine WPL.sg false rfl (lb hb1) ?_
     refine WPL.sg false rfl (lb hb1) ?_
     refine WPL.sg false rfl (lb hb1) ?_
     refine WPL.sg false rfl (lb hb1) ?_
     refine WPL.qq (q_pickF (v := .lit (.bool _)) (lb hb1) rfl) ?_
     refine WPL.nilW ?_
     have q0 := j1 H
     subst q0
     exact W.wk [0, 1] hnp r3 ⟨rfl, AA2, by decide, rfl, trivial⟩ (LeE.u (LeE.u (LeE.u (LeE.u (LeE.none rfl rfl))))) rfl
   rintro _ _ _ ⟨rfl, rfl, rfl⟩
   refine W.now ?_
   refine Then.n ?_
   refine WP.cond (t := x7) rfl (fun hb2 => ?_) (fun hb2 => ?_)
   · replace H := cnt hb2 H
     refine WP.skipW ?_
     refine W.now ?_
     refine Then.n ?_
     refine WP.block ?_
     refine WP.region ?_
     refine WPL.qq (q_mv (v := .lit (.int _ _)) rfl) ?_
     refine WPL.qq (q_sub rfl rfl) ?_
     refine WPL.qq (q_as (v := .lit (.int _ _)) rfl) ?_
     refine WPL.nilW ?_
     exact W.wk [0, 1] hnp (InBlock.n (Then.n ⟨n, (IntKind.wrap .i64 (x6 - 1)), Nat.lt_succ_self n, H, rfl, rfl⟩)) ⟨rfl, AA2, by decide, rfl, trivial⟩ (LeE.u (LeE.u (LeE.u (LeE.none rfl rfl)))) rfl
   replace H := cnf hb2 H
   refine WP.exitW ?_
   have q0 := j1 H
   subst q0
   exact W.wk [0, 1] hnp (Then.x (Then.x r3)) ⟨rfl, AA2, by decide, rfl, trivial⟩ (LeE.u (LeE.u (LeE.u (LeE.none rfl rfl)))) rfl
 rintro _ _ _ ⟨rfl, rfl, rfl⟩
 refine W.now ?_
 refine InBlock.x0 ?_
 refine Then.n ?_
 refine WP.seq ?_
 refine WP.sr ?_
 refine WPL.qq (q_mv (v := .lit (.int _ _)) rfl) ?_
 refine WPL.qq (q_eql rfl rfl) ?_
 refine WPL.nx ?_
 refine WP.cond (t := (decide (x5 = 0))) rfl (fun hb3 => ?_) (fun hb3 => ?_)
 · replace H := cnt hb3 H
   refine WP.sr ?_
   refine WPL.qq (q_build bu78 rfl) ?_
   refine WPL.s (s_store sz78 rfl rfl rfl rfl rfl) ?_
   refine WPL.nx ?_
   refine WP.retW ?_
   refine W.cv (Cv.nilRoC (Rd.int .i64) false (i := 1) (off := 1) rfl rfl rfl) rfl ?_
   obtain ⟨rfl, rfl⟩ := j2 H
   exact W.now (Then.r (BodyR.mkR trivial rfl [1] ⟨rfl, rfl⟩ ⟨rfl, AA1, by decide, rfl, trivial⟩ rfl rfl))
 replace H := cnf hb3 H
 refine WP.skipW ?_
 refine W.now ?_
 refine Then.n ?_
 refine WP.seq ?_
 refine WP.regionD' 10 [0] [] mixed rfl ?_
 refine WPD.tT 0 rfl (q_fieldAddr fi78_0 rfl rfl) ?_
 refine WPD.tT 3 rfl (q_fieldAddr fi78_1 rfl rfl) ?_
 refine WPD.tT 5 rfl (q_mv (v := .lit (.int _ _)) rfl) ?_
 refine WPD.take 1 rfl (by kernel_rfl) (q_load sc4 rfl rfl rfl) rfl rfl ?_
 refine WPD.take 4 rfl (by kernel_rfl) (q_load sc76 rfl rfl rfl) rfl rfl ?_
 obtain ⟨h2, H⟩ := grd H
 refine WPD.tT 6 rfl (q_slice_ro (i := 0) (j := x5) sl76 rfl rfl rfl ⟨_, rfl⟩ h2) ?_
 refine WPD.ef 2 [0] [] rfl (Does.runs (d_buildSlice (ds := ([] : List Int)) (R := (Rd.int .i64)) li76 rfl rfl rfl rfl rfl JoinRows.nil rfl rfl)) ?_
 obtain ⟨h3, H⟩ := grd H
 refine WPD.ef 7 [0] [] rfl (Does.runs (d_append ap76 rfl rfl rfl rfl (src_ro sl76 rfl) h3 rfl)) ?_
 refine WPD.tT 8 rfl (q_build bu78 rfl) ?_
 refine WPD.effS 9 [0] [] rfl (by kernel_rfl) (s_store sz78 rfl rfl rfl rfl rfl) rfl ?_
 refine WPD.doneW (by kernel_rfl) ?_
 refine W.now ?_
 refine Then.n ?_
 refine WP.retW ?_
 refine W.cv (Cv.frzRow (i := 3) rfl rfl hnp rfl rfl) rfl ?_
 obtain ⟨rfl, rfl⟩ := j2 H
 exact W.now (BodyR.mkR trivial rfl [1] ⟨rfl, rfl⟩ ⟨rfl, AA1, by decide, rfl, trivial⟩ rfl rfl)
theorem s_r9_trim__b (k : Nat) (x1 : Bool) (x2 : (List Int)) (x3 : Bool) (x4 : (List Int)) (H : g_r9_trim k x1 x2 = some (x3, x4)) : Go.Q.Spec Tryz.prog 97 0 [.agg [.lit (.bool x1), .whole 0]] (Mem.nil.push (.row 3 (Rd.int .i64) x2)) (fun o M => o = .ret (.agg [.lit (.bool x3), .ro (Rd.slice (Rd.int .i64)) false x4]) ∧ M = (Mem.nil.push (.cells 78 [.lit (.bool x3), .ro (Rd.slice (Rd.int .i64)) false x4]))) := by
 unfold g_r9_trim at H
 refine Go.Q.Spec.of_bodyR (az := [(78, 2)]) (rs := [.cell 2 78]) (nt := 32) Tryz.func97 rfl rfl (by intro t T h; simp at h; rcases h with ⟨rfl, rfl⟩ <;> first | exact ag78) rfl rfl fun cx hnp => ?_
 refine WP.sr ?_
 refine WPL.d (d_box rfl rfl) rfl ?_
 refine WPL.d (d_alloc ze78 rfl) rfl ?_
 refine WPL.nx ?_
 refine WP.sr ?_
 refine WPL.qq (q_fieldAddr fi78_1 rfl rfl) ?_
 refine WPL.qq (q_load sc76 rfl rfl rfl) ?_
 refine WPL.qq (q_len_row sl76 rfl rfl) ?_
 refine WPL.qq (q_as (v := .lit (.int _ _)) rfl) ?_
 refine WPL.nx ?_
 refine WP.seq ?_
 refine WP.block ?_
 refine WP.cv (Cv.weak (E' := (((Env.none.upd 1 (.ptr 0 0)).upd 2 (.ptr 2 0)).upd 3 (.lit (.int .i64 ((List.length x2 : Nat) : Int))))) (M' := (((Mem.nil.push (.cells 78 [.lit (.bool x1), .whole 1])).push (.row 3 (Rd.int .i64) x2)).push (.cells 78 [.lit (.bool false), .lit (.slice none 0 0)]))) [1, 0, 2] hnp ⟨rfl, AA3, by decide, rfl, trivial⟩ (LeE.u (LeE.u (LeE.u (LeE.none rfl rfl))))) ?_
 obtain ⟨x5, H1, H⟩ := bnd H
 refine WP.monoW (Q := fun x E M => x = .exit 0 ∧ E = (((Env.none.upd 1 (.ptr 0 0)).upd 2 (.ptr 2 0)).upd 3 (.lit (.int .i64 x5))) ∧ M = (((Mem.nil.push (.cells 78 [.lit (.bool x1), .whole 1])).push (.row 3 (Rd.int .i64) x2)).push (.cells 78 [.lit (.bool false), .lit (.slice none 0 0)]))) ?_ ?_
 · refine WP.loop (β := Int) (fun n b => g_r9_trim_l0 k x2 n b = some x5) (fun b => (((Env.none.upd 1 (.ptr 0 0)).upd 2 (.ptr 2 0)).upd 3 (.lit (.int .i64 b)))) (fun b => (((Mem.nil.push (.cells 78 [.lit (.bool x1), .whole 1])).push (.row 3 (Rd.int .i64) x2)).push (.cells 78 [.lit (.bool false), .lit (.slice none 0 0)]))) k ((List.length x2 : Nat) : Int) H1 rfl rfl ?_
   rintro n x6 H
   obtain _ | n := n
   · exact nf rfl H
   rw [g_r9_trim_l0.eq_2] at H
   show WP _ _ _ _ (((Env.none.upd 1 (.ptr 0 0)).upd 2 (.ptr 2 0)).upd 3 (.lit (.int .i64 x6))) (((Mem.nil.push (.cells 78 [.lit (.bool x1), .whole 1])).push (.row 3 (Rd.int .i64) x2)).push (.cells 78 [.lit (.bool false), .lit (.slice none 0 0)])) _
   refine WP.seq ?_
   refine WP.seq ?_
   obtain ⟨x7, H2, H⟩ := bnd H
   refine WP.monoW (Q := fun x E M => x = .normal ∧ E = ((((Env.none.upd 1 (.ptr 0 0)).upd 2 (.ptr 2 0)).upd 3 (.lit (.int .i64 x6))).upd 17 (.lit (.bool x7))) ∧ M = (((Mem.nil.push (.cells 78 [.lit (.bool x1), .whole 1])).push (.row 3 (Rd.int .i64) x2)).push (.cells 78 [.lit (.bool false), .lit (.slice none 0 0)]))) ?_ ?_
   · clear H
     have H := H2
     clear H2
     refine WP.region ?_
     refine WPL.qq (q_mv (v := .lit (.int _ _)) rfl) ?_
     refine WPL.qq (q_gtr rfl rfl) ?_
     refine WPL.qq (q_mv (v := .lit (.bool _)) rfl) ?_
     refine WPL.split (t := 9) (b := (decide (0 < x6))) rfl (fun hb1 => ?_) (fun hb1 => ?_)
     · replace H := cnt hb1 H
       refine WPL.gq rfl (lb hb1) (q_fieldAddr fi78_1 rfl rfl) ?_
       refine WPL.gq rfl (lb hb1) (q_load sc76 rfl rfl rfl) ?_
       refine WPL.gq rfl (lb hb1) (q_mv (v := .lit (.int _ _)) rfl) ?_
       refine WPL.gq rfl (lb hb1) (q_sub rfl rfl) ?_
       obtain ⟨x8, h1, H⟩ := bnd H
       refine WPL.gq rfl (lb hb1) (q_index_row sl76 rfl rfl rfl (ixs h1)) ?_
       refine WPL.gq rfl (lb hb1) (q_load_row (j := (Int.toNat (IntKind.wrap .i64 (x6 - 1)))) sc3 rfl rfl (ixj h1)) ?_
       refine WPL.gq rfl (lb hb1) (q_eql rfl rfl) ?_
       refine WPL.qq (q_pickT (v := .lit (.bool _)) (lb hb1) rfl) ?_
       refine WPL.nilW ?_
       have q0 := j1 H
       subst q0
       exact W.wk [0, 1, 2] hnp r3 ⟨rfl, AA3, by decide, rfl, trivial⟩ (LeE.u (LeE.u (LeE.u (LeE.u (LeE.none rfl rfl))))) rfl
     replace H := cnf hb1 H
     refine WPL.sg false rfl (lb hb1) ?_
     refine WPL.sg false rfl (lb hb1) ?_
     refine WPL.sg false rfl (lb hb1) ?_
     refine WPL.sg false rfl (lb hb1) ?_
     refine WPL.sg false rfl (lb hb1) ?_
     refine WPL.sg false rfl (lb hb1) ?_
     refine WPL.sg false rfl (lb hb1) ?_
     refine WPL.qq (q_pickF (v := .lit (.bool _)) (lb hb1) rfl) ?_
     refine WPL.nilW ?_
     have q0 := j1 H
     subst q0
     exact W.wk [0, 1, 2] hnp r3 ⟨rfl, AA3, by decide, rfl, trivial⟩ (LeE.u (LeE.u (LeE.u (LeE.u (LeE.none rfl rfl))))) rfl
   rintro _ _ _ ⟨rfl, rfl, rfl⟩
   refine W.now ?_
   refine Then.n ?_
   refine WP.cond (t := x7) rfl (fun hb2 => ?_) (fun hb2 => ?_)
   · replace H := cnt hb2 H
     refine WP.skipW ?_
     refine W.now ?_
     refine Then.n ?_
     refine WP.block ?_
     refine WP.region ?_
     refine WPL.qq (q_mv (v := .lit (.int _ _)) rfl) ?_
     refine WPL.qq (q_sub rfl rfl) ?_
     refine WPL.qq (q_as (v := .lit (.int _ _)) rfl) ?_
     refine WPL.nilW ?_
     exact W.wk [0, 1, 2] hnp (InBlock.n (Then.n ⟨n, (IntKind.wrap .i64 (x6 - 1)), Nat.lt_succ_self n, H, rfl, rfl⟩)) ⟨rfl, AA3, by decide, rfl, trivial⟩ (LeE.u (LeE.u (LeE.u (LeE.none rfl rfl)))) rfl
   replace H := cnf hb2 H
   refine WP.exitW ?_
   have q0 := j1 H
   subst q0
   exact W.wk [0, 1, 2] hnp (Then.x (Then.x r3)) ⟨rfl, AA3, by decide, rfl, trivial⟩ (LeE.u (LeE.u (LeE.u (LeE.none rfl rfl)))) rfl
 rintro _ _ _ ⟨rfl, rfl, rfl⟩
 refine W.now ?_
 refine InBlock.x0 ?_
 refine Then.n ?_
 refine WP.seq ?_
 refine WP.sr ?_
 refine WPL.qq (q_mv (v := .lit (.int _ _)) rfl) ?_
 refine WPL.qq (q_eql rfl rfl) ?_
 refine WPL.nx ?_
 refine WP.cond (t := (decide (x5 = 0))) rfl (fun hb3 => ?_) (fun hb3 => ?_)
 · replace H := cnt hb3 H
   refine WP.sr ?_
   refine WPL.qq (q_build bu78 rfl) ?_
   refine WPL.s (s_store sz78 rfl rfl rfl rfl rfl) ?_
   refine WPL.nx ?_
   refine WP.retW ?_
   refine W.cv (Cv.nilRoC (Rd.int .i64) false (i := 2) (off := 1) rfl rfl rfl) rfl ?_
   obtain ⟨rfl, rfl⟩ := j2 H
   exact W.now (Then.r (BodyR.mkR trivial rfl [2] ⟨rfl, rfl⟩ ⟨rfl, AA1, by decide, rfl, trivial⟩ rfl rfl))
 replace H := cnf hb3 H
 refine WP.skipW ?_
 refine W.now ?_
 refine Then.n ?_
 refine WP.seq ?_
 refine WP.regionD' 10 [0] [] mixed rfl ?_
 refine WPD.tT 0 rfl (q_fieldAddr fi78_0 rfl rfl) ?_
 refine WPD.tT 3 rfl (q_fieldAddr fi78_1 rfl rfl) ?_
 refine WPD.tT 5 rfl (q_mv (v := .lit (.int _ _)) rfl) ?_
 refine WPD.take 1 rfl (by kernel_rfl) (q_load sc4 rfl rfl rfl) rfl rfl ?_
 refine WPD.take 4 rfl (by kernel_rfl) (q_load sc76 rfl rfl rfl) rfl rfl ?_
 obtain ⟨h2, H⟩ := grd H
 refine WPD.cvL (CvL.frzRow (i := 1) rfl rfl hnp rfl rfl) rfl ?_
 refine WPD.tT 6 rfl (q_slice_ro (i := 0) (j := x5) sl76 rfl rfl rfl ⟨_, rfl⟩ h2) ?_
 refine WPD.ef 2 [0] [] rfl (Does.runs (d_buildSlice (ds := ([] : List Int)) (R := (Rd.int .i64)) li76 rfl rfl rfl rfl rfl JoinRows.nil rfl rfl)) ?_
 obtain ⟨h3, H⟩ := grd H
 refine WPD.ef 7 [0] [] rfl (Does.runs (d_append ap76 rfl rfl rfl rfl (src_ro sl76 rfl) h3 rfl)) ?_
 refine WPD.tT 8 rfl (q_build bu78 rfl) ?_
 refine WPD.effS 9 [0] [] rfl (by kernel_rfl) (s_store sz78 rfl rfl rfl rfl rfl) rfl ?_
 refine WPD.doneW (by kernel_rfl) ?_
 refine W.now ?_
 refine Then.n ?_
 refine WP.retW ?_
 refine W.cv (Cv.frzRow (i := 4) rfl rfl hnp rfl rfl) rfl ?_
 obtain ⟨rfl, rfl⟩ := j2 H
 exact W.now (BodyR.mkR trivial rfl [2] ⟨rfl, rfl⟩ ⟨rfl, AA1, by decide, rfl, trivial⟩ rfl rfl)
theorem s_r9_Shift (k : Nat) (x1 : Bool) (x2 : (List Int)) (x3 : Int) (x4 : Bool) (x5 : (List Int)) (H : g_r9_Shift k x1 x2 x3 = some (x4, x5)) : Go.Q.Spec Tryz.prog 118 0 [.agg [.lit (.bool x1), .ro (Rd.slice (Rd.int .i64)) false x2], .lit (.int .i64 x3)] Mem.nil (fun o M => o = .ret (.agg [.lit (.bool x4), .ro (Rd.slice (Rd.int .i64)) false x5]) ∧ M = (Mem.nil.push (.cells 78 [.lit (.bool x4), .ro (Rd.slice (Rd.int .i64)) false x5]))) := by
 unfold g_r9_Shift at H
 refine Go.Q.Spec.of_bodyR (az := [(78, 2)]) (rs := [.cell 4 78]) (nt := 14) Tryz.func118 rfl rfl (by intro t T h; simp at h; rcases h with ⟨rfl, rfl⟩ <;> first | exact ag78) rfl rfl fun cx hnp => ?_
 refine WP.sr ?_
 refine WPL.d (d_box rfl rfl) rfl ?_
 refine WPL.d (d_alloc ze78 rfl) rfl ?_
 refine WPL.nx ?_
 refine WP.seq ?_
 refine WP.regionD' 10 [0] [] mixed rfl ?_
 refine WPD.tT 0 rfl (q_fieldAddr fi78_0 rfl rfl) ?_
 refine WPD.tT 2 rfl (q_mv (v := .lit (.int _ _)) rfl) ?_
 refine WPD.tT 4 rfl (q_fieldAddr fi78_1 rfl rfl) ?_
 refine WPD.take 1 rfl (by kernel_rfl) (q_load sc4 rfl rfl rfl) rfl rfl ?_
 refine WPD.take 5 rfl (by kernel_rfl) (q_load sc76 rfl rfl rfl) rfl rfl ?_
 obtain ⟨h1, H⟩ := grd H
 refine WPD.ef 3 [0] [] rfl (Does.runs (d_make (d := (0 : Int)) (R := (Rd.int .i64)) li76 by3 rfl rfl rfl Joins.sc rfl rfl h1 rfl)) ?_
 obtain ⟨h2, H⟩ := grd H
 refine WPD.ef 6 [0] [] rfl (Does.runs (d_append ap76 rfl rfl rfl rfl (src_ro sl76 rfl) h2 rfl)) ?_
 refine WPD.tT 7 rfl (q_build bu78 rfl) ?_
 obtain ⟨⟨x6, x7⟩, h3, H⟩ := bnd H
 refine WPD.ef 8 [0] [] rfl (runs_call (s := [3]) (t := [4]) (N := 5) (bor := []) fn97 rfl (s_r9_trim__b k x1 ((List.replicate (Int.toNat x3) (0 : Int)) ++ x2) x6 x7 h3) ⟨rfl, AA1, by decide, rfl, trivial⟩ rfl trivial (.ren rfl rfl .nil) rfl BB1 rfl) ?_
 refine WPD.effS 9 [0] [] rfl (by kernel_rfl) (s_store sz78 rfl rfl rfl rfl rfl) rfl ?_
 refine WPD.doneW (by kernel_rfl) ?_
 refine W.now ?_
 refine Then.n ?_
 refine WP.retW ?_
 obtain ⟨rfl, rfl⟩ := j2 H
 exact W.now (BodyR.mkR trivial rfl [1] ⟨rfl, rfl⟩ ⟨rfl, AA1, by decide, rfl, trivial⟩ rfl rfl)
theorem s_r9_at (k : Nat) (x1 : Bool) (x2 : (List Int)) (x3 : Int) (x4 : Int) (H : g_r9_at k x1 x2 x3 = some x4) : Go.Q.Spec Tryz.prog 130 0 [.agg [.lit (.bool x1), .ro (Rd.slice (Rd.int .i64)) false x2], .lit (.int .i64 x3)] Mem.nil (fun o M => o = .ret (.lit (.int .i64 x4)) ∧ M = Mem.nil) := by
 unfold g_r9_at at H
 refine Go.Q.Spec.of_bodyR (az := []) (rs := [.tmp 4]) (nt := 19) Tryz.func130 rfl rfl (by intro t T h; simp at h) rfl rfl fun cx hnp => ?_
 refine WP.sr ?_
 refine WPL.d (d_box rfl rfl) rfl ?_
 refine WPL.qq (q_as (v := .lit (.int _ _)) rfl) ?_
 refine WPL.nx ?_
 refine WP.seq ?_
 refine WP.seq ?_
 obtain ⟨x5, H1, H⟩ := bnd H
 refine WP.monoW (Q := fun x E M => x = .normal ∧ E = (((Env.none.upd 1 (.lit (.int .i64 x3))).upd 2 (.ptr 0 0)).upd 13 (.lit (.bool x5))) ∧ M = (Mem.nil.push (.cells 78 [.lit (.bool x1), .ro (Rd.slice (Rd.int .i64)) false x2]))) ?_ ?_
 · clear H
   have H := H1
   clear H1
   refine WP.region ?_
   refine WPL.qq (q_mv (v := .lit (.int _ _)) rfl) ?_
   refine WPL.qq (q_geq rfl rfl) ?_
   refine WPL.qq (q_mv (v := .lit (.bool _)) rfl) ?_
   refine WPL.split (t := 7) (b := (decide (0 ≤ x3))) rfl (fun hb1 => ?_) (fun hb1 => ?_)
   · replace H := cnt hb1 H
     refine WPL.gq rfl (lb hb1) (q_mv (v := .lit (.int _ _)) rfl) ?_
     refine WPL.gq rfl (lb hb1) (q_fieldAddr fi78_1 rfl rfl) ?_
     refine WPL.gq rfl (lb hb1) (q_load sc76 rfl rfl rfl) ?_
     refine WPL.gq rfl (lb hb1) (q_len_ro sl76 rfl) ?_
     obtain ⟨x6, h1, H⟩ := bnd H
     refine WPL.gq rfl (lb hb1) (q_nm (q_lss rfl rfl) (nm_bool h1)) ?_
     refine WPL.qq (q_pickT (v := .lit (.bool _)) (lb hb1) rfl) ?_
     refine WPL.nilW ?_
     have q0 := j1 H
     subst q0
     exact W.wk [0] hnp r3 ⟨rfl, AA1, by decide, rfl, trivial⟩ (LeE.u (LeE.u (LeE.u (LeE.none rfl rfl)))) rfl
   replace H := cnf hb1 H
   refine WPL.sg false rfl (lb hb1) ?_
   refine WPL.sg false rfl (lb hb1) ?_
   refine WPL.sg false rfl (lb hb1) ?_
   refine WPL.sg false rfl (lb hb1) ?_
   refine WPL.sg false rfl (lb hb1) ?_
   refine WPL.qq (q_pickF (v := .lit (.bool _)) (lb hb1) rfl) ?_
   refine WPL.nilW ?_
   have q0 := j1 H
   subst q0
   exact W.wk [0] hnp r3 ⟨rfl, AA1, by decide, rfl, trivial⟩ (LeE.u (LeE.u (LeE.u (LeE.none rfl rfl)))) rfl
 rintro _ _ _ ⟨rfl, rfl, rfl⟩
 refine W.now ?_
 refine Then.n ?_
 refine WP.cond (t := x5) rfl (fun hb2 => ?_) (fun hb2 => ?_)
 · replace H := cnt hb2 H
   refine WP.sr ?_
   refine WPL.qq (q_fieldAddr fi78_1 rfl rfl) ?_
   refine WPL.qq (q_load sc76 rfl rfl rfl) ?_
   refine WPL.qq (q_mv (v := .lit (.int _ _)) rfl) ?_
   obtain ⟨x7, h2, H⟩ := bnd H
   refine WPL.qq (q_index_ro sl76 rfl rfl rfl h2) ?_
   refine WPL.qq (q_load_sc sc3 rfl) ?_
   refine WPL.qq (q_as (v := .lit (.int _ _)) rfl) ?_
   refine WPL.nx ?_
   refine WP.retW ?_
   have q0 := j1 H
   subst q0
   exact W.now (Then.r (BodyR.mkR trivial rfl [] ⟨rfl, rfl⟩ ⟨rfl, trivial, by decide, rfl, trivial⟩ rfl rfl))
 replace H := cnf hb2 H
 refine WP.skipW ?_
 refine W.now ?_
 refine Then.n ?_
 refine WP.sr ?_
 refine WPL.qq (q_as (v := .lit (.int _ _)) rfl) ?_
 refine WPL.nx ?_
 refine WP.retW ?_
 have q0 := j1 H
 subst q0
 exact W.now (BodyR.mkR trivial rfl [] ⟨rfl, rfl⟩ ⟨rfl, trivial, by decide, rfl, trivial⟩ rfl rfl)
theorem s_r9_more (k : Nat) (x1 : Bool) (x2 : (List Int)) (x3 : Bool) (x4 : (List Int)) (x5 : Int) (H : g_r9_more k x1 x2 x3 x4 = some x5) : Go.Q.Spec Tryz.prog 152 0 [.agg [.lit (.bool x1), .ro (Rd.slice (Rd.int .i64)) false x2], .agg [.lit (.bool x3), .ro (Rd.slice (Rd.int .i64)) false x4]] Mem.nil (fun o M => o = .ret (.lit (.int .i64 x5)) ∧ M = Mem.nil) := by
 unfold g_r9_more at H
 refine Go.Q.Spec.of_bodyR (az := []) (rs := [.tmp 4]) (nt := 31) Tryz.func152 rfl rfl (by intro t T h; simp at h) rfl rfl fun cx hnp => ?_
 refine WP.sr ?_
 refine WPL.d (d_box rfl rfl) rfl ?_
 refine WPL.d (d_box rfl rfl) rfl ?_
 refine WPL.qq (q_as (v := .lit (.int _ _)) rfl) ?_
 refine WPL.nx ?_
 refine WP.seq ?_
 refine WP.sr ?_
 refine WPL.qq (q_fieldAddr fi78_1 rfl rfl) ?_
 refine WPL.qq (q_load sc76 rfl rfl rfl) ?_
 refine WPL.qq (q_len_ro sl76 rfl) ?_
 refine WPL.qq (q_fieldAddr fi78_1 rfl rfl) ?_
 refine WPL.qq (q_load sc76 rfl rfl rfl) ?_
 refine WPL.qq (q_len_ro sl76 rfl) ?_
 obtain ⟨x6, h1, H⟩ := bnd H
 refine WPL.qq (q_nm (q_add rfl rfl) (nm_int h1)) ?_
 refine WPL.qq (q_as (v := .lit (.int _ _)) rfl) ?_
 refine WPL.nx ?_
 refine WP.block ?_
 refine WP.cv (Cv.weak (E' := (((Env.none.upd 2 (.ptr 0 0)).upd 3 (.ptr 1 0)).upd 5 (.lit (.int .i64 x6)))) (M' := ((Mem.nil.push (.cells 78 [.lit (.bool x1), .ro (Rd.slice (Rd.int .i64)) false x2])).push (.cells 78 [.lit (.bool x3), .ro (Rd.slice (Rd.int .i64)) false x4]))) [0, 1] hnp ⟨rfl, AA2, by decide, rfl, trivial⟩ (LeE.u (LeE.u (LeE.u (LeE.none rfl rfl))))) ?_
 obtain ⟨y1, H1, H⟩ := bnd H
 refine WP.monoW (Q := fun x E M => match (generalizing := false) y1 with | (Sum.inl x7) => x = .ret ∧ E = (Env.none.upd 4 (.lit (.int .i64 x7))) ∧ M = Mem.nil | (Sum.inr _) => x = .exit 0 ∧ E = Env.none ∧ M = Mem.nil) ?_ ?_
 · refine WP.loop (β := Int) (fun n b => g_r9_more_l0 k x1 x2 x3 x4 n b = some y1) (fun b => (((Env.none.upd 2 (.ptr 0 0)).upd 3 (.ptr 1 0)).upd 5 (.lit (.int .i64 b)))) (fun b => ((Mem.nil.push (.cells 78 [.lit (.bool x1), .ro (Rd.slice (Rd.int .i64)) false x2])).push (.cells 78 [.lit (.bool x3), .ro (Rd.slice (Rd.int .i64)) false x4]))) k x6 H1 rfl rfl ?_
   rintro n x8 H
   obtain _ | n := n
   · exact nf rfl H
   rw [g_r9_more_l0.eq_2] at H
   show WP _ _ _ _ (((Env.none.upd 2 (.ptr 0 0)).upd 3 (.ptr 1 0)).upd 5 (.lit (.int .i64 x8))) ((Mem.nil.push (.cells 78 [.lit (.bool x1), .ro (Rd.slice (Rd.int .i64)) false x2])).push (.cells 78 [.lit (.bool x3), .ro (Rd.slice (Rd.int .i64)) false x4])) _
   refine WP.seq ?_
   refine WP.sr ?_
   refine WPL.qq (q_mv (v := .lit (.int _ _)) rfl) ?_
   refine WPL.qq (q_geq rfl rfl) ?_
   refine WPL.nx ?_
   refine WP.cond (t := (decide (0 ≤ x8))) rfl (fun hb1 => ?_) (fun hb1 => ?_)
   · replace H := cnt hb1 H
     refine WP.skipW ?_
     refine W.now ?_
     refine Then.n ?_
     refine WP.seq ?_
     refine WP.block ?_
     refine WP.seq ?_
     refine WP.seq ?_
     refine WP.regionD' 7 [0, 1] [] mixed rfl ?_
     refine WPD.tT 1 rfl (q_mv (v := .lit (.int _ _)) rfl) ?_
     refine WPD.tT 4 rfl (q_mv (v := .lit (.int _ _)) rfl) ?_
     refine WPD.take 0 rfl (by kernel_rfl) (q_load_ag ag78 rfl rfl (Nat.le_of_ble_eq_true rfl)) rfl rfl ?_
     refine WPD.take 3 rfl (by kernel_rfl) (q_load_ag ag78 rfl rfl (Nat.le_of_ble_eq_true rfl)) rfl rfl ?_
     obtain ⟨x9, h2, H⟩ := bnd H
     refine WPD.ef 2 [0, 1] [] rfl (runs_call (s := []) (t := []) (N := 2) (bor := []) fn130 rfl (s_r9_at k x1 x2 x8 x9 h2) ⟨rfl, trivial, by decide, rfl, trivial⟩ rfl trivial (.ren rfl rfl (.ren rfl rfl .nil)) rfl trivial rfl) ?_
     obtain ⟨x10, h3, H⟩ := bnd H
     refine WPD.ef 5 [0, 1] [] rfl (runs_call (s := []) (t := []) (N := 2) (bor := []) fn130 rfl (s_r9_at k x3 x4 x8 x10 h3) ⟨rfl, trivial, by decide, rfl, trivial⟩ rfl trivial (.ren rfl rfl (.ren rfl rfl .nil)) rfl trivial rfl) ?_
     refine WPD.tT 6 rfl (q_gtr rfl rfl) ?_
     refine WPD.doneW (by kernel_rfl) ?_
     refine W.now ?_
     refine Then.n ?_
     refine WP.cond (t := (decide (x10 < x9))) rfl (fun hb2 => ?_) (fun hb2 => ?_)
     · replace H := cnt hb2 H
       refine WP.sr ?_
       refine WPL.qq (q_as (v := .lit (.int _ _)) rfl) ?_
       refine WPL.nx ?_
       refine WP.retW ?_
       have q0 := j1 H
       subst q0
       exact W.wk [] hnp (Then.r (InBlock.r (Then.r (Then.r r3)))) ⟨rfl, trivial, by decide, rfl, trivial⟩ (LeE.u (LeE.none rfl rfl)) rfl
     replace H := cnf hb2 H
     refine WP.skipW ?_
     refine W.now ?_
     refine Then.n ?_
     refine WP.seq ?_
     refine WP.regionD' 7 [0, 1] [] mixed rfl ?_
     refine WPD.tT 1 rfl (q_mv (v := .lit (.int _ _)) rfl) ?_
     refine WPD.tT 4 rfl (q_mv (v := .lit (.int _ _)) rfl) ?_
     refine WPD.take 0 rfl (by kernel_rfl) (q_load_ag ag78 rfl rfl (Nat.le_of_ble_eq_true rfl)) rfl rfl ?_
     refine WPD.take 3 rfl (by kernel_rfl) (q_load_ag ag78 rfl rfl (Nat.le_of_ble_eq_true rfl)) rfl rfl ?_
     obtain ⟨x11, h4, H⟩ := bnd H
     refine WPD.ef 2 [0, 1] [] rfl (runs_call (s := []) (t := []) (N := 2) (bor := []) fn130 rfl (s_r9_at k x1 x2 x8 x11 h4) ⟨rfl, trivial, by decide, rfl, trivial⟩ rfl trivial (.ren rfl rfl (.ren rfl rfl .nil)) rfl trivial rfl) ?_
     obtain ⟨x12, h5, H⟩ := bnd H
     refine WPD.ef 5 [0, 1] [] rfl (runs_call (s := []) (t := []) (N := 2) (bor := []) fn130 rfl (s_r9_at k x3 x4 x8 x12 h5) ⟨rfl, trivial, by decide, rfl, trivial⟩ rfl trivial (.ren rfl rfl (.ren rfl rfl .nil)) rfl trivial rfl) ?_
     refine WPD.tT 6 rfl (q_lss rfl rfl) ?_
     refine WPD.doneW (by kernel_rfl) ?_
     refine W.now ?_
     refine Then.n ?_
     refine WP.cond (t := (decide (x11 < x12))) rfl (fun hb3 => ?_) (fun hb3 => ?_)
     · replace H := cnt hb3 H
       refine WP.sr ?_
       refine WPL.qq (q_as (v := .lit (.int _ _)) rfl) ?_
       refine WPL.nx ?_
       refine WP.retW ?_
       have q0 := j1 H
       subst q0
       exact W.wk [] hnp (InBlock.r (Then.r (Then.r r3))) ⟨rfl, trivial, by decide, rfl, trivial⟩ (LeE.u (LeE.none rfl rfl)) rfl
     replace H := cnf hb3 H
     refine WP.skipW ?_
     refine W.now ?_
     refine InBlock.n ?_
     refine Then.n ?_
     refine WP.region ?_
     refine WPL.qq (q_mv (v := .lit (.int _ _)) rfl) ?_
     refine WPL.qq (q_sub rfl rfl) ?_
     refine WPL.qq (q_as (v := .lit (.int _ _)) rfl) ?_
     refine WPL.nilW ?_
     exact W.wk [0, 1] hnp (Then.n ⟨n, (IntKind.wrap .i64 (x8 - 1)), Nat.lt_succ_self n, H, rfl, rfl⟩) ⟨rfl, AA2, by decide, rfl, trivial⟩ (LeE.u (LeE.u (LeE.u (LeE.none rfl rfl)))) rfl
   replace H := cnf hb1 H
   refine WP.exitW ?_
   have q0 := j1 H
   subst q0
   exact W.wk [] hnp (Then.x (Then.x r3)) ⟨rfl, trivial, by decide, rfl, trivial⟩ (LeE.none rfl rfl) rfl
 rcases y1 with x7 | _
 · rintro _ _ _ ⟨rfl, rfl, rfl⟩
   have q0 := j1 H
   subst q0
   exact W.now (InBlock.r (Then.r (BodyR.mkR trivial rfl [] ⟨rfl, rfl⟩ ⟨rfl, trivial, by decide, rfl, trivial⟩ rfl rfl)))
 rintro _ _ _ ⟨rfl, rfl, rfl⟩
 refine W.now ?_
 refine InBlock.x0 ?_
 refine Then.n ?_
 refine WP.sr ?_
 refine WPL.qq (q_as (v := .lit (.int _ _)) rfl) ?_
 refine WPL.nx ?_
 refine WP.retW ?_
 have q0 := j1 H
 subst q0
 exact W.now (BodyR.mkR trivial rfl [] ⟨rfl, rfl⟩ ⟨rfl, trivial, by decide, rfl, trivial⟩ rfl rfl)
theorem s_r9_fits (k : Nat) (x1 : Bool) (x2 : (List Int)) (x3 : Bool) (H : g_r9_fits k x1 x2 = some x3) : Go.Q.Spec Tryz.prog 134 0 [.agg [.lit (.bool x1), .ro (Rd.slice (Rd.int .i64)) false x2]] Mem.nil (fun o M => o = .ret (.lit (.bool x3)) ∧ M = Mem.nil) := by
 unfold g_r9_fits at H
 refine Go.Q.Spec.of_bodyR (az := []) (rs := [.tmp 2]) (nt := 22) Tryz.func134 rfl rfl (by intro t T h; simp at h) rfl rfl fun cx hnp => ?_
 refine WP.sr ?_
 refine WPL.d (d_box rfl rfl) rfl ?_
 refine WPL.qq (q_as (v := .lit (.bool _)) rfl) ?_
 refine WPL.nx ?_
 refine WP.sr ?_
 obtain ⟨x4, h1, H⟩ := bnd H
 refine WPL.c (runs_call (s := []) (t := [1]) (N := 2) (bor := []) fn85 rfl (s_r9_Of k (-9223372036854775808) x4 h1) ⟨rfl, trivial, by decide, rfl, trivial⟩ rfl trivial (.ren rfl rfl .nil) rfl BB1 rfl) rfl ?_
 refine WPL.d (d_alloc ze78 rfl) rfl ?_
 refine WPL.s (s_store sz78 rfl rfl rfl rfl rfl) ?_
 refine WPL.nx ?_
 refine WP.sr ?_
 refine WPL.qq (q_fieldAddr fi78_0 rfl rfl) ?_
 refine WPL.qq (q_load sc4 rfl rfl rfl) ?_
 refine WPL.qq (q_fieldAddr fi78_0 rfl rfl) ?_
 refine WPL.s (s_store sz4 rfl rfl rfl rfl rfl) ?_
 refine WPL.nx ?_
 refine WP.sr ?_
 refine WPL.qq (q_load_ag ag78 rfl rfl (Nat.le_of_ble_eq_true rfl)) ?_
 refine WPL.qq (q_load_ag ag78 rfl rfl (Nat.le_of_ble_eq_true rfl)) ?_
 obtain ⟨x5, h2, H⟩ := bnd H
 refine WPL.c (runs_call (s := []) (t := []) (N := 3) (bor := []) fn152 rfl (s_r9_more k x1 x2 x1 x4 x5 h2) ⟨rfl, trivial, by decide, rfl, trivial⟩ rfl trivial (.ren rfl rfl (.ren rfl rfl .nil)) rfl trivial rfl) rfl ?_
 refine WPL.qq (q_as (v := .lit (.int _ _)) rfl) ?_
 refine WPL.nx ?_
 refine WP.seq ?_
 obtain ⟨x6, H1, H⟩ := bnd H
 refine WP.monoW (Q := fun x E M => x = .normal ∧ E = (Env.none.upd 2 (.lit (.bool x6))) ∧ M = Mem.nil) ?_ ?_
 · clear H
   have H := H1
   clear H1
   refine WP.region ?_
   refine WPL.qq (q_mv (v := .lit (.int _ _)) rfl) ?_
   refine WPL.qq (q_lss rfl rfl) ?_
   refine WPL.qq (q_mv (v := .lit (.bool _)) rfl) ?_
   refine WPL.split (t := 14) (b := (decide (x5 < 0))) rfl (fun hb1 => ?_) (fun hb1 => ?_)
   · replace H := cnt hb1 H
     refine WPL.sg true rfl (lb hb1) ?_
     refine WPL.sg true rfl (lb hb1) ?_
     refine WPL.sg true rfl (lb hb1) ?_
     refine WPL.skipu rfl rfl rfl rfl (.inl trivial) ?_
     refine WPL.skipu rfl rfl rfl rfl (.inl trivial) ?_
     refine WPL.sg true rfl (lb hb1) ?_
     refine WPL.qq (q_pickT (v := .lit (.bool _)) (lb hb1) rfl) ?_
     refine WPL.qq (q_as (v := .lit (.bool _)) rfl) ?_
     refine WPL.nilW ?_
     have q0 := j1 H
     subst q0
     exact W.wk [] hnp r3 ⟨rfl, trivial, by decide, rfl, trivial⟩ (LeE.u (LeE.none rfl rfl)) rfl
   replace H := cnf hb1 H
   refine WPL.gq rfl (lb hb1) (q_mv (v := .lit (.int _ _)) rfl) ?_
   refine WPL.gq rfl (lb hb1) (q_eql rfl rfl) ?_
   refine WPL.gq rfl (lb hb1) (q_mv (v := .lit (.bool _)) rfl) ?_
   refine WPL.split (t := 17) (b := (decide (x5 = 0))) rfl (fun hb2 => ?_) (fun hb2 => ?_)
   · replace H := cnt hb2 H
     refine WPL.gq rfl (lb hb2) (q_fieldAddr fi78_0 rfl rfl) ?_
     refine WPL.gq rfl (lb hb2) (q_load sc4 rfl rfl rfl) ?_
     refine WPL.gq rfl (lb hb1) (q_pickT (v := .lit (.bool _)) (lb hb2) rfl) ?_
     refine WPL.qq (q_pickF (v := .lit (.bool _)) (lb hb1) rfl) ?_
     refine WPL.qq (q_as (v := .lit (.bool _)) rfl) ?_
     refine WPL.nilW ?_
     have q0 := j1 H
     subst q0
     exact W.wk [] hnp r3 ⟨rfl, trivial, by decide, rfl, trivial⟩ (LeE.u (LeE.none rfl rfl)) rfl
   replace H := cnf hb2 H
   refine WPL.sg false rfl (lb hb2) ?_
   refine WPL.sg false rfl (lb hb2) ?_
   refine WPL.gq rfl (lb hb1) (q_pickF (v := .lit (.bool _)) (lb hb2) rfl) ?_
   refine WPL.qq (q_pickF (v := .lit (.bool _)) (lb hb1) rfl) ?_
   refine WPL.qq (q_as (v := .lit (.bool _)) rfl) ?_
   refine WPL.nilW ?_
   have q0 := j1 H
   subst q0
   exact W.wk [] hnp r3 ⟨rfl, trivial, by decide, rfl, trivial⟩ (LeE.u (LeE.none rfl rfl)) rfl
 rintro _ _ _ ⟨rfl, rfl, rfl⟩
 refine W.now ?_
 refine Then.n ?_
 refine WP.retW ?_
 have q0 := j1 H
 subst q0
 exact W.now (BodyR.mkR trivial rfl [] ⟨rfl, rfl⟩ ⟨rfl, trivial, by decide, rfl, trivial⟩ rfl rfl)
theorem s_r9_Tell (k : Nat) (x1 : Bool) (x2 : (List Int)) (x3 : Int) (x4 : Int) (x5 : Int) (x6 : Int) (H : g_r9_Tell k x1 x2 x3 = some (x4, x5, x6)) : Go.Q.Spec Tryz.prog 84 0 [.agg [.lit (.bool x1), .ro (Rd.slice (Rd.int .i64)) false x2, .lit (.int .i64 x3)]] Mem.nil (fun o M => o = .ret (.tup [.agg [.lit (.int .i64 x5), .lit (.int .i64 x6)], .lit (.int .i64 x4)]) ∧ M = (Mem.nil.push (.cells 23 [.lit (.int .i64 x5), .lit (.int .i64 x6)]))) := by
 unfold g_r9_Tell at H
 refine Go.Q.Spec.of_bodyR (az := [(23, 2)]) (rs := [.cell 2 23, .tmp 3]) (nt := 93) Tryz.func84 rfl rfl (by intro t T h; simp at h; rcases h with ⟨rfl, rfl⟩ <;> first | exact ag23) rfl rfl fun cx hnp => ?_
 refine WP.sr ?_
 refine WPL.d (d_box rfl rfl) rfl ?_
 refine WPL.d (d_alloc ze23 rfl) rfl ?_
 refine WPL.qq (q_as (v := .lit (.int _ _)) rfl) ?_
 refine WPL.nx ?_
 refine WP.seq ?_
 refine WP.regionD' 7 [0] [] mixed rfl ?_
 refine WPD.tT 0 rfl (q_fieldAddr fi81_0 rfl rfl) ?_
 refine WPD.tT 2 rfl (q_fieldAddr fi81_1 rfl rfl) ?_
 refine WPD.take 1 rfl (by kernel_rfl) (q_load_ag ag78 rfl rfl (Nat.le_of_ble_eq_true rfl)) rfl rfl ?_
 refine WPD.take 3 rfl (by kernel_rfl) (q_load sc3 rfl rfl rfl) rfl rfl ?_
 refine WPD.ef 4 [0] [] rfl (Does.runs (d_alloc ze78 rfl)) ?_
 refine WPD.effS 5 [0] [] rfl (by kernel_rfl) (s_store sz78 rfl rfl rfl rfl rfl) rfl ?_
 refine WPD.tT 6 rfl (q_as (v := .lit (.int _ _)) rfl) ?_
 refine WPD.doneW (by kernel_rfl) ?_
 refine W.now ?_
 refine Then.n ?_
 refine WP.seq ?_
 refine WP.sr ?_
 refine WPL.qq (q_fieldAddr fi78_1 rfl rfl) ?_
 refine WPL.qq (q_load sc76 rfl rfl rfl) ?_
 refine WPL.qq (q_len_ro sl76 rfl) ?_
 obtain ⟨x7, h1, H⟩ := bnd H
 refine WPL.qq (q_nm (q_eql rfl rfl) (nm_bool h1)) ?_
 refine WPL.nx ?_
 refine WP.cond (t := x7) rfl (fun hb1 => ?_) (fun hb1 => ?_)
 · replace H := cnt hb1 H
   refine WP.sr ?_
   refine WPL.qq (q_build bu23 rfl) ?_
   refine WPL.s (s_store sz23 rfl rfl rfl rfl rfl) ?_
   refine WPL.qq (q_as (v := .lit (.int _ _)) rfl) ?_
   refine WPL.nx ?_
   refine WP.retW ?_
   obtain ⟨rfl, rfl, rfl⟩ := j3 H
   exact W.now (Then.r (BodyR.mkR trivial rfl [1] ⟨rfl, rfl⟩ ⟨rfl, AA1, by decide, rfl, trivial⟩ rfl rfl))
 replace H := cnf hb1 H
 refine WP.skipW ?_
 refine W.now ?_
 refine Then.n ?_
 refine WP.seq ?_
 refine WP.sr ?_
 refine WPL.qq (q_mv (v := .lit (.int _ _)) rfl) ?_
 refine WPL.qq (q_gtr rfl rfl) ?_
 refine WPL.nx ?_
 refine WP.cond (t := (decide (60 < x3))) rfl (fun hb2 => ?_) (fun hb2 => ?_)
 · replace H := cnt hb2 H
   refine WP.sr ?_
   refine WPL.qq (q_build bu23 rfl) ?_
   refine WPL.s (s_store sz23 rfl rfl rfl rfl rfl) ?_
   refine WPL.qq (q_as (v := .lit (.int _ _)) rfl) ?_
   refine WPL.nx ?_
   refine WP.retW ?_
   obtain ⟨rfl, rfl, rfl⟩ := j3 H
   exact W.now (Then.r (BodyR.mkR trivial rfl [1] ⟨rfl, rfl⟩ ⟨rfl, AA1, by decide, rfl, trivial⟩ rfl rfl))
 replace H := cnf hb2 H
 refine WP.skipW ?_
 refine W.now ?_
 refine Then.n ?_
 refine WP.seq ?_
 refine WP.block ?_
 refine WP.cv (Cv.weak (E' := (((Env.none.upd 2 (.ptr 0 0)).upd 4 (.ptr 1 0)).upd 5 (.lit (.int .i64 x3)))) (M' := ((Mem.nil.push (.cells 23 [.lit (.int .i64 0), .lit (.int .i64 0)])).push (.cells 78 [.lit (.bool x1), .ro (Rd.slice (Rd.int .i64)) false x2]))) [1, 2] hnp ⟨rfl, AA2, by decide, rfl, trivial⟩ (LeE.u (LeE.u (LeE.u (LeE.none rfl rfl))))) ?_
 obtain ⟨⟨x8, x9, x10⟩, H1, H⟩ := bnd H
 refine WP.monoW (Q := fun x E M => x = .exit 0 ∧ E = (((Env.none.upd 2 (.ptr 0 0)).upd 4 (.ptr 1 0)).upd 5 (.lit (.int .i64 x8))) ∧ M = ((Mem.nil.push (.cells 23 [.lit (.int .i64 0), .lit (.int .i64 0)])).push (.cells 78 [.lit (.bool x9), .ro (Rd.slice (Rd.int .i64)) false x10]))) ?_ ?_
 · refine WP.loop (β := Int × Bool × (List Int)) (fun n b => g_r9_Tell_l0 k n b.1 b.2.1 b.2.2 = some (x8, x9, x10)) (fun b => (((Env.none.upd 2 (.ptr 0 0)).upd 4 (.ptr 1 0)).upd 5 (.lit (.int .i64 b.1)))) (fun b => ((Mem.nil.push (.cells 23 [.lit (.int .i64 0), .lit (.int .i64 0)])).push (.cells 78 [.lit (.bool b.2.1), .ro (Rd.slice (Rd.int .i64)) false b.2.2]))) k (x3, x1, x2) H1 rfl rfl ?_
   rintro n ⟨x11, x12, x13⟩ H
   obtain _ | n := n
   · exact nf rfl H
   rw [g_r9_Tell_l0.eq_2] at H
   show WP _ _ _ _ (((Env.none.upd 2 (.ptr 0 0)).upd 4 (.ptr 1 0)).upd 5 (.lit (.int .i64 x11))) ((Mem.nil.push (.cells 23 [.lit (.int .i64 0), .lit (.int .i64 0)])).push (.cells 78 [.lit (.bool x12), .ro (Rd.slice (Rd.int .i64)) false x13])) _
   refine WP.seq ?_
   refine WP.seq ?_
   obtain ⟨x14, H2, H⟩ := bnd H
   refine WP.monoW (Q := fun x E M => x = .normal ∧ E = ((((Env.none.upd 2 (.ptr 0 0)).upd 4 (.ptr 1 0)).upd 5 (.lit (.int .i64 x11))).upd 30 (.lit (.bool x14))) ∧ M = ((Mem.nil.push (.cells 23 [.lit (.int .i64 0), .lit (.int .i64 0)])).push (.cells 78 [.lit (.bool x12), .ro (Rd.slice (Rd.int .i64)) false x13]))) ?_ ?_
   · clear H
     have H := H2
     clear H2
     refine WP.region ?_
     refine WPL.qq (q_fieldAddr fi78_1 rfl rfl) ?_
     refine WPL.qq (q_load sc76 rfl rfl rfl) ?_
     refine WPL.qq (q_len_ro sl76 rfl) ?_
     obtain ⟨x15, h2, H⟩ := bnd H
     refine WPL.qq (q_nm (q_gtr rfl rfl) (nm_bool h2)) ?_
     refine WPL.qq (q_mv (v := .lit (.bool _)) rfl) ?_
     refine WPL.split (t := 24) (b := x15) rfl (fun hb3 => ?_) (fun hb3 => ?_)
     · replace H := cnt hb3 H
       refine WPL.gq rfl (lb hb3) (q_fieldAddr fi78_1 rfl rfl) ?_
       refine WPL.gq rfl (lb hb3) (q_load sc76 rfl rfl rfl) ?_
       obtain ⟨x16, h3, H⟩ := bnd H
       refine WPL.gq rfl (lb hb3) (q_index_ro sl76 rfl rfl rfl h3) ?_
       refine WPL.gq rfl (lb hb3) (q_load_sc sc3 rfl) ?_
       refine WPL.gq rfl (lb hb3) (q_eql rfl rfl) ?_
       refine WPL.qq (q_pickT (v := .lit (.bool _)) (lb hb3) rfl) ?_
       refine WPL.nilW ?_
       have q0 := j1 H
       subst q0
       exact W.wk [0, 1] hnp r3 ⟨rfl, AA2, by decide, rfl, trivial⟩ (LeE.u (LeE.u (LeE.u (LeE.u (LeE.none rfl rfl))))) rfl
     replace H := cnf hb3 H
     refine WPL.sg false rfl (lb hb3) ?_
     refine WPL.sg false rfl (lb hb3) ?_
     refine WPL.sg false rfl (lb hb3) ?_
     refine WPL.sg false rfl (lb hb3) ?_
     refine WPL.sg false rfl (lb hb3) ?_
     refine WPL.qq (q_pickF (v := .lit (.bool _)) (lb hb3) rfl) ?_
     refine WPL.nilW ?_
     have q0 := j1 H
     subst q0
     exact W.wk [0, 1] hnp r3 ⟨rfl, AA2, by decide, rfl, trivial⟩ (LeE.u (LeE.u (LeE.u (LeE.u (LeE.none rfl rfl))))) rfl
   rintro _ _ _ ⟨rfl, rfl, rfl⟩
   refine W.now ?_
   refine Then.n ?_
   refine WP.cond (t := x14) rfl (fun hb4 => ?_) (fun hb4 => ?_)
   · replace H := cnt hb4 H
     refine WP.skipW ?_
     refine W.now ?_
     refine Then.n ?_
     refine WP.block ?_
     refine WP.seq ?_
     refine WP.regionD' 8 [1] [7] mixed rfl ?_
     refine WPD.tT 0 rfl (q_fieldAddr fi78_0 rfl rfl) ?_
     refine WPD.tT 2 rfl (q_fieldAddr fi78_1 rfl rfl) ?_
     refine WPD.take 1 rfl (by kernel_rfl) (q_load sc4 rfl rfl rfl) rfl rfl ?_
     refine WPD.take 3 rfl (by kernel_rfl) (q_load sc76 rfl rfl rfl) rfl rfl ?_
     obtain ⟨h4, H⟩ := grd H
     refine WPD.tT 4 rfl (q_slice_ro (i := 1) (j := ((List.length x13 : Nat) : Int)) sl76 rfl rfl ⟨_, rfl⟩ rfl h4) ?_
     refine WPD.tT 5 rfl (q_build bu78 rfl) ?_
     obtain ⟨⟨x17, x18⟩, h5, H⟩ := bnd H
     refine WPD.ef 6 [1] [7] rfl (runs_call (s := []) (t := [2]) (N := 3) (bor := []) fn97 rfl (s_r9_trim k x12 (List.drop (Int.toNat 1) (List.take (Int.toNat ((List.length x13 : Nat) : Int)) x13)) x17 x18 h5) ⟨rfl, trivial, by decide, rfl, trivial⟩ rfl trivial (.ren rfl rfl .nil) rfl BB1 rfl) ?_
     refine WPD.effS 7 [] [] rfl (by kernel_rfl) (s_store sz78 rfl rfl rfl rfl rfl) rfl ?_
     refine WPD.doneW (by kernel_rfl) ?_
     refine W.now ?_
     refine Then.n ?_
     refine WP.region ?_
     refine WPL.qq (q_mv (v := .lit (.int _ _)) rfl) ?_
     refine WPL.qq (q_add rfl rfl) ?_
     refine WPL.qq (q_as (v := .lit (.int _ _)) rfl) ?_
     refine WPL.nilW ?_
     exact W.wk [0, 1] hnp (InBlock.n (Then.n ⟨n, ((IntKind.wrap .i64 (x11 + 1)), x17, x18), Nat.lt_succ_self n, H, rfl, rfl⟩)) ⟨rfl, AA2, by decide, rfl, trivial⟩ (LeE.u (LeE.u (LeE.u (LeE.none rfl rfl)))) rfl
   replace H := cnf hb4 H
   refine WP.exitW ?_
   obtain ⟨rfl, rfl, rfl⟩ := j3 H
   exact W.wk [0, 1] hnp (Then.x (Then.x r3)) ⟨rfl, AA2, by decide, rfl, trivial⟩ (LeE.u (LeE.u (LeE.u (LeE.none rfl rfl)))) rfl
 rintro _ _ _ ⟨rfl, rfl, rfl⟩
 refine W.now ?_
 refine InBlock.x0 ?_
 refine Then.n ?_
 refine WP.seq ?_
 refine WP.block ?_
 refine WP.cv (Cv.weak (E' := (((Env.none.upd 2 (.ptr 0 0)).upd 4 (.ptr 1 0)).upd 5 (.lit (.int .i64 x8)))) (M' := ((Mem.nil.push (.cells 23 [.lit (.int .i64 0), .lit (.int .i64 0)])).push (.cells 78 [.lit (.bool x9), .ro (Rd.slice (Rd.int .i64)) false x10]))) [0, 1] hnp ⟨rfl, AA2, by decide, rfl, trivial⟩ (LeE.u (LeE.u (LeE.u (LeE.none rfl rfl))))) ?_
 obtain ⟨⟨x19, x20, x21⟩, H3, H⟩ := bnd H
 refine WP.monoW (Q := fun x E M => x = .exit 2 ∧ E = (((Env.none.upd 2 (.ptr 0 0)).upd 4 (.ptr 1 0)).upd 5 (.lit (.int .i64 x19))) ∧ M = ((Mem.nil.push (.cells 23 [.lit (.int .i64 0), .lit (.int .i64 0)])).push (.cells 78 [.lit (.bool x20), .ro (Rd.slice (Rd.int .i64)) false x21]))) ?_ ?_
 · refine WP.loop (β := Int × Bool × (List Int)) (fun n b => g_r9_Tell_l1 k n b.1 b.2.1 b.2.2 = some (x19, x20, x21)) (fun b => (((Env.none.upd 2 (.ptr 0 0)).upd 4 (.ptr 1 0)).upd 5 (.lit (.int .i64 b.1)))) (fun b => ((Mem.nil.push (.cells 23 [.lit (.int .i64 0), .lit (.int .i64 0)])).push (.cells 78 [.lit (.bool b.2.1), .ro (Rd.slice (Rd.int .i64)) false b.2.2]))) k (x8, x9, x10) H3 rfl rfl ?_
   rintro n ⟨x22, x23, x24⟩ H
   obtain _ | n := n
   · exact nf rfl H
   rw [g_r9_Tell_l1.eq_2] at H
   show WP _ _ _ _ (((Env.none.upd 2 (.ptr 0 0)).upd 4 (.ptr 1 0)).upd 5 (.lit (.int .i64 x22))) ((Mem.nil.push (.cells 23 [.lit (.int .i64 0), .lit (.int .i64 0)])).push (.cells 78 [.lit (.bool x23), .ro (Rd.slice (Rd.int .i64)) false x24])) _
   refine WP.seq ?_
   refine WP.seq ?_
   obtain ⟨x25, H4, H⟩ := bnd H
   refine WP.monoW (Q := fun x E M => x = .normal ∧ E = ((((Env.none.upd 2 (.ptr 0 0)).upd 4 (.ptr 1 0)).upd 5 (.lit (.int .i64 x22))).upd 47 (.lit (.bool x25))) ∧ M = ((Mem.nil.push (.cells 23 [.lit (.int .i64 0), .lit (.int .i64 0)])).push (.cells 78 [.lit (.bool x23), .ro (Rd.slice (Rd.int .i64)) false x24]))) ?_ ?_
   · clear H
     have H := H4
     clear H4
     refine WP.region ?_
     refine WPL.qq (q_mv (v := .lit (.int _ _)) rfl) ?_
     refine WPL.qq (q_gtr rfl rfl) ?_
     refine WPL.qq (q_mv (v := .lit (.bool _)) rfl) ?_
     refine WPL.split (t := 42) (b := (decide (18 < x22))) rfl (fun hb5 => ?_) (fun hb5 => ?_)
     · replace H := cnt hb5 H
       refine WPL.gq rfl (lb hb5) (q_fieldAddr fi78_1 rfl rfl) ?_
       refine WPL.gq rfl (lb hb5) (q_load sc76 rfl rfl rfl) ?_
       refine WPL.gq rfl (lb hb5) (q_len_ro sl76 rfl) ?_
       obtain ⟨x26, h6, H⟩ := bnd H
       refine WPL.gq rfl (lb hb5) (q_nm (q_lss rfl rfl) (nm_bool h6)) ?_
       refine WPL.qq (q_pickT (v := .lit (.bool _)) (lb hb5) rfl) ?_
       refine WPL.nilW ?_
       have q0 := j1 H
       subst q0
       exact W.wk [0, 1] hnp r3 ⟨rfl, AA2, by decide, rfl, trivial⟩ (LeE.u (LeE.u (LeE.u (LeE.u (LeE.none rfl rfl))))) rfl
     replace H := cnf hb5 H
     refine WPL.sg false rfl (lb hb5) ?_
     refine WPL.sg false rfl (lb hb5) ?_
     refine WPL.sg false rfl (lb hb5) ?_
     refine WPL.sg false rfl (lb hb5) ?_
     refine WPL.qq (q_pickF (v := .lit (.bool _)) (lb hb5) rfl) ?_
     refine WPL.nilW ?_
     have q0 := j1 H
     subst q0
     exact W.wk [0, 1] hnp r3 ⟨rfl, AA2, by decide, rfl, trivial⟩ (LeE.u (LeE.u (LeE.u (LeE.u (LeE.none rfl rfl))))) rfl
   rintro _ _ _ ⟨rfl, rfl, rfl⟩
   refine W.now ?_
   refine Then.n ?_
   refine WP.cond (t := x25) rfl (fun hb6 => ?_) (fun hb6 => ?_)
   · replace H := cnt hb6 H
     refine WP.skipW ?_
     refine W.now ?_
     refine Then.n ?_
     refine WP.block ?_
     refine WP.sr ?_
     refine WPL.qq (q_load_ag ag78 rfl rfl (Nat.le_of_ble_eq_true rfl)) ?_
     obtain ⟨⟨x27, x28⟩, h7, H⟩ := bnd H
     refine WPL.c (runs_call (s := []) (t := [2]) (N := 3) (bor := []) fn118 rfl (s_r9_Shift k x23 x24 1 x27 x28 h7) ⟨rfl, trivial, by decide, rfl, trivial⟩ rfl trivial (.ren rfl rfl (.ren rfl rfl .nil)) rfl BB1 rfl) rfl ?_
     refine WPL.s (s_store sz78 rfl rfl rfl rfl rfl) ?_
     refine WPL.nx ?_
     refine WP.region ?_
     refine WPL.qq (q_mv (v := .lit (.int _ _)) rfl) ?_
     refine WPL.qq (q_sub rfl rfl) ?_
     refine WPL.qq (q_as (v := .lit (.int _ _)) rfl) ?_
     refine WPL.nilW ?_
     exact W.wk [0, 1] hnp (InBlock.n (Then.n ⟨n, ((IntKind.wrap .i64 (x22 - 1)), x27, x28), Nat.lt_succ_self n, H, rfl, rfl⟩)) ⟨rfl, AA2, by decide, rfl, trivial⟩ (LeE.u (LeE.u (LeE.u (LeE.none rfl rfl)))) rfl
   replace H := cnf hb6 H
   refine WP.exitW ?_
   obtain ⟨rfl, rfl, rfl⟩ := j3 H
   exact W.wk [0, 1] hnp (Then.x (Then.x r3)) ⟨rfl, AA2, by decide, rfl, trivial⟩ (LeE.u (LeE.u (LeE.u (LeE.none rfl rfl)))) rfl
 rintro _ _ _ ⟨rfl, rfl, rfl⟩
 refine W.now ?_
 refine InBlock.x0 ?_
 refine Then.n ?_
 refine WP.seq ?_
 refine WP.seq ?_
 obtain ⟨x29, H5, H⟩ := bnd H
 refine WP.monoW (Q := fun x E M => x = .normal ∧ E = ((((Env.none.upd 2 (.ptr 0 0)).upd 4 (.ptr 1 0)).upd 5 (.lit (.int .i64 x19))).upd 62 (.lit (.bool x29))) ∧ M = ((Mem.nil.push (.cells 23 [.lit (.int .i64 0), .lit (.int .i64 0)])).push (.cells 78 [.lit (.bool x20), .ro (Rd.slice (Rd.int .i64)) false x21]))) ?_ ?_
 · clear H
   have H := H5
   clear H5
   refine WP.region ?_
   refine WPL.qq (q_mv (v := .lit (.int _ _)) rfl) ?_
   refine WPL.qq (q_gtr rfl rfl) ?_
   refine WPL.qq (q_mv (v := .lit (.bool _)) rfl) ?_
   refine WPL.split (t := 54) (b := (decide (18 < x19))) rfl (fun hb7 => ?_) (fun hb7 => ?_)
   · replace H := cnt hb7 H
     refine WPL.sg true rfl (lb hb7) ?_
     refine WPL.sg true rfl (lb hb7) ?_
     refine WPL.qq (q_pickT (v := .lit (.bool _)) (lb hb7) rfl) ?_
     refine WPL.qq (q_mv (v := .lit (.bool _)) rfl) ?_
     refine WPL.sg true rfl rfl ?_
     refine WPL.sg true rfl rfl ?_
     refine WPL.sg true rfl rfl ?_
     refine WPL.qq (q_pickT (v := .lit (.bool _)) rfl rfl) ?_
     refine WPL.nilW ?_
     have q0 := j1 H
     subst q0
     exact W.wk [0, 1] hnp r3 ⟨rfl, AA2, by decide, rfl, trivial⟩ (LeE.u (LeE.u (LeE.u (LeE.u (LeE.none rfl rfl))))) rfl
   replace H := cnf hb7 H
   refine WPL.gq rfl (lb hb7) (q_mv (v := .lit (.int _ _)) rfl) ?_
   refine WPL.gq rfl (lb hb7) (q_lss rfl rfl) ?_
   refine WPL.qq (q_pickF (v := .lit (.bool _)) (lb hb7) rfl) ?_
   refine WPL.qq (q_mv (v := .lit (.bool _)) rfl) ?_
   refine WPL.split (t := 58) (b := (decide (x19 < (-18)))) rfl (fun hb8 => ?_) (fun hb8 => ?_)
   · replace H := cnt hb8 H
     refine WPL.sg true rfl (lb hb8) ?_
     refine WPL.sg true rfl (lb hb8) ?_
     refine WPL.sg true rfl (lb hb8) ?_
     refine WPL.qq (q_pickT (v := .lit (.bool _)) (lb hb8) rfl) ?_
     refine WPL.nilW ?_
     have q0 := j1 H
     subst q0
     exact W.wk [0, 1] hnp r3 ⟨rfl, AA2, by decide, rfl, trivial⟩ (LeE.u (LeE.u (LeE.u (LeE.u (LeE.none rfl rfl))))) rfl
   replace H := cnf hb8 H
   refine WPL.gq rfl (lb hb8) (q_load_ag ag78 rfl rfl (Nat.le_of_ble_eq_true rfl)) ?_
   obtain ⟨x30, h8, H⟩ := bnd H
   refine WPL.cg rfl rfl (lb hb8) (runs_call (s := []) (t := []) (N := 2) (bor := []) fn134 rfl (s_r9_fits k x20 x21 x30 h8) ⟨rfl, trivial, by decide, rfl, trivial⟩ rfl trivial (.ren rfl rfl .nil) rfl trivial rfl) rfl ?_
   refine WPL.gq rfl (lb hb8) (q_not rfl) ?_
   refine WPL.qq (q_pickF (v := .lit (.bool _)) (lb hb8) rfl) ?_
   refine WPL.nilW ?_
   have q0 := j1 H
   subst q0
   exact W.wk [0, 1] hnp r3 ⟨rfl, AA2, by decide, rfl, trivial⟩ (LeE.u (LeE.u (LeE.u (LeE.u (LeE.none rfl rfl))))) rfl
 rintro _ _ _ ⟨rfl, rfl, rfl⟩
 refine W.now ?_
 refine Then.n ?_
 refine WP.cond (t := x29) rfl (fun hb9 => ?_) (fun hb9 => ?_)
 · replace H := cnt hb9 H
   refine WP.sr ?_
   refine WPL.qq (q_build bu23 rfl) ?_
   refine WPL.s (s_store sz23 rfl rfl rfl rfl rfl) ?_
   refine WPL.qq (q_as (v := .lit (.int _ _)) rfl) ?_
   refine WPL.nx ?_
   refine WP.retW ?_
   obtain ⟨rfl, rfl, rfl⟩ := j3 H
   exact W.now (Then.r (BodyR.mkR trivial rfl [0] ⟨rfl, rfl⟩ ⟨rfl, AA1, by decide, rfl, trivial⟩ rfl rfl))
 replace H := cnf hb9 H
 refine WP.skipW ?_
 refine W.now ?_
 refine Then.n ?_
 refine WP.sr ?_
 refine WPL.qq (q_as (v := .lit (.int _ _)) rfl) ?_
 refine WPL.nx ?_
 refine WP.seq ?_
 refine WP.sr ?_
 refine WPL.qq (q_fieldAddr fi78_1 rfl rfl) ?_
 refine WPL.qq (q_load sc76 rfl rfl rfl) ?_
 refine WPL.qq (q_len_ro sl76 rfl) ?_
 obtain ⟨x31, h9, H⟩ := bnd H
 refine WPL.qq (q_nm (q_sub rfl rfl) (nm_int h9)) ?_
 refine WPL.qq (q_as (v := .lit (.int _ _)) rfl) ?_
 refine WPL.nx ?_
 refine WP.block ?_
 refine WP.cv (Cv.weak (E' := (((((Env.none.upd 2 (.ptr 0 0)).upd 4 (.ptr 1 0)).upd 5 (.lit (.int .i64 x19))).upd 6 (.lit (.int .i64 0))).upd 7 (.lit (.int .i64 x31)))) (M' := ((Mem.nil.push (.cells 23 [.lit (.int .i64 0), .lit (.int .i64 0)])).push (.cells 78 [.lit (.bool x20), .ro (Rd.slice (Rd.int .i64)) false x21]))) [0, 1] hnp ⟨rfl, AA2, by decide, rfl, trivial⟩ (LeE.u (LeE.u (LeE.u (LeE.u (LeE.u (LeE.none rfl rfl))))))) ?_
 obtain ⟨x32, H6, H⟩ := bnd H
 refine WP.monoW (Q := fun x E M => x = .exit 4 ∧ E = (((Env.none.upd 2 (.ptr 0 0)).upd 5 (.lit (.int .i64 x19))).upd 6 (.lit (.int .i64 x32))) ∧ M = (Mem.nil.push (.cells 23 [.lit (.int .i64 0), .lit (.int .i64 0)]))) ?_ ?_
 · refine WP.loop (β := Int × Int) (fun n b => g_r9_Tell_l2 k x20 x21 n b.1 b.2 = some x32) (fun b => (((((Env.none.upd 2 (.ptr 0 0)).upd 4 (.ptr 1 0)).upd 5 (.lit (.int .i64 x19))).upd 6 (.lit (.int .i64 b.1))).upd 7 (.lit (.int .i64 b.2)))) (fun b => ((Mem.nil.push (.cells 23 [.lit (.int .i64 0), .lit (.int .i64 0)])).push (.cells 78 [.lit (.bool x20), .ro (Rd.slice (Rd.int .i64)) false x21]))) k (0, x31) H6 rfl rfl ?_
   rintro n ⟨x33, x34⟩ H
   obtain _ | n := n
   · exact nf rfl H
   rw [g_r9_Tell_l2.eq_2] at H
   show WP _ _ _ _ (((((Env.none.upd 2 (.ptr 0 0)).upd 4 (.ptr 1 0)).upd 5 (.lit (.int .i64 x19))).upd 6 (.lit (.int .i64 x33))).upd 7 (.lit (.int .i64 x34))) ((Mem.nil.push (.cells 23 [.lit (.int .i64 0), .lit (.int .i64 0)])).push (.cells 78 [.lit (.bool x20), .ro (Rd.slice (Rd.int .i64)) false x21])) _
   refine WP.seq ?_
   refine WP.sr ?_
   refine WPL.qq (q_mv (v := .lit (.int _ _)) rfl) ?_
   refine WPL.qq (q_geq rfl rfl) ?_
   refine WPL.nx ?_
   refine WP.cond (t := (decide (0 ≤ x34))) rfl (fun hb10 => ?_) (fun hb10 => ?_)
   · replace H := cnt hb10 H
     refine WP.skipW ?_
     refine W.now ?_
     refine Then.n ?_
     refine WP.seq ?_
     obtain ⟨x35, H7, H⟩ := bnd H
     refine WP.monoW (Q := fun x E M => x = .normal ∧ E = (((((Env.none.upd 2 (.ptr 0 0)).upd 4 (.ptr 1 0)).upd 5 (.lit (.int .i64 x19))).upd 6 (.lit (.int .i64 x35))).upd 7 (.lit (.int .i64 x34))) ∧ M = ((Mem.nil.push (.cells 23 [.lit (.int .i64 0), .lit (.int .i64 0)])).push (.cells 78 [.lit (.bool x20), .ro (Rd.slice (Rd.int .i64)) false x21]))) ?_ ?_
     · clear H
       have H := H7
       clear H7
       refine WP.block ?_
       refine WP.sr ?_
       refine WPL.qq (q_fieldAddr fi78_0 rfl rfl) ?_
       refine WPL.qq (q_load sc4 rfl rfl rfl) ?_
       refine WPL.nx ?_
       refine WP.cond (t := x20) rfl (fun hb11 => ?_) (fun hb11 => ?_)
       · replace H := cnt hb11 H
         refine WP.region ?_
         refine WPL.qq (q_mv (v := .lit (.int _ _)) rfl) ?_
         refine WPL.qq (q_mul rfl rfl) ?_
         refine WPL.qq (q_fieldAddr fi78_1 rfl rfl) ?_
         refine WPL.qq (q_load sc76 rfl rfl rfl) ?_
         refine WPL.qq (q_mv (v := .lit (.int _ _)) rfl) ?_
         obtain ⟨x36, h10, H⟩ := bnd H
         refine WPL.qq (q_index_ro sl76 rfl rfl rfl h10) ?_
         refine WPL.qq (q_load_sc sc3 rfl) ?_
         obtain ⟨x37, h11, H⟩ := bnd H
         refine WPL.qq (q_nm (q_sub rfl rfl) (nm_int h11)) ?_
         refine WPL.qq (q_as (v := .lit (.int _ _)) rfl) ?_
         refine WPL.nilW ?_
         have q0 := j1 H
         subst q0
         exact W.wk [0, 1] hnp (InBlock.n r3) ⟨rfl, AA2, by decide, rfl, trivial⟩ (LeE.u (LeE.u (LeE.u (LeE.u (LeE.u (LeE.none rfl rfl)))))) rfl
       replace H := cnf hb11 H
       refine WP.region ?_
       refine WPL.qq (q_mv (v := .lit (.int _ _)) rfl) ?_
       refine WPL.qq (q_mul rfl rfl) ?_
       refine WPL.qq (q_fieldAddr fi78_1 rfl rfl) ?_
       refine WPL.qq (q_load sc76 rfl rfl rfl) ?_
       refine WPL.qq (q_mv (v := .lit (.int _ _)) rfl) ?_
       obtain ⟨x38, h12, H⟩ := bnd H
       refine WPL.qq (q_index_ro sl76 rfl rfl rfl h12) ?_
       refine WPL.qq (q_load_sc sc3 rfl) ?_
       obtain ⟨x39, h13, H⟩ := bnd H
       refine WPL.qq (q_nm (q_add rfl rfl) (nm_int h13)) ?_
       refine WPL.qq (q_as (v := .lit (.int _ _)) rfl) ?_
       refine WPL.nilW ?_
       have q0 := j1 H
       subst q0
       exact W.wk [0, 1] hnp (InBlock.n r3) ⟨rfl, AA2, by decide, rfl, trivial⟩ (LeE.u (LeE.u (LeE.u (LeE.u (LeE.u (LeE.none rfl rfl)))))) rfl
     rintro _ _ _ ⟨rfl, rfl, rfl⟩
     refine W.now ?_
     refine Then.n ?_
     refine WP.region ?_
     refine WPL.qq (q_mv (v := .lit (.int _ _)) rfl) ?_
     refine WPL.qq (q_sub rfl rfl) ?_
     refine WPL.qq (q_as (v := .lit (.int _ _)) rfl) ?_
     refine WPL.nilW ?_
     exact W.wk [0, 1] hnp (Then.n ⟨n, (x35, (IntKind.wrap .i64 (x34 - 1))), Nat.lt_succ_self n, H, rfl, rfl⟩) ⟨rfl, AA2, by decide, rfl, trivial⟩ (LeE.u (LeE.u (LeE.u (LeE.u (LeE.u (LeE.none rfl rfl)))))) rfl
   replace H := cnf hb10 H
   refine WP.exitW ?_
   have q0 := j1 H
   subst q0
   exact W.wk [0] hnp (Then.x (Then.x r3)) ⟨rfl, AA1, by decide, rfl, trivial⟩ (LeE.u (LeE.u (LeE.u (LeE.none rfl rfl)))) rfl
 rintro _ _ _ ⟨rfl, rfl, rfl⟩
 refine W.now ?_
 refine InBlock.x0 ?_
 refine Then.n ?_
 refine WP.sr ?_
 refine WPL.qq (q_mv (v := .lit (.int _ _)) rfl) ?_
 refine WPL.qq (q_mv (v := .lit (.int _ _)) rfl) ?_
 refine WPL.qq (q_build bu23 rfl) ?_
 refine WPL.s (s_store sz23 rfl rfl rfl rfl rfl) ?_
 refine WPL.qq (q_as (v := .lit (.int _ _)) rfl) ?_
 refine WPL.nx ?_
 refine WP.retW ?_
 obtain ⟨rfl, rfl, rfl⟩ := j3 H
 exact W.now (BodyR.mkR trivial rfl [0] ⟨rfl, rfl⟩ ⟨rfl, AA1, by decide, rfl, trivial⟩ rfl rfl)
end Go.Proofs.YthpcgknknpjpdaaGreatDoor.W
namespace Go.Proofs.YthpcgknknpjpdaaGreatDoor.W
open Go Go.Q Go.Proofs
set_option linter.unusedVariables false
set_option linter.unusedSimpArgs false
set_option maxRecDepth 100000
set_option maxHeartbeats 4000000
theorem s_r9_Right (k : Nat) (x1 : Int) (x2 : Int) (x3 : Bool) (H : g_r9_Right k x1 x2 = some x3) : Go.Q.Spec Tryz.prog 46 0 [.agg [.lit (.int .i64 x1), .lit (.int .i64 x2)]] Mem.nil (fun o M => o = .ret (.lit (.bool x3)) ∧ M = Mem.nil) := by
 unfold g_r9_Right at H
 refine Go.Q.Spec.of_bodyR (az := []) (rs := [.tmp 2]) (nt := 30) Tryz.func46 rfl rfl (by intro t T h; simp at h) rfl rfl fun cx hnp => ?_
 refine WP.sr ?_
 refine WPL.d (d_box rfl rfl) rfl ?_
 refine WPL.qq (q_as (v := .lit (.bool _)) rfl) ?_
 refine WPL.nx ?_
 refine WP.seq ?_
 refine WP.seq ?_
 obtain ⟨x4, H1, H⟩ := bnd H
 refine WP.monoW (Q := fun x E M => x = .normal ∧ E = ((Env.none.upd 1 (.ptr 0 0)).upd 12 (.lit (.bool x4))) ∧ M = (Mem.nil.push (.cells 23 [.lit (.int .i64 x1), .lit (.int .i64 x2)]))) ?_ ?_
 · clear H
   have H := H1
   clear H1
   refine WP.region ?_
   refine WPL.qq (q_fieldAddr fi23_1 rfl rfl) ?_
   refine WPL.qq (q_load sc3 rfl rfl rfl) ?_
   refine WPL.qq (q_lss rfl rfl) ?_
   refine WPL.qq (q_mv (v := .lit (.bool _)) rfl) ?_
   refine WPL.split (t := 8) (b := (decide (x2 < (-18)))) rfl (fun hb1 => ?_) (fun hb1 => ?_)
   · replace H := cnt hb1 H
     refine WPL.sg true rfl (lb hb1) ?_
     refine WPL.sg true rfl (lb hb1) ?_
     refine WPL.sg true rfl (lb hb1) ?_
     refine WPL.qq (q_pickT (v := .lit (.bool _)) (lb hb1) rfl) ?_
     refine WPL.nilW ?_
     have q0 := j1 H
     subst q0
     exact W.wk [0] hnp r3 ⟨rfl, AA1, by decide, rfl, trivial⟩ (LeE.u (LeE.u (LeE.none rfl rfl))) rfl
   replace H := cnf hb1 H
   refine WPL.gq rfl (lb hb1) (q_fieldAddr fi23_1 rfl rfl) ?_
   refine WPL.gq rfl (lb hb1) (q_load sc3 rfl rfl rfl) ?_
   refine WPL.gq rfl (lb hb1) (q_gtr rfl rfl) ?_
   refine WPL.qq (q_pickF (v := .lit (.bool _)) (lb hb1) rfl) ?_
   refine WPL.nilW ?_
   have q0 := j1 H
   subst q0
   exact W.wk [0] hnp r3 ⟨rfl, AA1, by decide, rfl, trivial⟩ (LeE.u (LeE.u (LeE.none rfl rfl))) rfl
 rintro _ _ _ ⟨rfl, rfl, rfl⟩
 refine W.now ?_
 refine Then.n ?_
 refine WP.cond (t := x4) rfl (fun hb2 => ?_) (fun hb2 => ?_)
 · replace H := cnt hb2 H
   refine WP.sr ?_
   refine WPL.qq (q_as (v := .lit (.bool _)) rfl) ?_
   refine WPL.nx ?_
   refine WP.retW ?_
   have q0 := j1 H
   subst q0
   exact W.now (Then.r (BodyR.mkR trivial rfl [] ⟨rfl, rfl⟩ ⟨rfl, trivial, by decide, rfl, trivial⟩ rfl rfl))
 replace H := cnf hb2 H
 refine WP.skipW ?_
 refine W.now ?_
 refine Then.n ?_
 refine WP.seq ?_
 obtain ⟨⟨x5, x6, x7⟩, H2, H⟩ := bnd H
 refine WP.monoW (Q := fun x E M => x = .normal ∧ E = (((Env.none.upd 1 (.ptr 0 0)).upd 3 (.ptr 1 0)).upd 4 (.lit (.int .i64 x5))) ∧ M = ((Mem.nil.push (.cells 23 [.lit (.int .i64 x1), .lit (.int .i64 x2)])).push (.cells 23 [.lit (.int .i64 x6), .lit (.int .i64 x7)]))) ?_ ?_
 · clear H
   have H := H2
   clear H2
   refine WP.regionD' 13 [0] [] mixed rfl ?_
   refine WPD.tT 0 rfl (q_fieldAddr fi23_0 rfl rfl) ?_
   refine WPD.tT 3 rfl (q_fieldAddr fi23_1 rfl rfl) ?_
   refine WPD.take 1 rfl (by kernel_rfl) (q_load sc2 rfl rfl rfl) rfl rfl ?_
   refine WPD.take 4 rfl (by kernel_rfl) (q_load sc3 rfl rfl rfl) rfl rfl ?_
   refine WPD.of2 2 10 (by kernel_rfl) ?_ ?_
   · obtain ⟨x8, h1, H⟩ := bnd H
     refine WPD1.eff 2 [0] [] rfl (runs_call (s := []) (t := [1]) (N := 2) (bor := []) fn85 rfl (s_r9_Of k x1 x8 h1) ⟨rfl, trivial, by decide, rfl, trivial⟩ rfl trivial (.ren rfl rfl .nil) rfl BB1 rfl) rfl rfl ?_
     refine WPD.tT 5 rfl (q_build bu81 rfl) ?_
     refine WPD.of2 6 10 (by kernel_rfl) ?_ ?_
     · obtain ⟨⟨x9, x10, x11⟩, h2, H⟩ := bnd H
       refine WPD1.eff 6 [0] [] rfl (runs_call (s := []) (t := [2]) (N := 3) (bor := []) fn84 rfl (s_r9_Tell k (decide (x1 < 0)) x8 x2 x9 x10 x11 h2) ⟨rfl, trivial, by decide, rfl, trivial⟩ rfl trivial (.ren rfl rfl .nil) rfl BB1 rfl) rfl rfl ?_
       refine WPD.tT 7 rfl (q_mv (v := .tup _) rfl) ?_
       refine WPD.tT 8 rfl (q_extract rfl rfl) ?_
       refine WPD.tT 9 rfl (q_extract rfl rfl) ?_
       refine WPD.ef 10 [0] [] rfl (Does.runs (d_alloc ze23 rfl)) ?_
       refine WPD.effS 11 [0] [] rfl (by kernel_rfl) (s_store sz23 rfl rfl rfl rfl rfl) rfl ?_
       refine WPD.tT 12 rfl (q_as (v := .lit (.int _ _)) rfl) ?_
       refine WPD.doneW (by kernel_rfl) ?_
       obtain ⟨rfl, rfl, rfl⟩ := j3 H
       exact W.wk [0, 3] hnp r3 ⟨rfl, AA2, by decide, rfl, trivial⟩ (LeE.u (LeE.u (LeE.u (LeE.none rfl rfl)))) rfl
     refine WPD1.eff 10 [0] [] rfl (Does.runs (d_alloc ze23 rfl)) rfl rfl ?_
     obtain ⟨⟨x12, x13, x14⟩, h3, H⟩ := bnd H
     refine WPD.ef 6 [0] [] rfl (runs_call (s := []) (t := [3]) (N := 4) (bor := []) fn84 rfl (s_r9_Tell k (decide (x1 < 0)) x8 x2 x12 x13 x14 h3) ⟨rfl, trivial, by decide, rfl, trivial⟩ rfl trivial (.ren rfl rfl .nil) rfl BB1 rfl) ?_
     refine WPD.tT 7 rfl (q_mv (v := .tup _) rfl) ?_
     refine WPD.tT 8 rfl (q_extract rfl rfl) ?_
     refine WPD.tT 9 rfl (q_extract rfl rfl) ?_
     refine WPD.effS 11 [0] [] rfl (by kernel_rfl) (s_store sz23 rfl rfl rfl rfl rfl) rfl ?_
     refine WPD.tT 12 rfl (q_as (v := .lit (.int _ _)) rfl) ?_
     refine WPD.doneW (by kernel_rfl) ?_
     obtain ⟨rfl, rfl, rfl⟩ := j3 H
     exact W.wk [0, 2] hnp r3 ⟨rfl, AA2, by decide, rfl, trivial⟩ (LeE.u (LeE.u (LeE.u (LeE.none rfl rfl)))) rfl
   refine WPD1.eff 10 [0] [] rfl (Does.runs (d_alloc ze23 rfl)) rfl rfl ?_
   obtain ⟨x15, h4, H⟩ := bnd H
   refine WPD.ef 2 [0] [] rfl (runs_call (s := []) (t := [2]) (N := 3) (bor := []) fn85 rfl (s_r9_Of k x1 x15 h4) ⟨rfl, trivial, by decide, rfl, trivial⟩ rfl trivial (.ren rfl rfl .nil) rfl BB1 rfl) ?_
   refine WPD.tT 5 rfl (q_build bu81 rfl) ?_
   obtain ⟨⟨x16, x17, x18⟩, h5, H⟩ := bnd H
   refine WPD.ef 6 [0] [] rfl (runs_call (s := []) (t := [3]) (N := 4) (bor := []) fn84 rfl (s_r9_Tell k (decide (x1 < 0)) x15 x2 x16 x17 x18 h5) ⟨rfl, trivial, by decide, rfl, trivial⟩ rfl trivial (.ren rfl rfl .nil) rfl BB1 rfl) ?_
   refine WPD.tT 7 rfl (q_mv (v := .tup _) rfl) ?_
   refine WPD.tT 8 rfl (q_extract rfl rfl) ?_
   refine WPD.tT 9 rfl (q_extract rfl rfl) ?_
   refine WPD.effS 11 [0] [] rfl (by kernel_rfl) (s_store sz23 rfl rfl rfl rfl rfl) rfl ?_
   refine WPD.tT 12 rfl (q_as (v := .lit (.int _ _)) rfl) ?_
   refine WPD.doneW (by kernel_rfl) ?_
   obtain ⟨rfl, rfl, rfl⟩ := j3 H
   exact W.wk [0, 1] hnp r3 ⟨rfl, AA2, by decide, rfl, trivial⟩ (LeE.u (LeE.u (LeE.u (LeE.none rfl rfl)))) rfl
 rintro _ _ _ ⟨rfl, rfl, rfl⟩
 refine W.now ?_
 refine Then.n ?_
 refine WP.seq ?_
 obtain ⟨x19, H3, H⟩ := bnd H
 refine WP.monoW (Q := fun x E M => x = .normal ∧ E = (Env.none.upd 2 (.lit (.bool x19))) ∧ M = Mem.nil) ?_ ?_
 · clear H
   have H := H3
   clear H3
   refine WP.region ?_
   refine WPL.qq (q_mv (v := .lit (.int _ _)) rfl) ?_
   refine WPL.qq (q_eql rfl rfl) ?_
   refine WPL.qq (q_mv (v := .lit (.bool _)) rfl) ?_
   refine WPL.split (t := 25) (b := (decide (x5 = 0))) rfl (fun hb3 => ?_) (fun hb3 => ?_)
   · replace H := cnt hb3 H
     refine WPL.gq rfl (lb hb3) (q_load_ag ag23 rfl rfl (Nat.le_of_ble_eq_true rfl)) ?_
     refine WPL.gq rfl (lb hb3) (q_load_ag ag23 rfl rfl (Nat.le_of_ble_eq_true rfl)) ?_
     obtain ⟨x20, h6, H⟩ := bnd H
     refine WPL.gq rfl (lb hb3) (q_nm (q_eqlAg (xs := [(.int .i64 x6), (.int .i64 x7)]) (ys := [(.int .i64 x1), (.int .i64 x2)]) (n := 9) rfl eg23 rfl rfl eq23) (nm_bool h6)) ?_
     refine WPL.qq (q_pickT (v := .lit (.bool _)) (lb hb3) rfl) ?_
     refine WPL.qq (q_as (v := .lit (.bool _)) rfl) ?_
     refine WPL.nilW ?_
     have q0 := j1 H
     subst q0
     exact W.wk [] hnp r3 ⟨rfl, trivial, by decide, rfl, trivial⟩ (LeE.u (LeE.none rfl rfl)) rfl
   replace H := cnf hb3 H
   refine WPL.sg false rfl (lb hb3) ?_
   refine WPL.sg false rfl (lb hb3) ?_
   refine WPL.sg false rfl (lb hb3) ?_
   refine WPL.qq (q_pickF (v := .lit (.bool _)) (lb hb3) rfl) ?_
   refine WPL.qq (q_as (v := .lit (.bool _)) rfl) ?_
   refine WPL.nilW ?_
   have q0 := j1 H
   subst q0
   exact W.wk [] hnp r3 ⟨rfl, trivial, by decide, rfl, trivial⟩ (LeE.u (LeE.none rfl rfl)) rfl
 rintro _ _ _ ⟨rfl, rfl, rfl⟩
 refine W.now ?_
 refine Then.n ?_
 refine WP.retW ?_
 have q0 := j1 H
 subst q0
 exact W.now (BodyR.mkR trivial rfl [] ⟨rfl, rfl⟩ ⟨rfl, trivial, by decide, rfl, trivial⟩ rfl rfl)
theorem s_rv_Of (k : Nat) (x1 : Int) (x2 : Int) (x3 : Int) (x4 : Int) (x5 : Int) (x6 : Int) (x7 : Int) (H : g_rv_Of k x1 x2 x3 = some (x4, x5, x6, x7)) : Go.Q.Spec Tryz.prog 13 0 [.agg [.lit (.int .i64 x1), .lit (.int .i64 x2)], .lit (.int .i64 x3)] Mem.nil (fun o M => o = .ret (.agg [.lit (.int .i64 x4), .lit (.int .i64 x5), .lit (.int .i64 x6), .lit (.string (ByteArray.mk #[])), .lit (.bool false), .lit (.int .i64 x7)]) ∧ M = (Mem.nil.push (.cells 29 [.lit (.int .i64 x4), .lit (.int .i64 x5), .lit (.int .i64 x6), .lit (.string (ByteArray.mk #[])), .lit (.bool false), .lit (.int .i64 x7)]))) := by
 unfold g_rv_Of at H
 refine Go.Q.Spec.of_bodyR (az := [(29, 6)]) (rs := [.cell 4 29]) (nt := 18) Tryz.func13 rfl rfl (by intro t T h; simp at h; rcases h with ⟨rfl, rfl⟩ <;> first | exact ag29) rfl rfl fun cx hnp => ?_
 refine WP.sr ?_
 refine WPL.d (d_box rfl rfl) rfl ?_
 refine WPL.d (d_alloc ze29 rfl) rfl ?_
 refine WPL.nx ?_
 refine WP.seq ?_
 refine WP.sr ?_
 refine WPL.qq (q_mv (v := .lit (.int _ _)) rfl) ?_
 refine WPL.qq (q_eql rfl rfl) ?_
 refine WPL.nx ?_
 refine WP.cond (t := (decide (x3 = 31))) rfl (fun hb1 => ?_) (fun hb1 => ?_)
 · replace H := cnt hb1 H
   refine WP.sr ?_
   obtain ⟨x8, h1, H⟩ := bnd H
   refine WPL.c (runs_call (s := []) (t := [2]) (N := 3) (bor := []) fn17 rfl (s_rv_Err k 1 x8 h1) ⟨rfl, trivial, by decide, rfl, trivial⟩ rfl trivial (.ren rfl rfl .nil) rfl BB1 rfl) rfl ?_
   refine WPL.s (s_store sz29 rfl rfl rfl rfl rfl) ?_
   refine WPL.nx ?_
   refine WP.retW ?_
   obtain ⟨rfl, rfl, rfl, rfl⟩ := j4 H
   exact W.now (Then.r (BodyR.mkR trivial rfl [1] ⟨rfl, rfl⟩ ⟨rfl, AA1, by decide, rfl, trivial⟩ rfl rfl))
 replace H := cnf hb1 H
 refine WP.skipW ?_
 refine W.now ?_
 refine Then.n ?_
 refine WP.seq ?_
 refine WP.seq ?_
 obtain ⟨x9, H1, H⟩ := bnd H
 refine WP.monoW (Q := fun x E M => x = .normal ∧ E = (((Env.none.upd 2 (.ptr 0 0)).upd 4 (.ptr 1 0)).upd 14 (.lit (.bool x9))) ∧ M = ((Mem.nil.push (.cells 23 [.lit (.int .i64 x1), .lit (.int .i64 x2)])).push (.cells 29 [.lit (.int .i64 0), .lit (.int .i64 0), .lit (.int .i64 0), .lit (.string (ByteArray.mk #[])), .lit (.bool false), .lit (.int .i64 0)]))) ?_ ?_
 · clear H
   have H := H1
   clear H1
   refine WP.region ?_
   refine WPL.qq (q_mv (v := .lit (.int _ _)) rfl) ?_
   refine WPL.qq (q_neq rfl rfl) ?_
   refine WPL.qq (q_mv (v := .lit (.bool _)) rfl) ?_
   refine WPL.split (t := 10) (b := (!decide (x3 = 0))) rfl (fun hb2 => ?_) (fun hb2 => ?_)
   · replace H := cnt hb2 H
     refine WPL.sg true rfl (lb hb2) ?_
     refine WPL.sg true rfl (lb hb2) ?_
     refine WPL.sg true rfl (lb hb2) ?_
     refine WPL.qq (q_pickT (v := .lit (.bool _)) (lb hb2) rfl) ?_
     refine WPL.nilW ?_
     have q0 := j1 H
     subst q0
     exact W.wk [0, 1] hnp r3 ⟨rfl, AA2, by decide, rfl, trivial⟩ (LeE.u (LeE.u (LeE.u (LeE.none rfl rfl)))) rfl
   replace H := cnf hb2 H
   refine WPL.gq rfl (lb hb2) (q_load_ag ag23 rfl rfl (Nat.le_of_ble_eq_true rfl)) ?_
   obtain ⟨x10, h2, H⟩ := bnd H
   refine WPL.cg rfl rfl (lb hb2) (runs_call (s := []) (t := []) (N := 2) (bor := []) fn46 rfl (s_r9_Right k x1 x2 x10 h2) ⟨rfl, trivial, by decide, rfl, trivial⟩ rfl trivial (.ren rfl rfl .nil) rfl trivial rfl) rfl ?_
   refine WPL.gq rfl (lb hb2) (q_not rfl) ?_
   refine WPL.qq (q_pickF (v := .lit (.bool _)) (lb hb2) rfl) ?_
   refine WPL.nilW ?_
   have q0 := j1 H
   subst q0
   exact W.wk [0, 1] hnp r3 ⟨rfl, AA2, by decide, rfl, trivial⟩ (LeE.u (LeE.u (LeE.u (LeE.none rfl rfl)))) rfl
 rintro _ _ _ ⟨rfl, rfl, rfl⟩
 refine W.now ?_
 refine Then.n ?_
 refine WP.cond (t := x9) rfl (fun hb3 => ?_) (fun hb3 => ?_)
 · replace H := cnt hb3 H
   refine WP.sr ?_
   obtain ⟨x11, h3, H⟩ := bnd H
   refine WPL.c (runs_call (s := []) (t := [2]) (N := 3) (bor := []) fn17 rfl (s_rv_Err k 5 x11 h3) ⟨rfl, trivial, by decide, rfl, trivial⟩ rfl trivial (.ren rfl rfl .nil) rfl BB1 rfl) rfl ?_
   refine WPL.s (s_store sz29 rfl rfl rfl rfl rfl) ?_
   refine WPL.nx ?_
   refine WP.retW ?_
   obtain ⟨rfl, rfl, rfl, rfl⟩ := j4 H
   exact W.now (Then.r (BodyR.mkR trivial rfl [1] ⟨rfl, rfl⟩ ⟨rfl, AA1, by decide, rfl, trivial⟩ rfl rfl))
 replace H := cnf hb3 H
 refine WP.skipW ?_
 refine W.now ?_
 refine Then.n ?_
 refine WP.sr ?_
 refine WPL.qq (q_load_ag ag23 rfl rfl (Nat.le_of_ble_eq_true rfl)) ?_
 refine WPL.qq (q_build bu29 rfl) ?_
 refine WPL.s (s_store sz29 rfl rfl rfl rfl rfl) ?_
 refine WPL.nx ?_
 refine WP.retW ?_
 obtain ⟨rfl, rfl, rfl, rfl⟩ := j4 H
 exact W.now (BodyR.mkR trivial rfl [1] ⟨rfl, rfl⟩ ⟨rfl, AA1, by decide, rfl, trivial⟩ rfl rfl)
theorem s_u8_word_string (k : Nat) (x1 : ByteArray) (x2 : Int) (H : g_u8_word_string k x1 = some x2) : Go.Q.Spec Tryz.prog 135 0 [.lit (.string x1)] Mem.nil (fun o M => o = .ret (.lit (.int .u64 x2)) ∧ M = Mem.nil) := by
 unfold g_u8_word_string at H
 refine Go.Q.Spec.of_bodyR (az := []) (rs := [.tmp 2]) (nt := 59) Tryz.func135 rfl rfl (by intro t T h; simp at h) rfl rfl fun cx hnp => ?_
 refine WP.sr ?_
 refine WPL.qq (q_as (v := .lit (.int _ _)) rfl) ?_
 refine WPL.nx ?_
 refine WP.seq ?_
 refine WP.condF rfl ?_
 refine WP.skipW ?_
 refine W.now ?_
 refine Then.n ?_
 refine WP.seq ?_
 refine WP.regionD' 39 [] [] mixed rfl ?_
 refine WPD.tT 0 rfl (q_mv (v := .lit (.string _)) rfl) ?_
 obtain ⟨x3, h1, H⟩ := bnd H
 refine WPD.tT 1 rfl (q_index_str Tryz.underlying9 rfl rfl h1) ?_
 refine WPD.tT 2 rfl (q_conv Tryz.underlying5 Tryz.underlying67 rfl) ?_
 refine WPD.tT 3 rfl (q_mv (v := .lit (.string _)) rfl) ?_
 obtain ⟨x4, h2, H⟩ := bnd H
 refine WPD.tT 4 rfl (q_index_str Tryz.underlying9 rfl rfl h2) ?_
 refine WPD.tT 5 rfl (q_conv Tryz.underlying5 Tryz.underlying67 rfl) ?_
 refine WPD.tT 6 rfl (q_shl rfl rfl rfl) ?_
 obtain ⟨x5, h3, H⟩ := bnd H
 refine WPD.tT 7 rfl (q_nm (q_or rfl rfl) (nm_int h3)) ?_
 refine WPD.tT 8 rfl (q_mv (v := .lit (.string _)) rfl) ?_
 obtain ⟨x6, h4, H⟩ := bnd H
 refine WPD.tT 9 rfl (q_index_str Tryz.underlying9 rfl rfl h4) ?_
 refine WPD.tT 10 rfl (q_conv Tryz.underlying5 Tryz.underlying67 rfl) ?_
 obtain ⟨x7, h5, H⟩ := bnd H
 refine WPD.tT 11 rfl (q_nm (q_shl rfl rfl rfl) (nm_int h5)) ?_
 refine WPD.tT 12 rfl (q_or rfl rfl) ?_
 refine WPD.tT 13 rfl (q_mv (v := .lit (.string _)) rfl) ?_
 obtain ⟨x8, h6, H⟩ := bnd H
 refine WPD.tT 14 rfl (q_index_str Tryz.underlying9 rfl rfl h6) ?_
 refine WPD.tT 15 rfl (q_conv Tryz.underlying5 Tryz.underlying67 rfl) ?_
 obtain ⟨x9, h7, H⟩ := bnd H
 refine WPD.tT 16 rfl (q_nm (q_shl rfl rfl rfl) (nm_int h7)) ?_
 obtain ⟨x10, h8, H⟩ := bnd H
 refine WPD.tT 17 rfl (q_nm (q_or rfl rfl) (nm_int h8)) ?_
 refine WPD.tT 18 rfl (q_mv (v := .lit (.string _)) rfl) ?_
 obtain ⟨x11, h9, H⟩ := bnd H
 refine WPD.tT 19 rfl (q_index_str Tryz.underlying9 rfl rfl h9) ?_
 refine WPD.tT 20 rfl (q_conv Tryz.underlying5 Tryz.underlying67 rfl) ?_
 obtain ⟨x12, h10, H⟩ := bnd H
 refine WPD.tT 21 rfl (q_nm (q_shl rfl rfl rfl) (nm_int h10)) ?_
 refine WPD.tT 22 rfl (q_or rfl rfl) ?_
 refine WPD.tT 23 rfl (q_mv (v := .lit (.string _)) rfl) ?_
 obtain ⟨x13, h11, H⟩ := bnd H
 refine WPD.tT 24 rfl (q_index_str Tryz.underlying9 rfl rfl h11) ?_
 refine WPD.tT 25 rfl (q_conv Tryz.underlying5 Tryz.underlying67 rfl) ?_
 obtain ⟨x14, h12, H⟩ := bnd H
 refine WPD.tT 26 rfl (q_nm (q_shl rfl rfl rfl) (nm_int h12)) ?_
 obtain ⟨x15, h13, H⟩ := bnd H
 refine WPD.tT 27 rfl (q_nm (q_or rfl rfl) (nm_int h13)) ?_
 refine WPD.tT 28 rfl (q_mv (v := .lit (.string _)) rfl) ?_
 obtain ⟨x16, h14, H⟩ := bnd H
 refine WPD.tT 29 rfl (q_index_str Tryz.underlying9 rfl rfl h14) ?_
 refine WPD.tT 30 rfl (q_conv Tryz.underlying5 Tryz.underlying67 rfl) ?_
 obtain ⟨x17, h15, H⟩ := bnd H
 refine WPD.tT 31 rfl (q_nm (q_shl rfl rfl rfl) (nm_int h15)) ?_
 refine WPD.tT 32 rfl (q_or rfl rfl) ?_
 refine WPD.tT 33 rfl (q_mv (v := .lit (.string _)) rfl) ?_
 obtain ⟨x18, h16, H⟩ := bnd H
 refine WPD.tT 34 rfl (q_index_str Tryz.underlying9 rfl rfl h16) ?_
 refine WPD.tT 35 rfl (q_conv Tryz.underlying5 Tryz.underlying67 rfl) ?_
 obtain ⟨x19, h17, H⟩ := bnd H
 refine WPD.tT 36 rfl (q_nm (q_shl rfl rfl rfl) (nm_int h17)) ?_
 obtain ⟨x20, h18, H⟩ := bnd H
 refine WPD.tT 37 rfl (q_nm (q_or rfl rfl) (nm_int h18)) ?_
 refine WPD.tT 38 rfl (q_as (v := .lit (.int _ _)) rfl) ?_
 refine WPD.doneW (by kernel_rfl) ?_
 refine W.now ?_
 refine Then.n ?_
 refine WP.retW ?_
 have q0 := j1 H
 subst q0
 exact W.now (BodyR.mkR trivial rfl [] ⟨rfl, rfl⟩ ⟨rfl, trivial, by decide, rfl, trivial⟩ rfl rfl)
theorem s_u8_ValidString (k : Nat) (x1 : ByteArray) (x2 : Bool) (H : g_u8_ValidString k x1 = some x2) : Go.Q.Spec Tryz.prog 86 0 [.lit (.string x1)] Mem.nil (fun o M => o = .ret (.lit (.bool x2)) ∧ M = Mem.nil) := by
 unfold g_u8_ValidString at H
 refine Go.Q.Spec.of_bodyR (az := []) (rs := [.tmp 2]) (nt := 169) Tryz.func86 rfl rfl (by intro t T h; simp at h) rfl rfl fun cx hnp => ?_
 refine WP.sr ?_
 refine WPL.qq (q_as (v := .lit (.bool _)) rfl) ?_
 refine WPL.nx ?_
 refine WP.seq ?_
 refine WP.block ?_
 refine WP.cv (Cv.weak (E' := (Env.none.upd 0 (.lit (.string x1)))) (M' := Mem.nil) [] hnp ⟨rfl, trivial, by decide, rfl, trivial⟩ (LeE.u (LeE.none rfl rfl))) ?_
 obtain ⟨y1, H1, H⟩ := bnd H
 refine WP.monoW (Q := fun x E M => match (generalizing := false) y1 with | (Sum.inl _) => x = .ret ∧ E = (Env.none.upd 2 (.lit (.bool false))) ∧ M = Mem.nil | (Sum.inr _) => x = .exit 0 ∧ E = Env.none ∧ M = Mem.nil) ?_ ?_
 · refine WP.loop (β := ByteArray) (fun n b => g_u8_ValidString_l0 k n b = some y1) (fun b => (Env.none.upd 0 (.lit (.string b)))) (fun b => Mem.nil) k x1 H1 rfl rfl ?_
   rintro n x3 H
   obtain _ | n := n
   · exact nf rfl H
   rw [g_u8_ValidString_l0.eq_2] at H
   show WP _ _ _ _ (Env.none.upd 0 (.lit (.string x3))) Mem.nil _
   refine WP.seq ?_
   refine WP.sr ?_
   refine WPL.qq (q_mv (v := .lit (.string _)) rfl) ?_
   refine WPL.qq (q_len_str Tryz.underlying9 rfl) ?_
   obtain ⟨x4, h1, H⟩ := bnd H
   refine WPL.qq (q_nm (q_gtr rfl rfl) (nm_bool h1)) ?_
   refine WPL.nx ?_
   refine WP.cond (t := x4) rfl (fun hb1 => ?_) (fun hb1 => ?_)
   · replace H := cnt hb1 H
     refine WP.skipW ?_
     refine W.now ?_
     refine Then.n ?_
     refine WP.block ?_
     refine WP.sr ?_
     refine WPL.qq (q_mv (v := .lit (.string _)) rfl) ?_
     obtain ⟨x5, h2, H⟩ := bnd H
     refine WPL.qq (q_index_str Tryz.underlying9 rfl rfl h2) ?_
     refine WPL.qq (q_as (v := .lit (.int _ _)) rfl) ?_
     refine WPL.nx ?_
     refine WP.seq ?_
     refine WP.sr ?_
     refine WPL.qq (q_mv (v := .lit (.int _ _)) rfl) ?_
     refine WPL.qq (q_lss rfl rfl) ?_
     refine WPL.nx ?_
     refine WP.cond (t := (decide (x5 < 128))) rfl (fun hb2 => ?_) (fun hb2 => ?_)
     · replace H := cnt hb2 H
       refine WP.sr ?_
       refine WPL.qq (q_mv (v := .lit (.string _)) rfl) ?_
       obtain ⟨h3, H⟩ := grd H
       obtain ⟨x6, h4, H⟩ := bnd H
       refine WPL.qq (q_nm (q_slice_str (i := 1) (j := ((ByteArray.size x3 : Nat) : Int)) Tryz.underlying9 rfl ⟨_, rfl⟩ rfl h3) (nm_str h4)) ?_
       refine WPL.qq (q_as (v := .lit (.string _)) rfl) ?_
       refine WPL.nx ?_
       refine WP.seq ?_
       obtain ⟨x7, H2, H⟩ := bnd H
       refine WP.monoW (Q := fun x E M => x = .normal ∧ E = (Env.none.upd 0 (.lit (.string x7))) ∧ M = Mem.nil) ?_ ?_
       · clear H
         have H := H2
         clear H2
         refine WP.seq ?_
         obtain ⟨x8, H3, H⟩ := bnd H
         refine WP.monoW (Q := fun x E M => x = .normal ∧ E = ((Env.none.upd 0 (.lit (.string x6))).upd 24 (.lit (.bool x8))) ∧ M = Mem.nil) ?_ ?_
         · clear H
           have H := H3
           clear H3
           refine WP.region ?_
           refine WPL.qq (q_mv (v := .lit (.string _)) rfl) ?_
           refine WPL.qq (q_len_str Tryz.underlying9 rfl) ?_
           obtain ⟨x9, h5, H⟩ := bnd H
           refine WPL.qq (q_nm (q_gtr rfl rfl) (nm_bool h5)) ?_
           refine WPL.qq (q_mv (v := .lit (.bool _)) rfl) ?_
           refine WPL.split (t := 19) (b := x9) rfl (fun hb3 => ?_) (fun hb3 => ?_)
           · replace H := cnt hb3 H
             refine WPL.gq rfl (lb hb3) (q_mv (v := .lit (.string _)) rfl) ?_
             obtain ⟨x10, h6, H⟩ := bnd H
             refine WPL.cg rfl rfl (lb hb3) (runs_call (s := []) (t := []) (N := 0) (bor := []) fn135 rfl (s_u8_word_string k x6 x10 h6) ⟨rfl, trivial, by decide, rfl, trivial⟩ rfl trivial (.ren rfl rfl .nil) rfl trivial rfl) rfl ?_
             obtain ⟨x11, h7, H⟩ := bnd H
             refine WPL.gq rfl (lb hb3) (q_nm (q_and rfl rfl) (nm_int h7)) ?_
             refine WPL.gq rfl (lb hb3) (q_eql rfl rfl) ?_
             refine WPL.qq (q_pickT (v := .lit (.bool _)) (lb hb3) rfl) ?_
             refine WPL.nilW ?_
             have q0 := j1 H
             subst q0
             exact W.wk [] hnp r3 ⟨rfl, trivial, by decide, rfl, trivial⟩ (LeE.u (LeE.u (LeE.none rfl rfl))) rfl
           replace H := cnf hb3 H
           refine WPL.sg false rfl (lb hb3) ?_
           refine WPL.sg false rfl (lb hb3) ?_
           refine WPL.sg false rfl (lb hb3) ?_
           refine WPL.sg false rfl (lb hb3) ?_
           refine WPL.qq (q_pickF (v := .lit (.bool _)) (lb hb3) rfl) ?_
           refine WPL.nilW ?_
           have q0 := j1 H
           subst q0
           exact W.wk [] hnp r3 ⟨rfl, trivial, by decide, rfl, trivial⟩ (LeE.u (LeE.u (LeE.none rfl rfl))) rfl
         rintro _ _ _ ⟨rfl, rfl, rfl⟩
         refine W.now ?_
         refine Then.n ?_
         refine WP.cond (t := x8) rfl (fun hb4 => ?_) (fun hb4 => ?_)
         · replace H := cnt hb4 H
           refine WP.sr ?_
           refine WPL.qq (q_mv (v := .lit (.string _)) rfl) ?_
           obtain ⟨h8, H⟩ := grd H
           obtain ⟨x12, h9, H⟩ := bnd H
           refine WPL.qq (q_nm (q_slice_str (i := 8) (j := ((ByteArray.size x6 : Nat) : Int)) Tryz.underlying9 rfl ⟨_, rfl⟩ rfl h8) (nm_str h9)) ?_
           refine WPL.qq (q_as (v := .lit (.string _)) rfl) ?_
           refine WPL.nx ?_
           refine WP.seq ?_
           obtain ⟨x13, H4, H⟩ := bnd H
           refine WP.monoW (Q := fun x E M => x = .normal ∧ E = ((Env.none.upd 0 (.lit (.string x12))).upd 39 (.lit (.bool x13))) ∧ M = Mem.nil) ?_ ?_
           · clear H
             have H := H4
             clear H4
             refine WP.regionD' 13 [] [] mixed rfl ?_
             refine WPD.tT 0 rfl (q_mv (v := .lit (.string _)) rfl) ?_
             refine WPD.tT 1 rfl (q_len_str Tryz.underlying9 rfl) ?_
             obtain ⟨x14, h10, H⟩ := bnd H
             refine WPD.tT 2 rfl (q_nm (q_gtr rfl rfl) (nm_bool h10)) ?_
             refine WPD.tT 3 rfl (q_mv (v := .lit (.bool _)) rfl) ?_
             refine WPD.split (t := 30) (b := x14) rfl (fun hb5 => ?_) (fun hb5 => ?_)
             · replace H := cnt hb5 H
               refine WPD.takegT 4 rfl (by kernel_rfl) rfl rfl (lb hb5) (q_mv (v := .lit (.string _)) rfl) rfl ?_
               refine WPD.takegT 6 rfl (by kernel_rfl) rfl rfl (lb hb5) (q_mv (v := .lit (.string _)) rfl) rfl ?_
               obtain ⟨h11, H⟩ := grd H
               obtain ⟨x15, h12, H⟩ := bnd H
               refine WPD.takegT 7 rfl (by kernel_rfl) rfl rfl (lb hb5) (q_nm (q_slice_str (i := 8) (j := ((ByteArray.size x12 : Nat) : Int)) Tryz.underlying9 rfl ⟨_, rfl⟩ rfl h11) (nm_str h12)) rfl ?_
               obtain ⟨x16, h12, H⟩ := bnd H
               refine WPD.effg 5 [] [] rfl (by kernel_rfl) rfl rfl (lb hb5) (runs_call (s := []) (t := []) (N := 0) (bor := []) fn135 rfl (s_u8_word_string k x12 x16 h12) ⟨rfl, trivial, by decide, rfl, trivial⟩ rfl trivial (.ren rfl rfl .nil) rfl trivial rfl) rfl rfl ?_
               obtain ⟨x17, h13, H⟩ := bnd H
               refine WPD.effg 8 [] [] rfl (by kernel_rfl) rfl rfl (lb hb5) (runs_call (s := []) (t := []) (N := 0) (bor := []) fn135 rfl (s_u8_word_string k x15 x17 h13) ⟨rfl, trivial, by decide, rfl, trivial⟩ rfl trivial (.ren rfl rfl .nil) rfl trivial rfl) rfl rfl ?_
               refine WPD.takegT 9 rfl (by kernel_rfl) rfl rfl (lb hb5) (q_or rfl rfl) rfl ?_
               obtain ⟨x18, h14, H⟩ := bnd H
               refine WPD.takegT 10 rfl (by kernel_rfl) rfl rfl (lb hb5) (q_nm (q_and rfl rfl) (nm_int h14)) rfl ?_
               refine WPD.takegT 11 rfl (by kernel_rfl) rfl rfl (lb hb5) (q_eql rfl rfl) rfl ?_
               refine WPD.tT 12 rfl (q_pickT (v := .lit (.bool _)) (lb hb5) rfl) ?_
               refine WPD.doneW (by kernel_rfl) ?_
               have q0 := j1 H
               subst q0
               exact W.wk [] hnp r3 ⟨rfl, trivial, by decide, rfl, trivial⟩ (LeE.u (LeE.u (LeE.none rfl rfl))) rfl
             replace H := cnf hb5 H
             refine WPD.ps false 4 rfl rfl (lb hb5) ?_
             refine WPD.ps false 5 rfl rfl (lb hb5) ?_
             refine WPD.ps false 6 rfl rfl (lb hb5) ?_
             refine WPD.ps false 7 rfl rfl (lb hb5) ?_
             refine WPD.ps false 8 rfl rfl (lb hb5) ?_
             refine WPD.ps false 9 rfl rfl (lb hb5) ?_
             refine WPD.ps false 10 rfl rfl (lb hb5) ?_
             refine WPD.ps false 11 rfl rfl (lb hb5) ?_
             refine WPD.tT 12 rfl (q_pickF (v := .lit (.bool _)) (lb hb5) rfl) ?_
             refine WPD.doneW (by kernel_rfl) ?_
             have q0 := j1 H
             subst q0
             exact W.wk [] hnp r3 ⟨rfl, trivial, by decide, rfl, trivial⟩ (LeE.u (LeE.u (LeE.none rfl rfl))) rfl
           rintro _ _ _ ⟨rfl, rfl, rfl⟩
           refine W.now ?_
           refine Then.n ?_
           refine WP.cond (t := x13) rfl (fun hb6 => ?_) (fun hb6 => ?_)
           · replace H := cnt hb6 H
             refine WP.sr ?_
             refine WPL.qq (q_mv (v := .lit (.string _)) rfl) ?_
             obtain ⟨h15, H⟩ := grd H
             obtain ⟨x19, h16, H⟩ := bnd H
             refine WPL.qq (q_nm (q_slice_str (i := 16) (j := ((ByteArray.size x12 : Nat) : Int)) Tryz.underlying9 rfl ⟨_, rfl⟩ rfl h15) (nm_str h16)) ?_
             refine WPL.qq (q_as (v := .lit (.string _)) rfl) ?_
             refine WPL.nx ?_
             refine WP.block ?_
             refine WP.cv (Cv.weak (E' := (Env.none.upd 0 (.lit (.string x19)))) (M' := Mem.nil) [] hnp ⟨rfl, trivial, by decide, rfl, trivial⟩ (LeE.u (LeE.none rfl rfl))) ?_
             obtain ⟨x20, H5, H⟩ := bnd H
             refine WP.monoW (Q := fun x E M => x = .exit 2 ∧ E = (Env.none.upd 0 (.lit (.string x20))) ∧ M = Mem.nil) ?_ ?_
             · refine WP.loop (β := ByteArray) (fun n b => g_u8_ValidString_l1 k n b = some x20) (fun b => (Env.none.upd 0 (.lit (.string b)))) (fun b => Mem.nil) k x19 H5 rfl rfl ?_
               rintro n x21 H
               obtain _ | n := n
               · exact nf rfl H
               rw [g_u8_ValidString_l1.eq_2] at H
               show WP _ _ _ _ (Env.none.upd 0 (.lit (.string x21))) Mem.nil _
               refine WP.seq ?_
               refine WP.seq ?_
               obtain ⟨x22, H6, H⟩ := bnd H
               refine WP.monoW (Q := fun x E M => x = .normal ∧ E = ((Env.none.upd 0 (.lit (.string x21))).upd 62 (.lit (.bool x22))) ∧ M = Mem.nil) ?_ ?_
               · clear H
                 have H := H6
                 clear H6
                 refine WP.regionD' 21 [] [] mixed rfl ?_
                 refine WPD.tT 0 rfl (q_mv (v := .lit (.string _)) rfl) ?_
                 refine WPD.tT 1 rfl (q_len_str Tryz.underlying9 rfl) ?_
                 obtain ⟨x23, h17, H⟩ := bnd H
                 refine WPD.tT 2 rfl (q_nm (q_gtr rfl rfl) (nm_bool h17)) ?_
                 refine WPD.tT 3 rfl (q_mv (v := .lit (.bool _)) rfl) ?_
                 refine WPD.split (t := 45) (b := x23) rfl (fun hb7 => ?_) (fun hb7 => ?_)
                 · replace H := cnt hb7 H
                   refine WPD.takegT 4 rfl (by kernel_rfl) rfl rfl (lb hb7) (q_mv (v := .lit (.string _)) rfl) rfl ?_
                   refine WPD.takegT 6 rfl (by kernel_rfl) rfl rfl (lb hb7) (q_mv (v := .lit (.string _)) rfl) rfl ?_
                   obtain ⟨h18, H⟩ := grd H
                   obtain ⟨x24, h19, H⟩ := bnd H
                   refine WPD.takegT 7 rfl (by kernel_rfl) rfl rfl (lb hb7) (q_nm (q_slice_str (i := 8) (j := ((ByteArray.size x21 : Nat) : Int)) Tryz.underlying9 rfl ⟨_, rfl⟩ rfl h18) (nm_str h19)) rfl ?_
                   refine WPD.takegT 10 rfl (by kernel_rfl) rfl rfl (lb hb7) (q_mv (v := .lit (.string _)) rfl) rfl ?_
                   obtain ⟨h19, H⟩ := grd H
                   obtain ⟨x25, h20, H⟩ := bnd H
                   refine WPD.takegT 11 rfl (by kernel_rfl) rfl rfl (lb hb7) (q_nm (q_slice_str (i := 16) (j := ((ByteArray.size x21 : Nat) : Int)) Tryz.underlying9 rfl ⟨_, rfl⟩ rfl h19) (nm_str h20)) rfl ?_
                   refine WPD.takegT 13 rfl (by kernel_rfl) rfl rfl (lb hb7) (q_mv (v := .lit (.string _)) rfl) rfl ?_
                   obtain ⟨h20, H⟩ := grd H
                   obtain ⟨x26, h21, H⟩ := bnd H
                   refine WPD.takegT 14 rfl (by kernel_rfl) rfl rfl (lb hb7) (q_nm (q_slice_str (i := 24) (j := ((ByteArray.size x21 : Nat) : Int)) Tryz.underlying9 rfl ⟨_, rfl⟩ rfl h20) (nm_str h21)) rfl ?_
                   obtain ⟨x27, h21, H⟩ := bnd H
                   refine WPD.effg 5 [] [] rfl (by kernel_rfl) rfl rfl (lb hb7) (runs_call (s := []) (t := []) (N := 0) (bor := []) fn135 rfl (s_u8_word_string k x21 x27 h21) ⟨rfl, trivial, by decide, rfl, trivial⟩ rfl trivial (.ren rfl rfl .nil) rfl trivial rfl) rfl rfl ?_
                   obtain ⟨x28, h22, H⟩ := bnd H
                   refine WPD.effg 8 [] [] rfl (by kernel_rfl) rfl rfl (lb hb7) (runs_call (s := []) (t := []) (N := 0) (bor := []) fn135 rfl (s_u8_word_string k x24 x28 h22) ⟨rfl, trivial, by decide, rfl, trivial⟩ rfl trivial (.ren rfl rfl .nil) rfl trivial rfl) rfl rfl ?_
                   refine WPD.takegT 9 rfl (by kernel_rfl) rfl rfl (lb hb7) (q_or rfl rfl) rfl ?_
                   obtain ⟨x29, h23, H⟩ := bnd H
                   refine WPD.effg 12 [] [] rfl (by kernel_rfl) rfl rfl (lb hb7) (runs_call (s := []) (t := []) (N := 0) (bor := []) fn135 rfl (s_u8_word_string k x25 x29 h23) ⟨rfl, trivial, by decide, rfl, trivial⟩ rfl trivial (.ren rfl rfl .nil) rfl trivial rfl) rfl rfl ?_
                   obtain ⟨x30, h24, H⟩ := bnd H
                   refine WPD.effg 15 [] [] rfl (by kernel_rfl) rfl rfl (lb hb7) (runs_call (s := []) (t := []) (N := 0) (bor := []) fn135 rfl (s_u8_word_string k x26 x30 h24) ⟨rfl, trivial, by decide, rfl, trivial⟩ rfl trivial (.ren rfl rfl .nil) rfl trivial rfl) rfl rfl ?_
                   refine WPD.takegT 16 rfl (by kernel_rfl) rfl rfl (lb hb7) (q_or rfl rfl) rfl ?_
                   obtain ⟨x31, h25, H⟩ := bnd H
                   refine WPD.takegT 17 rfl (by kernel_rfl) rfl rfl (lb hb7) (q_nm (q_or rfl rfl) (nm_int h25)) rfl ?_
                   obtain ⟨x32, h26, H⟩ := bnd H
                   refine WPD.takegT 18 rfl (by kernel_rfl) rfl rfl (lb hb7) (q_nm (q_and rfl rfl) (nm_int h26)) rfl ?_
                   refine WPD.takegT 19 rfl (by kernel_rfl) rfl rfl (lb hb7) (q_eql rfl rfl) rfl ?_
                   refine WPD.tT 20 rfl (q_pickT (v := .lit (.bool _)) (lb hb7) rfl) ?_
                   refine WPD.doneW (by kernel_rfl) ?_
                   have q0 := j1 H
                   subst q0
                   exact W.wk [] hnp r3 ⟨rfl, trivial, by decide, rfl, trivial⟩ (LeE.u (LeE.u (LeE.none rfl rfl))) rfl
                 replace H := cnf hb7 H
                 refine WPD.ps false 4 rfl rfl (lb hb7) ?_
                 refine WPD.ps false 5 rfl rfl (lb hb7) ?_
                 refine WPD.ps false 6 rfl rfl (lb hb7) ?_
                 refine WPD.ps false 7 rfl rfl (lb hb7) ?_
                 refine WPD.ps false 8 rfl rfl (lb hb7) ?_
                 refine WPD.ps false 9 rfl rfl (lb hb7) ?_
                 refine WPD.ps false 10 rfl rfl (lb hb7) ?_
                 refine WPD.ps false 11 rfl rfl (lb hb7) ?_
                 refine WPD.ps false 12 rfl rfl (lb hb7) ?_
                 refine WPD.ps false 13 rfl rfl (lb hb7) ?_
                 refine WPD.ps false 14 rfl rfl (lb hb7) ?_
                 refine WPD.ps false 15 rfl rfl (lb hb7) ?_
                 refine WPD.ps false 16 rfl rfl (lb hb7) ?_
                 refine WPD.ps false 17 rfl rfl (lb hb7) ?_
                 refine WPD.ps false 18 rfl rfl (lb hb7) ?_
                 refine WPD.ps false 19 rfl rfl (lb hb7) ?_
                 refine WPD.tT 20 rfl (q_pickF (v := .lit (.bool _)) (lb hb7) rfl) ?_
                 refine WPD.doneW (by kernel_rfl) ?_
                 have q0 := j1 H
                 subst q0
                 exact W.wk [] hnp r3 ⟨rfl, trivial, by decide, rfl, trivial⟩ (LeE.u (LeE.u (LeE.none rfl rfl))) rfl
               rintro _ _ _ ⟨rfl, rfl, rfl⟩
               refine W.now ?_
               refine Then.n ?_
               refine WP.cond (t := x22) rfl (fun hb8 => ?_) (fun hb8 => ?_)
               · replace H := cnt hb8 H
                 refine WP.skipW ?_
                 refine W.now ?_
                 refine Then.n ?_
                 refine WP.block ?_
                 refine WP.region ?_
                 refine WPL.qq (q_mv (v := .lit (.string _)) rfl) ?_
                 obtain ⟨h27, H⟩ := grd H
                 obtain ⟨x33, h28, H⟩ := bnd H
                 refine WPL.qq (q_nm (q_slice_str (i := 32) (j := ((ByteArray.size x21 : Nat) : Int)) Tryz.underlying9 rfl ⟨_, rfl⟩ rfl h27) (nm_str h28)) ?_
                 refine WPL.qq (q_as (v := .lit (.string _)) rfl) ?_
                 refine WPL.nilW ?_
                 exact W.wk [] hnp (InBlock.n (Then.n ⟨n, x33, Nat.lt_succ_self n, H, rfl, rfl⟩)) ⟨rfl, trivial, by decide, rfl, trivial⟩ (LeE.u (LeE.none rfl rfl)) rfl
               replace H := cnf hb8 H
               refine WP.exitW ?_
               have q0 := j1 H
               subst q0
               exact W.wk [] hnp (Then.x (Then.x r3)) ⟨rfl, trivial, by decide, rfl, trivial⟩ (LeE.u (LeE.none rfl rfl)) rfl
             rintro _ _ _ ⟨rfl, rfl, rfl⟩
             have q0 := j1 H
             subst q0
             exact W.wk [] hnp (InBlock.x0 r3) ⟨rfl, trivial, by decide, rfl, trivial⟩ (LeE.u (LeE.none rfl rfl)) rfl
           replace H := cnf hb6 H
           refine WP.skipW ?_
           have q0 := j1 H
           subst q0
           exact W.wk [] hnp r3 ⟨rfl, trivial, by decide, rfl, trivial⟩ (LeE.u (LeE.none rfl rfl)) rfl
         replace H := cnf hb4 H
         refine WP.skipW ?_
         have q0 := j1 H
         subst q0
         exact W.wk [] hnp r3 ⟨rfl, trivial, by decide, rfl, trivial⟩ (LeE.u (LeE.none rfl rfl)) rfl
       rintro _ _ _ ⟨rfl, rfl, rfl⟩
       refine W.now ?_
       refine Then.n ?_
       refine WP.exitW ?_
       exact W.wk [] hnp (Then.x (InBlock.x0 (Then.n ⟨n, x7, Nat.lt_succ_self n, H, rfl, rfl⟩))) ⟨rfl, trivial, by decide, rfl, trivial⟩ (LeE.u (LeE.none rfl rfl)) rfl
     replace H := cnf hb2 H
     refine WP.skipW ?_
     refine W.now ?_
     refine Then.n ?_
     refine WP.sr ?_
     refine WPL.qq (q_mv (v := .lit (.int _ _)) rfl) ?_
     obtain ⟨h29, H⟩ := grd H
     refine WPL.qq (q_indexTab ar133 rfl rfl tb0 rfl h29) ?_
     refine WPL.qq (q_load_sc sc5 rfl) ?_
     refine WPL.qq (q_as (v := .lit (.int _ _)) rfl) ?_
     refine WPL.nx ?_
     refine WP.sr ?_
     refine WPL.qq (q_mv (v := .lit (.int _ _)) rfl) ?_
     obtain ⟨x34, h30, H⟩ := bnd H
     refine WPL.qq (q_nm (q_and rfl rfl) (nm_int h30)) ?_
     refine WPL.qq (q_conv Tryz.underlying5 Tryz.underlying3 rfl) ?_
     refine WPL.qq (q_as (v := .lit (.int _ _)) rfl) ?_
     refine WPL.nx ?_
     refine WP.sr ?_
     refine WPL.qq (q_mv (v := .lit (.int _ _)) rfl) ?_
     obtain ⟨x35, h31, H⟩ := bnd H
     refine WPL.qq (q_nm (q_shr rfl rfl rfl) (nm_int h31)) ?_
     obtain ⟨h31, H⟩ := grd H
     refine WPL.qq (q_indexTab ar136 rfl rfl tb1 rfl h31) ?_
     refine WPL.qq (q_load_roag ag135 rfl rfl S_unicode_utf8_acceptRange.sp) ?_
     refine WPL.d (d_alloc ze135 rfl) rfl ?_
     refine WPL.s (s_store sz135 rfl rfl rfl rfl rfl) ?_
     refine WPL.nx ?_
     refine WP.sr ?_
     refine WPL.qq (q_mv (v := .lit (.int _ _)) rfl) ?_
     refine WPL.nx ?_
     refine WP.block ?_
     refine WP.sr ?_
     obtain ⟨x36, h32, H⟩ := bnd H
     refine WPL.qq (q_nm (q_eql rfl rfl) (nm_bool h32)) ?_
     refine WPL.qq (q_as (v := .lit (.bool _)) rfl) ?_
     refine WPL.nx ?_
     refine WP.cond (t := x36) rfl (fun hb9 => ?_) (fun hb9 => ?_)
     · replace H := cnt hb9 H
       refine WP.seq ?_
       refine WP.seq ?_
       obtain ⟨x37, H7, H⟩ := bnd H
       refine WP.monoW (Q := fun x E M => x = .normal ∧ E = ((Env.none.upd 0 (.lit (.string x3))).upd 94 (.lit (.bool x37))) ∧ M = Mem.nil) ?_ ?_
       · clear H
         have H := H7
         clear H7
         refine WP.regionD' 17 [0] [] mixed rfl ?_
         refine WPD.tT 0 rfl (q_mv (v := .lit (.string _)) rfl) ?_
         refine WPD.tT 1 rfl (q_len_str Tryz.underlying9 rfl) ?_
         obtain ⟨x38, h33, H⟩ := bnd H
         refine WPD.tT 2 rfl (q_nm (q_lss rfl rfl) (nm_bool h33)) ?_
         refine WPD.tT 3 rfl (q_mv (v := .lit (.bool _)) rfl) ?_
         refine WPD.split (t := 81) (b := x38) rfl (fun hb10 => ?_) (fun hb10 => ?_)
         · replace H := cnt hb10 H
           refine WPD.ps true 4 rfl rfl (lb hb10) ?_
           refine WPD.ps true 5 rfl rfl (lb hb10) ?_
           refine WPD.ps true 6 rfl rfl (lb hb10) ?_
           refine WPD.ps true 7 rfl rfl (lb hb10) ?_
           refine WPD.ps true 8 rfl rfl (lb hb10) ?_
           refine WPD.tT 9 rfl (q_pickT (v := .lit (.bool _)) (lb hb10) rfl) ?_
           refine WPD.tT 10 rfl (q_mv (v := .lit (.bool _)) rfl) ?_
           refine WPD.ps true 11 rfl rfl rfl ?_
           refine WPD.ps true 12 rfl rfl rfl ?_
           refine WPD.ps true 13 rfl rfl rfl ?_
           refine WPD.ps true 14 rfl rfl rfl ?_
           refine WPD.ps true 15 rfl rfl rfl ?_
           refine WPD.tT 16 rfl (q_pickT (v := .lit (.bool _)) rfl rfl) ?_
           refine WPD.doneW (by kernel_rfl) ?_
           have q0 := j1 H
           subst q0
           exact W.wk [] hnp r3 ⟨rfl, trivial, by decide, rfl, trivial⟩ (LeE.u (LeE.u (LeE.none rfl rfl))) rfl
         replace H := cnf hb10 H
         refine WPD.takegT 4 rfl (by kernel_rfl) rfl rfl (lb hb10) (q_mv (v := .lit (.string _)) rfl) rfl ?_
         obtain ⟨x39, h34, H⟩ := bnd H
         refine WPD.takegT 5 rfl (by kernel_rfl) rfl rfl (lb hb10) (q_index_str Tryz.underlying9 rfl rfl h34) rfl ?_
         refine WPD.takegT 6 rfl (by kernel_rfl) rfl rfl (lb hb10) (q_fieldAddr fi135_0 rfl rfl) rfl ?_
         refine WPD.takeg 7 rfl (by kernel_rfl) rfl rfl (lb hb10) (q_load sc5 rfl rfl rfl) rfl rfl ?_
         obtain ⟨x40, h35, H⟩ := bnd H
         refine WPD.takegT 8 rfl (by kernel_rfl) rfl rfl (lb hb10) (q_nm (q_lss rfl rfl) (nm_bool h35)) rfl ?_
         refine WPD.tT 9 rfl (q_pickF (v := .lit (.bool _)) (lb hb10) rfl) ?_
         refine WPD.tT 10 rfl (q_mv (v := .lit (.bool _)) rfl) ?_
         refine WPD.split (t := 88) (b := x40) rfl (fun hb11 => ?_) (fun hb11 => ?_)
         · replace H := cnt hb11 H
           refine WPD.ps true 11 rfl rfl (lb hb11) ?_
           refine WPD.ps true 12 rfl rfl (lb hb11) ?_
           refine WPD.ps true 13 rfl rfl (lb hb11) ?_
           refine WPD.ps true 14 rfl rfl (lb hb11) ?_
           refine WPD.ps true 15 rfl rfl (lb hb11) ?_
           refine WPD.tT 16 rfl (q_pickT (v := .lit (.bool _)) (lb hb11) rfl) ?_
           refine WPD.doneW (by kernel_rfl) ?_
           have q0 := j1 H
           subst q0
           exact W.wk [] hnp r3 ⟨rfl, trivial, by decide, rfl, trivial⟩ (LeE.u (LeE.u (LeE.none rfl rfl))) rfl
         replace H := cnf hb11 H
         refine WPD.takegT 11 rfl (by kernel_rfl) rfl rfl (lb hb11) (q_fieldAddr fi135_1 rfl rfl) rfl ?_
         refine WPD.takegT 13 rfl (by kernel_rfl) rfl rfl (lb hb11) (q_mv (v := .lit (.string _)) rfl) rfl ?_
         obtain ⟨x41, h36, H⟩ := bnd H
         refine WPD.takegT 14 rfl (by kernel_rfl) rfl rfl (lb hb11) (q_index_str Tryz.underlying9 rfl rfl h36) rfl ?_
         refine WPD.takeg 12 rfl (by kernel_rfl) rfl rfl (lb hb11) (q_load sc5 rfl rfl rfl) rfl rfl ?_
         obtain ⟨x42, h37, H⟩ := bnd H
         refine WPD.takegT 15 rfl (by kernel_rfl) rfl rfl (lb hb11) (q_nm (q_lss rfl rfl) (nm_bool h37)) rfl ?_
         refine WPD.tT 16 rfl (q_pickF (v := .lit (.bool _)) (lb hb11) rfl) ?_
         refine WPD.doneW (by kernel_rfl) ?_
         have q0 := j1 H
         subst q0
         exact W.wk [] hnp r3 ⟨rfl, trivial, by decide, rfl, trivial⟩ (LeE.u (LeE.u (LeE.none rfl rfl))) rfl
       rintro _ _ _ ⟨rfl, rfl, rfl⟩
       refine W.now ?_
       refine Then.n ?_
       refine WP.cond (t := x37) rfl (fun hb12 => ?_) (fun hb12 => ?_)
       · replace H := cnt hb12 H
         refine WP.sr ?_
         refine WPL.qq (q_as (v := .lit (.bool _)) rfl) ?_
         refine WPL.nx ?_
         refine WP.retW ?_
         have q0 := j1 H
         subst q0
         exact W.wk [] hnp (Then.r (InBlock.r (InBlock.r (Then.r r3)))) ⟨rfl, trivial, by decide, rfl, trivial⟩ (LeE.u (LeE.none rfl rfl)) rfl
       replace H := cnf hb12 H
       refine WP.skipW ?_
       refine W.now ?_
       refine Then.n ?_
       refine WP.region ?_
       refine WPL.qq (q_mv (v := .lit (.string _)) rfl) ?_
       obtain ⟨h38, H⟩ := grd H
       obtain ⟨x43, h39, H⟩ := bnd H
       refine WPL.qq (q_nm (q_slice_str (i := 2) (j := ((ByteArray.size x3 : Nat) : Int)) Tryz.underlying9 rfl ⟨_, rfl⟩ rfl h38) (nm_str h39)) ?_
       refine WPL.qq (q_as (v := .lit (.string _)) rfl) ?_
       refine WPL.nilW ?_
       exact W.wk [] hnp (InBlock.n (InBlock.n (Then.n ⟨n, x43, Nat.lt_succ_self n, H, rfl, rfl⟩))) ⟨rfl, trivial, by decide, rfl, trivial⟩ (LeE.u (LeE.none rfl rfl)) rfl
     replace H := cnf hb9 H
     refine WP.sr ?_
     obtain ⟨x44, h40, H⟩ := bnd H
     refine WPL.qq (q_nm (q_eql rfl rfl) (nm_bool h40)) ?_
     refine WPL.qq (q_as (v := .lit (.bool _)) rfl) ?_
     refine WPL.nx ?_
     refine WP.cond (t := x44) rfl (fun hb13 => ?_) (fun hb13 => ?_)
     · replace H := cnt hb13 H
       refine WP.seq ?_
       refine WP.seq ?_
       obtain ⟨x45, H8, H⟩ := bnd H
       refine WP.monoW (Q := fun x E M => x = .normal ∧ E = ((Env.none.upd 0 (.lit (.string x3))).upd 125 (.lit (.bool x45))) ∧ M = Mem.nil) ?_ ?_
       · clear H
         have H := H8
         clear H8
         refine WP.regionD' 27 [0] [] mixed rfl ?_
         refine WPD.tT 0 rfl (q_mv (v := .lit (.string _)) rfl) ?_
         refine WPD.tT 1 rfl (q_len_str Tryz.underlying9 rfl) ?_
         obtain ⟨x46, h41, H⟩ := bnd H
         refine WPD.tT 2 rfl (q_nm (q_lss rfl rfl) (nm_bool h41)) ?_
         refine WPD.tT 3 rfl (q_mv (v := .lit (.bool _)) rfl) ?_
         refine WPD.split (t := 102) (b := x46) rfl (fun hb14 => ?_) (fun hb14 => ?_)
         · replace H := cnt hb14 H
           refine WPD.ps true 4 rfl rfl (lb hb14) ?_
           refine WPD.ps true 5 rfl rfl (lb hb14) ?_
           refine WPD.ps true 6 rfl rfl (lb hb14) ?_
           refine WPD.ps true 7 rfl rfl (lb hb14) ?_
           refine WPD.ps true 8 rfl rfl (lb hb14) ?_
           refine WPD.tT 9 rfl (q_pickT (v := .lit (.bool _)) (lb hb14) rfl) ?_
           refine WPD.tT 10 rfl (q_mv (v := .lit (.bool _)) rfl) ?_
           refine WPD.ps true 11 rfl rfl rfl ?_
           refine WPD.ps true 12 rfl rfl rfl ?_
           refine WPD.ps true 13 rfl rfl rfl ?_
           refine WPD.ps true 14 rfl rfl rfl ?_
           refine WPD.ps true 15 rfl rfl rfl ?_
           refine WPD.tT 16 rfl (q_pickT (v := .lit (.bool _)) rfl rfl) ?_
           refine WPD.tT 17 rfl (q_mv (v := .lit (.bool _)) rfl) ?_
           refine WPD.ps true 18 rfl rfl rfl ?_
           refine WPD.ps true 19 rfl rfl rfl ?_
           refine WPD.ps true 20 rfl rfl rfl ?_
           refine WPD.tT 21 rfl (q_pickT (v := .lit (.bool _)) rfl rfl) ?_
           refine WPD.tT 22 rfl (q_mv (v := .lit (.bool _)) rfl) ?_
           refine WPD.ps true 23 rfl rfl rfl ?_
           refine WPD.ps true 24 rfl rfl rfl ?_
           refine WPD.ps true 25 rfl rfl rfl ?_
           refine WPD.tT 26 rfl (q_pickT (v := .lit (.bool _)) rfl rfl) ?_
           refine WPD.doneW (by kernel_rfl) ?_
           have q0 := j1 H
           subst q0
           exact W.wk [] hnp r3 ⟨rfl, trivial, by decide, rfl, trivial⟩ (LeE.u (LeE.u (LeE.none rfl rfl))) rfl
         replace H := cnf hb14 H
         refine WPD.takegT 4 rfl (by kernel_rfl) rfl rfl (lb hb14) (q_mv (v := .lit (.string _)) rfl) rfl ?_
         obtain ⟨x47, h42, H⟩ := bnd H
         refine WPD.takegT 5 rfl (by kernel_rfl) rfl rfl (lb hb14) (q_index_str Tryz.underlying9 rfl rfl h42) rfl ?_
         refine WPD.takegT 6 rfl (by kernel_rfl) rfl rfl (lb hb14) (q_fieldAddr fi135_0 rfl rfl) rfl ?_
         refine WPD.takeg 7 rfl (by kernel_rfl) rfl rfl (lb hb14) (q_load sc5 rfl rfl rfl) rfl rfl ?_
         obtain ⟨x48, h43, H⟩ := bnd H
         refine WPD.takegT 8 rfl (by kernel_rfl) rfl rfl (lb hb14) (q_nm (q_lss rfl rfl) (nm_bool h43)) rfl ?_
         refine WPD.tT 9 rfl (q_pickF (v := .lit (.bool _)) (lb hb14) rfl) ?_
         refine WPD.tT 10 rfl (q_mv (v := .lit (.bool _)) rfl) ?_
         refine WPD.split (t := 109) (b := x48) rfl (fun hb15 => ?_) (fun hb15 => ?_)
         · replace H := cnt hb15 H
           refine WPD.ps true 11 rfl rfl (lb hb15) ?_
           refine WPD.ps true 12 rfl rfl (lb hb15) ?_
           refine WPD.ps true 13 rfl rfl (lb hb15) ?_
           refine WPD.ps true 14 rfl rfl (lb hb15) ?_
           refine WPD.ps true 15 rfl rfl (lb hb15) ?_
           refine WPD.tT 16 rfl (q_pickT (v := .lit (.bool _)) (lb hb15) rfl) ?_
           refine WPD.tT 17 rfl (q_mv (v := .lit (.bool _)) rfl) ?_
           refine WPD.ps true 18 rfl rfl rfl ?_
           refine WPD.ps true 19 rfl rfl rfl ?_
           refine WPD.ps true 20 rfl rfl rfl ?_
           refine WPD.tT 21 rfl (q_pickT (v := .lit (.bool _)) rfl rfl) ?_
           refine WPD.tT 22 rfl (q_mv (v := .lit (.bool _)) rfl) ?_
           refine WPD.ps true 23 rfl rfl rfl ?_
           refine WPD.ps true 24 rfl rfl rfl ?_
           refine WPD.ps true 25 rfl rfl rfl ?_
           refine WPD.tT 26 rfl (q_pickT (v := .lit (.bool _)) rfl rfl) ?_
           refine WPD.doneW (by kernel_rfl) ?_
           have q0 := j1 H
           subst q0
           exact W.wk [] hnp r3 ⟨rfl, trivial, by decide, rfl, trivial⟩ (LeE.u (LeE.u (LeE.none rfl rfl))) rfl
         replace H := cnf hb15 H
         refine WPD.takegT 11 rfl (by kernel_rfl) rfl rfl (lb hb15) (q_fieldAddr fi135_1 rfl rfl) rfl ?_
         refine WPD.takegT 13 rfl (by kernel_rfl) rfl rfl (lb hb15) (q_mv (v := .lit (.string _)) rfl) rfl ?_
         obtain ⟨x49, h44, H⟩ := bnd H
         refine WPD.takegT 14 rfl (by kernel_rfl) rfl rfl (lb hb15) (q_index_str Tryz.underlying9 rfl rfl h44) rfl ?_
         refine WPD.takeg 12 rfl (by kernel_rfl) rfl rfl (lb hb15) (q_load sc5 rfl rfl rfl) rfl rfl ?_
         obtain ⟨x50, h45, H⟩ := bnd H
         refine WPD.takegT 15 rfl (by kernel_rfl) rfl rfl (lb hb15) (q_nm (q_lss rfl rfl) (nm_bool h45)) rfl ?_
         refine WPD.tT 16 rfl (q_pickF (v := .lit (.bool _)) (lb hb15) rfl) ?_
         refine WPD.tT 17 rfl (q_mv (v := .lit (.bool _)) rfl) ?_
         refine WPD.split (t := 116) (b := x50) rfl (fun hb16 => ?_) (fun hb16 => ?_)
         · replace H := cnt hb16 H
           refine WPD.ps true 18 rfl rfl (lb hb16) ?_
           refine WPD.ps true 19 rfl rfl (lb hb16) ?_
           refine WPD.ps true 20 rfl rfl (lb hb16) ?_
           refine WPD.tT 21 rfl (q_pickT (v := .lit (.bool _)) (lb hb16) rfl) ?_
           refine WPD.tT 22 rfl (q_mv (v := .lit (.bool _)) rfl) ?_
           refine WPD.ps true 23 rfl rfl rfl ?_
           refine WPD.ps true 24 rfl rfl rfl ?_
           refine WPD.ps true 25 rfl rfl rfl ?_
           refine WPD.tT 26 rfl (q_pickT (v := .lit (.bool _)) rfl rfl) ?_
           refine WPD.doneW (by kernel_rfl) ?_
           have q0 := j1 H
           subst q0
           exact W.wk [] hnp r3 ⟨rfl, trivial, by decide, rfl, trivial⟩ (LeE.u (LeE.u (LeE.none rfl rfl))) rfl
         replace H := cnf hb16 H
         refine WPD.takegT 18 rfl (by kernel_rfl) rfl rfl (lb hb16) (q_mv (v := .lit (.string _)) rfl) rfl ?_
         obtain ⟨x51, h46, H⟩ := bnd H
         refine WPD.takegT 19 rfl (by kernel_rfl) rfl rfl (lb hb16) (q_index_str Tryz.underlying9 rfl rfl h46) rfl ?_
         refine WPD.takegT 20 rfl (by kernel_rfl) rfl rfl (lb hb16) (q_lss rfl rfl) rfl ?_
         refine WPD.tT 21 rfl (q_pickF (v := .lit (.bool _)) (lb hb16) rfl) ?_
         refine WPD.tT 22 rfl (q_mv (v := .lit (.bool _)) rfl) ?_
         refine WPD.split (t := 121) (b := (decide (x51 < 128))) rfl (fun hb17 => ?_) (fun hb17 => ?_)
         · replace H := cnt hb17 H
           refine WPD.ps true 23 rfl rfl (lb hb17) ?_
           refine WPD.ps true 24 rfl rfl (lb hb17) ?_
           refine WPD.ps true 25 rfl rfl (lb hb17) ?_
           refine WPD.tT 26 rfl (q_pickT (v := .lit (.bool _)) (lb hb17) rfl) ?_
           refine WPD.doneW (by kernel_rfl) ?_
           have q0 := j1 H
           subst q0
           exact W.wk [] hnp r3 ⟨rfl, trivial, by decide, rfl, trivial⟩ (LeE.u (LeE.u (LeE.none rfl rfl))) rfl
         replace H := cnf hb17 H
         refine WPD.takegT 23 rfl (by kernel_rfl) rfl rfl (lb hb17) (q_mv (v := .lit (.string _)) rfl) rfl ?_
         obtain ⟨x52, h47, H⟩ := bnd H
         refine WPD.takegT 24 rfl (by kernel_rfl) rfl rfl (lb hb17) (q_index_str Tryz.underlying9 rfl rfl h47) rfl ?_
         refine WPD.takegT 25 rfl (by kernel_rfl) rfl rfl (lb hb17) (q_lss rfl rfl) rfl ?_
         refine WPD.tT 26 rfl (q_pickF (v := .lit (.bool _)) (lb hb17) rfl) ?_
         refine WPD.doneW (by kernel_rfl) ?_
         have q0 := j1 H
         subst q0
         exact W.wk [] hnp r3 ⟨rfl, trivial, by decide, rfl, trivial⟩ (LeE.u (LeE.u (LeE.none rfl rfl))) rfl
       rintro _ _ _ ⟨rfl, rfl, rfl⟩
       refine W.now ?_
       refine Then.n ?_
       refine WP.cond (t := x45) rfl (fun hb18 => ?_) (fun hb18 => ?_)
       · replace H := cnt hb18 H
         refine WP.sr ?_
         refine WPL.qq (q_as (v := .lit (.bool _)) rfl) ?_
         refine WPL.nx ?_
         refine WP.retW ?_
         have q0 := j1 H
         subst q0
         exact W.wk [] hnp (Then.r (InBlock.r (InBlock.r (Then.r r3)))) ⟨rfl, trivial, by decide, rfl, trivial⟩ (LeE.u (LeE.none rfl rfl)) rfl
       replace H := cnf hb18 H
       refine WP.skipW ?_
       refine W.now ?_
       refine Then.n ?_
       refine WP.region ?_
       refine WPL.qq (q_mv (v := .lit (.string _)) rfl) ?_
       obtain ⟨h48, H⟩ := grd H
       obtain ⟨x53, h49, H⟩ := bnd H
       refine WPL.qq (q_nm (q_slice_str (i := 3) (j := ((ByteArray.size x3 : Nat) : Int)) Tryz.underlying9 rfl ⟨_, rfl⟩ rfl h48) (nm_str h49)) ?_
       refine WPL.qq (q_as (v := .lit (.string _)) rfl) ?_
       refine WPL.nilW ?_
       exact W.wk [] hnp (InBlock.n (InBlock.n (Then.n ⟨n, x53, Nat.lt_succ_self n, H, rfl, rfl⟩))) ⟨rfl, trivial, by decide, rfl, trivial⟩ (LeE.u (LeE.none rfl rfl)) rfl
     replace H := cnf hb13 H
     refine WP.sr ?_
     obtain ⟨x54, h50, H⟩ := bnd H
     refine WPL.qq (q_nm (q_eql rfl rfl) (nm_bool h50)) ?_
     refine WPL.qq (q_as (v := .lit (.bool _)) rfl) ?_
     refine WPL.nx ?_
     refine WP.cond (t := x54) rfl (fun hb19 => ?_) (fun hb19 => ?_)
     · replace H := cnt hb19 H
       refine WP.seq ?_
       refine WP.seq ?_
       obtain ⟨x55, H9, H⟩ := bnd H
       refine WP.monoW (Q := fun x E M => x = .normal ∧ E = ((Env.none.upd 0 (.lit (.string x3))).upd 166 (.lit (.bool x55))) ∧ M = Mem.nil) ?_ ?_
       · clear H
         have H := H9
         clear H9
         refine WP.regionD' 37 [0] [] mixed rfl ?_
         refine WPD.tT 0 rfl (q_mv (v := .lit (.string _)) rfl) ?_
         refine WPD.tT 1 rfl (q_len_str Tryz.underlying9 rfl) ?_
         obtain ⟨x56, h51, H⟩ := bnd H
         refine WPD.tT 2 rfl (q_nm (q_lss rfl rfl) (nm_bool h51)) ?_
         refine WPD.tT 3 rfl (q_mv (v := .lit (.bool _)) rfl) ?_
         refine WPD.split (t := 133) (b := x56) rfl (fun hb20 => ?_) (fun hb20 => ?_)
         · replace H := cnt hb20 H
           refine WPD.ps true 4 rfl rfl (lb hb20) ?_
           refine WPD.ps true 5 rfl rfl (lb hb20) ?_
           refine WPD.ps true 6 rfl rfl (lb hb20) ?_
           refine WPD.ps true 7 rfl rfl (lb hb20) ?_
           refine WPD.ps true 8 rfl rfl (lb hb20) ?_
           refine WPD.tT 9 rfl (q_pickT (v := .lit (.bool _)) (lb hb20) rfl) ?_
           refine WPD.tT 10 rfl (q_mv (v := .lit (.bool _)) rfl) ?_
           refine WPD.ps true 11 rfl rfl rfl ?_
           refine WPD.ps true 12 rfl rfl rfl ?_
           refine WPD.ps true 13 rfl rfl rfl ?_
           refine WPD.ps true 14 rfl rfl rfl ?_
           refine WPD.ps true 15 rfl rfl rfl ?_
           refine WPD.tT 16 rfl (q_pickT (v := .lit (.bool _)) rfl rfl) ?_
           refine WPD.tT 17 rfl (q_mv (v := .lit (.bool _)) rfl) ?_
           refine WPD.ps true 18 rfl rfl rfl ?_
           refine WPD.ps true 19 rfl rfl rfl ?_
           refine WPD.ps true 20 rfl rfl rfl ?_
           refine WPD.tT 21 rfl (q_pickT (v := .lit (.bool _)) rfl rfl) ?_
           refine WPD.tT 22 rfl (q_mv (v := .lit (.bool _)) rfl) ?_
           refine WPD.ps true 23 rfl rfl rfl ?_
           refine WPD.ps true 24 rfl rfl rfl ?_
           refine WPD.ps true 25 rfl rfl rfl ?_
           refine WPD.tT 26 rfl (q_pickT (v := .lit (.bool _)) rfl rfl) ?_
           refine WPD.tT 27 rfl (q_mv (v := .lit (.bool _)) rfl) ?_
           refine WPD.ps true 28 rfl rfl rfl ?_
           refine WPD.ps true 29 rfl rfl rfl ?_
           refine WPD.ps true 30 rfl rfl rfl ?_
           refine WPD.tT 31 rfl (q_pickT (v := .lit (.bool _)) rfl rfl) ?_
           refine WPD.tT 32 rfl (q_mv (v := .lit (.bool _)) rfl) ?_
           refine WPD.ps true 33 rfl rfl rfl ?_
           refine WPD.ps true 34 rfl rfl rfl ?_
           refine WPD.ps true 35 rfl rfl rfl ?_
           refine WPD.tT 36 rfl (q_pickT (v := .lit (.bool _)) rfl rfl) ?_
           refine WPD.doneW (by kernel_rfl) ?_
           have q0 := j1 H
           subst q0
           exact W.wk [] hnp r3 ⟨rfl, trivial, by decide, rfl, trivial⟩ (LeE.u (LeE.u (LeE.none rfl rfl))) rfl
         replace H := cnf hb20 H
         refine WPD.takegT 4 rfl (by kernel_rfl) rfl rfl (lb hb20) (q_mv (v := .lit (.string _)) rfl) rfl ?_
         obtain ⟨x57, h52, H⟩ := bnd H
         refine WPD.takegT 5 rfl (by kernel_rfl) rfl rfl (lb hb20) (q_index_str Tryz.underlying9 rfl rfl h52) rfl ?_
         refine WPD.takegT 6 rfl (by kernel_rfl) rfl rfl (lb hb20) (q_fieldAddr fi135_0 rfl rfl) rfl ?_
         refine WPD.takeg 7 rfl (by kernel_rfl) rfl rfl (lb hb20) (q_load sc5 rfl rfl rfl) rfl rfl ?_
         obtain ⟨x58, h53, H⟩ := bnd H
         refine WPD.takegT 8 rfl (by kernel_rfl) rfl rfl (lb hb20) (q_nm (q_lss rfl rfl) (nm_bool h53)) rfl ?_
         refine WPD.tT 9 rfl (q_pickF (v := .lit (.bool _)) (lb hb20) rfl) ?_
         refine WPD.tT 10 rfl (q_mv (v := .lit (.bool _)) rfl) ?_
         refine WPD.split (t := 140) (b := x58) rfl (fun hb21 => ?_) (fun hb21 => ?_)
         · replace H := cnt hb21 H
           refine WPD.ps true 11 rfl rfl (lb hb21) ?_
           refine WPD.ps true 12 rfl rfl (lb hb21) ?_
           refine WPD.ps true 13 rfl rfl (lb hb21) ?_
           refine WPD.ps true 14 rfl rfl (lb hb21) ?_
           refine WPD.ps true 15 rfl rfl (lb hb21) ?_
           refine WPD.tT 16 rfl (q_pickT (v := .lit (.bool _)) (lb hb21) rfl) ?_
           refine WPD.tT 17 rfl (q_mv (v := .lit (.bool _)) rfl) ?_
           refine WPD.ps true 18 rfl rfl rfl ?_
           refine WPD.ps true 19 rfl rfl rfl ?_
           refine WPD.ps true 20 rfl rfl rfl ?_
           refine WPD.tT 21 rfl (q_pickT (v := .lit (.bool _)) rfl rfl) ?_
           refine WPD.tT 22 rfl (q_mv (v := .lit (.bool _)) rfl) ?_
           refine WPD.ps true 23 rfl rfl rfl ?_
           refine WPD.ps true 24 rfl rfl rfl ?_
           refine WPD.ps true 25 rfl rfl rfl ?_
           refine WPD.tT 26 rfl (q_pickT (v := .lit (.bool _)) rfl rfl) ?_
           refine WPD.tT 27 rfl (q_mv (v := .lit (.bool _)) rfl) ?_
           refine WPD.ps true 28 rfl rfl rfl ?_
           refine WPD.ps true 29 rfl rfl rfl ?_
           refine WPD.ps true 30 rfl rfl rfl ?_
           refine WPD.tT 31 rfl (q_pickT (v := .lit (.bool _)) rfl rfl) ?_
           refine WPD.tT 32 rfl (q_mv (v := .lit (.bool _)) rfl) ?_
           refine WPD.ps true 33 rfl rfl rfl ?_
           refine WPD.ps true 34 rfl rfl rfl ?_
           refine WPD.ps true 35 rfl rfl rfl ?_
           refine WPD.tT 36 rfl (q_pickT (v := .lit (.bool _)) rfl rfl) ?_
           refine WPD.doneW (by kernel_rfl) ?_
           have q0 := j1 H
           subst q0
           exact W.wk [] hnp r3 ⟨rfl, trivial, by decide, rfl, trivial⟩ (LeE.u (LeE.u (LeE.none rfl rfl))) rfl
         replace H := cnf hb21 H
         refine WPD.takegT 11 rfl (by kernel_rfl) rfl rfl (lb hb21) (q_fieldAddr fi135_1 rfl rfl) rfl ?_
         refine WPD.takegT 13 rfl (by kernel_rfl) rfl rfl (lb hb21) (q_mv (v := .lit (.string _)) rfl) rfl ?_
         obtain ⟨x59, h54, H⟩ := bnd H
         refine WPD.takegT 14 rfl (by kernel_rfl) rfl rfl (lb hb21) (q_index_str Tryz.underlying9 rfl rfl h54) rfl ?_
         refine WPD.takeg 12 rfl (by kernel_rfl) rfl rfl (lb hb21) (q_load sc5 rfl rfl rfl) rfl rfl ?_
         obtain ⟨x60, h55, H⟩ := bnd H
         refine WPD.takegT 15 rfl (by kernel_rfl) rfl rfl (lb hb21) (q_nm (q_lss rfl rfl) (nm_bool h55)) rfl ?_
         refine WPD.tT 16 rfl (q_pickF (v := .lit (.bool _)) (lb hb21) rfl) ?_
         refine WPD.tT 17 rfl (q_mv (v := .lit (.bool _)) rfl) ?_
         refine WPD.split (t := 147) (b := x60) rfl (fun hb22 => ?_) (fun hb22 => ?_)
         · replace H := cnt hb22 H
           refine WPD.ps true 18 rfl rfl (lb hb22) ?_
           refine WPD.ps true 19 rfl rfl (lb hb22) ?_
           refine WPD.ps true 20 rfl rfl (lb hb22) ?_
           refine WPD.tT 21 rfl (q_pickT (v := .lit (.bool _)) (lb hb22) rfl) ?_
           refine WPD.tT 22 rfl (q_mv (v := .lit (.bool _)) rfl) ?_
           refine WPD.ps true 23 rfl rfl rfl ?_
           refine WPD.ps true 24 rfl rfl rfl ?_
           refine WPD.ps true 25 rfl rfl rfl ?_
           refine WPD.tT 26 rfl (q_pickT (v := .lit (.bool _)) rfl rfl) ?_
           refine WPD.tT 27 rfl (q_mv (v := .lit (.bool _)) rfl) ?_
           refine WPD.ps true 28 rfl rfl rfl ?_
           refine WPD.ps true 29 rfl rfl rfl ?_
           refine WPD.ps true 30 rfl rfl rfl ?_
           refine WPD.tT 31 rfl (q_pickT (v := .lit (.bool _)) rfl rfl) ?_
           refine WPD.tT 32 rfl (q_mv (v := .lit (.bool _)) rfl) ?_
           refine WPD.ps true 33 rfl rfl rfl ?_
           refine WPD.ps true 34 rfl rfl rfl ?_
           refine WPD.ps true 35 rfl rfl rfl ?_
           refine WPD.tT 36 rfl (q_pickT (v := .lit (.bool _)) rfl rfl) ?_
           refine WPD.doneW (by kernel_rfl) ?_
           have q0 := j1 H
           subst q0
           exact W.wk [] hnp r3 ⟨rfl, trivial, by decide, rfl, trivial⟩ (LeE.u (LeE.u (LeE.none rfl rfl))) rfl
         replace H := cnf hb22 H
         refine WPD.takegT 18 rfl (by kernel_rfl) rfl rfl (lb hb22) (q_mv (v := .lit (.string _)) rfl) rfl ?_
         obtain ⟨x61, h56, H⟩ := bnd H
         refine WPD.takegT 19 rfl (by kernel_rfl) rfl rfl (lb hb22) (q_index_str Tryz.underlying9 rfl rfl h56) rfl ?_
         refine WPD.takegT 20 rfl (by kernel_rfl) rfl rfl (lb hb22) (q_lss rfl rfl) rfl ?_
         refine WPD.tT 21 rfl (q_pickF (v := .lit (.bool _)) (lb hb22) rfl) ?_
         refine WPD.tT 22 rfl (q_mv (v := .lit (.bool _)) rfl) ?_
         refine WPD.split (t := 152) (b := (decide (x61 < 128))) rfl (fun hb23 => ?_) (fun hb23 => ?_)
         · replace H := cnt hb23 H
           refine WPD.ps true 23 rfl rfl (lb hb23) ?_
           refine WPD.ps true 24 rfl rfl (lb hb23) ?_
           refine WPD.ps true 25 rfl rfl (lb hb23) ?_
           refine WPD.tT 26 rfl (q_pickT (v := .lit (.bool _)) (lb hb23) rfl) ?_
           refine WPD.tT 27 rfl (q_mv (v := .lit (.bool _)) rfl) ?_
           refine WPD.ps true 28 rfl rfl rfl ?_
           refine WPD.ps true 29 rfl rfl rfl ?_
           refine WPD.ps true 30 rfl rfl rfl ?_
           refine WPD.tT 31 rfl (q_pickT (v := .lit (.bool _)) rfl rfl) ?_
           refine WPD.tT 32 rfl (q_mv (v := .lit (.bool _)) rfl) ?_
           refine WPD.ps true 33 rfl rfl rfl ?_
           refine WPD.ps true 34 rfl rfl rfl ?_
           refine WPD.ps true 35 rfl rfl rfl ?_
           refine WPD.tT 36 rfl (q_pickT (v := .lit (.bool _)) rfl rfl) ?_
           refine WPD.doneW (by kernel_rfl) ?_
           have q0 := j1 H
           subst q0
           exact W.wk [] hnp r3 ⟨rfl, trivial, by decide, rfl, trivial⟩ (LeE.u (LeE.u (LeE.none rfl rfl))) rfl
         replace H := cnf hb23 H
         refine WPD.takegT 23 rfl (by kernel_rfl) rfl rfl (lb hb23) (q_mv (v := .lit (.string _)) rfl) rfl ?_
         obtain ⟨x62, h57, H⟩ := bnd H
         refine WPD.takegT 24 rfl (by kernel_rfl) rfl rfl (lb hb23) (q_index_str Tryz.underlying9 rfl rfl h57) rfl ?_
         refine WPD.takegT 25 rfl (by kernel_rfl) rfl rfl (lb hb23) (q_lss rfl rfl) rfl ?_
         refine WPD.tT 26 rfl (q_pickF (v := .lit (.bool _)) (lb hb23) rfl) ?_
         refine WPD.tT 27 rfl (q_mv (v := .lit (.bool _)) rfl) ?_
         refine WPD.split (t := 157) (b := (decide (191 < x62))) rfl (fun hb24 => ?_) (fun hb24 => ?_)
         · replace H := cnt hb24 H
           refine WPD.ps true 28 rfl rfl (lb hb24) ?_
           refine WPD.ps true 29 rfl rfl (lb hb24) ?_
           refine WPD.ps true 30 rfl rfl (lb hb24) ?_
           refine WPD.tT 31 rfl (q_pickT (v := .lit (.bool _)) (lb hb24) rfl) ?_
           refine WPD.tT 32 rfl (q_mv (v := .lit (.bool _)) rfl) ?_
           refine WPD.ps true 33 rfl rfl rfl ?_
           refine WPD.ps true 34 rfl rfl rfl ?_
           refine WPD.ps true 35 rfl rfl rfl ?_
           refine WPD.tT 36 rfl (q_pickT (v := .lit (.bool _)) rfl rfl) ?_
           refine WPD.doneW (by kernel_rfl) ?_
           have q0 := j1 H
           subst q0
           exact W.wk [] hnp r3 ⟨rfl, trivial, by decide, rfl, trivial⟩ (LeE.u (LeE.u (LeE.none rfl rfl))) rfl
         replace H := cnf hb24 H
         refine WPD.takegT 28 rfl (by kernel_rfl) rfl rfl (lb hb24) (q_mv (v := .lit (.string _)) rfl) rfl ?_
         obtain ⟨x63, h58, H⟩ := bnd H
         refine WPD.takegT 29 rfl (by kernel_rfl) rfl rfl (lb hb24) (q_index_str Tryz.underlying9 rfl rfl h58) rfl ?_
         refine WPD.takegT 30 rfl (by kernel_rfl) rfl rfl (lb hb24) (q_lss rfl rfl) rfl ?_
         refine WPD.tT 31 rfl (q_pickF (v := .lit (.bool _)) (lb hb24) rfl) ?_
         refine WPD.tT 32 rfl (q_mv (v := .lit (.bool _)) rfl) ?_
         refine WPD.split (t := 162) (b := (decide (x63 < 128))) rfl (fun hb25 => ?_) (fun hb25 => ?_)
         · replace H := cnt hb25 H
           refine WPD.ps true 33 rfl rfl (lb hb25) ?_
           refine WPD.ps true 34 rfl rfl (lb hb25) ?_
           refine WPD.ps true 35 rfl rfl (lb hb25) ?_
           refine WPD.tT 36 rfl (q_pickT (v := .lit (.bool _)) (lb hb25) rfl) ?_
           refine WPD.doneW (by kernel_rfl) ?_
           have q0 := j1 H
           subst q0
           exact W.wk [] hnp r3 ⟨rfl, trivial, by decide, rfl, trivial⟩ (LeE.u (LeE.u (LeE.none rfl rfl))) rfl
         replace H := cnf hb25 H
         refine WPD.takegT 33 rfl (by kernel_rfl) rfl rfl (lb hb25) (q_mv (v := .lit (.string _)) rfl) rfl ?_
         obtain ⟨x64, h59, H⟩ := bnd H
         refine WPD.takegT 34 rfl (by kernel_rfl) rfl rfl (lb hb25) (q_index_str Tryz.underlying9 rfl rfl h59) rfl ?_
         refine WPD.takegT 35 rfl (by kernel_rfl) rfl rfl (lb hb25) (q_lss rfl rfl) rfl ?_
         refine WPD.tT 36 rfl (q_pickF (v := .lit (.bool _)) (lb hb25) rfl) ?_
         refine WPD.doneW (by kernel_rfl) ?_
         have q0 := j1 H
         subst q0
         exact W.wk [] hnp r3 ⟨rfl, trivial, by decide, rfl, trivial⟩ (LeE.u (LeE.u (LeE.none rfl rfl))) rfl
       rintro _ _ _ ⟨rfl, rfl, rfl⟩
       refine W.now ?_
       refine Then.n ?_
       refine WP.cond (t := x55) rfl (fun hb26 => ?_) (fun hb26 => ?_)
       · replace H := cnt hb26 H
         refine WP.sr ?_
         refine WPL.qq (q_as (v := .lit (.bool _)) rfl) ?_
         refine WPL.nx ?_
         refine WP.retW ?_
         have q0 := j1 H
         subst q0
         exact W.wk [] hnp (Then.r (InBlock.r (InBlock.r (Then.r r3)))) ⟨rfl, trivial, by decide, rfl, trivial⟩ (LeE.u (LeE.none rfl rfl)) rfl
       replace H := cnf hb26 H
       refine WP.skipW ?_
       refine W.now ?_
       refine Then.n ?_
       refine WP.region ?_
       refine WPL.qq (q_mv (v := .lit (.string _)) rfl) ?_
       obtain ⟨h60, H⟩ := grd H
       obtain ⟨x65, h61, H⟩ := bnd H
       refine WPL.qq (q_nm (q_slice_str (i := 4) (j := ((ByteArray.size x3 : Nat) : Int)) Tryz.underlying9 rfl ⟨_, rfl⟩ rfl h60) (nm_str h61)) ?_
       refine WPL.qq (q_as (v := .lit (.string _)) rfl) ?_
       refine WPL.nilW ?_
       exact W.wk [] hnp (InBlock.n (InBlock.n (Then.n ⟨n, x65, Nat.lt_succ_self n, H, rfl, rfl⟩))) ⟨rfl, trivial, by decide, rfl, trivial⟩ (LeE.u (LeE.none rfl rfl)) rfl
     replace H := cnf hb19 H
     refine WP.sr ?_
     refine WPL.qq (q_as (v := .lit (.bool _)) rfl) ?_
     refine WPL.nx ?_
     refine WP.retW ?_
     have q0 := j1 H
     subst q0
     exact W.wk [] hnp (InBlock.r (InBlock.r (Then.r r3))) ⟨rfl, trivial, by decide, rfl, trivial⟩ (LeE.u (LeE.none rfl rfl)) rfl
   replace H := cnf hb1 H
   refine WP.exitW ?_
   have q0 := j1 H
   subst q0
   exact W.wk [] hnp (Then.x (Then.x r3)) ⟨rfl, trivial, by decide, rfl, trivial⟩ (LeE.none rfl rfl) rfl
 rcases y1 with _ | _
 · rintro _ _ _ ⟨rfl, rfl, rfl⟩
   have q0 := j1 H
   subst q0
   exact W.now (InBlock.r (Then.r (BodyR.mkR trivial rfl [] ⟨rfl, rfl⟩ ⟨rfl, trivial, by decide, rfl, trivial⟩ rfl rfl)))
 rintro _ _ _ ⟨rfl, rfl, rfl⟩
 refine W.now ?_
 refine InBlock.x0 ?_
 refine Then.n ?_
 refine WP.sr ?_
 refine WPL.qq (q_as (v := .lit (.bool _)) rfl) ?_
 refine WPL.nx ?_
 refine WP.retW ?_
 have q0 := j1 H
 subst q0
 exact W.now (BodyR.mkR trivial rfl [] ⟨rfl, rfl⟩ ⟨rfl, trivial, by decide, rfl, trivial⟩ rfl rfl)
end Go.Proofs.YthpcgknknpjpdaaGreatDoor.W
namespace Go.Proofs.YthpcgknknpjpdaaGreatDoor.W
open Go Go.Q Go.Proofs
set_option linter.unusedVariables false
set_option linter.unusedSimpArgs false
set_option maxRecDepth 100000
set_option maxHeartbeats 4000000
theorem s_utf_Xml (k : Nat) (x1 : ByteArray) (x2 : Int) (H : g_utf_Xml k x1 = some x2) : Go.Q.Spec Tryz.prog 47 0 [.lit (.string x1)] Mem.nil (fun o M => o = .ret (.lit (.int .i64 x2)) ∧ M = Mem.nil) := by
 unfold g_utf_Xml at H
 refine Go.Q.Spec.of_bodyR (az := []) (rs := [.tmp 2]) (nt := 27) Tryz.func47 rfl rfl (by intro t T h; simp at h) rfl rfl fun cx hnp => ?_
 refine WP.sr ?_
 refine WPL.qq (q_as (v := .lit (.int _ _)) rfl) ?_
 refine WPL.nx ?_
 refine WP.seq ?_
 refine WP.sr ?_
 refine WPL.qq (q_mv (v := .lit (.string _)) rfl) ?_
 obtain ⟨x3, h1, H⟩ := bnd H
 refine WPL.c (runs_call (s := []) (t := []) (N := 0) (bor := []) fn86 rfl (s_u8_ValidString k x1 x3 h1) ⟨rfl, trivial, by decide, rfl, trivial⟩ rfl trivial (.ren rfl rfl .nil) rfl trivial rfl) rfl ?_
 refine WPL.qq (q_not rfl) ?_
 refine WPL.nx ?_
 refine WP.cond (t := (!x3)) rfl (fun hb1 => ?_) (fun hb1 => ?_)
 · replace H := cnt hb1 H
   refine WP.sr ?_
   refine WPL.qq (q_as (v := .lit (.int _ _)) rfl) ?_
   refine WPL.nx ?_
   refine WP.retW ?_
   have q0 := j1 H
   subst q0
   exact W.now (Then.r (BodyR.mkR trivial rfl [] ⟨rfl, rfl⟩ ⟨rfl, trivial, by decide, rfl, trivial⟩ rfl rfl))
 replace H := cnf hb1 H
 refine WP.skipW ?_
 refine W.now ?_
 refine Then.n ?_
 refine WP.seq ?_
 refine WP.sr ?_
 refine WPL.qq (q_mv (v := .lit (.string _)) rfl) ?_
 refine WPL.d (d_range Tryz.underlying9 rfl rfl) rfl ?_
 refine WPL.nx ?_
 refine WP.block ?_
 refine WP.cv (Cv.weak (E' := (Env.none.upd 9 (.ptr 0 0))) (M' := (Mem.nil.push (.obj (.stringIter x1 0)))) [0] hnp ⟨rfl, AA1, by decide, rfl, trivial⟩ (LeE.u (LeE.none rfl rfl))) ?_
 obtain ⟨y1, H1, H⟩ := bnd H
 refine WP.monoW (Q := fun x E M => match (generalizing := false) y1 with | (Sum.inl _) => x = .ret ∧ E = (Env.none.upd 2 (.lit (.int .i64 20))) ∧ M = Mem.nil | (Sum.inr _) => x = .exit 0 ∧ E = Env.none ∧ M = Mem.nil) ?_ ?_
 · refine WP.loop (β := Nat) (fun n b => g_utf_Xml_l0 k x1 n b = some y1) (fun b => (Env.none.upd 9 (.ptr 0 0))) (fun b => (Mem.nil.push (.obj (.stringIter x1 b)))) k 0 H1 rfl rfl ?_
   rintro n x4 H
   obtain _ | n := n
   · exact nf rfl H
   rw [g_utf_Xml_l0.eq_2] at H
   show WP _ _ _ _ (Env.none.upd 9 (.ptr 0 0)) (Mem.nil.push (.obj (.stringIter x1 x4))) _
   refine WP.sr ?_
   refine WPL.splitB (decide (x4 < ByteArray.size x1)) (fun hb2 => ?_) (fun hb2 => ?_)
   · replace H := cnt hb2 H
     refine WPL.d (d_next rfl rfl hb2) rfl ?_
     refine WPL.qq (q_extract rfl rfl) ?_
     refine WPL.nx ?_
     refine WP.seq ?_
     refine WP.condT rfl ?_
     refine WP.skipW ?_
     refine W.now ?_
     refine Then.n ?_
     refine WP.block ?_
     refine WP.sr ?_
     refine WPL.qq (q_extract rfl rfl) ?_
     refine WPL.qq (q_as (v := .lit (.int _ _)) rfl) ?_
     refine WPL.nx ?_
     refine WP.block ?_
     refine WP.seq ?_
     obtain ⟨x5, H2, H⟩ := bnd H
     refine WP.monoW (Q := fun x E M => x = .normal ∧ E = (((Env.none.upd 4 (.lit (.int .i32 (((Utf8.decode x1 x4).1 : Nat) : Int)))).upd 9 (.ptr 0 0)).upd 13 (.lit (.bool x5))) ∧ M = (Mem.nil.push (.obj (.stringIter x1 (x4 + (Utf8.decode x1 x4).2))))) ?_ ?_
     · clear H
       have H := H2
       clear H2
       refine WP.sr ?_
       refine WPL.qq (q_mv (v := .lit (.int _ _)) rfl) ?_
       obtain ⟨x6, h2, H⟩ := bnd H
       refine WPL.qq (q_nm (q_eql rfl rfl) (nm_bool h2)) ?_
       refine WPL.qq (q_as (v := .lit (.bool _)) rfl) ?_
       refine WPL.nx ?_
       refine WP.cond (t := x6) rfl (fun hb3 => ?_) (fun hb3 => ?_)
       · replace H := cnt hb3 H
         refine WP.skipW ?_
         have q0 := j1 H
         subst q0
         exact W.wk [0] hnp r3 ⟨rfl, AA1, by decide, rfl, trivial⟩ (LeE.u (LeE.u (LeE.u (LeE.none rfl rfl)))) rfl
       replace H := cnf hb3 H
       refine WP.sr ?_
       refine WPL.qq (q_mv (v := .lit (.int _ _)) rfl) ?_
       obtain ⟨x7, h3, H⟩ := bnd H
       refine WPL.qq (q_nm (q_eql rfl rfl) (nm_bool h3)) ?_
       refine WPL.qq (q_as (v := .lit (.bool _)) rfl) ?_
       refine WPL.nx ?_
       refine WP.cond (t := x7) rfl (fun hb4 => ?_) (fun hb4 => ?_)
       · replace H := cnt hb4 H
         refine WP.skipW ?_
         have q0 := j1 H
         subst q0
         exact W.wk [0] hnp r3 ⟨rfl, AA1, by decide, rfl, trivial⟩ (LeE.u (LeE.u (LeE.u (LeE.none rfl rfl)))) rfl
       replace H := cnf hb4 H
       refine WP.region ?_
       refine WPL.qq (q_mv (v := .lit (.int _ _)) rfl) ?_
       obtain ⟨x8, h4, H⟩ := bnd H
       refine WPL.qq (q_nm (q_eql rfl rfl) (nm_bool h4)) ?_
       refine WPL.qq (q_as (v := .lit (.bool _)) rfl) ?_
       refine WPL.nilW ?_
       have q0 := j1 H
       subst q0
       exact W.wk [0] hnp r3 ⟨rfl, AA1, by decide, rfl, trivial⟩ (LeE.u (LeE.u (LeE.u (LeE.none rfl rfl)))) rfl
     rintro _ _ _ ⟨rfl, rfl, rfl⟩
     refine W.now ?_
     refine Then.n ?_
     refine WP.cond (t := x5) rfl (fun hb5 => ?_) (fun hb5 => ?_)
     · replace H := cnt hb5 H
       refine WP.skipW ?_
       exact W.wk [0] hnp (InBlock.n (InBlock.n (Then.n ⟨n, (x4 + (Utf8.decode x1 x4).2), Nat.lt_succ_self n, H, rfl, rfl⟩))) ⟨rfl, AA1, by decide, rfl, trivial⟩ (LeE.u (LeE.none rfl rfl)) rfl
     replace H := cnf hb5 H
     refine WP.seq ?_
     obtain ⟨x9, H3, H⟩ := bnd H
     refine WP.monoW (Q := fun x E M => x = .normal ∧ E = ((Env.none.upd 9 (.ptr 0 0)).upd 20 (.lit (.bool x9))) ∧ M = (Mem.nil.push (.obj (.stringIter x1 (x4 + (Utf8.decode x1 x4).2))))) ?_ ?_
     · clear H
       have H := H3
       clear H3
       refine WP.sr ?_
       refine WPL.qq (q_mv (v := .lit (.int _ _)) rfl) ?_
       obtain ⟨x10, h5, H⟩ := bnd H
       refine WPL.qq (q_nm (q_lss rfl rfl) (nm_bool h5)) ?_
       refine WPL.qq (q_as (v := .lit (.bool _)) rfl) ?_
       refine WPL.nx ?_
       refine WP.cond (t := x10) rfl (fun hb6 => ?_) (fun hb6 => ?_)
       · replace H := cnt hb6 H
         refine WP.skipW ?_
         have q0 := j1 H
         subst q0
         exact W.wk [0] hnp r3 ⟨rfl, AA1, by decide, rfl, trivial⟩ (LeE.u (LeE.u (LeE.none rfl rfl))) rfl
       replace H := cnf hb6 H
       refine WP.sr ?_
       refine WPL.qq (q_mv (v := .lit (.int _ _)) rfl) ?_
       obtain ⟨x11, h6, H⟩ := bnd H
       refine WPL.qq (q_nm (q_eql rfl rfl) (nm_bool h6)) ?_
       refine WPL.qq (q_as (v := .lit (.bool _)) rfl) ?_
       refine WPL.nx ?_
       refine WP.cond (t := x11) rfl (fun hb7 => ?_) (fun hb7 => ?_)
       · replace H := cnt hb7 H
         refine WP.skipW ?_
         have q0 := j1 H
         subst q0
         exact W.wk [0] hnp r3 ⟨rfl, AA1, by decide, rfl, trivial⟩ (LeE.u (LeE.u (LeE.none rfl rfl))) rfl
       replace H := cnf hb7 H
       refine WP.region ?_
       refine WPL.qq (q_mv (v := .lit (.int _ _)) rfl) ?_
       obtain ⟨x12, h7, H⟩ := bnd H
       refine WPL.qq (q_nm (q_eql rfl rfl) (nm_bool h7)) ?_
       refine WPL.qq (q_as (v := .lit (.bool _)) rfl) ?_
       refine WPL.nilW ?_
       have q0 := j1 H
       subst q0
       exact W.wk [0] hnp r3 ⟨rfl, AA1, by decide, rfl, trivial⟩ (LeE.u (LeE.u (LeE.none rfl rfl))) rfl
     rintro _ _ _ ⟨rfl, rfl, rfl⟩
     refine W.now ?_
     refine Then.n ?_
     refine WP.cond (t := x9) rfl (fun hb8 => ?_) (fun hb8 => ?_)
     · replace H := cnt hb8 H
       refine WP.sr ?_
       refine WPL.qq (q_as (v := .lit (.int _ _)) rfl) ?_
       refine WPL.nx ?_
       refine WP.retW ?_
       have q0 := j1 H
       subst q0
       exact W.wk [] hnp (InBlock.r (InBlock.r (Then.r r3))) ⟨rfl, trivial, by decide, rfl, trivial⟩ (LeE.u (LeE.none rfl rfl)) rfl
     replace H := cnf hb8 H
     refine WP.skipW ?_
     exact W.wk [0] hnp (InBlock.n (InBlock.n (Then.n ⟨n, (x4 + (Utf8.decode x1 x4).2), Nat.lt_succ_self n, H, rfl, rfl⟩))) ⟨rfl, AA1, by decide, rfl, trivial⟩ (LeE.u (LeE.none rfl rfl)) rfl
   replace H := cnf hb2 H
   refine WPL.qq (q_nextEnd rfl rfl hb2) ?_
   refine WPL.qq (q_extract rfl rfl) ?_
   refine WPL.nx ?_
   refine WP.seq ?_
   refine WP.condF rfl ?_
   refine WP.exitW ?_
   have q0 := j1 H
   subst q0
   exact W.wk [] hnp (Then.x (Then.x r3)) ⟨rfl, trivial, by decide, rfl, trivial⟩ (LeE.none rfl rfl) rfl
 rcases y1 with _ | _
 · rintro _ _ _ ⟨rfl, rfl, rfl⟩
   have q0 := j1 H
   subst q0
   exact W.now (InBlock.r (Then.r (BodyR.mkR trivial rfl [] ⟨rfl, rfl⟩ ⟨rfl, trivial, by decide, rfl, trivial⟩ rfl rfl)))
 rintro _ _ _ ⟨rfl, rfl, rfl⟩
 refine W.now ?_
 refine InBlock.x0 ?_
 refine Then.n ?_
 refine WP.sr ?_
 refine WPL.qq (q_as (v := .lit (.int _ _)) rfl) ?_
 refine WPL.nx ?_
 refine WP.retW ?_
 have q0 := j1 H
 subst q0
 exact W.now (BodyR.mkR trivial rfl [] ⟨rfl, rfl⟩ ⟨rfl, trivial, by decide, rfl, trivial⟩ rfl rfl)
theorem s_val_Str (k : Nat) (x1 : ByteArray) (x2 : Int) (x3 : ByteArray) (x4 : Int) (H : g_val_Str k x1 = some (x2, x3, x4)) : Go.Q.Spec Tryz.prog 14 0 [.lit (.string x1)] Mem.nil (fun o M => o = .ret (.agg [.lit (.int .i64 x2), .lit (.int .i64 0), .lit (.int .i64 0), .lit (.string x3), .lit (.bool false), .lit (.int .i64 x4)]) ∧ M = (Mem.nil.push (.cells 29 [.lit (.int .i64 x2), .lit (.int .i64 0), .lit (.int .i64 0), .lit (.string x3), .lit (.bool false), .lit (.int .i64 x4)]))) := by
 unfold g_val_Str at H
 refine Go.Q.Spec.of_bodyR (az := [(29, 6)]) (rs := [.cell 2 29]) (nt := 14) Tryz.func14 rfl rfl (by intro t T h; simp at h; rcases h with ⟨rfl, rfl⟩ <;> first | exact ag29) rfl rfl fun cx hnp => ?_
 refine WP.sr ?_
 refine WPL.d (d_alloc ze29 rfl) rfl ?_
 refine WPL.nx ?_
 refine WP.seq ?_
 refine WP.seq ?_
 obtain ⟨x5, H1, H⟩ := bnd H
 refine WP.monoW (Q := fun x E M => x = .normal ∧ E = (((Env.none.upd 0 (.lit (.string x1))).upd 2 (.ptr 0 0)).upd 10 (.lit (.bool x5))) ∧ M = (Mem.nil.push (.cells 29 [.lit (.int .i64 0), .lit (.int .i64 0), .lit (.int .i64 0), .lit (.string (ByteArray.mk #[])), .lit (.bool false), .lit (.int .i64 0)]))) ?_ ?_
 · clear H
   have H := H1
   clear H1
   refine WP.region ?_
   refine WPL.qq (q_mv (v := .lit (.string _)) rfl) ?_
   refine WPL.qq (q_len_str Tryz.underlying9 rfl) ?_
   obtain ⟨x6, h1, H⟩ := bnd H
   refine WPL.qq (q_nm (q_gtr rfl rfl) (nm_bool h1)) ?_
   refine WPL.qq (q_mv (v := .lit (.bool _)) rfl) ?_
   refine WPL.split (t := 6) (b := x6) rfl (fun hb1 => ?_) (fun hb1 => ?_)
   · replace H := cnt hb1 H
     refine WPL.sg true rfl (lb hb1) ?_
     refine WPL.sg true rfl (lb hb1) ?_
     refine WPL.sg true rfl (lb hb1) ?_
     refine WPL.qq (q_pickT (v := .lit (.bool _)) (lb hb1) rfl) ?_
     refine WPL.nilW ?_
     have q0 := j1 H
     subst q0
     exact W.wk [0] hnp r3 ⟨rfl, AA1, by decide, rfl, trivial⟩ (LeE.u (LeE.u (LeE.u (LeE.none rfl rfl)))) rfl
   replace H := cnf hb1 H
   refine WPL.gq rfl (lb hb1) (q_mv (v := .lit (.string _)) rfl) ?_
   obtain ⟨x7, h2, H⟩ := bnd H
   refine WPL.cg rfl rfl (lb hb1) (runs_call (s := []) (t := []) (N := 1) (bor := []) fn47 rfl (s_utf_Xml k x1 x7 h2) ⟨rfl, trivial, by decide, rfl, trivial⟩ rfl trivial (.ren rfl rfl .nil) rfl trivial rfl) rfl ?_
   refine WPL.gq rfl (lb hb1) (q_neq rfl rfl) ?_
   refine WPL.qq (q_pickF (v := .lit (.bool _)) (lb hb1) rfl) ?_
   refine WPL.nilW ?_
   have q0 := j1 H
   subst q0
   exact W.wk [0] hnp r3 ⟨rfl, AA1, by decide, rfl, trivial⟩ (LeE.u (LeE.u (LeE.u (LeE.none rfl rfl)))) rfl
 rintro _ _ _ ⟨rfl, rfl, rfl⟩
 refine W.now ?_
 refine Then.n ?_
 refine WP.cond (t := x5) rfl (fun hb2 => ?_) (fun hb2 => ?_)
 · replace H := cnt hb2 H
   refine WP.sr ?_
   obtain ⟨x8, h3, H⟩ := bnd H
   refine WPL.c (runs_call (s := []) (t := [1]) (N := 2) (bor := []) fn16 rfl (s_val_Err k 2 x8 h3) ⟨rfl, trivial, by decide, rfl, trivial⟩ rfl trivial (.ren rfl rfl .nil) rfl BB1 rfl) rfl ?_
   refine WPL.s (s_store sz29 rfl rfl rfl rfl rfl) ?_
   refine WPL.nx ?_
   refine WP.retW ?_
   obtain ⟨rfl, rfl, rfl⟩ := j3 H
   exact W.now (Then.r (BodyR.mkR trivial rfl [0] ⟨rfl, rfl⟩ ⟨rfl, AA1, by decide, rfl, trivial⟩ rfl rfl))
 replace H := cnf hb2 H
 refine WP.skipW ?_
 refine W.now ?_
 refine Then.n ?_
 refine WP.sr ?_
 refine WPL.qq (q_mv (v := .lit (.string _)) rfl) ?_
 refine WPL.qq (q_build bu29 rfl) ?_
 refine WPL.s (s_store sz29 rfl rfl rfl rfl rfl) ?_
 refine WPL.nx ?_
 refine WP.retW ?_
 obtain ⟨rfl, rfl, rfl⟩ := j3 H
 exact W.now (BodyR.mkR trivial rfl [0] ⟨rfl, rfl⟩ ⟨rfl, AA1, by decide, rfl, trivial⟩ rfl rfl)
theorem s_r6_char (k : Nat) (x1 : Int) (x2 : Bool) (H : g_r6_char k x1 = some x2) : Go.Q.Spec Tryz.prog 159 0 [.lit (.int .i64 x1)] Mem.nil (fun o M => o = .ret (.lit (.bool x2)) ∧ M = Mem.nil) := by
 unfold g_r6_char at H
 refine Go.Q.Spec.of_bodyR (az := []) (rs := [.tmp 2]) (nt := 18) Tryz.func159 rfl rfl (by intro t T h; simp at h) rfl rfl fun cx hnp => ?_
 refine WP.sr ?_
 refine WPL.qq (q_as (v := .lit (.bool _)) rfl) ?_
 refine WPL.nx ?_
 refine WP.seq ?_
 obtain ⟨x3, H1, H⟩ := bnd H
 refine WP.monoW (Q := fun x E M => x = .normal ∧ E = (Env.none.upd 2 (.lit (.bool x3))) ∧ M = Mem.nil) ?_ ?_
 · clear H
   have H := H1
   clear H1
   refine WP.region ?_
   refine WPL.qq (q_mv (v := .lit (.int _ _)) rfl) ?_
   refine WPL.qq (q_geq rfl rfl) ?_
   refine WPL.qq (q_mv (v := .lit (.bool _)) rfl) ?_
   refine WPL.split (t := 5) (b := (decide (0 ≤ x1))) rfl (fun hb1 => ?_) (fun hb1 => ?_)
   · replace H := cnt hb1 H
     refine WPL.gq rfl (lb hb1) (q_mv (v := .lit (.int _ _)) rfl) ?_
     refine WPL.gq rfl (lb hb1) (q_leq rfl rfl) ?_
     refine WPL.qq (q_pickT (v := .lit (.bool _)) (lb hb1) rfl) ?_
     refine WPL.qq (q_mv (v := .lit (.bool _)) rfl) ?_
     refine WPL.split (t := 9) (b := (decide (x1 ≤ 1114111))) rfl (fun hb2 => ?_) (fun hb2 => ?_)
     · replace H := cnt hb2 H
       refine WPL.gq rfl (lb hb2) (q_mv (v := .lit (.int _ _)) rfl) ?_
       refine WPL.gq rfl (lb hb2) (q_geq rfl rfl) ?_
       refine WPL.gq rfl (lb hb2) (q_mv (v := .lit (.bool _)) rfl) ?_
       refine WPL.split (t := 12) (b := (decide (55296 ≤ x1))) rfl (fun hb3 => ?_) (fun hb3 => ?_)
       · replace H := cnt hb3 H
         refine WPL.gq rfl (lb hb3) (q_mv (v := .lit (.int _ _)) rfl) ?_
         refine WPL.gq rfl (lb hb3) (q_leq rfl rfl) ?_
         refine WPL.gq rfl (lb hb2) (q_pickT (v := .lit (.bool _)) (lb hb3) rfl) ?_
         refine WPL.gq rfl (lb hb2) (q_not rfl) ?_
         refine WPL.qq (q_pickT (v := .lit (.bool _)) (lb hb2) rfl) ?_
         refine WPL.qq (q_as (v := .lit (.bool _)) rfl) ?_
         refine WPL.nilW ?_
         have q0 := j1 H
         subst q0
         exact W.wk [] hnp r3 ⟨rfl, trivial, by decide, rfl, trivial⟩ (LeE.u (LeE.none rfl rfl)) rfl
       replace H := cnf hb3 H
       refine WPL.sg false rfl (lb hb3) ?_
       refine WPL.sg false rfl (lb hb3) ?_
       refine WPL.gq rfl (lb hb2) (q_pickF (v := .lit (.bool _)) (lb hb3) rfl) ?_
       refine WPL.gq rfl (lb hb2) (q_not rfl) ?_
       refine WPL.qq (q_pickT (v := .lit (.bool _)) (lb hb2) rfl) ?_
       refine WPL.qq (q_as (v := .lit (.bool _)) rfl) ?_
       refine WPL.nilW ?_
       have q0 := j1 H
       subst q0
       exact W.wk [] hnp r3 ⟨rfl, trivial, by decide, rfl, trivial⟩ (LeE.u (LeE.none rfl rfl)) rfl
     replace H := cnf hb2 H
     refine WPL.sg false rfl (lb hb2) ?_
     refine WPL.sg false rfl (lb hb2) ?_
     refine WPL.sg false rfl (lb hb2) ?_
     refine WPL.skipu rfl rfl rfl rfl (.inl trivial) ?_
     refine WPL.skipu rfl rfl rfl rfl (.inl trivial) ?_
     refine WPL.sg false rfl (lb hb2) ?_
     refine WPL.sg false rfl (lb hb2) ?_
     refine WPL.qq (q_pickF (v := .lit (.bool _)) (lb hb2) rfl) ?_
     refine WPL.qq (q_as (v := .lit (.bool _)) rfl) ?_
     refine WPL.nilW ?_
     have q0 := j1 H
     subst q0
     exact W.wk [] hnp r3 ⟨rfl, trivial, by decide, rfl, trivial⟩ (LeE.u (LeE.none rfl rfl)) rfl
   replace H := cnf hb1 H
   refine WPL.sg false rfl (lb hb1) ?_
   refine WPL.sg false rfl (lb hb1) ?_
   refine WPL.qq (q_pickF (v := .lit (.bool _)) (lb hb1) rfl) ?_
   refine WPL.qq (q_mv (v := .lit (.bool _)) rfl) ?_
   refine WPL.sg false rfl rfl ?_
   refine WPL.sg false rfl rfl ?_
   refine WPL.sg false rfl rfl ?_
   refine WPL.skipu rfl rfl rfl rfl (.inl trivial) ?_
   refine WPL.skipu rfl rfl rfl rfl (.inl trivial) ?_
   refine WPL.sg false rfl rfl ?_
   refine WPL.sg false rfl rfl ?_
   refine WPL.qq (q_pickF (v := .lit (.bool _)) rfl rfl) ?_
   refine WPL.qq (q_as (v := .lit (.bool _)) rfl) ?_
   refine WPL.nilW ?_
   have q0 := j1 H
   subst q0
   exact W.wk [] hnp r3 ⟨rfl, trivial, by decide, rfl, trivial⟩ (LeE.u (LeE.none rfl rfl)) rfl
 rintro _ _ _ ⟨rfl, rfl, rfl⟩
 refine W.now ?_
 refine Then.n ?_
 refine WP.retW ?_
 have q0 := j1 H
 subst q0
 exact W.now (BodyR.mkR trivial rfl [] ⟨rfl, rfl⟩ ⟨rfl, trivial, by decide, rfl, trivial⟩ rfl rfl)
theorem s_r6_Write (k : Nat) (x1 : Int) (x2 : (List Int)) (H : g_r6_Write k x1 = some x2) : Go.Q.Spec Tryz.prog 160 0 [.lit (.int .i64 x1)] Mem.nil (fun o M => o = .ret (.ro (Rd.slice (Rd.int .u8)) false x2) ∧ M = Mem.nil) := by
 unfold g_r6_Write at H
 refine Go.Q.Spec.of_bodyR (az := []) (rs := [.tmp 2]) (nt := 57) Tryz.func160 rfl rfl (by intro t T h; simp at h) rfl rfl fun cx hnp => ?_
 refine WP.sr ?_
 refine WPL.qq (q_as (v := .lit _) rfl) ?_
 refine WPL.nx ?_
 refine WP.seq ?_
 obtain ⟨x3, H1, H⟩ := bnd H
 refine WP.monoW (Q := fun x E M => x = .normal ∧ E = (Env.none.upd 0 (.lit (.int .i64 x3))) ∧ M = Mem.nil) ?_ ?_
 · clear H
   have H := H1
   clear H1
   refine WP.sr ?_
   refine WPL.qq (q_mv (v := .lit (.int _ _)) rfl) ?_
   obtain ⟨x4, h1, H⟩ := bnd H
   refine WPL.c (runs_call (s := []) (t := []) (N := 0) (bor := []) fn159 rfl (s_r6_char k x1 x4 h1) ⟨rfl, trivial, by decide, rfl, trivial⟩ rfl trivial (.ren rfl rfl .nil) rfl trivial rfl) rfl ?_
   refine WPL.qq (q_not rfl) ?_
   refine WPL.nx ?_
   refine WP.cond (t := (!x4)) rfl (fun hb1 => ?_) (fun hb1 => ?_)
   · replace H := cnt hb1 H
     refine WP.region ?_
     refine WPL.qq (q_as (v := .lit (.int _ _)) rfl) ?_
     refine WPL.nilW ?_
     have q0 := j1 H
     subst q0
     exact W.wk [] hnp r3 ⟨rfl, trivial, by decide, rfl, trivial⟩ (LeE.u (LeE.none rfl rfl)) rfl
   replace H := cnf hb1 H
   refine WP.skipW ?_
   have q0 := j1 H
   subst q0
   exact W.wk [] hnp r3 ⟨rfl, trivial, by decide, rfl, trivial⟩ (LeE.u (LeE.none rfl rfl)) rfl
 rintro _ _ _ ⟨rfl, rfl, rfl⟩
 refine W.now ?_
 refine Then.n ?_
 refine WP.seq ?_
 refine WP.sr ?_
 refine WPL.qq (q_mv (v := .lit (.int _ _)) rfl) ?_
 refine WPL.qq (q_lss rfl rfl) ?_
 refine WPL.nx ?_
 refine WP.cond (t := (decide (x3 < 128))) rfl (fun hb2 => ?_) (fun hb2 => ?_)
 · replace H := cnt hb2 H
   refine WP.sr ?_
   refine WPL.qq (q_mv (v := .lit (.int _ _)) rfl) ?_
   refine WPL.qq (q_conv Tryz.underlying3 Tryz.underlying5 rfl) ?_
   refine WPL.d (d_buildSlice (ds := ([(IntKind.wrap .u8 x3)] : List Int)) (R := (Rd.int .u8)) li104 rfl rfl rfl rfl rfl (JoinRows.cons1 Joins.sc rfl JoinRows.nil) rfl rfl) rfl ?_
   refine WPL.qq (q_as (v := .whole _) rfl) ?_
   refine WPL.nx ?_
   refine WP.retW ?_
   refine W.cv (Cv.frzRow (i := 0) rfl rfl hnp rfl rfl) rfl ?_
   have q0 := j1 H
   subst q0
   exact W.now (Then.r (BodyR.mkR trivial rfl [] ⟨rfl, rfl⟩ ⟨rfl, trivial, by decide, rfl, trivial⟩ rfl rfl))
 replace H := cnf hb2 H
 refine WP.skipW ?_
 refine W.now ?_
 refine Then.n ?_
 refine WP.seq ?_
 refine WP.sr ?_
 refine WPL.qq (q_mv (v := .lit (.int _ _)) rfl) ?_
 refine WPL.qq (q_lss rfl rfl) ?_
 refine WPL.nx ?_
 refine WP.cond (t := (decide (x3 < 2048))) rfl (fun hb3 => ?_) (fun hb3 => ?_)
 · replace H := cnt hb3 H
   refine WP.sr ?_
   refine WPL.qq (q_mv (v := .lit (.int _ _)) rfl) ?_
   refine WPL.qq (q_quo rfl rfl rfl) ?_
   obtain ⟨x5, h2, H⟩ := bnd H
   refine WPL.qq (q_nm (q_add rfl rfl) (nm_int h2)) ?_
   refine WPL.qq (q_conv Tryz.underlying3 Tryz.underlying5 rfl) ?_
   refine WPL.qq (q_mv (v := .lit (.int _ _)) rfl) ?_
   refine WPL.qq (q_rem rfl rfl rfl) ?_
   obtain ⟨x6, h3, H⟩ := bnd H
   refine WPL.qq (q_nm (q_add rfl rfl) (nm_int h3)) ?_
   refine WPL.qq (q_conv Tryz.underlying3 Tryz.underlying5 rfl) ?_
   refine WPL.d (d_buildSlice (ds := ([(IntKind.wrap .u8 x5), (IntKind.wrap .u8 x6)] : List Int)) (R := (Rd.int .u8)) li104 rfl rfl rfl rfl rfl (JoinRows.cons1 Joins.sc rfl (JoinRows.cons1 Joins.sc rfl JoinRows.nil)) rfl rfl) rfl ?_
   refine WPL.qq (q_as (v := .whole _) rfl) ?_
   refine WPL.nx ?_
   refine WP.retW ?_
   refine W.cv (Cv.frzRow (i := 0) rfl rfl hnp rfl rfl) rfl ?_
   have q0 := j1 H
   subst q0
   exact W.now (Then.r (BodyR.mkR trivial rfl [] ⟨rfl, rfl⟩ ⟨rfl, trivial, by decide, rfl, trivial⟩ rfl rfl))
 replace H := cnf hb3 H
 refine WP.skipW ?_
 refine W.now ?_
 refine Then.n ?_
 refine WP.seq ?_
 refine WP.sr ?_
 refine WPL.qq (q_mv (v := .lit (.int _ _)) rfl) ?_
 refine WPL.qq (q_lss rfl rfl) ?_
 refine WPL.nx ?_
 refine WP.cond (t := (decide (x3 < 65536))) rfl (fun hb4 => ?_) (fun hb4 => ?_)
 · replace H := cnt hb4 H
   refine WP.sr ?_
   refine WPL.qq (q_mv (v := .lit (.int _ _)) rfl) ?_
   obtain ⟨x7, h4, H⟩ := bnd H
   refine WPL.qq (q_nm (q_quo rfl rfl rfl) (nm_int h4)) ?_
   refine WPL.qq (q_add rfl rfl) ?_
   obtain ⟨x8, h5, H⟩ := bnd H
   refine WPL.qq (q_nm (q_conv Tryz.underlying3 Tryz.underlying5 rfl) (nm_int h5)) ?_
   refine WPL.qq (q_mv (v := .lit (.int _ _)) rfl) ?_
   refine WPL.qq (q_quo rfl rfl rfl) ?_
   obtain ⟨x9, h6, H⟩ := bnd H
   refine WPL.qq (q_nm (q_rem rfl rfl rfl) (nm_int h6)) ?_
   refine WPL.qq (q_add rfl rfl) ?_
   obtain ⟨x10, h7, H⟩ := bnd H
   refine WPL.qq (q_nm (q_conv Tryz.underlying3 Tryz.underlying5 rfl) (nm_int h7)) ?_
   refine WPL.qq (q_mv (v := .lit (.int _ _)) rfl) ?_
   refine WPL.qq (q_rem rfl rfl rfl) ?_
   obtain ⟨x11, h8, H⟩ := bnd H
   refine WPL.qq (q_nm (q_add rfl rfl) (nm_int h8)) ?_
   refine WPL.qq (q_conv Tryz.underlying3 Tryz.underlying5 rfl) ?_
   refine WPL.d (d_buildSlice (ds := ([x8, x10, (IntKind.wrap .u8 x11)] : List Int)) (R := (Rd.int .u8)) li104 rfl rfl rfl rfl rfl (JoinRows.cons1 Joins.sc rfl (JoinRows.cons1 Joins.sc rfl (JoinRows.cons1 Joins.sc rfl JoinRows.nil))) rfl rfl) rfl ?_
   refine WPL.qq (q_as (v := .whole _) rfl) ?_
   refine WPL.nx ?_
   refine WP.retW ?_
   refine W.cv (Cv.frzRow (i := 0) rfl rfl hnp rfl rfl) rfl ?_
   have q0 := j1 H
   subst q0
   exact W.now (Then.r (BodyR.mkR trivial rfl [] ⟨rfl, rfl⟩ ⟨rfl, trivial, by decide, rfl, trivial⟩ rfl rfl))
 replace H := cnf hb4 H
 refine WP.skipW ?_
 refine W.now ?_
 refine Then.n ?_
 refine WP.sr ?_
 refine WPL.qq (q_mv (v := .lit (.int _ _)) rfl) ?_
 obtain ⟨x12, h9, H⟩ := bnd H
 refine WPL.qq (q_nm (q_quo rfl rfl rfl) (nm_int h9)) ?_
 refine WPL.qq (q_add rfl rfl) ?_
 obtain ⟨x13, h10, H⟩ := bnd H
 refine WPL.qq (q_nm (q_conv Tryz.underlying3 Tryz.underlying5 rfl) (nm_int h10)) ?_
 refine WPL.qq (q_mv (v := .lit (.int _ _)) rfl) ?_
 obtain ⟨x14, h11, H⟩ := bnd H
 refine WPL.qq (q_nm (q_quo rfl rfl rfl) (nm_int h11)) ?_
 refine WPL.qq (q_rem rfl rfl rfl) ?_
 obtain ⟨x15, h12, H⟩ := bnd H
 refine WPL.qq (q_nm (q_add rfl rfl) (nm_int h12)) ?_
 refine WPL.qq (q_conv Tryz.underlying3 Tryz.underlying5 rfl) ?_
 refine WPL.qq (q_mv (v := .lit (.int _ _)) rfl) ?_
 refine WPL.qq (q_quo rfl rfl rfl) ?_
 obtain ⟨x16, h13, H⟩ := bnd H
 refine WPL.qq (q_nm (q_rem rfl rfl rfl) (nm_int h13)) ?_
 refine WPL.qq (q_add rfl rfl) ?_
 obtain ⟨x17, h14, H⟩ := bnd H
 refine WPL.qq (q_nm (q_conv Tryz.underlying3 Tryz.underlying5 rfl) (nm_int h14)) ?_
 refine WPL.qq (q_mv (v := .lit (.int _ _)) rfl) ?_
 refine WPL.qq (q_rem rfl rfl rfl) ?_
 obtain ⟨x18, h15, H⟩ := bnd H
 refine WPL.qq (q_nm (q_add rfl rfl) (nm_int h15)) ?_
 refine WPL.qq (q_conv Tryz.underlying3 Tryz.underlying5 rfl) ?_
 refine WPL.d (d_buildSlice (ds := ([x13, (IntKind.wrap .u8 x15), x17, (IntKind.wrap .u8 x18)] : List Int)) (R := (Rd.int .u8)) li104 rfl rfl rfl rfl rfl (JoinRows.cons1 Joins.sc rfl (JoinRows.cons1 Joins.sc rfl (JoinRows.cons1 Joins.sc rfl (JoinRows.cons1 Joins.sc rfl JoinRows.nil)))) rfl rfl) rfl ?_
 refine WPL.qq (q_as (v := .whole _) rfl) ?_
 refine WPL.nx ?_
 refine WP.retW ?_
 refine W.cv (Cv.frzRow (i := 0) rfl rfl hnp rfl rfl) rfl ?_
 have q0 := j1 H
 subst q0
 exact W.now (BodyR.mkR trivial rfl [] ⟨rfl, rfl⟩ ⟨rfl, trivial, by decide, rfl, trivial⟩ rfl rfl)
theorem s_r6_first (k : Nat) (x1 : ByteArray) (x2 : Int) (x3 : Int) (x4 : Bool) (H : g_r6_first k x1 = some (x2, x3, x4)) : Go.Q.Spec Tryz.prog 136 0 [.lit (.string x1)] Mem.nil (fun o M => o = .ret (.tup [.lit (.int .i64 x2), .lit (.int .i64 x3), .lit (.bool x4)]) ∧ M = Mem.nil) := by
 unfold g_r6_first at H
 refine Go.Q.Spec.of_bodyR (az := []) (rs := [.tmp 2, .tmp 3, .tmp 4]) (nt := 69) Tryz.func136 rfl rfl (by intro t T h; simp at h) rfl rfl fun cx hnp => ?_
 refine WP.sr ?_
 refine WPL.qq (q_as (v := .lit (.int _ _)) rfl) ?_
 refine WPL.qq (q_as (v := .lit (.int _ _)) rfl) ?_
 refine WPL.qq (q_as (v := .lit (.bool _)) rfl) ?_
 refine WPL.nx ?_
 refine WP.seq ?_
 refine WP.sr ?_
 refine WPL.qq (q_as (v := .lit (.int _ _)) rfl) ?_
 refine WPL.nx ?_
 refine WP.block ?_
 refine WP.cv (Cv.weak (E' := ((Env.none.upd 0 (.lit (.string x1))).upd 5 (.lit (.int .i64 1)))) (M' := Mem.nil) [] hnp ⟨rfl, trivial, by decide, rfl, trivial⟩ (LeE.u (LeE.u (LeE.none rfl rfl)))) ?_
 obtain ⟨y1, H1, H⟩ := bnd H
 refine WP.monoW (Q := fun x E M => match (generalizing := false) y1 with | (Sum.inl (x5, x6)) => x = .ret ∧ E = (((Env.none.upd 2 (.lit (.int .i64 x5))).upd 3 (.lit (.int .i64 x6))).upd 4 (.lit (.bool true))) ∧ M = Mem.nil | (Sum.inr _) => x = .exit 0 ∧ E = Env.none ∧ M = Mem.nil) ?_ ?_
 · refine WP.loop (β := Int) (fun n b => g_r6_first_l0 k x1 n b = some y1) (fun b => ((Env.none.upd 0 (.lit (.string x1))).upd 5 (.lit (.int .i64 b)))) (fun b => Mem.nil) k 1 H1 rfl rfl ?_
   rintro n x7 H
   obtain _ | n := n
   · exact nf rfl H
   rw [g_r6_first_l0.eq_2] at H
   show WP _ _ _ _ ((Env.none.upd 0 (.lit (.string x1))).upd 5 (.lit (.int .i64 x7))) Mem.nil _
   refine WP.seq ?_
   refine WP.seq ?_
   obtain ⟨x8, H2, H⟩ := bnd H
   refine WP.monoW (Q := fun x E M => x = .normal ∧ E = (((Env.none.upd 0 (.lit (.string x1))).upd 5 (.lit (.int .i64 x7))).upd 15 (.lit (.bool x8))) ∧ M = Mem.nil) ?_ ?_
   · clear H
     have H := H2
     clear H2
     refine WP.region ?_
     refine WPL.qq (q_mv (v := .lit (.int _ _)) rfl) ?_
     refine WPL.qq (q_leq rfl rfl) ?_
     refine WPL.qq (q_mv (v := .lit (.bool _)) rfl) ?_
     refine WPL.split (t := 10) (b := (decide (x7 ≤ 4))) rfl (fun hb1 => ?_) (fun hb1 => ?_)
     · replace H := cnt hb1 H
       refine WPL.gq rfl (lb hb1) (q_mv (v := .lit (.int _ _)) rfl) ?_
       refine WPL.gq rfl (lb hb1) (q_mv (v := .lit (.string _)) rfl) ?_
       refine WPL.gq rfl (lb hb1) (q_len_str Tryz.underlying9 rfl) ?_
       obtain ⟨x9, h1, H⟩ := bnd H
       refine WPL.gq rfl (lb hb1) (q_nm (q_leq rfl rfl) (nm_bool h1)) ?_
       refine WPL.qq (q_pickT (v := .lit (.bool _)) (lb hb1) rfl) ?_
       refine WPL.nilW ?_
       have q0 := j1 H
       subst q0
       exact W.wk [] hnp r3 ⟨rfl, trivial, by decide, rfl, trivial⟩ (LeE.u (LeE.u (LeE.u (LeE.none rfl rfl)))) rfl
     replace H := cnf hb1 H
     refine WPL.sg false rfl (lb hb1) ?_
     refine WPL.sg false rfl (lb hb1) ?_
     refine WPL.sg false rfl (lb hb1) ?_
     refine WPL.sg false rfl (lb hb1) ?_
     refine WPL.qq (q_pickF (v := .lit (.bool _)) (lb hb1) rfl) ?_
     refine WPL.nilW ?_
     have q0 := j1 H
     subst q0
     exact W.wk [] hnp r3 ⟨rfl, trivial, by decide, rfl, trivial⟩ (LeE.u (LeE.u (LeE.u (LeE.none rfl rfl)))) rfl
   rintro _ _ _ ⟨rfl, rfl, rfl⟩
   refine W.now ?_
   refine Then.n ?_
   refine WP.cond (t := x8) rfl (fun hb2 => ?_) (fun hb2 => ?_)
   · replace H := cnt hb2 H
     refine WP.skipW ?_
     refine W.now ?_
     refine Then.n ?_
     refine WP.seq ?_
     refine WP.block ?_
     refine WP.sr ?_
     refine WPL.qq (q_mv (v := .lit (.string _)) rfl) ?_
     obtain ⟨x10, h2, H⟩ := bnd H
     refine WPL.qq (q_index_str Tryz.underlying9 rfl rfl h2) ?_
     refine WPL.qq (q_conv Tryz.underlying5 Tryz.underlying3 rfl) ?_
     refine WPL.qq (q_as (v := .lit (.int _ _)) rfl) ?_
     refine WPL.nx ?_
     refine WP.seq ?_
     obtain ⟨x11, H3, H⟩ := bnd H
     refine WP.monoW (Q := fun x E M => x = .normal ∧ E = (((Env.none.upd 0 (.lit (.string x1))).upd 5 (.lit (.int .i64 x7))).upd 6 (.lit (.int .i64 x11))) ∧ M = Mem.nil) ?_ ?_
     · clear H
       have H := H3
       clear H3
       refine WP.sr ?_
       refine WPL.qq (q_mv (v := .lit (.int _ _)) rfl) ?_
       refine WPL.qq (q_eql rfl rfl) ?_
       refine WPL.nx ?_
       refine WP.cond (t := (decide (x7 = 2))) rfl (fun hb3 => ?_) (fun hb3 => ?_)
       · replace H := cnt hb3 H
         refine WP.region ?_
         refine WPL.qq (q_mv (v := .lit (.string _)) rfl) ?_
         obtain ⟨x12, h3, H⟩ := bnd H
         refine WPL.qq (q_index_str Tryz.underlying9 rfl rfl h3) ?_
         refine WPL.qq (q_conv Tryz.underlying5 Tryz.underlying3 rfl) ?_
         obtain ⟨x13, h4, H⟩ := bnd H
         refine WPL.qq (q_nm (q_sub rfl rfl) (nm_int h4)) ?_
         refine WPL.qq (q_as (v := .lit (.int _ _)) rfl) ?_
         refine WPL.nilW ?_
         have q0 := j1 H
         subst q0
         exact W.wk [] hnp r3 ⟨rfl, trivial, by decide, rfl, trivial⟩ (LeE.u (LeE.u (LeE.u (LeE.none rfl rfl)))) rfl
       replace H := cnf hb3 H
       refine WP.skipW ?_
       have q0 := j1 H
       subst q0
       exact W.wk [] hnp r3 ⟨rfl, trivial, by decide, rfl, trivial⟩ (LeE.u (LeE.u (LeE.u (LeE.none rfl rfl)))) rfl
     rintro _ _ _ ⟨rfl, rfl, rfl⟩
     refine W.now ?_
     refine Then.n ?_
     refine WP.seq ?_
     obtain ⟨x14, H4, H⟩ := bnd H
     refine WP.monoW (Q := fun x E M => x = .normal ∧ E = (((Env.none.upd 0 (.lit (.string x1))).upd 5 (.lit (.int .i64 x7))).upd 6 (.lit (.int .i64 x14))) ∧ M = Mem.nil) ?_ ?_
     · clear H
       have H := H4
       clear H4
       refine WP.sr ?_
       refine WPL.qq (q_mv (v := .lit (.int _ _)) rfl) ?_
       refine WPL.qq (q_eql rfl rfl) ?_
       refine WPL.nx ?_
       refine WP.cond (t := (decide (x7 = 3))) rfl (fun hb4 => ?_) (fun hb4 => ?_)
       · replace H := cnt hb4 H
         refine WP.region ?_
         refine WPL.qq (q_mv (v := .lit (.string _)) rfl) ?_
         obtain ⟨x15, h5, H⟩ := bnd H
         refine WPL.qq (q_index_str Tryz.underlying9 rfl rfl h5) ?_
         refine WPL.qq (q_conv Tryz.underlying5 Tryz.underlying3 rfl) ?_
         obtain ⟨x16, h6, H⟩ := bnd H
         refine WPL.qq (q_nm (q_sub rfl rfl) (nm_int h6)) ?_
         refine WPL.qq (q_as (v := .lit (.int _ _)) rfl) ?_
         refine WPL.nilW ?_
         have q0 := j1 H
         subst q0
         exact W.wk [] hnp r3 ⟨rfl, trivial, by decide, rfl, trivial⟩ (LeE.u (LeE.u (LeE.u (LeE.none rfl rfl)))) rfl
       replace H := cnf hb4 H
       refine WP.skipW ?_
       have q0 := j1 H
       subst q0
       exact W.wk [] hnp r3 ⟨rfl, trivial, by decide, rfl, trivial⟩ (LeE.u (LeE.u (LeE.u (LeE.none rfl rfl)))) rfl
     rintro _ _ _ ⟨rfl, rfl, rfl⟩
     refine W.now ?_
     refine Then.n ?_
     refine WP.seq ?_
     obtain ⟨x17, H5, H⟩ := bnd H
     refine WP.monoW (Q := fun x E M => x = .normal ∧ E = (((Env.none.upd 0 (.lit (.string x1))).upd 5 (.lit (.int .i64 x7))).upd 6 (.lit (.int .i64 x17))) ∧ M = Mem.nil) ?_ ?_
     · clear H
       have H := H5
       clear H5
       refine WP.sr ?_
       refine WPL.qq (q_mv (v := .lit (.int _ _)) rfl) ?_
       refine WPL.qq (q_eql rfl rfl) ?_
       refine WPL.nx ?_
       refine WP.cond (t := (decide (x7 = 4))) rfl (fun hb5 => ?_) (fun hb5 => ?_)
       · replace H := cnt hb5 H
         refine WP.region ?_
         refine WPL.qq (q_mv (v := .lit (.string _)) rfl) ?_
         obtain ⟨x18, h7, H⟩ := bnd H
         refine WPL.qq (q_index_str Tryz.underlying9 rfl rfl h7) ?_
         refine WPL.qq (q_conv Tryz.underlying5 Tryz.underlying3 rfl) ?_
         obtain ⟨x19, h8, H⟩ := bnd H
         refine WPL.qq (q_nm (q_sub rfl rfl) (nm_int h8)) ?_
         refine WPL.qq (q_as (v := .lit (.int _ _)) rfl) ?_
         refine WPL.nilW ?_
         have q0 := j1 H
         subst q0
         exact W.wk [] hnp r3 ⟨rfl, trivial, by decide, rfl, trivial⟩ (LeE.u (LeE.u (LeE.u (LeE.none rfl rfl)))) rfl
       replace H := cnf hb5 H
       refine WP.skipW ?_
       have q0 := j1 H
       subst q0
       exact W.wk [] hnp r3 ⟨rfl, trivial, by decide, rfl, trivial⟩ (LeE.u (LeE.u (LeE.u (LeE.none rfl rfl)))) rfl
     rintro _ _ _ ⟨rfl, rfl, rfl⟩
     refine W.now ?_
     refine Then.n ?_
     refine WP.seq ?_
     refine WP.sr ?_
     refine WPL.qq (q_as (v := .lit (.int _ _)) rfl) ?_
     refine WPL.nx ?_
     refine WP.block ?_
     refine WP.cv (Cv.weak (E' := ((((Env.none.upd 0 (.lit (.string x1))).upd 5 (.lit (.int .i64 x7))).upd 6 (.lit (.int .i64 x17))).upd 7 (.lit (.int .i64 1)))) (M' := Mem.nil) [] hnp ⟨rfl, trivial, by decide, rfl, trivial⟩ (LeE.u (LeE.u (LeE.u (LeE.u (LeE.none rfl rfl)))))) ?_
     obtain ⟨x20, H6, H⟩ := bnd H
     refine WP.monoW (Q := fun x E M => x = .exit 2 ∧ E = (((Env.none.upd 0 (.lit (.string x1))).upd 5 (.lit (.int .i64 x7))).upd 6 (.lit (.int .i64 x20))) ∧ M = Mem.nil) ?_ ?_
     · refine WP.loop (β := Int × Int) (fun n b => g_r6_first_l1 k x1 x7 n b.1 b.2 = some x20) (fun b => ((((Env.none.upd 0 (.lit (.string x1))).upd 5 (.lit (.int .i64 x7))).upd 6 (.lit (.int .i64 b.1))).upd 7 (.lit (.int .i64 b.2)))) (fun b => Mem.nil) k (x17, 1) H6 rfl rfl ?_
       rintro n ⟨x21, x22⟩ H
       obtain _ | n := n
       · exact nf rfl H
       rw [g_r6_first_l1.eq_2] at H
       show WP _ _ _ _ ((((Env.none.upd 0 (.lit (.string x1))).upd 5 (.lit (.int .i64 x7))).upd 6 (.lit (.int .i64 x21))).upd 7 (.lit (.int .i64 x22))) Mem.nil _
       refine WP.seq ?_
       refine WP.sr ?_
       refine WPL.qq (q_mv (v := .lit (.int _ _)) rfl) ?_
       refine WPL.qq (q_mv (v := .lit (.int _ _)) rfl) ?_
       refine WPL.qq (q_lss rfl rfl) ?_
       refine WPL.nx ?_
       refine WP.cond (t := (decide (x22 < x7))) rfl (fun hb6 => ?_) (fun hb6 => ?_)
       · replace H := cnt hb6 H
         refine WP.skipW ?_
         refine W.now ?_
         refine Then.n ?_
         refine WP.seq ?_
         refine WP.block ?_
         refine WP.region ?_
         refine WPL.qq (q_mv (v := .lit (.int _ _)) rfl) ?_
         refine WPL.qq (q_mul rfl rfl) ?_
         refine WPL.qq (q_mv (v := .lit (.string _)) rfl) ?_
         refine WPL.qq (q_mv (v := .lit (.int _ _)) rfl) ?_
         obtain ⟨x23, h9, H⟩ := bnd H
         refine WPL.qq (q_index_str Tryz.underlying9 rfl rfl h9) ?_
         refine WPL.qq (q_conv Tryz.underlying5 Tryz.underlying3 rfl) ?_
         obtain ⟨x24, h10, H⟩ := bnd H
         refine WPL.qq (q_nm (q_add rfl rfl) (nm_int h10)) ?_
         refine WPL.qq (q_sub rfl rfl) ?_
         refine WPL.qq (q_as (v := .lit (.int _ _)) rfl) ?_
         refine WPL.nilW ?_
         refine W.now ?_
         refine InBlock.n ?_
         refine Then.n ?_
         refine WP.region ?_
         refine WPL.qq (q_mv (v := .lit (.int _ _)) rfl) ?_
         refine WPL.qq (q_add rfl rfl) ?_
         refine WPL.qq (q_as (v := .lit (.int _ _)) rfl) ?_
         refine WPL.nilW ?_
         exact W.wk [] hnp (Then.n ⟨n, ((IntKind.wrap .i64 (x24 - 128)), (IntKind.wrap .i64 (x22 + 1))), Nat.lt_succ_self n, H, rfl, rfl⟩) ⟨rfl, trivial, by decide, rfl, trivial⟩ (LeE.u (LeE.u (LeE.u (LeE.u (LeE.none rfl rfl))))) rfl
       replace H := cnf hb6 H
       refine WP.exitW ?_
       have q0 := j1 H
       subst q0
       exact W.wk [] hnp (Then.x (Then.x r3)) ⟨rfl, trivial, by decide, rfl, trivial⟩ (LeE.u (LeE.u (LeE.u (LeE.none rfl rfl)))) rfl
     rintro _ _ _ ⟨rfl, rfl, rfl⟩
     refine W.now ?_
     refine InBlock.x0 ?_
     refine Then.n ?_
     refine WP.seq ?_
     obtain ⟨x25, H7, H⟩ := bnd H
     refine WP.monoW (Q := fun x E M => x = .normal ∧ E = ((((Env.none.upd 0 (.lit (.string x1))).upd 5 (.lit (.int .i64 x7))).upd 6 (.lit (.int .i64 x20))).upd 66 (.lit (.bool x25))) ∧ M = Mem.nil) ?_ ?_
     · clear H
       have H := H7
       clear H7
       refine WP.regionD' 15 [] [] mixed rfl ?_
       refine WPD.tT 0 rfl (q_mv (v := .lit (.int _ _)) rfl) ?_
       refine WPD.tT 1 rfl (q_geq rfl rfl) ?_
       refine WPD.tT 2 rfl (q_mv (v := .lit (.bool _)) rfl) ?_
       refine WPD.split (t := 54) (b := (decide (0 ≤ x20))) rfl (fun hb7 => ?_) (fun hb7 => ?_)
       · replace H := cnt hb7 H
         refine WPD.takegT 3 rfl (by kernel_rfl) rfl rfl (lb hb7) (q_mv (v := .lit (.int _ _)) rfl) rfl ?_
         obtain ⟨x26, h11, H⟩ := bnd H
         refine WPD.effg 4 [] [] rfl (by kernel_rfl) rfl rfl (lb hb7) (runs_call (s := []) (t := []) (N := 0) (bor := []) fn159 rfl (s_r6_char k x20 x26 h11) ⟨rfl, trivial, by decide, rfl, trivial⟩ rfl trivial (.ren rfl rfl .nil) rfl trivial rfl) rfl rfl ?_
         refine WPD.tT 5 rfl (q_pickT (v := .lit (.bool _)) (lb hb7) rfl) ?_
         refine WPD.tT 6 rfl (q_mv (v := .lit (.bool _)) rfl) ?_
         refine WPD.split (t := 58) (b := x26) rfl (fun hb8 => ?_) (fun hb8 => ?_)
         · replace H := cnt hb8 H
           refine WPD.takegT 7 rfl (by kernel_rfl) rfl rfl (lb hb8) (q_mv (v := .lit (.int _ _)) rfl) rfl ?_
           refine WPD.takegT 10 rfl (by kernel_rfl) rfl rfl (lb hb8) (q_mv (v := .lit (.string _)) rfl) rfl ?_
           refine WPD.takegT 11 rfl (by kernel_rfl) rfl rfl (lb hb8) (q_mv (v := .lit (.int _ _)) rfl) rfl ?_
           obtain ⟨h12, H⟩ := grd H
           refine WPD.takegT 12 rfl (by kernel_rfl) rfl rfl (lb hb8) (q_slice_str (i := 0) (j := x7) Tryz.underlying9 rfl rfl ⟨_, rfl⟩ h12) rfl ?_
           obtain ⟨x27, h13, H⟩ := bnd H
           refine WPD.effg 8 [] [] rfl (by kernel_rfl) rfl rfl (lb hb8) (runs_call (s := []) (t := []) (N := 0) (bor := []) fn160 rfl (s_r6_Write k x20 x27 h13) ⟨rfl, trivial, by decide, rfl, trivial⟩ rfl trivial (.ren rfl rfl .nil) rfl trivial rfl) rfl rfl ?_
           refine WPD.takegT 9 rfl (by kernel_rfl) rfl rfl (lb hb8) (q_bytes_str Tryz.underlying104 Tryz.underlying5 Tryz.underlying9 rfl) rfl ?_
           obtain ⟨x28, h14, H⟩ := bnd H
           refine WPD.takegT 13 rfl (by kernel_rfl) rfl rfl (lb hb8) (q_nm (q_eqls rfl rfl) (nm_bool h14)) rfl ?_
           refine WPD.tT 14 rfl (q_pickT (v := .lit (.bool _)) (lb hb8) rfl) ?_
           refine WPD.doneW (by kernel_rfl) ?_
           have q0 := j1 H
           subst q0
           exact W.wk [] hnp r3 ⟨rfl, trivial, by decide, rfl, trivial⟩ (LeE.u (LeE.u (LeE.u (LeE.u (LeE.none rfl rfl))))) rfl
         replace H := cnf hb8 H
         refine WPD.ps false 7 rfl rfl (lb hb8) ?_
         refine WPD.ps false 8 rfl rfl (lb hb8) ?_
         refine WPD.ps false 9 rfl rfl (lb hb8) ?_
         refine WPD.ps false 10 rfl rfl (lb hb8) ?_
         refine WPD.ps false 11 rfl rfl (lb hb8) ?_
         refine WPD.ps false 12 rfl rfl (lb hb8) ?_
         refine WPD.ps false 13 rfl rfl (lb hb8) ?_
         refine WPD.tT 14 rfl (q_pickF (v := .lit (.bool _)) (lb hb8) rfl) ?_
         refine WPD.doneW (by kernel_rfl) ?_
         have q0 := j1 H
         subst q0
         exact W.wk [] hnp r3 ⟨rfl, trivial, by decide, rfl, trivial⟩ (LeE.u (LeE.u (LeE.u (LeE.u (LeE.none rfl rfl))))) rfl
       replace H := cnf hb7 H
       refine WPD.ps false 3 rfl rfl (lb hb7) ?_
       refine WPD.ps false 4 rfl rfl (lb hb7) ?_
       refine WPD.tT 5 rfl (q_pickF (v := .lit (.bool _)) (lb hb7) rfl) ?_
       refine WPD.tT 6 rfl (q_mv (v := .lit (.bool _)) rfl) ?_
       refine WPD.ps false 7 rfl rfl rfl ?_
       refine WPD.ps false 8 rfl rfl rfl ?_
       refine WPD.ps false 9 rfl rfl rfl ?_
       refine WPD.ps false 10 rfl rfl rfl ?_
       refine WPD.ps false 11 rfl rfl rfl ?_
       refine WPD.ps false 12 rfl rfl rfl ?_
       refine WPD.ps false 13 rfl rfl rfl ?_
       refine WPD.tT 14 rfl (q_pickF (v := .lit (.bool _)) rfl rfl) ?_
       refine WPD.doneW (by kernel_rfl) ?_
       have q0 := j1 H
       subst q0
       exact W.wk [] hnp r3 ⟨rfl, trivial, by decide, rfl, trivial⟩ (LeE.u (LeE.u (LeE.u (LeE.u (LeE.none rfl rfl))))) rfl
     rintro _ _ _ ⟨rfl, rfl, rfl⟩
     refine W.now ?_
     refine Then.n ?_
     refine WP.cond (t := x25) rfl (fun hb9 => ?_) (fun hb9 => ?_)
     · replace H := cnt hb9 H
       refine WP.sr ?_
       refine WPL.qq (q_mv (v := .lit (.int _ _)) rfl) ?_
       refine WPL.qq (q_mv (v := .lit (.int _ _)) rfl) ?_
       refine WPL.qq (q_as (v := .lit (.int _ _)) rfl) ?_
       refine WPL.qq (q_as (v := .lit (.int _ _)) rfl) ?_
       refine WPL.qq (q_as (v := .lit (.bool _)) rfl) ?_
       refine WPL.nx ?_
       refine WP.retW ?_
       have q0 := j1 H
       subst q0
       exact W.wk [] hnp (InBlock.r (Then.r (Then.r r3))) ⟨rfl, trivial, by decide, rfl, trivial⟩ (LeE.u (LeE.u (LeE.u (LeE.none rfl rfl)))) rfl
     replace H := cnf hb9 H
     refine WP.skipW ?_
     refine W.now ?_
     refine InBlock.n ?_
     refine Then.n ?_
     refine WP.region ?_
     refine WPL.qq (q_mv (v := .lit (.int _ _)) rfl) ?_
     refine WPL.qq (q_add rfl rfl) ?_
     refine WPL.qq (q_as (v := .lit (.int _ _)) rfl) ?_
     refine WPL.nilW ?_
     exact W.wk [] hnp (Then.n ⟨n, (IntKind.wrap .i64 (x7 + 1)), Nat.lt_succ_self n, H, rfl, rfl⟩) ⟨rfl, trivial, by decide, rfl, trivial⟩ (LeE.u (LeE.u (LeE.none rfl rfl))) rfl
   replace H := cnf hb2 H
   refine WP.exitW ?_
   have q0 := j1 H
   subst q0
   exact W.wk [] hnp (Then.x (Then.x r3)) ⟨rfl, trivial, by decide, rfl, trivial⟩ (LeE.none rfl rfl) rfl
 rcases y1 with ⟨x5, x6⟩ | _
 · rintro _ _ _ ⟨rfl, rfl, rfl⟩
   obtain ⟨rfl, rfl, rfl⟩ := j3 H
   exact W.now (InBlock.r (Then.r (BodyR.mkR trivial rfl [] ⟨rfl, rfl⟩ ⟨rfl, trivial, by decide, rfl, trivial⟩ rfl rfl)))
 rintro _ _ _ ⟨rfl, rfl, rfl⟩
 refine W.now ?_
 refine InBlock.x0 ?_
 refine Then.n ?_
 refine WP.sr ?_
 refine WPL.qq (q_as (v := .lit (.int _ _)) rfl) ?_
 refine WPL.qq (q_as (v := .lit (.int _ _)) rfl) ?_
 refine WPL.qq (q_as (v := .lit (.bool _)) rfl) ?_
 refine WPL.nx ?_
 refine WP.retW ?_
 obtain ⟨rfl, rfl, rfl⟩ := j3 H
 exact W.now (BodyR.mkR trivial rfl [] ⟨rfl, rfl⟩ ⟨rfl, trivial, by decide, rfl, trivial⟩ rfl rfl)
theorem s_r6_Xml (k : Nat) (x1 : ByteArray) (x2 : Int) (H : g_r6_Xml k x1 = some x2) : Go.Q.Spec Tryz.prog 87 0 [.lit (.string x1)] Mem.nil (fun o M => o = .ret (.lit (.int .i64 x2)) ∧ M = Mem.nil) := by
 unfold g_r6_Xml at H
 refine Go.Q.Spec.of_bodyR (az := []) (rs := [.tmp 2]) (nt := 44) Tryz.func87 rfl rfl (by intro t T h; simp at h) rfl rfl fun cx hnp => ?_
 refine WP.sr ?_
 refine WPL.qq (q_as (v := .lit (.int _ _)) rfl) ?_
 refine WPL.nx ?_
 refine WP.seq ?_
 refine WP.block ?_
 refine WP.cv (Cv.weak (E' := (Env.none.upd 0 (.lit (.string x1)))) (M' := Mem.nil) [] hnp ⟨rfl, trivial, by decide, rfl, trivial⟩ (LeE.u (LeE.none rfl rfl))) ?_
 obtain ⟨y1, H1, H⟩ := bnd H
 refine WP.monoW (Q := fun x E M => match (generalizing := false) y1 with | (Sum.inl _) => x = .ret ∧ E = (Env.none.upd 2 (.lit (.int .i64 20))) ∧ M = Mem.nil | (Sum.inr _) => x = .exit 0 ∧ E = Env.none ∧ M = Mem.nil) ?_ ?_
 · refine WP.loop (β := ByteArray) (fun n b => g_r6_Xml_l0 k n b = some y1) (fun b => (Env.none.upd 0 (.lit (.string b)))) (fun b => Mem.nil) k x1 H1 rfl rfl ?_
   rintro n x3 H
   obtain _ | n := n
   · exact nf rfl H
   rw [g_r6_Xml_l0.eq_2] at H
   show WP _ _ _ _ (Env.none.upd 0 (.lit (.string x3))) Mem.nil _
   refine WP.seq ?_
   refine WP.sr ?_
   refine WPL.qq (q_mv (v := .lit (.string _)) rfl) ?_
   refine WPL.qq (q_len_str Tryz.underlying9 rfl) ?_
   obtain ⟨x4, h1, H⟩ := bnd H
   refine WPL.qq (q_nm (q_gtr rfl rfl) (nm_bool h1)) ?_
   refine WPL.nx ?_
   refine WP.cond (t := x4) rfl (fun hb1 => ?_) (fun hb1 => ?_)
   · replace H := cnt hb1 H
     refine WP.skipW ?_
     refine W.now ?_
     refine Then.n ?_
     refine WP.block ?_
     refine WP.sr ?_
     refine WPL.qq (q_mv (v := .lit (.string _)) rfl) ?_
     obtain ⟨⟨x5, x6, x7⟩, h2, H⟩ := bnd H
     refine WPL.c (runs_call (s := []) (t := []) (N := 0) (bor := []) fn136 rfl (s_r6_first k x3 x5 x6 x7 h2) ⟨rfl, trivial, by decide, rfl, trivial⟩ rfl trivial (.ren rfl rfl .nil) rfl trivial rfl) rfl ?_
     refine WPL.qq (q_mv (v := .tup _) rfl) ?_
     refine WPL.qq (q_extract rfl rfl) ?_
     refine WPL.qq (q_extract rfl rfl) ?_
     refine WPL.qq (q_extract rfl rfl) ?_
     refine WPL.qq (q_as (v := .lit (.int _ _)) rfl) ?_
     refine WPL.qq (q_as (v := .lit (.int _ _)) rfl) ?_
     refine WPL.qq (q_as (v := .lit (.bool _)) rfl) ?_
     refine WPL.nx ?_
     refine WP.seq ?_
     refine WP.seq ?_
     obtain ⟨x8, H2, H⟩ := bnd H
     refine WP.monoW (Q := fun x E M => x = .normal ∧ E = (((Env.none.upd 0 (.lit (.string x3))).upd 4 (.lit (.int .i64 x6))).upd 40 (.lit (.bool x8))) ∧ M = Mem.nil) ?_ ?_
     · clear H
       have H := H2
       clear H2
       refine WP.region ?_
       refine WPL.qq (q_mv (v := .lit (.bool _)) rfl) ?_
       refine WPL.qq (q_not rfl) ?_
       refine WPL.qq (q_mv (v := .lit (.bool _)) rfl) ?_
       refine WPL.split (t := 17) (b := (!x7)) rfl (fun hb2 => ?_) (fun hb2 => ?_)
       · replace H := cnt hb2 H
         refine WPL.sg true rfl (lb hb2) ?_
         refine WPL.sg true rfl (lb hb2) ?_
         refine WPL.sg true rfl (lb hb2) ?_
         refine WPL.skipu rfl rfl rfl rfl (.inl trivial) ?_
         refine WPL.skipu rfl rfl rfl rfl (.inl trivial) ?_
         refine WPL.sg true rfl (lb hb2) ?_
         refine WPL.sg true rfl (lb hb2) ?_
         refine WPL.skipu rfl rfl rfl rfl (.inl trivial) ?_
         refine WPL.skipu rfl rfl rfl rfl (.inl trivial) ?_
         refine WPL.sg true rfl (lb hb2) ?_
         refine WPL.sg true rfl (lb hb2) ?_
         refine WPL.skipu rfl rfl rfl rfl (.inl trivial) ?_
         refine WPL.skipu rfl rfl rfl rfl (.inl trivial) ?_
         refine WPL.sg true rfl (lb hb2) ?_
         refine WPL.qq (q_pickT (v := .lit (.bool _)) (lb hb2) rfl) ?_
         refine WPL.qq (q_mv (v := .lit (.bool _)) rfl) ?_
         refine WPL.sg true rfl rfl ?_
         refine WPL.sg true rfl rfl ?_
         refine WPL.qq (q_pickT (v := .lit (.bool _)) rfl rfl) ?_
         refine WPL.qq (q_mv (v := .lit (.bool _)) rfl) ?_
         refine WPL.sg true rfl rfl ?_
         refine WPL.sg true rfl rfl ?_
         refine WPL.qq (q_pickT (v := .lit (.bool _)) rfl rfl) ?_
         refine WPL.nilW ?_
         have q0 := j1 H
         subst q0
         exact W.wk [] hnp r3 ⟨rfl, trivial, by decide, rfl, trivial⟩ (LeE.u (LeE.u (LeE.u (LeE.none rfl rfl)))) rfl
       replace H := cnf hb2 H
       refine WPL.gq rfl (lb hb2) (q_mv (v := .lit (.int _ _)) rfl) ?_
       refine WPL.gq rfl (lb hb2) (q_lss rfl rfl) ?_
       refine WPL.gq rfl (lb hb2) (q_mv (v := .lit (.bool _)) rfl) ?_
       refine WPL.split (t := 20) (b := (decide (x5 < 32))) rfl (fun hb3 => ?_) (fun hb3 => ?_)
       · replace H := cnt hb3 H
         refine WPL.gq rfl (lb hb3) (q_mv (v := .lit (.int _ _)) rfl) ?_
         refine WPL.gq rfl (lb hb3) (q_neq rfl rfl) ?_
         refine WPL.gq rfl (lb hb2) (q_pickT (v := .lit (.bool _)) (lb hb3) rfl) ?_
         refine WPL.gq rfl (lb hb2) (q_mv (v := .lit (.bool _)) rfl) ?_
         refine WPL.split (t := 24) (b := (!decide (x5 = 9))) rfl (fun hb4 => ?_) (fun hb4 => ?_)
         · replace H := cnt hb4 H
           refine WPL.gq rfl (lb hb4) (q_mv (v := .lit (.int _ _)) rfl) ?_
           refine WPL.gq rfl (lb hb4) (q_neq rfl rfl) ?_
           refine WPL.gq rfl (lb hb2) (q_pickT (v := .lit (.bool _)) (lb hb4) rfl) ?_
           refine WPL.gq rfl (lb hb2) (q_mv (v := .lit (.bool _)) rfl) ?_
           refine WPL.split (t := 28) (b := (!decide (x5 = 10))) rfl (fun hb5 => ?_) (fun hb5 => ?_)
           · replace H := cnt hb5 H
             refine WPL.gq rfl (lb hb5) (q_mv (v := .lit (.int _ _)) rfl) ?_
             refine WPL.gq rfl (lb hb5) (q_neq rfl rfl) ?_
             refine WPL.gq rfl (lb hb2) (q_pickT (v := .lit (.bool _)) (lb hb5) rfl) ?_
             refine WPL.qq (q_pickF (v := .lit (.bool _)) (lb hb2) rfl) ?_
             refine WPL.qq (q_mv (v := .lit (.bool _)) rfl) ?_
             refine WPL.split (t := 33) (b := (!decide (x5 = 13))) rfl (fun hb6 => ?_) (fun hb6 => ?_)
             · replace H := cnt hb6 H
               refine WPL.sg true rfl (lb hb6) ?_
               refine WPL.sg true rfl (lb hb6) ?_
               refine WPL.qq (q_pickT (v := .lit (.bool _)) (lb hb6) rfl) ?_
               refine WPL.qq (q_mv (v := .lit (.bool _)) rfl) ?_
               refine WPL.sg true rfl rfl ?_
               refine WPL.sg true rfl rfl ?_
               refine WPL.qq (q_pickT (v := .lit (.bool _)) rfl rfl) ?_
               refine WPL.nilW ?_
               have q0 := j1 H
               subst q0
               exact W.wk [] hnp r3 ⟨rfl, trivial, by decide, rfl, trivial⟩ (LeE.u (LeE.u (LeE.u (LeE.none rfl rfl)))) rfl
             replace H := cnf hb6 H
             refine WPL.gq rfl (lb hb6) (q_mv (v := .lit (.int _ _)) rfl) ?_
             refine WPL.gq rfl (lb hb6) (q_eql rfl rfl) ?_
             refine WPL.qq (q_pickF (v := .lit (.bool _)) (lb hb6) rfl) ?_
             refine WPL.qq (q_mv (v := .lit (.bool _)) rfl) ?_
             refine WPL.split (t := 37) (b := (decide (x5 = 65534))) rfl (fun hb7 => ?_) (fun hb7 => ?_)
             · replace H := cnt hb7 H
               refine WPL.sg true rfl (lb hb7) ?_
               refine WPL.sg true rfl (lb hb7) ?_
               refine WPL.qq (q_pickT (v := .lit (.bool _)) (lb hb7) rfl) ?_
               refine WPL.nilW ?_
               have q0 := j1 H
               subst q0
               exact W.wk [] hnp r3 ⟨rfl, trivial, by decide, rfl, trivial⟩ (LeE.u (LeE.u (LeE.u (LeE.none rfl rfl)))) rfl
             replace H := cnf hb7 H
             refine WPL.gq rfl (lb hb7) (q_mv (v := .lit (.int _ _)) rfl) ?_
             refine WPL.gq rfl (lb hb7) (q_eql rfl rfl) ?_
             refine WPL.qq (q_pickF (v := .lit (.bool _)) (lb hb7) rfl) ?_
             refine WPL.nilW ?_
             have q0 := j1 H
             subst q0
             exact W.wk [] hnp r3 ⟨rfl, trivial, by decide, rfl, trivial⟩ (LeE.u (LeE.u (LeE.u (LeE.none rfl rfl)))) rfl
           replace H := cnf hb5 H
           refine WPL.sg false rfl (lb hb5) ?_
           refine WPL.sg false rfl (lb hb5) ?_
           refine WPL.gq rfl (lb hb2) (q_pickF (v := .lit (.bool _)) (lb hb5) rfl) ?_
           refine WPL.qq (q_pickF (v := .lit (.bool _)) (lb hb2) rfl) ?_
           refine WPL.qq (q_mv (v := .lit (.bool _)) rfl) ?_
           refine WPL.qg rfl rfl rfl (q_mv (v := .lit (.int _ _)) rfl) rfl ?_
           refine WPL.qg rfl rfl rfl (q_eql rfl rfl) rfl ?_
           refine WPL.qq (q_pickF (v := .lit (.bool _)) rfl rfl) ?_
           refine WPL.qq (q_mv (v := .lit (.bool _)) rfl) ?_
           refine WPL.split (t := 37) (b := (decide (x5 = 65534))) rfl (fun hb8 => ?_) (fun hb8 => ?_)
           · replace H := cnt hb8 H
             refine WPL.sg true rfl (lb hb8) ?_
             refine WPL.sg true rfl (lb hb8) ?_
             refine WPL.qq (q_pickT (v := .lit (.bool _)) (lb hb8) rfl) ?_
             refine WPL.nilW ?_
             have q0 := j1 H
             subst q0
             exact W.wk [] hnp r3 ⟨rfl, trivial, by decide, rfl, trivial⟩ (LeE.u (LeE.u (LeE.u (LeE.none rfl rfl)))) rfl
           replace H := cnf hb8 H
           refine WPL.gq rfl (lb hb8) (q_mv (v := .lit (.int _ _)) rfl) ?_
           refine WPL.gq rfl (lb hb8) (q_eql rfl rfl) ?_
           refine WPL.qq (q_pickF (v := .lit (.bool _)) (lb hb8) rfl) ?_
           refine WPL.nilW ?_
           have q0 := j1 H
           subst q0
           exact W.wk [] hnp r3 ⟨rfl, trivial, by decide, rfl, trivial⟩ (LeE.u (LeE.u (LeE.u (LeE.none rfl rfl)))) rfl
         replace H := cnf hb4 H
         refine WPL.sg false rfl (lb hb4) ?_
         refine WPL.sg false rfl (lb hb4) ?_
         refine WPL.gq rfl (lb hb2) (q_pickF (v := .lit (.bool _)) (lb hb4) rfl) ?_
         refine WPL.gq rfl (lb hb2) (q_mv (v := .lit (.bool _)) rfl) ?_
         refine WPL.sg false rfl rfl ?_
         refine WPL.sg false rfl rfl ?_
         refine WPL.gq rfl (lb hb2) (q_pickF (v := .lit (.bool _)) rfl rfl) ?_
         refine WPL.qq (q_pickF (v := .lit (.bool _)) (lb hb2) rfl) ?_
         refine WPL.qq (q_mv (v := .lit (.bool _)) rfl) ?_
         refine WPL.qg rfl rfl rfl (q_mv (v := .lit (.int _ _)) rfl) rfl ?_
         refine WPL.qg rfl rfl rfl (q_eql rfl rfl) rfl ?_
         refine WPL.qq (q_pickF (v := .lit (.bool _)) rfl rfl) ?_
         refine WPL.qq (q_mv (v := .lit (.bool _)) rfl) ?_
         refine WPL.split (t := 37) (b := (decide (x5 = 65534))) rfl (fun hb9 => ?_) (fun hb9 => ?_)
         · replace H := cnt hb9 H
           refine WPL.sg true rfl (lb hb9) ?_
           refine WPL.sg true rfl (lb hb9) ?_
           refine WPL.qq (q_pickT (v := .lit (.bool _)) (lb hb9) rfl) ?_
           refine WPL.nilW ?_
           have q0 := j1 H
           subst q0
           exact W.wk [] hnp r3 ⟨rfl, trivial, by decide, rfl, trivial⟩ (LeE.u (LeE.u (LeE.u (LeE.none rfl rfl)))) rfl
         replace H := cnf hb9 H
         refine WPL.gq rfl (lb hb9) (q_mv (v := .lit (.int _ _)) rfl) ?_
         refine WPL.gq rfl (lb hb9) (q_eql rfl rfl) ?_
         refine WPL.qq (q_pickF (v := .lit (.bool _)) (lb hb9) rfl) ?_
         refine WPL.nilW ?_
         have q0 := j1 H
         subst q0
         exact W.wk [] hnp r3 ⟨rfl, trivial, by decide, rfl, trivial⟩ (LeE.u (LeE.u (LeE.u (LeE.none rfl rfl)))) rfl
       replace H := cnf hb3 H
       refine WPL.sg false rfl (lb hb3) ?_
       refine WPL.sg false rfl (lb hb3) ?_
       refine WPL.gq rfl (lb hb2) (q_pickF (v := .lit (.bool _)) (lb hb3) rfl) ?_
       refine WPL.gq rfl (lb hb2) (q_mv (v := .lit (.bool _)) rfl) ?_
       refine WPL.sg false rfl rfl ?_
       refine WPL.sg false rfl rfl ?_
       refine WPL.gq rfl (lb hb2) (q_pickF (v := .lit (.bool _)) rfl rfl) ?_
       refine WPL.gq rfl (lb hb2) (q_mv (v := .lit (.bool _)) rfl) ?_
       refine WPL.sg false rfl rfl ?_
       refine WPL.sg false rfl rfl ?_
       refine WPL.gq rfl (lb hb2) (q_pickF (v := .lit (.bool _)) rfl rfl) ?_
       refine WPL.qq (q_pickF (v := .lit (.bool _)) (lb hb2) rfl) ?_
       refine WPL.qq (q_mv (v := .lit (.bool _)) rfl) ?_
       refine WPL.qg rfl rfl rfl (q_mv (v := .lit (.int _ _)) rfl) rfl ?_
       refine WPL.qg rfl rfl rfl (q_eql rfl rfl) rfl ?_
       refine WPL.qq (q_pickF (v := .lit (.bool _)) rfl rfl) ?_
       refine WPL.qq (q_mv (v := .lit (.bool _)) rfl) ?_
       refine WPL.split (t := 37) (b := (decide (x5 = 65534))) rfl (fun hb10 => ?_) (fun hb10 => ?_)
       · replace H := cnt hb10 H
         refine WPL.sg true rfl (lb hb10) ?_
         refine WPL.sg true rfl (lb hb10) ?_
         refine WPL.qq (q_pickT (v := .lit (.bool _)) (lb hb10) rfl) ?_
         refine WPL.nilW ?_
         have q0 := j1 H
         subst q0
         exact W.wk [] hnp r3 ⟨rfl, trivial, by decide, rfl, trivial⟩ (LeE.u (LeE.u (LeE.u (LeE.none rfl rfl)))) rfl
       replace H := cnf hb10 H
       refine WPL.gq rfl (lb hb10) (q_mv (v := .lit (.int _ _)) rfl) ?_
       refine WPL.gq rfl (lb hb10) (q_eql rfl rfl) ?_
       refine WPL.qq (q_pickF (v := .lit (.bool _)) (lb hb10) rfl) ?_
       refine WPL.nilW ?_
       have q0 := j1 H
       subst q0
       exact W.wk [] hnp r3 ⟨rfl, trivial, by decide, rfl, trivial⟩ (LeE.u (LeE.u (LeE.u (LeE.none rfl rfl)))) rfl
     rintro _ _ _ ⟨rfl, rfl, rfl⟩
     refine W.now ?_
     refine Then.n ?_
     refine WP.cond (t := x8) rfl (fun hb11 => ?_) (fun hb11 => ?_)
     · replace H := cnt hb11 H
       refine WP.sr ?_
       refine WPL.qq (q_as (v := .lit (.int _ _)) rfl) ?_
       refine WPL.nx ?_
       refine WP.retW ?_
       have q0 := j1 H
       subst q0
       exact W.wk [] hnp (Then.r (InBlock.r (Then.r r3))) ⟨rfl, trivial, by decide, rfl, trivial⟩ (LeE.u (LeE.none rfl rfl)) rfl
     replace H := cnf hb11 H
     refine WP.skipW ?_
     refine W.now ?_
     refine Then.n ?_
     refine WP.region ?_
     refine WPL.qq (q_mv (v := .lit (.string _)) rfl) ?_
     refine WPL.qq (q_mv (v := .lit (.int _ _)) rfl) ?_
     obtain ⟨h3, H⟩ := grd H
     obtain ⟨x9, h4, H⟩ := bnd H
     refine WPL.qq (q_nm (q_slice_str (i := x6) (j := ((ByteArray.size x3 : Nat) : Int)) Tryz.underlying9 rfl ⟨_, rfl⟩ rfl h3) (nm_str h4)) ?_
     refine WPL.qq (q_as (v := .lit (.string _)) rfl) ?_
     refine WPL.nilW ?_
     exact W.wk [] hnp (InBlock.n (Then.n ⟨n, x9, Nat.lt_succ_self n, H, rfl, rfl⟩)) ⟨rfl, trivial, by decide, rfl, trivial⟩ (LeE.u (LeE.none rfl rfl)) rfl
   replace H := cnf hb1 H
   refine WP.exitW ?_
   have q0 := j1 H
   subst q0
   exact W.wk [] hnp (Then.x (Then.x r3)) ⟨rfl, trivial, by decide, rfl, trivial⟩ (LeE.none rfl rfl) rfl
 rcases y1 with _ | _
 · rintro _ _ _ ⟨rfl, rfl, rfl⟩
   have q0 := j1 H
   subst q0
   exact W.now (InBlock.r (Then.r (BodyR.mkR trivial rfl [] ⟨rfl, rfl⟩ ⟨rfl, trivial, by decide, rfl, trivial⟩ rfl rfl)))
 rintro _ _ _ ⟨rfl, rfl, rfl⟩
 refine W.now ?_
 refine InBlock.x0 ?_
 refine Then.n ?_
 refine WP.sr ?_
 refine WPL.qq (q_as (v := .lit (.int _ _)) rfl) ?_
 refine WPL.nx ?_
 refine WP.retW ?_
 have q0 := j1 H
 subst q0
 exact W.now (BodyR.mkR trivial rfl [] ⟨rfl, rfl⟩ ⟨rfl, trivial, by decide, rfl, trivial⟩ rfl rfl)
end Go.Proofs.YthpcgknknpjpdaaGreatDoor.W
