/- Texts joined: part 5 of what LDecParts stands on. -/
import Derived.Test.YtdbeblgfccjbgaaSDecPartsd
namespace Go.Proofs.Ytdbeblgfccjbgaa.W
open Go Go.Q Go.Proofs
set_option linter.unusedVariables false
set_option linter.unusedSimpArgs false
set_option maxRecDepth 100000 in
set_option maxHeartbeats 4000000 in
theorem s_quireref09_Of (k : Nat) (x1369 : Int) (x1402 : (List Int)) (H : g_quireref09_Of k x1369 = some x1402) : Go.Q.Spec Try.prog 43 0 [.lit (.int .i64 x1369)] Mem.nil (fun o M => o = .ret (.agg [.lit (.bool (decide (x1369 < 0))), .ro (Rd.slice (Rd.int .i64)) false x1402]) ∧ M = (Mem.nil.push (.cells 51 [.lit (.bool (decide (x1369 < 0))), .ro (Rd.slice (Rd.int .i64)) false x1402]))) := by
 unfold g_quireref09_Of at H
 refine Go.Q.Spec.of_bodyR (az := [(51, 2)]) (rs := [.cell 2 51]) (nt := 25) Try.func43 rfl rfl (by intro t T h; simp at h; rcases h with ⟨rfl, rfl⟩ <;> first | exact ag51) rfl rfl fun cx hnp => ?_
 refine WP.seq ?_
 refine WP.region ?_
 refine WPL.d (d_alloc ze51 rfl) rfl ?_
 refine WPL.nilW ?_
 refine W.now ?_
 refine Then.n ?_
 refine WP.seq ?_
 refine WP.region ?_
 refine WPL.q (q_as (v := .lit _) rfl) rfl ?_
 refine WPL.nilW ?_
 refine W.now ?_
 refine Then.n ?_
 refine WP.seq ?_
 refine WP.region ?_
 refine WPL.q (q_mv (v := .lit (.int _ _)) rfl) rfl ?_
 refine WPL.q (q_as (v := .lit (.int _ _)) rfl) rfl ?_
 refine WPL.nilW ?_
 refine W.now ?_
 refine Then.n ?_
 refine WP.seq ?_
 refine WP.block ?_
 refine WP.cv (Cv.vir 3 (Rd.int .i64) (N := 1) rfl 3 rfl) ?_
 refine WP.cv (Cv.weak (E' := ((((Env.none.upd 0 (.lit (.int .i64 x1369))).upd 2 (.ptr 0 0)).upd 3 (.whole 1)).upd 4 (.lit (.int .i64 x1369)))) (M' := ((Mem.nil.push (.cells 51 [.lit (.bool false), .lit (.slice none 0 0)])).push (.row 3 (Rd.int .i64) ([] : List Int)))) [0, 1] hnp ⟨rfl, ⟨⟨trivial, .inr ⟨rfl, rfl, rfl⟩⟩, .inr ⟨rfl, rfl, rfl⟩⟩, by decide, rfl, trivial⟩ (LeE.upd rfl rfl (LeE.upd rfl rfl (LeE.upd rfl rfl (LeE.upd rfl rfl (LeE.none rfl rfl)))))) ?_
 obtain ⟨x1432, H1441, H⟩ := bnd H
 refine WP.monoW (Q := fun x E M => x = .exit 0 ∧ E = (((Env.none.upd 0 (.lit (.int .i64 x1369))).upd 2 (.ptr 0 0)).upd 3 (.whole 1)) ∧ M = ((Mem.nil.push (.cells 51 [.lit (.bool false), .lit (.slice none 0 0)])).push (.row 3 (Rd.int .i64) x1432))) ?_ ?_
 · refine WP.loop (β := Int × (List Int)) (fun n b => g_quireref09_Of_l0 k n b.1 b.2 = some x1432) (fun b => ((((Env.none.upd 0 (.lit (.int .i64 x1369))).upd 2 (.ptr 0 0)).upd 3 (.whole 1)).upd 4 (.lit (.int .i64 b.1)))) (fun b => ((Mem.nil.push (.cells 51 [.lit (.bool false), .lit (.slice none 0 0)])).push (.row 3 (Rd.int .i64) b.2))) k (x1369, ([] : List Int)) H1441 rfl rfl ?_
   rintro n ⟨x1421, x1422⟩ H
   obtain _ | n := n
   · exact nf rfl H
   rw [g_quireref09_Of_l0.eq_2] at H
   show WP _ _ _ _ ((((Env.none.upd 0 (.lit (.int .i64 x1369))).upd 2 (.ptr 0 0)).upd 3 (.whole 1)).upd 4 (.lit (.int .i64 x1421))) ((Mem.nil.push (.cells 51 [.lit (.bool false), .lit (.slice none 0 0)])).push (.row 3 (Rd.int .i64) x1422)) _
   refine WP.seq ?_
   refine WP.seq ?_
   refine WP.region ?_
   refine WPL.q (q_mv (v := .lit (.int _ _)) rfl) rfl ?_
   refine WPL.q (q_neq rfl rfl) rfl ?_
   refine WPL.nilW ?_
   refine W.now ?_
   refine Then.n ?_
   refine WP.cond (t := (!decide (x1421 = 0))) rfl (fun hb1433 => ?_) (fun hb1433 => ?_)
   · replace H := cnt hb1433 H
     refine WP.skipW ?_
     refine W.now ?_
     refine Then.n ?_
     refine WP.block ?_
     refine WP.seq ?_
     refine WP.region ?_
     refine WPL.q (q_mv (v := .lit (.int _ _)) rfl) rfl ?_
     refine WPL.q (q_rem rfl rfl rfl) rfl ?_
     refine WPL.q (q_as (v := .lit (.int _ _)) rfl) rfl ?_
     refine WPL.nilW ?_
     refine W.now ?_
     refine Then.n ?_
     refine WP.seq ?_
     obtain ⟨x1437, H1439, H⟩ := bnd H
     refine WP.monoW (Q := fun x E M => x = .normal ∧ E = (((((Env.none.upd 0 (.lit (.int .i64 x1369))).upd 2 (.ptr 0 0)).upd 3 (.whole 1)).upd 4 (.lit (.int .i64 x1421))).upd 5 (.lit (.int .i64 x1437))) ∧ M = ((Mem.nil.push (.cells 51 [.lit (.bool false), .lit (.slice none 0 0)])).push (.row 3 (Rd.int .i64) x1422))) ?_ ?_
     · clear H
       have H := H1439
       clear H1439
       refine WP.seq ?_
       refine WP.region ?_
       refine WPL.q (q_mv (v := .lit (.int _ _)) rfl) rfl ?_
       refine WPL.q (q_lss rfl rfl) rfl ?_
       refine WPL.nilW ?_
       refine W.now ?_
       refine Then.n ?_
       refine WP.cond (t := (decide ((Int.tmod x1421 10) < 0))) rfl (fun hb1437 => ?_) (fun hb1437 => ?_)
       · replace H := cnt hb1437 H
         refine WP.region ?_
         refine WPL.q (q_mv (v := .lit (.int _ _)) rfl) rfl ?_
         obtain ⟨x1439, h1439, H⟩ := bnd H
         refine WPL.q (q_nm (q_neg rfl) (nm_int h1439)) rfl ?_
         refine WPL.q (q_as (v := .lit (.int _ _)) rfl) rfl ?_
         refine WPL.nilW ?_
         have q0 := (Option.some.inj H)
         subst q0
         exact W.wk [0, 1] hnp ⟨rfl, rfl, rfl⟩ ⟨rfl, ⟨⟨trivial, .inr ⟨rfl, rfl, rfl⟩⟩, .inr ⟨rfl, rfl, rfl⟩⟩, by decide, rfl, trivial⟩ (LeE.upd rfl rfl (LeE.upd rfl rfl (LeE.upd rfl rfl (LeE.upd rfl rfl (LeE.upd rfl rfl (LeE.none rfl rfl)))))) rfl
       replace H := cnf hb1437 H
       refine WP.skipW ?_
       have q0 := (Option.some.inj H)
       subst q0
       exact W.wk [0, 1] hnp ⟨rfl, rfl, rfl⟩ ⟨rfl, ⟨⟨trivial, .inr ⟨rfl, rfl, rfl⟩⟩, .inr ⟨rfl, rfl, rfl⟩⟩, by decide, rfl, trivial⟩ (LeE.upd rfl rfl (LeE.upd rfl rfl (LeE.upd rfl rfl (LeE.upd rfl rfl (LeE.upd rfl rfl (LeE.none rfl rfl)))))) rfl
     rintro _ _ _ ⟨rfl, rfl, rfl⟩
     refine W.now ?_
     refine Then.n ?_
     refine WP.seq ?_
     refine WP.region ?_
     refine WPL.q (q_mv (v := .whole _) rfl) rfl ?_
     refine WPL.q (q_mv (v := .lit (.int _ _)) rfl) rfl ?_
     refine WPL.d (d_buildSlice (ds := ([x1437] : List Int)) (R := (Rd.int .i64)) li49 rfl rfl rfl rfl rfl (JoinRows.cons1 Joins.sc rfl JoinRows.nil) rfl rfl) rfl ?_
     obtain ⟨h1440, H⟩ := grd H
     refine WPL.d (d_append ap49 rfl rfl rfl rfl (src_row sl49 rfl rfl) h1440 rfl) rfl ?_
     refine WPL.q (q_as (v := .whole _) rfl) rfl ?_
     refine WPL.nilW ?_
     refine W.now ?_
     refine Then.n ?_
     refine WP.region ?_
     refine WPL.q (q_mv (v := .lit (.int _ _)) rfl) rfl ?_
     refine WPL.q (q_quo rfl rfl rfl) rfl ?_
     refine WPL.q (q_as (v := .lit (.int _ _)) rfl) rfl ?_
     refine WPL.nilW ?_
     exact W.wk [0, 3] hnp (InBlock.n (Then.n ⟨n, ((IntKind.wrap .i64 (Int.tdiv x1421 10)), (x1422 ++ ([x1437] : List Int))), Nat.lt_succ_self n, H, rfl, rfl⟩)) ⟨rfl, ⟨⟨trivial, .inr ⟨rfl, rfl, rfl⟩⟩, .inr ⟨rfl, rfl, rfl⟩⟩, by decide, rfl, trivial⟩ (LeE.upd rfl rfl (LeE.upd rfl rfl (LeE.upd rfl rfl (LeE.upd rfl rfl (LeE.none rfl rfl))))) rfl
   replace H := cnf hb1433 H
   refine WP.exitW ?_
   have q0 := (Option.some.inj H)
   subst q0
   exact W.wk [0, 1] hnp (Then.x (Then.x ⟨rfl, rfl, rfl⟩)) ⟨rfl, ⟨⟨trivial, .inr ⟨rfl, rfl, rfl⟩⟩, .inr ⟨rfl, rfl, rfl⟩⟩, by decide, rfl, trivial⟩ (LeE.upd rfl rfl (LeE.upd rfl rfl (LeE.upd rfl rfl (LeE.none rfl rfl)))) rfl
 rintro _ _ _ ⟨rfl, rfl, rfl⟩
 refine W.now ?_
 refine InBlock.x0 ?_
 refine Then.n ?_
 refine WP.seq ?_
 refine WP.region ?_
 refine WPL.q (q_mv (v := .lit (.int _ _)) rfl) rfl ?_
 refine WPL.q (q_lss rfl rfl) rfl ?_
 refine WPL.q (q_mv (v := .whole _) rfl) rfl ?_
 refine WPL.q (q_build bu51 rfl) rfl ?_
 refine WPL.s (s_store sz51 rfl rfl rfl rfl rfl) ?_
 refine WPL.nilW ?_
 refine W.now ?_
 refine Then.n ?_
 refine WP.retW ?_
 refine W.cv (Cv.frzRow (i := 1) rfl rfl hnp rfl rfl) rfl ?_
 have q0 := (Option.some.inj H)
 subst q0
 exact W.now (BodyR.mkR trivial rfl [0] ⟨rfl, rfl⟩ ⟨rfl, ⟨trivial, .inr ⟨rfl, rfl, rfl⟩⟩, by decide, rfl, trivial⟩ rfl rfl)
set_option maxRecDepth 100000 in
set_option maxHeartbeats 4000000 in
theorem s_quireref09_num (k : Nat) (x1366 : Int) (x1367 : Int) (x1458 : Bool) (x1459 : (List Int)) (H : g_quireref09_num k x1366 x1367 = some (x1458, x1459)) : Go.Q.Spec Try.prog 32 0 [.agg [.lit (.int .i64 x1366), .lit (.int .i64 x1367)]] Mem.nil (fun o M => o = .ret (.tup [.agg [.lit (.bool (decide (x1366 < 0))), .ro (Rd.slice (Rd.int .i64)) false x1459, .lit (.int .i64 x1367)], .lit (.bool x1458)]) ∧ M = (Mem.nil.push (.cells 53 [.lit (.bool (decide (x1366 < 0))), .ro (Rd.slice (Rd.int .i64)) false x1459, .lit (.int .i64 x1367)]))) := by
 unfold g_quireref09_num at H
 refine Go.Q.Spec.of_bodyR (az := [(53, 3)]) (rs := [.cell 2 53, .tmp 3]) (nt := 18) Try.func32 rfl rfl (by intro t T h; simp at h; rcases h with ⟨rfl, rfl⟩ <;> first | exact ag53) rfl rfl fun cx hnp => ?_
 refine WP.seq ?_
 refine WP.region ?_
 refine WPL.d (d_box rfl rfl) rfl ?_
 refine WPL.d (d_alloc ze53 rfl) rfl ?_
 refine WPL.q (q_as (v := .lit (.bool _)) rfl) rfl ?_
 refine WPL.nilW ?_
 refine W.now ?_
 refine Then.n ?_
 refine WP.seq ?_
 obtain ⟨⟨x1466, x1467⟩, H1473, H⟩ := bnd H
 refine WP.monoW (Q := fun x E M => x = .normal ∧ E = ((Env.none.upd 2 (.ptr 0 0)).upd 3 (.lit (.bool x1466))) ∧ M = (Mem.nil.push (.cells 53 [.lit (.bool (decide (x1366 < 0))), .ro (Rd.slice (Rd.int .i64)) false x1467, .lit (.int .i64 x1367)]))) ?_ ?_
 · clear H
   have H := H1473
   clear H1473
   refine WP.regionD' 16 [0] [] mixed rfl ?_
   refine WPD.takeT 0 rfl (by kernel_rfl) (q_fieldAddr fi23_0 rfl rfl) rfl ?_
   refine WPD.takeT 3 rfl (by kernel_rfl) (q_fieldAddr fi23_1 rfl rfl) rfl ?_
   refine WPD.takeT 6 rfl (by kernel_rfl) (q_fieldAddr fi23_1 rfl rfl) rfl ?_
   refine WPD.take 1 rfl (by kernel_rfl) (q_load sc2 rfl rfl rfl) rfl rfl ?_
   refine WPD.take 4 rfl (by kernel_rfl) (q_load sc3 rfl rfl rfl) rfl rfl ?_
   refine WPD.take 7 rfl (by kernel_rfl) (q_load sc3 rfl rfl rfl) rfl rfl ?_
   refine WPD.takeT 8 rfl (by kernel_rfl) (q_geq rfl rfl) rfl ?_
   obtain ⟨x1472, h1470, H⟩ := bnd H
   refine WPD.eff 2 [0] [] rfl (by kernel_rfl) (runs_call (s := []) (t := [2]) (N := 3) (bor := []) fn43 rfl (s_quireref09_Of k x1366 x1472 h1470) ⟨rfl, trivial, by decide, rfl, trivial⟩ rfl trivial (.ren rfl rfl .nil) rfl ⟨trivial, rfl⟩ rfl) rfl rfl ?_
   refine WPD.takeT 5 rfl (by kernel_rfl) (q_build bu53 rfl) rfl ?_
   refine WPD.takeT 9 rfl (by kernel_rfl) (q_mv (v := .lit (.bool _)) rfl) rfl ?_
   refine WPD.split (t := 13) (b := (decide ((-18) ≤ x1367))) rfl (fun hb1472 => ?_) (fun hb1472 => ?_)
   · replace H := cnt hb1472 H
     refine WPD.takegT 10 rfl (by kernel_rfl) rfl rfl (lb hb1472) (q_fieldAddr fi23_1 rfl rfl) rfl ?_
     refine WPD.takeg 11 rfl (by kernel_rfl) rfl rfl (lb hb1472) (q_load sc3 rfl rfl rfl) rfl rfl ?_
     refine WPD.takegT 12 rfl (by kernel_rfl) rfl rfl (lb hb1472) (q_leq rfl rfl) rfl ?_
     refine WPD.takeT 13 rfl (by kernel_rfl) (q_pickT (v := .lit (.bool _)) (lb hb1472) rfl) rfl ?_
     refine WPD.effS 14 [0] [] rfl (by kernel_rfl) (s_store sz53 rfl rfl rfl rfl rfl) rfl ?_
     refine WPD.takeT 15 rfl (by kernel_rfl) (q_as (v := .lit (.bool _)) rfl) rfl ?_
     refine WPD.doneW (by kernel_rfl) ?_
     have q0 := (Prod.mk.inj (Option.some.inj H)).1
     have q1 := (Prod.mk.inj (Option.some.inj H)).2
     subst q0
     subst q1
     exact W.wk [1] hnp ⟨rfl, rfl, rfl⟩ ⟨rfl, ⟨trivial, .inr ⟨rfl, rfl, rfl⟩⟩, by decide, rfl, trivial⟩ (LeE.upd rfl rfl (LeE.upd rfl rfl (LeE.none rfl rfl))) rfl
   replace H := cnf hb1472 H
   refine WPD.pass (b' := false) 10 rfl (by kernel_rfl) rfl rfl (lb hb1472) rfl rfl ?_
   refine WPD.pass (b' := false) 11 rfl (by kernel_rfl) rfl rfl (lb hb1472) rfl rfl ?_
   refine WPD.pass (b' := false) 12 rfl (by kernel_rfl) rfl rfl (lb hb1472) rfl rfl ?_
   refine WPD.takeT 13 rfl (by kernel_rfl) (q_pickF (v := .lit (.bool _)) (lb hb1472) rfl) rfl ?_
   refine WPD.effS 14 [0] [] rfl (by kernel_rfl) (s_store sz53 rfl rfl rfl rfl rfl) rfl ?_
   refine WPD.takeT 15 rfl (by kernel_rfl) (q_as (v := .lit (.bool _)) rfl) rfl ?_
   refine WPD.doneW (by kernel_rfl) ?_
   have q0 := (Prod.mk.inj (Option.some.inj H)).1
   have q1 := (Prod.mk.inj (Option.some.inj H)).2
   subst q0
   subst q1
   exact W.wk [1] hnp ⟨rfl, rfl, rfl⟩ ⟨rfl, ⟨trivial, .inr ⟨rfl, rfl, rfl⟩⟩, by decide, rfl, trivial⟩ (LeE.upd rfl rfl (LeE.upd rfl rfl (LeE.none rfl rfl))) rfl
 rintro _ _ _ ⟨rfl, rfl, rfl⟩
 refine W.now ?_
 refine Then.n ?_
 refine WP.retW ?_
 have q0 := (Prod.mk.inj (Option.some.inj H)).1
 have q1 := (Prod.mk.inj (Option.some.inj H)).2
 subst q0
 subst q1
 exact W.now (BodyR.mkR trivial rfl [0] ⟨rfl, rfl⟩ ⟨rfl, ⟨trivial, .inr ⟨rfl, rfl, rfl⟩⟩, by decide, rfl, trivial⟩ rfl rfl)
set_option maxRecDepth 100000 in
set_option maxHeartbeats 4000000 in
theorem s_quireref09_trim (k : Nat) (x1501 : Bool) (x1502 : (List Int)) (x1550 : Bool) (x1551 : (List Int)) (H : g_quireref09_trim k x1501 x1502 = some (x1550, x1551)) : Go.Q.Spec Try.prog 36 0 [.agg [.lit (.bool x1501), .whole 0]] (Mem.nil.push (.row 3 (Rd.int .i64) x1502)) (fun o M => o = .ret (.agg [.lit (.bool x1550), .ro (Rd.slice (Rd.int .i64)) false x1551]) ∧ M = (Mem.nil.push (.cells 51 [.lit (.bool x1550), .ro (Rd.slice (Rd.int .i64)) false x1551]))) := by
 unfold g_quireref09_trim at H
 refine Go.Q.Spec.of_bodyR (az := [(51, 2)]) (rs := [.cell 2 51]) (nt := 32) Try.func36 rfl rfl (by intro t T h; simp at h; rcases h with ⟨rfl, rfl⟩ <;> first | exact ag51) rfl rfl fun cx hnp => ?_
 refine WP.seq ?_
 refine WP.region ?_
 refine WPL.d (d_box rfl rfl) rfl ?_
 refine WPL.d (d_alloc ze51 rfl) rfl ?_
 refine WPL.nilW ?_
 refine W.now ?_
 refine Then.n ?_
 refine WP.seq ?_
 refine WP.region ?_
 refine WPL.q (q_fieldAddr fi51_1 rfl rfl) rfl ?_
 refine WPL.q (q_load sc49 rfl rfl rfl) rfl ?_
 refine WPL.q (q_len_row sl49 rfl rfl) rfl ?_
 refine WPL.q (q_as (v := .lit (.int _ _)) rfl) rfl ?_
 refine WPL.nilW ?_
 refine W.now ?_
 refine Then.n ?_
 refine WP.seq ?_
 refine WP.block ?_
 refine WP.cv (Cv.weak (E' := (((Env.none.upd 1 (.ptr 0 0)).upd 2 (.ptr 2 0)).upd 3 (.lit (.int .i64 ((List.length x1502 : Nat) : Int))))) (M' := (((Mem.nil.push (.cells 51 [.lit (.bool x1501), .whole 1])).push (.row 3 (Rd.int .i64) x1502)).push (.cells 51 [.lit (.bool false), .lit (.slice none 0 0)]))) [1, 0, 2] hnp ⟨rfl, ⟨⟨⟨trivial, .inr ⟨rfl, rfl, rfl⟩⟩, .inr ⟨rfl, rfl, rfl⟩⟩, .inr ⟨rfl, rfl, rfl⟩⟩, by decide, rfl, trivial⟩ (LeE.upd rfl rfl (LeE.upd rfl rfl (LeE.upd rfl rfl (LeE.none rfl rfl))))) ?_
 obtain ⟨x1590, H1604, H⟩ := bnd H
 refine WP.monoW (Q := fun x E M => x = .exit 0 ∧ E = (((Env.none.upd 1 (.ptr 0 0)).upd 2 (.ptr 2 0)).upd 3 (.lit (.int .i64 x1590))) ∧ M = (((Mem.nil.push (.cells 51 [.lit (.bool x1501), .whole 1])).push (.row 3 (Rd.int .i64) x1502)).push (.cells 51 [.lit (.bool false), .lit (.slice none 0 0)]))) ?_ ?_
 · refine WP.loop (β := Int) (fun n b => g_quireref09_trim_l0 k x1502 n b = some x1590) (fun b => (((Env.none.upd 1 (.ptr 0 0)).upd 2 (.ptr 2 0)).upd 3 (.lit (.int .i64 b)))) (fun b => (((Mem.nil.push (.cells 51 [.lit (.bool x1501), .whole 1])).push (.row 3 (Rd.int .i64) x1502)).push (.cells 51 [.lit (.bool false), .lit (.slice none 0 0)]))) k ((List.length x1502 : Nat) : Int) H1604 rfl rfl ?_
   rintro n x1575 H
   obtain _ | n := n
   · exact nf rfl H
   rw [g_quireref09_trim_l0.eq_2] at H
   show WP _ _ _ _ (((Env.none.upd 1 (.ptr 0 0)).upd 2 (.ptr 2 0)).upd 3 (.lit (.int .i64 x1575))) (((Mem.nil.push (.cells 51 [.lit (.bool x1501), .whole 1])).push (.row 3 (Rd.int .i64) x1502)).push (.cells 51 [.lit (.bool false), .lit (.slice none 0 0)])) _
   refine WP.seq ?_
   refine WP.seq ?_
   obtain ⟨x1600, H1602, H⟩ := bnd H
   refine WP.monoW (Q := fun x E M => x = .normal ∧ E = ((((Env.none.upd 1 (.ptr 0 0)).upd 2 (.ptr 2 0)).upd 3 (.lit (.int .i64 x1575))).upd 17 (.lit (.bool x1600))) ∧ M = (((Mem.nil.push (.cells 51 [.lit (.bool x1501), .whole 1])).push (.row 3 (Rd.int .i64) x1502)).push (.cells 51 [.lit (.bool false), .lit (.slice none 0 0)]))) ?_ ?_
   · clear H
     have H := H1602
     clear H1602
     refine WP.region ?_
     refine WPL.q (q_mv (v := .lit (.int _ _)) rfl) rfl ?_
     refine WPL.q (q_gtr rfl rfl) rfl ?_
     refine WPL.q (q_mv (v := .lit (.bool _)) rfl) rfl ?_
     refine WPL.split (t := 9) (b := (decide (0 < x1575))) rfl (fun hb1600 => ?_) (fun hb1600 => ?_)
     · replace H := cnt hb1600 H
       refine WPL.qg rfl rfl (lb hb1600) (q_fieldAddr fi51_1 rfl rfl) rfl ?_
       refine WPL.qg rfl rfl (lb hb1600) (q_load sc49 rfl rfl rfl) rfl ?_
       refine WPL.qg rfl rfl (lb hb1600) (q_mv (v := .lit (.int _ _)) rfl) rfl ?_
       refine WPL.qg rfl rfl (lb hb1600) (q_sub rfl rfl) rfl ?_
       obtain ⟨x1602, h1602, H⟩ := bnd H
       refine WPL.qg rfl rfl (lb hb1600) (q_index_row sl49 rfl rfl rfl (ixs h1602)) rfl ?_
       refine WPL.qg rfl rfl (lb hb1600) (q_load_row (j := (Int.toNat (IntKind.wrap .i64 (x1575 - 1)))) sc3 rfl rfl (ixj h1602)) rfl ?_
       refine WPL.qg rfl rfl (lb hb1600) (q_eql rfl rfl) rfl ?_
       refine WPL.q (q_pickT (v := .lit (.bool _)) (lb hb1600) rfl) rfl ?_
       refine WPL.nilW ?_
       have q0 := (Option.some.inj H)
       subst q0
       exact W.wk [0, 1, 2] hnp ⟨rfl, rfl, rfl⟩ ⟨rfl, ⟨⟨⟨trivial, .inr ⟨rfl, rfl, rfl⟩⟩, .inr ⟨rfl, rfl, rfl⟩⟩, .inr ⟨rfl, rfl, rfl⟩⟩, by decide, rfl, trivial⟩ (LeE.upd rfl rfl (LeE.upd rfl rfl (LeE.upd rfl rfl (LeE.upd rfl rfl (LeE.none rfl rfl))))) rfl
     replace H := cnf hb1600 H
     refine WPL.skipg (b' := false) rfl rfl (lb hb1600) rfl rfl ?_
     refine WPL.skipg (b' := false) rfl rfl (lb hb1600) rfl rfl ?_
     refine WPL.skipg (b' := false) rfl rfl (lb hb1600) rfl rfl ?_
     refine WPL.skipg (b' := false) rfl rfl (lb hb1600) rfl rfl ?_
     refine WPL.skipg (b' := false) rfl rfl (lb hb1600) rfl rfl ?_
     refine WPL.skipg (b' := false) rfl rfl (lb hb1600) rfl rfl ?_
     refine WPL.skipg (b' := false) rfl rfl (lb hb1600) rfl rfl ?_
     refine WPL.q (q_pickF (v := .lit (.bool _)) (lb hb1600) rfl) rfl ?_
     refine WPL.nilW ?_
     have q0 := (Option.some.inj H)
     subst q0
     exact W.wk [0, 1, 2] hnp ⟨rfl, rfl, rfl⟩ ⟨rfl, ⟨⟨⟨trivial, .inr ⟨rfl, rfl, rfl⟩⟩, .inr ⟨rfl, rfl, rfl⟩⟩, .inr ⟨rfl, rfl, rfl⟩⟩, by decide, rfl, trivial⟩ (LeE.upd rfl rfl (LeE.upd rfl rfl (LeE.upd rfl rfl (LeE.upd rfl rfl (LeE.none rfl rfl))))) rfl
   rintro _ _ _ ⟨rfl, rfl, rfl⟩
   refine W.now ?_
   refine Then.n ?_
   refine WP.cond (t := x1600) rfl (fun hb1603 => ?_) (fun hb1603 => ?_)
   · replace H := cnt hb1603 H
     refine WP.skipW ?_
     refine W.now ?_
     refine Then.n ?_
     refine WP.block ?_
     refine WP.region ?_
     refine WPL.q (q_mv (v := .lit (.int _ _)) rfl) rfl ?_
     refine WPL.q (q_sub rfl rfl) rfl ?_
     refine WPL.q (q_as (v := .lit (.int _ _)) rfl) rfl ?_
     refine WPL.nilW ?_
     exact W.wk [0, 1, 2] hnp (InBlock.n (Then.n ⟨n, (IntKind.wrap .i64 (x1575 - 1)), Nat.lt_succ_self n, H, rfl, rfl⟩)) ⟨rfl, ⟨⟨⟨trivial, .inr ⟨rfl, rfl, rfl⟩⟩, .inr ⟨rfl, rfl, rfl⟩⟩, .inr ⟨rfl, rfl, rfl⟩⟩, by decide, rfl, trivial⟩ (LeE.upd rfl rfl (LeE.upd rfl rfl (LeE.upd rfl rfl (LeE.none rfl rfl)))) rfl
   replace H := cnf hb1603 H
   refine WP.exitW ?_
   have q0 := (Option.some.inj H)
   subst q0
   exact W.wk [0, 1, 2] hnp (Then.x (Then.x ⟨rfl, rfl, rfl⟩)) ⟨rfl, ⟨⟨⟨trivial, .inr ⟨rfl, rfl, rfl⟩⟩, .inr ⟨rfl, rfl, rfl⟩⟩, .inr ⟨rfl, rfl, rfl⟩⟩, by decide, rfl, trivial⟩ (LeE.upd rfl rfl (LeE.upd rfl rfl (LeE.upd rfl rfl (LeE.none rfl rfl)))) rfl
 rintro _ _ _ ⟨rfl, rfl, rfl⟩
 refine W.now ?_
 refine InBlock.x0 ?_
 refine Then.n ?_
 refine WP.seq ?_
 refine WP.seq ?_
 refine WP.region ?_
 refine WPL.q (q_mv (v := .lit (.int _ _)) rfl) rfl ?_
 refine WPL.q (q_eql rfl rfl) rfl ?_
 refine WPL.nilW ?_
 refine W.now ?_
 refine Then.n ?_
 refine WP.cond (t := (decide (x1590 = 0))) rfl (fun hb1606 => ?_) (fun hb1606 => ?_)
 · replace H := cnt hb1606 H
   refine WP.seq ?_
   refine WP.region ?_
   refine WPL.q (q_build bu51 rfl) rfl ?_
   refine WPL.s (s_store sz51 rfl rfl rfl rfl rfl) ?_
   refine WPL.nilW ?_
   refine W.now ?_
   refine Then.n ?_
   refine WP.retW ?_
   refine W.cv (Cv.nilRoC (Rd.int .i64) false (i := 2) (off := 1) rfl rfl rfl) rfl ?_
   have q0 := (Prod.mk.inj (Option.some.inj H)).1
   have q1 := (Prod.mk.inj (Option.some.inj H)).2
   subst q0
   subst q1
   exact W.now (Then.r (BodyR.mkR trivial rfl [2] ⟨rfl, rfl⟩ ⟨rfl, ⟨trivial, .inr ⟨rfl, rfl, rfl⟩⟩, by decide, rfl, trivial⟩ rfl rfl))
 replace H := cnf hb1606 H
 refine WP.skipW ?_
 refine W.now ?_
 refine Then.n ?_
 refine WP.seq ?_
 refine WP.regionD' 10 [0] [] mixed rfl ?_
 refine WPD.takeT 0 rfl (by kernel_rfl) (q_fieldAddr fi51_0 rfl rfl) rfl ?_
 refine WPD.takeT 3 rfl (by kernel_rfl) (q_fieldAddr fi51_1 rfl rfl) rfl ?_
 refine WPD.takeT 5 rfl (by kernel_rfl) (q_mv (v := .lit (.int _ _)) rfl) rfl ?_
 refine WPD.take 1 rfl (by kernel_rfl) (q_load sc4 rfl rfl rfl) rfl rfl ?_
 refine WPD.take 4 rfl (by kernel_rfl) (q_load sc49 rfl rfl rfl) rfl rfl ?_
 obtain ⟨h1609, H⟩ := grd H
 refine WPD.cvL (CvL.frzRow (i := 1) rfl rfl hnp rfl rfl) rfl ?_
 refine WPD.takeT 6 rfl (by kernel_rfl) (q_slice_ro (i := 0) (j := x1590) sl49 rfl rfl rfl ⟨_, rfl⟩ h1609) rfl ?_
 refine WPD.eff 2 [0] [] rfl (by kernel_rfl) (Does.runs (d_buildSlice (ds := ([] : List Int)) (R := (Rd.int .i64)) li49 rfl rfl rfl rfl rfl JoinRows.nil rfl rfl)) rfl rfl ?_
 obtain ⟨h1610, H⟩ := grd H
 refine WPD.eff 7 [0] [] rfl (by kernel_rfl) (Does.runs (d_append ap49 rfl rfl rfl rfl (src_ro sl49 rfl) h1610 rfl)) rfl rfl ?_
 refine WPD.takeT 8 rfl (by kernel_rfl) (q_build bu51 rfl) rfl ?_
 refine WPD.effS 9 [0] [] rfl (by kernel_rfl) (s_store sz51 rfl rfl rfl rfl rfl) rfl ?_
 refine WPD.doneW (by kernel_rfl) ?_
 refine W.now ?_
 refine Then.n ?_
 refine WP.retW ?_
 refine W.cv (Cv.frzRow (i := 4) rfl rfl hnp rfl rfl) rfl ?_
 have q0 := (Prod.mk.inj (Option.some.inj H)).1
 have q1 := (Prod.mk.inj (Option.some.inj H)).2
 subst q0
 subst q1
 exact W.now (BodyR.mkR trivial rfl [2] ⟨rfl, rfl⟩ ⟨rfl, ⟨trivial, .inr ⟨rfl, rfl, rfl⟩⟩, by decide, rfl, trivial⟩ rfl rfl)
set_option maxRecDepth 100000 in
set_option maxHeartbeats 4000000 in
theorem s_quireref09_Shift (k : Nat) (x1495 : Bool) (x1496 : (List Int)) (x1497 : Int) (x1620 : Bool) (x1621 : (List Int)) (H : g_quireref09_Shift k x1495 x1496 x1497 = some (x1620, x1621)) : Go.Q.Spec Try.prog 34 0 [.agg [.lit (.bool x1495), .ro (Rd.slice (Rd.int .i64)) false x1496], .lit (.int .i64 x1497)] Mem.nil (fun o M => o = .ret (.agg [.lit (.bool x1620), .ro (Rd.slice (Rd.int .i64)) false x1621]) ∧ M = (Mem.nil.push (.cells 51 [.lit (.bool x1620), .ro (Rd.slice (Rd.int .i64)) false x1621]))) := by
 unfold g_quireref09_Shift at H
 refine Go.Q.Spec.of_bodyR (az := [(51, 2)]) (rs := [.cell 4 51]) (nt := 14) Try.func34 rfl rfl (by intro t T h; simp at h; rcases h with ⟨rfl, rfl⟩ <;> first | exact ag51) rfl rfl fun cx hnp => ?_
 refine WP.seq ?_
 refine WP.region ?_
 refine WPL.d (d_box rfl rfl) rfl ?_
 refine WPL.d (d_alloc ze51 rfl) rfl ?_
 refine WPL.nilW ?_
 refine W.now ?_
 refine Then.n ?_
 refine WP.seq ?_
 refine WP.regionD' 10 [0] [] mixed rfl ?_
 refine WPD.takeT 0 rfl (by kernel_rfl) (q_fieldAddr fi51_0 rfl rfl) rfl ?_
 refine WPD.takeT 2 rfl (by kernel_rfl) (q_mv (v := .lit (.int _ _)) rfl) rfl ?_
 refine WPD.takeT 4 rfl (by kernel_rfl) (q_fieldAddr fi51_1 rfl rfl) rfl ?_
 refine WPD.take 1 rfl (by kernel_rfl) (q_load sc4 rfl rfl rfl) rfl rfl ?_
 refine WPD.take 5 rfl (by kernel_rfl) (q_load sc49 rfl rfl rfl) rfl rfl ?_
 obtain ⟨h1626, H⟩ := grd H
 refine WPD.eff 3 [0] [] rfl (by kernel_rfl) (Does.runs (d_make (d := (0 : Int)) (R := (Rd.int .i64)) li49 by3 rfl rfl rfl Joins.sc rfl rfl h1626 rfl)) rfl rfl ?_
 obtain ⟨h1627, H⟩ := grd H
 refine WPD.eff 6 [0] [] rfl (by kernel_rfl) (Does.runs (d_append ap49 rfl rfl rfl rfl (src_ro sl49 rfl) h1627 rfl)) rfl rfl ?_
 refine WPD.takeT 7 rfl (by kernel_rfl) (q_build bu51 rfl) rfl ?_
 obtain ⟨⟨x1630, x1631⟩, h1628, H⟩ := bnd H
 refine WPD.eff 8 [0] [] rfl (by kernel_rfl) (runs_call (s := [3]) (t := [4]) (N := 5) (bor := []) fn36 rfl (s_quireref09_trim k x1495 ((List.replicate (Int.toNat x1497) (0 : Int)) ++ x1496) x1630 x1631 h1628) ⟨rfl, ⟨trivial, .inr ⟨rfl, rfl, rfl⟩⟩, by decide, rfl, trivial⟩ rfl trivial (.ren rfl rfl .nil) rfl ⟨trivial, rfl⟩ rfl) rfl rfl ?_
 refine WPD.effS 9 [0] [] rfl (by kernel_rfl) (s_store sz51 rfl rfl rfl rfl rfl) rfl ?_
 refine WPD.doneW (by kernel_rfl) ?_
 refine W.now ?_
 refine Then.n ?_
 refine WP.retW ?_
 have q0 := (Prod.mk.inj (Option.some.inj H)).1
 have q1 := (Prod.mk.inj (Option.some.inj H)).2
 subst q0
 subst q1
 exact W.now (BodyR.mkR trivial rfl [1] ⟨rfl, rfl⟩ ⟨rfl, ⟨trivial, .inr ⟨rfl, rfl, rfl⟩⟩, by decide, rfl, trivial⟩ rfl rfl)
set_option maxRecDepth 100000 in
set_option maxHeartbeats 4000000 in
theorem s_quireref09_at (k : Nat) (x1704 : Bool) (x1705 : (List Int)) (x1706 : Int) (x1724 : Int) (H : g_quireref09_at k x1704 x1705 x1706 = some x1724) : Go.Q.Spec Try.prog 68 0 [.agg [.lit (.bool x1704), .ro (Rd.slice (Rd.int .i64)) false x1705], .lit (.int .i64 x1706)] Mem.nil (fun o M => o = .ret (.lit (.int .i64 x1724)) ∧ M = Mem.nil) := by
 unfold g_quireref09_at at H
 refine Go.Q.Spec.of_bodyR (az := []) (rs := [.tmp 4]) (nt := 19) Try.func68 rfl rfl (by intro t T h; simp at h) rfl rfl fun cx hnp => ?_
 refine WP.seq ?_
 refine WP.region ?_
 refine WPL.d (d_box rfl rfl) rfl ?_
 refine WPL.q (q_as (v := .lit (.int _ _)) rfl) rfl ?_
 refine WPL.nilW ?_
 refine W.now ?_
 refine Then.n ?_
 refine WP.seq ?_
 refine WP.seq ?_
 obtain ⟨x1735, H1737, H⟩ := bnd H
 refine WP.monoW (Q := fun x E M => x = .normal ∧ E = (((Env.none.upd 1 (.lit (.int .i64 x1706))).upd 2 (.ptr 0 0)).upd 13 (.lit (.bool x1735))) ∧ M = (Mem.nil.push (.cells 51 [.lit (.bool x1704), .ro (Rd.slice (Rd.int .i64)) false x1705]))) ?_ ?_
 · clear H
   have H := H1737
   clear H1737
   refine WP.region ?_
   refine WPL.q (q_mv (v := .lit (.int _ _)) rfl) rfl ?_
   refine WPL.q (q_geq rfl rfl) rfl ?_
   refine WPL.q (q_mv (v := .lit (.bool _)) rfl) rfl ?_
   refine WPL.split (t := 7) (b := (decide (0 ≤ x1706))) rfl (fun hb1735 => ?_) (fun hb1735 => ?_)
   · replace H := cnt hb1735 H
     refine WPL.qg rfl rfl (lb hb1735) (q_mv (v := .lit (.int _ _)) rfl) rfl ?_
     refine WPL.qg rfl rfl (lb hb1735) (q_fieldAddr fi51_1 rfl rfl) rfl ?_
     refine WPL.qg rfl rfl (lb hb1735) (q_load sc49 rfl rfl rfl) rfl ?_
     refine WPL.qg rfl rfl (lb hb1735) (q_len_ro sl49 rfl) rfl ?_
     obtain ⟨x1737, h1737, H⟩ := bnd H
     refine WPL.qg rfl rfl (lb hb1735) (q_nm (q_lss rfl rfl) (nm_bool h1737)) rfl ?_
     refine WPL.q (q_pickT (v := .lit (.bool _)) (lb hb1735) rfl) rfl ?_
     refine WPL.nilW ?_
     have q0 := (Option.some.inj H)
     subst q0
     exact W.wk [0] hnp ⟨rfl, rfl, rfl⟩ ⟨rfl, ⟨trivial, .inr ⟨rfl, rfl, rfl⟩⟩, by decide, rfl, trivial⟩ (LeE.upd rfl rfl (LeE.upd rfl rfl (LeE.upd rfl rfl (LeE.none rfl rfl)))) rfl
   replace H := cnf hb1735 H
   refine WPL.skipg (b' := false) rfl rfl (lb hb1735) rfl rfl ?_
   refine WPL.skipg (b' := false) rfl rfl (lb hb1735) rfl rfl ?_
   refine WPL.skipg (b' := false) rfl rfl (lb hb1735) rfl rfl ?_
   refine WPL.skipg (b' := false) rfl rfl (lb hb1735) rfl rfl ?_
   refine WPL.skipg (b' := false) rfl rfl (lb hb1735) rfl rfl ?_
   refine WPL.q (q_pickF (v := .lit (.bool _)) (lb hb1735) rfl) rfl ?_
   refine WPL.nilW ?_
   have q0 := (Option.some.inj H)
   subst q0
   exact W.wk [0] hnp ⟨rfl, rfl, rfl⟩ ⟨rfl, ⟨trivial, .inr ⟨rfl, rfl, rfl⟩⟩, by decide, rfl, trivial⟩ (LeE.upd rfl rfl (LeE.upd rfl rfl (LeE.upd rfl rfl (LeE.none rfl rfl)))) rfl
 rintro _ _ _ ⟨rfl, rfl, rfl⟩
 refine W.now ?_
 refine Then.n ?_
 refine WP.cond (t := x1735) rfl (fun hb1738 => ?_) (fun hb1738 => ?_)
 · replace H := cnt hb1738 H
   refine WP.seq ?_
   refine WP.region ?_
   refine WPL.q (q_fieldAddr fi51_1 rfl rfl) rfl ?_
   refine WPL.q (q_load sc49 rfl rfl rfl) rfl ?_
   refine WPL.q (q_mv (v := .lit (.int _ _)) rfl) rfl ?_
   obtain ⟨x1740, h1740, H⟩ := bnd H
   refine WPL.q (q_index_ro sl49 rfl rfl rfl h1740) rfl ?_
   refine WPL.q (q_load_sc sc3 rfl) rfl ?_
   refine WPL.q (q_as (v := .lit (.int _ _)) rfl) rfl ?_
   refine WPL.nilW ?_
   refine W.now ?_
   refine Then.n ?_
   refine WP.retW ?_
   have q0 := (Option.some.inj H)
   subst q0
   exact W.now (Then.r (BodyR.mkR trivial rfl [] ⟨rfl, rfl⟩ ⟨rfl, trivial, by decide, rfl, trivial⟩ rfl rfl))
 replace H := cnf hb1738 H
 refine WP.skipW ?_
 refine W.now ?_
 refine Then.n ?_
 refine WP.seq ?_
 refine WP.region ?_
 refine WPL.q (q_as (v := .lit (.int _ _)) rfl) rfl ?_
 refine WPL.nilW ?_
 refine W.now ?_
 refine Then.n ?_
 refine WP.retW ?_
 have q0 := (Option.some.inj H)
 subst q0
 exact W.now (BodyR.mkR trivial rfl [] ⟨rfl, rfl⟩ ⟨rfl, trivial, by decide, rfl, trivial⟩ rfl rfl)
set_option maxRecDepth 100000 in
set_option maxHeartbeats 4000000 in
theorem s_quireref09_sum (k : Nat) (x1681 : Bool) (x1682 : (List Int)) (x1683 : Bool) (x1684 : (List Int)) (x1815 : (List Int)) (H : g_quireref09_sum k x1681 x1682 x1683 x1684 = some x1815) : Go.Q.Spec Try.prog 65 0 [.agg [.lit (.bool x1681), .ro (Rd.slice (Rd.int .i64)) false x1682], .agg [.lit (.bool x1683), .ro (Rd.slice (Rd.int .i64)) false x1684]] Mem.nil (fun o M => o = .ret (.ro (Rd.slice (Rd.int .i64)) false x1815) ∧ M = Mem.nil) := by
 unfold g_quireref09_sum at H
 refine Go.Q.Spec.of_bodyR (az := []) (rs := [.tmp 4]) (nt := 40) Try.func65 rfl rfl (by intro t T h; simp at h) rfl rfl fun cx hnp => ?_
 refine WP.seq ?_
 refine WP.region ?_
 refine WPL.d (d_box rfl rfl) rfl ?_
 refine WPL.d (d_box rfl rfl) rfl ?_
 refine WPL.q (q_as (v := .lit _) rfl) rfl ?_
 refine WPL.nilW ?_
 refine W.now ?_
 refine Then.n ?_
 refine WP.seq ?_
 refine WP.region ?_
 refine WPL.q (q_as (v := .lit _) rfl) rfl ?_
 refine WPL.nilW ?_
 refine W.now ?_
 refine Then.n ?_
 refine WP.seq ?_
 refine WP.region ?_
 refine WPL.q (q_as (v := .lit (.int _ _)) rfl) rfl ?_
 refine WPL.nilW ?_
 refine W.now ?_
 refine Then.n ?_
 refine WP.seq ?_
 refine WP.seq ?_
 refine WP.region ?_
 refine WPL.q (q_as (v := .lit (.int _ _)) rfl) rfl ?_
 refine WPL.nilW ?_
 refine W.now ?_
 refine Then.n ?_
 refine WP.block ?_
 refine WP.cv (Cv.vir 3 (Rd.int .i64) (N := 2) rfl 5 rfl) ?_
 refine WP.cv (Cv.weak (E' := (((((Env.none.upd 2 (.ptr 0 0)).upd 3 (.ptr 1 0)).upd 5 (.whole 2)).upd 6 (.lit (.int .i64 0))).upd 7 (.lit (.int .i64 0)))) (M' := (((Mem.nil.push (.cells 51 [.lit (.bool x1681), .ro (Rd.slice (Rd.int .i64)) false x1682])).push (.cells 51 [.lit (.bool x1683), .ro (Rd.slice (Rd.int .i64)) false x1684])).push (.row 3 (Rd.int .i64) ([] : List Int)))) [0, 1, 2] hnp ⟨rfl, ⟨⟨⟨trivial, .inr ⟨rfl, rfl, rfl⟩⟩, .inr ⟨rfl, rfl, rfl⟩⟩, .inr ⟨rfl, rfl, rfl⟩⟩, by decide, rfl, trivial⟩ (LeE.upd rfl rfl (LeE.upd rfl rfl (LeE.upd rfl rfl (LeE.upd rfl rfl (LeE.upd rfl rfl (LeE.none rfl rfl))))))) ?_
 obtain ⟨x1906, H1935, H⟩ := bnd H
 refine WP.monoW (Q := fun x E M => x = .exit 0 ∧ E = (Env.none.upd 5 (.whole 0)) ∧ M = (Mem.nil.push (.row 3 (Rd.int .i64) x1906))) ?_ ?_
 · refine WP.loop (β := Int × Int × (List Int)) (fun n b => g_quireref09_sum_l0 k x1681 x1682 x1683 x1684 n b.1 b.2.1 b.2.2 = some x1906) (fun b => (((((Env.none.upd 2 (.ptr 0 0)).upd 3 (.ptr 1 0)).upd 5 (.whole 2)).upd 6 (.lit (.int .i64 b.1))).upd 7 (.lit (.int .i64 b.2.1)))) (fun b => (((Mem.nil.push (.cells 51 [.lit (.bool x1681), .ro (Rd.slice (Rd.int .i64)) false x1682])).push (.cells 51 [.lit (.bool x1683), .ro (Rd.slice (Rd.int .i64)) false x1684])).push (.row 3 (Rd.int .i64) b.2.2))) k (0, 0, ([] : List Int)) H1935 rfl rfl ?_
   rintro n ⟨x1874, x1875, x1876⟩ H
   obtain _ | n := n
   · exact nf rfl H
   rw [g_quireref09_sum_l0.eq_2] at H
   show WP _ _ _ _ (((((Env.none.upd 2 (.ptr 0 0)).upd 3 (.ptr 1 0)).upd 5 (.whole 2)).upd 6 (.lit (.int .i64 x1874))).upd 7 (.lit (.int .i64 x1875))) (((Mem.nil.push (.cells 51 [.lit (.bool x1681), .ro (Rd.slice (Rd.int .i64)) false x1682])).push (.cells 51 [.lit (.bool x1683), .ro (Rd.slice (Rd.int .i64)) false x1684])).push (.row 3 (Rd.int .i64) x1876)) _
   refine WP.seq ?_
   refine WP.seq ?_
   obtain ⟨x1919, H1922, H⟩ := bnd H
   refine WP.monoW (Q := fun x E M => x = .normal ∧ E = ((((((Env.none.upd 2 (.ptr 0 0)).upd 3 (.ptr 1 0)).upd 5 (.whole 2)).upd 6 (.lit (.int .i64 x1874))).upd 7 (.lit (.int .i64 x1875))).upd 20 (.lit (.bool x1919))) ∧ M = (((Mem.nil.push (.cells 51 [.lit (.bool x1681), .ro (Rd.slice (Rd.int .i64)) false x1682])).push (.cells 51 [.lit (.bool x1683), .ro (Rd.slice (Rd.int .i64)) false x1684])).push (.row 3 (Rd.int .i64) x1876))) ?_ ?_
   · clear H
     have H := H1922
     clear H1922
     refine WP.region ?_
     refine WPL.q (q_mv (v := .lit (.int _ _)) rfl) rfl ?_
     refine WPL.q (q_fieldAddr fi51_1 rfl rfl) rfl ?_
     refine WPL.q (q_load sc49 rfl rfl rfl) rfl ?_
     refine WPL.q (q_len_ro sl49 rfl) rfl ?_
     obtain ⟨x1920, h1920, H⟩ := bnd H
     refine WPL.q (q_nm (q_leq rfl rfl) (nm_bool h1920)) rfl ?_
     refine WPL.q (q_mv (v := .lit (.bool _)) rfl) rfl ?_
     refine WPL.split (t := 14) (b := x1920) rfl (fun hb1920 => ?_) (fun hb1920 => ?_)
     · replace H := cnt hb1920 H
       refine WPL.skipg (b' := true) rfl rfl (lb hb1920) rfl rfl ?_
       refine WPL.skipg (b' := true) rfl rfl (lb hb1920) rfl rfl ?_
       refine WPL.skipg (b' := true) rfl rfl (lb hb1920) rfl rfl ?_
       refine WPL.skipg (b' := true) rfl rfl (lb hb1920) rfl rfl ?_
       refine WPL.skipg (b' := true) rfl rfl (lb hb1920) rfl rfl ?_
       refine WPL.q (q_pickT (v := .lit (.bool _)) (lb hb1920) rfl) rfl ?_
       refine WPL.nilW ?_
       have q0 := (Option.some.inj H)
       subst q0
       exact W.wk [0, 1, 2] hnp ⟨rfl, rfl, rfl⟩ ⟨rfl, ⟨⟨⟨trivial, .inr ⟨rfl, rfl, rfl⟩⟩, .inr ⟨rfl, rfl, rfl⟩⟩, .inr ⟨rfl, rfl, rfl⟩⟩, by decide, rfl, trivial⟩ (LeE.upd rfl rfl (LeE.upd rfl rfl (LeE.upd rfl rfl (LeE.upd rfl rfl (LeE.upd rfl rfl (LeE.upd rfl rfl (LeE.none rfl rfl))))))) rfl
     replace H := cnf hb1920 H
     refine WPL.qg rfl rfl (lb hb1920) (q_mv (v := .lit (.int _ _)) rfl) rfl ?_
     refine WPL.qg rfl rfl (lb hb1920) (q_fieldAddr fi51_1 rfl rfl) rfl ?_
     refine WPL.qg rfl rfl (lb hb1920) (q_load sc49 rfl rfl rfl) rfl ?_
     refine WPL.qg rfl rfl (lb hb1920) (q_len_ro sl49 rfl) rfl ?_
     obtain ⟨x1922, h1922, H⟩ := bnd H
     refine WPL.qg rfl rfl (lb hb1920) (q_nm (q_leq rfl rfl) (nm_bool h1922)) rfl ?_
     refine WPL.q (q_pickF (v := .lit (.bool _)) (lb hb1920) rfl) rfl ?_
     refine WPL.nilW ?_
     have q0 := (Option.some.inj H)
     subst q0
     exact W.wk [0, 1, 2] hnp ⟨rfl, rfl, rfl⟩ ⟨rfl, ⟨⟨⟨trivial, .inr ⟨rfl, rfl, rfl⟩⟩, .inr ⟨rfl, rfl, rfl⟩⟩, .inr ⟨rfl, rfl, rfl⟩⟩, by decide, rfl, trivial⟩ (LeE.upd rfl rfl (LeE.upd rfl rfl (LeE.upd rfl rfl (LeE.upd rfl rfl (LeE.upd rfl rfl (LeE.upd rfl rfl (LeE.none rfl rfl))))))) rfl
   rintro _ _ _ ⟨rfl, rfl, rfl⟩
   refine W.now ?_
   refine Then.n ?_
   refine WP.cond (t := x1919) rfl (fun hb1923 => ?_) (fun hb1923 => ?_)
   · replace H := cnt hb1923 H
     refine WP.skipW ?_
     refine W.now ?_
     refine Then.n ?_
     refine WP.seq ?_
     refine WP.block ?_
     refine WP.seq ?_
     refine WP.regionD' 10 [0, 1] [] mixed rfl ?_
     refine WPD.takeT 1 rfl (by kernel_rfl) (q_mv (v := .lit (.int _ _)) rfl) rfl ?_
     refine WPD.takeT 4 rfl (by kernel_rfl) (q_mv (v := .lit (.int _ _)) rfl) rfl ?_
     refine WPD.takeT 7 rfl (by kernel_rfl) (q_mv (v := .lit (.int _ _)) rfl) rfl ?_
     refine WPD.take 0 rfl (by kernel_rfl) (q_load_ag ag51 rfl rfl (Nat.le_of_ble_eq_true rfl)) rfl rfl ?_
     refine WPD.take 3 rfl (by kernel_rfl) (q_load_ag ag51 rfl rfl (Nat.le_of_ble_eq_true rfl)) rfl rfl ?_
     obtain ⟨x1931, h1929, H⟩ := bnd H
     refine WPD.eff 2 [0, 1] [] rfl (by kernel_rfl) (runs_call (s := []) (t := []) (N := 3) (bor := []) fn68 rfl (s_quireref09_at k x1681 x1682 x1875 x1931 h1929) ⟨rfl, trivial, by decide, rfl, trivial⟩ rfl trivial (.ren rfl rfl (.ren rfl rfl .nil)) rfl trivial rfl) rfl rfl ?_
     obtain ⟨x1933, h1931, H⟩ := bnd H
     refine WPD.eff 5 [0, 1] [] rfl (by kernel_rfl) (runs_call (s := []) (t := []) (N := 3) (bor := []) fn68 rfl (s_quireref09_at k x1683 x1684 x1875 x1933 h1931) ⟨rfl, trivial, by decide, rfl, trivial⟩ rfl trivial (.ren rfl rfl (.ren rfl rfl .nil)) rfl trivial rfl) rfl rfl ?_
     refine WPD.takeT 6 rfl (by kernel_rfl) (q_add rfl rfl) rfl ?_
     obtain ⟨x1934, h1934, H⟩ := bnd H
     refine WPD.takeT 8 rfl (by kernel_rfl) (q_nm (q_add rfl rfl) (nm_int h1934)) rfl ?_
     refine WPD.takeT 9 rfl (by kernel_rfl) (q_as (v := .lit (.int _ _)) rfl) rfl ?_
     refine WPD.doneW (by kernel_rfl) ?_
     refine W.now ?_
     refine Then.n ?_
     refine WP.seq ?_
     refine WP.region ?_
     refine WPL.q (q_mv (v := .whole _) rfl) rfl ?_
     refine WPL.q (q_mv (v := .lit (.int _ _)) rfl) rfl ?_
     refine WPL.q (q_rem rfl rfl rfl) rfl ?_
     refine WPL.d (d_buildSlice (ds := ([(Int.tmod x1934 10)] : List Int)) (R := (Rd.int .i64)) li49 rfl rfl rfl rfl rfl (JoinRows.cons1 Joins.sc rfl JoinRows.nil) rfl rfl) rfl ?_
     obtain ⟨h1934, H⟩ := grd H
     refine WPL.d (d_append ap49 rfl rfl rfl rfl (src_row sl49 rfl rfl) h1934 rfl) rfl ?_
     refine WPL.q (q_as (v := .whole _) rfl) rfl ?_
     refine WPL.nilW ?_
     refine W.now ?_
     refine Then.n ?_
     refine WP.region ?_
     refine WPL.q (q_mv (v := .lit (.int _ _)) rfl) rfl ?_
     refine WPL.q (q_quo rfl rfl rfl) rfl ?_
     refine WPL.q (q_as (v := .lit (.int _ _)) rfl) rfl ?_
     refine WPL.nilW ?_
     refine W.now ?_
     refine InBlock.n ?_
     refine Then.n ?_
     refine WP.region ?_
     refine WPL.q (q_mv (v := .lit (.int _ _)) rfl) rfl ?_
     refine WPL.q (q_add rfl rfl) rfl ?_
     refine WPL.q (q_as (v := .lit (.int _ _)) rfl) rfl ?_
     refine WPL.nilW ?_
     exact W.wk [0, 1, 4] hnp (Then.n ⟨n, ((IntKind.wrap .i64 (Int.tdiv x1934 10)), (IntKind.wrap .i64 (x1875 + 1)), (x1876 ++ ([(Int.tmod x1934 10)] : List Int))), Nat.lt_succ_self n, H, rfl, rfl⟩) ⟨rfl, ⟨⟨⟨trivial, .inr ⟨rfl, rfl, rfl⟩⟩, .inr ⟨rfl, rfl, rfl⟩⟩, .inr ⟨rfl, rfl, rfl⟩⟩, by decide, rfl, trivial⟩ (LeE.upd rfl rfl (LeE.upd rfl rfl (LeE.upd rfl rfl (LeE.upd rfl rfl (LeE.upd rfl rfl (LeE.none rfl rfl)))))) rfl
   replace H := cnf hb1923 H
   refine WP.exitW ?_
   have q0 := (Option.some.inj H)
   subst q0
   exact W.wk [2] hnp (Then.x (Then.x ⟨rfl, rfl, rfl⟩)) ⟨rfl, ⟨trivial, .inr ⟨rfl, rfl, rfl⟩⟩, by decide, rfl, trivial⟩ (LeE.upd rfl rfl (LeE.none rfl rfl)) rfl
 rintro _ _ _ ⟨rfl, rfl, rfl⟩
 refine W.now ?_
 refine InBlock.x0 ?_
 refine Then.n ?_
 refine WP.seq ?_
 refine WP.region ?_
 refine WPL.q (q_mv (v := .whole _) rfl) rfl ?_
 refine WPL.q (q_as (v := .whole _) rfl) rfl ?_
 refine WPL.nilW ?_
 refine W.now ?_
 refine Then.n ?_
 refine WP.retW ?_
 refine W.cv (Cv.frzRow (i := 0) rfl rfl hnp rfl rfl) rfl ?_
 have q0 := (Option.some.inj H)
 subst q0
 exact W.now (BodyR.mkR trivial rfl [] ⟨rfl, rfl⟩ ⟨rfl, trivial, by decide, rfl, trivial⟩ rfl rfl)
set_option maxRecDepth 100000 in
set_option maxHeartbeats 4000000 in
theorem s_quireref09_trim__b (k : Nat) (x1939 : Bool) (x1940 : (List Int)) (x1988 : Bool) (x1989 : (List Int)) (H : g_quireref09_trim k x1939 x1940 = some (x1988, x1989)) : Go.Q.Spec Try.prog 36 0 [.agg [.lit (.bool x1939), .ro (Rd.slice (Rd.int .i64)) false x1940]] Mem.nil (fun o M => o = .ret (.agg [.lit (.bool x1988), .ro (Rd.slice (Rd.int .i64)) false x1989]) ∧ M = (Mem.nil.push (.cells 51 [.lit (.bool x1988), .ro (Rd.slice (Rd.int .i64)) false x1989]))) := by
 unfold g_quireref09_trim at H
 refine Go.Q.Spec.of_bodyR (az := [(51, 2)]) (rs := [.cell 2 51]) (nt := 32) Try.func36 rfl rfl (by intro t T h; simp at h; rcases h with ⟨rfl, rfl⟩ <;> first | exact ag51) rfl rfl fun cx hnp => ?_
 refine WP.seq ?_
 refine WP.region ?_
 refine WPL.d (d_box rfl rfl) rfl ?_
 refine WPL.d (d_alloc ze51 rfl) rfl ?_
 refine WPL.nilW ?_
 refine W.now ?_
 refine Then.n ?_
 refine WP.seq ?_
 refine WP.region ?_
 refine WPL.q (q_fieldAddr fi51_1 rfl rfl) rfl ?_
 refine WPL.q (q_load sc49 rfl rfl rfl) rfl ?_
 refine WPL.q (q_len_ro sl49 rfl) rfl ?_
 refine WPL.q (q_as (v := .lit (.int _ _)) rfl) rfl ?_
 refine WPL.nilW ?_
 refine W.now ?_
 refine Then.n ?_
 refine WP.seq ?_
 refine WP.block ?_
 refine WP.cv (Cv.weak (E' := (((Env.none.upd 1 (.ptr 0 0)).upd 2 (.ptr 1 0)).upd 3 (.lit (.int .i64 ((List.length x1940 : Nat) : Int))))) (M' := ((Mem.nil.push (.cells 51 [.lit (.bool x1939), .ro (Rd.slice (Rd.int .i64)) false x1940])).push (.cells 51 [.lit (.bool false), .lit (.slice none 0 0)]))) [0, 1] hnp ⟨rfl, ⟨⟨trivial, .inr ⟨rfl, rfl, rfl⟩⟩, .inr ⟨rfl, rfl, rfl⟩⟩, by decide, rfl, trivial⟩ (LeE.upd rfl rfl (LeE.upd rfl rfl (LeE.upd rfl rfl (LeE.none rfl rfl))))) ?_
 obtain ⟨x2028, H2042, H⟩ := bnd H
 refine WP.monoW (Q := fun x E M => x = .exit 0 ∧ E = (((Env.none.upd 1 (.ptr 0 0)).upd 2 (.ptr 1 0)).upd 3 (.lit (.int .i64 x2028))) ∧ M = ((Mem.nil.push (.cells 51 [.lit (.bool x1939), .ro (Rd.slice (Rd.int .i64)) false x1940])).push (.cells 51 [.lit (.bool false), .lit (.slice none 0 0)]))) ?_ ?_
 · refine WP.loop (β := Int) (fun n b => g_quireref09_trim_l0 k x1940 n b = some x2028) (fun b => (((Env.none.upd 1 (.ptr 0 0)).upd 2 (.ptr 1 0)).upd 3 (.lit (.int .i64 b)))) (fun b => ((Mem.nil.push (.cells 51 [.lit (.bool x1939), .ro (Rd.slice (Rd.int .i64)) false x1940])).push (.cells 51 [.lit (.bool false), .lit (.slice none 0 0)]))) k ((List.length x1940 : Nat) : Int) H2042 rfl rfl ?_
   rintro n x2013 H
   obtain _ | n := n
   · exact nf rfl H
   rw [g_quireref09_trim_l0.eq_2] at H
   show WP _ _ _ _ (((Env.none.upd 1 (.ptr 0 0)).upd 2 (.ptr 1 0)).upd 3 (.lit (.int .i64 x2013))) ((Mem.nil.push (.cells 51 [.lit (.bool x1939), .ro (Rd.slice (Rd.int .i64)) false x1940])).push (.cells 51 [.lit (.bool false), .lit (.slice none 0 0)])) _
   refine WP.seq ?_
   refine WP.seq ?_
   obtain ⟨x2038, H2040, H⟩ := bnd H
   refine WP.monoW (Q := fun x E M => x = .normal ∧ E = ((((Env.none.upd 1 (.ptr 0 0)).upd 2 (.ptr 1 0)).upd 3 (.lit (.int .i64 x2013))).upd 17 (.lit (.bool x2038))) ∧ M = ((Mem.nil.push (.cells 51 [.lit (.bool x1939), .ro (Rd.slice (Rd.int .i64)) false x1940])).push (.cells 51 [.lit (.bool false), .lit (.slice none 0 0)]))) ?_ ?_
   · clear H
     have H := H2040
     clear H2040
     refine WP.region ?_
     refine WPL.q (q_mv (v := .lit (.int _ _)) rfl) rfl ?_
     refine WPL.q (q_gtr rfl rfl) rfl ?_
     refine WPL.q (q_mv (v := .lit (.bool _)) rfl) rfl ?_
     refine WPL.split (t := 9) (b := (decide (0 < x2013))) rfl (fun hb2038 => ?_) (fun hb2038 => ?_)
     · replace H := cnt hb2038 H
       refine WPL.qg rfl rfl (lb hb2038) (q_fieldAddr fi51_1 rfl rfl) rfl ?_
       refine WPL.qg rfl rfl (lb hb2038) (q_load sc49 rfl rfl rfl) rfl ?_
       refine WPL.qg rfl rfl (lb hb2038) (q_mv (v := .lit (.int _ _)) rfl) rfl ?_
       refine WPL.qg rfl rfl (lb hb2038) (q_sub rfl rfl) rfl ?_
       obtain ⟨x2040, h2040, H⟩ := bnd H
       refine WPL.qg rfl rfl (lb hb2038) (q_index_ro sl49 rfl rfl rfl h2040) rfl ?_
       refine WPL.qg rfl rfl (lb hb2038) (q_load_sc sc3 rfl) rfl ?_
       refine WPL.qg rfl rfl (lb hb2038) (q_eql rfl rfl) rfl ?_
       refine WPL.q (q_pickT (v := .lit (.bool _)) (lb hb2038) rfl) rfl ?_
       refine WPL.nilW ?_
       have q0 := (Option.some.inj H)
       subst q0
       exact W.wk [0, 1] hnp ⟨rfl, rfl, rfl⟩ ⟨rfl, ⟨⟨trivial, .inr ⟨rfl, rfl, rfl⟩⟩, .inr ⟨rfl, rfl, rfl⟩⟩, by decide, rfl, trivial⟩ (LeE.upd rfl rfl (LeE.upd rfl rfl (LeE.upd rfl rfl (LeE.upd rfl rfl (LeE.none rfl rfl))))) rfl
     replace H := cnf hb2038 H
     refine WPL.skipg (b' := false) rfl rfl (lb hb2038) rfl rfl ?_
     refine WPL.skipg (b' := false) rfl rfl (lb hb2038) rfl rfl ?_
     refine WPL.skipg (b' := false) rfl rfl (lb hb2038) rfl rfl ?_
     refine WPL.skipg (b' := false) rfl rfl (lb hb2038) rfl rfl ?_
     refine WPL.skipg (b' := false) rfl rfl (lb hb2038) rfl rfl ?_
     refine WPL.skipg (b' := false) rfl rfl (lb hb2038) rfl rfl ?_
     refine WPL.skipg (b' := false) rfl rfl (lb hb2038) rfl rfl ?_
     refine WPL.q (q_pickF (v := .lit (.bool _)) (lb hb2038) rfl) rfl ?_
     refine WPL.nilW ?_
     have q0 := (Option.some.inj H)
     subst q0
     exact W.wk [0, 1] hnp ⟨rfl, rfl, rfl⟩ ⟨rfl, ⟨⟨trivial, .inr ⟨rfl, rfl, rfl⟩⟩, .inr ⟨rfl, rfl, rfl⟩⟩, by decide, rfl, trivial⟩ (LeE.upd rfl rfl (LeE.upd rfl rfl (LeE.upd rfl rfl (LeE.upd rfl rfl (LeE.none rfl rfl))))) rfl
   rintro _ _ _ ⟨rfl, rfl, rfl⟩
   refine W.now ?_
   refine Then.n ?_
   refine WP.cond (t := x2038) rfl (fun hb2041 => ?_) (fun hb2041 => ?_)
   · replace H := cnt hb2041 H
     refine WP.skipW ?_
     refine W.now ?_
     refine Then.n ?_
     refine WP.block ?_
     refine WP.region ?_
     refine WPL.q (q_mv (v := .lit (.int _ _)) rfl) rfl ?_
     refine WPL.q (q_sub rfl rfl) rfl ?_
     refine WPL.q (q_as (v := .lit (.int _ _)) rfl) rfl ?_
     refine WPL.nilW ?_
     exact W.wk [0, 1] hnp (InBlock.n (Then.n ⟨n, (IntKind.wrap .i64 (x2013 - 1)), Nat.lt_succ_self n, H, rfl, rfl⟩)) ⟨rfl, ⟨⟨trivial, .inr ⟨rfl, rfl, rfl⟩⟩, .inr ⟨rfl, rfl, rfl⟩⟩, by decide, rfl, trivial⟩ (LeE.upd rfl rfl (LeE.upd rfl rfl (LeE.upd rfl rfl (LeE.none rfl rfl)))) rfl
   replace H := cnf hb2041 H
   refine WP.exitW ?_
   have q0 := (Option.some.inj H)
   subst q0
   exact W.wk [0, 1] hnp (Then.x (Then.x ⟨rfl, rfl, rfl⟩)) ⟨rfl, ⟨⟨trivial, .inr ⟨rfl, rfl, rfl⟩⟩, .inr ⟨rfl, rfl, rfl⟩⟩, by decide, rfl, trivial⟩ (LeE.upd rfl rfl (LeE.upd rfl rfl (LeE.upd rfl rfl (LeE.none rfl rfl)))) rfl
 rintro _ _ _ ⟨rfl, rfl, rfl⟩
 refine W.now ?_
 refine InBlock.x0 ?_
 refine Then.n ?_
 refine WP.seq ?_
 refine WP.seq ?_
 refine WP.region ?_
 refine WPL.q (q_mv (v := .lit (.int _ _)) rfl) rfl ?_
 refine WPL.q (q_eql rfl rfl) rfl ?_
 refine WPL.nilW ?_
 refine W.now ?_
 refine Then.n ?_
 refine WP.cond (t := (decide (x2028 = 0))) rfl (fun hb2044 => ?_) (fun hb2044 => ?_)
 · replace H := cnt hb2044 H
   refine WP.seq ?_
   refine WP.region ?_
   refine WPL.q (q_build bu51 rfl) rfl ?_
   refine WPL.s (s_store sz51 rfl rfl rfl rfl rfl) ?_
   refine WPL.nilW ?_
   refine W.now ?_
   refine Then.n ?_
   refine WP.retW ?_
   refine W.cv (Cv.nilRoC (Rd.int .i64) false (i := 1) (off := 1) rfl rfl rfl) rfl ?_
   have q0 := (Prod.mk.inj (Option.some.inj H)).1
   have q1 := (Prod.mk.inj (Option.some.inj H)).2
   subst q0
   subst q1
   exact W.now (Then.r (BodyR.mkR trivial rfl [1] ⟨rfl, rfl⟩ ⟨rfl, ⟨trivial, .inr ⟨rfl, rfl, rfl⟩⟩, by decide, rfl, trivial⟩ rfl rfl))
 replace H := cnf hb2044 H
 refine WP.skipW ?_
 refine W.now ?_
 refine Then.n ?_
 refine WP.seq ?_
 refine WP.regionD' 10 [0] [] mixed rfl ?_
 refine WPD.takeT 0 rfl (by kernel_rfl) (q_fieldAddr fi51_0 rfl rfl) rfl ?_
 refine WPD.takeT 3 rfl (by kernel_rfl) (q_fieldAddr fi51_1 rfl rfl) rfl ?_
 refine WPD.takeT 5 rfl (by kernel_rfl) (q_mv (v := .lit (.int _ _)) rfl) rfl ?_
 refine WPD.take 1 rfl (by kernel_rfl) (q_load sc4 rfl rfl rfl) rfl rfl ?_
 refine WPD.take 4 rfl (by kernel_rfl) (q_load sc49 rfl rfl rfl) rfl rfl ?_
 obtain ⟨h2047, H⟩ := grd H
 refine WPD.takeT 6 rfl (by kernel_rfl) (q_slice_ro (i := 0) (j := x2028) sl49 rfl rfl rfl ⟨_, rfl⟩ h2047) rfl ?_
 refine WPD.eff 2 [0] [] rfl (by kernel_rfl) (Does.runs (d_buildSlice (ds := ([] : List Int)) (R := (Rd.int .i64)) li49 rfl rfl rfl rfl rfl JoinRows.nil rfl rfl)) rfl rfl ?_
 obtain ⟨h2048, H⟩ := grd H
 refine WPD.eff 7 [0] [] rfl (by kernel_rfl) (Does.runs (d_append ap49 rfl rfl rfl rfl (src_ro sl49 rfl) h2048 rfl)) rfl rfl ?_
 refine WPD.takeT 8 rfl (by kernel_rfl) (q_build bu51 rfl) rfl ?_
 refine WPD.effS 9 [0] [] rfl (by kernel_rfl) (s_store sz51 rfl rfl rfl rfl rfl) rfl ?_
 refine WPD.doneW (by kernel_rfl) ?_
 refine W.now ?_
 refine Then.n ?_
 refine WP.retW ?_
 refine W.cv (Cv.frzRow (i := 3) rfl rfl hnp rfl rfl) rfl ?_
 have q0 := (Prod.mk.inj (Option.some.inj H)).1
 have q1 := (Prod.mk.inj (Option.some.inj H)).2
 subst q0
 subst q1
 exact W.now (BodyR.mkR trivial rfl [1] ⟨rfl, rfl⟩ ⟨rfl, ⟨trivial, .inr ⟨rfl, rfl, rfl⟩⟩, by decide, rfl, trivial⟩ rfl rfl)
set_option maxRecDepth 100000 in
set_option maxHeartbeats 4000000 in
theorem s_quireref09_more (k : Nat) (x2069 : Bool) (x2070 : (List Int)) (x2071 : Bool) (x2072 : (List Int)) (x2191 : Int) (H : g_quireref09_more k x2069 x2070 x2071 x2072 = some x2191) : Go.Q.Spec Try.prog 61 0 [.agg [.lit (.bool x2069), .ro (Rd.slice (Rd.int .i64)) false x2070], .agg [.lit (.bool x2071), .ro (Rd.slice (Rd.int .i64)) false x2072]] Mem.nil (fun o M => o = .ret (.lit (.int .i64 x2191)) ∧ M = Mem.nil) := by
 unfold g_quireref09_more at H
 refine Go.Q.Spec.of_bodyR (az := []) (rs := [.tmp 4]) (nt := 31) Try.func61 rfl rfl (by intro t T h; simp at h) rfl rfl fun cx hnp => ?_
 refine WP.seq ?_
 refine WP.region ?_
 refine WPL.d (d_box rfl rfl) rfl ?_
 refine WPL.d (d_box rfl rfl) rfl ?_
 refine WPL.q (q_as (v := .lit (.int _ _)) rfl) rfl ?_
 refine WPL.nilW ?_
 refine W.now ?_
 refine Then.n ?_
 refine WP.seq ?_
 refine WP.seq ?_
 refine WP.region ?_
 refine WPL.q (q_fieldAddr fi51_1 rfl rfl) rfl ?_
 refine WPL.q (q_load sc49 rfl rfl rfl) rfl ?_
 refine WPL.q (q_len_ro sl49 rfl) rfl ?_
 refine WPL.q (q_fieldAddr fi51_1 rfl rfl) rfl ?_
 refine WPL.q (q_load sc49 rfl rfl rfl) rfl ?_
 refine WPL.q (q_len_ro sl49 rfl) rfl ?_
 obtain ⟨x2192, h2192, H⟩ := bnd H
 refine WPL.q (q_nm (q_add rfl rfl) (nm_int h2192)) rfl ?_
 refine WPL.q (q_as (v := .lit (.int _ _)) rfl) rfl ?_
 refine WPL.nilW ?_
 refine W.now ?_
 refine Then.n ?_
 refine WP.block ?_
 refine WP.cv (Cv.weak (E' := (((Env.none.upd 2 (.ptr 0 0)).upd 3 (.ptr 1 0)).upd 5 (.lit (.int .i64 x2192)))) (M' := ((Mem.nil.push (.cells 51 [.lit (.bool x2069), .ro (Rd.slice (Rd.int .i64)) false x2070])).push (.cells 51 [.lit (.bool x2071), .ro (Rd.slice (Rd.int .i64)) false x2072]))) [0, 1] hnp ⟨rfl, ⟨⟨trivial, .inr ⟨rfl, rfl, rfl⟩⟩, .inr ⟨rfl, rfl, rfl⟩⟩, by decide, rfl, trivial⟩ (LeE.upd rfl rfl (LeE.upd rfl rfl (LeE.upd rfl rfl (LeE.none rfl rfl))))) ?_
 obtain ⟨y2364, H2362, H⟩ := bnd H
 refine WP.monoW (Q := fun x E M => match (generalizing := false) y2364 with | (Sum.inl x2306) => x = .ret ∧ E = (Env.none.upd 4 (.lit (.int .i64 x2306))) ∧ M = Mem.nil | (Sum.inr _) => x = .exit 0 ∧ E = Env.none ∧ M = Mem.nil) ?_ ?_
 · refine WP.loop (β := Int) (fun n b => g_quireref09_more_l0 k x2069 x2070 x2071 x2072 n b = some y2364) (fun b => (((Env.none.upd 2 (.ptr 0 0)).upd 3 (.ptr 1 0)).upd 5 (.lit (.int .i64 b)))) (fun b => ((Mem.nil.push (.cells 51 [.lit (.bool x2069), .ro (Rd.slice (Rd.int .i64)) false x2070])).push (.cells 51 [.lit (.bool x2071), .ro (Rd.slice (Rd.int .i64)) false x2072]))) k x2192 H2362 rfl rfl ?_
   rintro n x2249 H
   obtain _ | n := n
   · exact nf rfl H
   rw [g_quireref09_more_l0.eq_2] at H
   show WP _ _ _ _ (((Env.none.upd 2 (.ptr 0 0)).upd 3 (.ptr 1 0)).upd 5 (.lit (.int .i64 x2249))) ((Mem.nil.push (.cells 51 [.lit (.bool x2069), .ro (Rd.slice (Rd.int .i64)) false x2070])).push (.cells 51 [.lit (.bool x2071), .ro (Rd.slice (Rd.int .i64)) false x2072])) _
   refine WP.seq ?_
   refine WP.seq ?_
   refine WP.region ?_
   refine WPL.q (q_mv (v := .lit (.int _ _)) rfl) rfl ?_
   refine WPL.q (q_geq rfl rfl) rfl ?_
   refine WPL.nilW ?_
   refine W.now ?_
   refine Then.n ?_
   refine WP.cond (t := (decide (0 ≤ x2249))) rfl (fun hb2307 => ?_) (fun hb2307 => ?_)
   · replace H := cnt hb2307 H
     refine WP.skipW ?_
     refine W.now ?_
     refine Then.n ?_
     refine WP.seq ?_
     refine WP.block ?_
     refine WP.seq ?_
     refine WP.seq ?_
     refine WP.regionD' 7 [0, 1] [] mixed rfl ?_
     refine WPD.takeT 1 rfl (by kernel_rfl) (q_mv (v := .lit (.int _ _)) rfl) rfl ?_
     refine WPD.takeT 4 rfl (by kernel_rfl) (q_mv (v := .lit (.int _ _)) rfl) rfl ?_
     refine WPD.take 0 rfl (by kernel_rfl) (q_load_ag ag51 rfl rfl (Nat.le_of_ble_eq_true rfl)) rfl rfl ?_
     refine WPD.take 3 rfl (by kernel_rfl) (q_load_ag ag51 rfl rfl (Nat.le_of_ble_eq_true rfl)) rfl rfl ?_
     obtain ⟨x2350, h2348, H⟩ := bnd H
     refine WPD.eff 2 [0, 1] [] rfl (by kernel_rfl) (runs_call (s := []) (t := []) (N := 2) (bor := []) fn68 rfl (s_quireref09_at k x2069 x2070 x2249 x2350 h2348) ⟨rfl, trivial, by decide, rfl, trivial⟩ rfl trivial (.ren rfl rfl (.ren rfl rfl .nil)) rfl trivial rfl) rfl rfl ?_
     obtain ⟨x2352, h2350, H⟩ := bnd H
     refine WPD.eff 5 [0, 1] [] rfl (by kernel_rfl) (runs_call (s := []) (t := []) (N := 2) (bor := []) fn68 rfl (s_quireref09_at k x2071 x2072 x2249 x2352 h2350) ⟨rfl, trivial, by decide, rfl, trivial⟩ rfl trivial (.ren rfl rfl (.ren rfl rfl .nil)) rfl trivial rfl) rfl rfl ?_
     refine WPD.takeT 6 rfl (by kernel_rfl) (q_gtr rfl rfl) rfl ?_
     refine WPD.doneW (by kernel_rfl) ?_
     refine W.now ?_
     refine Then.n ?_
     refine WP.cond (t := (decide (x2352 < x2350))) rfl (fun hb2352 => ?_) (fun hb2352 => ?_)
     · replace H := cnt hb2352 H
       refine WP.seq ?_
       refine WP.region ?_
       refine WPL.q (q_as (v := .lit (.int _ _)) rfl) rfl ?_
       refine WPL.nilW ?_
       refine W.now ?_
       refine Then.n ?_
       refine WP.retW ?_
       have q0 := Option.some.inj H
       subst q0
       exact W.wk [] hnp (Then.r (InBlock.r (Then.r (Then.r ⟨rfl, rfl, rfl⟩)))) ⟨rfl, trivial, by decide, rfl, trivial⟩ (LeE.upd rfl rfl (LeE.none rfl rfl)) rfl
     replace H := cnf hb2352 H
     refine WP.skipW ?_
     refine W.now ?_
     refine Then.n ?_
     refine WP.seq ?_
     refine WP.regionD' 7 [0, 1] [] mixed rfl ?_
     refine WPD.takeT 1 rfl (by kernel_rfl) (q_mv (v := .lit (.int _ _)) rfl) rfl ?_
     refine WPD.takeT 4 rfl (by kernel_rfl) (q_mv (v := .lit (.int _ _)) rfl) rfl ?_
     refine WPD.take 0 rfl (by kernel_rfl) (q_load_ag ag51 rfl rfl (Nat.le_of_ble_eq_true rfl)) rfl rfl ?_
     refine WPD.take 3 rfl (by kernel_rfl) (q_load_ag ag51 rfl rfl (Nat.le_of_ble_eq_true rfl)) rfl rfl ?_
     obtain ⟨x2359, h2357, H⟩ := bnd H
     refine WPD.eff 2 [0, 1] [] rfl (by kernel_rfl) (runs_call (s := []) (t := []) (N := 2) (bor := []) fn68 rfl (s_quireref09_at k x2069 x2070 x2249 x2359 h2357) ⟨rfl, trivial, by decide, rfl, trivial⟩ rfl trivial (.ren rfl rfl (.ren rfl rfl .nil)) rfl trivial rfl) rfl rfl ?_
     obtain ⟨x2361, h2359, H⟩ := bnd H
     refine WPD.eff 5 [0, 1] [] rfl (by kernel_rfl) (runs_call (s := []) (t := []) (N := 2) (bor := []) fn68 rfl (s_quireref09_at k x2071 x2072 x2249 x2361 h2359) ⟨rfl, trivial, by decide, rfl, trivial⟩ rfl trivial (.ren rfl rfl (.ren rfl rfl .nil)) rfl trivial rfl) rfl rfl ?_
     refine WPD.takeT 6 rfl (by kernel_rfl) (q_lss rfl rfl) rfl ?_
     refine WPD.doneW (by kernel_rfl) ?_
     refine W.now ?_
     refine Then.n ?_
     refine WP.cond (t := (decide (x2359 < x2361))) rfl (fun hb2361 => ?_) (fun hb2361 => ?_)
     · replace H := cnt hb2361 H
       refine WP.seq ?_
       refine WP.region ?_
       refine WPL.q (q_as (v := .lit (.int _ _)) rfl) rfl ?_
       refine WPL.nilW ?_
       refine W.now ?_
       refine Then.n ?_
       refine WP.retW ?_
       have q0 := Option.some.inj H
       subst q0
       exact W.wk [] hnp (InBlock.r (Then.r (Then.r ⟨rfl, rfl, rfl⟩))) ⟨rfl, trivial, by decide, rfl, trivial⟩ (LeE.upd rfl rfl (LeE.none rfl rfl)) rfl
     replace H := cnf hb2361 H
     refine WP.skipW ?_
     refine W.now ?_
     refine InBlock.n ?_
     refine Then.n ?_
     refine WP.region ?_
     refine WPL.q (q_mv (v := .lit (.int _ _)) rfl) rfl ?_
     refine WPL.q (q_sub rfl rfl) rfl ?_
     refine WPL.q (q_as (v := .lit (.int _ _)) rfl) rfl ?_
     refine WPL.nilW ?_
     exact W.wk [0, 1] hnp (Then.n ⟨n, (IntKind.wrap .i64 (x2249 - 1)), Nat.lt_succ_self n, H, rfl, rfl⟩) ⟨rfl, ⟨⟨trivial, .inr ⟨rfl, rfl, rfl⟩⟩, .inr ⟨rfl, rfl, rfl⟩⟩, by decide, rfl, trivial⟩ (LeE.upd rfl rfl (LeE.upd rfl rfl (LeE.upd rfl rfl (LeE.none rfl rfl)))) rfl
   replace H := cnf hb2307 H
   refine WP.exitW ?_
   have q0 := Option.some.inj H
   subst q0
   exact W.wk [] hnp (Then.x (Then.x ⟨rfl, rfl, rfl⟩)) ⟨rfl, trivial, by decide, rfl, trivial⟩ (LeE.none rfl rfl) rfl
 rcases y2364 with x2306 | _
 · rintro _ _ _ ⟨rfl, rfl, rfl⟩
   have q0 := (Option.some.inj H)
   subst q0
   exact W.now (InBlock.r (Then.r (BodyR.mkR trivial rfl [] ⟨rfl, rfl⟩ ⟨rfl, trivial, by decide, rfl, trivial⟩ rfl rfl)))
 rintro _ _ _ ⟨rfl, rfl, rfl⟩
 refine W.now ?_
 refine InBlock.x0 ?_
 refine Then.n ?_
 refine WP.seq ?_
 refine WP.region ?_
 refine WPL.q (q_as (v := .lit (.int _ _)) rfl) rfl ?_
 refine WPL.nilW ?_
 refine W.now ?_
 refine Then.n ?_
 refine WP.retW ?_
 have q0 := (Option.some.inj H)
 subst q0
 exact W.now (BodyR.mkR trivial rfl [] ⟨rfl, rfl⟩ ⟨rfl, trivial, by decide, rfl, trivial⟩ rfl rfl)
set_option maxRecDepth 100000 in
set_option maxHeartbeats 4000000 in
theorem s_quireref09_less (k : Nat) (x2368 : Bool) (x2369 : (List Int)) (x2370 : Bool) (x2371 : (List Int)) (x2486 : (List Int)) (H : g_quireref09_less k x2368 x2369 x2370 x2371 = some x2486) : Go.Q.Spec Try.prog 62 0 [.agg [.lit (.bool x2368), .ro (Rd.slice (Rd.int .i64)) false x2369], .agg [.lit (.bool x2370), .ro (Rd.slice (Rd.int .i64)) false x2371]] Mem.nil (fun o M => o = .ret (.ro (Rd.slice (Rd.int .i64)) false x2486) ∧ M = Mem.nil) := by
 unfold g_quireref09_less at H
 refine Go.Q.Spec.of_bodyR (az := []) (rs := [.tmp 4]) (nt := 34) Try.func62 rfl rfl (by intro t T h; simp at h) rfl rfl fun cx hnp => ?_
 refine WP.seq ?_
 refine WP.region ?_
 refine WPL.d (d_box rfl rfl) rfl ?_
 refine WPL.d (d_box rfl rfl) rfl ?_
 refine WPL.q (q_as (v := .lit _) rfl) rfl ?_
 refine WPL.nilW ?_
 refine W.now ?_
 refine Then.n ?_
 refine WP.seq ?_
 refine WP.region ?_
 refine WPL.q (q_as (v := .lit _) rfl) rfl ?_
 refine WPL.nilW ?_
 refine W.now ?_
 refine Then.n ?_
 refine WP.seq ?_
 refine WP.region ?_
 refine WPL.q (q_as (v := .lit (.int _ _)) rfl) rfl ?_
 refine WPL.nilW ?_
 refine W.now ?_
 refine Then.n ?_
 refine WP.seq ?_
 refine WP.seq ?_
 refine WP.region ?_
 refine WPL.q (q_as (v := .lit (.int _ _)) rfl) rfl ?_
 refine WPL.nilW ?_
 refine W.now ?_
 refine Then.n ?_
 refine WP.block ?_
 refine WP.cv (Cv.vir 3 (Rd.int .i64) (N := 2) rfl 5 rfl) ?_
 refine WP.cv (Cv.weak (E' := (((((Env.none.upd 2 (.ptr 0 0)).upd 3 (.ptr 1 0)).upd 5 (.whole 2)).upd 6 (.lit (.int .i64 0))).upd 7 (.lit (.int .i64 0)))) (M' := (((Mem.nil.push (.cells 51 [.lit (.bool x2368), .ro (Rd.slice (Rd.int .i64)) false x2369])).push (.cells 51 [.lit (.bool x2370), .ro (Rd.slice (Rd.int .i64)) false x2371])).push (.row 3 (Rd.int .i64) ([] : List Int)))) [0, 1, 2] hnp ⟨rfl, ⟨⟨⟨trivial, .inr ⟨rfl, rfl, rfl⟩⟩, .inr ⟨rfl, rfl, rfl⟩⟩, .inr ⟨rfl, rfl, rfl⟩⟩, by decide, rfl, trivial⟩ (LeE.upd rfl rfl (LeE.upd rfl rfl (LeE.upd rfl rfl (LeE.upd rfl rfl (LeE.upd rfl rfl (LeE.none rfl rfl))))))) ?_
 obtain ⟨x2598, H2634, H⟩ := bnd H
 refine WP.monoW (Q := fun x E M => x = .exit 0 ∧ E = (Env.none.upd 5 (.whole 0)) ∧ M = (Mem.nil.push (.row 3 (Rd.int .i64) x2598))) ?_ ?_
 · refine WP.loop (β := Int × Int × (List Int)) (fun n b => g_quireref09_less_l0 k x2368 x2369 x2370 x2371 n b.1 b.2.1 b.2.2 = some x2598) (fun b => (((((Env.none.upd 2 (.ptr 0 0)).upd 3 (.ptr 1 0)).upd 5 (.whole 2)).upd 6 (.lit (.int .i64 b.1))).upd 7 (.lit (.int .i64 b.2.1)))) (fun b => (((Mem.nil.push (.cells 51 [.lit (.bool x2368), .ro (Rd.slice (Rd.int .i64)) false x2369])).push (.cells 51 [.lit (.bool x2370), .ro (Rd.slice (Rd.int .i64)) false x2371])).push (.row 3 (Rd.int .i64) b.2.2))) k (0, 0, ([] : List Int)) H2634 rfl rfl ?_
   rintro n ⟨x2559, x2560, x2561⟩ H
   obtain _ | n := n
   · exact nf rfl H
   rw [g_quireref09_less_l0.eq_2] at H
   show WP _ _ _ _ (((((Env.none.upd 2 (.ptr 0 0)).upd 3 (.ptr 1 0)).upd 5 (.whole 2)).upd 6 (.lit (.int .i64 x2559))).upd 7 (.lit (.int .i64 x2560))) (((Mem.nil.push (.cells 51 [.lit (.bool x2368), .ro (Rd.slice (Rd.int .i64)) false x2369])).push (.cells 51 [.lit (.bool x2370), .ro (Rd.slice (Rd.int .i64)) false x2371])).push (.row 3 (Rd.int .i64) x2561)) _
   refine WP.seq ?_
   refine WP.seq ?_
   refine WP.region ?_
   refine WPL.q (q_mv (v := .lit (.int _ _)) rfl) rfl ?_
   refine WPL.q (q_fieldAddr fi51_1 rfl rfl) rfl ?_
   refine WPL.q (q_load sc49 rfl rfl rfl) rfl ?_
   refine WPL.q (q_len_ro sl49 rfl) rfl ?_
   obtain ⟨x2601, h2601, H⟩ := bnd H
   refine WPL.q (q_nm (q_lss rfl rfl) (nm_bool h2601)) rfl ?_
   refine WPL.nilW ?_
   refine W.now ?_
   refine Then.n ?_
   refine WP.cond (t := x2601) rfl (fun hb2601 => ?_) (fun hb2601 => ?_)
   · replace H := cnt hb2601 H
     refine WP.skipW ?_
     refine W.now ?_
     refine Then.n ?_
     refine WP.seq ?_
     refine WP.block ?_
     refine WP.seq ?_
     refine WP.regionD' 10 [0, 1] [] mixed rfl ?_
     refine WPD.takeT 1 rfl (by kernel_rfl) (q_mv (v := .lit (.int _ _)) rfl) rfl ?_
     refine WPD.takeT 4 rfl (by kernel_rfl) (q_mv (v := .lit (.int _ _)) rfl) rfl ?_
     refine WPD.takeT 7 rfl (by kernel_rfl) (q_mv (v := .lit (.int _ _)) rfl) rfl ?_
     refine WPD.take 0 rfl (by kernel_rfl) (q_load_ag ag51 rfl rfl (Nat.le_of_ble_eq_true rfl)) rfl rfl ?_
     refine WPD.take 3 rfl (by kernel_rfl) (q_load_ag ag51 rfl rfl (Nat.le_of_ble_eq_true rfl)) rfl rfl ?_
     obtain ⟨x2625, h2623, H⟩ := bnd H
     refine WPD.eff 2 [0, 1] [] rfl (by kernel_rfl) (runs_call (s := []) (t := []) (N := 3) (bor := []) fn68 rfl (s_quireref09_at k x2368 x2369 x2560 x2625 h2623) ⟨rfl, trivial, by decide, rfl, trivial⟩ rfl trivial (.ren rfl rfl (.ren rfl rfl .nil)) rfl trivial rfl) rfl rfl ?_
     obtain ⟨x2627, h2625, H⟩ := bnd H
     refine WPD.eff 5 [0, 1] [] rfl (by kernel_rfl) (runs_call (s := []) (t := []) (N := 3) (bor := []) fn68 rfl (s_quireref09_at k x2370 x2371 x2560 x2627 h2625) ⟨rfl, trivial, by decide, rfl, trivial⟩ rfl trivial (.ren rfl rfl (.ren rfl rfl .nil)) rfl trivial rfl) rfl rfl ?_
     refine WPD.takeT 6 rfl (by kernel_rfl) (q_sub rfl rfl) rfl ?_
     obtain ⟨x2628, h2628, H⟩ := bnd H
     refine WPD.takeT 8 rfl (by kernel_rfl) (q_nm (q_sub rfl rfl) (nm_int h2628)) rfl ?_
     refine WPD.takeT 9 rfl (by kernel_rfl) (q_as (v := .lit (.int _ _)) rfl) rfl ?_
     refine WPD.doneW (by kernel_rfl) ?_
     refine W.now ?_
     refine Then.n ?_
     refine WP.seq ?_
     refine WP.region ?_
     refine WPL.q (q_as (v := .lit (.int _ _)) rfl) rfl ?_
     refine WPL.nilW ?_
     refine W.now ?_
     refine Then.n ?_
     refine WP.seq ?_
     obtain ⟨⟨x2630, x2631⟩, H2632, H⟩ := bnd H
     refine WP.monoW (Q := fun x E M => x = .normal ∧ E = ((((((Env.none.upd 2 (.ptr 0 0)).upd 3 (.ptr 1 0)).upd 5 (.whole 2)).upd 6 (.lit (.int .i64 x2630))).upd 7 (.lit (.int .i64 x2560))).upd 8 (.lit (.int .i64 x2631))) ∧ M = (((Mem.nil.push (.cells 51 [.lit (.bool x2368), .ro (Rd.slice (Rd.int .i64)) false x2369])).push (.cells 51 [.lit (.bool x2370), .ro (Rd.slice (Rd.int .i64)) false x2371])).push (.row 3 (Rd.int .i64) x2561))) ?_ ?_
     · clear H
       have H := H2632
       clear H2632
       refine WP.seq ?_
       refine WP.region ?_
       refine WPL.q (q_mv (v := .lit (.int _ _)) rfl) rfl ?_
       refine WPL.q (q_lss rfl rfl) rfl ?_
       refine WPL.nilW ?_
       refine W.now ?_
       refine Then.n ?_
       refine WP.cond (t := (decide (x2628 < 0))) rfl (fun hb2631 => ?_) (fun hb2631 => ?_)
       · replace H := cnt hb2631 H
         refine WP.seq ?_
         refine WP.region ?_
         refine WPL.q (q_mv (v := .lit (.int _ _)) rfl) rfl ?_
         refine WPL.q (q_add rfl rfl) rfl ?_
         refine WPL.q (q_as (v := .lit (.int _ _)) rfl) rfl ?_
         refine WPL.nilW ?_
         refine W.now ?_
         refine Then.n ?_
         refine WP.region ?_
         refine WPL.q (q_as (v := .lit (.int _ _)) rfl) rfl ?_
         refine WPL.nilW ?_
         have q0 := (Prod.mk.inj (Option.some.inj H)).1
         have q1 := (Prod.mk.inj (Option.some.inj H)).2
         subst q0
         subst q1
         exact W.wk [0, 1, 2] hnp ⟨rfl, rfl, rfl⟩ ⟨rfl, ⟨⟨⟨trivial, .inr ⟨rfl, rfl, rfl⟩⟩, .inr ⟨rfl, rfl, rfl⟩⟩, .inr ⟨rfl, rfl, rfl⟩⟩, by decide, rfl, trivial⟩ (LeE.upd rfl rfl (LeE.upd rfl rfl (LeE.upd rfl rfl (LeE.upd rfl rfl (LeE.upd rfl rfl (LeE.upd rfl rfl (LeE.none rfl rfl))))))) rfl
       replace H := cnf hb2631 H
       refine WP.skipW ?_
       have q0 := (Prod.mk.inj (Option.some.inj H)).1
       have q1 := (Prod.mk.inj (Option.some.inj H)).2
       subst q0
       subst q1
       exact W.wk [0, 1, 2] hnp ⟨rfl, rfl, rfl⟩ ⟨rfl, ⟨⟨⟨trivial, .inr ⟨rfl, rfl, rfl⟩⟩, .inr ⟨rfl, rfl, rfl⟩⟩, .inr ⟨rfl, rfl, rfl⟩⟩, by decide, rfl, trivial⟩ (LeE.upd rfl rfl (LeE.upd rfl rfl (LeE.upd rfl rfl (LeE.upd rfl rfl (LeE.upd rfl rfl (LeE.upd rfl rfl (LeE.none rfl rfl))))))) rfl
     rintro _ _ _ ⟨rfl, rfl, rfl⟩
     refine W.now ?_
     refine Then.n ?_
     refine WP.region ?_
     refine WPL.q (q_mv (v := .whole _) rfl) rfl ?_
     refine WPL.q (q_mv (v := .lit (.int _ _)) rfl) rfl ?_
     refine WPL.d (d_buildSlice (ds := ([x2631] : List Int)) (R := (Rd.int .i64)) li49 rfl rfl rfl rfl rfl (JoinRows.cons1 Joins.sc rfl JoinRows.nil) rfl rfl) rfl ?_
     obtain ⟨h2633, H⟩ := grd H
     refine WPL.d (d_append ap49 rfl rfl rfl rfl (src_row sl49 rfl rfl) h2633 rfl) rfl ?_
     refine WPL.q (q_as (v := .whole _) rfl) rfl ?_
     refine WPL.nilW ?_
     refine W.now ?_
     refine InBlock.n ?_
     refine Then.n ?_
     refine WP.region ?_
     refine WPL.q (q_mv (v := .lit (.int _ _)) rfl) rfl ?_
     refine WPL.q (q_add rfl rfl) rfl ?_
     refine WPL.q (q_as (v := .lit (.int _ _)) rfl) rfl ?_
     refine WPL.nilW ?_
     exact W.wk [0, 1, 4] hnp (Then.n ⟨n, (x2630, (IntKind.wrap .i64 (x2560 + 1)), (x2561 ++ ([x2631] : List Int))), Nat.lt_succ_self n, H, rfl, rfl⟩) ⟨rfl, ⟨⟨⟨trivial, .inr ⟨rfl, rfl, rfl⟩⟩, .inr ⟨rfl, rfl, rfl⟩⟩, .inr ⟨rfl, rfl, rfl⟩⟩, by decide, rfl, trivial⟩ (LeE.upd rfl rfl (LeE.upd rfl rfl (LeE.upd rfl rfl (LeE.upd rfl rfl (LeE.upd rfl rfl (LeE.none rfl rfl)))))) rfl
   replace H := cnf hb2601 H
   refine WP.exitW ?_
   have q0 := (Option.some.inj H)
   subst q0
   exact W.wk [2] hnp (Then.x (Then.x ⟨rfl, rfl, rfl⟩)) ⟨rfl, ⟨trivial, .inr ⟨rfl, rfl, rfl⟩⟩, by decide, rfl, trivial⟩ (LeE.upd rfl rfl (LeE.none rfl rfl)) rfl
 rintro _ _ _ ⟨rfl, rfl, rfl⟩
 refine W.now ?_
 refine InBlock.x0 ?_
 refine Then.n ?_
 refine WP.seq ?_
 refine WP.region ?_
 refine WPL.q (q_mv (v := .whole _) rfl) rfl ?_
 refine WPL.q (q_as (v := .whole _) rfl) rfl ?_
 refine WPL.nilW ?_
 refine W.now ?_
 refine Then.n ?_
 refine WP.retW ?_
 refine W.cv (Cv.frzRow (i := 0) rfl rfl hnp rfl rfl) rfl ?_
 have q0 := (Option.some.inj H)
 subst q0
 exact W.now (BodyR.mkR trivial rfl [] ⟨rfl, rfl⟩ ⟨rfl, trivial, by decide, rfl, trivial⟩ rfl rfl)
end Go.Proofs.Ytdbeblgfccjbgaa.W
namespace Go.Proofs.Ytdbeblgfccjbgaa.W
open Go Go.Q Go.Proofs
set_option linter.unusedVariables false
set_option linter.unusedSimpArgs false
set_option maxRecDepth 100000 in
set_option maxHeartbeats 4000000 in
theorem s_quireref09_Plus (k : Nat) (x1675 : Bool) (x1676 : (List Int)) (x1677 : Bool) (x1678 : (List Int)) (x2669 : Bool) (x2670 : (List Int)) (H : g_quireref09_Plus k x1675 x1676 x1677 x1678 = some (x2669, x2670)) : Go.Q.Spec Try.prog 40 0 [.agg [.lit (.bool x1675), .ro (Rd.slice (Rd.int .i64)) false x1676], .agg [.lit (.bool x1677), .ro (Rd.slice (Rd.int .i64)) false x1678]] Mem.nil (fun o M => o = .ret (.agg [.lit (.bool x2669), .ro (Rd.slice (Rd.int .i64)) false x2670]) ∧ M = (Mem.nil.push (.cells 51 [.lit (.bool x2669), .ro (Rd.slice (Rd.int .i64)) false x2670]))) := by
 unfold g_quireref09_Plus at H
 refine Go.Q.Spec.of_bodyR (az := [(51, 2)]) (rs := [.cell 4 51]) (nt := 35) Try.func40 rfl rfl (by intro t T h; simp at h; rcases h with ⟨rfl, rfl⟩ <;> first | exact ag51) rfl rfl fun cx hnp => ?_
 refine WP.seq ?_
 refine WP.region ?_
 refine WPL.d (d_box rfl rfl) rfl ?_
 refine WPL.d (d_box rfl rfl) rfl ?_
 refine WPL.d (d_alloc ze51 rfl) rfl ?_
 refine WPL.nilW ?_
 refine W.now ?_
 refine Then.n ?_
 refine WP.seq ?_
 refine WP.seq ?_
 refine WP.region ?_
 refine WPL.q (q_fieldAddr fi51_0 rfl rfl) rfl ?_
 refine WPL.q (q_load sc4 rfl rfl rfl) rfl ?_
 refine WPL.q (q_fieldAddr fi51_0 rfl rfl) rfl ?_
 refine WPL.q (q_load sc4 rfl rfl rfl) rfl ?_
 refine WPL.q (q_eqlb Try.underlying4 rfl rfl) rfl ?_
 refine WPL.nilW ?_
 refine W.now ?_
 refine Then.n ?_
 refine WP.cond (t := (x1675 == x1677)) rfl (fun hb2681 => ?_) (fun hb2681 => ?_)
 · replace H := cnt hb2681 H
   refine WP.seq ?_
   refine WP.regionD' 8 [0, 1] [] mixed rfl ?_
   refine WPD.takeT 0 rfl (by kernel_rfl) (q_fieldAddr fi51_0 rfl rfl) rfl ?_
   refine WPD.take 1 rfl (by kernel_rfl) (q_load sc4 rfl rfl rfl) rfl rfl ?_
   refine WPD.take 2 rfl (by kernel_rfl) (q_load_ag ag51 rfl rfl (Nat.le_of_ble_eq_true rfl)) rfl rfl ?_
   refine WPD.take 3 rfl (by kernel_rfl) (q_load_ag ag51 rfl rfl (Nat.le_of_ble_eq_true rfl)) rfl rfl ?_
   obtain ⟨x2689, h2687, H⟩ := bnd H
   refine WPD.eff 4 [0, 1] [] rfl (by kernel_rfl) (runs_call (s := []) (t := []) (N := 3) (bor := []) fn65 rfl (s_quireref09_sum k x1675 x1676 x1677 x1678 x2689 h2687) ⟨rfl, trivial, by decide, rfl, trivial⟩ rfl trivial (.ren rfl rfl (.ren rfl rfl .nil)) rfl trivial rfl) rfl rfl ?_
   refine WPD.takeT 5 rfl (by kernel_rfl) (q_build bu51 rfl) rfl ?_
   obtain ⟨⟨x2691, x2692⟩, h2689, H⟩ := bnd H
   refine WPD.eff 6 [0, 1] [] rfl (by kernel_rfl) (runs_call (s := []) (t := [3]) (N := 4) (bor := []) fn36 rfl (s_quireref09_trim__b k x1675 x2689 x2691 x2692 h2689) ⟨rfl, trivial, by decide, rfl, trivial⟩ rfl trivial (.ren rfl rfl .nil) rfl ⟨trivial, rfl⟩ rfl) rfl rfl ?_
   refine WPD.effS 7 [0, 1] [] rfl (by kernel_rfl) (s_store sz51 rfl rfl rfl rfl rfl) rfl ?_
   refine WPD.doneW (by kernel_rfl) ?_
   refine W.now ?_
   refine Then.n ?_
   refine WP.retW ?_
   have q0 := (Prod.mk.inj (Option.some.inj H)).1
   have q1 := (Prod.mk.inj (Option.some.inj H)).2
   subst q0
   subst q1
   exact W.now (Then.r (BodyR.mkR trivial rfl [2] ⟨rfl, rfl⟩ ⟨rfl, ⟨trivial, .inr ⟨rfl, rfl, rfl⟩⟩, by decide, rfl, trivial⟩ rfl rfl))
 replace H := cnf hb2681 H
 refine WP.skipW ?_
 refine W.now ?_
 refine Then.n ?_
 refine WP.seq ?_
 refine WP.seq ?_
 refine WP.region ?_
 refine WPL.q (q_load_ag ag51 rfl rfl (Nat.le_of_ble_eq_true rfl)) rfl ?_
 refine WPL.q (q_load_ag ag51 rfl rfl (Nat.le_of_ble_eq_true rfl)) rfl ?_
 obtain ⟨x2707, h2705, H⟩ := bnd H
 refine WPL.c (runs_call (s := []) (t := []) (N := 3) (bor := []) fn61 rfl (s_quireref09_more k x1675 x1676 x1677 x1678 x2707 h2705) ⟨rfl, trivial, by decide, rfl, trivial⟩ rfl trivial (.ren rfl rfl (.ren rfl rfl .nil)) rfl trivial rfl) rfl ?_
 refine WPL.q (q_geq rfl rfl) rfl ?_
 refine WPL.nilW ?_
 refine W.now ?_
 refine Then.n ?_
 refine WP.cond (t := (decide (0 ≤ x2707))) rfl (fun hb2707 => ?_) (fun hb2707 => ?_)
 · replace H := cnt hb2707 H
   refine WP.seq ?_
   refine WP.regionD' 8 [0, 1] [] mixed rfl ?_
   refine WPD.takeT 0 rfl (by kernel_rfl) (q_fieldAddr fi51_0 rfl rfl) rfl ?_
   refine WPD.take 1 rfl (by kernel_rfl) (q_load sc4 rfl rfl rfl) rfl rfl ?_
   refine WPD.take 2 rfl (by kernel_rfl) (q_load_ag ag51 rfl rfl (Nat.le_of_ble_eq_true rfl)) rfl rfl ?_
   refine WPD.take 3 rfl (by kernel_rfl) (q_load_ag ag51 rfl rfl (Nat.le_of_ble_eq_true rfl)) rfl rfl ?_
   obtain ⟨x2715, h2713, H⟩ := bnd H
   refine WPD.eff 4 [0, 1] [] rfl (by kernel_rfl) (runs_call (s := []) (t := []) (N := 3) (bor := []) fn62 rfl (s_quireref09_less k x1675 x1676 x1677 x1678 x2715 h2713) ⟨rfl, trivial, by decide, rfl, trivial⟩ rfl trivial (.ren rfl rfl (.ren rfl rfl .nil)) rfl trivial rfl) rfl rfl ?_
   refine WPD.takeT 5 rfl (by kernel_rfl) (q_build bu51 rfl) rfl ?_
   obtain ⟨⟨x2717, x2718⟩, h2715, H⟩ := bnd H
   refine WPD.eff 6 [0, 1] [] rfl (by kernel_rfl) (runs_call (s := []) (t := [3]) (N := 4) (bor := []) fn36 rfl (s_quireref09_trim__b k x1675 x2715 x2717 x2718 h2715) ⟨rfl, trivial, by decide, rfl, trivial⟩ rfl trivial (.ren rfl rfl .nil) rfl ⟨trivial, rfl⟩ rfl) rfl rfl ?_
   refine WPD.effS 7 [0, 1] [] rfl (by kernel_rfl) (s_store sz51 rfl rfl rfl rfl rfl) rfl ?_
   refine WPD.doneW (by kernel_rfl) ?_
   refine W.now ?_
   refine Then.n ?_
   refine WP.retW ?_
   have q0 := (Prod.mk.inj (Option.some.inj H)).1
   have q1 := (Prod.mk.inj (Option.some.inj H)).2
   subst q0
   subst q1
   exact W.now (Then.r (BodyR.mkR trivial rfl [2] ⟨rfl, rfl⟩ ⟨rfl, ⟨trivial, .inr ⟨rfl, rfl, rfl⟩⟩, by decide, rfl, trivial⟩ rfl rfl))
 replace H := cnf hb2707 H
 refine WP.skipW ?_
 refine W.now ?_
 refine Then.n ?_
 refine WP.seq ?_
 refine WP.regionD' 8 [0, 1] [] mixed rfl ?_
 refine WPD.takeT 0 rfl (by kernel_rfl) (q_fieldAddr fi51_0 rfl rfl) rfl ?_
 refine WPD.take 1 rfl (by kernel_rfl) (q_load sc4 rfl rfl rfl) rfl rfl ?_
 refine WPD.take 2 rfl (by kernel_rfl) (q_load_ag ag51 rfl rfl (Nat.le_of_ble_eq_true rfl)) rfl rfl ?_
 refine WPD.take 3 rfl (by kernel_rfl) (q_load_ag ag51 rfl rfl (Nat.le_of_ble_eq_true rfl)) rfl rfl ?_
 obtain ⟨x2725, h2723, H⟩ := bnd H
 refine WPD.eff 4 [0, 1] [] rfl (by kernel_rfl) (runs_call (s := []) (t := []) (N := 3) (bor := []) fn62 rfl (s_quireref09_less k x1677 x1678 x1675 x1676 x2725 h2723) ⟨rfl, trivial, by decide, rfl, trivial⟩ rfl trivial (.ren rfl rfl (.ren rfl rfl .nil)) rfl trivial rfl) rfl rfl ?_
 refine WPD.takeT 5 rfl (by kernel_rfl) (q_build bu51 rfl) rfl ?_
 obtain ⟨⟨x2727, x2728⟩, h2725, H⟩ := bnd H
 refine WPD.eff 6 [0, 1] [] rfl (by kernel_rfl) (runs_call (s := []) (t := [3]) (N := 4) (bor := []) fn36 rfl (s_quireref09_trim__b k x1677 x2725 x2727 x2728 h2725) ⟨rfl, trivial, by decide, rfl, trivial⟩ rfl trivial (.ren rfl rfl .nil) rfl ⟨trivial, rfl⟩ rfl) rfl rfl ?_
 refine WPD.effS 7 [0, 1] [] rfl (by kernel_rfl) (s_store sz51 rfl rfl rfl rfl rfl) rfl ?_
 refine WPD.doneW (by kernel_rfl) ?_
 refine W.now ?_
 refine Then.n ?_
 refine WP.retW ?_
 have q0 := (Prod.mk.inj (Option.some.inj H)).1
 have q1 := (Prod.mk.inj (Option.some.inj H)).2
 subst q0
 subst q1
 exact W.now (BodyR.mkR trivial rfl [2] ⟨rfl, rfl⟩ ⟨rfl, ⟨trivial, .inr ⟨rfl, rfl, rfl⟩⟩, by decide, rfl, trivial⟩ rfl rfl)
set_option maxRecDepth 100000 in
set_option maxHeartbeats 4000000 in
theorem s_quireref09_Quo (k : Nat) (x1635 : Bool) (x1636 : (List Int)) (x1637 : Bool) (x1638 : (List Int)) (x2921 : Bool) (x2922 : (List Int)) (x2923 : Bool) (x2924 : (List Int)) (H : g_quireref09_Quo k x1635 x1636 x1637 x1638 = some (x2921, x2922, x2923, x2924)) : Go.Q.Spec Try.prog 33 0 [.agg [.lit (.bool x1635), .ro (Rd.slice (Rd.int .i64)) false x1636], .agg [.lit (.bool x1637), .ro (Rd.slice (Rd.int .i64)) false x1638]] Mem.nil (fun o M => o = .ret (.tup [.agg [.lit (.bool x2921), .ro (Rd.slice (Rd.int .i64)) false x2922], .agg [.lit (.bool x2923), .ro (Rd.slice (Rd.int .i64)) false x2924]]) ∧ M = ((Mem.nil.push (.cells 51 [.lit (.bool x2921), .ro (Rd.slice (Rd.int .i64)) false x2922])).push (.cells 51 [.lit (.bool x2923), .ro (Rd.slice (Rd.int .i64)) false x2924]))) := by
 unfold g_quireref09_Quo at H
 refine Go.Q.Spec.of_bodyR (az := [(51, 2)]) (rs := [.cell 4 51, .cell 5 51]) (nt := 56) Try.func33 rfl rfl (by intro t T h; simp at h; rcases h with ⟨rfl, rfl⟩ | ⟨rfl, rfl⟩ <;> first | exact ag51 | exact ag51) rfl rfl fun cx hnp => ?_
 refine WP.seq ?_
 refine WP.region ?_
 refine WPL.d (d_box rfl rfl) rfl ?_
 refine WPL.d (d_box rfl rfl) rfl ?_
 refine WPL.d (d_alloc ze51 rfl) rfl ?_
 refine WPL.d (d_alloc ze51 rfl) rfl ?_
 refine WPL.nilW ?_
 refine W.now ?_
 refine Then.n ?_
 refine WP.seq ?_
 refine WP.region ?_
 refine WPL.q (q_fieldAddr fi51_1 rfl rfl) rfl ?_
 refine WPL.q (q_load sc49 rfl rfl rfl) rfl ?_
 refine WPL.q (q_build bu51 rfl) rfl ?_
 refine WPL.s (s_store sz51 rfl rfl rfl rfl rfl) ?_
 refine WPL.nilW ?_
 refine W.now ?_
 refine Then.n ?_
 refine WP.seq ?_
 refine WP.region ?_
 refine WPL.q (q_fieldAddr fi51_1 rfl rfl) rfl ?_
 refine WPL.q (q_load sc49 rfl rfl rfl) rfl ?_
 refine WPL.q (q_build bu51 rfl) rfl ?_
 refine WPL.s (s_store sz51 rfl rfl rfl rfl rfl) ?_
 refine WPL.nilW ?_
 refine W.now ?_
 refine Then.n ?_
 refine WP.seq ?_
 refine WP.region ?_
 refine WPL.q (q_fieldAddr fi51_1 rfl rfl) rfl ?_
 refine WPL.q (q_load sc49 rfl rfl rfl) rfl ?_
 refine WPL.q (q_len_ro sl49 rfl) rfl ?_
 obtain ⟨h2924, H⟩ := grd H
 refine WPL.d (d_make (d := (0 : Int)) (R := (Rd.int .i64)) li49 by3 rfl rfl rfl Joins.sc rfl rfl h2924 rfl) rfl ?_
 refine WPL.q (q_as (v := .whole _) rfl) rfl ?_
 refine WPL.nilW ?_
 refine W.now ?_
 refine Then.n ?_
 refine WP.seq ?_
 refine WP.region ?_
 refine WPL.q (q_build bu51 rfl) rfl ?_
 refine WPL.d (d_alloc ze51 rfl) rfl ?_
 refine WPL.s (s_store sz51 rfl rfl rfl rfl rfl) ?_
 refine WPL.nilW ?_
 refine W.now ?_
 refine Then.n ?_
 refine WP.seq ?_
 refine WP.seq ?_
 refine WP.region ?_
 refine WPL.q (q_fieldAddr fi51_1 rfl rfl) rfl ?_
 refine WPL.q (q_load sc49 rfl rfl rfl) rfl ?_
 refine WPL.q (q_len_ro sl49 rfl) rfl ?_
 obtain ⟨x2926, h2926, H⟩ := bnd H
 refine WPL.q (q_nm (q_sub rfl rfl) (nm_int h2926)) rfl ?_
 refine WPL.q (q_as (v := .lit (.int _ _)) rfl) rfl ?_
 refine WPL.nilW ?_
 refine W.now ?_
 refine Then.n ?_
 refine WP.block ?_
 refine WP.cv (Cv.nilRoC (Rd.int .i64) false (i := 5) (off := 1) rfl rfl rfl) ?_
 refine WP.cv (Cv.weak (E' := (((((((Env.none.upd 2 (.ptr 0 0)).upd 3 (.ptr 1 0)).upd 4 (.ptr 2 0)).upd 5 (.ptr 3 0)).upd 6 (.whole 4)).upd 7 (.ptr 5 0)).upd 8 (.lit (.int .i64 x2926)))) (M' := ((((((Mem.nil.push (.cells 51 [.lit (.bool false), .ro (Rd.slice (Rd.int .i64)) false x1636])).push (.cells 51 [.lit (.bool false), .ro (Rd.slice (Rd.int .i64)) false x1638])).push (.cells 51 [.lit (.bool false), .lit (.slice none 0 0)])).push (.cells 51 [.lit (.bool false), .lit (.slice none 0 0)])).push (.row 3 (Rd.int .i64) (List.replicate (Int.toNat ((List.length x1636 : Nat) : Int)) (0 : Int)))).push (.cells 51 [.lit (.bool false), .ro (Rd.slice (Rd.int .i64)) false ([] : List Int)]))) [0, 1, 2, 3, 4, 5] hnp ⟨rfl, ⟨⟨⟨⟨⟨⟨trivial, .inr ⟨rfl, rfl, rfl⟩⟩, .inr ⟨rfl, rfl, rfl⟩⟩, .inr ⟨rfl, rfl, rfl⟩⟩, .inr ⟨rfl, rfl, rfl⟩⟩, .inr ⟨rfl, rfl, rfl⟩⟩, .inr ⟨rfl, rfl, rfl⟩⟩, by decide, rfl, trivial⟩ (LeE.upd rfl rfl (LeE.upd rfl rfl (LeE.upd rfl rfl (LeE.upd rfl rfl (LeE.upd rfl rfl (LeE.upd rfl rfl (LeE.upd rfl rfl (LeE.none rfl rfl))))))))) ?_
 obtain ⟨⟨x3117, x3118, x3119⟩, H3194, H⟩ := bnd H
 refine WP.monoW (Q := fun x E M => x = .exit 0 ∧ E = ((((Env.none.upd 4 (.ptr 0 0)).upd 5 (.ptr 1 0)).upd 6 (.whole 2)).upd 7 (.ptr 3 0)) ∧ M = ((((Mem.nil.push (.cells 51 [.lit (.bool false), .lit (.slice none 0 0)])).push (.cells 51 [.lit (.bool false), .lit (.slice none 0 0)])).push (.row 3 (Rd.int .i64) x3117)).push (.cells 51 [.lit (.bool x3118), .ro (Rd.slice (Rd.int .i64)) false x3119]))) ?_ ?_
 · refine WP.loop (β := Int × (List Int) × Bool × (List Int)) (fun n b => g_quireref09_Quo_l0 k x1636 x1638 n b.1 b.2.1 b.2.2.1 b.2.2.2 = some (x3117, x3118, x3119)) (fun b => (((((((Env.none.upd 2 (.ptr 0 0)).upd 3 (.ptr 1 0)).upd 4 (.ptr 2 0)).upd 5 (.ptr 3 0)).upd 6 (.whole 4)).upd 7 (.ptr 5 0)).upd 8 (.lit (.int .i64 b.1)))) (fun b => ((((((Mem.nil.push (.cells 51 [.lit (.bool false), .ro (Rd.slice (Rd.int .i64)) false x1636])).push (.cells 51 [.lit (.bool false), .ro (Rd.slice (Rd.int .i64)) false x1638])).push (.cells 51 [.lit (.bool false), .lit (.slice none 0 0)])).push (.cells 51 [.lit (.bool false), .lit (.slice none 0 0)])).push (.row 3 (Rd.int .i64) b.2.1)).push (.cells 51 [.lit (.bool b.2.2.1), .ro (Rd.slice (Rd.int .i64)) false b.2.2.2]))) k (x2926, (List.replicate (Int.toNat ((List.length x1636 : Nat) : Int)) (0 : Int)), false, ([] : List Int)) H3194 rfl rfl ?_
   rintro n ⟨x3051, x3052, x3053, x3054⟩ H
   obtain _ | n := n
   · exact nf rfl H
   rw [g_quireref09_Quo_l0.eq_2] at H
   show WP _ _ _ _ (((((((Env.none.upd 2 (.ptr 0 0)).upd 3 (.ptr 1 0)).upd 4 (.ptr 2 0)).upd 5 (.ptr 3 0)).upd 6 (.whole 4)).upd 7 (.ptr 5 0)).upd 8 (.lit (.int .i64 x3051))) ((((((Mem.nil.push (.cells 51 [.lit (.bool false), .ro (Rd.slice (Rd.int .i64)) false x1636])).push (.cells 51 [.lit (.bool false), .ro (Rd.slice (Rd.int .i64)) false x1638])).push (.cells 51 [.lit (.bool false), .lit (.slice none 0 0)])).push (.cells 51 [.lit (.bool false), .lit (.slice none 0 0)])).push (.row 3 (Rd.int .i64) x3052)).push (.cells 51 [.lit (.bool x3053), .ro (Rd.slice (Rd.int .i64)) false x3054])) _
   refine WP.seq ?_
   refine WP.seq ?_
   refine WP.region ?_
   refine WPL.q (q_mv (v := .lit (.int _ _)) rfl) rfl ?_
   refine WPL.q (q_geq rfl rfl) rfl ?_
   refine WPL.nilW ?_
   refine W.now ?_
   refine Then.n ?_
   refine WP.cond (t := (decide (0 ≤ x3051))) rfl (fun hb3120 => ?_) (fun hb3120 => ?_)
   · replace H := cnt hb3120 H
     refine WP.skipW ?_
     refine W.now ?_
     refine Then.n ?_
     refine WP.seq ?_
     refine WP.block ?_
     refine WP.seq ?_
     refine WP.regionD' 10 [0, 5] [9] mixed rfl ?_
     refine WPD.takeT 2 rfl (by kernel_rfl) (q_fieldAddr fi51_1 rfl rfl) rfl ?_
     refine WPD.takeT 4 rfl (by kernel_rfl) (q_mv (v := .lit (.int _ _)) rfl) rfl ?_
     refine WPD.take 0 rfl (by kernel_rfl) (q_load_ag ag51 rfl rfl (Nat.le_of_ble_eq_true rfl)) rfl rfl ?_
     refine WPD.take 3 rfl (by kernel_rfl) (q_load sc49 rfl rfl rfl) rfl rfl ?_
     obtain ⟨x3140, h3140, H⟩ := bnd H
     refine WPD.takeT 5 rfl (by kernel_rfl) (q_index_ro sl49 rfl rfl rfl h3140) rfl ?_
     refine WPD.takeT 6 rfl (by kernel_rfl) (q_load_sc sc3 rfl) rfl ?_
     obtain ⟨⟨x3142, x3143⟩, h3140, H⟩ := bnd H
     refine WPD.eff 1 [0, 5] [9] rfl (by kernel_rfl) (runs_call (s := []) (t := [6]) (N := 7) (bor := []) fn34 rfl (s_quireref09_Shift k x3053 x3054 1 x3142 x3143 h3140) ⟨rfl, trivial, by decide, rfl, trivial⟩ rfl trivial (.ren rfl rfl (.ren rfl rfl .nil)) rfl ⟨trivial, rfl⟩ rfl) rfl rfl ?_
     obtain ⟨x3145, h3143, H⟩ := bnd H
     refine WPD.eff 7 [0, 5] [9] rfl (by kernel_rfl) (runs_call (s := []) (t := [7]) (N := 8) (bor := []) fn43 rfl (s_quireref09_Of k x3140 x3145 h3143) ⟨rfl, trivial, by decide, rfl, trivial⟩ rfl trivial (.ren rfl rfl .nil) rfl ⟨trivial, rfl⟩ rfl) rfl rfl ?_
     obtain ⟨⟨x3147, x3148⟩, h3145, H⟩ := bnd H
     refine WPD.eff 8 [0, 5] [9] rfl (by kernel_rfl) (runs_call (s := []) (t := [8]) (N := 9) (bor := []) fn40 rfl (s_quireref09_Plus k x3142 x3143 (decide (x3140 < 0)) x3145 x3147 x3148 h3145) ⟨rfl, trivial, by decide, rfl, trivial⟩ rfl trivial (.ren rfl rfl (.ren rfl rfl .nil)) rfl ⟨trivial, rfl⟩ rfl) rfl rfl ?_
     refine WPD.effS 9 [] [] rfl (by kernel_rfl) (s_store sz51 rfl rfl rfl rfl rfl) rfl ?_
     refine WPD.doneW (by kernel_rfl) ?_
     refine W.now ?_
     refine Then.n ?_
     refine WP.block ?_
     refine WP.cv (Cv.weak (E' := (((((((Env.none.upd 2 (.ptr 0 0)).upd 3 (.ptr 1 0)).upd 4 (.ptr 2 0)).upd 5 (.ptr 3 0)).upd 6 (.whole 4)).upd 7 (.ptr 5 0)).upd 8 (.lit (.int .i64 x3051)))) (M' := ((((((Mem.nil.push (.cells 51 [.lit (.bool false), .ro (Rd.slice (Rd.int .i64)) false x1636])).push (.cells 51 [.lit (.bool false), .ro (Rd.slice (Rd.int .i64)) false x1638])).push (.cells 51 [.lit (.bool false), .lit (.slice none 0 0)])).push (.cells 51 [.lit (.bool false), .lit (.slice none 0 0)])).push (.row 3 (Rd.int .i64) x3052)).push (.cells 51 [.lit (.bool x3147), .ro (Rd.slice (Rd.int .i64)) false x3148]))) [0, 1, 2, 3, 4, 5] hnp ⟨rfl, ⟨⟨⟨⟨⟨⟨trivial, .inr ⟨rfl, rfl, rfl⟩⟩, .inr ⟨rfl, rfl, rfl⟩⟩, .inr ⟨rfl, rfl, rfl⟩⟩, .inr ⟨rfl, rfl, rfl⟩⟩, .inr ⟨rfl, rfl, rfl⟩⟩, .inr ⟨rfl, rfl, rfl⟩⟩, by decide, rfl, trivial⟩ (LeE.upd rfl rfl (LeE.upd rfl rfl (LeE.upd rfl rfl (LeE.upd rfl rfl (LeE.upd rfl rfl (LeE.upd rfl rfl (LeE.upd rfl rfl (LeE.none rfl rfl))))))))) ?_
     obtain ⟨⟨x3178, x3179, x3180⟩, H3193, H⟩ := bnd H
     refine WP.monoW (Q := fun x E M => x = .exit 2 ∧ E = (((((((Env.none.upd 2 (.ptr 0 0)).upd 3 (.ptr 1 0)).upd 4 (.ptr 2 0)).upd 5 (.ptr 3 0)).upd 6 (.whole 4)).upd 7 (.ptr 5 0)).upd 8 (.lit (.int .i64 x3051))) ∧ M = ((((((Mem.nil.push (.cells 51 [.lit (.bool false), .ro (Rd.slice (Rd.int .i64)) false x1636])).push (.cells 51 [.lit (.bool false), .ro (Rd.slice (Rd.int .i64)) false x1638])).push (.cells 51 [.lit (.bool false), .lit (.slice none 0 0)])).push (.cells 51 [.lit (.bool false), .lit (.slice none 0 0)])).push (.row 3 (Rd.int .i64) x3178)).push (.cells 51 [.lit (.bool x3179), .ro (Rd.slice (Rd.int .i64)) false x3180]))) ?_ ?_
     · refine WP.loop (β := (List Int) × Bool × (List Int)) (fun n b => g_quireref09_Quo_l1 k x1638 x3051 n b.1 b.2.1 b.2.2 = some (x3178, x3179, x3180)) (fun b => (((((((Env.none.upd 2 (.ptr 0 0)).upd 3 (.ptr 1 0)).upd 4 (.ptr 2 0)).upd 5 (.ptr 3 0)).upd 6 (.whole 4)).upd 7 (.ptr 5 0)).upd 8 (.lit (.int .i64 x3051)))) (fun b => ((((((Mem.nil.push (.cells 51 [.lit (.bool false), .ro (Rd.slice (Rd.int .i64)) false x1636])).push (.cells 51 [.lit (.bool false), .ro (Rd.slice (Rd.int .i64)) false x1638])).push (.cells 51 [.lit (.bool false), .lit (.slice none 0 0)])).push (.cells 51 [.lit (.bool false), .lit (.slice none 0 0)])).push (.row 3 (Rd.int .i64) b.1)).push (.cells 51 [.lit (.bool b.2.1), .ro (Rd.slice (Rd.int .i64)) false b.2.2]))) k (x3052, x3147, x3148) H3193 rfl rfl ?_
       rintro n ⟨x3162, x3163, x3164⟩ H
       obtain _ | n := n
       · exact nf rfl H
       rw [g_quireref09_Quo_l1.eq_2] at H
       show WP _ _ _ _ (((((((Env.none.upd 2 (.ptr 0 0)).upd 3 (.ptr 1 0)).upd 4 (.ptr 2 0)).upd 5 (.ptr 3 0)).upd 6 (.whole 4)).upd 7 (.ptr 5 0)).upd 8 (.lit (.int .i64 x3051))) ((((((Mem.nil.push (.cells 51 [.lit (.bool false), .ro (Rd.slice (Rd.int .i64)) false x1636])).push (.cells 51 [.lit (.bool false), .ro (Rd.slice (Rd.int .i64)) false x1638])).push (.cells 51 [.lit (.bool false), .lit (.slice none 0 0)])).push (.cells 51 [.lit (.bool false), .lit (.slice none 0 0)])).push (.row 3 (Rd.int .i64) x3162)).push (.cells 51 [.lit (.bool x3163), .ro (Rd.slice (Rd.int .i64)) false x3164])) _
       refine WP.seq ?_
       refine WP.seq ?_
       refine WP.region ?_
       refine WPL.q (q_load_ag ag51 rfl rfl (Nat.le_of_ble_eq_true rfl)) rfl ?_
       refine WPL.q (q_load_ag ag51 rfl rfl (Nat.le_of_ble_eq_true rfl)) rfl ?_
       obtain ⟨x3185, h3183, H⟩ := bnd H
       refine WPL.c (runs_call (s := []) (t := []) (N := 6) (bor := []) fn61 rfl (s_quireref09_more k x3163 x3164 false x1638 x3185 h3183) ⟨rfl, trivial, by decide, rfl, trivial⟩ rfl trivial (.ren rfl rfl (.ren rfl rfl .nil)) rfl trivial rfl) rfl ?_
       refine WPL.q (q_geq rfl rfl) rfl ?_
       refine WPL.nilW ?_
       refine W.now ?_
       refine Then.n ?_
       refine WP.cond (t := (decide (0 ≤ x3185))) rfl (fun hb3185 => ?_) (fun hb3185 => ?_)
       · replace H := cnt hb3185 H
         refine WP.skipW ?_
         refine W.now ?_
         refine Then.n ?_
         refine WP.block ?_
         refine WP.seq ?_
         refine WP.region ?_
         refine WPL.q (q_load_ag ag51 rfl rfl (Nat.le_of_ble_eq_true rfl)) rfl ?_
         refine WPL.q (q_load_ag ag51 rfl rfl (Nat.le_of_ble_eq_true rfl)) rfl ?_
         obtain ⟨x3188, h3186, H⟩ := bnd H
         refine WPL.c (runs_call (s := []) (t := []) (N := 6) (bor := []) fn62 rfl (s_quireref09_less k x3163 x3164 false x1638 x3188 h3186) ⟨rfl, trivial, by decide, rfl, trivial⟩ rfl trivial (.ren rfl rfl (.ren rfl rfl .nil)) rfl trivial rfl) rfl ?_
         refine WPL.q (q_build bu51 rfl) rfl ?_
         obtain ⟨⟨x3190, x3191⟩, h3188, H⟩ := bnd H
         refine WPL.c (runs_call (s := []) (t := [6]) (N := 7) (bor := []) fn36 rfl (s_quireref09_trim__b k false x3188 x3190 x3191 h3188) ⟨rfl, trivial, by decide, rfl, trivial⟩ rfl trivial (.ren rfl rfl .nil) rfl ⟨trivial, rfl⟩ rfl) rfl ?_
         refine WPL.s (s_store sz51 rfl rfl rfl rfl rfl) ?_
         refine WPL.nilW ?_
         refine W.now ?_
         refine Then.n ?_
         refine WP.region ?_
         refine WPL.q (q_mv (v := .whole _) rfl) rfl ?_
         refine WPL.q (q_mv (v := .lit (.int _ _)) rfl) rfl ?_
         obtain ⟨x3192, h3192, H⟩ := bnd H
         refine WPL.q (q_index_row sl49 rfl rfl rfl (ixs h3192)) rfl ?_
         refine WPL.q (q_load_row (j := (Int.toNat x3051)) sc3 rfl rfl (ixj h3192)) rfl ?_
         refine WPL.q (q_add rfl rfl) rfl ?_
         obtain ⟨x3193, h3193, H⟩ := bnd H
         refine WPL.q (q_index_row sl49 rfl rfl rfl (ixs h3193)) rfl ?_
         refine WPL.s (s_store_row (j := (Int.toNat x3051)) (d := (IntKind.wrap .i64 (x3192 + 1))) sz3 rfl rfl rfl rfl Joins.sc (ixl h3193)) ?_
         refine WPL.nilW ?_
         exact W.wk [0, 1, 2, 3, 4, 5] hnp (InBlock.n (Then.n ⟨n, ((List.set x3162 (Int.toNat x3051) (IntKind.wrap .i64 (x3192 + 1))), x3190, x3191), Nat.lt_succ_self n, H, rfl, rfl⟩)) ⟨rfl, ⟨⟨⟨⟨⟨⟨trivial, .inr ⟨rfl, rfl, rfl⟩⟩, .inr ⟨rfl, rfl, rfl⟩⟩, .inr ⟨rfl, rfl, rfl⟩⟩, .inr ⟨rfl, rfl, rfl⟩⟩, .inr ⟨rfl, rfl, rfl⟩⟩, .inr ⟨rfl, rfl, rfl⟩⟩, by decide, rfl, trivial⟩ (LeE.upd rfl rfl (LeE.upd rfl rfl (LeE.upd rfl rfl (LeE.upd rfl rfl (LeE.upd rfl rfl (LeE.upd rfl rfl (LeE.upd rfl rfl (LeE.none rfl rfl)))))))) rfl
       replace H := cnf hb3185 H
       refine WP.exitW ?_
       have q0 := (Prod.mk.inj (Option.some.inj H)).1
       have q1 := (Prod.mk.inj (Prod.mk.inj (Option.some.inj H)).2).1
       have q2 := (Prod.mk.inj (Prod.mk.inj (Option.some.inj H)).2).2
       subst q0
       subst q1
       subst q2
       exact W.wk [0, 1, 2, 3, 4, 5] hnp (Then.x (Then.x ⟨rfl, rfl, rfl⟩)) ⟨rfl, ⟨⟨⟨⟨⟨⟨trivial, .inr ⟨rfl, rfl, rfl⟩⟩, .inr ⟨rfl, rfl, rfl⟩⟩, .inr ⟨rfl, rfl, rfl⟩⟩, .inr ⟨rfl, rfl, rfl⟩⟩, .inr ⟨rfl, rfl, rfl⟩⟩, .inr ⟨rfl, rfl, rfl⟩⟩, by decide, rfl, trivial⟩ (LeE.upd rfl rfl (LeE.upd rfl rfl (LeE.upd rfl rfl (LeE.upd rfl rfl (LeE.upd rfl rfl (LeE.upd rfl rfl (LeE.upd rfl rfl (LeE.none rfl rfl)))))))) rfl
     rintro _ _ _ ⟨rfl, rfl, rfl⟩
     refine W.now ?_
     refine InBlock.x0 ?_
     refine InBlock.n ?_
     refine Then.n ?_
     refine WP.region ?_
     refine WPL.q (q_mv (v := .lit (.int _ _)) rfl) rfl ?_
     refine WPL.q (q_sub rfl rfl) rfl ?_
     refine WPL.q (q_as (v := .lit (.int _ _)) rfl) rfl ?_
     refine WPL.nilW ?_
     exact W.wk [0, 1, 2, 3, 4, 5] hnp (Then.n ⟨n, ((IntKind.wrap .i64 (x3051 - 1)), x3178, x3179, x3180), Nat.lt_succ_self n, H, rfl, rfl⟩) ⟨rfl, ⟨⟨⟨⟨⟨⟨trivial, .inr ⟨rfl, rfl, rfl⟩⟩, .inr ⟨rfl, rfl, rfl⟩⟩, .inr ⟨rfl, rfl, rfl⟩⟩, .inr ⟨rfl, rfl, rfl⟩⟩, .inr ⟨rfl, rfl, rfl⟩⟩, .inr ⟨rfl, rfl, rfl⟩⟩, by decide, rfl, trivial⟩ (LeE.upd rfl rfl (LeE.upd rfl rfl (LeE.upd rfl rfl (LeE.upd rfl rfl (LeE.upd rfl rfl (LeE.upd rfl rfl (LeE.upd rfl rfl (LeE.none rfl rfl)))))))) rfl
   replace H := cnf hb3120 H
   refine WP.exitW ?_
   have q0 := (Prod.mk.inj (Option.some.inj H)).1
   have q1 := (Prod.mk.inj (Prod.mk.inj (Option.some.inj H)).2).1
   have q2 := (Prod.mk.inj (Prod.mk.inj (Option.some.inj H)).2).2
   subst q0
   subst q1
   subst q2
   exact W.wk [2, 3, 4, 5] hnp (Then.x (Then.x ⟨rfl, rfl, rfl⟩)) ⟨rfl, ⟨⟨⟨⟨trivial, .inr ⟨rfl, rfl, rfl⟩⟩, .inr ⟨rfl, rfl, rfl⟩⟩, .inr ⟨rfl, rfl, rfl⟩⟩, .inr ⟨rfl, rfl, rfl⟩⟩, by decide, rfl, trivial⟩ (LeE.upd rfl rfl (LeE.upd rfl rfl (LeE.upd rfl rfl (LeE.upd rfl rfl (LeE.none rfl rfl))))) rfl
 rintro _ _ _ ⟨rfl, rfl, rfl⟩
 refine W.now ?_
 refine InBlock.x0 ?_
 refine Then.n ?_
 refine WP.seq ?_
 refine WP.regionD' 6 [3] [] mixed rfl ?_
 refine WPD.takeT 0 rfl (by kernel_rfl) (q_mv (v := .whole _) rfl) rfl ?_
 refine WPD.takeT 1 rfl (by kernel_rfl) (q_build bu51 rfl) rfl ?_
 refine WPD.take 3 rfl (by kernel_rfl) (q_load_ag ag51 rfl rfl (Nat.le_of_ble_eq_true rfl)) rfl rfl ?_
 obtain ⟨⟨x3200, x3201⟩, h3198, H⟩ := bnd H
 refine WPD.eff 2 [3] [] rfl (by kernel_rfl) (runs_call (s := [2]) (t := [4]) (N := 5) (bor := []) fn36 rfl (s_quireref09_trim k false x3117 x3200 x3201 h3198) ⟨rfl, ⟨trivial, .inr ⟨rfl, rfl, rfl⟩⟩, by decide, rfl, trivial⟩ rfl trivial (.ren rfl rfl .nil) rfl ⟨trivial, rfl⟩ rfl) rfl rfl ?_
 refine WPD.effS 4 [3] [] rfl (by kernel_rfl) (s_store sz51 rfl rfl rfl rfl rfl) rfl ?_
 refine WPD.effS 5 [3] [] rfl (by kernel_rfl) (s_store sz51 rfl rfl rfl rfl rfl) rfl ?_
 refine WPD.doneW (by kernel_rfl) ?_
 refine W.now ?_
 refine Then.n ?_
 refine WP.retW ?_
 have q0 := (Prod.mk.inj (Option.some.inj H)).1
 have q1 := (Prod.mk.inj (Prod.mk.inj (Option.some.inj H)).2).1
 have q2 := (Prod.mk.inj (Prod.mk.inj (Prod.mk.inj (Option.some.inj H)).2).2).1
 have q3 := (Prod.mk.inj (Prod.mk.inj (Prod.mk.inj (Option.some.inj H)).2).2).2
 subst q0
 subst q1
 subst q2
 subst q3
 exact W.now (BodyR.mkR trivial rfl [0, 1] ⟨rfl, rfl⟩ ⟨rfl, ⟨⟨trivial, .inr ⟨rfl, rfl, rfl⟩⟩, .inr ⟨rfl, rfl, rfl⟩⟩, by decide, rfl, trivial⟩ rfl rfl)
set_option maxRecDepth 100000 in
set_option maxHeartbeats 4000000 in
theorem s_quireref09_fits (k : Nat) (x3613 : Bool) (x3614 : (List Int)) (x3626 : Bool) (H : g_quireref09_fits k x3613 x3614 = some x3626) : Go.Q.Spec Try.prog 63 0 [.agg [.lit (.bool x3613), .ro (Rd.slice (Rd.int .i64)) false x3614]] Mem.nil (fun o M => o = .ret (.lit (.bool x3626)) ∧ M = Mem.nil) := by
 unfold g_quireref09_fits at H
 refine Go.Q.Spec.of_bodyR (az := []) (rs := [.tmp 2]) (nt := 22) Try.func63 rfl rfl (by intro t T h; simp at h) rfl rfl fun cx hnp => ?_
 refine WP.seq ?_
 refine WP.region ?_
 refine WPL.d (d_box rfl rfl) rfl ?_
 refine WPL.q (q_as (v := .lit (.bool _)) rfl) rfl ?_
 refine WPL.nilW ?_
 refine W.now ?_
 refine Then.n ?_
 refine WP.seq ?_
 refine WP.region ?_
 obtain ⟨x3628, h3626, H⟩ := bnd H
 refine WPL.c (runs_call (s := []) (t := [1]) (N := 2) (bor := []) fn43 rfl (s_quireref09_Of k (-9223372036854775808) x3628 h3626) ⟨rfl, trivial, by decide, rfl, trivial⟩ rfl trivial (.ren rfl rfl .nil) rfl ⟨trivial, rfl⟩ rfl) rfl ?_
 refine WPL.d (d_alloc ze51 rfl) rfl ?_
 refine WPL.s (s_store sz51 rfl rfl rfl rfl rfl) ?_
 refine WPL.nilW ?_
 refine W.now ?_
 refine Then.n ?_
 refine WP.seq ?_
 refine WP.region ?_
 refine WPL.q (q_fieldAddr fi51_0 rfl rfl) rfl ?_
 refine WPL.q (q_load sc4 rfl rfl rfl) rfl ?_
 refine WPL.q (q_fieldAddr fi51_0 rfl rfl) rfl ?_
 refine WPL.s (s_store sz4 rfl rfl rfl rfl rfl) ?_
 refine WPL.nilW ?_
 refine W.now ?_
 refine Then.n ?_
 refine WP.seq ?_
 refine WP.region ?_
 refine WPL.q (q_load_ag ag51 rfl rfl (Nat.le_of_ble_eq_true rfl)) rfl ?_
 refine WPL.q (q_load_ag ag51 rfl rfl (Nat.le_of_ble_eq_true rfl)) rfl ?_
 obtain ⟨x3630, h3628, H⟩ := bnd H
 refine WPL.c (runs_call (s := []) (t := []) (N := 3) (bor := []) fn61 rfl (s_quireref09_more k x3613 x3614 x3613 x3628 x3630 h3628) ⟨rfl, trivial, by decide, rfl, trivial⟩ rfl trivial (.ren rfl rfl (.ren rfl rfl .nil)) rfl trivial rfl) rfl ?_
 refine WPL.q (q_as (v := .lit (.int _ _)) rfl) rfl ?_
 refine WPL.nilW ?_
 refine W.now ?_
 refine Then.n ?_
 refine WP.seq ?_
 obtain ⟨x3633, H3635, H⟩ := bnd H
 refine WP.monoW (Q := fun x E M => x = .normal ∧ E = (Env.none.upd 2 (.lit (.bool x3633))) ∧ M = Mem.nil) ?_ ?_
 · clear H
   have H := H3635
   clear H3635
   refine WP.region ?_
   refine WPL.q (q_mv (v := .lit (.int _ _)) rfl) rfl ?_
   refine WPL.q (q_lss rfl rfl) rfl ?_
   refine WPL.q (q_mv (v := .lit (.bool _)) rfl) rfl ?_
   refine WPL.split (t := 14) (b := (decide (x3630 < 0))) rfl (fun hb3633 => ?_) (fun hb3633 => ?_)
   · replace H := cnt hb3633 H
     refine WPL.skipg (b' := true) rfl rfl (lb hb3633) rfl rfl ?_
     refine WPL.skipg (b' := true) rfl rfl (lb hb3633) rfl rfl ?_
     refine WPL.skipg (b' := true) rfl rfl (lb hb3633) rfl rfl ?_
     refine WPL.skipu rfl rfl rfl rfl ?_
     refine WPL.skipu rfl rfl rfl rfl ?_
     refine WPL.skipg (b' := true) rfl rfl (lb hb3633) rfl rfl ?_
     refine WPL.q (q_pickT (v := .lit (.bool _)) (lb hb3633) rfl) rfl ?_
     refine WPL.q (q_as (v := .lit (.bool _)) rfl) rfl ?_
     refine WPL.nilW ?_
     have q0 := (Option.some.inj H)
     subst q0
     exact W.wk [] hnp ⟨rfl, rfl, rfl⟩ ⟨rfl, trivial, by decide, rfl, trivial⟩ (LeE.upd rfl rfl (LeE.none rfl rfl)) rfl
   replace H := cnf hb3633 H
   refine WPL.qg rfl rfl (lb hb3633) (q_mv (v := .lit (.int _ _)) rfl) rfl ?_
   refine WPL.qg rfl rfl (lb hb3633) (q_eql rfl rfl) rfl ?_
   refine WPL.qg rfl rfl (lb hb3633) (q_mv (v := .lit (.bool _)) rfl) rfl ?_
   refine WPL.split (t := 17) (b := (decide (x3630 = 0))) rfl (fun hb3634 => ?_) (fun hb3634 => ?_)
   · replace H := cnt hb3634 H
     refine WPL.qg rfl rfl (lb hb3634) (q_fieldAddr fi51_0 rfl rfl) rfl ?_
     refine WPL.qg rfl rfl (lb hb3634) (q_load sc4 rfl rfl rfl) rfl ?_
     refine WPL.qg rfl rfl (lb hb3633) (q_pickT (v := .lit (.bool _)) (lb hb3634) rfl) rfl ?_
     refine WPL.q (q_pickF (v := .lit (.bool _)) (lb hb3633) rfl) rfl ?_
     refine WPL.q (q_as (v := .lit (.bool _)) rfl) rfl ?_
     refine WPL.nilW ?_
     have q0 := (Option.some.inj H)
     subst q0
     exact W.wk [] hnp ⟨rfl, rfl, rfl⟩ ⟨rfl, trivial, by decide, rfl, trivial⟩ (LeE.upd rfl rfl (LeE.none rfl rfl)) rfl
   replace H := cnf hb3634 H
   refine WPL.skipg (b' := false) rfl rfl (lb hb3634) rfl rfl ?_
   refine WPL.skipg (b' := false) rfl rfl (lb hb3634) rfl rfl ?_
   refine WPL.qg rfl rfl (lb hb3633) (q_pickF (v := .lit (.bool _)) (lb hb3634) rfl) rfl ?_
   refine WPL.q (q_pickF (v := .lit (.bool _)) (lb hb3633) rfl) rfl ?_
   refine WPL.q (q_as (v := .lit (.bool _)) rfl) rfl ?_
   refine WPL.nilW ?_
   have q0 := (Option.some.inj H)
   subst q0
   exact W.wk [] hnp ⟨rfl, rfl, rfl⟩ ⟨rfl, trivial, by decide, rfl, trivial⟩ (LeE.upd rfl rfl (LeE.none rfl rfl)) rfl
 rintro _ _ _ ⟨rfl, rfl, rfl⟩
 refine W.now ?_
 refine Then.n ?_
 refine WP.retW ?_
 have q0 := (Option.some.inj H)
 subst q0
 exact W.now (BodyR.mkR trivial rfl [] ⟨rfl, rfl⟩ ⟨rfl, trivial, by decide, rfl, trivial⟩ rfl rfl)
set_option maxRecDepth 100000 in
set_option maxHeartbeats 4000000 in
theorem s_quireref09_Tell (k : Nat) (x3493 : Bool) (x3494 : (List Int)) (x3495 : Int) (x3690 : Int) (x3691 : Int) (x3692 : Int) (H : g_quireref09_Tell k x3493 x3494 x3495 = some (x3690, x3691, x3692)) : Go.Q.Spec Try.prog 35 0 [.agg [.lit (.bool x3493), .ro (Rd.slice (Rd.int .i64)) false x3494, .lit (.int .i64 x3495)]] Mem.nil (fun o M => o = .ret (.tup [.agg [.lit (.int .i64 x3691), .lit (.int .i64 x3692)], .lit (.int .i64 x3690)]) ∧ M = (Mem.nil.push (.cells 23 [.lit (.int .i64 x3691), .lit (.int .i64 x3692)]))) := by
 unfold g_quireref09_Tell at H
 refine Go.Q.Spec.of_bodyR (az := [(23, 2)]) (rs := [.cell 2 23, .tmp 3]) (nt := 93) Try.func35 rfl rfl (by intro t T h; simp at h; rcases h with ⟨rfl, rfl⟩ <;> first | exact ag23) rfl rfl fun cx hnp => ?_
 refine WP.seq ?_
 refine WP.region ?_
 refine WPL.d (d_box rfl rfl) rfl ?_
 refine WPL.d (d_alloc ze23 rfl) rfl ?_
 refine WPL.q (q_as (v := .lit (.int _ _)) rfl) rfl ?_
 refine WPL.nilW ?_
 refine W.now ?_
 refine Then.n ?_
 refine WP.seq ?_
 refine WP.regionD' 7 [0] [] mixed rfl ?_
 refine WPD.takeT 0 rfl (by kernel_rfl) (q_fieldAddr fi53_0 rfl rfl) rfl ?_
 refine WPD.takeT 2 rfl (by kernel_rfl) (q_fieldAddr fi53_1 rfl rfl) rfl ?_
 refine WPD.take 1 rfl (by kernel_rfl) (q_load_ag ag51 rfl rfl (Nat.le_of_ble_eq_true rfl)) rfl rfl ?_
 refine WPD.take 3 rfl (by kernel_rfl) (q_load sc3 rfl rfl rfl) rfl rfl ?_
 refine WPD.eff 4 [0] [] rfl (by kernel_rfl) (Does.runs (d_alloc ze51 rfl)) rfl rfl ?_
 refine WPD.effS 5 [0] [] rfl (by kernel_rfl) (s_store sz51 rfl rfl rfl rfl rfl) rfl ?_
 refine WPD.takeT 6 rfl (by kernel_rfl) (q_as (v := .lit (.int _ _)) rfl) rfl ?_
 refine WPD.doneW (by kernel_rfl) ?_
 refine W.now ?_
 refine Then.n ?_
 refine WP.seq ?_
 refine WP.seq ?_
 refine WP.region ?_
 refine WPL.q (q_fieldAddr fi51_1 rfl rfl) rfl ?_
 refine WPL.q (q_load sc49 rfl rfl rfl) rfl ?_
 refine WPL.q (q_len_ro sl49 rfl) rfl ?_
 obtain ⟨x3695, h3695, H⟩ := bnd H
 refine WPL.q (q_nm (q_eql rfl rfl) (nm_bool h3695)) rfl ?_
 refine WPL.nilW ?_
 refine W.now ?_
 refine Then.n ?_
 refine WP.cond (t := x3695) rfl (fun hb3695 => ?_) (fun hb3695 => ?_)
 · replace H := cnt hb3695 H
   refine WP.seq ?_
   refine WP.region ?_
   refine WPL.q (q_build bu23 rfl) rfl ?_
   refine WPL.s (s_store sz23 rfl rfl rfl rfl rfl) ?_
   refine WPL.q (q_as (v := .lit (.int _ _)) rfl) rfl ?_
   refine WPL.nilW ?_
   refine W.now ?_
   refine Then.n ?_
   refine WP.retW ?_
   have q0 := (Prod.mk.inj (Option.some.inj H)).1
   have q1 := (Prod.mk.inj (Prod.mk.inj (Option.some.inj H)).2).1
   have q2 := (Prod.mk.inj (Prod.mk.inj (Option.some.inj H)).2).2
   subst q0
   subst q1
   subst q2
   exact W.now (Then.r (BodyR.mkR trivial rfl [1] ⟨rfl, rfl⟩ ⟨rfl, ⟨trivial, .inr ⟨rfl, rfl, rfl⟩⟩, by decide, rfl, trivial⟩ rfl rfl))
 replace H := cnf hb3695 H
 refine WP.skipW ?_
 refine W.now ?_
 refine Then.n ?_
 refine WP.seq ?_
 refine WP.seq ?_
 refine WP.region ?_
 refine WPL.q (q_mv (v := .lit (.int _ _)) rfl) rfl ?_
 refine WPL.q (q_gtr rfl rfl) rfl ?_
 refine WPL.nilW ?_
 refine W.now ?_
 refine Then.n ?_
 refine WP.cond (t := (decide (60 < x3495))) rfl (fun hb3697 => ?_) (fun hb3697 => ?_)
 · replace H := cnt hb3697 H
   refine WP.seq ?_
   refine WP.region ?_
   refine WPL.q (q_build bu23 rfl) rfl ?_
   refine WPL.s (s_store sz23 rfl rfl rfl rfl rfl) ?_
   refine WPL.q (q_as (v := .lit (.int _ _)) rfl) rfl ?_
   refine WPL.nilW ?_
   refine W.now ?_
   refine Then.n ?_
   refine WP.retW ?_
   have q0 := (Prod.mk.inj (Option.some.inj H)).1
   have q1 := (Prod.mk.inj (Prod.mk.inj (Option.some.inj H)).2).1
   have q2 := (Prod.mk.inj (Prod.mk.inj (Option.some.inj H)).2).2
   subst q0
   subst q1
   subst q2
   exact W.now (Then.r (BodyR.mkR trivial rfl [1] ⟨rfl, rfl⟩ ⟨rfl, ⟨trivial, .inr ⟨rfl, rfl, rfl⟩⟩, by decide, rfl, trivial⟩ rfl rfl))
 replace H := cnf hb3697 H
 refine WP.skipW ?_
 refine W.now ?_
 refine Then.n ?_
 refine WP.seq ?_
 refine WP.block ?_
 refine WP.cv (Cv.weak (E' := (((Env.none.upd 2 (.ptr 0 0)).upd 4 (.ptr 1 0)).upd 5 (.lit (.int .i64 x3495)))) (M' := ((Mem.nil.push (.cells 23 [.lit (.int .i64 0), .lit (.int .i64 0)])).push (.cells 51 [.lit (.bool x3493), .ro (Rd.slice (Rd.int .i64)) false x3494]))) [1, 2] hnp ⟨rfl, ⟨⟨trivial, .inr ⟨rfl, rfl, rfl⟩⟩, .inr ⟨rfl, rfl, rfl⟩⟩, by decide, rfl, trivial⟩ (LeE.upd rfl rfl (LeE.upd rfl rfl (LeE.upd rfl rfl (LeE.none rfl rfl))))) ?_
 obtain ⟨⟨x3762, x3763, x3764⟩, H3794, H⟩ := bnd H
 refine WP.monoW (Q := fun x E M => x = .exit 0 ∧ E = (((Env.none.upd 2 (.ptr 0 0)).upd 4 (.ptr 1 0)).upd 5 (.lit (.int .i64 x3762))) ∧ M = ((Mem.nil.push (.cells 23 [.lit (.int .i64 0), .lit (.int .i64 0)])).push (.cells 51 [.lit (.bool x3763), .ro (Rd.slice (Rd.int .i64)) false x3764]))) ?_ ?_
 · refine WP.loop (β := Int × Bool × (List Int)) (fun n b => g_quireref09_Tell_l0 k n b.1 b.2.1 b.2.2 = some (x3762, x3763, x3764)) (fun b => (((Env.none.upd 2 (.ptr 0 0)).upd 4 (.ptr 1 0)).upd 5 (.lit (.int .i64 b.1)))) (fun b => ((Mem.nil.push (.cells 23 [.lit (.int .i64 0), .lit (.int .i64 0)])).push (.cells 51 [.lit (.bool b.2.1), .ro (Rd.slice (Rd.int .i64)) false b.2.2]))) k (x3495, x3493, x3494) H3794 rfl rfl ?_
   rintro n ⟨x3729, x3730, x3731⟩ H
   obtain _ | n := n
   · exact nf rfl H
   rw [g_quireref09_Tell_l0.eq_2] at H
   show WP _ _ _ _ (((Env.none.upd 2 (.ptr 0 0)).upd 4 (.ptr 1 0)).upd 5 (.lit (.int .i64 x3729))) ((Mem.nil.push (.cells 23 [.lit (.int .i64 0), .lit (.int .i64 0)])).push (.cells 51 [.lit (.bool x3730), .ro (Rd.slice (Rd.int .i64)) false x3731])) _
   refine WP.seq ?_
   refine WP.seq ?_
   obtain ⟨x3777, H3780, H⟩ := bnd H
   refine WP.monoW (Q := fun x E M => x = .normal ∧ E = ((((Env.none.upd 2 (.ptr 0 0)).upd 4 (.ptr 1 0)).upd 5 (.lit (.int .i64 x3729))).upd 30 (.lit (.bool x3777))) ∧ M = ((Mem.nil.push (.cells 23 [.lit (.int .i64 0), .lit (.int .i64 0)])).push (.cells 51 [.lit (.bool x3730), .ro (Rd.slice (Rd.int .i64)) false x3731]))) ?_ ?_
   · clear H
     have H := H3780
     clear H3780
     refine WP.region ?_
     refine WPL.q (q_fieldAddr fi51_1 rfl rfl) rfl ?_
     refine WPL.q (q_load sc49 rfl rfl rfl) rfl ?_
     refine WPL.q (q_len_ro sl49 rfl) rfl ?_
     obtain ⟨x3778, h3778, H⟩ := bnd H
     refine WPL.q (q_nm (q_gtr rfl rfl) (nm_bool h3778)) rfl ?_
     refine WPL.q (q_mv (v := .lit (.bool _)) rfl) rfl ?_
     refine WPL.split (t := 24) (b := x3778) rfl (fun hb3778 => ?_) (fun hb3778 => ?_)
     · replace H := cnt hb3778 H
       refine WPL.qg rfl rfl (lb hb3778) (q_fieldAddr fi51_1 rfl rfl) rfl ?_
       refine WPL.qg rfl rfl (lb hb3778) (q_load sc49 rfl rfl rfl) rfl ?_
       obtain ⟨x3780, h3780, H⟩ := bnd H
       refine WPL.qg rfl rfl (lb hb3778) (q_index_ro sl49 rfl rfl rfl h3780) rfl ?_
       refine WPL.qg rfl rfl (lb hb3778) (q_load_sc sc3 rfl) rfl ?_
       refine WPL.qg rfl rfl (lb hb3778) (q_eql rfl rfl) rfl ?_
       refine WPL.q (q_pickT (v := .lit (.bool _)) (lb hb3778) rfl) rfl ?_
       refine WPL.nilW ?_
       have q0 := (Option.some.inj H)
       subst q0
       exact W.wk [0, 1] hnp ⟨rfl, rfl, rfl⟩ ⟨rfl, ⟨⟨trivial, .inr ⟨rfl, rfl, rfl⟩⟩, .inr ⟨rfl, rfl, rfl⟩⟩, by decide, rfl, trivial⟩ (LeE.upd rfl rfl (LeE.upd rfl rfl (LeE.upd rfl rfl (LeE.upd rfl rfl (LeE.none rfl rfl))))) rfl
     replace H := cnf hb3778 H
     refine WPL.skipg (b' := false) rfl rfl (lb hb3778) rfl rfl ?_
     refine WPL.skipg (b' := false) rfl rfl (lb hb3778) rfl rfl ?_
     refine WPL.skipg (b' := false) rfl rfl (lb hb3778) rfl rfl ?_
     refine WPL.skipg (b' := false) rfl rfl (lb hb3778) rfl rfl ?_
     refine WPL.skipg (b' := false) rfl rfl (lb hb3778) rfl rfl ?_
     refine WPL.q (q_pickF (v := .lit (.bool _)) (lb hb3778) rfl) rfl ?_
     refine WPL.nilW ?_
     have q0 := (Option.some.inj H)
     subst q0
     exact W.wk [0, 1] hnp ⟨rfl, rfl, rfl⟩ ⟨rfl, ⟨⟨trivial, .inr ⟨rfl, rfl, rfl⟩⟩, .inr ⟨rfl, rfl, rfl⟩⟩, by decide, rfl, trivial⟩ (LeE.upd rfl rfl (LeE.upd rfl rfl (LeE.upd rfl rfl (LeE.upd rfl rfl (LeE.none rfl rfl))))) rfl
   rintro _ _ _ ⟨rfl, rfl, rfl⟩
   refine W.now ?_
   refine Then.n ?_
   refine WP.cond (t := x3777) rfl (fun hb3781 => ?_) (fun hb3781 => ?_)
   · replace H := cnt hb3781 H
     refine WP.skipW ?_
     refine W.now ?_
     refine Then.n ?_
     refine WP.block ?_
     refine WP.seq ?_
     refine WP.regionD' 8 [1] [7] mixed rfl ?_
     refine WPD.takeT 0 rfl (by kernel_rfl) (q_fieldAddr fi51_0 rfl rfl) rfl ?_
     refine WPD.takeT 2 rfl (by kernel_rfl) (q_fieldAddr fi51_1 rfl rfl) rfl ?_
     refine WPD.take 1 rfl (by kernel_rfl) (q_load sc4 rfl rfl rfl) rfl rfl ?_
     refine WPD.take 3 rfl (by kernel_rfl) (q_load sc49 rfl rfl rfl) rfl rfl ?_
     obtain ⟨h3790, H⟩ := grd H
     refine WPD.takeT 4 rfl (by kernel_rfl) (q_slice_ro (i := 1) (j := ((List.length x3731 : Nat) : Int)) sl49 rfl rfl ⟨_, rfl⟩ rfl h3790) rfl ?_
     refine WPD.takeT 5 rfl (by kernel_rfl) (q_build bu51 rfl) rfl ?_
     obtain ⟨⟨x3793, x3794⟩, h3791, H⟩ := bnd H
     refine WPD.eff 6 [1] [7] rfl (by kernel_rfl) (runs_call (s := []) (t := [2]) (N := 3) (bor := []) fn36 rfl (s_quireref09_trim__b k x3730 (List.drop (Int.toNat 1) (List.take (Int.toNat ((List.length x3731 : Nat) : Int)) x3731)) x3793 x3794 h3791) ⟨rfl, trivial, by decide, rfl, trivial⟩ rfl trivial (.ren rfl rfl .nil) rfl ⟨trivial, rfl⟩ rfl) rfl rfl ?_
     refine WPD.effS 7 [] [] rfl (by kernel_rfl) (s_store sz51 rfl rfl rfl rfl rfl) rfl ?_
     refine WPD.doneW (by kernel_rfl) ?_
     refine W.now ?_
     refine Then.n ?_
     refine WP.region ?_
     refine WPL.q (q_mv (v := .lit (.int _ _)) rfl) rfl ?_
     refine WPL.q (q_add rfl rfl) rfl ?_
     refine WPL.q (q_as (v := .lit (.int _ _)) rfl) rfl ?_
     refine WPL.nilW ?_
     exact W.wk [0, 1] hnp (InBlock.n (Then.n ⟨n, ((IntKind.wrap .i64 (x3729 + 1)), x3793, x3794), Nat.lt_succ_self n, H, rfl, rfl⟩)) ⟨rfl, ⟨⟨trivial, .inr ⟨rfl, rfl, rfl⟩⟩, .inr ⟨rfl, rfl, rfl⟩⟩, by decide, rfl, trivial⟩ (LeE.upd rfl rfl (LeE.upd rfl rfl (LeE.upd rfl rfl (LeE.none rfl rfl)))) rfl
   replace H := cnf hb3781 H
   refine WP.exitW ?_
   have q0 := (Prod.mk.inj (Option.some.inj H)).1
   have q1 := (Prod.mk.inj (Prod.mk.inj (Option.some.inj H)).2).1
   have q2 := (Prod.mk.inj (Prod.mk.inj (Option.some.inj H)).2).2
   subst q0
   subst q1
   subst q2
   exact W.wk [0, 1] hnp (Then.x (Then.x ⟨rfl, rfl, rfl⟩)) ⟨rfl, ⟨⟨trivial, .inr ⟨rfl, rfl, rfl⟩⟩, .inr ⟨rfl, rfl, rfl⟩⟩, by decide, rfl, trivial⟩ (LeE.upd rfl rfl (LeE.upd rfl rfl (LeE.upd rfl rfl (LeE.none rfl rfl)))) rfl
 rintro _ _ _ ⟨rfl, rfl, rfl⟩
 refine W.now ?_
 refine InBlock.x0 ?_
 refine Then.n ?_
 refine WP.seq ?_
 refine WP.block ?_
 refine WP.cv (Cv.weak (E' := (((Env.none.upd 2 (.ptr 0 0)).upd 4 (.ptr 1 0)).upd 5 (.lit (.int .i64 x3762)))) (M' := ((Mem.nil.push (.cells 23 [.lit (.int .i64 0), .lit (.int .i64 0)])).push (.cells 51 [.lit (.bool x3763), .ro (Rd.slice (Rd.int .i64)) false x3764]))) [0, 1] hnp ⟨rfl, ⟨⟨trivial, .inr ⟨rfl, rfl, rfl⟩⟩, .inr ⟨rfl, rfl, rfl⟩⟩, by decide, rfl, trivial⟩ (LeE.upd rfl rfl (LeE.upd rfl rfl (LeE.upd rfl rfl (LeE.none rfl rfl))))) ?_
 obtain ⟨⟨x3833, x3834, x3835⟩, H3852, H⟩ := bnd H
 refine WP.monoW (Q := fun x E M => x = .exit 2 ∧ E = (((Env.none.upd 2 (.ptr 0 0)).upd 4 (.ptr 1 0)).upd 5 (.lit (.int .i64 x3833))) ∧ M = ((Mem.nil.push (.cells 23 [.lit (.int .i64 0), .lit (.int .i64 0)])).push (.cells 51 [.lit (.bool x3834), .ro (Rd.slice (Rd.int .i64)) false x3835]))) ?_ ?_
 · refine WP.loop (β := Int × Bool × (List Int)) (fun n b => g_quireref09_Tell_l1 k n b.1 b.2.1 b.2.2 = some (x3833, x3834, x3835)) (fun b => (((Env.none.upd 2 (.ptr 0 0)).upd 4 (.ptr 1 0)).upd 5 (.lit (.int .i64 b.1)))) (fun b => ((Mem.nil.push (.cells 23 [.lit (.int .i64 0), .lit (.int .i64 0)])).push (.cells 51 [.lit (.bool b.2.1), .ro (Rd.slice (Rd.int .i64)) false b.2.2]))) k (x3762, x3763, x3764) H3852 rfl rfl ?_
   rintro n ⟨x3813, x3814, x3815⟩ H
   obtain _ | n := n
   · exact nf rfl H
   rw [g_quireref09_Tell_l1.eq_2] at H
   show WP _ _ _ _ (((Env.none.upd 2 (.ptr 0 0)).upd 4 (.ptr 1 0)).upd 5 (.lit (.int .i64 x3813))) ((Mem.nil.push (.cells 23 [.lit (.int .i64 0), .lit (.int .i64 0)])).push (.cells 51 [.lit (.bool x3814), .ro (Rd.slice (Rd.int .i64)) false x3815])) _
   refine WP.seq ?_
   refine WP.seq ?_
   obtain ⟨x3845, H3847, H⟩ := bnd H
   refine WP.monoW (Q := fun x E M => x = .normal ∧ E = ((((Env.none.upd 2 (.ptr 0 0)).upd 4 (.ptr 1 0)).upd 5 (.lit (.int .i64 x3813))).upd 47 (.lit (.bool x3845))) ∧ M = ((Mem.nil.push (.cells 23 [.lit (.int .i64 0), .lit (.int .i64 0)])).push (.cells 51 [.lit (.bool x3814), .ro (Rd.slice (Rd.int .i64)) false x3815]))) ?_ ?_
   · clear H
     have H := H3847
     clear H3847
     refine WP.region ?_
     refine WPL.q (q_mv (v := .lit (.int _ _)) rfl) rfl ?_
     refine WPL.q (q_gtr rfl rfl) rfl ?_
     refine WPL.q (q_mv (v := .lit (.bool _)) rfl) rfl ?_
     refine WPL.split (t := 42) (b := (decide (18 < x3813))) rfl (fun hb3845 => ?_) (fun hb3845 => ?_)
     · replace H := cnt hb3845 H
       refine WPL.qg rfl rfl (lb hb3845) (q_fieldAddr fi51_1 rfl rfl) rfl ?_
       refine WPL.qg rfl rfl (lb hb3845) (q_load sc49 rfl rfl rfl) rfl ?_
       refine WPL.qg rfl rfl (lb hb3845) (q_len_ro sl49 rfl) rfl ?_
       obtain ⟨x3847, h3847, H⟩ := bnd H
       refine WPL.qg rfl rfl (lb hb3845) (q_nm (q_lss rfl rfl) (nm_bool h3847)) rfl ?_
       refine WPL.q (q_pickT (v := .lit (.bool _)) (lb hb3845) rfl) rfl ?_
       refine WPL.nilW ?_
       have q0 := (Option.some.inj H)
       subst q0
       exact W.wk [0, 1] hnp ⟨rfl, rfl, rfl⟩ ⟨rfl, ⟨⟨trivial, .inr ⟨rfl, rfl, rfl⟩⟩, .inr ⟨rfl, rfl, rfl⟩⟩, by decide, rfl, trivial⟩ (LeE.upd rfl rfl (LeE.upd rfl rfl (LeE.upd rfl rfl (LeE.upd rfl rfl (LeE.none rfl rfl))))) rfl
     replace H := cnf hb3845 H
     refine WPL.skipg (b' := false) rfl rfl (lb hb3845) rfl rfl ?_
     refine WPL.skipg (b' := false) rfl rfl (lb hb3845) rfl rfl ?_
     refine WPL.skipg (b' := false) rfl rfl (lb hb3845) rfl rfl ?_
     refine WPL.skipg (b' := false) rfl rfl (lb hb3845) rfl rfl ?_
     refine WPL.q (q_pickF (v := .lit (.bool _)) (lb hb3845) rfl) rfl ?_
     refine WPL.nilW ?_
     have q0 := (Option.some.inj H)
     subst q0
     exact W.wk [0, 1] hnp ⟨rfl, rfl, rfl⟩ ⟨rfl, ⟨⟨trivial, .inr ⟨rfl, rfl, rfl⟩⟩, .inr ⟨rfl, rfl, rfl⟩⟩, by decide, rfl, trivial⟩ (LeE.upd rfl rfl (LeE.upd rfl rfl (LeE.upd rfl rfl (LeE.upd rfl rfl (LeE.none rfl rfl))))) rfl
   rintro _ _ _ ⟨rfl, rfl, rfl⟩
   refine W.now ?_
   refine Then.n ?_
   refine WP.cond (t := x3845) rfl (fun hb3848 => ?_) (fun hb3848 => ?_)
   · replace H := cnt hb3848 H
     refine WP.skipW ?_
     refine W.now ?_
     refine Then.n ?_
     refine WP.block ?_
     refine WP.seq ?_
     refine WP.region ?_
     refine WPL.q (q_load_ag ag51 rfl rfl (Nat.le_of_ble_eq_true rfl)) rfl ?_
     obtain ⟨⟨x3851, x3852⟩, h3849, H⟩ := bnd H
     refine WPL.c (runs_call (s := []) (t := [2]) (N := 3) (bor := []) fn34 rfl (s_quireref09_Shift k x3814 x3815 1 x3851 x3852 h3849) ⟨rfl, trivial, by decide, rfl, trivial⟩ rfl trivial (.ren rfl rfl (.ren rfl rfl .nil)) rfl ⟨trivial, rfl⟩ rfl) rfl ?_
     refine WPL.s (s_store sz51 rfl rfl rfl rfl rfl) ?_
     refine WPL.nilW ?_
     refine W.now ?_
     refine Then.n ?_
     refine WP.region ?_
     refine WPL.q (q_mv (v := .lit (.int _ _)) rfl) rfl ?_
     refine WPL.q (q_sub rfl rfl) rfl ?_
     refine WPL.q (q_as (v := .lit (.int _ _)) rfl) rfl ?_
     refine WPL.nilW ?_
     exact W.wk [0, 1] hnp (InBlock.n (Then.n ⟨n, ((IntKind.wrap .i64 (x3813 - 1)), x3851, x3852), Nat.lt_succ_self n, H, rfl, rfl⟩)) ⟨rfl, ⟨⟨trivial, .inr ⟨rfl, rfl, rfl⟩⟩, .inr ⟨rfl, rfl, rfl⟩⟩, by decide, rfl, trivial⟩ (LeE.upd rfl rfl (LeE.upd rfl rfl (LeE.upd rfl rfl (LeE.none rfl rfl)))) rfl
   replace H := cnf hb3848 H
   refine WP.exitW ?_
   have q0 := (Prod.mk.inj (Option.some.inj H)).1
   have q1 := (Prod.mk.inj (Prod.mk.inj (Option.some.inj H)).2).1
   have q2 := (Prod.mk.inj (Prod.mk.inj (Option.some.inj H)).2).2
   subst q0
   subst q1
   subst q2
   exact W.wk [0, 1] hnp (Then.x (Then.x ⟨rfl, rfl, rfl⟩)) ⟨rfl, ⟨⟨trivial, .inr ⟨rfl, rfl, rfl⟩⟩, .inr ⟨rfl, rfl, rfl⟩⟩, by decide, rfl, trivial⟩ (LeE.upd rfl rfl (LeE.upd rfl rfl (LeE.upd rfl rfl (LeE.none rfl rfl)))) rfl
 rintro _ _ _ ⟨rfl, rfl, rfl⟩
 refine W.now ?_
 refine InBlock.x0 ?_
 refine Then.n ?_
 refine WP.seq ?_
 refine WP.seq ?_
 obtain ⟨x3869, H3873, H⟩ := bnd H
 refine WP.monoW (Q := fun x E M => x = .normal ∧ E = ((((Env.none.upd 2 (.ptr 0 0)).upd 4 (.ptr 1 0)).upd 5 (.lit (.int .i64 x3833))).upd 62 (.lit (.bool x3869))) ∧ M = ((Mem.nil.push (.cells 23 [.lit (.int .i64 0), .lit (.int .i64 0)])).push (.cells 51 [.lit (.bool x3834), .ro (Rd.slice (Rd.int .i64)) false x3835]))) ?_ ?_
 · clear H
   have H := H3873
   clear H3873
   refine WP.region ?_
   refine WPL.q (q_mv (v := .lit (.int _ _)) rfl) rfl ?_
   refine WPL.q (q_gtr rfl rfl) rfl ?_
   refine WPL.q (q_mv (v := .lit (.bool _)) rfl) rfl ?_
   refine WPL.split (t := 54) (b := (decide (18 < x3833))) rfl (fun hb3869 => ?_) (fun hb3869 => ?_)
   · replace H := cnt hb3869 H
     refine WPL.skipg (b' := true) rfl rfl (lb hb3869) rfl rfl ?_
     refine WPL.skipg (b' := true) rfl rfl (lb hb3869) rfl rfl ?_
     refine WPL.q (q_pickT (v := .lit (.bool _)) (lb hb3869) rfl) rfl ?_
     refine WPL.q (q_mv (v := .lit (.bool _)) rfl) rfl ?_
     refine WPL.skipg (b' := true) rfl rfl rfl rfl rfl ?_
     refine WPL.skipg (b' := true) rfl rfl rfl rfl rfl ?_
     refine WPL.skipg (b' := true) rfl rfl rfl rfl rfl ?_
     refine WPL.q (q_pickT (v := .lit (.bool _)) rfl rfl) rfl ?_
     refine WPL.nilW ?_
     have q0 := (Option.some.inj H)
     subst q0
     exact W.wk [0, 1] hnp ⟨rfl, rfl, rfl⟩ ⟨rfl, ⟨⟨trivial, .inr ⟨rfl, rfl, rfl⟩⟩, .inr ⟨rfl, rfl, rfl⟩⟩, by decide, rfl, trivial⟩ (LeE.upd rfl rfl (LeE.upd rfl rfl (LeE.upd rfl rfl (LeE.upd rfl rfl (LeE.none rfl rfl))))) rfl
   replace H := cnf hb3869 H
   refine WPL.qg rfl rfl (lb hb3869) (q_mv (v := .lit (.int _ _)) rfl) rfl ?_
   refine WPL.qg rfl rfl (lb hb3869) (q_lss rfl rfl) rfl ?_
   refine WPL.q (q_pickF (v := .lit (.bool _)) (lb hb3869) rfl) rfl ?_
   refine WPL.q (q_mv (v := .lit (.bool _)) rfl) rfl ?_
   refine WPL.split (t := 58) (b := (decide (x3833 < (-18)))) rfl (fun hb3870 => ?_) (fun hb3870 => ?_)
   · replace H := cnt hb3870 H
     refine WPL.skipg (b' := true) rfl rfl (lb hb3870) rfl rfl ?_
     refine WPL.skipg (b' := true) rfl rfl (lb hb3870) rfl rfl ?_
     refine WPL.skipg (b' := true) rfl rfl (lb hb3870) rfl rfl ?_
     refine WPL.q (q_pickT (v := .lit (.bool _)) (lb hb3870) rfl) rfl ?_
     refine WPL.nilW ?_
     have q0 := (Option.some.inj H)
     subst q0
     exact W.wk [0, 1] hnp ⟨rfl, rfl, rfl⟩ ⟨rfl, ⟨⟨trivial, .inr ⟨rfl, rfl, rfl⟩⟩, .inr ⟨rfl, rfl, rfl⟩⟩, by decide, rfl, trivial⟩ (LeE.upd rfl rfl (LeE.upd rfl rfl (LeE.upd rfl rfl (LeE.upd rfl rfl (LeE.none rfl rfl))))) rfl
   replace H := cnf hb3870 H
   refine WPL.qg rfl rfl (lb hb3870) (q_load_ag ag51 rfl rfl (Nat.le_of_ble_eq_true rfl)) rfl ?_
   obtain ⟨x3873, h3871, H⟩ := bnd H
   refine WPL.cg rfl rfl (lb hb3870) (runs_call (s := []) (t := []) (N := 2) (bor := []) fn63 rfl (s_quireref09_fits k x3834 x3835 x3873 h3871) ⟨rfl, trivial, by decide, rfl, trivial⟩ rfl trivial (.ren rfl rfl .nil) rfl trivial rfl) rfl ?_
   refine WPL.qg rfl rfl (lb hb3870) (q_not rfl) rfl ?_
   refine WPL.q (q_pickF (v := .lit (.bool _)) (lb hb3870) rfl) rfl ?_
   refine WPL.nilW ?_
   have q0 := (Option.some.inj H)
   subst q0
   exact W.wk [0, 1] hnp ⟨rfl, rfl, rfl⟩ ⟨rfl, ⟨⟨trivial, .inr ⟨rfl, rfl, rfl⟩⟩, .inr ⟨rfl, rfl, rfl⟩⟩, by decide, rfl, trivial⟩ (LeE.upd rfl rfl (LeE.upd rfl rfl (LeE.upd rfl rfl (LeE.upd rfl rfl (LeE.none rfl rfl))))) rfl
 rintro _ _ _ ⟨rfl, rfl, rfl⟩
 refine W.now ?_
 refine Then.n ?_
 refine WP.cond (t := x3869) rfl (fun hb3874 => ?_) (fun hb3874 => ?_)
 · replace H := cnt hb3874 H
   refine WP.seq ?_
   refine WP.region ?_
   refine WPL.q (q_build bu23 rfl) rfl ?_
   refine WPL.s (s_store sz23 rfl rfl rfl rfl rfl) ?_
   refine WPL.q (q_as (v := .lit (.int _ _)) rfl) rfl ?_
   refine WPL.nilW ?_
   refine W.now ?_
   refine Then.n ?_
   refine WP.retW ?_
   have q0 := (Prod.mk.inj (Option.some.inj H)).1
   have q1 := (Prod.mk.inj (Prod.mk.inj (Option.some.inj H)).2).1
   have q2 := (Prod.mk.inj (Prod.mk.inj (Option.some.inj H)).2).2
   subst q0
   subst q1
   subst q2
   exact W.now (Then.r (BodyR.mkR trivial rfl [0] ⟨rfl, rfl⟩ ⟨rfl, ⟨trivial, .inr ⟨rfl, rfl, rfl⟩⟩, by decide, rfl, trivial⟩ rfl rfl))
 replace H := cnf hb3874 H
 refine WP.skipW ?_
 refine W.now ?_
 refine Then.n ?_
 refine WP.seq ?_
 refine WP.region ?_
 refine WPL.q (q_as (v := .lit (.int _ _)) rfl) rfl ?_
 refine WPL.nilW ?_
 refine W.now ?_
 refine Then.n ?_
 refine WP.seq ?_
 refine WP.seq ?_
 refine WP.region ?_
 refine WPL.q (q_fieldAddr fi51_1 rfl rfl) rfl ?_
 refine WPL.q (q_load sc49 rfl rfl rfl) rfl ?_
 refine WPL.q (q_len_ro sl49 rfl) rfl ?_
 obtain ⟨x3876, h3876, H⟩ := bnd H
 refine WPL.q (q_nm (q_sub rfl rfl) (nm_int h3876)) rfl ?_
 refine WPL.q (q_as (v := .lit (.int _ _)) rfl) rfl ?_
 refine WPL.nilW ?_
 refine W.now ?_
 refine Then.n ?_
 refine WP.block ?_
 refine WP.cv (Cv.weak (E' := (((((Env.none.upd 2 (.ptr 0 0)).upd 4 (.ptr 1 0)).upd 5 (.lit (.int .i64 x3833))).upd 6 (.lit (.int .i64 0))).upd 7 (.lit (.int .i64 x3876)))) (M' := ((Mem.nil.push (.cells 23 [.lit (.int .i64 0), .lit (.int .i64 0)])).push (.cells 51 [.lit (.bool x3834), .ro (Rd.slice (Rd.int .i64)) false x3835]))) [0, 1] hnp ⟨rfl, ⟨⟨trivial, .inr ⟨rfl, rfl, rfl⟩⟩, .inr ⟨rfl, rfl, rfl⟩⟩, by decide, rfl, trivial⟩ (LeE.upd rfl rfl (LeE.upd rfl rfl (LeE.upd rfl rfl (LeE.upd rfl rfl (LeE.upd rfl rfl (LeE.none rfl rfl))))))) ?_
 obtain ⟨x3907, H3921, H⟩ := bnd H
 refine WP.monoW (Q := fun x E M => x = .exit 4 ∧ E = (((Env.none.upd 2 (.ptr 0 0)).upd 5 (.lit (.int .i64 x3833))).upd 6 (.lit (.int .i64 x3907))) ∧ M = (Mem.nil.push (.cells 23 [.lit (.int .i64 0), .lit (.int .i64 0)]))) ?_ ?_
 · refine WP.loop (β := Int × Int) (fun n b => g_quireref09_Tell_l2 k x3834 x3835 n b.1 b.2 = some x3907) (fun b => (((((Env.none.upd 2 (.ptr 0 0)).upd 4 (.ptr 1 0)).upd 5 (.lit (.int .i64 x3833))).upd 6 (.lit (.int .i64 b.1))).upd 7 (.lit (.int .i64 b.2)))) (fun b => ((Mem.nil.push (.cells 23 [.lit (.int .i64 0), .lit (.int .i64 0)])).push (.cells 51 [.lit (.bool x3834), .ro (Rd.slice (Rd.int .i64)) false x3835]))) k (0, x3876) H3921 rfl rfl ?_
   rintro n ⟨x3891, x3892⟩ H
   obtain _ | n := n
   · exact nf rfl H
   rw [g_quireref09_Tell_l2.eq_2] at H
   show WP _ _ _ _ (((((Env.none.upd 2 (.ptr 0 0)).upd 4 (.ptr 1 0)).upd 5 (.lit (.int .i64 x3833))).upd 6 (.lit (.int .i64 x3891))).upd 7 (.lit (.int .i64 x3892))) ((Mem.nil.push (.cells 23 [.lit (.int .i64 0), .lit (.int .i64 0)])).push (.cells 51 [.lit (.bool x3834), .ro (Rd.slice (Rd.int .i64)) false x3835])) _
   refine WP.seq ?_
   refine WP.seq ?_
   refine WP.region ?_
   refine WPL.q (q_mv (v := .lit (.int _ _)) rfl) rfl ?_
   refine WPL.q (q_geq rfl rfl) rfl ?_
   refine WPL.nilW ?_
   refine W.now ?_
   refine Then.n ?_
   refine WP.cond (t := (decide (0 ≤ x3892))) rfl (fun hb3908 => ?_) (fun hb3908 => ?_)
   · replace H := cnt hb3908 H
     refine WP.skipW ?_
     refine W.now ?_
     refine Then.n ?_
     refine WP.seq ?_
     obtain ⟨x3915, H3920, H⟩ := bnd H
     refine WP.monoW (Q := fun x E M => x = .normal ∧ E = (((((Env.none.upd 2 (.ptr 0 0)).upd 4 (.ptr 1 0)).upd 5 (.lit (.int .i64 x3833))).upd 6 (.lit (.int .i64 x3915))).upd 7 (.lit (.int .i64 x3892))) ∧ M = ((Mem.nil.push (.cells 23 [.lit (.int .i64 0), .lit (.int .i64 0)])).push (.cells 51 [.lit (.bool x3834), .ro (Rd.slice (Rd.int .i64)) false x3835]))) ?_ ?_
     · clear H
       have H := H3920
       clear H3920
       refine WP.block ?_
       refine WP.seq ?_
       refine WP.region ?_
       refine WPL.q (q_fieldAddr fi51_0 rfl rfl) rfl ?_
       refine WPL.q (q_load sc4 rfl rfl rfl) rfl ?_
       refine WPL.nilW ?_
       refine W.now ?_
       refine Then.n ?_
       refine WP.cond (t := x3834) rfl (fun hb3915 => ?_) (fun hb3915 => ?_)
       · replace H := cnt hb3915 H
         refine WP.region ?_
         refine WPL.q (q_mv (v := .lit (.int _ _)) rfl) rfl ?_
         refine WPL.q (q_mul rfl rfl) rfl ?_
         refine WPL.q (q_fieldAddr fi51_1 rfl rfl) rfl ?_
         refine WPL.q (q_load sc49 rfl rfl rfl) rfl ?_
         refine WPL.q (q_mv (v := .lit (.int _ _)) rfl) rfl ?_
         obtain ⟨x3917, h3917, H⟩ := bnd H
         refine WPL.q (q_index_ro sl49 rfl rfl rfl h3917) rfl ?_
         refine WPL.q (q_load_sc sc3 rfl) rfl ?_
         obtain ⟨x3918, h3918, H⟩ := bnd H
         refine WPL.q (q_nm (q_sub rfl rfl) (nm_int h3918)) rfl ?_
         refine WPL.q (q_as (v := .lit (.int _ _)) rfl) rfl ?_
         refine WPL.nilW ?_
         have q0 := (Option.some.inj H)
         subst q0
         exact W.wk [0, 1] hnp (InBlock.n ⟨rfl, rfl, rfl⟩) ⟨rfl, ⟨⟨trivial, .inr ⟨rfl, rfl, rfl⟩⟩, .inr ⟨rfl, rfl, rfl⟩⟩, by decide, rfl, trivial⟩ (LeE.upd rfl rfl (LeE.upd rfl rfl (LeE.upd rfl rfl (LeE.upd rfl rfl (LeE.upd rfl rfl (LeE.none rfl rfl)))))) rfl
       replace H := cnf hb3915 H
       refine WP.region ?_
       refine WPL.q (q_mv (v := .lit (.int _ _)) rfl) rfl ?_
       refine WPL.q (q_mul rfl rfl) rfl ?_
       refine WPL.q (q_fieldAddr fi51_1 rfl rfl) rfl ?_
       refine WPL.q (q_load sc49 rfl rfl rfl) rfl ?_
       refine WPL.q (q_mv (v := .lit (.int _ _)) rfl) rfl ?_
       obtain ⟨x3919, h3919, H⟩ := bnd H
       refine WPL.q (q_index_ro sl49 rfl rfl rfl h3919) rfl ?_
       refine WPL.q (q_load_sc sc3 rfl) rfl ?_
       obtain ⟨x3920, h3920, H⟩ := bnd H
       refine WPL.q (q_nm (q_add rfl rfl) (nm_int h3920)) rfl ?_
       refine WPL.q (q_as (v := .lit (.int _ _)) rfl) rfl ?_
       refine WPL.nilW ?_
       have q0 := (Option.some.inj H)
       subst q0
       exact W.wk [0, 1] hnp (InBlock.n ⟨rfl, rfl, rfl⟩) ⟨rfl, ⟨⟨trivial, .inr ⟨rfl, rfl, rfl⟩⟩, .inr ⟨rfl, rfl, rfl⟩⟩, by decide, rfl, trivial⟩ (LeE.upd rfl rfl (LeE.upd rfl rfl (LeE.upd rfl rfl (LeE.upd rfl rfl (LeE.upd rfl rfl (LeE.none rfl rfl)))))) rfl
     rintro _ _ _ ⟨rfl, rfl, rfl⟩
     refine W.now ?_
     refine Then.n ?_
     refine WP.region ?_
     refine WPL.q (q_mv (v := .lit (.int _ _)) rfl) rfl ?_
     refine WPL.q (q_sub rfl rfl) rfl ?_
     refine WPL.q (q_as (v := .lit (.int _ _)) rfl) rfl ?_
     refine WPL.nilW ?_
     exact W.wk [0, 1] hnp (Then.n ⟨n, (x3915, (IntKind.wrap .i64 (x3892 - 1))), Nat.lt_succ_self n, H, rfl, rfl⟩) ⟨rfl, ⟨⟨trivial, .inr ⟨rfl, rfl, rfl⟩⟩, .inr ⟨rfl, rfl, rfl⟩⟩, by decide, rfl, trivial⟩ (LeE.upd rfl rfl (LeE.upd rfl rfl (LeE.upd rfl rfl (LeE.upd rfl rfl (LeE.upd rfl rfl (LeE.none rfl rfl)))))) rfl
   replace H := cnf hb3908 H
   refine WP.exitW ?_
   have q0 := (Option.some.inj H)
   subst q0
   exact W.wk [0] hnp (Then.x (Then.x ⟨rfl, rfl, rfl⟩)) ⟨rfl, ⟨trivial, .inr ⟨rfl, rfl, rfl⟩⟩, by decide, rfl, trivial⟩ (LeE.upd rfl rfl (LeE.upd rfl rfl (LeE.upd rfl rfl (LeE.none rfl rfl)))) rfl
 rintro _ _ _ ⟨rfl, rfl, rfl⟩
 refine W.now ?_
 refine InBlock.x0 ?_
 refine Then.n ?_
 refine WP.seq ?_
 refine WP.region ?_
 refine WPL.q (q_mv (v := .lit (.int _ _)) rfl) rfl ?_
 refine WPL.q (q_mv (v := .lit (.int _ _)) rfl) rfl ?_
 refine WPL.q (q_build bu23 rfl) rfl ?_
 refine WPL.s (s_store sz23 rfl rfl rfl rfl rfl) ?_
 refine WPL.q (q_as (v := .lit (.int _ _)) rfl) rfl ?_
 refine WPL.nilW ?_
 refine W.now ?_
 refine Then.n ?_
 refine WP.retW ?_
 have q0 := (Prod.mk.inj (Option.some.inj H)).1
 have q1 := (Prod.mk.inj (Prod.mk.inj (Option.some.inj H)).2).1
 have q2 := (Prod.mk.inj (Prod.mk.inj (Option.some.inj H)).2).2
 subst q0
 subst q1
 subst q2
 exact W.now (BodyR.mkR trivial rfl [0] ⟨rfl, rfl⟩ ⟨rfl, ⟨trivial, .inr ⟨rfl, rfl, rfl⟩⟩, by decide, rfl, trivial⟩ rfl rfl)
set_option maxRecDepth 100000 in
set_option maxHeartbeats 4000000 in
theorem s_quireref09_Div (k : Nat) (x1361 : Int) (x1362 : Int) (x1363 : Int) (x1364 : Int) (x3935 : Int) (x3936 : Int) (x3937 : Int) (H : g_quireref09_Div k x1361 x1362 x1363 x1364 = some (x3935, x3936, x3937)) : Go.Q.Spec Try.prog 8 0 [.agg [.lit (.int .i64 x1361), .lit (.int .i64 x1362)], .agg [.lit (.int .i64 x1363), .lit (.int .i64 x1364)]] Mem.nil (fun o M => o = .ret (.tup [.agg [.lit (.int .i64 x3936), .lit (.int .i64 x3937)], .lit (.int .i64 x3935)]) ∧ M = (Mem.nil.push (.cells 23 [.lit (.int .i64 x3936), .lit (.int .i64 x3937)]))) := by
 unfold g_quireref09_Div at H
 refine Go.Q.Spec.of_bodyR (az := [(23, 2)]) (rs := [.cell 4 23, .tmp 5]) (nt := 69) Try.func8 rfl rfl (by intro t T h; simp at h; rcases h with ⟨rfl, rfl⟩ <;> first | exact ag23) rfl rfl fun cx hnp => ?_
 refine WP.seq ?_
 refine WP.region ?_
 refine WPL.d (d_box rfl rfl) rfl ?_
 refine WPL.d (d_box rfl rfl) rfl ?_
 refine WPL.d (d_alloc ze23 rfl) rfl ?_
 refine WPL.q (q_as (v := .lit (.int _ _)) rfl) rfl ?_
 refine WPL.nilW ?_
 refine W.now ?_
 refine Then.n ?_
 refine WP.seq ?_
 refine WP.region ?_
 refine WPL.q (q_load_ag ag23 rfl rfl (Nat.le_of_ble_eq_true rfl)) rfl ?_
 obtain ⟨⟨x3939, x3940⟩, h3937, H⟩ := bnd H
 refine WPL.c (runs_call (s := []) (t := [3]) (N := 4) (bor := []) fn32 rfl (s_quireref09_num k x1361 x1362 x3939 x3940 h3937) ⟨rfl, trivial, by decide, rfl, trivial⟩ rfl trivial (.ren rfl rfl .nil) rfl ⟨trivial, rfl⟩ rfl) rfl ?_
 refine WPL.q (q_mv (v := .tup _) rfl) rfl ?_
 refine WPL.q (q_extract rfl rfl) rfl ?_
 refine WPL.q (q_extract rfl rfl) rfl ?_
 refine WPL.d (d_alloc ze53 rfl) rfl ?_
 refine WPL.s (s_store sz53 rfl rfl rfl rfl rfl) ?_
 refine WPL.q (q_as (v := .lit (.bool _)) rfl) rfl ?_
 refine WPL.nilW ?_
 refine W.now ?_
 refine Then.n ?_
 refine WP.seq ?_
 refine WP.region ?_
 refine WPL.q (q_load_ag ag23 rfl rfl (Nat.le_of_ble_eq_true rfl)) rfl ?_
 obtain ⟨⟨x3942, x3943⟩, h3940, H⟩ := bnd H
 refine WPL.c (runs_call (s := []) (t := [5]) (N := 6) (bor := []) fn32 rfl (s_quireref09_num k x1363 x1364 x3942 x3943 h3940) ⟨rfl, trivial, by decide, rfl, trivial⟩ rfl trivial (.ren rfl rfl .nil) rfl ⟨trivial, rfl⟩ rfl) rfl ?_
 refine WPL.q (q_mv (v := .tup _) rfl) rfl ?_
 refine WPL.q (q_extract rfl rfl) rfl ?_
 refine WPL.q (q_extract rfl rfl) rfl ?_
 refine WPL.d (d_alloc ze53 rfl) rfl ?_
 refine WPL.s (s_store sz53 rfl rfl rfl rfl rfl) ?_
 refine WPL.q (q_as (v := .lit (.bool _)) rfl) rfl ?_
 refine WPL.nilW ?_
 refine W.now ?_
 refine Then.n ?_
 refine WP.seq ?_
 refine WP.seq ?_
 obtain ⟨x3950, H3951, H⟩ := bnd H
 refine WP.monoW (Q := fun x E M => x = .normal ∧ E = ((((Env.none.upd 4 (.ptr 0 0)).upd 6 (.ptr 1 0)).upd 8 (.ptr 2 0)).upd 27 (.lit (.bool x3950))) ∧ M = (((Mem.nil.push (.cells 23 [.lit (.int .i64 0), .lit (.int .i64 0)])).push (.cells 53 [.lit (.bool (decide (x1361 < 0))), .ro (Rd.slice (Rd.int .i64)) false x3940, .lit (.int .i64 x1362)])).push (.cells 53 [.lit (.bool (decide (x1363 < 0))), .ro (Rd.slice (Rd.int .i64)) false x3943, .lit (.int .i64 x1364)]))) ?_ ?_
 · clear H
   have H := H3951
   clear H3951
   refine WP.region ?_
   refine WPL.q (q_mv (v := .lit (.bool _)) rfl) rfl ?_
   refine WPL.q (q_not rfl) rfl ?_
   refine WPL.q (q_mv (v := .lit (.bool _)) rfl) rfl ?_
   refine WPL.split (t := 24) (b := (!x3939)) rfl (fun hb3950 => ?_) (fun hb3950 => ?_)
   · replace H := cnt hb3950 H
     refine WPL.skipg (b' := true) rfl rfl (lb hb3950) rfl rfl ?_
     refine WPL.skipg (b' := true) rfl rfl (lb hb3950) rfl rfl ?_
     refine WPL.q (q_pickT (v := .lit (.bool _)) (lb hb3950) rfl) rfl ?_
     refine WPL.nilW ?_
     have q0 := (Option.some.inj H)
     subst q0
     exact W.wk [2, 4, 6] hnp ⟨rfl, rfl, rfl⟩ ⟨rfl, ⟨⟨⟨trivial, .inr ⟨rfl, rfl, rfl⟩⟩, .inr ⟨rfl, rfl, rfl⟩⟩, .inr ⟨rfl, rfl, rfl⟩⟩, by decide, rfl, trivial⟩ (LeE.upd rfl rfl (LeE.upd rfl rfl (LeE.upd rfl rfl (LeE.upd rfl rfl (LeE.none rfl rfl))))) rfl
   replace H := cnf hb3950 H
   refine WPL.qg rfl rfl (lb hb3950) (q_mv (v := .lit (.bool _)) rfl) rfl ?_
   refine WPL.qg rfl rfl (lb hb3950) (q_not rfl) rfl ?_
   refine WPL.q (q_pickF (v := .lit (.bool _)) (lb hb3950) rfl) rfl ?_
   refine WPL.nilW ?_
   have q0 := (Option.some.inj H)
   subst q0
   exact W.wk [2, 4, 6] hnp ⟨rfl, rfl, rfl⟩ ⟨rfl, ⟨⟨⟨trivial, .inr ⟨rfl, rfl, rfl⟩⟩, .inr ⟨rfl, rfl, rfl⟩⟩, .inr ⟨rfl, rfl, rfl⟩⟩, by decide, rfl, trivial⟩ (LeE.upd rfl rfl (LeE.upd rfl rfl (LeE.upd rfl rfl (LeE.upd rfl rfl (LeE.none rfl rfl))))) rfl
 rintro _ _ _ ⟨rfl, rfl, rfl⟩
 refine W.now ?_
 refine Then.n ?_
 refine WP.cond (t := x3950) rfl (fun hb3952 => ?_) (fun hb3952 => ?_)
 · replace H := cnt hb3952 H
   refine WP.seq ?_
   refine WP.region ?_
   refine WPL.q (q_build bu23 rfl) rfl ?_
   refine WPL.s (s_store sz23 rfl rfl rfl rfl rfl) ?_
   refine WPL.q (q_as (v := .lit (.int _ _)) rfl) rfl ?_
   refine WPL.nilW ?_
   refine W.now ?_
   refine Then.n ?_
   refine WP.retW ?_
   have q0 := (Prod.mk.inj (Option.some.inj H)).1
   have q1 := (Prod.mk.inj (Prod.mk.inj (Option.some.inj H)).2).1
   have q2 := (Prod.mk.inj (Prod.mk.inj (Option.some.inj H)).2).2
   subst q0
   subst q1
   subst q2
   exact W.now (Then.r (BodyR.mkR trivial rfl [0] ⟨rfl, rfl⟩ ⟨rfl, ⟨trivial, .inr ⟨rfl, rfl, rfl⟩⟩, by decide, rfl, trivial⟩ rfl rfl))
 replace H := cnf hb3952 H
 refine WP.skipW ?_
 refine W.now ?_
 refine Then.n ?_
 refine WP.seq ?_
 refine WP.seq ?_
 refine WP.region ?_
 refine WPL.q (q_fieldAddr fi53_0 rfl rfl) rfl ?_
 refine WPL.q (q_fieldAddr fi51_1 rfl rfl) rfl ?_
 refine WPL.q (q_load sc49 rfl rfl rfl) rfl ?_
 refine WPL.q (q_len_ro sl49 rfl) rfl ?_
 obtain ⟨x3956, h3956, H⟩ := bnd H
 refine WPL.q (q_nm (q_eql rfl rfl) (nm_bool h3956)) rfl ?_
 refine WPL.nilW ?_
 refine W.now ?_
 refine Then.n ?_
 refine WP.cond (t := x3956) rfl (fun hb3956 => ?_) (fun hb3956 => ?_)
 · replace H := cnt hb3956 H
   refine WP.seq ?_
   refine WP.region ?_
   refine WPL.q (q_build bu23 rfl) rfl ?_
   refine WPL.s (s_store sz23 rfl rfl rfl rfl rfl) ?_
   refine WPL.q (q_as (v := .lit (.int _ _)) rfl) rfl ?_
   refine WPL.nilW ?_
   refine W.now ?_
   refine Then.n ?_
   refine WP.retW ?_
   have q0 := (Prod.mk.inj (Option.some.inj H)).1
   have q1 := (Prod.mk.inj (Prod.mk.inj (Option.some.inj H)).2).1
   have q2 := (Prod.mk.inj (Prod.mk.inj (Option.some.inj H)).2).2
   subst q0
   subst q1
   subst q2
   exact W.now (Then.r (BodyR.mkR trivial rfl [0] ⟨rfl, rfl⟩ ⟨rfl, ⟨trivial, .inr ⟨rfl, rfl, rfl⟩⟩, by decide, rfl, trivial⟩ rfl rfl))
 replace H := cnf hb3956 H
 refine WP.skipW ?_
 refine W.now ?_
 refine Then.n ?_
 refine WP.seq ?_
 obtain ⟨⟨x4098, x4099, x4100, x4101⟩, H4241, H⟩ := bnd H
 refine WP.monoW (Q := fun x E M => x = .normal ∧ E = (((((Env.none.upd 4 (.ptr 0 0)).upd 6 (.ptr 1 0)).upd 8 (.ptr 2 0)).upd 10 (.ptr 3 0)).upd 11 (.ptr 4 0)) ∧ M = (((((Mem.nil.push (.cells 23 [.lit (.int .i64 0), .lit (.int .i64 0)])).push (.cells 53 [.lit (.bool (decide (x1361 < 0))), .ro (Rd.slice (Rd.int .i64)) false x3940, .lit (.int .i64 x1362)])).push (.cells 53 [.lit (.bool (decide (x1363 < 0))), .ro (Rd.slice (Rd.int .i64)) false x3943, .lit (.int .i64 x1364)])).push (.cells 51 [.lit (.bool x4098), .ro (Rd.slice (Rd.int .i64)) false x4099])).push (.cells 51 [.lit (.bool x4100), .ro (Rd.slice (Rd.int .i64)) false x4101]))) ?_ ?_
 · clear H
   have H := H4241
   clear H4241
   refine WP.regionD' 13 [1, 2] [] mixed rfl ?_
   refine WPD.takeT 0 rfl (by kernel_rfl) (q_fieldAddr fi53_0 rfl rfl) rfl ?_
   refine WPD.takeT 3 rfl (by kernel_rfl) (q_fieldAddr fi53_0 rfl rfl) rfl ?_
   refine WPD.take 1 rfl (by kernel_rfl) (q_load_ag ag51 rfl rfl (Nat.le_of_ble_eq_true rfl)) rfl rfl ?_
   refine WPD.take 4 rfl (by kernel_rfl) (q_load_ag ag51 rfl rfl (Nat.le_of_ble_eq_true rfl)) rfl rfl ?_
   refine WPD.of3 2 9 10 (by kernel_rfl) ?_ ?_ ?_
   · obtain ⟨⟨x4173, x4174⟩, h4171, H⟩ := bnd H
     refine WPD1.eff 2 [1, 2] [] rfl (runs_call (s := []) (t := [3]) (N := 4) (bor := []) fn34 rfl (s_quireref09_Shift k (decide (x1361 < 0)) x3940 90 x4173 x4174 h4171) ⟨rfl, trivial, by decide, rfl, trivial⟩ rfl trivial (.ren rfl rfl (.ren rfl rfl .nil)) rfl ⟨trivial, rfl⟩ rfl) rfl rfl ?_
     refine WPD.of3 5 9 10 (by kernel_rfl) ?_ ?_ ?_
     · obtain ⟨⟨x4176, x4177, x4178, x4179⟩, h4174, H⟩ := bnd H
       refine WPD1.eff 5 [1, 2] [] rfl (runs_call (s := []) (t := [4, 5]) (N := 6) (bor := []) fn33 rfl (s_quireref09_Quo k x4173 x4174 (decide (x1363 < 0)) x3943 x4176 x4177 x4178 x4179 h4174) ⟨rfl, trivial, by decide, rfl, trivial⟩ rfl trivial (.ren rfl rfl (.ren rfl rfl .nil)) rfl ⟨⟨trivial, rfl⟩, rfl⟩ rfl) rfl rfl ?_
       refine WPD.takeT 6 rfl (by kernel_rfl) (q_mv (v := .tup _) rfl) rfl ?_
       refine WPD.takeT 7 rfl (by kernel_rfl) (q_extract rfl rfl) rfl ?_
       refine WPD.takeT 8 rfl (by kernel_rfl) (q_extract rfl rfl) rfl ?_
       refine WPD.of2 9 10 (by kernel_rfl) ?_ ?_
       · refine WPD1.eff 9 [1, 2] [] rfl (Does.runs (d_alloc ze51 rfl)) rfl rfl ?_
         refine WPD.eff 10 [1, 2] [] rfl (by kernel_rfl) (Does.runs (d_alloc ze51 rfl)) rfl rfl ?_
         refine WPD.effS 11 [1, 2] [] rfl (by kernel_rfl) (s_store sz51 rfl rfl rfl rfl rfl) rfl ?_
         refine WPD.effS 12 [1, 2] [] rfl (by kernel_rfl) (s_store sz51 rfl rfl rfl rfl rfl) rfl ?_
         refine WPD.doneW (by kernel_rfl) ?_
         have q0 := (Prod.mk.inj (Option.some.inj H)).1
         have q1 := (Prod.mk.inj (Prod.mk.inj (Option.some.inj H)).2).1
         have q2 := (Prod.mk.inj (Prod.mk.inj (Prod.mk.inj (Option.some.inj H)).2).2).1
         have q3 := (Prod.mk.inj (Prod.mk.inj (Prod.mk.inj (Option.some.inj H)).2).2).2
         subst q0
         subst q1
         subst q2
         subst q3
         exact W.wk [0, 1, 2, 6, 7] hnp ⟨rfl, rfl, rfl⟩ ⟨rfl, ⟨⟨⟨⟨⟨trivial, .inr ⟨rfl, rfl, rfl⟩⟩, .inr ⟨rfl, rfl, rfl⟩⟩, .inr ⟨rfl, rfl, rfl⟩⟩, .inr ⟨rfl, rfl, rfl⟩⟩, .inr ⟨rfl, rfl, rfl⟩⟩, by decide, rfl, trivial⟩ (LeE.upd rfl rfl (LeE.upd rfl rfl (LeE.upd rfl rfl (LeE.upd rfl rfl (LeE.upd rfl rfl (LeE.none rfl rfl)))))) rfl
       refine WPD1.eff 10 [1, 2] [] rfl (Does.runs (d_alloc ze51 rfl)) rfl rfl ?_
       refine WPD.eff 9 [1, 2] [] rfl (by kernel_rfl) (Does.runs (d_alloc ze51 rfl)) rfl rfl ?_
       refine WPD.effS 11 [1, 2] [] rfl (by kernel_rfl) (s_store sz51 rfl rfl rfl rfl rfl) rfl ?_
       refine WPD.effS 12 [1, 2] [] rfl (by kernel_rfl) (s_store sz51 rfl rfl rfl rfl rfl) rfl ?_
       refine WPD.doneW (by kernel_rfl) ?_
       have q0 := (Prod.mk.inj (Option.some.inj H)).1
       have q1 := (Prod.mk.inj (Prod.mk.inj (Option.some.inj H)).2).1
       have q2 := (Prod.mk.inj (Prod.mk.inj (Prod.mk.inj (Option.some.inj H)).2).2).1
       have q3 := (Prod.mk.inj (Prod.mk.inj (Prod.mk.inj (Option.some.inj H)).2).2).2
       subst q0
       subst q1
       subst q2
       subst q3
       exact W.wk [0, 1, 2, 7, 6] hnp ⟨rfl, rfl, rfl⟩ ⟨rfl, ⟨⟨⟨⟨⟨trivial, .inr ⟨rfl, rfl, rfl⟩⟩, .inr ⟨rfl, rfl, rfl⟩⟩, .inr ⟨rfl, rfl, rfl⟩⟩, .inr ⟨rfl, rfl, rfl⟩⟩, .inr ⟨rfl, rfl, rfl⟩⟩, by decide, rfl, trivial⟩ (LeE.upd rfl rfl (LeE.upd rfl rfl (LeE.upd rfl rfl (LeE.upd rfl rfl (LeE.upd rfl rfl (LeE.none rfl rfl)))))) rfl
     · refine WPD1.eff 9 [1, 2] [] rfl (Does.runs (d_alloc ze51 rfl)) rfl rfl ?_
       refine WPD.of2 5 10 (by kernel_rfl) ?_ ?_
       · obtain ⟨⟨x4181, x4182, x4183, x4184⟩, h4179, H⟩ := bnd H
         refine WPD1.eff 5 [1, 2] [] rfl (runs_call (s := []) (t := [5, 6]) (N := 7) (bor := []) fn33 rfl (s_quireref09_Quo k x4173 x4174 (decide (x1363 < 0)) x3943 x4181 x4182 x4183 x4184 h4179) ⟨rfl, trivial, by decide, rfl, trivial⟩ rfl trivial (.ren rfl rfl (.ren rfl rfl .nil)) rfl ⟨⟨trivial, rfl⟩, rfl⟩ rfl) rfl rfl ?_
         refine WPD.takeT 6 rfl (by kernel_rfl) (q_mv (v := .tup _) rfl) rfl ?_
         refine WPD.takeT 7 rfl (by kernel_rfl) (q_extract rfl rfl) rfl ?_
         refine WPD.takeT 8 rfl (by kernel_rfl) (q_extract rfl rfl) rfl ?_
         refine WPD.eff 10 [1, 2] [] rfl (by kernel_rfl) (Does.runs (d_alloc ze51 rfl)) rfl rfl ?_
         refine WPD.effS 11 [1, 2] [] rfl (by kernel_rfl) (s_store sz51 rfl rfl rfl rfl rfl) rfl ?_
         refine WPD.effS 12 [1, 2] [] rfl (by kernel_rfl) (s_store sz51 rfl rfl rfl rfl rfl) rfl ?_
         refine WPD.doneW (by kernel_rfl) ?_
         have q0 := (Prod.mk.inj (Option.some.inj H)).1
         have q1 := (Prod.mk.inj (Prod.mk.inj (Option.some.inj H)).2).1
         have q2 := (Prod.mk.inj (Prod.mk.inj (Prod.mk.inj (Option.some.inj H)).2).2).1
         have q3 := (Prod.mk.inj (Prod.mk.inj (Prod.mk.inj (Option.some.inj H)).2).2).2
         subst q0
         subst q1
         subst q2
         subst q3
         exact W.wk [0, 1, 2, 4, 7] hnp ⟨rfl, rfl, rfl⟩ ⟨rfl, ⟨⟨⟨⟨⟨trivial, .inr ⟨rfl, rfl, rfl⟩⟩, .inr ⟨rfl, rfl, rfl⟩⟩, .inr ⟨rfl, rfl, rfl⟩⟩, .inr ⟨rfl, rfl, rfl⟩⟩, .inr ⟨rfl, rfl, rfl⟩⟩, by decide, rfl, trivial⟩ (LeE.upd rfl rfl (LeE.upd rfl rfl (LeE.upd rfl rfl (LeE.upd rfl rfl (LeE.upd rfl rfl (LeE.none rfl rfl)))))) rfl
       refine WPD1.eff 10 [1, 2] [] rfl (Does.runs (d_alloc ze51 rfl)) rfl rfl ?_
       obtain ⟨⟨x4186, x4187, x4188, x4189⟩, h4184, H⟩ := bnd H
       refine WPD.eff 5 [1, 2] [] rfl (by kernel_rfl) (runs_call (s := []) (t := [6, 7]) (N := 8) (bor := []) fn33 rfl (s_quireref09_Quo k x4173 x4174 (decide (x1363 < 0)) x3943 x4186 x4187 x4188 x4189 h4184) ⟨rfl, trivial, by decide, rfl, trivial⟩ rfl trivial (.ren rfl rfl (.ren rfl rfl .nil)) rfl ⟨⟨trivial, rfl⟩, rfl⟩ rfl) rfl rfl ?_
       refine WPD.takeT 6 rfl (by kernel_rfl) (q_mv (v := .tup _) rfl) rfl ?_
       refine WPD.takeT 7 rfl (by kernel_rfl) (q_extract rfl rfl) rfl ?_
       refine WPD.takeT 8 rfl (by kernel_rfl) (q_extract rfl rfl) rfl ?_
       refine WPD.effS 11 [1, 2] [] rfl (by kernel_rfl) (s_store sz51 rfl rfl rfl rfl rfl) rfl ?_
       refine WPD.effS 12 [1, 2] [] rfl (by kernel_rfl) (s_store sz51 rfl rfl rfl rfl rfl) rfl ?_
       refine WPD.doneW (by kernel_rfl) ?_
       have q0 := (Prod.mk.inj (Option.some.inj H)).1
       have q1 := (Prod.mk.inj (Prod.mk.inj (Option.some.inj H)).2).1
       have q2 := (Prod.mk.inj (Prod.mk.inj (Prod.mk.inj (Option.some.inj H)).2).2).1
       have q3 := (Prod.mk.inj (Prod.mk.inj (Prod.mk.inj (Option.some.inj H)).2).2).2
       subst q0
       subst q1
       subst q2
       subst q3
       exact W.wk [0, 1, 2, 4, 5] hnp ⟨rfl, rfl, rfl⟩ ⟨rfl, ⟨⟨⟨⟨⟨trivial, .inr ⟨rfl, rfl, rfl⟩⟩, .inr ⟨rfl, rfl, rfl⟩⟩, .inr ⟨rfl, rfl, rfl⟩⟩, .inr ⟨rfl, rfl, rfl⟩⟩, .inr ⟨rfl, rfl, rfl⟩⟩, by decide, rfl, trivial⟩ (LeE.upd rfl rfl (LeE.upd rfl rfl (LeE.upd rfl rfl (LeE.upd rfl rfl (LeE.upd rfl rfl (LeE.none rfl rfl)))))) rfl
     refine WPD1.eff 10 [1, 2] [] rfl (Does.runs (d_alloc ze51 rfl)) rfl rfl ?_
     refine WPD.of2 5 9 (by kernel_rfl) ?_ ?_
     · obtain ⟨⟨x4191, x4192, x4193, x4194⟩, h4189, H⟩ := bnd H
       refine WPD1.eff 5 [1, 2] [] rfl (runs_call (s := []) (t := [5, 6]) (N := 7) (bor := []) fn33 rfl (s_quireref09_Quo k x4173 x4174 (decide (x1363 < 0)) x3943 x4191 x4192 x4193 x4194 h4189) ⟨rfl, trivial, by decide, rfl, trivial⟩ rfl trivial (.ren rfl rfl (.ren rfl rfl .nil)) rfl ⟨⟨trivial, rfl⟩, rfl⟩ rfl) rfl rfl ?_
       refine WPD.takeT 6 rfl (by kernel_rfl) (q_mv (v := .tup _) rfl) rfl ?_
       refine WPD.takeT 7 rfl (by kernel_rfl) (q_extract rfl rfl) rfl ?_
       refine WPD.takeT 8 rfl (by kernel_rfl) (q_extract rfl rfl) rfl ?_
       refine WPD.eff 9 [1, 2] [] rfl (by kernel_rfl) (Does.runs (d_alloc ze51 rfl)) rfl rfl ?_
       refine WPD.effS 11 [1, 2] [] rfl (by kernel_rfl) (s_store sz51 rfl rfl rfl rfl rfl) rfl ?_
       refine WPD.effS 12 [1, 2] [] rfl (by kernel_rfl) (s_store sz51 rfl rfl rfl rfl rfl) rfl ?_
       refine WPD.doneW (by kernel_rfl) ?_
       have q0 := (Prod.mk.inj (Option.some.inj H)).1
       have q1 := (Prod.mk.inj (Prod.mk.inj (Option.some.inj H)).2).1
       have q2 := (Prod.mk.inj (Prod.mk.inj (Prod.mk.inj (Option.some.inj H)).2).2).1
       have q3 := (Prod.mk.inj (Prod.mk.inj (Prod.mk.inj (Option.some.inj H)).2).2).2
       subst q0
       subst q1
       subst q2
       subst q3
       exact W.wk [0, 1, 2, 7, 4] hnp ⟨rfl, rfl, rfl⟩ ⟨rfl, ⟨⟨⟨⟨⟨trivial, .inr ⟨rfl, rfl, rfl⟩⟩, .inr ⟨rfl, rfl, rfl⟩⟩, .inr ⟨rfl, rfl, rfl⟩⟩, .inr ⟨rfl, rfl, rfl⟩⟩, .inr ⟨rfl, rfl, rfl⟩⟩, by decide, rfl, trivial⟩ (LeE.upd rfl rfl (LeE.upd rfl rfl (LeE.upd rfl rfl (LeE.upd rfl rfl (LeE.upd rfl rfl (LeE.none rfl rfl)))))) rfl
     refine WPD1.eff 9 [1, 2] [] rfl (Does.runs (d_alloc ze51 rfl)) rfl rfl ?_
     obtain ⟨⟨x4196, x4197, x4198, x4199⟩, h4194, H⟩ := bnd H
     refine WPD.eff 5 [1, 2] [] rfl (by kernel_rfl) (runs_call (s := []) (t := [6, 7]) (N := 8) (bor := []) fn33 rfl (s_quireref09_Quo k x4173 x4174 (decide (x1363 < 0)) x3943 x4196 x4197 x4198 x4199 h4194) ⟨rfl, trivial, by decide, rfl, trivial⟩ rfl trivial (.ren rfl rfl (.ren rfl rfl .nil)) rfl ⟨⟨trivial, rfl⟩, rfl⟩ rfl) rfl rfl ?_
     refine WPD.takeT 6 rfl (by kernel_rfl) (q_mv (v := .tup _) rfl) rfl ?_
     refine WPD.takeT 7 rfl (by kernel_rfl) (q_extract rfl rfl) rfl ?_
     refine WPD.takeT 8 rfl (by kernel_rfl) (q_extract rfl rfl) rfl ?_
     refine WPD.effS 11 [1, 2] [] rfl (by kernel_rfl) (s_store sz51 rfl rfl rfl rfl rfl) rfl ?_
     refine WPD.effS 12 [1, 2] [] rfl (by kernel_rfl) (s_store sz51 rfl rfl rfl rfl rfl) rfl ?_
     refine WPD.doneW (by kernel_rfl) ?_
     have q0 := (Prod.mk.inj (Option.some.inj H)).1
     have q1 := (Prod.mk.inj (Prod.mk.inj (Option.some.inj H)).2).1
     have q2 := (Prod.mk.inj (Prod.mk.inj (Prod.mk.inj (Option.some.inj H)).2).2).1
     have q3 := (Prod.mk.inj (Prod.mk.inj (Prod.mk.inj (Option.some.inj H)).2).2).2
     subst q0
     subst q1
     subst q2
     subst q3
     exact W.wk [0, 1, 2, 5, 4] hnp ⟨rfl, rfl, rfl⟩ ⟨rfl, ⟨⟨⟨⟨⟨trivial, .inr ⟨rfl, rfl, rfl⟩⟩, .inr ⟨rfl, rfl, rfl⟩⟩, .inr ⟨rfl, rfl, rfl⟩⟩, .inr ⟨rfl, rfl, rfl⟩⟩, .inr ⟨rfl, rfl, rfl⟩⟩, by decide, rfl, trivial⟩ (LeE.upd rfl rfl (LeE.upd rfl rfl (LeE.upd rfl rfl (LeE.upd rfl rfl (LeE.upd rfl rfl (LeE.none rfl rfl)))))) rfl
   · refine WPD1.eff 9 [1, 2] [] rfl (Does.runs (d_alloc ze51 rfl)) rfl rfl ?_
     refine WPD.of2 2 10 (by kernel_rfl) ?_ ?_
     · obtain ⟨⟨x4201, x4202⟩, h4199, H⟩ := bnd H
       refine WPD1.eff 2 [1, 2] [] rfl (runs_call (s := []) (t := [4]) (N := 5) (bor := []) fn34 rfl (s_quireref09_Shift k (decide (x1361 < 0)) x3940 90 x4201 x4202 h4199) ⟨rfl, trivial, by decide, rfl, trivial⟩ rfl trivial (.ren rfl rfl (.ren rfl rfl .nil)) rfl ⟨trivial, rfl⟩ rfl) rfl rfl ?_
       refine WPD.of2 5 10 (by kernel_rfl) ?_ ?_
       · obtain ⟨⟨x4204, x4205, x4206, x4207⟩, h4202, H⟩ := bnd H
         refine WPD1.eff 5 [1, 2] [] rfl (runs_call (s := []) (t := [5, 6]) (N := 7) (bor := []) fn33 rfl (s_quireref09_Quo k x4201 x4202 (decide (x1363 < 0)) x3943 x4204 x4205 x4206 x4207 h4202) ⟨rfl, trivial, by decide, rfl, trivial⟩ rfl trivial (.ren rfl rfl (.ren rfl rfl .nil)) rfl ⟨⟨trivial, rfl⟩, rfl⟩ rfl) rfl rfl ?_
         refine WPD.takeT 6 rfl (by kernel_rfl) (q_mv (v := .tup _) rfl) rfl ?_
         refine WPD.takeT 7 rfl (by kernel_rfl) (q_extract rfl rfl) rfl ?_
         refine WPD.takeT 8 rfl (by kernel_rfl) (q_extract rfl rfl) rfl ?_
         refine WPD.eff 10 [1, 2] [] rfl (by kernel_rfl) (Does.runs (d_alloc ze51 rfl)) rfl rfl ?_
         refine WPD.effS 11 [1, 2] [] rfl (by kernel_rfl) (s_store sz51 rfl rfl rfl rfl rfl) rfl ?_
         refine WPD.effS 12 [1, 2] [] rfl (by kernel_rfl) (s_store sz51 rfl rfl rfl rfl rfl) rfl ?_
         refine WPD.doneW (by kernel_rfl) ?_
         have q0 := (Prod.mk.inj (Option.some.inj H)).1
         have q1 := (Prod.mk.inj (Prod.mk.inj (Option.some.inj H)).2).1
         have q2 := (Prod.mk.inj (Prod.mk.inj (Prod.mk.inj (Option.some.inj H)).2).2).1
         have q3 := (Prod.mk.inj (Prod.mk.inj (Prod.mk.inj (Option.some.inj H)).2).2).2
         subst q0
         subst q1
         subst q2
         subst q3
         exact W.wk [0, 1, 2, 3, 7] hnp ⟨rfl, rfl, rfl⟩ ⟨rfl, ⟨⟨⟨⟨⟨trivial, .inr ⟨rfl, rfl, rfl⟩⟩, .inr ⟨rfl, rfl, rfl⟩⟩, .inr ⟨rfl, rfl, rfl⟩⟩, .inr ⟨rfl, rfl, rfl⟩⟩, .inr ⟨rfl, rfl, rfl⟩⟩, by decide, rfl, trivial⟩ (LeE.upd rfl rfl (LeE.upd rfl rfl (LeE.upd rfl rfl (LeE.upd rfl rfl (LeE.upd rfl rfl (LeE.none rfl rfl)))))) rfl
       refine WPD1.eff 10 [1, 2] [] rfl (Does.runs (d_alloc ze51 rfl)) rfl rfl ?_
       obtain ⟨⟨x4209, x4210, x4211, x4212⟩, h4207, H⟩ := bnd H
       refine WPD.eff 5 [1, 2] [] rfl (by kernel_rfl) (runs_call (s := []) (t := [6, 7]) (N := 8) (bor := []) fn33 rfl (s_quireref09_Quo k x4201 x4202 (decide (x1363 < 0)) x3943 x4209 x4210 x4211 x4212 h4207) ⟨rfl, trivial, by decide, rfl, trivial⟩ rfl trivial (.ren rfl rfl (.ren rfl rfl .nil)) rfl ⟨⟨trivial, rfl⟩, rfl⟩ rfl) rfl rfl ?_
       refine WPD.takeT 6 rfl (by kernel_rfl) (q_mv (v := .tup _) rfl) rfl ?_
       refine WPD.takeT 7 rfl (by kernel_rfl) (q_extract rfl rfl) rfl ?_
       refine WPD.takeT 8 rfl (by kernel_rfl) (q_extract rfl rfl) rfl ?_
       refine WPD.effS 11 [1, 2] [] rfl (by kernel_rfl) (s_store sz51 rfl rfl rfl rfl rfl) rfl ?_
       refine WPD.effS 12 [1, 2] [] rfl (by kernel_rfl) (s_store sz51 rfl rfl rfl rfl rfl) rfl ?_
       refine WPD.doneW (by kernel_rfl) ?_
       have q0 := (Prod.mk.inj (Option.some.inj H)).1
       have q1 := (Prod.mk.inj (Prod.mk.inj (Option.some.inj H)).2).1
       have q2 := (Prod.mk.inj (Prod.mk.inj (Prod.mk.inj (Option.some.inj H)).2).2).1
       have q3 := (Prod.mk.inj (Prod.mk.inj (Prod.mk.inj (Option.some.inj H)).2).2).2
       subst q0
       subst q1
       subst q2
       subst q3
       exact W.wk [0, 1, 2, 3, 5] hnp ⟨rfl, rfl, rfl⟩ ⟨rfl, ⟨⟨⟨⟨⟨trivial, .inr ⟨rfl, rfl, rfl⟩⟩, .inr ⟨rfl, rfl, rfl⟩⟩, .inr ⟨rfl, rfl, rfl⟩⟩, .inr ⟨rfl, rfl, rfl⟩⟩, .inr ⟨rfl, rfl, rfl⟩⟩, by decide, rfl, trivial⟩ (LeE.upd rfl rfl (LeE.upd rfl rfl (LeE.upd rfl rfl (LeE.upd rfl rfl (LeE.upd rfl rfl (LeE.none rfl rfl)))))) rfl
     refine WPD1.eff 10 [1, 2] [] rfl (Does.runs (d_alloc ze51 rfl)) rfl rfl ?_
     obtain ⟨⟨x4214, x4215⟩, h4212, H⟩ := bnd H
     refine WPD.eff 2 [1, 2] [] rfl (by kernel_rfl) (runs_call (s := []) (t := [5]) (N := 6) (bor := []) fn34 rfl (s_quireref09_Shift k (decide (x1361 < 0)) x3940 90 x4214 x4215 h4212) ⟨rfl, trivial, by decide, rfl, trivial⟩ rfl trivial (.ren rfl rfl (.ren rfl rfl .nil)) rfl ⟨trivial, rfl⟩ rfl) rfl rfl ?_
     obtain ⟨⟨x4217, x4218, x4219, x4220⟩, h4215, H⟩ := bnd H
     refine WPD.eff 5 [1, 2] [] rfl (by kernel_rfl) (runs_call (s := []) (t := [6, 7]) (N := 8) (bor := []) fn33 rfl (s_quireref09_Quo k x4214 x4215 (decide (x1363 < 0)) x3943 x4217 x4218 x4219 x4220 h4215) ⟨rfl, trivial, by decide, rfl, trivial⟩ rfl trivial (.ren rfl rfl (.ren rfl rfl .nil)) rfl ⟨⟨trivial, rfl⟩, rfl⟩ rfl) rfl rfl ?_
     refine WPD.takeT 6 rfl (by kernel_rfl) (q_mv (v := .tup _) rfl) rfl ?_
     refine WPD.takeT 7 rfl (by kernel_rfl) (q_extract rfl rfl) rfl ?_
     refine WPD.takeT 8 rfl (by kernel_rfl) (q_extract rfl rfl) rfl ?_
     refine WPD.effS 11 [1, 2] [] rfl (by kernel_rfl) (s_store sz51 rfl rfl rfl rfl rfl) rfl ?_
     refine WPD.effS 12 [1, 2] [] rfl (by kernel_rfl) (s_store sz51 rfl rfl rfl rfl rfl) rfl ?_
     refine WPD.doneW (by kernel_rfl) ?_
     have q0 := (Prod.mk.inj (Option.some.inj H)).1
     have q1 := (Prod.mk.inj (Prod.mk.inj (Option.some.inj H)).2).1
     have q2 := (Prod.mk.inj (Prod.mk.inj (Prod.mk.inj (Option.some.inj H)).2).2).1
     have q3 := (Prod.mk.inj (Prod.mk.inj (Prod.mk.inj (Option.some.inj H)).2).2).2
     subst q0
     subst q1
     subst q2
     subst q3
     exact W.wk [0, 1, 2, 3, 4] hnp ⟨rfl, rfl, rfl⟩ ⟨rfl, ⟨⟨⟨⟨⟨trivial, .inr ⟨rfl, rfl, rfl⟩⟩, .inr ⟨rfl, rfl, rfl⟩⟩, .inr ⟨rfl, rfl, rfl⟩⟩, .inr ⟨rfl, rfl, rfl⟩⟩, .inr ⟨rfl, rfl, rfl⟩⟩, by decide, rfl, trivial⟩ (LeE.upd rfl rfl (LeE.upd rfl rfl (LeE.upd rfl rfl (LeE.upd rfl rfl (LeE.upd rfl rfl (LeE.none rfl rfl)))))) rfl
   refine WPD1.eff 10 [1, 2] [] rfl (Does.runs (d_alloc ze51 rfl)) rfl rfl ?_
   refine WPD.of2 2 9 (by kernel_rfl) ?_ ?_
   · obtain ⟨⟨x4222, x4223⟩, h4220, H⟩ := bnd H
     refine WPD1.eff 2 [1, 2] [] rfl (runs_call (s := []) (t := [4]) (N := 5) (bor := []) fn34 rfl (s_quireref09_Shift k (decide (x1361 < 0)) x3940 90 x4222 x4223 h4220) ⟨rfl, trivial, by decide, rfl, trivial⟩ rfl trivial (.ren rfl rfl (.ren rfl rfl .nil)) rfl ⟨trivial, rfl⟩ rfl) rfl rfl ?_
     refine WPD.of2 5 9 (by kernel_rfl) ?_ ?_
     · obtain ⟨⟨x4225, x4226, x4227, x4228⟩, h4223, H⟩ := bnd H
       refine WPD1.eff 5 [1, 2] [] rfl (runs_call (s := []) (t := [5, 6]) (N := 7) (bor := []) fn33 rfl (s_quireref09_Quo k x4222 x4223 (decide (x1363 < 0)) x3943 x4225 x4226 x4227 x4228 h4223) ⟨rfl, trivial, by decide, rfl, trivial⟩ rfl trivial (.ren rfl rfl (.ren rfl rfl .nil)) rfl ⟨⟨trivial, rfl⟩, rfl⟩ rfl) rfl rfl ?_
       refine WPD.takeT 6 rfl (by kernel_rfl) (q_mv (v := .tup _) rfl) rfl ?_
       refine WPD.takeT 7 rfl (by kernel_rfl) (q_extract rfl rfl) rfl ?_
       refine WPD.takeT 8 rfl (by kernel_rfl) (q_extract rfl rfl) rfl ?_
       refine WPD.eff 9 [1, 2] [] rfl (by kernel_rfl) (Does.runs (d_alloc ze51 rfl)) rfl rfl ?_
       refine WPD.effS 11 [1, 2] [] rfl (by kernel_rfl) (s_store sz51 rfl rfl rfl rfl rfl) rfl ?_
       refine WPD.effS 12 [1, 2] [] rfl (by kernel_rfl) (s_store sz51 rfl rfl rfl rfl rfl) rfl ?_
       refine WPD.doneW (by kernel_rfl) ?_
       have q0 := (Prod.mk.inj (Option.some.inj H)).1
       have q1 := (Prod.mk.inj (Prod.mk.inj (Option.some.inj H)).2).1
       have q2 := (Prod.mk.inj (Prod.mk.inj (Prod.mk.inj (Option.some.inj H)).2).2).1
       have q3 := (Prod.mk.inj (Prod.mk.inj (Prod.mk.inj (Option.some.inj H)).2).2).2
       subst q0
       subst q1
       subst q2
       subst q3
       exact W.wk [0, 1, 2, 7, 3] hnp ⟨rfl, rfl, rfl⟩ ⟨rfl, ⟨⟨⟨⟨⟨trivial, .inr ⟨rfl, rfl, rfl⟩⟩, .inr ⟨rfl, rfl, rfl⟩⟩, .inr ⟨rfl, rfl, rfl⟩⟩, .inr ⟨rfl, rfl, rfl⟩⟩, .inr ⟨rfl, rfl, rfl⟩⟩, by decide, rfl, trivial⟩ (LeE.upd rfl rfl (LeE.upd rfl rfl (LeE.upd rfl rfl (LeE.upd rfl rfl (LeE.upd rfl rfl (LeE.none rfl rfl)))))) rfl
     refine WPD1.eff 9 [1, 2] [] rfl (Does.runs (d_alloc ze51 rfl)) rfl rfl ?_
     obtain ⟨⟨x4230, x4231, x4232, x4233⟩, h4228, H⟩ := bnd H
     refine WPD.eff 5 [1, 2] [] rfl (by kernel_rfl) (runs_call (s := []) (t := [6, 7]) (N := 8) (bor := []) fn33 rfl (s_quireref09_Quo k x4222 x4223 (decide (x1363 < 0)) x3943 x4230 x4231 x4232 x4233 h4228) ⟨rfl, trivial, by decide, rfl, trivial⟩ rfl trivial (.ren rfl rfl (.ren rfl rfl .nil)) rfl ⟨⟨trivial, rfl⟩, rfl⟩ rfl) rfl rfl ?_
     refine WPD.takeT 6 rfl (by kernel_rfl) (q_mv (v := .tup _) rfl) rfl ?_
     refine WPD.takeT 7 rfl (by kernel_rfl) (q_extract rfl rfl) rfl ?_
     refine WPD.takeT 8 rfl (by kernel_rfl) (q_extract rfl rfl) rfl ?_
     refine WPD.effS 11 [1, 2] [] rfl (by kernel_rfl) (s_store sz51 rfl rfl rfl rfl rfl) rfl ?_
     refine WPD.effS 12 [1, 2] [] rfl (by kernel_rfl) (s_store sz51 rfl rfl rfl rfl rfl) rfl ?_
     refine WPD.doneW (by kernel_rfl) ?_
     have q0 := (Prod.mk.inj (Option.some.inj H)).1
     have q1 := (Prod.mk.inj (Prod.mk.inj (Option.some.inj H)).2).1
     have q2 := (Prod.mk.inj (Prod.mk.inj (Prod.mk.inj (Option.some.inj H)).2).2).1
     have q3 := (Prod.mk.inj (Prod.mk.inj (Prod.mk.inj (Option.some.inj H)).2).2).2
     subst q0
     subst q1
     subst q2
     subst q3
     exact W.wk [0, 1, 2, 5, 3] hnp ⟨rfl, rfl, rfl⟩ ⟨rfl, ⟨⟨⟨⟨⟨trivial, .inr ⟨rfl, rfl, rfl⟩⟩, .inr ⟨rfl, rfl, rfl⟩⟩, .inr ⟨rfl, rfl, rfl⟩⟩, .inr ⟨rfl, rfl, rfl⟩⟩, .inr ⟨rfl, rfl, rfl⟩⟩, by decide, rfl, trivial⟩ (LeE.upd rfl rfl (LeE.upd rfl rfl (LeE.upd rfl rfl (LeE.upd rfl rfl (LeE.upd rfl rfl (LeE.none rfl rfl)))))) rfl
   refine WPD1.eff 9 [1, 2] [] rfl (Does.runs (d_alloc ze51 rfl)) rfl rfl ?_
   obtain ⟨⟨x4235, x4236⟩, h4233, H⟩ := bnd H
   refine WPD.eff 2 [1, 2] [] rfl (by kernel_rfl) (runs_call (s := []) (t := [5]) (N := 6) (bor := []) fn34 rfl (s_quireref09_Shift k (decide (x1361 < 0)) x3940 90 x4235 x4236 h4233) ⟨rfl, trivial, by decide, rfl, trivial⟩ rfl trivial (.ren rfl rfl (.ren rfl rfl .nil)) rfl ⟨trivial, rfl⟩ rfl) rfl rfl ?_
   obtain ⟨⟨x4238, x4239, x4240, x4241⟩, h4236, H⟩ := bnd H
   refine WPD.eff 5 [1, 2] [] rfl (by kernel_rfl) (runs_call (s := []) (t := [6, 7]) (N := 8) (bor := []) fn33 rfl (s_quireref09_Quo k x4235 x4236 (decide (x1363 < 0)) x3943 x4238 x4239 x4240 x4241 h4236) ⟨rfl, trivial, by decide, rfl, trivial⟩ rfl trivial (.ren rfl rfl (.ren rfl rfl .nil)) rfl ⟨⟨trivial, rfl⟩, rfl⟩ rfl) rfl rfl ?_
   refine WPD.takeT 6 rfl (by kernel_rfl) (q_mv (v := .tup _) rfl) rfl ?_
   refine WPD.takeT 7 rfl (by kernel_rfl) (q_extract rfl rfl) rfl ?_
   refine WPD.takeT 8 rfl (by kernel_rfl) (q_extract rfl rfl) rfl ?_
   refine WPD.effS 11 [1, 2] [] rfl (by kernel_rfl) (s_store sz51 rfl rfl rfl rfl rfl) rfl ?_
   refine WPD.effS 12 [1, 2] [] rfl (by kernel_rfl) (s_store sz51 rfl rfl rfl rfl rfl) rfl ?_
   refine WPD.doneW (by kernel_rfl) ?_
   have q0 := (Prod.mk.inj (Option.some.inj H)).1
   have q1 := (Prod.mk.inj (Prod.mk.inj (Option.some.inj H)).2).1
   have q2 := (Prod.mk.inj (Prod.mk.inj (Prod.mk.inj (Option.some.inj H)).2).2).1
   have q3 := (Prod.mk.inj (Prod.mk.inj (Prod.mk.inj (Option.some.inj H)).2).2).2
   subst q0
   subst q1
   subst q2
   subst q3
   exact W.wk [0, 1, 2, 4, 3] hnp ⟨rfl, rfl, rfl⟩ ⟨rfl, ⟨⟨⟨⟨⟨trivial, .inr ⟨rfl, rfl, rfl⟩⟩, .inr ⟨rfl, rfl, rfl⟩⟩, .inr ⟨rfl, rfl, rfl⟩⟩, .inr ⟨rfl, rfl, rfl⟩⟩, .inr ⟨rfl, rfl, rfl⟩⟩, by decide, rfl, trivial⟩ (LeE.upd rfl rfl (LeE.upd rfl rfl (LeE.upd rfl rfl (LeE.upd rfl rfl (LeE.upd rfl rfl (LeE.none rfl rfl)))))) rfl
 rintro _ _ _ ⟨rfl, rfl, rfl⟩
 refine W.now ?_
 refine Then.n ?_
 refine WP.seq ?_
 refine WP.seq ?_
 refine WP.region ?_
 refine WPL.q (q_fieldAddr fi51_1 rfl rfl) rfl ?_
 refine WPL.q (q_load sc49 rfl rfl rfl) rfl ?_
 refine WPL.q (q_len_ro sl49 rfl) rfl ?_
 obtain ⟨x4245, h4245, H⟩ := bnd H
 refine WPL.q (q_nm (q_gtr rfl rfl) (nm_bool h4245)) rfl ?_
 refine WPL.nilW ?_
 refine W.now ?_
 refine Then.n ?_
 refine WP.cond (t := x4245) rfl (fun hb4245 => ?_) (fun hb4245 => ?_)
 · replace H := cnt hb4245 H
   refine WP.seq ?_
   refine WP.region ?_
   refine WPL.q (q_build bu23 rfl) rfl ?_
   refine WPL.s (s_store sz23 rfl rfl rfl rfl rfl) ?_
   refine WPL.q (q_as (v := .lit (.int _ _)) rfl) rfl ?_
   refine WPL.nilW ?_
   refine W.now ?_
   refine Then.n ?_
   refine WP.retW ?_
   have q0 := (Prod.mk.inj (Option.some.inj H)).1
   have q1 := (Prod.mk.inj (Prod.mk.inj (Option.some.inj H)).2).1
   have q2 := (Prod.mk.inj (Prod.mk.inj (Option.some.inj H)).2).2
   subst q0
   subst q1
   subst q2
   exact W.now (Then.r (BodyR.mkR trivial rfl [0] ⟨rfl, rfl⟩ ⟨rfl, ⟨trivial, .inr ⟨rfl, rfl, rfl⟩⟩, by decide, rfl, trivial⟩ rfl rfl))
 replace H := cnf hb4245 H
 refine WP.skipW ?_
 refine W.now ?_
 refine Then.n ?_
 refine WP.seq ?_
 refine WP.region ?_
 refine WPL.q (q_fieldAddr fi53_0 rfl rfl) rfl ?_
 refine WPL.q (q_fieldAddr fi51_0 rfl rfl) rfl ?_
 refine WPL.q (q_load sc4 rfl rfl rfl) rfl ?_
 refine WPL.q (q_fieldAddr fi53_0 rfl rfl) rfl ?_
 refine WPL.q (q_fieldAddr fi51_0 rfl rfl) rfl ?_
 refine WPL.q (q_load sc4 rfl rfl rfl) rfl ?_
 obtain ⟨x4247, h4247, H⟩ := bnd H
 refine WPL.q (q_nm (q_neqb Try.underlying4 rfl rfl) (nm_bool h4247)) rfl ?_
 refine WPL.q (q_fieldAddr fi51_0 rfl rfl) rfl ?_
 refine WPL.s (s_store sz4 rfl rfl rfl rfl rfl) ?_
 refine WPL.nilW ?_
 refine W.now ?_
 refine Then.n ?_
 refine WP.seq ?_
 refine WP.regionD' 14 [1, 2, 3] [] mixed rfl ?_
 refine WPD.takeT 2 rfl (by kernel_rfl) (q_fieldAddr fi53_1 rfl rfl) rfl ?_
 refine WPD.takeT 4 rfl (by kernel_rfl) (q_fieldAddr fi53_1 rfl rfl) rfl ?_
 refine WPD.take 0 rfl (by kernel_rfl) (q_load_ag ag51 rfl rfl (Nat.le_of_ble_eq_true rfl)) rfl rfl ?_
 refine WPD.take 3 rfl (by kernel_rfl) (q_load sc3 rfl rfl rfl) rfl rfl ?_
 refine WPD.take 5 rfl (by kernel_rfl) (q_load sc3 rfl rfl rfl) rfl rfl ?_
 refine WPD.takeT 6 rfl (by kernel_rfl) (q_sub rfl rfl) rfl ?_
 obtain ⟨x4256, h4256, H⟩ := bnd H
 refine WPD.takeT 7 rfl (by kernel_rfl) (q_nm (q_sub rfl rfl) (nm_int h4256)) rfl ?_
 obtain ⟨⟨x4258, x4259⟩, h4256, H⟩ := bnd H
 refine WPD.eff 1 [1, 2, 3] [] rfl (by kernel_rfl) (runs_call (s := []) (t := [5]) (N := 6) (bor := []) fn36 rfl (s_quireref09_trim__b k x4247 x4099 x4258 x4259 h4256) ⟨rfl, trivial, by decide, rfl, trivial⟩ rfl trivial (.ren rfl rfl .nil) rfl ⟨trivial, rfl⟩ rfl) rfl rfl ?_
 refine WPD.takeT 8 rfl (by kernel_rfl) (q_build bu53 rfl) rfl ?_
 obtain ⟨⟨x4261, x4262, x4263⟩, h4259, H⟩ := bnd H
 refine WPD.eff 9 [1, 2, 3] [] rfl (by kernel_rfl) (runs_call (s := []) (t := [6]) (N := 7) (bor := []) fn35 rfl (s_quireref09_Tell k x4258 x4259 x4256 x4261 x4262 x4263 h4259) ⟨rfl, trivial, by decide, rfl, trivial⟩ rfl trivial (.ren rfl rfl .nil) rfl ⟨trivial, rfl⟩ rfl) rfl rfl ?_
 refine WPD.takeT 10 rfl (by kernel_rfl) (q_extract rfl rfl) rfl ?_
 refine WPD.takeT 11 rfl (by kernel_rfl) (q_extract rfl rfl) rfl ?_
 refine WPD.effS 12 [1, 2, 3] [] rfl (by kernel_rfl) (s_store sz23 rfl rfl rfl rfl rfl) rfl ?_
 refine WPD.takeT 13 rfl (by kernel_rfl) (q_as (v := .lit (.int _ _)) rfl) rfl ?_
 refine WPD.doneW (by kernel_rfl) ?_
 refine W.now ?_
 refine Then.n ?_
 refine WP.retW ?_
 have q0 := (Prod.mk.inj (Option.some.inj H)).1
 have q1 := (Prod.mk.inj (Prod.mk.inj (Option.some.inj H)).2).1
 have q2 := (Prod.mk.inj (Prod.mk.inj (Option.some.inj H)).2).2
 subst q0
 subst q1
 subst q2
 exact W.now (BodyR.mkR trivial rfl [0] ⟨rfl, rfl⟩ ⟨rfl, ⟨trivial, .inr ⟨rfl, rfl, rfl⟩⟩, by decide, rfl, trivial⟩ rfl rfl)
end Go.Proofs.Ytdbeblgfccjbgaa.W
