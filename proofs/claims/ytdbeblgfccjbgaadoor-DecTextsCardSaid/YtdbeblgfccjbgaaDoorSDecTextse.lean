/- Texts joined: part 5 of what LDecTexts stands on. -/
import Derived.Test.YtdbeblgfccjbgaaDoorSDecTextsd
namespace Go.Proofs.YtdbeblgfccjbgaaDoor.W
open Go Go.Q Go.Proofs
set_option linter.unusedVariables false
set_option linter.unusedSimpArgs false
set_option maxRecDepth 100000 in
set_option maxHeartbeats 4000000 in
theorem s_quireref09_trim__b (k : Nat) (x2823 : Bool) (x2824 : (List Int)) (x2872 : Bool) (x2873 : (List Int)) (H : g_quireref09_trim k x2823 x2824 = some (x2872, x2873)) : Go.Q.Spec Tryd.prog 20 0 [.agg [.lit (.bool x2823), .ro (Rd.slice (Rd.int .i64)) false x2824]] Mem.nil (fun o M => o = .ret (.agg [.lit (.bool x2872), .ro (Rd.slice (Rd.int .i64)) false x2873]) ∧ M = (Mem.nil.push (.cells 52 [.lit (.bool x2872), .ro (Rd.slice (Rd.int .i64)) false x2873]))) := by
 unfold g_quireref09_trim at H
 refine Go.Q.Spec.of_bodyR (az := [(52, 2)]) (rs := [.cell 2 52]) (nt := 32) Tryd.func20 rfl rfl (by intro t T h; simp at h; rcases h with ⟨rfl, rfl⟩ <;> first | exact ag52) rfl rfl fun cx hnp => ?_
 refine WP.seq ?_
 refine WP.region ?_
 refine WPL.d (d_box rfl rfl) rfl ?_
 refine WPL.d (d_alloc ze52 rfl) rfl ?_
 refine WPL.nilW ?_
 refine W.now ?_
 refine Then.n ?_
 refine WP.seq ?_
 refine WP.region ?_
 refine WPL.q (q_fieldAddr fi52_1 rfl rfl) rfl ?_
 refine WPL.q (q_load sc50 rfl rfl rfl) rfl ?_
 refine WPL.q (q_len_ro sl50 rfl) rfl ?_
 refine WPL.q (q_as (v := .lit (.int _ _)) rfl) rfl ?_
 refine WPL.nilW ?_
 refine W.now ?_
 refine Then.n ?_
 refine WP.seq ?_
 refine WP.block ?_
 refine WP.cv (Cv.weak (E' := (((Env.none.upd 1 (.ptr 0 0)).upd 2 (.ptr 1 0)).upd 3 (.lit (.int .i64 ((List.length x2824 : Nat) : Int))))) (M' := ((Mem.nil.push (.cells 52 [.lit (.bool x2823), .ro (Rd.slice (Rd.int .i64)) false x2824])).push (.cells 52 [.lit (.bool false), .lit (.slice none 0 0)]))) [0, 1] hnp ⟨rfl, ⟨⟨trivial, .inr ⟨rfl, rfl, rfl⟩⟩, .inr ⟨rfl, rfl, rfl⟩⟩, by decide, rfl, trivial⟩ (LeE.upd rfl rfl (LeE.upd rfl rfl (LeE.upd rfl rfl (LeE.none rfl rfl))))) ?_
 obtain ⟨x2912, H2926, H⟩ := bnd H
 refine WP.monoW (Q := fun x E M => x = .exit 0 ∧ E = (((Env.none.upd 1 (.ptr 0 0)).upd 2 (.ptr 1 0)).upd 3 (.lit (.int .i64 x2912))) ∧ M = ((Mem.nil.push (.cells 52 [.lit (.bool x2823), .ro (Rd.slice (Rd.int .i64)) false x2824])).push (.cells 52 [.lit (.bool false), .lit (.slice none 0 0)]))) ?_ ?_
 · refine WP.loop (β := Int) (fun n b => g_quireref09_trim_l0 k x2824 n b = some x2912) (fun b => (((Env.none.upd 1 (.ptr 0 0)).upd 2 (.ptr 1 0)).upd 3 (.lit (.int .i64 b)))) (fun b => ((Mem.nil.push (.cells 52 [.lit (.bool x2823), .ro (Rd.slice (Rd.int .i64)) false x2824])).push (.cells 52 [.lit (.bool false), .lit (.slice none 0 0)]))) k ((List.length x2824 : Nat) : Int) H2926 rfl rfl ?_
   rintro n x2897 H
   obtain _ | n := n
   · exact nf rfl H
   rw [g_quireref09_trim_l0.eq_2] at H
   show WP _ _ _ _ (((Env.none.upd 1 (.ptr 0 0)).upd 2 (.ptr 1 0)).upd 3 (.lit (.int .i64 x2897))) ((Mem.nil.push (.cells 52 [.lit (.bool x2823), .ro (Rd.slice (Rd.int .i64)) false x2824])).push (.cells 52 [.lit (.bool false), .lit (.slice none 0 0)])) _
   refine WP.seq ?_
   refine WP.seq ?_
   obtain ⟨x2922, H2924, H⟩ := bnd H
   refine WP.monoW (Q := fun x E M => x = .normal ∧ E = ((((Env.none.upd 1 (.ptr 0 0)).upd 2 (.ptr 1 0)).upd 3 (.lit (.int .i64 x2897))).upd 17 (.lit (.bool x2922))) ∧ M = ((Mem.nil.push (.cells 52 [.lit (.bool x2823), .ro (Rd.slice (Rd.int .i64)) false x2824])).push (.cells 52 [.lit (.bool false), .lit (.slice none 0 0)]))) ?_ ?_
   · clear H
     have H := H2924
     clear H2924
     refine WP.region ?_
     refine WPL.q (q_mv (v := .lit (.int _ _)) rfl) rfl ?_
     refine WPL.q (q_gtr rfl rfl) rfl ?_
     refine WPL.q (q_mv (v := .lit (.bool _)) rfl) rfl ?_
     refine WPL.split (t := 9) (b := (decide (0 < x2897))) rfl (fun hb2922 => ?_) (fun hb2922 => ?_)
     · replace H := cnt hb2922 H
       refine WPL.qg rfl rfl (lb hb2922) (q_fieldAddr fi52_1 rfl rfl) rfl ?_
       refine WPL.qg rfl rfl (lb hb2922) (q_load sc50 rfl rfl rfl) rfl ?_
       refine WPL.qg rfl rfl (lb hb2922) (q_mv (v := .lit (.int _ _)) rfl) rfl ?_
       refine WPL.qg rfl rfl (lb hb2922) (q_sub rfl rfl) rfl ?_
       obtain ⟨x2924, h2924, H⟩ := bnd H
       refine WPL.qg rfl rfl (lb hb2922) (q_index_ro sl50 rfl rfl rfl h2924) rfl ?_
       refine WPL.qg rfl rfl (lb hb2922) (q_load_sc sc3 rfl) rfl ?_
       refine WPL.qg rfl rfl (lb hb2922) (q_eql rfl rfl) rfl ?_
       refine WPL.q (q_pickT (v := .lit (.bool _)) (lb hb2922) rfl) rfl ?_
       refine WPL.nilW ?_
       have q0 := (Option.some.inj H)
       subst q0
       exact W.wk [0, 1] hnp ⟨rfl, rfl, rfl⟩ ⟨rfl, ⟨⟨trivial, .inr ⟨rfl, rfl, rfl⟩⟩, .inr ⟨rfl, rfl, rfl⟩⟩, by decide, rfl, trivial⟩ (LeE.upd rfl rfl (LeE.upd rfl rfl (LeE.upd rfl rfl (LeE.upd rfl rfl (LeE.none rfl rfl))))) rfl
     replace H := cnf hb2922 H
     refine WPL.skipg (b' := false) rfl rfl (lb hb2922) rfl rfl ?_
     refine WPL.skipg (b' := false) rfl rfl (lb hb2922) rfl rfl ?_
     refine WPL.skipg (b' := false) rfl rfl (lb hb2922) rfl rfl ?_
     refine WPL.skipg (b' := false) rfl rfl (lb hb2922) rfl rfl ?_
     refine WPL.skipg (b' := false) rfl rfl (lb hb2922) rfl rfl ?_
     refine WPL.skipg (b' := false) rfl rfl (lb hb2922) rfl rfl ?_
     refine WPL.skipg (b' := false) rfl rfl (lb hb2922) rfl rfl ?_
     refine WPL.q (q_pickF (v := .lit (.bool _)) (lb hb2922) rfl) rfl ?_
     refine WPL.nilW ?_
     have q0 := (Option.some.inj H)
     subst q0
     exact W.wk [0, 1] hnp ⟨rfl, rfl, rfl⟩ ⟨rfl, ⟨⟨trivial, .inr ⟨rfl, rfl, rfl⟩⟩, .inr ⟨rfl, rfl, rfl⟩⟩, by decide, rfl, trivial⟩ (LeE.upd rfl rfl (LeE.upd rfl rfl (LeE.upd rfl rfl (LeE.upd rfl rfl (LeE.none rfl rfl))))) rfl
   rintro _ _ _ ⟨rfl, rfl, rfl⟩
   refine W.now ?_
   refine Then.n ?_
   refine WP.cond (t := x2922) rfl (fun hb2925 => ?_) (fun hb2925 => ?_)
   · replace H := cnt hb2925 H
     refine WP.skipW ?_
     refine W.now ?_
     refine Then.n ?_
     refine WP.block ?_
     refine WP.region ?_
     refine WPL.q (q_mv (v := .lit (.int _ _)) rfl) rfl ?_
     refine WPL.q (q_sub rfl rfl) rfl ?_
     refine WPL.q (q_as (v := .lit (.int _ _)) rfl) rfl ?_
     refine WPL.nilW ?_
     exact W.wk [0, 1] hnp (InBlock.n (Then.n ⟨n, (IntKind.wrap .i64 (x2897 - 1)), Nat.lt_succ_self n, H, rfl, rfl⟩)) ⟨rfl, ⟨⟨trivial, .inr ⟨rfl, rfl, rfl⟩⟩, .inr ⟨rfl, rfl, rfl⟩⟩, by decide, rfl, trivial⟩ (LeE.upd rfl rfl (LeE.upd rfl rfl (LeE.upd rfl rfl (LeE.none rfl rfl)))) rfl
   replace H := cnf hb2925 H
   refine WP.exitW ?_
   have q0 := (Option.some.inj H)
   subst q0
   exact W.wk [0, 1] hnp (Then.x (Then.x ⟨rfl, rfl, rfl⟩)) ⟨rfl, ⟨⟨trivial, .inr ⟨rfl, rfl, rfl⟩⟩, .inr ⟨rfl, rfl, rfl⟩⟩, by decide, rfl, trivial⟩ (LeE.upd rfl rfl (LeE.upd rfl rfl (LeE.upd rfl rfl (LeE.none rfl rfl)))) rfl
 rintro _ _ _ ⟨rfl, rfl, rfl⟩
 refine W.now ?_
 refine InBlock.x0 ?_
 refine Then.n ?_
 refine WP.seq ?_
 refine WP.seq ?_
 refine WP.region ?_
 refine WPL.q (q_mv (v := .lit (.int _ _)) rfl) rfl ?_
 refine WPL.q (q_eql rfl rfl) rfl ?_
 refine WPL.nilW ?_
 refine W.now ?_
 refine Then.n ?_
 refine WP.cond (t := (decide (x2912 = 0))) rfl (fun hb2928 => ?_) (fun hb2928 => ?_)
 · replace H := cnt hb2928 H
   refine WP.seq ?_
   refine WP.region ?_
   refine WPL.q (q_build bu52 rfl) rfl ?_
   refine WPL.s (s_store sz52 rfl rfl rfl rfl rfl) ?_
   refine WPL.nilW ?_
   refine W.now ?_
   refine Then.n ?_
   refine WP.retW ?_
   refine W.cv (Cv.nilRoC (Rd.int .i64) false (i := 1) (off := 1) rfl rfl rfl) rfl ?_
   have q0 := (Prod.mk.inj (Option.some.inj H)).1
   have q1 := (Prod.mk.inj (Option.some.inj H)).2
   subst q0
   subst q1
   exact W.now (Then.r (BodyR.mkR trivial rfl [1] ⟨rfl, rfl⟩ ⟨rfl, ⟨trivial, .inr ⟨rfl, rfl, rfl⟩⟩, by decide, rfl, trivial⟩ rfl rfl))
 replace H := cnf hb2928 H
 refine WP.skipW ?_
 refine W.now ?_
 refine Then.n ?_
 refine WP.seq ?_
 refine WP.regionD' 10 [0] [] mixed rfl ?_
 refine WPD.takeT 0 rfl (by kernel_rfl) (q_fieldAddr fi52_0 rfl rfl) rfl ?_
 refine WPD.takeT 3 rfl (by kernel_rfl) (q_fieldAddr fi52_1 rfl rfl) rfl ?_
 refine WPD.takeT 5 rfl (by kernel_rfl) (q_mv (v := .lit (.int _ _)) rfl) rfl ?_
 refine WPD.take 1 rfl (by kernel_rfl) (q_load sc4 rfl rfl rfl) rfl rfl ?_
 refine WPD.take 4 rfl (by kernel_rfl) (q_load sc50 rfl rfl rfl) rfl rfl ?_
 obtain ⟨h2931, H⟩ := grd H
 refine WPD.takeT 6 rfl (by kernel_rfl) (q_slice_ro (i := 0) (j := x2912) sl50 rfl rfl rfl ⟨_, rfl⟩ h2931) rfl ?_
 refine WPD.eff 2 [0] [] rfl (by kernel_rfl) (Does.runs (d_buildSlice (ds := ([] : List Int)) (R := (Rd.int .i64)) li50 rfl rfl rfl rfl rfl JoinRows.nil rfl rfl)) rfl rfl ?_
 obtain ⟨h2932, H⟩ := grd H
 refine WPD.eff 7 [0] [] rfl (by kernel_rfl) (Does.runs (d_append ap50 rfl rfl rfl rfl (src_ro sl50 rfl) h2932 rfl)) rfl rfl ?_
 refine WPD.takeT 8 rfl (by kernel_rfl) (q_build bu52 rfl) rfl ?_
 refine WPD.effS 9 [0] [] rfl (by kernel_rfl) (s_store sz52 rfl rfl rfl rfl rfl) rfl ?_
 refine WPD.doneW (by kernel_rfl) ?_
 refine W.now ?_
 refine Then.n ?_
 refine WP.retW ?_
 refine W.cv (Cv.frzRow (i := 3) rfl rfl hnp rfl rfl) rfl ?_
 have q0 := (Prod.mk.inj (Option.some.inj H)).1
 have q1 := (Prod.mk.inj (Option.some.inj H)).2
 subst q0
 subst q1
 exact W.now (BodyR.mkR trivial rfl [1] ⟨rfl, rfl⟩ ⟨rfl, ⟨trivial, .inr ⟨rfl, rfl, rfl⟩⟩, by decide, rfl, trivial⟩ rfl rfl)
set_option maxRecDepth 100000 in
set_option maxHeartbeats 4000000 in
theorem s_quireref09_Shift (k : Nat) (x2996 : Bool) (x2997 : (List Int)) (x2998 : Int) (x3010 : Bool) (x3011 : (List Int)) (H : g_quireref09_Shift k x2996 x2997 x2998 = some (x3010, x3011)) : Go.Q.Spec Tryd.prog 27 0 [.agg [.lit (.bool x2996), .ro (Rd.slice (Rd.int .i64)) false x2997], .lit (.int .i64 x2998)] Mem.nil (fun o M => o = .ret (.agg [.lit (.bool x3010), .ro (Rd.slice (Rd.int .i64)) false x3011]) ∧ M = (Mem.nil.push (.cells 52 [.lit (.bool x3010), .ro (Rd.slice (Rd.int .i64)) false x3011]))) := by
 unfold g_quireref09_Shift at H
 refine Go.Q.Spec.of_bodyR (az := [(52, 2)]) (rs := [.cell 4 52]) (nt := 14) Tryd.func27 rfl rfl (by intro t T h; simp at h; rcases h with ⟨rfl, rfl⟩ <;> first | exact ag52) rfl rfl fun cx hnp => ?_
 refine WP.seq ?_
 refine WP.region ?_
 refine WPL.d (d_box rfl rfl) rfl ?_
 refine WPL.d (d_alloc ze52 rfl) rfl ?_
 refine WPL.nilW ?_
 refine W.now ?_
 refine Then.n ?_
 refine WP.seq ?_
 refine WP.regionD' 10 [0] [] mixed rfl ?_
 refine WPD.takeT 0 rfl (by kernel_rfl) (q_fieldAddr fi52_0 rfl rfl) rfl ?_
 refine WPD.takeT 2 rfl (by kernel_rfl) (q_mv (v := .lit (.int _ _)) rfl) rfl ?_
 refine WPD.takeT 4 rfl (by kernel_rfl) (q_fieldAddr fi52_1 rfl rfl) rfl ?_
 refine WPD.take 1 rfl (by kernel_rfl) (q_load sc4 rfl rfl rfl) rfl rfl ?_
 refine WPD.take 5 rfl (by kernel_rfl) (q_load sc50 rfl rfl rfl) rfl rfl ?_
 obtain ⟨h3016, H⟩ := grd H
 refine WPD.eff 3 [0] [] rfl (by kernel_rfl) (Does.runs (d_make (d := (0 : Int)) (R := (Rd.int .i64)) li50 by3 rfl rfl rfl Joins.sc rfl rfl h3016 rfl)) rfl rfl ?_
 obtain ⟨h3017, H⟩ := grd H
 refine WPD.eff 6 [0] [] rfl (by kernel_rfl) (Does.runs (d_append ap50 rfl rfl rfl rfl (src_ro sl50 rfl) h3017 rfl)) rfl rfl ?_
 refine WPD.takeT 7 rfl (by kernel_rfl) (q_build bu52 rfl) rfl ?_
 obtain ⟨⟨x3020, x3021⟩, h3018, H⟩ := bnd H
 refine WPD.eff 8 [0] [] rfl (by kernel_rfl) (runs_call (s := [3]) (t := [4]) (N := 5) (bor := []) fn20 rfl (s_quireref09_trim k x2996 ((List.replicate (Int.toNat x2998) (0 : Int)) ++ x2997) x3020 x3021 h3018) ⟨rfl, ⟨trivial, .inr ⟨rfl, rfl, rfl⟩⟩, by decide, rfl, trivial⟩ rfl trivial (.ren rfl rfl .nil) rfl ⟨trivial, rfl⟩ rfl) rfl rfl ?_
 refine WPD.effS 9 [0] [] rfl (by kernel_rfl) (s_store sz52 rfl rfl rfl rfl rfl) rfl ?_
 refine WPD.doneW (by kernel_rfl) ?_
 refine W.now ?_
 refine Then.n ?_
 refine WP.retW ?_
 have q0 := (Prod.mk.inj (Option.some.inj H)).1
 have q1 := (Prod.mk.inj (Option.some.inj H)).2
 subst q0
 subst q1
 exact W.now (BodyR.mkR trivial rfl [1] ⟨rfl, rfl⟩ ⟨rfl, ⟨trivial, .inr ⟨rfl, rfl, rfl⟩⟩, by decide, rfl, trivial⟩ rfl rfl)
set_option maxRecDepth 100000 in
set_option maxHeartbeats 4000000 in
theorem s_quireref09_Of (k : Nat) (x3054 : Int) (x3087 : (List Int)) (H : g_quireref09_Of k x3054 = some x3087) : Go.Q.Spec Tryd.prog 55 0 [.lit (.int .i64 x3054)] Mem.nil (fun o M => o = .ret (.agg [.lit (.bool (decide (x3054 < 0))), .ro (Rd.slice (Rd.int .i64)) false x3087]) ∧ M = (Mem.nil.push (.cells 52 [.lit (.bool (decide (x3054 < 0))), .ro (Rd.slice (Rd.int .i64)) false x3087]))) := by
 unfold g_quireref09_Of at H
 refine Go.Q.Spec.of_bodyR (az := [(52, 2)]) (rs := [.cell 2 52]) (nt := 25) Tryd.func55 rfl rfl (by intro t T h; simp at h; rcases h with ⟨rfl, rfl⟩ <;> first | exact ag52) rfl rfl fun cx hnp => ?_
 refine WP.seq ?_
 refine WP.region ?_
 refine WPL.d (d_alloc ze52 rfl) rfl ?_
 refine WPL.nilW ?_
 refine W.now ?_
 refine Then.n ?_
 refine WP.seq ?_
 refine WP.region ?_
 refine WPL.q (q_as (v := .lit _) rfl) rfl ?_
 refine WPL.nilW ?_
 refine W.now ?_
 refine Then.n ?_
 refine WP.seq ?_
 refine WP.region ?_
 refine WPL.q (q_mv (v := .lit (.int _ _)) rfl) rfl ?_
 refine WPL.q (q_as (v := .lit (.int _ _)) rfl) rfl ?_
 refine WPL.nilW ?_
 refine W.now ?_
 refine Then.n ?_
 refine WP.seq ?_
 refine WP.block ?_
 refine WP.cv (Cv.vir 3 (Rd.int .i64) (N := 1) rfl 3 rfl) ?_
 refine WP.cv (Cv.weak (E' := ((((Env.none.upd 0 (.lit (.int .i64 x3054))).upd 2 (.ptr 0 0)).upd 3 (.whole 1)).upd 4 (.lit (.int .i64 x3054)))) (M' := ((Mem.nil.push (.cells 52 [.lit (.bool false), .lit (.slice none 0 0)])).push (.row 3 (Rd.int .i64) ([] : List Int)))) [0, 1] hnp ⟨rfl, ⟨⟨trivial, .inr ⟨rfl, rfl, rfl⟩⟩, .inr ⟨rfl, rfl, rfl⟩⟩, by decide, rfl, trivial⟩ (LeE.upd rfl rfl (LeE.upd rfl rfl (LeE.upd rfl rfl (LeE.upd rfl rfl (LeE.none rfl rfl)))))) ?_
 obtain ⟨x3117, H3126, H⟩ := bnd H
 refine WP.monoW (Q := fun x E M => x = .exit 0 ∧ E = (((Env.none.upd 0 (.lit (.int .i64 x3054))).upd 2 (.ptr 0 0)).upd 3 (.whole 1)) ∧ M = ((Mem.nil.push (.cells 52 [.lit (.bool false), .lit (.slice none 0 0)])).push (.row 3 (Rd.int .i64) x3117))) ?_ ?_
 · refine WP.loop (β := Int × (List Int)) (fun n b => g_quireref09_Of_l0 k n b.1 b.2 = some x3117) (fun b => ((((Env.none.upd 0 (.lit (.int .i64 x3054))).upd 2 (.ptr 0 0)).upd 3 (.whole 1)).upd 4 (.lit (.int .i64 b.1)))) (fun b => ((Mem.nil.push (.cells 52 [.lit (.bool false), .lit (.slice none 0 0)])).push (.row 3 (Rd.int .i64) b.2))) k (x3054, ([] : List Int)) H3126 rfl rfl ?_
   rintro n ⟨x3106, x3107⟩ H
   obtain _ | n := n
   · exact nf rfl H
   rw [g_quireref09_Of_l0.eq_2] at H
   show WP _ _ _ _ ((((Env.none.upd 0 (.lit (.int .i64 x3054))).upd 2 (.ptr 0 0)).upd 3 (.whole 1)).upd 4 (.lit (.int .i64 x3106))) ((Mem.nil.push (.cells 52 [.lit (.bool false), .lit (.slice none 0 0)])).push (.row 3 (Rd.int .i64) x3107)) _
   refine WP.seq ?_
   refine WP.seq ?_
   refine WP.region ?_
   refine WPL.q (q_mv (v := .lit (.int _ _)) rfl) rfl ?_
   refine WPL.q (q_neq rfl rfl) rfl ?_
   refine WPL.nilW ?_
   refine W.now ?_
   refine Then.n ?_
   refine WP.cond (t := (!decide (x3106 = 0))) rfl (fun hb3118 => ?_) (fun hb3118 => ?_)
   · replace H := cnt hb3118 H
     refine WP.skipW ?_
     refine W.now ?_
     refine Then.n ?_
     refine WP.block ?_
     refine WP.seq ?_
     refine WP.region ?_
     refine WPL.q (q_mv (v := .lit (.int _ _)) rfl) rfl ?_
     refine WPL.q (q_rem rfl rfl rfl) rfl ?_
     refine WPL.q (q_as (v := .lit (.int _ _)) rfl) rfl ?_
     refine WPL.nilW ?_
     refine W.now ?_
     refine Then.n ?_
     refine WP.seq ?_
     obtain ⟨x3122, H3124, H⟩ := bnd H
     refine WP.monoW (Q := fun x E M => x = .normal ∧ E = (((((Env.none.upd 0 (.lit (.int .i64 x3054))).upd 2 (.ptr 0 0)).upd 3 (.whole 1)).upd 4 (.lit (.int .i64 x3106))).upd 5 (.lit (.int .i64 x3122))) ∧ M = ((Mem.nil.push (.cells 52 [.lit (.bool false), .lit (.slice none 0 0)])).push (.row 3 (Rd.int .i64) x3107))) ?_ ?_
     · clear H
       have H := H3124
       clear H3124
       refine WP.seq ?_
       refine WP.region ?_
       refine WPL.q (q_mv (v := .lit (.int _ _)) rfl) rfl ?_
       refine WPL.q (q_lss rfl rfl) rfl ?_
       refine WPL.nilW ?_
       refine W.now ?_
       refine Then.n ?_
       refine WP.cond (t := (decide ((Int.tmod x3106 10) < 0))) rfl (fun hb3122 => ?_) (fun hb3122 => ?_)
       · replace H := cnt hb3122 H
         refine WP.region ?_
         refine WPL.q (q_mv (v := .lit (.int _ _)) rfl) rfl ?_
         obtain ⟨x3124, h3124, H⟩ := bnd H
         refine WPL.q (q_nm (q_neg rfl) (nm_int h3124)) rfl ?_
         refine WPL.q (q_as (v := .lit (.int _ _)) rfl) rfl ?_
         refine WPL.nilW ?_
         have q0 := (Option.some.inj H)
         subst q0
         exact W.wk [0, 1] hnp ⟨rfl, rfl, rfl⟩ ⟨rfl, ⟨⟨trivial, .inr ⟨rfl, rfl, rfl⟩⟩, .inr ⟨rfl, rfl, rfl⟩⟩, by decide, rfl, trivial⟩ (LeE.upd rfl rfl (LeE.upd rfl rfl (LeE.upd rfl rfl (LeE.upd rfl rfl (LeE.upd rfl rfl (LeE.none rfl rfl)))))) rfl
       replace H := cnf hb3122 H
       refine WP.skipW ?_
       have q0 := (Option.some.inj H)
       subst q0
       exact W.wk [0, 1] hnp ⟨rfl, rfl, rfl⟩ ⟨rfl, ⟨⟨trivial, .inr ⟨rfl, rfl, rfl⟩⟩, .inr ⟨rfl, rfl, rfl⟩⟩, by decide, rfl, trivial⟩ (LeE.upd rfl rfl (LeE.upd rfl rfl (LeE.upd rfl rfl (LeE.upd rfl rfl (LeE.upd rfl rfl (LeE.none rfl rfl)))))) rfl
     rintro _ _ _ ⟨rfl, rfl, rfl⟩
     refine W.now ?_
     refine Then.n ?_
     refine WP.seq ?_
     refine WP.region ?_
     refine WPL.q (q_mv (v := .whole _) rfl) rfl ?_
     refine WPL.q (q_mv (v := .lit (.int _ _)) rfl) rfl ?_
     refine WPL.d (d_buildSlice (ds := ([x3122] : List Int)) (R := (Rd.int .i64)) li50 rfl rfl rfl rfl rfl (JoinRows.cons1 Joins.sc rfl JoinRows.nil) rfl rfl) rfl ?_
     obtain ⟨h3125, H⟩ := grd H
     refine WPL.d (d_append ap50 rfl rfl rfl rfl (src_row sl50 rfl rfl) h3125 rfl) rfl ?_
     refine WPL.q (q_as (v := .whole _) rfl) rfl ?_
     refine WPL.nilW ?_
     refine W.now ?_
     refine Then.n ?_
     refine WP.region ?_
     refine WPL.q (q_mv (v := .lit (.int _ _)) rfl) rfl ?_
     refine WPL.q (q_quo rfl rfl rfl) rfl ?_
     refine WPL.q (q_as (v := .lit (.int _ _)) rfl) rfl ?_
     refine WPL.nilW ?_
     exact W.wk [0, 3] hnp (InBlock.n (Then.n ⟨n, ((IntKind.wrap .i64 (Int.tdiv x3106 10)), (x3107 ++ ([x3122] : List Int))), Nat.lt_succ_self n, H, rfl, rfl⟩)) ⟨rfl, ⟨⟨trivial, .inr ⟨rfl, rfl, rfl⟩⟩, .inr ⟨rfl, rfl, rfl⟩⟩, by decide, rfl, trivial⟩ (LeE.upd rfl rfl (LeE.upd rfl rfl (LeE.upd rfl rfl (LeE.upd rfl rfl (LeE.none rfl rfl))))) rfl
   replace H := cnf hb3118 H
   refine WP.exitW ?_
   have q0 := (Option.some.inj H)
   subst q0
   exact W.wk [0, 1] hnp (Then.x (Then.x ⟨rfl, rfl, rfl⟩)) ⟨rfl, ⟨⟨trivial, .inr ⟨rfl, rfl, rfl⟩⟩, .inr ⟨rfl, rfl, rfl⟩⟩, by decide, rfl, trivial⟩ (LeE.upd rfl rfl (LeE.upd rfl rfl (LeE.upd rfl rfl (LeE.none rfl rfl)))) rfl
 rintro _ _ _ ⟨rfl, rfl, rfl⟩
 refine W.now ?_
 refine InBlock.x0 ?_
 refine Then.n ?_
 refine WP.seq ?_
 refine WP.region ?_
 refine WPL.q (q_mv (v := .lit (.int _ _)) rfl) rfl ?_
 refine WPL.q (q_lss rfl rfl) rfl ?_
 refine WPL.q (q_mv (v := .whole _) rfl) rfl ?_
 refine WPL.q (q_build bu52 rfl) rfl ?_
 refine WPL.s (s_store sz52 rfl rfl rfl rfl rfl) ?_
 refine WPL.nilW ?_
 refine W.now ?_
 refine Then.n ?_
 refine WP.retW ?_
 refine W.cv (Cv.frzRow (i := 1) rfl rfl hnp rfl rfl) rfl ?_
 have q0 := (Option.some.inj H)
 subst q0
 exact W.now (BodyR.mkR trivial rfl [0] ⟨rfl, rfl⟩ ⟨rfl, ⟨trivial, .inr ⟨rfl, rfl, rfl⟩⟩, by decide, rfl, trivial⟩ rfl rfl)
set_option maxRecDepth 100000 in
set_option maxHeartbeats 4000000 in
theorem s_quireref09_at (k : Nat) (x3138 : Bool) (x3139 : (List Int)) (x3140 : Int) (x3158 : Int) (H : g_quireref09_at k x3138 x3139 x3140 = some x3158) : Go.Q.Spec Tryd.prog 28 0 [.agg [.lit (.bool x3138), .ro (Rd.slice (Rd.int .i64)) false x3139], .lit (.int .i64 x3140)] Mem.nil (fun o M => o = .ret (.lit (.int .i64 x3158)) ∧ M = Mem.nil) := by
 unfold g_quireref09_at at H
 refine Go.Q.Spec.of_bodyR (az := []) (rs := [.tmp 4]) (nt := 19) Tryd.func28 rfl rfl (by intro t T h; simp at h) rfl rfl fun cx hnp => ?_
 refine WP.seq ?_
 refine WP.region ?_
 refine WPL.d (d_box rfl rfl) rfl ?_
 refine WPL.q (q_as (v := .lit (.int _ _)) rfl) rfl ?_
 refine WPL.nilW ?_
 refine W.now ?_
 refine Then.n ?_
 refine WP.seq ?_
 refine WP.seq ?_
 obtain ⟨x3169, H3171, H⟩ := bnd H
 refine WP.monoW (Q := fun x E M => x = .normal ∧ E = (((Env.none.upd 1 (.lit (.int .i64 x3140))).upd 2 (.ptr 0 0)).upd 13 (.lit (.bool x3169))) ∧ M = (Mem.nil.push (.cells 52 [.lit (.bool x3138), .ro (Rd.slice (Rd.int .i64)) false x3139]))) ?_ ?_
 · clear H
   have H := H3171
   clear H3171
   refine WP.region ?_
   refine WPL.q (q_mv (v := .lit (.int _ _)) rfl) rfl ?_
   refine WPL.q (q_geq rfl rfl) rfl ?_
   refine WPL.q (q_mv (v := .lit (.bool _)) rfl) rfl ?_
   refine WPL.split (t := 7) (b := (decide (0 ≤ x3140))) rfl (fun hb3169 => ?_) (fun hb3169 => ?_)
   · replace H := cnt hb3169 H
     refine WPL.qg rfl rfl (lb hb3169) (q_mv (v := .lit (.int _ _)) rfl) rfl ?_
     refine WPL.qg rfl rfl (lb hb3169) (q_fieldAddr fi52_1 rfl rfl) rfl ?_
     refine WPL.qg rfl rfl (lb hb3169) (q_load sc50 rfl rfl rfl) rfl ?_
     refine WPL.qg rfl rfl (lb hb3169) (q_len_ro sl50 rfl) rfl ?_
     obtain ⟨x3171, h3171, H⟩ := bnd H
     refine WPL.qg rfl rfl (lb hb3169) (q_nm (q_lss rfl rfl) (nm_bool h3171)) rfl ?_
     refine WPL.q (q_pickT (v := .lit (.bool _)) (lb hb3169) rfl) rfl ?_
     refine WPL.nilW ?_
     have q0 := (Option.some.inj H)
     subst q0
     exact W.wk [0] hnp ⟨rfl, rfl, rfl⟩ ⟨rfl, ⟨trivial, .inr ⟨rfl, rfl, rfl⟩⟩, by decide, rfl, trivial⟩ (LeE.upd rfl rfl (LeE.upd rfl rfl (LeE.upd rfl rfl (LeE.none rfl rfl)))) rfl
   replace H := cnf hb3169 H
   refine WPL.skipg (b' := false) rfl rfl (lb hb3169) rfl rfl ?_
   refine WPL.skipg (b' := false) rfl rfl (lb hb3169) rfl rfl ?_
   refine WPL.skipg (b' := false) rfl rfl (lb hb3169) rfl rfl ?_
   refine WPL.skipg (b' := false) rfl rfl (lb hb3169) rfl rfl ?_
   refine WPL.skipg (b' := false) rfl rfl (lb hb3169) rfl rfl ?_
   refine WPL.q (q_pickF (v := .lit (.bool _)) (lb hb3169) rfl) rfl ?_
   refine WPL.nilW ?_
   have q0 := (Option.some.inj H)
   subst q0
   exact W.wk [0] hnp ⟨rfl, rfl, rfl⟩ ⟨rfl, ⟨trivial, .inr ⟨rfl, rfl, rfl⟩⟩, by decide, rfl, trivial⟩ (LeE.upd rfl rfl (LeE.upd rfl rfl (LeE.upd rfl rfl (LeE.none rfl rfl)))) rfl
 rintro _ _ _ ⟨rfl, rfl, rfl⟩
 refine W.now ?_
 refine Then.n ?_
 refine WP.cond (t := x3169) rfl (fun hb3172 => ?_) (fun hb3172 => ?_)
 · replace H := cnt hb3172 H
   refine WP.seq ?_
   refine WP.region ?_
   refine WPL.q (q_fieldAddr fi52_1 rfl rfl) rfl ?_
   refine WPL.q (q_load sc50 rfl rfl rfl) rfl ?_
   refine WPL.q (q_mv (v := .lit (.int _ _)) rfl) rfl ?_
   obtain ⟨x3174, h3174, H⟩ := bnd H
   refine WPL.q (q_index_ro sl50 rfl rfl rfl h3174) rfl ?_
   refine WPL.q (q_load_sc sc3 rfl) rfl ?_
   refine WPL.q (q_as (v := .lit (.int _ _)) rfl) rfl ?_
   refine WPL.nilW ?_
   refine W.now ?_
   refine Then.n ?_
   refine WP.retW ?_
   have q0 := (Option.some.inj H)
   subst q0
   exact W.now (Then.r (BodyR.mkR trivial rfl [] ⟨rfl, rfl⟩ ⟨rfl, trivial, by decide, rfl, trivial⟩ rfl rfl))
 replace H := cnf hb3172 H
 refine WP.skipW ?_
 refine W.now ?_
 refine Then.n ?_
 refine WP.seq ?_
 refine WP.region ?_
 refine WPL.q (q_as (v := .lit (.int _ _)) rfl) rfl ?_
 refine WPL.nilW ?_
 refine W.now ?_
 refine Then.n ?_
 refine WP.retW ?_
 have q0 := (Option.some.inj H)
 subst q0
 exact W.now (BodyR.mkR trivial rfl [] ⟨rfl, rfl⟩ ⟨rfl, trivial, by decide, rfl, trivial⟩ rfl rfl)
set_option maxRecDepth 100000 in
set_option maxHeartbeats 4000000 in
theorem s_quireref09_more (k : Nat) (x3130 : Bool) (x3131 : (List Int)) (x3132 : Bool) (x3133 : (List Int)) (x3289 : Int) (H : g_quireref09_more k x3130 x3131 x3132 x3133 = some x3289) : Go.Q.Spec Tryd.prog 67 0 [.agg [.lit (.bool x3130), .ro (Rd.slice (Rd.int .i64)) false x3131], .agg [.lit (.bool x3132), .ro (Rd.slice (Rd.int .i64)) false x3133]] Mem.nil (fun o M => o = .ret (.lit (.int .i64 x3289)) ∧ M = Mem.nil) := by
 unfold g_quireref09_more at H
 refine Go.Q.Spec.of_bodyR (az := []) (rs := [.tmp 4]) (nt := 31) Tryd.func67 rfl rfl (by intro t T h; simp at h) rfl rfl fun cx hnp => ?_
 refine WP.seq ?_
 refine WP.region ?_
 refine WPL.d (d_box rfl rfl) rfl ?_
 refine WPL.d (d_box rfl rfl) rfl ?_
 refine WPL.q (q_as (v := .lit (.int _ _)) rfl) rfl ?_
 refine WPL.nilW ?_
 refine W.now ?_
 refine Then.n ?_
 refine WP.seq ?_
 refine WP.seq ?_
 refine WP.region ?_
 refine WPL.q (q_fieldAddr fi52_1 rfl rfl) rfl ?_
 refine WPL.q (q_load sc50 rfl rfl rfl) rfl ?_
 refine WPL.q (q_len_ro sl50 rfl) rfl ?_
 refine WPL.q (q_fieldAddr fi52_1 rfl rfl) rfl ?_
 refine WPL.q (q_load sc50 rfl rfl rfl) rfl ?_
 refine WPL.q (q_len_ro sl50 rfl) rfl ?_
 obtain ⟨x3290, h3290, H⟩ := bnd H
 refine WPL.q (q_nm (q_add rfl rfl) (nm_int h3290)) rfl ?_
 refine WPL.q (q_as (v := .lit (.int _ _)) rfl) rfl ?_
 refine WPL.nilW ?_
 refine W.now ?_
 refine Then.n ?_
 refine WP.block ?_
 refine WP.cv (Cv.weak (E' := (((Env.none.upd 2 (.ptr 0 0)).upd 3 (.ptr 1 0)).upd 5 (.lit (.int .i64 x3290)))) (M' := ((Mem.nil.push (.cells 52 [.lit (.bool x3130), .ro (Rd.slice (Rd.int .i64)) false x3131])).push (.cells 52 [.lit (.bool x3132), .ro (Rd.slice (Rd.int .i64)) false x3133]))) [0, 1] hnp ⟨rfl, ⟨⟨trivial, .inr ⟨rfl, rfl, rfl⟩⟩, .inr ⟨rfl, rfl, rfl⟩⟩, by decide, rfl, trivial⟩ (LeE.upd rfl rfl (LeE.upd rfl rfl (LeE.upd rfl rfl (LeE.none rfl rfl))))) ?_
 obtain ⟨y3462, H3460, H⟩ := bnd H
 refine WP.monoW (Q := fun x E M => match (generalizing := false) y3462 with | (Sum.inl x3404) => x = .ret ∧ E = (Env.none.upd 4 (.lit (.int .i64 x3404))) ∧ M = Mem.nil | (Sum.inr _) => x = .exit 0 ∧ E = Env.none ∧ M = Mem.nil) ?_ ?_
 · refine WP.loop (β := Int) (fun n b => g_quireref09_more_l0 k x3130 x3131 x3132 x3133 n b = some y3462) (fun b => (((Env.none.upd 2 (.ptr 0 0)).upd 3 (.ptr 1 0)).upd 5 (.lit (.int .i64 b)))) (fun b => ((Mem.nil.push (.cells 52 [.lit (.bool x3130), .ro (Rd.slice (Rd.int .i64)) false x3131])).push (.cells 52 [.lit (.bool x3132), .ro (Rd.slice (Rd.int .i64)) false x3133]))) k x3290 H3460 rfl rfl ?_
   rintro n x3347 H
   obtain _ | n := n
   · exact nf rfl H
   rw [g_quireref09_more_l0.eq_2] at H
   show WP _ _ _ _ (((Env.none.upd 2 (.ptr 0 0)).upd 3 (.ptr 1 0)).upd 5 (.lit (.int .i64 x3347))) ((Mem.nil.push (.cells 52 [.lit (.bool x3130), .ro (Rd.slice (Rd.int .i64)) false x3131])).push (.cells 52 [.lit (.bool x3132), .ro (Rd.slice (Rd.int .i64)) false x3133])) _
   refine WP.seq ?_
   refine WP.seq ?_
   refine WP.region ?_
   refine WPL.q (q_mv (v := .lit (.int _ _)) rfl) rfl ?_
   refine WPL.q (q_geq rfl rfl) rfl ?_
   refine WPL.nilW ?_
   refine W.now ?_
   refine Then.n ?_
   refine WP.cond (t := (decide (0 ≤ x3347))) rfl (fun hb3405 => ?_) (fun hb3405 => ?_)
   · replace H := cnt hb3405 H
     refine WP.skipW ?_
     refine W.now ?_
     refine Then.n ?_
     refine WP.seq ?_
     refine WP.block ?_
     refine WP.seq ?_
     refine WP.seq ?_
     refine WP.regionD' 7 [0, 1] [] mixed rfl ?_
     refine WPD.takeT 1 rfl (by kernel_rfl) (q_mv (v := .lit (.int _ _)) rfl) rfl ?_
     refine WPD.takeT 4 rfl (by kernel_rfl) (q_mv (v := .lit (.int _ _)) rfl) rfl ?_
     refine WPD.take 0 rfl (by kernel_rfl) (q_load_ag ag52 rfl rfl (Nat.le_of_ble_eq_true rfl)) rfl rfl ?_
     refine WPD.take 3 rfl (by kernel_rfl) (q_load_ag ag52 rfl rfl (Nat.le_of_ble_eq_true rfl)) rfl rfl ?_
     obtain ⟨x3448, h3446, H⟩ := bnd H
     refine WPD.eff 2 [0, 1] [] rfl (by kernel_rfl) (runs_call (s := []) (t := []) (N := 2) (bor := []) fn28 rfl (s_quireref09_at k x3130 x3131 x3347 x3448 h3446) ⟨rfl, trivial, by decide, rfl, trivial⟩ rfl trivial (.ren rfl rfl (.ren rfl rfl .nil)) rfl trivial rfl) rfl rfl ?_
     obtain ⟨x3450, h3448, H⟩ := bnd H
     refine WPD.eff 5 [0, 1] [] rfl (by kernel_rfl) (runs_call (s := []) (t := []) (N := 2) (bor := []) fn28 rfl (s_quireref09_at k x3132 x3133 x3347 x3450 h3448) ⟨rfl, trivial, by decide, rfl, trivial⟩ rfl trivial (.ren rfl rfl (.ren rfl rfl .nil)) rfl trivial rfl) rfl rfl ?_
     refine WPD.takeT 6 rfl (by kernel_rfl) (q_gtr rfl rfl) rfl ?_
     refine WPD.doneW (by kernel_rfl) ?_
     refine W.now ?_
     refine Then.n ?_
     refine WP.cond (t := (decide (x3450 < x3448))) rfl (fun hb3450 => ?_) (fun hb3450 => ?_)
     · replace H := cnt hb3450 H
       refine WP.seq ?_
       refine WP.region ?_
       refine WPL.q (q_as (v := .lit (.int _ _)) rfl) rfl ?_
       refine WPL.nilW ?_
       refine W.now ?_
       refine Then.n ?_
       refine WP.retW ?_
       have q0 := Option.some.inj H
       subst q0
       exact W.wk [] hnp (Then.r (InBlock.r (Then.r (Then.r ⟨rfl, rfl, rfl⟩)))) ⟨rfl, trivial, by decide, rfl, trivial⟩ (LeE.upd rfl rfl (LeE.none rfl rfl)) rfl
     replace H := cnf hb3450 H
     refine WP.skipW ?_
     refine W.now ?_
     refine Then.n ?_
     refine WP.seq ?_
     refine WP.regionD' 7 [0, 1] [] mixed rfl ?_
     refine WPD.takeT 1 rfl (by kernel_rfl) (q_mv (v := .lit (.int _ _)) rfl) rfl ?_
     refine WPD.takeT 4 rfl (by kernel_rfl) (q_mv (v := .lit (.int _ _)) rfl) rfl ?_
     refine WPD.take 0 rfl (by kernel_rfl) (q_load_ag ag52 rfl rfl (Nat.le_of_ble_eq_true rfl)) rfl rfl ?_
     refine WPD.take 3 rfl (by kernel_rfl) (q_load_ag ag52 rfl rfl (Nat.le_of_ble_eq_true rfl)) rfl rfl ?_
     obtain ⟨x3457, h3455, H⟩ := bnd H
     refine WPD.eff 2 [0, 1] [] rfl (by kernel_rfl) (runs_call (s := []) (t := []) (N := 2) (bor := []) fn28 rfl (s_quireref09_at k x3130 x3131 x3347 x3457 h3455) ⟨rfl, trivial, by decide, rfl, trivial⟩ rfl trivial (.ren rfl rfl (.ren rfl rfl .nil)) rfl trivial rfl) rfl rfl ?_
     obtain ⟨x3459, h3457, H⟩ := bnd H
     refine WPD.eff 5 [0, 1] [] rfl (by kernel_rfl) (runs_call (s := []) (t := []) (N := 2) (bor := []) fn28 rfl (s_quireref09_at k x3132 x3133 x3347 x3459 h3457) ⟨rfl, trivial, by decide, rfl, trivial⟩ rfl trivial (.ren rfl rfl (.ren rfl rfl .nil)) rfl trivial rfl) rfl rfl ?_
     refine WPD.takeT 6 rfl (by kernel_rfl) (q_lss rfl rfl) rfl ?_
     refine WPD.doneW (by kernel_rfl) ?_
     refine W.now ?_
     refine Then.n ?_
     refine WP.cond (t := (decide (x3457 < x3459))) rfl (fun hb3459 => ?_) (fun hb3459 => ?_)
     · replace H := cnt hb3459 H
       refine WP.seq ?_
       refine WP.region ?_
       refine WPL.q (q_as (v := .lit (.int _ _)) rfl) rfl ?_
       refine WPL.nilW ?_
       refine W.now ?_
       refine Then.n ?_
       refine WP.retW ?_
       have q0 := Option.some.inj H
       subst q0
       exact W.wk [] hnp (InBlock.r (Then.r (Then.r ⟨rfl, rfl, rfl⟩))) ⟨rfl, trivial, by decide, rfl, trivial⟩ (LeE.upd rfl rfl (LeE.none rfl rfl)) rfl
     replace H := cnf hb3459 H
     refine WP.skipW ?_
     refine W.now ?_
     refine InBlock.n ?_
     refine Then.n ?_
     refine WP.region ?_
     refine WPL.q (q_mv (v := .lit (.int _ _)) rfl) rfl ?_
     refine WPL.q (q_sub rfl rfl) rfl ?_
     refine WPL.q (q_as (v := .lit (.int _ _)) rfl) rfl ?_
     refine WPL.nilW ?_
     exact W.wk [0, 1] hnp (Then.n ⟨n, (IntKind.wrap .i64 (x3347 - 1)), Nat.lt_succ_self n, H, rfl, rfl⟩) ⟨rfl, ⟨⟨trivial, .inr ⟨rfl, rfl, rfl⟩⟩, .inr ⟨rfl, rfl, rfl⟩⟩, by decide, rfl, trivial⟩ (LeE.upd rfl rfl (LeE.upd rfl rfl (LeE.upd rfl rfl (LeE.none rfl rfl)))) rfl
   replace H := cnf hb3405 H
   refine WP.exitW ?_
   have q0 := Option.some.inj H
   subst q0
   exact W.wk [] hnp (Then.x (Then.x ⟨rfl, rfl, rfl⟩)) ⟨rfl, trivial, by decide, rfl, trivial⟩ (LeE.none rfl rfl) rfl
 rcases y3462 with x3404 | _
 · rintro _ _ _ ⟨rfl, rfl, rfl⟩
   have q0 := (Option.some.inj H)
   subst q0
   exact W.now (InBlock.r (Then.r (BodyR.mkR trivial rfl [] ⟨rfl, rfl⟩ ⟨rfl, trivial, by decide, rfl, trivial⟩ rfl rfl)))
 rintro _ _ _ ⟨rfl, rfl, rfl⟩
 refine W.now ?_
 refine InBlock.x0 ?_
 refine Then.n ?_
 refine WP.seq ?_
 refine WP.region ?_
 refine WPL.q (q_as (v := .lit (.int _ _)) rfl) rfl ?_
 refine WPL.nilW ?_
 refine W.now ?_
 refine Then.n ?_
 refine WP.retW ?_
 have q0 := (Option.some.inj H)
 subst q0
 exact W.now (BodyR.mkR trivial rfl [] ⟨rfl, rfl⟩ ⟨rfl, trivial, by decide, rfl, trivial⟩ rfl rfl)
set_option maxRecDepth 100000 in
set_option maxHeartbeats 4000000 in
theorem s_quireref09_fits (k : Nat) (x3051 : Bool) (x3052 : (List Int)) (x3471 : Bool) (H : g_quireref09_fits k x3051 x3052 = some x3471) : Go.Q.Spec Tryd.prog 46 0 [.agg [.lit (.bool x3051), .ro (Rd.slice (Rd.int .i64)) false x3052]] Mem.nil (fun o M => o = .ret (.lit (.bool x3471)) ∧ M = Mem.nil) := by
 unfold g_quireref09_fits at H
 refine Go.Q.Spec.of_bodyR (az := []) (rs := [.tmp 2]) (nt := 22) Tryd.func46 rfl rfl (by intro t T h; simp at h) rfl rfl fun cx hnp => ?_
 refine WP.seq ?_
 refine WP.region ?_
 refine WPL.d (d_box rfl rfl) rfl ?_
 refine WPL.q (q_as (v := .lit (.bool _)) rfl) rfl ?_
 refine WPL.nilW ?_
 refine W.now ?_
 refine Then.n ?_
 refine WP.seq ?_
 refine WP.region ?_
 obtain ⟨x3473, h3471, H⟩ := bnd H
 refine WPL.c (runs_call (s := []) (t := [1]) (N := 2) (bor := []) fn55 rfl (s_quireref09_Of k (-9223372036854775808) x3473 h3471) ⟨rfl, trivial, by decide, rfl, trivial⟩ rfl trivial (.ren rfl rfl .nil) rfl ⟨trivial, rfl⟩ rfl) rfl ?_
 refine WPL.d (d_alloc ze52 rfl) rfl ?_
 refine WPL.s (s_store sz52 rfl rfl rfl rfl rfl) ?_
 refine WPL.nilW ?_
 refine W.now ?_
 refine Then.n ?_
 refine WP.seq ?_
 refine WP.region ?_
 refine WPL.q (q_fieldAddr fi52_0 rfl rfl) rfl ?_
 refine WPL.q (q_load sc4 rfl rfl rfl) rfl ?_
 refine WPL.q (q_fieldAddr fi52_0 rfl rfl) rfl ?_
 refine WPL.s (s_store sz4 rfl rfl rfl rfl rfl) ?_
 refine WPL.nilW ?_
 refine W.now ?_
 refine Then.n ?_
 refine WP.seq ?_
 refine WP.region ?_
 refine WPL.q (q_load_ag ag52 rfl rfl (Nat.le_of_ble_eq_true rfl)) rfl ?_
 refine WPL.q (q_load_ag ag52 rfl rfl (Nat.le_of_ble_eq_true rfl)) rfl ?_
 obtain ⟨x3475, h3473, H⟩ := bnd H
 refine WPL.c (runs_call (s := []) (t := []) (N := 3) (bor := []) fn67 rfl (s_quireref09_more k x3051 x3052 x3051 x3473 x3475 h3473) ⟨rfl, trivial, by decide, rfl, trivial⟩ rfl trivial (.ren rfl rfl (.ren rfl rfl .nil)) rfl trivial rfl) rfl ?_
 refine WPL.q (q_as (v := .lit (.int _ _)) rfl) rfl ?_
 refine WPL.nilW ?_
 refine W.now ?_
 refine Then.n ?_
 refine WP.seq ?_
 obtain ⟨x3478, H3480, H⟩ := bnd H
 refine WP.monoW (Q := fun x E M => x = .normal ∧ E = (Env.none.upd 2 (.lit (.bool x3478))) ∧ M = Mem.nil) ?_ ?_
 · clear H
   have H := H3480
   clear H3480
   refine WP.region ?_
   refine WPL.q (q_mv (v := .lit (.int _ _)) rfl) rfl ?_
   refine WPL.q (q_lss rfl rfl) rfl ?_
   refine WPL.q (q_mv (v := .lit (.bool _)) rfl) rfl ?_
   refine WPL.split (t := 14) (b := (decide (x3475 < 0))) rfl (fun hb3478 => ?_) (fun hb3478 => ?_)
   · replace H := cnt hb3478 H
     refine WPL.skipg (b' := true) rfl rfl (lb hb3478) rfl rfl ?_
     refine WPL.skipg (b' := true) rfl rfl (lb hb3478) rfl rfl ?_
     refine WPL.skipg (b' := true) rfl rfl (lb hb3478) rfl rfl ?_
     refine WPL.skipu rfl rfl rfl rfl ?_
     refine WPL.skipu rfl rfl rfl rfl ?_
     refine WPL.skipg (b' := true) rfl rfl (lb hb3478) rfl rfl ?_
     refine WPL.q (q_pickT (v := .lit (.bool _)) (lb hb3478) rfl) rfl ?_
     refine WPL.q (q_as (v := .lit (.bool _)) rfl) rfl ?_
     refine WPL.nilW ?_
     have q0 := (Option.some.inj H)
     subst q0
     exact W.wk [] hnp ⟨rfl, rfl, rfl⟩ ⟨rfl, trivial, by decide, rfl, trivial⟩ (LeE.upd rfl rfl (LeE.none rfl rfl)) rfl
   replace H := cnf hb3478 H
   refine WPL.qg rfl rfl (lb hb3478) (q_mv (v := .lit (.int _ _)) rfl) rfl ?_
   refine WPL.qg rfl rfl (lb hb3478) (q_eql rfl rfl) rfl ?_
   refine WPL.qg rfl rfl (lb hb3478) (q_mv (v := .lit (.bool _)) rfl) rfl ?_
   refine WPL.split (t := 17) (b := (decide (x3475 = 0))) rfl (fun hb3479 => ?_) (fun hb3479 => ?_)
   · replace H := cnt hb3479 H
     refine WPL.qg rfl rfl (lb hb3479) (q_fieldAddr fi52_0 rfl rfl) rfl ?_
     refine WPL.qg rfl rfl (lb hb3479) (q_load sc4 rfl rfl rfl) rfl ?_
     refine WPL.qg rfl rfl (lb hb3478) (q_pickT (v := .lit (.bool _)) (lb hb3479) rfl) rfl ?_
     refine WPL.q (q_pickF (v := .lit (.bool _)) (lb hb3478) rfl) rfl ?_
     refine WPL.q (q_as (v := .lit (.bool _)) rfl) rfl ?_
     refine WPL.nilW ?_
     have q0 := (Option.some.inj H)
     subst q0
     exact W.wk [] hnp ⟨rfl, rfl, rfl⟩ ⟨rfl, trivial, by decide, rfl, trivial⟩ (LeE.upd rfl rfl (LeE.none rfl rfl)) rfl
   replace H := cnf hb3479 H
   refine WPL.skipg (b' := false) rfl rfl (lb hb3479) rfl rfl ?_
   refine WPL.skipg (b' := false) rfl rfl (lb hb3479) rfl rfl ?_
   refine WPL.qg rfl rfl (lb hb3478) (q_pickF (v := .lit (.bool _)) (lb hb3479) rfl) rfl ?_
   refine WPL.q (q_pickF (v := .lit (.bool _)) (lb hb3478) rfl) rfl ?_
   refine WPL.q (q_as (v := .lit (.bool _)) rfl) rfl ?_
   refine WPL.nilW ?_
   have q0 := (Option.some.inj H)
   subst q0
   exact W.wk [] hnp ⟨rfl, rfl, rfl⟩ ⟨rfl, trivial, by decide, rfl, trivial⟩ (LeE.upd rfl rfl (LeE.none rfl rfl)) rfl
 rintro _ _ _ ⟨rfl, rfl, rfl⟩
 refine W.now ?_
 refine Then.n ?_
 refine WP.retW ?_
 have q0 := (Option.some.inj H)
 subst q0
 exact W.now (BodyR.mkR trivial rfl [] ⟨rfl, rfl⟩ ⟨rfl, trivial, by decide, rfl, trivial⟩ rfl rfl)
set_option maxRecDepth 100000 in
set_option maxHeartbeats 4000000 in
theorem s_quireref09_Tell (k : Nat) (x2794 : Bool) (x2795 : (List Int)) (x2796 : Int) (x3535 : Int) (x3536 : Int) (x3537 : Int) (H : g_quireref09_Tell k x2794 x2795 x2796 = some (x3535, x3536, x3537)) : Go.Q.Spec Tryd.prog 21 0 [.agg [.lit (.bool x2794), .ro (Rd.slice (Rd.int .i64)) false x2795, .lit (.int .i64 x2796)]] Mem.nil (fun o M => o = .ret (.tup [.agg [.lit (.int .i64 x3536), .lit (.int .i64 x3537)], .lit (.int .i64 x3535)]) ∧ M = (Mem.nil.push (.cells 23 [.lit (.int .i64 x3536), .lit (.int .i64 x3537)]))) := by
 unfold g_quireref09_Tell at H
 refine Go.Q.Spec.of_bodyR (az := [(23, 2)]) (rs := [.cell 2 23, .tmp 3]) (nt := 93) Tryd.func21 rfl rfl (by intro t T h; simp at h; rcases h with ⟨rfl, rfl⟩ <;> first | exact ag23) rfl rfl fun cx hnp => ?_
 refine WP.seq ?_
 refine WP.region ?_
 refine WPL.d (d_box rfl rfl) rfl ?_
 refine WPL.d (d_alloc ze23 rfl) rfl ?_
 refine WPL.q (q_as (v := .lit (.int _ _)) rfl) rfl ?_
 refine WPL.nilW ?_
 refine W.now ?_
 refine Then.n ?_
 refine WP.seq ?_
 refine WP.regionD' 7 [0] [] mixed rfl ?_
 refine WPD.takeT 0 rfl (by kernel_rfl) (q_fieldAddr fi54_0 rfl rfl) rfl ?_
 refine WPD.takeT 2 rfl (by kernel_rfl) (q_fieldAddr fi54_1 rfl rfl) rfl ?_
 refine WPD.take 1 rfl (by kernel_rfl) (q_load_ag ag52 rfl rfl (Nat.le_of_ble_eq_true rfl)) rfl rfl ?_
 refine WPD.take 3 rfl (by kernel_rfl) (q_load sc3 rfl rfl rfl) rfl rfl ?_
 refine WPD.eff 4 [0] [] rfl (by kernel_rfl) (Does.runs (d_alloc ze52 rfl)) rfl rfl ?_
 refine WPD.effS 5 [0] [] rfl (by kernel_rfl) (s_store sz52 rfl rfl rfl rfl rfl) rfl ?_
 refine WPD.takeT 6 rfl (by kernel_rfl) (q_as (v := .lit (.int _ _)) rfl) rfl ?_
 refine WPD.doneW (by kernel_rfl) ?_
 refine W.now ?_
 refine Then.n ?_
 refine WP.seq ?_
 refine WP.seq ?_
 refine WP.region ?_
 refine WPL.q (q_fieldAddr fi52_1 rfl rfl) rfl ?_
 refine WPL.q (q_load sc50 rfl rfl rfl) rfl ?_
 refine WPL.q (q_len_ro sl50 rfl) rfl ?_
 obtain ⟨x3540, h3540, H⟩ := bnd H
 refine WPL.q (q_nm (q_eql rfl rfl) (nm_bool h3540)) rfl ?_
 refine WPL.nilW ?_
 refine W.now ?_
 refine Then.n ?_
 refine WP.cond (t := x3540) rfl (fun hb3540 => ?_) (fun hb3540 => ?_)
 · replace H := cnt hb3540 H
   refine WP.seq ?_
   refine WP.region ?_
   refine WPL.q (q_build bu23 rfl) rfl ?_
   refine WPL.s (s_store sz23 rfl rfl rfl rfl rfl) ?_
   refine WPL.q (q_as (v := .lit (.int _ _)) rfl) rfl ?_
   refine WPL.nilW ?_
   refine W.now ?_
   refine Then.n ?_
   refine WP.retW ?_
   have q0 := (Prod.mk.inj (Option.some.inj H)).1
   have q1 := (Prod.mk.inj (Prod.mk.inj (Option.some.inj H)).2).1
   have q2 := (Prod.mk.inj (Prod.mk.inj (Option.some.inj H)).2).2
   subst q0
   subst q1
   subst q2
   exact W.now (Then.r (BodyR.mkR trivial rfl [1] ⟨rfl, rfl⟩ ⟨rfl, ⟨trivial, .inr ⟨rfl, rfl, rfl⟩⟩, by decide, rfl, trivial⟩ rfl rfl))
 replace H := cnf hb3540 H
 refine WP.skipW ?_
 refine W.now ?_
 refine Then.n ?_
 refine WP.seq ?_
 refine WP.seq ?_
 refine WP.region ?_
 refine WPL.q (q_mv (v := .lit (.int _ _)) rfl) rfl ?_
 refine WPL.q (q_gtr rfl rfl) rfl ?_
 refine WPL.nilW ?_
 refine W.now ?_
 refine Then.n ?_
 refine WP.cond (t := (decide (60 < x2796))) rfl (fun hb3542 => ?_) (fun hb3542 => ?_)
 · replace H := cnt hb3542 H
   refine WP.seq ?_
   refine WP.region ?_
   refine WPL.q (q_build bu23 rfl) rfl ?_
   refine WPL.s (s_store sz23 rfl rfl rfl rfl rfl) ?_
   refine WPL.q (q_as (v := .lit (.int _ _)) rfl) rfl ?_
   refine WPL.nilW ?_
   refine W.now ?_
   refine Then.n ?_
   refine WP.retW ?_
   have q0 := (Prod.mk.inj (Option.some.inj H)).1
   have q1 := (Prod.mk.inj (Prod.mk.inj (Option.some.inj H)).2).1
   have q2 := (Prod.mk.inj (Prod.mk.inj (Option.some.inj H)).2).2
   subst q0
   subst q1
   subst q2
   exact W.now (Then.r (BodyR.mkR trivial rfl [1] ⟨rfl, rfl⟩ ⟨rfl, ⟨trivial, .inr ⟨rfl, rfl, rfl⟩⟩, by decide, rfl, trivial⟩ rfl rfl))
 replace H := cnf hb3542 H
 refine WP.skipW ?_
 refine W.now ?_
 refine Then.n ?_
 refine WP.seq ?_
 refine WP.block ?_
 refine WP.cv (Cv.weak (E' := (((Env.none.upd 2 (.ptr 0 0)).upd 4 (.ptr 1 0)).upd 5 (.lit (.int .i64 x2796)))) (M' := ((Mem.nil.push (.cells 23 [.lit (.int .i64 0), .lit (.int .i64 0)])).push (.cells 52 [.lit (.bool x2794), .ro (Rd.slice (Rd.int .i64)) false x2795]))) [1, 2] hnp ⟨rfl, ⟨⟨trivial, .inr ⟨rfl, rfl, rfl⟩⟩, .inr ⟨rfl, rfl, rfl⟩⟩, by decide, rfl, trivial⟩ (LeE.upd rfl rfl (LeE.upd rfl rfl (LeE.upd rfl rfl (LeE.none rfl rfl))))) ?_
 obtain ⟨⟨x3607, x3608, x3609⟩, H3639, H⟩ := bnd H
 refine WP.monoW (Q := fun x E M => x = .exit 0 ∧ E = (((Env.none.upd 2 (.ptr 0 0)).upd 4 (.ptr 1 0)).upd 5 (.lit (.int .i64 x3607))) ∧ M = ((Mem.nil.push (.cells 23 [.lit (.int .i64 0), .lit (.int .i64 0)])).push (.cells 52 [.lit (.bool x3608), .ro (Rd.slice (Rd.int .i64)) false x3609]))) ?_ ?_
 · refine WP.loop (β := Int × Bool × (List Int)) (fun n b => g_quireref09_Tell_l0 k n b.1 b.2.1 b.2.2 = some (x3607, x3608, x3609)) (fun b => (((Env.none.upd 2 (.ptr 0 0)).upd 4 (.ptr 1 0)).upd 5 (.lit (.int .i64 b.1)))) (fun b => ((Mem.nil.push (.cells 23 [.lit (.int .i64 0), .lit (.int .i64 0)])).push (.cells 52 [.lit (.bool b.2.1), .ro (Rd.slice (Rd.int .i64)) false b.2.2]))) k (x2796, x2794, x2795) H3639 rfl rfl ?_
   rintro n ⟨x3574, x3575, x3576⟩ H
   obtain _ | n := n
   · exact nf rfl H
   rw [g_quireref09_Tell_l0.eq_2] at H
   show WP _ _ _ _ (((Env.none.upd 2 (.ptr 0 0)).upd 4 (.ptr 1 0)).upd 5 (.lit (.int .i64 x3574))) ((Mem.nil.push (.cells 23 [.lit (.int .i64 0), .lit (.int .i64 0)])).push (.cells 52 [.lit (.bool x3575), .ro (Rd.slice (Rd.int .i64)) false x3576])) _
   refine WP.seq ?_
   refine WP.seq ?_
   obtain ⟨x3622, H3625, H⟩ := bnd H
   refine WP.monoW (Q := fun x E M => x = .normal ∧ E = ((((Env.none.upd 2 (.ptr 0 0)).upd 4 (.ptr 1 0)).upd 5 (.lit (.int .i64 x3574))).upd 30 (.lit (.bool x3622))) ∧ M = ((Mem.nil.push (.cells 23 [.lit (.int .i64 0), .lit (.int .i64 0)])).push (.cells 52 [.lit (.bool x3575), .ro (Rd.slice (Rd.int .i64)) false x3576]))) ?_ ?_
   · clear H
     have H := H3625
     clear H3625
     refine WP.region ?_
     refine WPL.q (q_fieldAddr fi52_1 rfl rfl) rfl ?_
     refine WPL.q (q_load sc50 rfl rfl rfl) rfl ?_
     refine WPL.q (q_len_ro sl50 rfl) rfl ?_
     obtain ⟨x3623, h3623, H⟩ := bnd H
     refine WPL.q (q_nm (q_gtr rfl rfl) (nm_bool h3623)) rfl ?_
     refine WPL.q (q_mv (v := .lit (.bool _)) rfl) rfl ?_
     refine WPL.split (t := 24) (b := x3623) rfl (fun hb3623 => ?_) (fun hb3623 => ?_)
     · replace H := cnt hb3623 H
       refine WPL.qg rfl rfl (lb hb3623) (q_fieldAddr fi52_1 rfl rfl) rfl ?_
       refine WPL.qg rfl rfl (lb hb3623) (q_load sc50 rfl rfl rfl) rfl ?_
       obtain ⟨x3625, h3625, H⟩ := bnd H
       refine WPL.qg rfl rfl (lb hb3623) (q_index_ro sl50 rfl rfl rfl h3625) rfl ?_
       refine WPL.qg rfl rfl (lb hb3623) (q_load_sc sc3 rfl) rfl ?_
       refine WPL.qg rfl rfl (lb hb3623) (q_eql rfl rfl) rfl ?_
       refine WPL.q (q_pickT (v := .lit (.bool _)) (lb hb3623) rfl) rfl ?_
       refine WPL.nilW ?_
       have q0 := (Option.some.inj H)
       subst q0
       exact W.wk [0, 1] hnp ⟨rfl, rfl, rfl⟩ ⟨rfl, ⟨⟨trivial, .inr ⟨rfl, rfl, rfl⟩⟩, .inr ⟨rfl, rfl, rfl⟩⟩, by decide, rfl, trivial⟩ (LeE.upd rfl rfl (LeE.upd rfl rfl (LeE.upd rfl rfl (LeE.upd rfl rfl (LeE.none rfl rfl))))) rfl
     replace H := cnf hb3623 H
     refine WPL.skipg (b' := false) rfl rfl (lb hb3623) rfl rfl ?_
     refine WPL.skipg (b' := false) rfl rfl (lb hb3623) rfl rfl ?_
     refine WPL.skipg (b' := false) rfl rfl (lb hb3623) rfl rfl ?_
     refine WPL.skipg (b' := false) rfl rfl (lb hb3623) rfl rfl ?_
     refine WPL.skipg (b' := false) rfl rfl (lb hb3623) rfl rfl ?_
     refine WPL.q (q_pickF (v := .lit (.bool _)) (lb hb3623) rfl) rfl ?_
     refine WPL.nilW ?_
     have q0 := (Option.some.inj H)
     subst q0
     exact W.wk [0, 1] hnp ⟨rfl, rfl, rfl⟩ ⟨rfl, ⟨⟨trivial, .inr ⟨rfl, rfl, rfl⟩⟩, .inr ⟨rfl, rfl, rfl⟩⟩, by decide, rfl, trivial⟩ (LeE.upd rfl rfl (LeE.upd rfl rfl (LeE.upd rfl rfl (LeE.upd rfl rfl (LeE.none rfl rfl))))) rfl
   rintro _ _ _ ⟨rfl, rfl, rfl⟩
   refine W.now ?_
   refine Then.n ?_
   refine WP.cond (t := x3622) rfl (fun hb3626 => ?_) (fun hb3626 => ?_)
   · replace H := cnt hb3626 H
     refine WP.skipW ?_
     refine W.now ?_
     refine Then.n ?_
     refine WP.block ?_
     refine WP.seq ?_
     refine WP.regionD' 8 [1] [7] mixed rfl ?_
     refine WPD.takeT 0 rfl (by kernel_rfl) (q_fieldAddr fi52_0 rfl rfl) rfl ?_
     refine WPD.takeT 2 rfl (by kernel_rfl) (q_fieldAddr fi52_1 rfl rfl) rfl ?_
     refine WPD.take 1 rfl (by kernel_rfl) (q_load sc4 rfl rfl rfl) rfl rfl ?_
     refine WPD.take 3 rfl (by kernel_rfl) (q_load sc50 rfl rfl rfl) rfl rfl ?_
     obtain ⟨h3635, H⟩ := grd H
     refine WPD.takeT 4 rfl (by kernel_rfl) (q_slice_ro (i := 1) (j := ((List.length x3576 : Nat) : Int)) sl50 rfl rfl ⟨_, rfl⟩ rfl h3635) rfl ?_
     refine WPD.takeT 5 rfl (by kernel_rfl) (q_build bu52 rfl) rfl ?_
     obtain ⟨⟨x3638, x3639⟩, h3636, H⟩ := bnd H
     refine WPD.eff 6 [1] [7] rfl (by kernel_rfl) (runs_call (s := []) (t := [2]) (N := 3) (bor := []) fn20 rfl (s_quireref09_trim__b k x3575 (List.drop (Int.toNat 1) (List.take (Int.toNat ((List.length x3576 : Nat) : Int)) x3576)) x3638 x3639 h3636) ⟨rfl, trivial, by decide, rfl, trivial⟩ rfl trivial (.ren rfl rfl .nil) rfl ⟨trivial, rfl⟩ rfl) rfl rfl ?_
     refine WPD.effS 7 [] [] rfl (by kernel_rfl) (s_store sz52 rfl rfl rfl rfl rfl) rfl ?_
     refine WPD.doneW (by kernel_rfl) ?_
     refine W.now ?_
     refine Then.n ?_
     refine WP.region ?_
     refine WPL.q (q_mv (v := .lit (.int _ _)) rfl) rfl ?_
     refine WPL.q (q_add rfl rfl) rfl ?_
     refine WPL.q (q_as (v := .lit (.int _ _)) rfl) rfl ?_
     refine WPL.nilW ?_
     exact W.wk [0, 1] hnp (InBlock.n (Then.n ⟨n, ((IntKind.wrap .i64 (x3574 + 1)), x3638, x3639), Nat.lt_succ_self n, H, rfl, rfl⟩)) ⟨rfl, ⟨⟨trivial, .inr ⟨rfl, rfl, rfl⟩⟩, .inr ⟨rfl, rfl, rfl⟩⟩, by decide, rfl, trivial⟩ (LeE.upd rfl rfl (LeE.upd rfl rfl (LeE.upd rfl rfl (LeE.none rfl rfl)))) rfl
   replace H := cnf hb3626 H
   refine WP.exitW ?_
   have q0 := (Prod.mk.inj (Option.some.inj H)).1
   have q1 := (Prod.mk.inj (Prod.mk.inj (Option.some.inj H)).2).1
   have q2 := (Prod.mk.inj (Prod.mk.inj (Option.some.inj H)).2).2
   subst q0
   subst q1
   subst q2
   exact W.wk [0, 1] hnp (Then.x (Then.x ⟨rfl, rfl, rfl⟩)) ⟨rfl, ⟨⟨trivial, .inr ⟨rfl, rfl, rfl⟩⟩, .inr ⟨rfl, rfl, rfl⟩⟩, by decide, rfl, trivial⟩ (LeE.upd rfl rfl (LeE.upd rfl rfl (LeE.upd rfl rfl (LeE.none rfl rfl)))) rfl
 rintro _ _ _ ⟨rfl, rfl, rfl⟩
 refine W.now ?_
 refine InBlock.x0 ?_
 refine Then.n ?_
 refine WP.seq ?_
 refine WP.block ?_
 refine WP.cv (Cv.weak (E' := (((Env.none.upd 2 (.ptr 0 0)).upd 4 (.ptr 1 0)).upd 5 (.lit (.int .i64 x3607)))) (M' := ((Mem.nil.push (.cells 23 [.lit (.int .i64 0), .lit (.int .i64 0)])).push (.cells 52 [.lit (.bool x3608), .ro (Rd.slice (Rd.int .i64)) false x3609]))) [0, 1] hnp ⟨rfl, ⟨⟨trivial, .inr ⟨rfl, rfl, rfl⟩⟩, .inr ⟨rfl, rfl, rfl⟩⟩, by decide, rfl, trivial⟩ (LeE.upd rfl rfl (LeE.upd rfl rfl (LeE.upd rfl rfl (LeE.none rfl rfl))))) ?_
 obtain ⟨⟨x3678, x3679, x3680⟩, H3697, H⟩ := bnd H
 refine WP.monoW (Q := fun x E M => x = .exit 2 ∧ E = (((Env.none.upd 2 (.ptr 0 0)).upd 4 (.ptr 1 0)).upd 5 (.lit (.int .i64 x3678))) ∧ M = ((Mem.nil.push (.cells 23 [.lit (.int .i64 0), .lit (.int .i64 0)])).push (.cells 52 [.lit (.bool x3679), .ro (Rd.slice (Rd.int .i64)) false x3680]))) ?_ ?_
 · refine WP.loop (β := Int × Bool × (List Int)) (fun n b => g_quireref09_Tell_l1 k n b.1 b.2.1 b.2.2 = some (x3678, x3679, x3680)) (fun b => (((Env.none.upd 2 (.ptr 0 0)).upd 4 (.ptr 1 0)).upd 5 (.lit (.int .i64 b.1)))) (fun b => ((Mem.nil.push (.cells 23 [.lit (.int .i64 0), .lit (.int .i64 0)])).push (.cells 52 [.lit (.bool b.2.1), .ro (Rd.slice (Rd.int .i64)) false b.2.2]))) k (x3607, x3608, x3609) H3697 rfl rfl ?_
   rintro n ⟨x3658, x3659, x3660⟩ H
   obtain _ | n := n
   · exact nf rfl H
   rw [g_quireref09_Tell_l1.eq_2] at H
   show WP _ _ _ _ (((Env.none.upd 2 (.ptr 0 0)).upd 4 (.ptr 1 0)).upd 5 (.lit (.int .i64 x3658))) ((Mem.nil.push (.cells 23 [.lit (.int .i64 0), .lit (.int .i64 0)])).push (.cells 52 [.lit (.bool x3659), .ro (Rd.slice (Rd.int .i64)) false x3660])) _
   refine WP.seq ?_
   refine WP.seq ?_
   obtain ⟨x3690, H3692, H⟩ := bnd H
   refine WP.monoW (Q := fun x E M => x = .normal ∧ E = ((((Env.none.upd 2 (.ptr 0 0)).upd 4 (.ptr 1 0)).upd 5 (.lit (.int .i64 x3658))).upd 47 (.lit (.bool x3690))) ∧ M = ((Mem.nil.push (.cells 23 [.lit (.int .i64 0), .lit (.int .i64 0)])).push (.cells 52 [.lit (.bool x3659), .ro (Rd.slice (Rd.int .i64)) false x3660]))) ?_ ?_
   · clear H
     have H := H3692
     clear H3692
     refine WP.region ?_
     refine WPL.q (q_mv (v := .lit (.int _ _)) rfl) rfl ?_
     refine WPL.q (q_gtr rfl rfl) rfl ?_
     refine WPL.q (q_mv (v := .lit (.bool _)) rfl) rfl ?_
     refine WPL.split (t := 42) (b := (decide (18 < x3658))) rfl (fun hb3690 => ?_) (fun hb3690 => ?_)
     · replace H := cnt hb3690 H
       refine WPL.qg rfl rfl (lb hb3690) (q_fieldAddr fi52_1 rfl rfl) rfl ?_
       refine WPL.qg rfl rfl (lb hb3690) (q_load sc50 rfl rfl rfl) rfl ?_
       refine WPL.qg rfl rfl (lb hb3690) (q_len_ro sl50 rfl) rfl ?_
       obtain ⟨x3692, h3692, H⟩ := bnd H
       refine WPL.qg rfl rfl (lb hb3690) (q_nm (q_lss rfl rfl) (nm_bool h3692)) rfl ?_
       refine WPL.q (q_pickT (v := .lit (.bool _)) (lb hb3690) rfl) rfl ?_
       refine WPL.nilW ?_
       have q0 := (Option.some.inj H)
       subst q0
       exact W.wk [0, 1] hnp ⟨rfl, rfl, rfl⟩ ⟨rfl, ⟨⟨trivial, .inr ⟨rfl, rfl, rfl⟩⟩, .inr ⟨rfl, rfl, rfl⟩⟩, by decide, rfl, trivial⟩ (LeE.upd rfl rfl (LeE.upd rfl rfl (LeE.upd rfl rfl (LeE.upd rfl rfl (LeE.none rfl rfl))))) rfl
     replace H := cnf hb3690 H
     refine WPL.skipg (b' := false) rfl rfl (lb hb3690) rfl rfl ?_
     refine WPL.skipg (b' := false) rfl rfl (lb hb3690) rfl rfl ?_
     refine WPL.skipg (b' := false) rfl rfl (lb hb3690) rfl rfl ?_
     refine WPL.skipg (b' := false) rfl rfl (lb hb3690) rfl rfl ?_
     refine WPL.q (q_pickF (v := .lit (.bool _)) (lb hb3690) rfl) rfl ?_
     refine WPL.nilW ?_
     have q0 := (Option.some.inj H)
     subst q0
     exact W.wk [0, 1] hnp ⟨rfl, rfl, rfl⟩ ⟨rfl, ⟨⟨trivial, .inr ⟨rfl, rfl, rfl⟩⟩, .inr ⟨rfl, rfl, rfl⟩⟩, by decide, rfl, trivial⟩ (LeE.upd rfl rfl (LeE.upd rfl rfl (LeE.upd rfl rfl (LeE.upd rfl rfl (LeE.none rfl rfl))))) rfl
   rintro _ _ _ ⟨rfl, rfl, rfl⟩
   refine W.now ?_
   refine Then.n ?_
   refine WP.cond (t := x3690) rfl (fun hb3693 => ?_) (fun hb3693 => ?_)
   · replace H := cnt hb3693 H
     refine WP.skipW ?_
     refine W.now ?_
     refine Then.n ?_
     refine WP.block ?_
     refine WP.seq ?_
     refine WP.region ?_
     refine WPL.q (q_load_ag ag52 rfl rfl (Nat.le_of_ble_eq_true rfl)) rfl ?_
     obtain ⟨⟨x3696, x3697⟩, h3694, H⟩ := bnd H
     refine WPL.c (runs_call (s := []) (t := [2]) (N := 3) (bor := []) fn27 rfl (s_quireref09_Shift k x3659 x3660 1 x3696 x3697 h3694) ⟨rfl, trivial, by decide, rfl, trivial⟩ rfl trivial (.ren rfl rfl (.ren rfl rfl .nil)) rfl ⟨trivial, rfl⟩ rfl) rfl ?_
     refine WPL.s (s_store sz52 rfl rfl rfl rfl rfl) ?_
     refine WPL.nilW ?_
     refine W.now ?_
     refine Then.n ?_
     refine WP.region ?_
     refine WPL.q (q_mv (v := .lit (.int _ _)) rfl) rfl ?_
     refine WPL.q (q_sub rfl rfl) rfl ?_
     refine WPL.q (q_as (v := .lit (.int _ _)) rfl) rfl ?_
     refine WPL.nilW ?_
     exact W.wk [0, 1] hnp (InBlock.n (Then.n ⟨n, ((IntKind.wrap .i64 (x3658 - 1)), x3696, x3697), Nat.lt_succ_self n, H, rfl, rfl⟩)) ⟨rfl, ⟨⟨trivial, .inr ⟨rfl, rfl, rfl⟩⟩, .inr ⟨rfl, rfl, rfl⟩⟩, by decide, rfl, trivial⟩ (LeE.upd rfl rfl (LeE.upd rfl rfl (LeE.upd rfl rfl (LeE.none rfl rfl)))) rfl
   replace H := cnf hb3693 H
   refine WP.exitW ?_
   have q0 := (Prod.mk.inj (Option.some.inj H)).1
   have q1 := (Prod.mk.inj (Prod.mk.inj (Option.some.inj H)).2).1
   have q2 := (Prod.mk.inj (Prod.mk.inj (Option.some.inj H)).2).2
   subst q0
   subst q1
   subst q2
   exact W.wk [0, 1] hnp (Then.x (Then.x ⟨rfl, rfl, rfl⟩)) ⟨rfl, ⟨⟨trivial, .inr ⟨rfl, rfl, rfl⟩⟩, .inr ⟨rfl, rfl, rfl⟩⟩, by decide, rfl, trivial⟩ (LeE.upd rfl rfl (LeE.upd rfl rfl (LeE.upd rfl rfl (LeE.none rfl rfl)))) rfl
 rintro _ _ _ ⟨rfl, rfl, rfl⟩
 refine W.now ?_
 refine InBlock.x0 ?_
 refine Then.n ?_
 refine WP.seq ?_
 refine WP.seq ?_
 obtain ⟨x3714, H3718, H⟩ := bnd H
 refine WP.monoW (Q := fun x E M => x = .normal ∧ E = ((((Env.none.upd 2 (.ptr 0 0)).upd 4 (.ptr 1 0)).upd 5 (.lit (.int .i64 x3678))).upd 62 (.lit (.bool x3714))) ∧ M = ((Mem.nil.push (.cells 23 [.lit (.int .i64 0), .lit (.int .i64 0)])).push (.cells 52 [.lit (.bool x3679), .ro (Rd.slice (Rd.int .i64)) false x3680]))) ?_ ?_
 · clear H
   have H := H3718
   clear H3718
   refine WP.region ?_
   refine WPL.q (q_mv (v := .lit (.int _ _)) rfl) rfl ?_
   refine WPL.q (q_gtr rfl rfl) rfl ?_
   refine WPL.q (q_mv (v := .lit (.bool _)) rfl) rfl ?_
   refine WPL.split (t := 54) (b := (decide (18 < x3678))) rfl (fun hb3714 => ?_) (fun hb3714 => ?_)
   · replace H := cnt hb3714 H
     refine WPL.skipg (b' := true) rfl rfl (lb hb3714) rfl rfl ?_
     refine WPL.skipg (b' := true) rfl rfl (lb hb3714) rfl rfl ?_
     refine WPL.q (q_pickT (v := .lit (.bool _)) (lb hb3714) rfl) rfl ?_
     refine WPL.q (q_mv (v := .lit (.bool _)) rfl) rfl ?_
     refine WPL.skipg (b' := true) rfl rfl rfl rfl rfl ?_
     refine WPL.skipg (b' := true) rfl rfl rfl rfl rfl ?_
     refine WPL.skipg (b' := true) rfl rfl rfl rfl rfl ?_
     refine WPL.q (q_pickT (v := .lit (.bool _)) rfl rfl) rfl ?_
     refine WPL.nilW ?_
     have q0 := (Option.some.inj H)
     subst q0
     exact W.wk [0, 1] hnp ⟨rfl, rfl, rfl⟩ ⟨rfl, ⟨⟨trivial, .inr ⟨rfl, rfl, rfl⟩⟩, .inr ⟨rfl, rfl, rfl⟩⟩, by decide, rfl, trivial⟩ (LeE.upd rfl rfl (LeE.upd rfl rfl (LeE.upd rfl rfl (LeE.upd rfl rfl (LeE.none rfl rfl))))) rfl
   replace H := cnf hb3714 H
   refine WPL.qg rfl rfl (lb hb3714) (q_mv (v := .lit (.int _ _)) rfl) rfl ?_
   refine WPL.qg rfl rfl (lb hb3714) (q_lss rfl rfl) rfl ?_
   refine WPL.q (q_pickF (v := .lit (.bool _)) (lb hb3714) rfl) rfl ?_
   refine WPL.q (q_mv (v := .lit (.bool _)) rfl) rfl ?_
   refine WPL.split (t := 58) (b := (decide (x3678 < (-18)))) rfl (fun hb3715 => ?_) (fun hb3715 => ?_)
   · replace H := cnt hb3715 H
     refine WPL.skipg (b' := true) rfl rfl (lb hb3715) rfl rfl ?_
     refine WPL.skipg (b' := true) rfl rfl (lb hb3715) rfl rfl ?_
     refine WPL.skipg (b' := true) rfl rfl (lb hb3715) rfl rfl ?_
     refine WPL.q (q_pickT (v := .lit (.bool _)) (lb hb3715) rfl) rfl ?_
     refine WPL.nilW ?_
     have q0 := (Option.some.inj H)
     subst q0
     exact W.wk [0, 1] hnp ⟨rfl, rfl, rfl⟩ ⟨rfl, ⟨⟨trivial, .inr ⟨rfl, rfl, rfl⟩⟩, .inr ⟨rfl, rfl, rfl⟩⟩, by decide, rfl, trivial⟩ (LeE.upd rfl rfl (LeE.upd rfl rfl (LeE.upd rfl rfl (LeE.upd rfl rfl (LeE.none rfl rfl))))) rfl
   replace H := cnf hb3715 H
   refine WPL.qg rfl rfl (lb hb3715) (q_load_ag ag52 rfl rfl (Nat.le_of_ble_eq_true rfl)) rfl ?_
   obtain ⟨x3718, h3716, H⟩ := bnd H
   refine WPL.cg rfl rfl (lb hb3715) (runs_call (s := []) (t := []) (N := 2) (bor := []) fn46 rfl (s_quireref09_fits k x3679 x3680 x3718 h3716) ⟨rfl, trivial, by decide, rfl, trivial⟩ rfl trivial (.ren rfl rfl .nil) rfl trivial rfl) rfl ?_
   refine WPL.qg rfl rfl (lb hb3715) (q_not rfl) rfl ?_
   refine WPL.q (q_pickF (v := .lit (.bool _)) (lb hb3715) rfl) rfl ?_
   refine WPL.nilW ?_
   have q0 := (Option.some.inj H)
   subst q0
   exact W.wk [0, 1] hnp ⟨rfl, rfl, rfl⟩ ⟨rfl, ⟨⟨trivial, .inr ⟨rfl, rfl, rfl⟩⟩, .inr ⟨rfl, rfl, rfl⟩⟩, by decide, rfl, trivial⟩ (LeE.upd rfl rfl (LeE.upd rfl rfl (LeE.upd rfl rfl (LeE.upd rfl rfl (LeE.none rfl rfl))))) rfl
 rintro _ _ _ ⟨rfl, rfl, rfl⟩
 refine W.now ?_
 refine Then.n ?_
 refine WP.cond (t := x3714) rfl (fun hb3719 => ?_) (fun hb3719 => ?_)
 · replace H := cnt hb3719 H
   refine WP.seq ?_
   refine WP.region ?_
   refine WPL.q (q_build bu23 rfl) rfl ?_
   refine WPL.s (s_store sz23 rfl rfl rfl rfl rfl) ?_
   refine WPL.q (q_as (v := .lit (.int _ _)) rfl) rfl ?_
   refine WPL.nilW ?_
   refine W.now ?_
   refine Then.n ?_
   refine WP.retW ?_
   have q0 := (Prod.mk.inj (Option.some.inj H)).1
   have q1 := (Prod.mk.inj (Prod.mk.inj (Option.some.inj H)).2).1
   have q2 := (Prod.mk.inj (Prod.mk.inj (Option.some.inj H)).2).2
   subst q0
   subst q1
   subst q2
   exact W.now (Then.r (BodyR.mkR trivial rfl [0] ⟨rfl, rfl⟩ ⟨rfl, ⟨trivial, .inr ⟨rfl, rfl, rfl⟩⟩, by decide, rfl, trivial⟩ rfl rfl))
 replace H := cnf hb3719 H
 refine WP.skipW ?_
 refine W.now ?_
 refine Then.n ?_
 refine WP.seq ?_
 refine WP.region ?_
 refine WPL.q (q_as (v := .lit (.int _ _)) rfl) rfl ?_
 refine WPL.nilW ?_
 refine W.now ?_
 refine Then.n ?_
 refine WP.seq ?_
 refine WP.seq ?_
 refine WP.region ?_
 refine WPL.q (q_fieldAddr fi52_1 rfl rfl) rfl ?_
 refine WPL.q (q_load sc50 rfl rfl rfl) rfl ?_
 refine WPL.q (q_len_ro sl50 rfl) rfl ?_
 obtain ⟨x3721, h3721, H⟩ := bnd H
 refine WPL.q (q_nm (q_sub rfl rfl) (nm_int h3721)) rfl ?_
 refine WPL.q (q_as (v := .lit (.int _ _)) rfl) rfl ?_
 refine WPL.nilW ?_
 refine W.now ?_
 refine Then.n ?_
 refine WP.block ?_
 refine WP.cv (Cv.weak (E' := (((((Env.none.upd 2 (.ptr 0 0)).upd 4 (.ptr 1 0)).upd 5 (.lit (.int .i64 x3678))).upd 6 (.lit (.int .i64 0))).upd 7 (.lit (.int .i64 x3721)))) (M' := ((Mem.nil.push (.cells 23 [.lit (.int .i64 0), .lit (.int .i64 0)])).push (.cells 52 [.lit (.bool x3679), .ro (Rd.slice (Rd.int .i64)) false x3680]))) [0, 1] hnp ⟨rfl, ⟨⟨trivial, .inr ⟨rfl, rfl, rfl⟩⟩, .inr ⟨rfl, rfl, rfl⟩⟩, by decide, rfl, trivial⟩ (LeE.upd rfl rfl (LeE.upd rfl rfl (LeE.upd rfl rfl (LeE.upd rfl rfl (LeE.upd rfl rfl (LeE.none rfl rfl))))))) ?_
 obtain ⟨x3752, H3766, H⟩ := bnd H
 refine WP.monoW (Q := fun x E M => x = .exit 4 ∧ E = (((Env.none.upd 2 (.ptr 0 0)).upd 5 (.lit (.int .i64 x3678))).upd 6 (.lit (.int .i64 x3752))) ∧ M = (Mem.nil.push (.cells 23 [.lit (.int .i64 0), .lit (.int .i64 0)]))) ?_ ?_
 · refine WP.loop (β := Int × Int) (fun n b => g_quireref09_Tell_l2 k x3679 x3680 n b.1 b.2 = some x3752) (fun b => (((((Env.none.upd 2 (.ptr 0 0)).upd 4 (.ptr 1 0)).upd 5 (.lit (.int .i64 x3678))).upd 6 (.lit (.int .i64 b.1))).upd 7 (.lit (.int .i64 b.2)))) (fun b => ((Mem.nil.push (.cells 23 [.lit (.int .i64 0), .lit (.int .i64 0)])).push (.cells 52 [.lit (.bool x3679), .ro (Rd.slice (Rd.int .i64)) false x3680]))) k (0, x3721) H3766 rfl rfl ?_
   rintro n ⟨x3736, x3737⟩ H
   obtain _ | n := n
   · exact nf rfl H
   rw [g_quireref09_Tell_l2.eq_2] at H
   show WP _ _ _ _ (((((Env.none.upd 2 (.ptr 0 0)).upd 4 (.ptr 1 0)).upd 5 (.lit (.int .i64 x3678))).upd 6 (.lit (.int .i64 x3736))).upd 7 (.lit (.int .i64 x3737))) ((Mem.nil.push (.cells 23 [.lit (.int .i64 0), .lit (.int .i64 0)])).push (.cells 52 [.lit (.bool x3679), .ro (Rd.slice (Rd.int .i64)) false x3680])) _
   refine WP.seq ?_
   refine WP.seq ?_
   refine WP.region ?_
   refine WPL.q (q_mv (v := .lit (.int _ _)) rfl) rfl ?_
   refine WPL.q (q_geq rfl rfl) rfl ?_
   refine WPL.nilW ?_
   refine W.now ?_
   refine Then.n ?_
   refine WP.cond (t := (decide (0 ≤ x3737))) rfl (fun hb3753 => ?_) (fun hb3753 => ?_)
   · replace H := cnt hb3753 H
     refine WP.skipW ?_
     refine W.now ?_
     refine Then.n ?_
     refine WP.seq ?_
     obtain ⟨x3760, H3765, H⟩ := bnd H
     refine WP.monoW (Q := fun x E M => x = .normal ∧ E = (((((Env.none.upd 2 (.ptr 0 0)).upd 4 (.ptr 1 0)).upd 5 (.lit (.int .i64 x3678))).upd 6 (.lit (.int .i64 x3760))).upd 7 (.lit (.int .i64 x3737))) ∧ M = ((Mem.nil.push (.cells 23 [.lit (.int .i64 0), .lit (.int .i64 0)])).push (.cells 52 [.lit (.bool x3679), .ro (Rd.slice (Rd.int .i64)) false x3680]))) ?_ ?_
     · clear H
       have H := H3765
       clear H3765
       refine WP.block ?_
       refine WP.seq ?_
       refine WP.region ?_
       refine WPL.q (q_fieldAddr fi52_0 rfl rfl) rfl ?_
       refine WPL.q (q_load sc4 rfl rfl rfl) rfl ?_
       refine WPL.nilW ?_
       refine W.now ?_
       refine Then.n ?_
       refine WP.cond (t := x3679) rfl (fun hb3760 => ?_) (fun hb3760 => ?_)
       · replace H := cnt hb3760 H
         refine WP.region ?_
         refine WPL.q (q_mv (v := .lit (.int _ _)) rfl) rfl ?_
         refine WPL.q (q_mul rfl rfl) rfl ?_
         refine WPL.q (q_fieldAddr fi52_1 rfl rfl) rfl ?_
         refine WPL.q (q_load sc50 rfl rfl rfl) rfl ?_
         refine WPL.q (q_mv (v := .lit (.int _ _)) rfl) rfl ?_
         obtain ⟨x3762, h3762, H⟩ := bnd H
         refine WPL.q (q_index_ro sl50 rfl rfl rfl h3762) rfl ?_
         refine WPL.q (q_load_sc sc3 rfl) rfl ?_
         obtain ⟨x3763, h3763, H⟩ := bnd H
         refine WPL.q (q_nm (q_sub rfl rfl) (nm_int h3763)) rfl ?_
         refine WPL.q (q_as (v := .lit (.int _ _)) rfl) rfl ?_
         refine WPL.nilW ?_
         have q0 := (Option.some.inj H)
         subst q0
         exact W.wk [0, 1] hnp (InBlock.n ⟨rfl, rfl, rfl⟩) ⟨rfl, ⟨⟨trivial, .inr ⟨rfl, rfl, rfl⟩⟩, .inr ⟨rfl, rfl, rfl⟩⟩, by decide, rfl, trivial⟩ (LeE.upd rfl rfl (LeE.upd rfl rfl (LeE.upd rfl rfl (LeE.upd rfl rfl (LeE.upd rfl rfl (LeE.none rfl rfl)))))) rfl
       replace H := cnf hb3760 H
       refine WP.region ?_
       refine WPL.q (q_mv (v := .lit (.int _ _)) rfl) rfl ?_
       refine WPL.q (q_mul rfl rfl) rfl ?_
       refine WPL.q (q_fieldAddr fi52_1 rfl rfl) rfl ?_
       refine WPL.q (q_load sc50 rfl rfl rfl) rfl ?_
       refine WPL.q (q_mv (v := .lit (.int _ _)) rfl) rfl ?_
       obtain ⟨x3764, h3764, H⟩ := bnd H
       refine WPL.q (q_index_ro sl50 rfl rfl rfl h3764) rfl ?_
       refine WPL.q (q_load_sc sc3 rfl) rfl ?_
       obtain ⟨x3765, h3765, H⟩ := bnd H
       refine WPL.q (q_nm (q_add rfl rfl) (nm_int h3765)) rfl ?_
       refine WPL.q (q_as (v := .lit (.int _ _)) rfl) rfl ?_
       refine WPL.nilW ?_
       have q0 := (Option.some.inj H)
       subst q0
       exact W.wk [0, 1] hnp (InBlock.n ⟨rfl, rfl, rfl⟩) ⟨rfl, ⟨⟨trivial, .inr ⟨rfl, rfl, rfl⟩⟩, .inr ⟨rfl, rfl, rfl⟩⟩, by decide, rfl, trivial⟩ (LeE.upd rfl rfl (LeE.upd rfl rfl (LeE.upd rfl rfl (LeE.upd rfl rfl (LeE.upd rfl rfl (LeE.none rfl rfl)))))) rfl
     rintro _ _ _ ⟨rfl, rfl, rfl⟩
     refine W.now ?_
     refine Then.n ?_
     refine WP.region ?_
     refine WPL.q (q_mv (v := .lit (.int _ _)) rfl) rfl ?_
     refine WPL.q (q_sub rfl rfl) rfl ?_
     refine WPL.q (q_as (v := .lit (.int _ _)) rfl) rfl ?_
     refine WPL.nilW ?_
     exact W.wk [0, 1] hnp (Then.n ⟨n, (x3760, (IntKind.wrap .i64 (x3737 - 1))), Nat.lt_succ_self n, H, rfl, rfl⟩) ⟨rfl, ⟨⟨trivial, .inr ⟨rfl, rfl, rfl⟩⟩, .inr ⟨rfl, rfl, rfl⟩⟩, by decide, rfl, trivial⟩ (LeE.upd rfl rfl (LeE.upd rfl rfl (LeE.upd rfl rfl (LeE.upd rfl rfl (LeE.upd rfl rfl (LeE.none rfl rfl)))))) rfl
   replace H := cnf hb3753 H
   refine WP.exitW ?_
   have q0 := (Option.some.inj H)
   subst q0
   exact W.wk [0] hnp (Then.x (Then.x ⟨rfl, rfl, rfl⟩)) ⟨rfl, ⟨trivial, .inr ⟨rfl, rfl, rfl⟩⟩, by decide, rfl, trivial⟩ (LeE.upd rfl rfl (LeE.upd rfl rfl (LeE.upd rfl rfl (LeE.none rfl rfl)))) rfl
 rintro _ _ _ ⟨rfl, rfl, rfl⟩
 refine W.now ?_
 refine InBlock.x0 ?_
 refine Then.n ?_
 refine WP.seq ?_
 refine WP.region ?_
 refine WPL.q (q_mv (v := .lit (.int _ _)) rfl) rfl ?_
 refine WPL.q (q_mv (v := .lit (.int _ _)) rfl) rfl ?_
 refine WPL.q (q_build bu23 rfl) rfl ?_
 refine WPL.s (s_store sz23 rfl rfl rfl rfl rfl) ?_
 refine WPL.q (q_as (v := .lit (.int _ _)) rfl) rfl ?_
 refine WPL.nilW ?_
 refine W.now ?_
 refine Then.n ?_
 refine WP.retW ?_
 have q0 := (Prod.mk.inj (Option.some.inj H)).1
 have q1 := (Prod.mk.inj (Prod.mk.inj (Option.some.inj H)).2).1
 have q2 := (Prod.mk.inj (Prod.mk.inj (Option.some.inj H)).2).2
 subst q0
 subst q1
 subst q2
 exact W.now (BodyR.mkR trivial rfl [0] ⟨rfl, rfl⟩ ⟨rfl, ⟨trivial, .inr ⟨rfl, rfl, rfl⟩⟩, by decide, rfl, trivial⟩ rfl rfl)
end Go.Proofs.YtdbeblgfccjbgaaDoor.W
namespace Go.Proofs.YtdbeblgfccjbgaaDoor.W
open Go Go.Q Go.Proofs
set_option linter.unusedVariables false
set_option linter.unusedSimpArgs false
set_option maxRecDepth 100000 in
set_option maxHeartbeats 4000000 in
theorem s_quireref09_Parse (k : Nat) (x2105 : ByteArray) (x3772 : Int) (x3773 : Int) (x3774 : Int) (H : g_quireref09_Parse k x2105 = some (x3772, x3773, x3774)) : Go.Q.Spec Tryd.prog 6 0 [.lit (.string x2105)] Mem.nil (fun o M => o = .ret (.tup [.agg [.lit (.int .i64 x3773), .lit (.int .i64 x3774)], .lit (.int .i64 x3772)]) ∧ M = (Mem.nil.push (.cells 23 [.lit (.int .i64 x3773), .lit (.int .i64 x3774)]))) := by
 unfold g_quireref09_Parse at H
 refine Go.Q.Spec.of_bodyR (az := [(23, 2)]) (rs := [.cell 2 23, .tmp 3]) (nt := 210) Tryd.func6 rfl rfl (by intro t T h; simp at h; rcases h with ⟨rfl, rfl⟩ <;> first | exact ag23) rfl rfl fun cx hnp => ?_
 refine WP.seq ?_
 refine WP.region ?_
 refine WPL.d (d_alloc ze23 rfl) rfl ?_
 refine WPL.q (q_as (v := .lit (.int _ _)) rfl) rfl ?_
 refine WPL.nilW ?_
 refine W.now ?_
 refine Then.n ?_
 refine WP.seq ?_
 refine WP.seq ?_
 refine WP.region ?_
 refine WPL.q (q_mv (v := .lit (.string _)) rfl) rfl ?_
 refine WPL.q (q_len_str Tryd.underlying9 rfl) rfl ?_
 obtain ⟨x3777, h3777, H⟩ := bnd H
 refine WPL.q (q_nm (q_gtr rfl rfl) (nm_bool h3777)) rfl ?_
 refine WPL.nilW ?_
 refine W.now ?_
 refine Then.n ?_
 refine WP.cond (t := x3777) rfl (fun hb3777 => ?_) (fun hb3777 => ?_)
 · replace H := cnt hb3777 H
   refine WP.seq ?_
   refine WP.region ?_
   refine WPL.q (q_build bu23 rfl) rfl ?_
   refine WPL.s (s_store sz23 rfl rfl rfl rfl rfl) ?_
   refine WPL.q (q_as (v := .lit (.int _ _)) rfl) rfl ?_
   refine WPL.nilW ?_
   refine W.now ?_
   refine Then.n ?_
   refine WP.retW ?_
   have q0 := (Prod.mk.inj (Option.some.inj H)).1
   have q1 := (Prod.mk.inj (Prod.mk.inj (Option.some.inj H)).2).1
   have q2 := (Prod.mk.inj (Prod.mk.inj (Option.some.inj H)).2).2
   subst q0
   subst q1
   subst q2
   exact W.now (Then.r (BodyR.mkR trivial rfl [0] ⟨rfl, rfl⟩ ⟨rfl, ⟨trivial, .inr ⟨rfl, rfl, rfl⟩⟩, by decide, rfl, trivial⟩ rfl rfl))
 replace H := cnf hb3777 H
 refine WP.skipW ?_
 refine W.now ?_
 refine Then.n ?_
 refine WP.seq ?_
 refine WP.region ?_
 refine WPL.q (q_build bu54 rfl) rfl ?_
 refine WPL.d (d_alloc ze54 rfl) rfl ?_
 refine WPL.s (s_store sz54 rfl rfl rfl rfl rfl) ?_
 refine WPL.nilW ?_
 refine W.now ?_
 refine Then.n ?_
 refine WP.seq ?_
 refine WP.region ?_
 refine WPL.q (q_as (v := .lit (.int _ _)) rfl) rfl ?_
 refine WPL.nilW ?_
 refine W.now ?_
 refine Then.n ?_
 refine WP.seq ?_
 obtain ⟨x3782, H3785, H⟩ := bnd H
 refine WP.monoW (Q := fun x E M => x = .normal ∧ E = (((((Env.none.upd 0 (.lit (.string x2105))).upd 2 (.ptr 0 0)).upd 4 (.ptr 1 0)).upd 5 (.lit (.int .i64 0))).upd 6 (.lit (.bool x3782))) ∧ M = ((Mem.nil.push (.cells 23 [.lit (.int .i64 0), .lit (.int .i64 0)])).push (.cells 54 [.lit (.bool false), .lit (.slice none 0 0), .lit (.int .i64 0)]))) ?_ ?_
 · clear H
   have H := H3785
   clear H3785
   refine WP.region ?_
   refine WPL.q (q_mv (v := .lit (.string _)) rfl) rfl ?_
   refine WPL.q (q_len_str Tryd.underlying9 rfl) rfl ?_
   obtain ⟨x3783, h3783, H⟩ := bnd H
   refine WPL.q (q_nm (q_gtr rfl rfl) (nm_bool h3783)) rfl ?_
   refine WPL.q (q_mv (v := .lit (.bool _)) rfl) rfl ?_
   refine WPL.split (t := 20) (b := x3783) rfl (fun hb3783 => ?_) (fun hb3783 => ?_)
   · replace H := cnt hb3783 H
     refine WPL.qg rfl rfl (lb hb3783) (q_mv (v := .lit (.string _)) rfl) rfl ?_
     obtain ⟨x3785, h3785, H⟩ := bnd H
     refine WPL.qg rfl rfl (lb hb3783) (q_index_str Tryd.underlying9 rfl rfl h3785) rfl ?_
     refine WPL.qg rfl rfl (lb hb3783) (q_eql rfl rfl) rfl ?_
     refine WPL.q (q_pickT (v := .lit (.bool _)) (lb hb3783) rfl) rfl ?_
     refine WPL.q (q_as (v := .lit (.bool _)) rfl) rfl ?_
     refine WPL.nilW ?_
     have q0 := (Option.some.inj H)
     subst q0
     exact W.wk [0, 1] hnp ⟨rfl, rfl, rfl⟩ ⟨rfl, ⟨⟨trivial, .inr ⟨rfl, rfl, rfl⟩⟩, .inr ⟨rfl, rfl, rfl⟩⟩, by decide, rfl, trivial⟩ (LeE.upd rfl rfl (LeE.upd rfl rfl (LeE.upd rfl rfl (LeE.upd rfl rfl (LeE.upd rfl rfl (LeE.none rfl rfl)))))) rfl
   replace H := cnf hb3783 H
   refine WPL.skipg (b' := false) rfl rfl (lb hb3783) rfl rfl ?_
   refine WPL.skipg (b' := false) rfl rfl (lb hb3783) rfl rfl ?_
   refine WPL.skipg (b' := false) rfl rfl (lb hb3783) rfl rfl ?_
   refine WPL.q (q_pickF (v := .lit (.bool _)) (lb hb3783) rfl) rfl ?_
   refine WPL.q (q_as (v := .lit (.bool _)) rfl) rfl ?_
   refine WPL.nilW ?_
   have q0 := (Option.some.inj H)
   subst q0
   exact W.wk [0, 1] hnp ⟨rfl, rfl, rfl⟩ ⟨rfl, ⟨⟨trivial, .inr ⟨rfl, rfl, rfl⟩⟩, .inr ⟨rfl, rfl, rfl⟩⟩, by decide, rfl, trivial⟩ (LeE.upd rfl rfl (LeE.upd rfl rfl (LeE.upd rfl rfl (LeE.upd rfl rfl (LeE.upd rfl rfl (LeE.none rfl rfl)))))) rfl
 rintro _ _ _ ⟨rfl, rfl, rfl⟩
 refine W.now ?_
 refine Then.n ?_
 refine WP.seq ?_
 obtain ⟨x3788, H3789, H⟩ := bnd H
 refine WP.monoW (Q := fun x E M => x = .normal ∧ E = (((((Env.none.upd 0 (.lit (.string x2105))).upd 2 (.ptr 0 0)).upd 4 (.ptr 1 0)).upd 5 (.lit (.int .i64 x3788))).upd 6 (.lit (.bool x3782))) ∧ M = ((Mem.nil.push (.cells 23 [.lit (.int .i64 0), .lit (.int .i64 0)])).push (.cells 54 [.lit (.bool false), .lit (.slice none 0 0), .lit (.int .i64 0)]))) ?_ ?_
 · clear H
   have H := H3789
   clear H3789
   refine WP.seq ?_
   refine WP.region ?_
   refine WPL.q (q_mv (v := .lit (.bool _)) rfl) rfl ?_
   refine WPL.nilW ?_
   refine W.now ?_
   refine Then.n ?_
   refine WP.cond (t := x3782) rfl (fun hb3788 => ?_) (fun hb3788 => ?_)
   · replace H := cnt hb3788 H
     refine WP.region ?_
     refine WPL.q (q_as (v := .lit (.int _ _)) rfl) rfl ?_
     refine WPL.nilW ?_
     have q0 := (Option.some.inj H)
     subst q0
     exact W.wk [0, 1] hnp ⟨rfl, rfl, rfl⟩ ⟨rfl, ⟨⟨trivial, .inr ⟨rfl, rfl, rfl⟩⟩, .inr ⟨rfl, rfl, rfl⟩⟩, by decide, rfl, trivial⟩ (LeE.upd rfl rfl (LeE.upd rfl rfl (LeE.upd rfl rfl (LeE.upd rfl rfl (LeE.upd rfl rfl (LeE.none rfl rfl)))))) rfl
   replace H := cnf hb3788 H
   refine WP.skipW ?_
   have q0 := (Option.some.inj H)
   subst q0
   exact W.wk [0, 1] hnp ⟨rfl, rfl, rfl⟩ ⟨rfl, ⟨⟨trivial, .inr ⟨rfl, rfl, rfl⟩⟩, .inr ⟨rfl, rfl, rfl⟩⟩, by decide, rfl, trivial⟩ (LeE.upd rfl rfl (LeE.upd rfl rfl (LeE.upd rfl rfl (LeE.upd rfl rfl (LeE.upd rfl rfl (LeE.none rfl rfl)))))) rfl
 rintro _ _ _ ⟨rfl, rfl, rfl⟩
 refine W.now ?_
 refine Then.n ?_
 refine WP.seq ?_
 refine WP.region ?_
 refine WPL.q (q_as (v := .lit _) rfl) rfl ?_
 refine WPL.nilW ?_
 refine W.now ?_
 refine Then.n ?_
 refine WP.seq ?_
 refine WP.region ?_
 refine WPL.q (q_mv (v := .lit (.int _ _)) rfl) rfl ?_
 refine WPL.q (q_as (v := .lit (.int _ _)) rfl) rfl ?_
 refine WPL.nilW ?_
 refine W.now ?_
 refine Then.n ?_
 refine WP.seq ?_
 refine WP.block ?_
 refine WP.cv (Cv.vir 3 (Rd.int .i64) (N := 2) rfl 7 rfl) ?_
 refine WP.cv (Cv.weak (E' := (((((((Env.none.upd 0 (.lit (.string x2105))).upd 2 (.ptr 0 0)).upd 4 (.ptr 1 0)).upd 5 (.lit (.int .i64 x3788))).upd 6 (.lit (.bool x3782))).upd 7 (.whole 2)).upd 8 (.lit (.int .i64 x3788)))) (M' := (((Mem.nil.push (.cells 23 [.lit (.int .i64 0), .lit (.int .i64 0)])).push (.cells 54 [.lit (.bool false), .lit (.slice none 0 0), .lit (.int .i64 0)])).push (.row 3 (Rd.int .i64) ([] : List Int)))) [0, 1, 2] hnp ⟨rfl, ⟨⟨⟨trivial, .inr ⟨rfl, rfl, rfl⟩⟩, .inr ⟨rfl, rfl, rfl⟩⟩, .inr ⟨rfl, rfl, rfl⟩⟩, by decide, rfl, trivial⟩ (LeE.upd rfl rfl (LeE.upd rfl rfl (LeE.upd rfl rfl (LeE.upd rfl rfl (LeE.upd rfl rfl (LeE.upd rfl rfl (LeE.upd rfl rfl (LeE.none rfl rfl))))))))) ?_
 obtain ⟨⟨x3880, x3881⟩, H3910, H⟩ := bnd H
 refine WP.monoW (Q := fun x E M => x = .exit 0 ∧ E = (((((((Env.none.upd 0 (.lit (.string x2105))).upd 2 (.ptr 0 0)).upd 4 (.ptr 1 0)).upd 5 (.lit (.int .i64 x3880))).upd 6 (.lit (.bool x3782))).upd 7 (.whole 2)).upd 8 (.lit (.int .i64 x3788))) ∧ M = (((Mem.nil.push (.cells 23 [.lit (.int .i64 0), .lit (.int .i64 0)])).push (.cells 54 [.lit (.bool false), .lit (.slice none 0 0), .lit (.int .i64 0)])).push (.row 3 (Rd.int .i64) x3881))) ?_ ?_
 · refine WP.loop (β := Int × (List Int)) (fun n b => g_quireref09_Parse_l0 k x2105 n b.1 b.2 = some (x3880, x3881)) (fun b => (((((((Env.none.upd 0 (.lit (.string x2105))).upd 2 (.ptr 0 0)).upd 4 (.ptr 1 0)).upd 5 (.lit (.int .i64 b.1))).upd 6 (.lit (.bool x3782))).upd 7 (.whole 2)).upd 8 (.lit (.int .i64 x3788)))) (fun b => (((Mem.nil.push (.cells 23 [.lit (.int .i64 0), .lit (.int .i64 0)])).push (.cells 54 [.lit (.bool false), .lit (.slice none 0 0), .lit (.int .i64 0)])).push (.row 3 (Rd.int .i64) b.2))) k (x3788, ([] : List Int)) H3910 rfl rfl ?_
   rintro n ⟨x3849, x3850⟩ H
   obtain _ | n := n
   · exact nf rfl H
   rw [g_quireref09_Parse_l0.eq_2] at H
   show WP _ _ _ _ (((((((Env.none.upd 0 (.lit (.string x2105))).upd 2 (.ptr 0 0)).upd 4 (.ptr 1 0)).upd 5 (.lit (.int .i64 x3849))).upd 6 (.lit (.bool x3782))).upd 7 (.whole 2)).upd 8 (.lit (.int .i64 x3788))) (((Mem.nil.push (.cells 23 [.lit (.int .i64 0), .lit (.int .i64 0)])).push (.cells 54 [.lit (.bool false), .lit (.slice none 0 0), .lit (.int .i64 0)])).push (.row 3 (Rd.int .i64) x3850)) _
   refine WP.seq ?_
   refine WP.seq ?_
   obtain ⟨x3900, H3905, H⟩ := bnd H
   refine WP.monoW (Q := fun x E M => x = .normal ∧ E = ((((((((Env.none.upd 0 (.lit (.string x2105))).upd 2 (.ptr 0 0)).upd 4 (.ptr 1 0)).upd 5 (.lit (.int .i64 x3849))).upd 6 (.lit (.bool x3782))).upd 7 (.whole 2)).upd 8 (.lit (.int .i64 x3788))).upd 36 (.lit (.bool x3900))) ∧ M = (((Mem.nil.push (.cells 23 [.lit (.int .i64 0), .lit (.int .i64 0)])).push (.cells 54 [.lit (.bool false), .lit (.slice none 0 0), .lit (.int .i64 0)])).push (.row 3 (Rd.int .i64) x3850))) ?_ ?_
   · clear H
     have H := H3905
     clear H3905
     refine WP.region ?_
     refine WPL.q (q_mv (v := .lit (.int _ _)) rfl) rfl ?_
     refine WPL.q (q_mv (v := .lit (.string _)) rfl) rfl ?_
     refine WPL.q (q_len_str Tryd.underlying9 rfl) rfl ?_
     obtain ⟨x3901, h3901, H⟩ := bnd H
     refine WPL.q (q_nm (q_lss rfl rfl) (nm_bool h3901)) rfl ?_
     refine WPL.q (q_mv (v := .lit (.bool _)) rfl) rfl ?_
     refine WPL.split (t := 31) (b := x3901) rfl (fun hb3901 => ?_) (fun hb3901 => ?_)
     · replace H := cnt hb3901 H
       refine WPL.qg rfl rfl (lb hb3901) (q_mv (v := .lit (.string _)) rfl) rfl ?_
       refine WPL.qg rfl rfl (lb hb3901) (q_mv (v := .lit (.int _ _)) rfl) rfl ?_
       obtain ⟨x3903, h3903, H⟩ := bnd H
       refine WPL.qg rfl rfl (lb hb3901) (q_index_str Tryd.underlying9 rfl rfl h3903) rfl ?_
       obtain ⟨x3905, h3903, H⟩ := bnd H
       refine WPL.cg rfl rfl (lb hb3901) (runs_call (s := []) (t := []) (N := 3) (bor := []) fn19 rfl (s_quireref09_digit k x3903 x3905 h3903) ⟨rfl, trivial, by decide, rfl, trivial⟩ rfl trivial (.ren rfl rfl .nil) rfl trivial rfl) rfl ?_
       refine WPL.q (q_pickT (v := .lit (.bool _)) (lb hb3901) rfl) rfl ?_
       refine WPL.nilW ?_
       have q0 := (Option.some.inj H)
       subst q0
       exact W.wk [0, 1, 2] hnp ⟨rfl, rfl, rfl⟩ ⟨rfl, ⟨⟨⟨trivial, .inr ⟨rfl, rfl, rfl⟩⟩, .inr ⟨rfl, rfl, rfl⟩⟩, .inr ⟨rfl, rfl, rfl⟩⟩, by decide, rfl, trivial⟩ (LeE.upd rfl rfl (LeE.upd rfl rfl (LeE.upd rfl rfl (LeE.upd rfl rfl (LeE.upd rfl rfl (LeE.upd rfl rfl (LeE.upd rfl rfl (LeE.upd rfl rfl (LeE.none rfl rfl))))))))) rfl
     replace H := cnf hb3901 H
     refine WPL.skipg (b' := false) rfl rfl (lb hb3901) rfl rfl ?_
     refine WPL.skipg (b' := false) rfl rfl (lb hb3901) rfl rfl ?_
     refine WPL.skipg (b' := false) rfl rfl (lb hb3901) rfl rfl ?_
     refine WPL.skipg (b' := false) rfl rfl (lb hb3901) rfl rfl ?_
     refine WPL.q (q_pickF (v := .lit (.bool _)) (lb hb3901) rfl) rfl ?_
     refine WPL.nilW ?_
     have q0 := (Option.some.inj H)
     subst q0
     exact W.wk [0, 1, 2] hnp ⟨rfl, rfl, rfl⟩ ⟨rfl, ⟨⟨⟨trivial, .inr ⟨rfl, rfl, rfl⟩⟩, .inr ⟨rfl, rfl, rfl⟩⟩, .inr ⟨rfl, rfl, rfl⟩⟩, by decide, rfl, trivial⟩ (LeE.upd rfl rfl (LeE.upd rfl rfl (LeE.upd rfl rfl (LeE.upd rfl rfl (LeE.upd rfl rfl (LeE.upd rfl rfl (LeE.upd rfl rfl (LeE.upd rfl rfl (LeE.none rfl rfl))))))))) rfl
   rintro _ _ _ ⟨rfl, rfl, rfl⟩
   refine W.now ?_
   refine Then.n ?_
   refine WP.cond (t := x3900) rfl (fun hb3906 => ?_) (fun hb3906 => ?_)
   · replace H := cnt hb3906 H
     refine WP.skipW ?_
     refine W.now ?_
     refine Then.n ?_
     refine WP.block ?_
     refine WP.seq ?_
     refine WP.region ?_
     refine WPL.q (q_mv (v := .whole _) rfl) rfl ?_
     refine WPL.q (q_mv (v := .lit (.string _)) rfl) rfl ?_
     refine WPL.q (q_mv (v := .lit (.int _ _)) rfl) rfl ?_
     obtain ⟨x3908, h3908, H⟩ := bnd H
     refine WPL.q (q_index_str Tryd.underlying9 rfl rfl h3908) rfl ?_
     refine WPL.q (q_sub rfl rfl) rfl ?_
     obtain ⟨x3909, h3909, H⟩ := bnd H
     refine WPL.q (q_nm (q_conv Tryd.underlying5 Tryd.underlying3 rfl) (nm_int h3909)) rfl ?_
     refine WPL.d (d_buildSlice (ds := ([x3909] : List Int)) (R := (Rd.int .i64)) li50 rfl rfl rfl rfl rfl (JoinRows.cons1 Joins.sc rfl JoinRows.nil) rfl rfl) rfl ?_
     obtain ⟨h3909, H⟩ := grd H
     refine WPL.d (d_append ap50 rfl rfl rfl rfl (src_row sl50 rfl rfl) h3909 rfl) rfl ?_
     refine WPL.q (q_as (v := .whole _) rfl) rfl ?_
     refine WPL.nilW ?_
     refine W.now ?_
     refine Then.n ?_
     refine WP.region ?_
     refine WPL.q (q_mv (v := .lit (.int _ _)) rfl) rfl ?_
     refine WPL.q (q_add rfl rfl) rfl ?_
     refine WPL.q (q_as (v := .lit (.int _ _)) rfl) rfl ?_
     refine WPL.nilW ?_
     exact W.wk [0, 1, 4] hnp (InBlock.n (Then.n ⟨n, ((IntKind.wrap .i64 (x3849 + 1)), (x3850 ++ ([x3909] : List Int))), Nat.lt_succ_self n, H, rfl, rfl⟩)) ⟨rfl, ⟨⟨⟨trivial, .inr ⟨rfl, rfl, rfl⟩⟩, .inr ⟨rfl, rfl, rfl⟩⟩, .inr ⟨rfl, rfl, rfl⟩⟩, by decide, rfl, trivial⟩ (LeE.upd rfl rfl (LeE.upd rfl rfl (LeE.upd rfl rfl (LeE.upd rfl rfl (LeE.upd rfl rfl (LeE.upd rfl rfl (LeE.upd rfl rfl (LeE.none rfl rfl)))))))) rfl
   replace H := cnf hb3906 H
   refine WP.exitW ?_
   have q0 := (Prod.mk.inj (Option.some.inj H)).1
   have q1 := (Prod.mk.inj (Option.some.inj H)).2
   subst q0
   subst q1
   exact W.wk [0, 1, 2] hnp (Then.x (Then.x ⟨rfl, rfl, rfl⟩)) ⟨rfl, ⟨⟨⟨trivial, .inr ⟨rfl, rfl, rfl⟩⟩, .inr ⟨rfl, rfl, rfl⟩⟩, .inr ⟨rfl, rfl, rfl⟩⟩, by decide, rfl, trivial⟩ (LeE.upd rfl rfl (LeE.upd rfl rfl (LeE.upd rfl rfl (LeE.upd rfl rfl (LeE.upd rfl rfl (LeE.upd rfl rfl (LeE.upd rfl rfl (LeE.none rfl rfl)))))))) rfl
 rintro _ _ _ ⟨rfl, rfl, rfl⟩
 refine W.now ?_
 refine InBlock.x0 ?_
 refine Then.n ?_
 refine WP.seq ?_
 refine WP.seq ?_
 refine WP.region ?_
 refine WPL.q (q_mv (v := .lit (.int _ _)) rfl) rfl ?_
 refine WPL.q (q_mv (v := .lit (.int _ _)) rfl) rfl ?_
 refine WPL.q (q_eql rfl rfl) rfl ?_
 refine WPL.nilW ?_
 refine W.now ?_
 refine Then.n ?_
 refine WP.cond (t := (decide (x3880 = x3788))) rfl (fun hb3912 => ?_) (fun hb3912 => ?_)
 · replace H := cnt hb3912 H
   refine WP.seq ?_
   refine WP.region ?_
   refine WPL.q (q_build bu23 rfl) rfl ?_
   refine WPL.s (s_store sz23 rfl rfl rfl rfl rfl) ?_
   refine WPL.q (q_as (v := .lit (.int _ _)) rfl) rfl ?_
   refine WPL.nilW ?_
   refine W.now ?_
   refine Then.n ?_
   refine WP.retW ?_
   have q0 := (Prod.mk.inj (Option.some.inj H)).1
   have q1 := (Prod.mk.inj (Prod.mk.inj (Option.some.inj H)).2).1
   have q2 := (Prod.mk.inj (Prod.mk.inj (Option.some.inj H)).2).2
   subst q0
   subst q1
   subst q2
   exact W.now (Then.r (BodyR.mkR trivial rfl [0] ⟨rfl, rfl⟩ ⟨rfl, ⟨trivial, .inr ⟨rfl, rfl, rfl⟩⟩, by decide, rfl, trivial⟩ rfl rfl))
 replace H := cnf hb3912 H
 refine WP.skipW ?_
 refine W.now ?_
 refine Then.n ?_
 refine WP.seq ?_
 obtain ⟨y4101, H4099, H⟩ := bnd H
 refine WP.monoW (Q := fun x E M => match (generalizing := false) y4101 with | (Sum.inl _) => x = .ret ∧ E = ((Env.none.upd 2 (.ptr 0 0)).upd 3 (.lit (.int .i64 40))) ∧ M = (Mem.nil.push (.cells 23 [.lit (.int .i64 0), .lit (.int .i64 0)])) | (Sum.inr (x3991, x3992, x3993)) => x = .normal ∧ E = ((((((Env.none.upd 0 (.lit (.string x2105))).upd 2 (.ptr 0 0)).upd 4 (.ptr 1 0)).upd 5 (.lit (.int .i64 x3991))).upd 6 (.lit (.bool x3782))).upd 7 (.whole 2)) ∧ M = (((Mem.nil.push (.cells 23 [.lit (.int .i64 0), .lit (.int .i64 0)])).push (.cells 54 [.lit (.bool false), .lit (.slice none 0 0), .lit (.int .i64 x3992)])).push (.row 3 (Rd.int .i64) x3993))) ?_ ?_
 · clear H
   have H := H4099
   clear H4099
   refine WP.seq ?_
   obtain ⟨x3997, H4000, H⟩ := bnd H
   refine WP.monoW (Q := fun x E M => x = .normal ∧ E = (((((((Env.none.upd 0 (.lit (.string x2105))).upd 2 (.ptr 0 0)).upd 4 (.ptr 1 0)).upd 5 (.lit (.int .i64 x3880))).upd 6 (.lit (.bool x3782))).upd 7 (.whole 2)).upd 60 (.lit (.bool x3997))) ∧ M = (((Mem.nil.push (.cells 23 [.lit (.int .i64 0), .lit (.int .i64 0)])).push (.cells 54 [.lit (.bool false), .lit (.slice none 0 0), .lit (.int .i64 0)])).push (.row 3 (Rd.int .i64) x3881))) ?_ ?_
   · clear H
     have H := H4000
     clear H4000
     refine WP.region ?_
     refine WPL.q (q_mv (v := .lit (.int _ _)) rfl) rfl ?_
     refine WPL.q (q_mv (v := .lit (.string _)) rfl) rfl ?_
     refine WPL.q (q_len_str Tryd.underlying9 rfl) rfl ?_
     obtain ⟨x3998, h3998, H⟩ := bnd H
     refine WPL.q (q_nm (q_lss rfl rfl) (nm_bool h3998)) rfl ?_
     refine WPL.q (q_mv (v := .lit (.bool _)) rfl) rfl ?_
     refine WPL.split (t := 55) (b := x3998) rfl (fun hb3998 => ?_) (fun hb3998 => ?_)
     · replace H := cnt hb3998 H
       refine WPL.qg rfl rfl (lb hb3998) (q_mv (v := .lit (.string _)) rfl) rfl ?_
       refine WPL.qg rfl rfl (lb hb3998) (q_mv (v := .lit (.int _ _)) rfl) rfl ?_
       obtain ⟨x4000, h4000, H⟩ := bnd H
       refine WPL.qg rfl rfl (lb hb3998) (q_index_str Tryd.underlying9 rfl rfl h4000) rfl ?_
       refine WPL.qg rfl rfl (lb hb3998) (q_eql rfl rfl) rfl ?_
       refine WPL.q (q_pickT (v := .lit (.bool _)) (lb hb3998) rfl) rfl ?_
       refine WPL.nilW ?_
       have q0 := (Option.some.inj H)
       subst q0
       exact W.wk [0, 1, 2] hnp ⟨rfl, rfl, rfl⟩ ⟨rfl, ⟨⟨⟨trivial, .inr ⟨rfl, rfl, rfl⟩⟩, .inr ⟨rfl, rfl, rfl⟩⟩, .inr ⟨rfl, rfl, rfl⟩⟩, by decide, rfl, trivial⟩ (LeE.upd rfl rfl (LeE.upd rfl rfl (LeE.upd rfl rfl (LeE.upd rfl rfl (LeE.upd rfl rfl (LeE.upd rfl rfl (LeE.upd rfl rfl (LeE.none rfl rfl)))))))) rfl
     replace H := cnf hb3998 H
     refine WPL.skipg (b' := false) rfl rfl (lb hb3998) rfl rfl ?_
     refine WPL.skipg (b' := false) rfl rfl (lb hb3998) rfl rfl ?_
     refine WPL.skipg (b' := false) rfl rfl (lb hb3998) rfl rfl ?_
     refine WPL.skipg (b' := false) rfl rfl (lb hb3998) rfl rfl ?_
     refine WPL.q (q_pickF (v := .lit (.bool _)) (lb hb3998) rfl) rfl ?_
     refine WPL.nilW ?_
     have q0 := (Option.some.inj H)
     subst q0
     exact W.wk [0, 1, 2] hnp ⟨rfl, rfl, rfl⟩ ⟨rfl, ⟨⟨⟨trivial, .inr ⟨rfl, rfl, rfl⟩⟩, .inr ⟨rfl, rfl, rfl⟩⟩, .inr ⟨rfl, rfl, rfl⟩⟩, by decide, rfl, trivial⟩ (LeE.upd rfl rfl (LeE.upd rfl rfl (LeE.upd rfl rfl (LeE.upd rfl rfl (LeE.upd rfl rfl (LeE.upd rfl rfl (LeE.upd rfl rfl (LeE.none rfl rfl)))))))) rfl
   rintro _ _ _ ⟨rfl, rfl, rfl⟩
   refine W.now ?_
   refine Then.n ?_
   refine WP.cond (t := x3997) rfl (fun hb4001 => ?_) (fun hb4001 => ?_)
   · replace H := cnt hb4001 H
     refine WP.seq ?_
     refine WP.region ?_
     refine WPL.q (q_mv (v := .lit (.int _ _)) rfl) rfl ?_
     refine WPL.q (q_add rfl rfl) rfl ?_
     refine WPL.q (q_as (v := .lit (.int _ _)) rfl) rfl ?_
     refine WPL.nilW ?_
     refine W.now ?_
     refine Then.n ?_
     refine WP.seq ?_
     refine WP.region ?_
     refine WPL.q (q_mv (v := .lit (.int _ _)) rfl) rfl ?_
     refine WPL.q (q_as (v := .lit (.int _ _)) rfl) rfl ?_
     refine WPL.nilW ?_
     refine W.now ?_
     refine Then.n ?_
     refine WP.seq ?_
     refine WP.block ?_
     refine WP.cv (Cv.weak (E' := (((((((Env.none.upd 0 (.lit (.string x2105))).upd 2 (.ptr 0 0)).upd 4 (.ptr 1 0)).upd 5 (.lit (.int .i64 (IntKind.wrap .i64 (x3880 + 1))))).upd 6 (.lit (.bool x3782))).upd 7 (.whole 2)).upd 8 (.lit (.int .i64 (IntKind.wrap .i64 (x3880 + 1)))))) (M' := (((Mem.nil.push (.cells 23 [.lit (.int .i64 0), .lit (.int .i64 0)])).push (.cells 54 [.lit (.bool false), .lit (.slice none 0 0), .lit (.int .i64 0)])).push (.row 3 (Rd.int .i64) x3881))) [0, 1, 2] hnp ⟨rfl, ⟨⟨⟨trivial, .inr ⟨rfl, rfl, rfl⟩⟩, .inr ⟨rfl, rfl, rfl⟩⟩, .inr ⟨rfl, rfl, rfl⟩⟩, by decide, rfl, trivial⟩ (LeE.upd rfl rfl (LeE.upd rfl rfl (LeE.upd rfl rfl (LeE.upd rfl rfl (LeE.upd rfl rfl (LeE.upd rfl rfl (LeE.upd rfl rfl (LeE.none rfl rfl))))))))) ?_
     obtain ⟨⟨x4065, x4066, x4067⟩, H4096, H⟩ := bnd H
     refine WP.monoW (Q := fun x E M => x = .exit 2 ∧ E = (((((((Env.none.upd 0 (.lit (.string x2105))).upd 2 (.ptr 0 0)).upd 4 (.ptr 1 0)).upd 5 (.lit (.int .i64 x4065))).upd 6 (.lit (.bool x3782))).upd 7 (.whole 2)).upd 8 (.lit (.int .i64 (IntKind.wrap .i64 (x3880 + 1))))) ∧ M = (((Mem.nil.push (.cells 23 [.lit (.int .i64 0), .lit (.int .i64 0)])).push (.cells 54 [.lit (.bool false), .lit (.slice none 0 0), .lit (.int .i64 x4066)])).push (.row 3 (Rd.int .i64) x4067))) ?_ ?_
     · refine WP.loop (β := Int × Int × (List Int)) (fun n b => g_quireref09_Parse_l1 k x2105 n b.1 b.2.1 b.2.2 = some (x4065, x4066, x4067)) (fun b => (((((((Env.none.upd 0 (.lit (.string x2105))).upd 2 (.ptr 0 0)).upd 4 (.ptr 1 0)).upd 5 (.lit (.int .i64 b.1))).upd 6 (.lit (.bool x3782))).upd 7 (.whole 2)).upd 8 (.lit (.int .i64 (IntKind.wrap .i64 (x3880 + 1)))))) (fun b => (((Mem.nil.push (.cells 23 [.lit (.int .i64 0), .lit (.int .i64 0)])).push (.cells 54 [.lit (.bool false), .lit (.slice none 0 0), .lit (.int .i64 b.2.1)])).push (.row 3 (Rd.int .i64) b.2.2))) k ((IntKind.wrap .i64 (x3880 + 1)), 0, x3881) H4096 rfl rfl ?_
       rintro n ⟨x4033, x4034, x4035⟩ H
       obtain _ | n := n
       · exact nf rfl H
       rw [g_quireref09_Parse_l1.eq_2] at H
       show WP _ _ _ _ (((((((Env.none.upd 0 (.lit (.string x2105))).upd 2 (.ptr 0 0)).upd 4 (.ptr 1 0)).upd 5 (.lit (.int .i64 x4033))).upd 6 (.lit (.bool x3782))).upd 7 (.whole 2)).upd 8 (.lit (.int .i64 (IntKind.wrap .i64 (x3880 + 1))))) (((Mem.nil.push (.cells 23 [.lit (.int .i64 0), .lit (.int .i64 0)])).push (.cells 54 [.lit (.bool false), .lit (.slice none 0 0), .lit (.int .i64 x4034)])).push (.row 3 (Rd.int .i64) x4035)) _
       refine WP.seq ?_
       refine WP.seq ?_
       obtain ⟨x4086, H4091, H⟩ := bnd H
       refine WP.monoW (Q := fun x E M => x = .normal ∧ E = ((((((((Env.none.upd 0 (.lit (.string x2105))).upd 2 (.ptr 0 0)).upd 4 (.ptr 1 0)).upd 5 (.lit (.int .i64 x4033))).upd 6 (.lit (.bool x3782))).upd 7 (.whole 2)).upd 8 (.lit (.int .i64 (IntKind.wrap .i64 (x3880 + 1))))).upd 73 (.lit (.bool x4086))) ∧ M = (((Mem.nil.push (.cells 23 [.lit (.int .i64 0), .lit (.int .i64 0)])).push (.cells 54 [.lit (.bool false), .lit (.slice none 0 0), .lit (.int .i64 x4034)])).push (.row 3 (Rd.int .i64) x4035))) ?_ ?_
       · clear H
         have H := H4091
         clear H4091
         refine WP.region ?_
         refine WPL.q (q_mv (v := .lit (.int _ _)) rfl) rfl ?_
         refine WPL.q (q_mv (v := .lit (.string _)) rfl) rfl ?_
         refine WPL.q (q_len_str Tryd.underlying9 rfl) rfl ?_
         obtain ⟨x4087, h4087, H⟩ := bnd H
         refine WPL.q (q_nm (q_lss rfl rfl) (nm_bool h4087)) rfl ?_
         refine WPL.q (q_mv (v := .lit (.bool _)) rfl) rfl ?_
         refine WPL.split (t := 68) (b := x4087) rfl (fun hb4087 => ?_) (fun hb4087 => ?_)
         · replace H := cnt hb4087 H
           refine WPL.qg rfl rfl (lb hb4087) (q_mv (v := .lit (.string _)) rfl) rfl ?_
           refine WPL.qg rfl rfl (lb hb4087) (q_mv (v := .lit (.int _ _)) rfl) rfl ?_
           obtain ⟨x4089, h4089, H⟩ := bnd H
           refine WPL.qg rfl rfl (lb hb4087) (q_index_str Tryd.underlying9 rfl rfl h4089) rfl ?_
           obtain ⟨x4091, h4089, H⟩ := bnd H
           refine WPL.cg rfl rfl (lb hb4087) (runs_call (s := []) (t := []) (N := 3) (bor := []) fn19 rfl (s_quireref09_digit k x4089 x4091 h4089) ⟨rfl, trivial, by decide, rfl, trivial⟩ rfl trivial (.ren rfl rfl .nil) rfl trivial rfl) rfl ?_
           refine WPL.q (q_pickT (v := .lit (.bool _)) (lb hb4087) rfl) rfl ?_
           refine WPL.nilW ?_
           have q0 := (Option.some.inj H)
           subst q0
           exact W.wk [0, 1, 2] hnp ⟨rfl, rfl, rfl⟩ ⟨rfl, ⟨⟨⟨trivial, .inr ⟨rfl, rfl, rfl⟩⟩, .inr ⟨rfl, rfl, rfl⟩⟩, .inr ⟨rfl, rfl, rfl⟩⟩, by decide, rfl, trivial⟩ (LeE.upd rfl rfl (LeE.upd rfl rfl (LeE.upd rfl rfl (LeE.upd rfl rfl (LeE.upd rfl rfl (LeE.upd rfl rfl (LeE.upd rfl rfl (LeE.upd rfl rfl (LeE.none rfl rfl))))))))) rfl
         replace H := cnf hb4087 H
         refine WPL.skipg (b' := false) rfl rfl (lb hb4087) rfl rfl ?_
         refine WPL.skipg (b' := false) rfl rfl (lb hb4087) rfl rfl ?_
         refine WPL.skipg (b' := false) rfl rfl (lb hb4087) rfl rfl ?_
         refine WPL.skipg (b' := false) rfl rfl (lb hb4087) rfl rfl ?_
         refine WPL.q (q_pickF (v := .lit (.bool _)) (lb hb4087) rfl) rfl ?_
         refine WPL.nilW ?_
         have q0 := (Option.some.inj H)
         subst q0
         exact W.wk [0, 1, 2] hnp ⟨rfl, rfl, rfl⟩ ⟨rfl, ⟨⟨⟨trivial, .inr ⟨rfl, rfl, rfl⟩⟩, .inr ⟨rfl, rfl, rfl⟩⟩, .inr ⟨rfl, rfl, rfl⟩⟩, by decide, rfl, trivial⟩ (LeE.upd rfl rfl (LeE.upd rfl rfl (LeE.upd rfl rfl (LeE.upd rfl rfl (LeE.upd rfl rfl (LeE.upd rfl rfl (LeE.upd rfl rfl (LeE.upd rfl rfl (LeE.none rfl rfl))))))))) rfl
       rintro _ _ _ ⟨rfl, rfl, rfl⟩
       refine W.now ?_
       refine Then.n ?_
       refine WP.cond (t := x4086) rfl (fun hb4092 => ?_) (fun hb4092 => ?_)
       · replace H := cnt hb4092 H
         refine WP.skipW ?_
         refine W.now ?_
         refine Then.n ?_
         refine WP.block ?_
         refine WP.seq ?_
         refine WP.region ?_
         refine WPL.q (q_mv (v := .whole _) rfl) rfl ?_
         refine WPL.q (q_mv (v := .lit (.string _)) rfl) rfl ?_
         refine WPL.q (q_mv (v := .lit (.int _ _)) rfl) rfl ?_
         obtain ⟨x4094, h4094, H⟩ := bnd H
         refine WPL.q (q_index_str Tryd.underlying9 rfl rfl h4094) rfl ?_
         refine WPL.q (q_sub rfl rfl) rfl ?_
         obtain ⟨x4095, h4095, H⟩ := bnd H
         refine WPL.q (q_nm (q_conv Tryd.underlying5 Tryd.underlying3 rfl) (nm_int h4095)) rfl ?_
         refine WPL.d (d_buildSlice (ds := ([x4095] : List Int)) (R := (Rd.int .i64)) li50 rfl rfl rfl rfl rfl (JoinRows.cons1 Joins.sc rfl JoinRows.nil) rfl rfl) rfl ?_
         obtain ⟨h4095, H⟩ := grd H
         refine WPL.d (d_append ap50 rfl rfl rfl rfl (src_row sl50 rfl rfl) h4095 rfl) rfl ?_
         refine WPL.q (q_as (v := .whole _) rfl) rfl ?_
         refine WPL.nilW ?_
         refine W.now ?_
         refine Then.n ?_
         refine WP.seq ?_
         refine WP.region ?_
         refine WPL.q (q_fieldAddr fi54_1 rfl rfl) rfl ?_
         refine WPL.q (q_load sc3 rfl rfl rfl) rfl ?_
         refine WPL.q (q_sub rfl rfl) rfl ?_
         refine WPL.q (q_fieldAddr fi54_1 rfl rfl) rfl ?_
         refine WPL.s (s_store sz3 rfl rfl rfl rfl rfl) ?_
         refine WPL.nilW ?_
         refine W.now ?_
         refine Then.n ?_
         refine WP.region ?_
         refine WPL.q (q_mv (v := .lit (.int _ _)) rfl) rfl ?_
         refine WPL.q (q_add rfl rfl) rfl ?_
         refine WPL.q (q_as (v := .lit (.int _ _)) rfl) rfl ?_
         refine WPL.nilW ?_
         exact W.wk [0, 1, 4] hnp (InBlock.n (Then.n ⟨n, ((IntKind.wrap .i64 (x4033 + 1)), (IntKind.wrap .i64 (x4034 - 1)), (x4035 ++ ([x4095] : List Int))), Nat.lt_succ_self n, H, rfl, rfl⟩)) ⟨rfl, ⟨⟨⟨trivial, .inr ⟨rfl, rfl, rfl⟩⟩, .inr ⟨rfl, rfl, rfl⟩⟩, .inr ⟨rfl, rfl, rfl⟩⟩, by decide, rfl, trivial⟩ (LeE.upd rfl rfl (LeE.upd rfl rfl (LeE.upd rfl rfl (LeE.upd rfl rfl (LeE.upd rfl rfl (LeE.upd rfl rfl (LeE.upd rfl rfl (LeE.none rfl rfl)))))))) rfl
       replace H := cnf hb4092 H
       refine WP.exitW ?_
       have q0 := (Prod.mk.inj (Option.some.inj H)).1
       have q1 := (Prod.mk.inj (Prod.mk.inj (Option.some.inj H)).2).1
       have q2 := (Prod.mk.inj (Prod.mk.inj (Option.some.inj H)).2).2
       subst q0
       subst q1
       subst q2
       exact W.wk [0, 1, 2] hnp (Then.x (Then.x ⟨rfl, rfl, rfl⟩)) ⟨rfl, ⟨⟨⟨trivial, .inr ⟨rfl, rfl, rfl⟩⟩, .inr ⟨rfl, rfl, rfl⟩⟩, .inr ⟨rfl, rfl, rfl⟩⟩, by decide, rfl, trivial⟩ (LeE.upd rfl rfl (LeE.upd rfl rfl (LeE.upd rfl rfl (LeE.upd rfl rfl (LeE.upd rfl rfl (LeE.upd rfl rfl (LeE.upd rfl rfl (LeE.none rfl rfl)))))))) rfl
     rintro _ _ _ ⟨rfl, rfl, rfl⟩
     refine W.now ?_
     refine InBlock.x0 ?_
     refine Then.n ?_
     refine WP.seq ?_
     refine WP.region ?_
     refine WPL.q (q_mv (v := .lit (.int _ _)) rfl) rfl ?_
     refine WPL.q (q_mv (v := .lit (.int _ _)) rfl) rfl ?_
     obtain ⟨x4098, h4098, H⟩ := bnd H
     refine WPL.q (q_nm (q_eql rfl rfl) (nm_bool h4098)) rfl ?_
     refine WPL.nilW ?_
     refine W.now ?_
     refine Then.n ?_
     refine WP.cond (t := x4098) rfl (fun hb4098 => ?_) (fun hb4098 => ?_)
     · replace H := cnt hb4098 H
       refine WP.seq ?_
       refine WP.region ?_
       refine WPL.q (q_build bu23 rfl) rfl ?_
       refine WPL.s (s_store sz23 rfl rfl rfl rfl rfl) ?_
       refine WPL.q (q_as (v := .lit (.int _ _)) rfl) rfl ?_
       refine WPL.nilW ?_
       refine W.now ?_
       refine Then.n ?_
       refine WP.retW ?_
       have q0 := Option.some.inj H
       subst q0
       exact W.wk [0] hnp ⟨rfl, rfl, rfl⟩ ⟨rfl, ⟨trivial, .inr ⟨rfl, rfl, rfl⟩⟩, by decide, rfl, trivial⟩ (LeE.upd rfl rfl (LeE.upd rfl rfl (LeE.none rfl rfl))) rfl
     replace H := cnf hb4098 H
     refine WP.skipW ?_
     have q0 := Option.some.inj H
     subst q0
     exact W.wk [0, 1, 2] hnp ⟨rfl, rfl, rfl⟩ ⟨rfl, ⟨⟨⟨trivial, .inr ⟨rfl, rfl, rfl⟩⟩, .inr ⟨rfl, rfl, rfl⟩⟩, .inr ⟨rfl, rfl, rfl⟩⟩, by decide, rfl, trivial⟩ (LeE.upd rfl rfl (LeE.upd rfl rfl (LeE.upd rfl rfl (LeE.upd rfl rfl (LeE.upd rfl rfl (LeE.upd rfl rfl (LeE.none rfl rfl))))))) rfl
   replace H := cnf hb4001 H
   refine WP.skipW ?_
   have q0 := Option.some.inj H
   subst q0
   exact W.wk [0, 1, 2] hnp ⟨rfl, rfl, rfl⟩ ⟨rfl, ⟨⟨⟨trivial, .inr ⟨rfl, rfl, rfl⟩⟩, .inr ⟨rfl, rfl, rfl⟩⟩, .inr ⟨rfl, rfl, rfl⟩⟩, by decide, rfl, trivial⟩ (LeE.upd rfl rfl (LeE.upd rfl rfl (LeE.upd rfl rfl (LeE.upd rfl rfl (LeE.upd rfl rfl (LeE.upd rfl rfl (LeE.none rfl rfl))))))) rfl
 rcases y4101 with _ | ⟨x3991, x3992, x3993⟩
 · rintro _ _ _ ⟨rfl, rfl, rfl⟩
   have q0 := (Prod.mk.inj (Option.some.inj H)).1
   have q1 := (Prod.mk.inj (Prod.mk.inj (Option.some.inj H)).2).1
   have q2 := (Prod.mk.inj (Prod.mk.inj (Option.some.inj H)).2).2
   subst q0
   subst q1
   subst q2
   exact W.now (Then.r (BodyR.mkR trivial rfl [0] ⟨rfl, rfl⟩ ⟨rfl, ⟨trivial, .inr ⟨rfl, rfl, rfl⟩⟩, by decide, rfl, trivial⟩ rfl rfl))
 rintro _ _ _ ⟨rfl, rfl, rfl⟩
 refine W.now ?_
 refine Then.n ?_
 refine WP.seq ?_
 obtain ⟨y4386, H4384, H⟩ := bnd H
 refine WP.monoW (Q := fun x E M => match (generalizing := false) y4386 with | (Sum.inl _) => x = .ret ∧ E = ((Env.none.upd 2 (.ptr 0 0)).upd 3 (.lit (.int .i64 40))) ∧ M = (Mem.nil.push (.cells 23 [.lit (.int .i64 0), .lit (.int .i64 0)])) | (Sum.inr (x4227, x4228)) => x = .normal ∧ E = ((((((Env.none.upd 0 (.lit (.string x2105))).upd 2 (.ptr 0 0)).upd 4 (.ptr 1 0)).upd 5 (.lit (.int .i64 x4227))).upd 6 (.lit (.bool x3782))).upd 7 (.whole 2)) ∧ M = (((Mem.nil.push (.cells 23 [.lit (.int .i64 0), .lit (.int .i64 0)])).push (.cells 54 [.lit (.bool false), .lit (.slice none 0 0), .lit (.int .i64 x4228)])).push (.row 3 (Rd.int .i64) x3993))) ?_ ?_
 · clear H
   have H := H4384
   clear H4384
   refine WP.seq ?_
   obtain ⟨x4234, H4239, H⟩ := bnd H
   refine WP.monoW (Q := fun x E M => x = .normal ∧ E = (((((((Env.none.upd 0 (.lit (.string x2105))).upd 2 (.ptr 0 0)).upd 4 (.ptr 1 0)).upd 5 (.lit (.int .i64 x3991))).upd 6 (.lit (.bool x3782))).upd 7 (.whole 2)).upd 107 (.lit (.bool x4234))) ∧ M = (((Mem.nil.push (.cells 23 [.lit (.int .i64 0), .lit (.int .i64 0)])).push (.cells 54 [.lit (.bool false), .lit (.slice none 0 0), .lit (.int .i64 x3992)])).push (.row 3 (Rd.int .i64) x3993))) ?_ ?_
   · clear H
     have H := H4239
     clear H4239
     refine WP.region ?_
     refine WPL.q (q_mv (v := .lit (.int _ _)) rfl) rfl ?_
     refine WPL.q (q_mv (v := .lit (.string _)) rfl) rfl ?_
     refine WPL.q (q_len_str Tryd.underlying9 rfl) rfl ?_
     obtain ⟨x4235, h4235, H⟩ := bnd H
     refine WPL.q (q_nm (q_lss rfl rfl) (nm_bool h4235)) rfl ?_
     refine WPL.q (q_mv (v := .lit (.bool _)) rfl) rfl ?_
     refine WPL.split (t := 96) (b := x4235) rfl (fun hb4235 => ?_) (fun hb4235 => ?_)
     · replace H := cnt hb4235 H
       refine WPL.qg rfl rfl (lb hb4235) (q_mv (v := .lit (.string _)) rfl) rfl ?_
       refine WPL.qg rfl rfl (lb hb4235) (q_mv (v := .lit (.int _ _)) rfl) rfl ?_
       obtain ⟨x4237, h4237, H⟩ := bnd H
       refine WPL.qg rfl rfl (lb hb4235) (q_index_str Tryd.underlying9 rfl rfl h4237) rfl ?_
       refine WPL.qg rfl rfl (lb hb4235) (q_eql rfl rfl) rfl ?_
       refine WPL.qg rfl rfl (lb hb4235) (q_mv (v := .lit (.bool _)) rfl) rfl ?_
       refine WPL.split (t := 101) (b := (decide (x4237 = 101))) rfl (fun hb4237 => ?_) (fun hb4237 => ?_)
       · replace H := cnt hb4237 H
         refine WPL.skipg (b' := true) rfl rfl (lb hb4237) rfl rfl ?_
         refine WPL.skipg (b' := true) rfl rfl (lb hb4237) rfl rfl ?_
         refine WPL.skipg (b' := true) rfl rfl (lb hb4237) rfl rfl ?_
         refine WPL.skipg (b' := true) rfl rfl (lb hb4237) rfl rfl ?_
         refine WPL.qg rfl rfl (lb hb4235) (q_pickT (v := .lit (.bool _)) (lb hb4237) rfl) rfl ?_
         refine WPL.q (q_pickT (v := .lit (.bool _)) (lb hb4235) rfl) rfl ?_
         refine WPL.nilW ?_
         have q0 := (Option.some.inj H)
         subst q0
         exact W.wk [0, 1, 2] hnp ⟨rfl, rfl, rfl⟩ ⟨rfl, ⟨⟨⟨trivial, .inr ⟨rfl, rfl, rfl⟩⟩, .inr ⟨rfl, rfl, rfl⟩⟩, .inr ⟨rfl, rfl, rfl⟩⟩, by decide, rfl, trivial⟩ (LeE.upd rfl rfl (LeE.upd rfl rfl (LeE.upd rfl rfl (LeE.upd rfl rfl (LeE.upd rfl rfl (LeE.upd rfl rfl (LeE.upd rfl rfl (LeE.none rfl rfl)))))))) rfl
       replace H := cnf hb4237 H
       refine WPL.qg rfl rfl (lb hb4237) (q_mv (v := .lit (.string _)) rfl) rfl ?_
       refine WPL.qg rfl rfl (lb hb4237) (q_mv (v := .lit (.int _ _)) rfl) rfl ?_
       obtain ⟨x4239, h4239, H⟩ := bnd H
       refine WPL.qg rfl rfl (lb hb4237) (q_index_str Tryd.underlying9 rfl rfl h4239) rfl ?_
       refine WPL.qg rfl rfl (lb hb4237) (q_eql rfl rfl) rfl ?_
       refine WPL.qg rfl rfl (lb hb4235) (q_pickF (v := .lit (.bool _)) (lb hb4237) rfl) rfl ?_
       refine WPL.q (q_pickT (v := .lit (.bool _)) (lb hb4235) rfl) rfl ?_
       refine WPL.nilW ?_
       have q0 := (Option.some.inj H)
       subst q0
       exact W.wk [0, 1, 2] hnp ⟨rfl, rfl, rfl⟩ ⟨rfl, ⟨⟨⟨trivial, .inr ⟨rfl, rfl, rfl⟩⟩, .inr ⟨rfl, rfl, rfl⟩⟩, .inr ⟨rfl, rfl, rfl⟩⟩, by decide, rfl, trivial⟩ (LeE.upd rfl rfl (LeE.upd rfl rfl (LeE.upd rfl rfl (LeE.upd rfl rfl (LeE.upd rfl rfl (LeE.upd rfl rfl (LeE.upd rfl rfl (LeE.none rfl rfl)))))))) rfl
     replace H := cnf hb4235 H
     refine WPL.skipg (b' := false) rfl rfl (lb hb4235) rfl rfl ?_
     refine WPL.skipg (b' := false) rfl rfl (lb hb4235) rfl rfl ?_
     refine WPL.skipg (b' := false) rfl rfl (lb hb4235) rfl rfl ?_
     refine WPL.skipg (b' := false) rfl rfl (lb hb4235) rfl rfl ?_
     refine WPL.skipg (b' := false) rfl rfl (lb hb4235) rfl rfl ?_
     refine WPL.skipu rfl rfl rfl rfl ?_
     refine WPL.skipu rfl rfl rfl rfl ?_
     refine WPL.skipu rfl rfl rfl rfl ?_
     refine WPL.skipu rfl rfl rfl rfl ?_
     refine WPL.skipg (b' := false) rfl rfl (lb hb4235) rfl rfl ?_
     refine WPL.q (q_pickF (v := .lit (.bool _)) (lb hb4235) rfl) rfl ?_
     refine WPL.nilW ?_
     have q0 := (Option.some.inj H)
     subst q0
     exact W.wk [0, 1, 2] hnp ⟨rfl, rfl, rfl⟩ ⟨rfl, ⟨⟨⟨trivial, .inr ⟨rfl, rfl, rfl⟩⟩, .inr ⟨rfl, rfl, rfl⟩⟩, .inr ⟨rfl, rfl, rfl⟩⟩, by decide, rfl, trivial⟩ (LeE.upd rfl rfl (LeE.upd rfl rfl (LeE.upd rfl rfl (LeE.upd rfl rfl (LeE.upd rfl rfl (LeE.upd rfl rfl (LeE.upd rfl rfl (LeE.none rfl rfl)))))))) rfl
   rintro _ _ _ ⟨rfl, rfl, rfl⟩
   refine W.now ?_
   refine Then.n ?_
   refine WP.cond (t := x4234) rfl (fun hb4240 => ?_) (fun hb4240 => ?_)
   · replace H := cnt hb4240 H
     refine WP.seq ?_
     refine WP.region ?_
     refine WPL.q (q_mv (v := .lit (.int _ _)) rfl) rfl ?_
     refine WPL.q (q_add rfl rfl) rfl ?_
     refine WPL.q (q_as (v := .lit (.int _ _)) rfl) rfl ?_
     refine WPL.nilW ?_
     refine W.now ?_
     refine Then.n ?_
     refine WP.seq ?_
     obtain ⟨x4245, H4248, H⟩ := bnd H
     refine WP.monoW (Q := fun x E M => x = .normal ∧ E = (((((((Env.none.upd 0 (.lit (.string x2105))).upd 2 (.ptr 0 0)).upd 4 (.ptr 1 0)).upd 5 (.lit (.int .i64 (IntKind.wrap .i64 (x3991 + 1))))).upd 6 (.lit (.bool x3782))).upd 7 (.whole 2)).upd 9 (.lit (.bool x4245))) ∧ M = (((Mem.nil.push (.cells 23 [.lit (.int .i64 0), .lit (.int .i64 0)])).push (.cells 54 [.lit (.bool false), .lit (.slice none 0 0), .lit (.int .i64 x3992)])).push (.row 3 (Rd.int .i64) x3993))) ?_ ?_
     · clear H
       have H := H4248
       clear H4248
       refine WP.region ?_
       refine WPL.q (q_mv (v := .lit (.int _ _)) rfl) rfl ?_
       refine WPL.q (q_mv (v := .lit (.string _)) rfl) rfl ?_
       refine WPL.q (q_len_str Tryd.underlying9 rfl) rfl ?_
       obtain ⟨x4246, h4246, H⟩ := bnd H
       refine WPL.q (q_nm (q_lss rfl rfl) (nm_bool h4246)) rfl ?_
       refine WPL.q (q_mv (v := .lit (.bool _)) rfl) rfl ?_
       refine WPL.split (t := 114) (b := x4246) rfl (fun hb4246 => ?_) (fun hb4246 => ?_)
       · replace H := cnt hb4246 H
         refine WPL.qg rfl rfl (lb hb4246) (q_mv (v := .lit (.string _)) rfl) rfl ?_
         refine WPL.qg rfl rfl (lb hb4246) (q_mv (v := .lit (.int _ _)) rfl) rfl ?_
         obtain ⟨x4248, h4248, H⟩ := bnd H
         refine WPL.qg rfl rfl (lb hb4246) (q_index_str Tryd.underlying9 rfl rfl h4248) rfl ?_
         refine WPL.qg rfl rfl (lb hb4246) (q_eql rfl rfl) rfl ?_
         refine WPL.q (q_pickT (v := .lit (.bool _)) (lb hb4246) rfl) rfl ?_
         refine WPL.q (q_as (v := .lit (.bool _)) rfl) rfl ?_
         refine WPL.nilW ?_
         have q0 := (Option.some.inj H)
         subst q0
         exact W.wk [0, 1, 2] hnp ⟨rfl, rfl, rfl⟩ ⟨rfl, ⟨⟨⟨trivial, .inr ⟨rfl, rfl, rfl⟩⟩, .inr ⟨rfl, rfl, rfl⟩⟩, .inr ⟨rfl, rfl, rfl⟩⟩, by decide, rfl, trivial⟩ (LeE.upd rfl rfl (LeE.upd rfl rfl (LeE.upd rfl rfl (LeE.upd rfl rfl (LeE.upd rfl rfl (LeE.upd rfl rfl (LeE.upd rfl rfl (LeE.none rfl rfl)))))))) rfl
       replace H := cnf hb4246 H
       refine WPL.skipg (b' := false) rfl rfl (lb hb4246) rfl rfl ?_
       refine WPL.skipg (b' := false) rfl rfl (lb hb4246) rfl rfl ?_
       refine WPL.skipg (b' := false) rfl rfl (lb hb4246) rfl rfl ?_
       refine WPL.skipg (b' := false) rfl rfl (lb hb4246) rfl rfl ?_
       refine WPL.q (q_pickF (v := .lit (.bool _)) (lb hb4246) rfl) rfl ?_
       refine WPL.q (q_as (v := .lit (.bool _)) rfl) rfl ?_
       refine WPL.nilW ?_
       have q0 := (Option.some.inj H)
       subst q0
       exact W.wk [0, 1, 2] hnp ⟨rfl, rfl, rfl⟩ ⟨rfl, ⟨⟨⟨trivial, .inr ⟨rfl, rfl, rfl⟩⟩, .inr ⟨rfl, rfl, rfl⟩⟩, .inr ⟨rfl, rfl, rfl⟩⟩, by decide, rfl, trivial⟩ (LeE.upd rfl rfl (LeE.upd rfl rfl (LeE.upd rfl rfl (LeE.upd rfl rfl (LeE.upd rfl rfl (LeE.upd rfl rfl (LeE.upd rfl rfl (LeE.none rfl rfl)))))))) rfl
     rintro _ _ _ ⟨rfl, rfl, rfl⟩
     refine W.now ?_
     refine Then.n ?_
     refine WP.seq ?_
     obtain ⟨x4264, H4278, H⟩ := bnd H
     refine WP.monoW (Q := fun x E M => x = .normal ∧ E = (((((((Env.none.upd 0 (.lit (.string x2105))).upd 2 (.ptr 0 0)).upd 4 (.ptr 1 0)).upd 5 (.lit (.int .i64 x4264))).upd 6 (.lit (.bool x3782))).upd 7 (.whole 2)).upd 9 (.lit (.bool x4245))) ∧ M = (((Mem.nil.push (.cells 23 [.lit (.int .i64 0), .lit (.int .i64 0)])).push (.cells 54 [.lit (.bool false), .lit (.slice none 0 0), .lit (.int .i64 x3992)])).push (.row 3 (Rd.int .i64) x3993))) ?_ ?_
     · clear H
       have H := H4278
       clear H4278
       refine WP.seq ?_
       obtain ⟨x4270, H4275, H⟩ := bnd H
       refine WP.monoW (Q := fun x E M => x = .normal ∧ E = ((((((((Env.none.upd 0 (.lit (.string x2105))).upd 2 (.ptr 0 0)).upd 4 (.ptr 1 0)).upd 5 (.lit (.int .i64 (IntKind.wrap .i64 (x3991 + 1))))).upd 6 (.lit (.bool x3782))).upd 7 (.whole 2)).upd 9 (.lit (.bool x4245))).upd 135 (.lit (.bool x4270))) ∧ M = (((Mem.nil.push (.cells 23 [.lit (.int .i64 0), .lit (.int .i64 0)])).push (.cells 54 [.lit (.bool false), .lit (.slice none 0 0), .lit (.int .i64 x3992)])).push (.row 3 (Rd.int .i64) x3993))) ?_ ?_
       · clear H
         have H := H4275
         clear H4275
         refine WP.region ?_
         refine WPL.q (q_mv (v := .lit (.int _ _)) rfl) rfl ?_
         refine WPL.q (q_mv (v := .lit (.string _)) rfl) rfl ?_
         refine WPL.q (q_len_str Tryd.underlying9 rfl) rfl ?_
         obtain ⟨x4271, h4271, H⟩ := bnd H
         refine WPL.q (q_nm (q_lss rfl rfl) (nm_bool h4271)) rfl ?_
         refine WPL.q (q_mv (v := .lit (.bool _)) rfl) rfl ?_
         refine WPL.split (t := 124) (b := x4271) rfl (fun hb4271 => ?_) (fun hb4271 => ?_)
         · replace H := cnt hb4271 H
           refine WPL.qg rfl rfl (lb hb4271) (q_mv (v := .lit (.string _)) rfl) rfl ?_
           refine WPL.qg rfl rfl (lb hb4271) (q_mv (v := .lit (.int _ _)) rfl) rfl ?_
           obtain ⟨x4273, h4273, H⟩ := bnd H
           refine WPL.qg rfl rfl (lb hb4271) (q_index_str Tryd.underlying9 rfl rfl h4273) rfl ?_
           refine WPL.qg rfl rfl (lb hb4271) (q_eql rfl rfl) rfl ?_
           refine WPL.qg rfl rfl (lb hb4271) (q_mv (v := .lit (.bool _)) rfl) rfl ?_
           refine WPL.split (t := 129) (b := (decide (x4273 = 45))) rfl (fun hb4273 => ?_) (fun hb4273 => ?_)
           · replace H := cnt hb4273 H
             refine WPL.skipg (b' := true) rfl rfl (lb hb4273) rfl rfl ?_
             refine WPL.skipg (b' := true) rfl rfl (lb hb4273) rfl rfl ?_
             refine WPL.skipg (b' := true) rfl rfl (lb hb4273) rfl rfl ?_
             refine WPL.skipg (b' := true) rfl rfl (lb hb4273) rfl rfl ?_
             refine WPL.qg rfl rfl (lb hb4271) (q_pickT (v := .lit (.bool _)) (lb hb4273) rfl) rfl ?_
             refine WPL.q (q_pickT (v := .lit (.bool _)) (lb hb4271) rfl) rfl ?_
             refine WPL.nilW ?_
             have q0 := (Option.some.inj H)
             subst q0
             exact W.wk [0, 1, 2] hnp ⟨rfl, rfl, rfl⟩ ⟨rfl, ⟨⟨⟨trivial, .inr ⟨rfl, rfl, rfl⟩⟩, .inr ⟨rfl, rfl, rfl⟩⟩, .inr ⟨rfl, rfl, rfl⟩⟩, by decide, rfl, trivial⟩ (LeE.upd rfl rfl (LeE.upd rfl rfl (LeE.upd rfl rfl (LeE.upd rfl rfl (LeE.upd rfl rfl (LeE.upd rfl rfl (LeE.upd rfl rfl (LeE.upd rfl rfl (LeE.none rfl rfl))))))))) rfl
           replace H := cnf hb4273 H
           refine WPL.qg rfl rfl (lb hb4273) (q_mv (v := .lit (.string _)) rfl) rfl ?_
           refine WPL.qg rfl rfl (lb hb4273) (q_mv (v := .lit (.int _ _)) rfl) rfl ?_
           obtain ⟨x4275, h4275, H⟩ := bnd H
           refine WPL.qg rfl rfl (lb hb4273) (q_index_str Tryd.underlying9 rfl rfl h4275) rfl ?_
           refine WPL.qg rfl rfl (lb hb4273) (q_eql rfl rfl) rfl ?_
           refine WPL.qg rfl rfl (lb hb4271) (q_pickF (v := .lit (.bool _)) (lb hb4273) rfl) rfl ?_
           refine WPL.q (q_pickT (v := .lit (.bool _)) (lb hb4271) rfl) rfl ?_
           refine WPL.nilW ?_
           have q0 := (Option.some.inj H)
           subst q0
           exact W.wk [0, 1, 2] hnp ⟨rfl, rfl, rfl⟩ ⟨rfl, ⟨⟨⟨trivial, .inr ⟨rfl, rfl, rfl⟩⟩, .inr ⟨rfl, rfl, rfl⟩⟩, .inr ⟨rfl, rfl, rfl⟩⟩, by decide, rfl, trivial⟩ (LeE.upd rfl rfl (LeE.upd rfl rfl (LeE.upd rfl rfl (LeE.upd rfl rfl (LeE.upd rfl rfl (LeE.upd rfl rfl (LeE.upd rfl rfl (LeE.upd rfl rfl (LeE.none rfl rfl))))))))) rfl
         replace H := cnf hb4271 H
         refine WPL.skipg (b' := false) rfl rfl (lb hb4271) rfl rfl ?_
         refine WPL.skipg (b' := false) rfl rfl (lb hb4271) rfl rfl ?_
         refine WPL.skipg (b' := false) rfl rfl (lb hb4271) rfl rfl ?_
         refine WPL.skipg (b' := false) rfl rfl (lb hb4271) rfl rfl ?_
         refine WPL.skipg (b' := false) rfl rfl (lb hb4271) rfl rfl ?_
         refine WPL.skipu rfl rfl rfl rfl ?_
         refine WPL.skipu rfl rfl rfl rfl ?_
         refine WPL.skipu rfl rfl rfl rfl ?_
         refine WPL.skipu rfl rfl rfl rfl ?_
         refine WPL.skipg (b' := false) rfl rfl (lb hb4271) rfl rfl ?_
         refine WPL.q (q_pickF (v := .lit (.bool _)) (lb hb4271) rfl) rfl ?_
         refine WPL.nilW ?_
         have q0 := (Option.some.inj H)
         subst q0
         exact W.wk [0, 1, 2] hnp ⟨rfl, rfl, rfl⟩ ⟨rfl, ⟨⟨⟨trivial, .inr ⟨rfl, rfl, rfl⟩⟩, .inr ⟨rfl, rfl, rfl⟩⟩, .inr ⟨rfl, rfl, rfl⟩⟩, by decide, rfl, trivial⟩ (LeE.upd rfl rfl (LeE.upd rfl rfl (LeE.upd rfl rfl (LeE.upd rfl rfl (LeE.upd rfl rfl (LeE.upd rfl rfl (LeE.upd rfl rfl (LeE.upd rfl rfl (LeE.none rfl rfl))))))))) rfl
       rintro _ _ _ ⟨rfl, rfl, rfl⟩
       refine W.now ?_
       refine Then.n ?_
       refine WP.cond (t := x4270) rfl (fun hb4276 => ?_) (fun hb4276 => ?_)
       · replace H := cnt hb4276 H
         refine WP.region ?_
         refine WPL.q (q_mv (v := .lit (.int _ _)) rfl) rfl ?_
         obtain ⟨x4278, h4278, H⟩ := bnd H
         refine WPL.q (q_nm (q_add rfl rfl) (nm_int h4278)) rfl ?_
         refine WPL.q (q_as (v := .lit (.int _ _)) rfl) rfl ?_
         refine WPL.nilW ?_
         have q0 := (Option.some.inj H)
         subst q0
         exact W.wk [0, 1, 2] hnp ⟨rfl, rfl, rfl⟩ ⟨rfl, ⟨⟨⟨trivial, .inr ⟨rfl, rfl, rfl⟩⟩, .inr ⟨rfl, rfl, rfl⟩⟩, .inr ⟨rfl, rfl, rfl⟩⟩, by decide, rfl, trivial⟩ (LeE.upd rfl rfl (LeE.upd rfl rfl (LeE.upd rfl rfl (LeE.upd rfl rfl (LeE.upd rfl rfl (LeE.upd rfl rfl (LeE.upd rfl rfl (LeE.none rfl rfl)))))))) rfl
       replace H := cnf hb4276 H
       refine WP.skipW ?_
       have q0 := (Option.some.inj H)
       subst q0
       exact W.wk [0, 1, 2] hnp ⟨rfl, rfl, rfl⟩ ⟨rfl, ⟨⟨⟨trivial, .inr ⟨rfl, rfl, rfl⟩⟩, .inr ⟨rfl, rfl, rfl⟩⟩, .inr ⟨rfl, rfl, rfl⟩⟩, by decide, rfl, trivial⟩ (LeE.upd rfl rfl (LeE.upd rfl rfl (LeE.upd rfl rfl (LeE.upd rfl rfl (LeE.upd rfl rfl (LeE.upd rfl rfl (LeE.upd rfl rfl (LeE.none rfl rfl)))))))) rfl
     rintro _ _ _ ⟨rfl, rfl, rfl⟩
     refine W.now ?_
     refine Then.n ?_
     refine WP.seq ?_
     refine WP.region ?_
     refine WPL.q (q_mv (v := .lit (.int _ _)) rfl) rfl ?_
     refine WPL.q (q_as (v := .lit (.int _ _)) rfl) rfl ?_
     refine WPL.nilW ?_
     refine W.now ?_
     refine Then.n ?_
     refine WP.seq ?_
     refine WP.region ?_
     refine WPL.q (q_as (v := .lit (.int _ _)) rfl) rfl ?_
     refine WPL.nilW ?_
     refine W.now ?_
     refine Then.n ?_
     refine WP.seq ?_
     refine WP.block ?_
     refine WP.cv (Cv.weak (E' := (((((((((Env.none.upd 0 (.lit (.string x2105))).upd 2 (.ptr 0 0)).upd 4 (.ptr 1 0)).upd 5 (.lit (.int .i64 x4264))).upd 6 (.lit (.bool x3782))).upd 7 (.whole 2)).upd 8 (.lit (.int .i64 x4264))).upd 9 (.lit (.bool x4245))).upd 10 (.lit (.int .i64 0)))) (M' := (((Mem.nil.push (.cells 23 [.lit (.int .i64 0), .lit (.int .i64 0)])).push (.cells 54 [.lit (.bool false), .lit (.slice none 0 0), .lit (.int .i64 x3992)])).push (.row 3 (Rd.int .i64) x3993))) [0, 1, 2] hnp ⟨rfl, ⟨⟨⟨trivial, .inr ⟨rfl, rfl, rfl⟩⟩, .inr ⟨rfl, rfl, rfl⟩⟩, .inr ⟨rfl, rfl, rfl⟩⟩, by decide, rfl, trivial⟩ (LeE.upd rfl rfl (LeE.upd rfl rfl (LeE.upd rfl rfl (LeE.upd rfl rfl (LeE.upd rfl rfl (LeE.upd rfl rfl (LeE.upd rfl rfl (LeE.upd rfl rfl (LeE.upd rfl rfl (LeE.none rfl rfl))))))))))) ?_
     obtain ⟨y4378, H4376, H⟩ := bnd H
     refine WP.monoW (Q := fun x E M => match (generalizing := false) y4378 with | (Sum.inl _) => x = .ret ∧ E = ((Env.none.upd 2 (.ptr 0 0)).upd 3 (.lit (.int .i64 40))) ∧ M = (Mem.nil.push (.cells 23 [.lit (.int .i64 0), .lit (.int .i64 0)])) | (Sum.inr (x4344, x4345)) => x = .exit 4 ∧ E = (((((((((Env.none.upd 0 (.lit (.string x2105))).upd 2 (.ptr 0 0)).upd 4 (.ptr 1 0)).upd 5 (.lit (.int .i64 x4344))).upd 6 (.lit (.bool x3782))).upd 7 (.whole 2)).upd 8 (.lit (.int .i64 x4264))).upd 9 (.lit (.bool x4245))).upd 10 (.lit (.int .i64 x4345))) ∧ M = (((Mem.nil.push (.cells 23 [.lit (.int .i64 0), .lit (.int .i64 0)])).push (.cells 54 [.lit (.bool false), .lit (.slice none 0 0), .lit (.int .i64 x3992)])).push (.row 3 (Rd.int .i64) x3993))) ?_ ?_
     · refine WP.loop (β := Int × Int) (fun n b => g_quireref09_Parse_l2 k x2105 x4264 n b.1 b.2 = some y4378) (fun b => (((((((((Env.none.upd 0 (.lit (.string x2105))).upd 2 (.ptr 0 0)).upd 4 (.ptr 1 0)).upd 5 (.lit (.int .i64 b.1))).upd 6 (.lit (.bool x3782))).upd 7 (.whole 2)).upd 8 (.lit (.int .i64 x4264))).upd 9 (.lit (.bool x4245))).upd 10 (.lit (.int .i64 b.2)))) (fun b => (((Mem.nil.push (.cells 23 [.lit (.int .i64 0), .lit (.int .i64 0)])).push (.cells 54 [.lit (.bool false), .lit (.slice none 0 0), .lit (.int .i64 x3992)])).push (.row 3 (Rd.int .i64) x3993))) k (x4264, 0) H4376 rfl rfl ?_
       rintro n ⟨x4311, x4312⟩ H
       obtain _ | n := n
       · exact nf rfl H
       rw [g_quireref09_Parse_l2.eq_2] at H
       show WP _ _ _ _ (((((((((Env.none.upd 0 (.lit (.string x2105))).upd 2 (.ptr 0 0)).upd 4 (.ptr 1 0)).upd 5 (.lit (.int .i64 x4311))).upd 6 (.lit (.bool x3782))).upd 7 (.whole 2)).upd 8 (.lit (.int .i64 x4264))).upd 9 (.lit (.bool x4245))).upd 10 (.lit (.int .i64 x4312))) (((Mem.nil.push (.cells 23 [.lit (.int .i64 0), .lit (.int .i64 0)])).push (.cells 54 [.lit (.bool false), .lit (.slice none 0 0), .lit (.int .i64 x3992)])).push (.row 3 (Rd.int .i64) x3993)) _
       refine WP.seq ?_
       refine WP.seq ?_
       obtain ⟨x4364, H4369, H⟩ := bnd H
       refine WP.monoW (Q := fun x E M => x = .normal ∧ E = ((((((((((Env.none.upd 0 (.lit (.string x2105))).upd 2 (.ptr 0 0)).upd 4 (.ptr 1 0)).upd 5 (.lit (.int .i64 x4311))).upd 6 (.lit (.bool x3782))).upd 7 (.whole 2)).upd 8 (.lit (.int .i64 x4264))).upd 9 (.lit (.bool x4245))).upd 10 (.lit (.int .i64 x4312))).upd 148 (.lit (.bool x4364))) ∧ M = (((Mem.nil.push (.cells 23 [.lit (.int .i64 0), .lit (.int .i64 0)])).push (.cells 54 [.lit (.bool false), .lit (.slice none 0 0), .lit (.int .i64 x3992)])).push (.row 3 (Rd.int .i64) x3993))) ?_ ?_
       · clear H
         have H := H4369
         clear H4369
         refine WP.region ?_
         refine WPL.q (q_mv (v := .lit (.int _ _)) rfl) rfl ?_
         refine WPL.q (q_mv (v := .lit (.string _)) rfl) rfl ?_
         refine WPL.q (q_len_str Tryd.underlying9 rfl) rfl ?_
         obtain ⟨x4365, h4365, H⟩ := bnd H
         refine WPL.q (q_nm (q_lss rfl rfl) (nm_bool h4365)) rfl ?_
         refine WPL.q (q_mv (v := .lit (.bool _)) rfl) rfl ?_
         refine WPL.split (t := 143) (b := x4365) rfl (fun hb4365 => ?_) (fun hb4365 => ?_)
         · replace H := cnt hb4365 H
           refine WPL.qg rfl rfl (lb hb4365) (q_mv (v := .lit (.string _)) rfl) rfl ?_
           refine WPL.qg rfl rfl (lb hb4365) (q_mv (v := .lit (.int _ _)) rfl) rfl ?_
           obtain ⟨x4367, h4367, H⟩ := bnd H
           refine WPL.qg rfl rfl (lb hb4365) (q_index_str Tryd.underlying9 rfl rfl h4367) rfl ?_
           obtain ⟨x4369, h4367, H⟩ := bnd H
           refine WPL.cg rfl rfl (lb hb4365) (runs_call (s := []) (t := []) (N := 3) (bor := []) fn19 rfl (s_quireref09_digit k x4367 x4369 h4367) ⟨rfl, trivial, by decide, rfl, trivial⟩ rfl trivial (.ren rfl rfl .nil) rfl trivial rfl) rfl ?_
           refine WPL.q (q_pickT (v := .lit (.bool _)) (lb hb4365) rfl) rfl ?_
           refine WPL.nilW ?_
           have q0 := (Option.some.inj H)
           subst q0
           exact W.wk [0, 1, 2] hnp ⟨rfl, rfl, rfl⟩ ⟨rfl, ⟨⟨⟨trivial, .inr ⟨rfl, rfl, rfl⟩⟩, .inr ⟨rfl, rfl, rfl⟩⟩, .inr ⟨rfl, rfl, rfl⟩⟩, by decide, rfl, trivial⟩ (LeE.upd rfl rfl (LeE.upd rfl rfl (LeE.upd rfl rfl (LeE.upd rfl rfl (LeE.upd rfl rfl (LeE.upd rfl rfl (LeE.upd rfl rfl (LeE.upd rfl rfl (LeE.upd rfl rfl (LeE.upd rfl rfl (LeE.none rfl rfl))))))))))) rfl
         replace H := cnf hb4365 H
         refine WPL.skipg (b' := false) rfl rfl (lb hb4365) rfl rfl ?_
         refine WPL.skipg (b' := false) rfl rfl (lb hb4365) rfl rfl ?_
         refine WPL.skipg (b' := false) rfl rfl (lb hb4365) rfl rfl ?_
         refine WPL.skipg (b' := false) rfl rfl (lb hb4365) rfl rfl ?_
         refine WPL.q (q_pickF (v := .lit (.bool _)) (lb hb4365) rfl) rfl ?_
         refine WPL.nilW ?_
         have q0 := (Option.some.inj H)
         subst q0
         exact W.wk [0, 1, 2] hnp ⟨rfl, rfl, rfl⟩ ⟨rfl, ⟨⟨⟨trivial, .inr ⟨rfl, rfl, rfl⟩⟩, .inr ⟨rfl, rfl, rfl⟩⟩, .inr ⟨rfl, rfl, rfl⟩⟩, by decide, rfl, trivial⟩ (LeE.upd rfl rfl (LeE.upd rfl rfl (LeE.upd rfl rfl (LeE.upd rfl rfl (LeE.upd rfl rfl (LeE.upd rfl rfl (LeE.upd rfl rfl (LeE.upd rfl rfl (LeE.upd rfl rfl (LeE.upd rfl rfl (LeE.none rfl rfl))))))))))) rfl
       rintro _ _ _ ⟨rfl, rfl, rfl⟩
       refine W.now ?_
       refine Then.n ?_
       refine WP.cond (t := x4364) rfl (fun hb4370 => ?_) (fun hb4370 => ?_)
       · replace H := cnt hb4370 H
         refine WP.skipW ?_
         refine W.now ?_
         refine Then.n ?_
         refine WP.block ?_
         refine WP.seq ?_
         refine WP.region ?_
         refine WPL.q (q_mv (v := .lit (.int _ _)) rfl) rfl ?_
         refine WPL.q (q_mul rfl rfl) rfl ?_
         refine WPL.q (q_mv (v := .lit (.string _)) rfl) rfl ?_
         refine WPL.q (q_mv (v := .lit (.int _ _)) rfl) rfl ?_
         obtain ⟨x4372, h4372, H⟩ := bnd H
         refine WPL.q (q_index_str Tryd.underlying9 rfl rfl h4372) rfl ?_
         refine WPL.q (q_sub rfl rfl) rfl ?_
         obtain ⟨x4373, h4373, H⟩ := bnd H
         refine WPL.q (q_nm (q_conv Tryd.underlying5 Tryd.underlying3 rfl) (nm_int h4373)) rfl ?_
         obtain ⟨x4374, h4374, H⟩ := bnd H
         refine WPL.q (q_nm (q_add rfl rfl) (nm_int h4374)) rfl ?_
         refine WPL.q (q_as (v := .lit (.int _ _)) rfl) rfl ?_
         refine WPL.nilW ?_
         refine W.now ?_
         refine Then.n ?_
         refine WP.seq ?_
         refine WP.region ?_
         refine WPL.q (q_mv (v := .lit (.int _ _)) rfl) rfl ?_
         refine WPL.q (q_add rfl rfl) rfl ?_
         refine WPL.q (q_as (v := .lit (.int _ _)) rfl) rfl ?_
         refine WPL.nilW ?_
         refine W.now ?_
         refine Then.n ?_
         refine WP.seq ?_
         refine WP.region ?_
         refine WPL.q (q_mv (v := .lit (.int _ _)) rfl) rfl ?_
         refine WPL.q (q_mv (v := .lit (.int _ _)) rfl) rfl ?_
         obtain ⟨x4375, h4375, H⟩ := bnd H
         refine WPL.q (q_nm (q_sub rfl rfl) (nm_int h4375)) rfl ?_
         refine WPL.q (q_gtr rfl rfl) rfl ?_
         refine WPL.nilW ?_
         refine W.now ?_
         refine Then.n ?_
         refine WP.cond (t := (decide (3 < x4375))) rfl (fun hb4375 => ?_) (fun hb4375 => ?_)
         · replace H := cnt hb4375 H
           refine WP.seq ?_
           refine WP.region ?_
           refine WPL.q (q_build bu23 rfl) rfl ?_
           refine WPL.s (s_store sz23 rfl rfl rfl rfl rfl) ?_
           refine WPL.q (q_as (v := .lit (.int _ _)) rfl) rfl ?_
           refine WPL.nilW ?_
           refine W.now ?_
           refine Then.n ?_
           refine WP.retW ?_
           have q0 := Option.some.inj H
           subst q0
           exact W.wk [0] hnp (InBlock.r (Then.r ⟨rfl, rfl, rfl⟩)) ⟨rfl, ⟨trivial, .inr ⟨rfl, rfl, rfl⟩⟩, by decide, rfl, trivial⟩ (LeE.upd rfl rfl (LeE.upd rfl rfl (LeE.none rfl rfl))) rfl
         replace H := cnf hb4375 H
         refine WP.skipW ?_
         exact W.wk [0, 1, 2] hnp (InBlock.n (Then.n ⟨n, ((IntKind.wrap .i64 (x4311 + 1)), x4374), Nat.lt_succ_self n, H, rfl, rfl⟩)) ⟨rfl, ⟨⟨⟨trivial, .inr ⟨rfl, rfl, rfl⟩⟩, .inr ⟨rfl, rfl, rfl⟩⟩, .inr ⟨rfl, rfl, rfl⟩⟩, by decide, rfl, trivial⟩ (LeE.upd rfl rfl (LeE.upd rfl rfl (LeE.upd rfl rfl (LeE.upd rfl rfl (LeE.upd rfl rfl (LeE.upd rfl rfl (LeE.upd rfl rfl (LeE.upd rfl rfl (LeE.upd rfl rfl (LeE.none rfl rfl)))))))))) rfl
       replace H := cnf hb4370 H
       refine WP.exitW ?_
       have q0 := Option.some.inj H
       subst q0
       exact W.wk [0, 1, 2] hnp (Then.x (Then.x ⟨rfl, rfl, rfl⟩)) ⟨rfl, ⟨⟨⟨trivial, .inr ⟨rfl, rfl, rfl⟩⟩, .inr ⟨rfl, rfl, rfl⟩⟩, .inr ⟨rfl, rfl, rfl⟩⟩, by decide, rfl, trivial⟩ (LeE.upd rfl rfl (LeE.upd rfl rfl (LeE.upd rfl rfl (LeE.upd rfl rfl (LeE.upd rfl rfl (LeE.upd rfl rfl (LeE.upd rfl rfl (LeE.upd rfl rfl (LeE.upd rfl rfl (LeE.none rfl rfl)))))))))) rfl
     rcases y4378 with _ | ⟨x4344, x4345⟩
     · rintro _ _ _ ⟨rfl, rfl, rfl⟩
       have q0 := Option.some.inj H
       subst q0
       exact W.wk [0] hnp (InBlock.r (Then.r ⟨rfl, rfl, rfl⟩)) ⟨rfl, ⟨trivial, .inr ⟨rfl, rfl, rfl⟩⟩, by decide, rfl, trivial⟩ (LeE.upd rfl rfl (LeE.upd rfl rfl (LeE.none rfl rfl))) rfl
     rintro _ _ _ ⟨rfl, rfl, rfl⟩
     refine W.now ?_
     refine InBlock.x0 ?_
     refine Then.n ?_
     refine WP.seq ?_
     refine WP.seq ?_
     refine WP.region ?_
     refine WPL.q (q_mv (v := .lit (.int _ _)) rfl) rfl ?_
     refine WPL.q (q_mv (v := .lit (.int _ _)) rfl) rfl ?_
     refine WPL.q (q_eql rfl rfl) rfl ?_
     refine WPL.nilW ?_
     refine W.now ?_
     refine Then.n ?_
     refine WP.cond (t := (decide (x4344 = x4264))) rfl (fun hb4379 => ?_) (fun hb4379 => ?_)
     · replace H := cnt hb4379 H
       refine WP.seq ?_
       refine WP.region ?_
       refine WPL.q (q_build bu23 rfl) rfl ?_
       refine WPL.s (s_store sz23 rfl rfl rfl rfl rfl) ?_
       refine WPL.q (q_as (v := .lit (.int _ _)) rfl) rfl ?_
       refine WPL.nilW ?_
       refine W.now ?_
       refine Then.n ?_
       refine WP.retW ?_
       have q0 := Option.some.inj H
       subst q0
       exact W.wk [0] hnp (Then.r ⟨rfl, rfl, rfl⟩) ⟨rfl, ⟨trivial, .inr ⟨rfl, rfl, rfl⟩⟩, by decide, rfl, trivial⟩ (LeE.upd rfl rfl (LeE.upd rfl rfl (LeE.none rfl rfl))) rfl
     replace H := cnf hb4379 H
     refine WP.skipW ?_
     refine W.now ?_
     refine Then.n ?_
     refine WP.seq ?_
     obtain ⟨x4382, H4383, H⟩ := bnd H
     refine WP.monoW (Q := fun x E M => x = .normal ∧ E = (((((((Env.none.upd 0 (.lit (.string x2105))).upd 2 (.ptr 0 0)).upd 4 (.ptr 1 0)).upd 5 (.lit (.int .i64 x4344))).upd 6 (.lit (.bool x3782))).upd 7 (.whole 2)).upd 10 (.lit (.int .i64 x4382))) ∧ M = (((Mem.nil.push (.cells 23 [.lit (.int .i64 0), .lit (.int .i64 0)])).push (.cells 54 [.lit (.bool false), .lit (.slice none 0 0), .lit (.int .i64 x3992)])).push (.row 3 (Rd.int .i64) x3993))) ?_ ?_
     · clear H
       have H := H4383
       clear H4383
       refine WP.seq ?_
       refine WP.region ?_
       refine WPL.q (q_mv (v := .lit (.bool _)) rfl) rfl ?_
       refine WPL.nilW ?_
       refine W.now ?_
       refine Then.n ?_
       refine WP.cond (t := x4245) rfl (fun hb4382 => ?_) (fun hb4382 => ?_)
       · replace H := cnt hb4382 H
         refine WP.region ?_
         refine WPL.q (q_mv (v := .lit (.int _ _)) rfl) rfl ?_
         refine WPL.q (q_neg rfl) rfl ?_
         refine WPL.q (q_as (v := .lit (.int _ _)) rfl) rfl ?_
         refine WPL.nilW ?_
         have q0 := (Option.some.inj H)
         subst q0
         exact W.wk [0, 1, 2] hnp ⟨rfl, rfl, rfl⟩ ⟨rfl, ⟨⟨⟨trivial, .inr ⟨rfl, rfl, rfl⟩⟩, .inr ⟨rfl, rfl, rfl⟩⟩, .inr ⟨rfl, rfl, rfl⟩⟩, by decide, rfl, trivial⟩ (LeE.upd rfl rfl (LeE.upd rfl rfl (LeE.upd rfl rfl (LeE.upd rfl rfl (LeE.upd rfl rfl (LeE.upd rfl rfl (LeE.upd rfl rfl (LeE.none rfl rfl)))))))) rfl
       replace H := cnf hb4382 H
       refine WP.skipW ?_
       have q0 := (Option.some.inj H)
       subst q0
       exact W.wk [0, 1, 2] hnp ⟨rfl, rfl, rfl⟩ ⟨rfl, ⟨⟨⟨trivial, .inr ⟨rfl, rfl, rfl⟩⟩, .inr ⟨rfl, rfl, rfl⟩⟩, .inr ⟨rfl, rfl, rfl⟩⟩, by decide, rfl, trivial⟩ (LeE.upd rfl rfl (LeE.upd rfl rfl (LeE.upd rfl rfl (LeE.upd rfl rfl (LeE.upd rfl rfl (LeE.upd rfl rfl (LeE.upd rfl rfl (LeE.none rfl rfl)))))))) rfl
     rintro _ _ _ ⟨rfl, rfl, rfl⟩
     refine W.now ?_
     refine Then.n ?_
     refine WP.region ?_
     refine WPL.q (q_fieldAddr fi54_1 rfl rfl) rfl ?_
     refine WPL.q (q_load sc3 rfl rfl rfl) rfl ?_
     refine WPL.q (q_mv (v := .lit (.int _ _)) rfl) rfl ?_
     refine WPL.q (q_add rfl rfl) rfl ?_
     refine WPL.q (q_fieldAddr fi54_1 rfl rfl) rfl ?_
     refine WPL.s (s_store sz3 rfl rfl rfl rfl rfl) ?_
     refine WPL.nilW ?_
     have q0 := Option.some.inj H
     subst q0
     exact W.wk [0, 1, 2] hnp ⟨rfl, rfl, rfl⟩ ⟨rfl, ⟨⟨⟨trivial, .inr ⟨rfl, rfl, rfl⟩⟩, .inr ⟨rfl, rfl, rfl⟩⟩, .inr ⟨rfl, rfl, rfl⟩⟩, by decide, rfl, trivial⟩ (LeE.upd rfl rfl (LeE.upd rfl rfl (LeE.upd rfl rfl (LeE.upd rfl rfl (LeE.upd rfl rfl (LeE.upd rfl rfl (LeE.none rfl rfl))))))) rfl
   replace H := cnf hb4240 H
   refine WP.skipW ?_
   have q0 := Option.some.inj H
   subst q0
   exact W.wk [0, 1, 2] hnp ⟨rfl, rfl, rfl⟩ ⟨rfl, ⟨⟨⟨trivial, .inr ⟨rfl, rfl, rfl⟩⟩, .inr ⟨rfl, rfl, rfl⟩⟩, .inr ⟨rfl, rfl, rfl⟩⟩, by decide, rfl, trivial⟩ (LeE.upd rfl rfl (LeE.upd rfl rfl (LeE.upd rfl rfl (LeE.upd rfl rfl (LeE.upd rfl rfl (LeE.upd rfl rfl (LeE.none rfl rfl))))))) rfl
 rcases y4386 with _ | ⟨x4227, x4228⟩
 · rintro _ _ _ ⟨rfl, rfl, rfl⟩
   have q0 := (Prod.mk.inj (Option.some.inj H)).1
   have q1 := (Prod.mk.inj (Prod.mk.inj (Option.some.inj H)).2).1
   have q2 := (Prod.mk.inj (Prod.mk.inj (Option.some.inj H)).2).2
   subst q0
   subst q1
   subst q2
   exact W.now (Then.r (BodyR.mkR trivial rfl [0] ⟨rfl, rfl⟩ ⟨rfl, ⟨trivial, .inr ⟨rfl, rfl, rfl⟩⟩, by decide, rfl, trivial⟩ rfl rfl))
 rintro _ _ _ ⟨rfl, rfl, rfl⟩
 refine W.now ?_
 refine Then.n ?_
 refine WP.seq ?_
 refine WP.seq ?_
 refine WP.region ?_
 refine WPL.q (q_mv (v := .lit (.int _ _)) rfl) rfl ?_
 refine WPL.q (q_mv (v := .lit (.string _)) rfl) rfl ?_
 refine WPL.q (q_len_str Tryd.underlying9 rfl) rfl ?_
 obtain ⟨x4389, h4389, H⟩ := bnd H
 refine WPL.q (q_nm (q_lss rfl rfl) (nm_bool h4389)) rfl ?_
 refine WPL.nilW ?_
 refine W.now ?_
 refine Then.n ?_
 refine WP.cond (t := x4389) rfl (fun hb4389 => ?_) (fun hb4389 => ?_)
 · replace H := cnt hb4389 H
   refine WP.seq ?_
   refine WP.region ?_
   refine WPL.q (q_build bu23 rfl) rfl ?_
   refine WPL.s (s_store sz23 rfl rfl rfl rfl rfl) ?_
   refine WPL.q (q_as (v := .lit (.int _ _)) rfl) rfl ?_
   refine WPL.nilW ?_
   refine W.now ?_
   refine Then.n ?_
   refine WP.retW ?_
   have q0 := (Prod.mk.inj (Option.some.inj H)).1
   have q1 := (Prod.mk.inj (Prod.mk.inj (Option.some.inj H)).2).1
   have q2 := (Prod.mk.inj (Prod.mk.inj (Option.some.inj H)).2).2
   subst q0
   subst q1
   subst q2
   exact W.now (Then.r (BodyR.mkR trivial rfl [0] ⟨rfl, rfl⟩ ⟨rfl, ⟨trivial, .inr ⟨rfl, rfl, rfl⟩⟩, by decide, rfl, trivial⟩ rfl rfl))
 replace H := cnf hb4389 H
 refine WP.skipW ?_
 refine W.now ?_
 refine Then.n ?_
 refine WP.seq ?_
 refine WP.seq ?_
 refine WP.region ?_
 refine WPL.q (q_mv (v := .whole _) rfl) rfl ?_
 refine WPL.q (q_len_row sl50 rfl rfl) rfl ?_
 obtain ⟨x4391, h4391, H⟩ := bnd H
 refine WPL.q (q_nm (q_sub rfl rfl) (nm_int h4391)) rfl ?_
 refine WPL.q (q_as (v := .lit (.int _ _)) rfl) rfl ?_
 refine WPL.nilW ?_
 refine W.now ?_
 refine Then.n ?_
 refine WP.block ?_
 refine WP.cv (Cv.virC 3 (Rd.int .i64) (N := 3) rfl rfl (i := 1) (off := 1) rfl rfl) ?_
 refine WP.cv (Cv.weak (E' := (((((Env.none.upd 2 (.ptr 0 0)).upd 4 (.ptr 1 0)).upd 6 (.lit (.bool x3782))).upd 7 (.whole 3)).upd 11 (.lit (.int .i64 x4391)))) (M' := ((((Mem.nil.push (.cells 23 [.lit (.int .i64 0), .lit (.int .i64 0)])).push (.cells 54 [.lit (.bool false), .whole 2, .lit (.int .i64 x4228)])).push (.row 3 (Rd.int .i64) ([] : List Int))).push (.row 3 (Rd.int .i64) x3993))) [0, 1, 3, 2] hnp ⟨rfl, ⟨⟨⟨⟨trivial, .inr ⟨rfl, rfl, rfl⟩⟩, .inr ⟨rfl, rfl, rfl⟩⟩, .inr ⟨rfl, rfl, rfl⟩⟩, .inr ⟨rfl, rfl, rfl⟩⟩, by decide, rfl, trivial⟩ (LeE.upd rfl rfl (LeE.upd rfl rfl (LeE.upd rfl rfl (LeE.upd rfl rfl (LeE.upd rfl rfl (LeE.none rfl rfl))))))) ?_
 obtain ⟨x4424, H4434, H⟩ := bnd H
 refine WP.monoW (Q := fun x E M => x = .exit 6 ∧ E = (((Env.none.upd 2 (.ptr 0 0)).upd 4 (.ptr 1 0)).upd 6 (.lit (.bool x3782))) ∧ M = (((Mem.nil.push (.cells 23 [.lit (.int .i64 0), .lit (.int .i64 0)])).push (.cells 54 [.lit (.bool false), .whole 2, .lit (.int .i64 x4228)])).push (.row 3 (Rd.int .i64) x4424))) ?_ ?_
 · refine WP.loop (β := Int × (List Int)) (fun n b => g_quireref09_Parse_l3 k x3993 n b.1 b.2 = some x4424) (fun b => (((((Env.none.upd 2 (.ptr 0 0)).upd 4 (.ptr 1 0)).upd 6 (.lit (.bool x3782))).upd 7 (.whole 3)).upd 11 (.lit (.int .i64 b.1)))) (fun b => ((((Mem.nil.push (.cells 23 [.lit (.int .i64 0), .lit (.int .i64 0)])).push (.cells 54 [.lit (.bool false), .whole 2, .lit (.int .i64 x4228)])).push (.row 3 (Rd.int .i64) b.2)).push (.row 3 (Rd.int .i64) x3993))) k (x4391, ([] : List Int)) H4434 rfl rfl ?_
   rintro n ⟨x4412, x4413⟩ H
   obtain _ | n := n
   · exact nf rfl H
   rw [g_quireref09_Parse_l3.eq_2] at H
   show WP _ _ _ _ (((((Env.none.upd 2 (.ptr 0 0)).upd 4 (.ptr 1 0)).upd 6 (.lit (.bool x3782))).upd 7 (.whole 3)).upd 11 (.lit (.int .i64 x4412))) ((((Mem.nil.push (.cells 23 [.lit (.int .i64 0), .lit (.int .i64 0)])).push (.cells 54 [.lit (.bool false), .whole 2, .lit (.int .i64 x4228)])).push (.row 3 (Rd.int .i64) x4413)).push (.row 3 (Rd.int .i64) x3993)) _
   refine WP.seq ?_
   refine WP.seq ?_
   refine WP.region ?_
   refine WPL.q (q_mv (v := .lit (.int _ _)) rfl) rfl ?_
   refine WPL.q (q_geq rfl rfl) rfl ?_
   refine WPL.nilW ?_
   refine W.now ?_
   refine Then.n ?_
   refine WP.cond (t := (decide (0 ≤ x4412))) rfl (fun hb4425 => ?_) (fun hb4425 => ?_)
   · replace H := cnt hb4425 H
     refine WP.skipW ?_
     refine W.now ?_
     refine Then.n ?_
     refine WP.seq ?_
     refine WP.block ?_
     refine WP.regionD' 12 [1, 3] [11] mixed rfl ?_
     refine WPD.takeT 0 rfl (by kernel_rfl) (q_fieldAddr fi54_0 rfl rfl) rfl ?_
     refine WPD.takeT 1 rfl (by kernel_rfl) (q_fieldAddr fi52_1 rfl rfl) rfl ?_
     refine WPD.takeT 3 rfl (by kernel_rfl) (q_mv (v := .whole _) rfl) rfl ?_
     refine WPD.takeT 4 rfl (by kernel_rfl) (q_mv (v := .lit (.int _ _)) rfl) rfl ?_
     obtain ⟨x4433, h4433, H⟩ := bnd H
     refine WPD.takeT 5 rfl (by kernel_rfl) (q_index_row sl50 rfl rfl rfl (ixs h4433)) rfl ?_
     refine WPD.take 2 rfl (by kernel_rfl) (q_load sc50 rfl rfl rfl) rfl rfl ?_
     refine WPD.take 6 rfl (by kernel_rfl) (q_load_row (j := (Int.toNat x4412)) sc3 rfl rfl (ixj h4433)) rfl rfl ?_
     refine WPD.eff 7 [1, 3] [11] rfl (by kernel_rfl) (Does.runs (d_buildSlice (ds := ([x4433] : List Int)) (R := (Rd.int .i64)) li50 rfl rfl rfl rfl rfl (JoinRows.cons1 Joins.sc rfl JoinRows.nil) rfl rfl)) rfl rfl ?_
     obtain ⟨h4433, H⟩ := grd H
     refine WPD.eff 8 [1, 3] [11] rfl (by kernel_rfl) (Does.runs (d_append ap50 rfl rfl rfl rfl (src_row sl50 rfl rfl) h4433 rfl)) rfl rfl ?_
     refine WPD.takeT 9 rfl (by kernel_rfl) (q_fieldAddr fi54_0 rfl rfl) rfl ?_
     refine WPD.takeT 10 rfl (by kernel_rfl) (q_fieldAddr fi52_1 rfl rfl) rfl ?_
     refine WPD.effS 11 [] [] rfl (by kernel_rfl) (s_store sz50 rfl rfl rfl rfl rfl) rfl ?_
     refine WPD.doneW (by kernel_rfl) ?_
     refine W.now ?_
     refine InBlock.n ?_
     refine Then.n ?_
     refine WP.region ?_
     refine WPL.q (q_mv (v := .lit (.int _ _)) rfl) rfl ?_
     refine WPL.q (q_sub rfl rfl) rfl ?_
     refine WPL.q (q_as (v := .lit (.int _ _)) rfl) rfl ?_
     refine WPL.nilW ?_
     exact W.wk [0, 1, 5, 3] hnp (Then.n ⟨n, ((IntKind.wrap .i64 (x4412 - 1)), (x4413 ++ ([x4433] : List Int))), Nat.lt_succ_self n, H, rfl, rfl⟩) ⟨rfl, ⟨⟨⟨⟨trivial, .inr ⟨rfl, rfl, rfl⟩⟩, .inr ⟨rfl, rfl, rfl⟩⟩, .inr ⟨rfl, rfl, rfl⟩⟩, .inr ⟨rfl, rfl, rfl⟩⟩, by decide, rfl, trivial⟩ (LeE.upd rfl rfl (LeE.upd rfl rfl (LeE.upd rfl rfl (LeE.upd rfl rfl (LeE.upd rfl rfl (LeE.none rfl rfl)))))) rfl
   replace H := cnf hb4425 H
   refine WP.exitW ?_
   have q0 := (Option.some.inj H)
   subst q0
   exact W.wk [0, 1, 2] hnp (Then.x (Then.x ⟨rfl, rfl, rfl⟩)) ⟨rfl, ⟨⟨⟨trivial, .inr ⟨rfl, rfl, rfl⟩⟩, .inr ⟨rfl, rfl, rfl⟩⟩, .inr ⟨rfl, rfl, rfl⟩⟩, by decide, rfl, trivial⟩ (LeE.upd rfl rfl (LeE.upd rfl rfl (LeE.upd rfl rfl (LeE.none rfl rfl)))) rfl
 rintro _ _ _ ⟨rfl, rfl, rfl⟩
 refine W.now ?_
 refine InBlock.x0 ?_
 refine Then.n ?_
 refine WP.seq ?_
 refine WP.region ?_
 refine WPL.q (q_mv (v := .lit (.bool _)) rfl) rfl ?_
 refine WPL.q (q_fieldAddr fi54_0 rfl rfl) rfl ?_
 refine WPL.q (q_fieldAddr fi52_0 rfl rfl) rfl ?_
 refine WPL.s (s_store sz4 rfl rfl rfl rfl rfl) ?_
 refine WPL.nilW ?_
 refine W.now ?_
 refine Then.n ?_
 refine WP.seq ?_
 refine WP.region ?_
 refine WPL.q (q_fieldAddr fi54_0 rfl rfl) rfl ?_
 refine WPL.q (q_load_ag ag52 rfl rfl (Nat.le_of_ble_eq_true rfl)) rfl ?_
 obtain ⟨⟨x4437, x4438⟩, h4435, H⟩ := bnd H
 refine WPL.c (runs_call (s := [2]) (t := [3]) (N := 4) (bor := []) fn20 rfl (s_quireref09_trim k x3782 x4424 x4437 x4438 h4435) ⟨rfl, ⟨trivial, .inr ⟨rfl, rfl, rfl⟩⟩, by decide, rfl, trivial⟩ rfl trivial (.ren rfl rfl .nil) rfl ⟨trivial, rfl⟩ rfl) rfl ?_
 refine WPL.q (q_fieldAddr fi54_0 rfl rfl) rfl ?_
 refine WPL.s (s_store sz52 rfl rfl rfl rfl rfl) ?_
 refine WPL.nilW ?_
 refine W.now ?_
 refine Then.n ?_
 refine WP.seq ?_
 refine WP.region ?_
 refine WPL.q (q_load_ag ag54 rfl rfl (Nat.le_of_ble_eq_true rfl)) rfl ?_
 obtain ⟨⟨x4440, x4441, x4442⟩, h4438, H⟩ := bnd H
 refine WPL.c (runs_call (s := []) (t := [4]) (N := 5) (bor := []) fn21 rfl (s_quireref09_Tell k x4437 x4438 x4228 x4440 x4441 x4442 h4438) ⟨rfl, trivial, by decide, rfl, trivial⟩ rfl trivial (.ren rfl rfl .nil) rfl ⟨trivial, rfl⟩ rfl) rfl ?_
 refine WPL.q (q_extract rfl rfl) rfl ?_
 refine WPL.q (q_extract rfl rfl) rfl ?_
 refine WPL.s (s_store sz23 rfl rfl rfl rfl rfl) ?_
 refine WPL.q (q_as (v := .lit (.int _ _)) rfl) rfl ?_
 refine WPL.nilW ?_
 refine W.now ?_
 refine Then.n ?_
 refine WP.retW ?_
 have q0 := (Prod.mk.inj (Option.some.inj H)).1
 have q1 := (Prod.mk.inj (Prod.mk.inj (Option.some.inj H)).2).1
 have q2 := (Prod.mk.inj (Prod.mk.inj (Option.some.inj H)).2).2
 subst q0
 subst q1
 subst q2
 exact W.now (BodyR.mkR trivial rfl [0] ⟨rfl, rfl⟩ ⟨rfl, ⟨trivial, .inr ⟨rfl, rfl, rfl⟩⟩, by decide, rfl, trivial⟩ rfl rfl)
end Go.Proofs.YtdbeblgfccjbgaaDoor.W
namespace Go.Proofs.YtdbeblgfccjbgaaDoor.W
open Go Go.Q Go.Proofs
set_option linter.unusedVariables false
set_option linter.unusedSimpArgs false
set_option maxRecDepth 100000 in
set_option maxHeartbeats 4000000 in
theorem s_dec_ranged (k : Nat) (x4459 : (List S_api_Dec)) (x4494 : Bool) (H : g_dec_ranged k x4459 = some x4494) : Go.Q.Spec Tryd.prog 47 0 [.ro (Rd.slice rdS_api_Dec) true x4459] Mem.nil (fun o M => o = .ret (.lit (.bool x4494)) ∧ M = Mem.nil) := by
 unfold g_dec_ranged at H
 refine Go.Q.Spec.of_bodyR (az := []) (rs := [.tmp 2]) (nt := 20) Tryd.func47 rfl rfl (by intro t T h; simp at h) rfl rfl fun cx hnp => ?_
 refine WP.seq ?_
 refine WP.region ?_
 refine WPL.q (q_as (v := .lit (.bool _)) rfl) rfl ?_
 refine WPL.nilW ?_
 refine W.now ?_
 refine Then.n ?_
 refine WP.seq ?_
 refine WP.seq ?_
 refine WP.region ?_
 refine WPL.q (q_mv (v := .ro _ _ _) rfl) rfl ?_
 refine WPL.q (q_len_ro sl113 rfl) rfl ?_
 refine WPL.q (q_mv (v := .lit (.int _ _)) rfl) rfl ?_
 refine WPL.nilW ?_
 refine W.now ?_
 refine Then.n ?_
 refine WP.block ?_
 refine WP.cv (Cv.weak (E' := (((Env.none.upd 5 (.ro (Rd.slice rdS_api_Dec) true x4459)).upd 6 (.lit (.int .i64 ((List.length x4459 : Nat) : Int)))).upd 7 (.lit (.int .i64 0)))) (M' := Mem.nil) [] hnp ⟨rfl, trivial, by decide, rfl, trivial⟩ (LeE.upd rfl rfl (LeE.upd rfl rfl (LeE.upd rfl rfl (LeE.none rfl rfl))))) ?_
 obtain ⟨y4542, H4540, H⟩ := bnd H
 refine WP.monoW (Q := fun x E M => match (generalizing := false) y4542 with | (Sum.inl _) => x = .ret ∧ E = (Env.none.upd 2 (.lit (.bool false))) ∧ M = Mem.nil | (Sum.inr _) => x = .exit 0 ∧ E = Env.none ∧ M = Mem.nil) ?_ ?_
 · refine WP.loop (β := Int) (fun n b => g_dec_ranged_l0 k x4459 n b = some y4542) (fun b => (((Env.none.upd 5 (.ro (Rd.slice rdS_api_Dec) true x4459)).upd 6 (.lit (.int .i64 ((List.length x4459 : Nat) : Int)))).upd 7 (.lit (.int .i64 b)))) (fun b => Mem.nil) k 0 H4540 rfl rfl ?_
   rintro n x4510 H
   obtain _ | n := n
   · exact nf rfl H
   rw [g_dec_ranged_l0.eq_2] at H
   show WP _ _ _ _ (((Env.none.upd 5 (.ro (Rd.slice rdS_api_Dec) true x4459)).upd 6 (.lit (.int .i64 ((List.length x4459 : Nat) : Int)))).upd 7 (.lit (.int .i64 x4510))) Mem.nil _
   refine WP.seq ?_
   refine WP.region ?_
   obtain ⟨x4526, h4526, H⟩ := bnd H
   refine WPL.q (q_nm (q_lss rfl rfl) (nm_bool h4526)) rfl ?_
   refine WPL.nilW ?_
   refine W.now ?_
   refine Then.n ?_
   refine WP.seq ?_
   refine WP.cond (t := x4526) rfl (fun hb4527 => ?_) (fun hb4527 => ?_)
   · replace H := cnt hb4527 H
     refine WP.skipW ?_
     refine W.now ?_
     refine Then.n ?_
     refine WP.seq ?_
     refine WP.block ?_
     refine WP.seq ?_
     refine WP.region ?_
     obtain ⟨x4535, h4535, H⟩ := bnd H
     refine WPL.q (q_index_ro sl113 rfl rfl rfl h4535) rfl ?_
     refine WPL.q (q_load_roag ag23 rfl rfl S_api_Dec.sp) rfl ?_
     refine WPL.d (d_alloc ze23 rfl) rfl ?_
     refine WPL.s (s_store sz23 rfl rfl rfl rfl rfl) ?_
     refine WPL.nilW ?_
     refine W.now ?_
     refine Then.n ?_
     refine WP.seq ?_
     obtain ⟨x4537, H4538, H⟩ := bnd H
     refine WP.monoW (Q := fun x E M => x = .normal ∧ E = ((((Env.none.upd 5 (.ro (Rd.slice rdS_api_Dec) true x4459)).upd 6 (.lit (.int .i64 ((List.length x4459 : Nat) : Int)))).upd 7 (.lit (.int .i64 x4510))).upd 18 (.lit (.bool x4537))) ∧ M = Mem.nil) ?_ ?_
     · clear H
       have H := H4538
       clear H4538
       refine WP.region ?_
       refine WPL.q (q_fieldAddr fi23_1 rfl rfl) rfl ?_
       refine WPL.q (q_load sc3 rfl rfl rfl) rfl ?_
       refine WPL.q (q_lss rfl rfl) rfl ?_
       refine WPL.q (q_mv (v := .lit (.bool _)) rfl) rfl ?_
       refine WPL.split (t := 14) (b := (decide (x4535.fE < (-18)))) rfl (fun hb4537 => ?_) (fun hb4537 => ?_)
       · replace H := cnt hb4537 H
         refine WPL.skipg (b' := true) rfl rfl (lb hb4537) rfl rfl ?_
         refine WPL.skipg (b' := true) rfl rfl (lb hb4537) rfl rfl ?_
         refine WPL.skipg (b' := true) rfl rfl (lb hb4537) rfl rfl ?_
         refine WPL.q (q_pickT (v := .lit (.bool _)) (lb hb4537) rfl) rfl ?_
         refine WPL.nilW ?_
         have q0 := (Option.some.inj H)
         subst q0
         exact W.wk [] hnp ⟨rfl, rfl, rfl⟩ ⟨rfl, trivial, by decide, rfl, trivial⟩ (LeE.upd rfl rfl (LeE.upd rfl rfl (LeE.upd rfl rfl (LeE.upd rfl rfl (LeE.none rfl rfl))))) rfl
       replace H := cnf hb4537 H
       refine WPL.qg rfl rfl (lb hb4537) (q_fieldAddr fi23_1 rfl rfl) rfl ?_
       refine WPL.qg rfl rfl (lb hb4537) (q_load sc3 rfl rfl rfl) rfl ?_
       refine WPL.qg rfl rfl (lb hb4537) (q_gtr rfl rfl) rfl ?_
       refine WPL.q (q_pickF (v := .lit (.bool _)) (lb hb4537) rfl) rfl ?_
       refine WPL.nilW ?_
       have q0 := (Option.some.inj H)
       subst q0
       exact W.wk [] hnp ⟨rfl, rfl, rfl⟩ ⟨rfl, trivial, by decide, rfl, trivial⟩ (LeE.upd rfl rfl (LeE.upd rfl rfl (LeE.upd rfl rfl (LeE.upd rfl rfl (LeE.none rfl rfl))))) rfl
     rintro _ _ _ ⟨rfl, rfl, rfl⟩
     refine W.now ?_
     refine Then.n ?_
     refine WP.cond (t := x4537) rfl (fun hb4539 => ?_) (fun hb4539 => ?_)
     · replace H := cnt hb4539 H
       refine WP.seq ?_
       refine WP.region ?_
       refine WPL.q (q_as (v := .lit (.bool _)) rfl) rfl ?_
       refine WPL.nilW ?_
       refine W.now ?_
       refine Then.n ?_
       refine WP.retW ?_
       have q0 := Option.some.inj H
       subst q0
       exact W.wk [] hnp (InBlock.r (Then.r (Then.r ⟨rfl, rfl, rfl⟩))) ⟨rfl, trivial, by decide, rfl, trivial⟩ (LeE.upd rfl rfl (LeE.none rfl rfl)) rfl
     replace H := cnf hb4539 H
     refine WP.skipW ?_
     refine W.now ?_
     refine InBlock.n ?_
     refine Then.n ?_
     refine WP.region ?_
     refine WPL.q (q_add rfl rfl) rfl ?_
     refine WPL.q (q_mv (v := .lit (.int _ _)) rfl) rfl ?_
     refine WPL.nilW ?_
     exact W.wk [] hnp (Then.n ⟨n, (IntKind.wrap .i64 (x4510 + 1)), Nat.lt_succ_self n, H, rfl, rfl⟩) ⟨rfl, trivial, by decide, rfl, trivial⟩ (LeE.upd rfl rfl (LeE.upd rfl rfl (LeE.upd rfl rfl (LeE.none rfl rfl)))) rfl
   replace H := cnf hb4527 H
   refine WP.exitW ?_
   have q0 := Option.some.inj H
   subst q0
   exact W.wk [] hnp (Then.x (Then.x ⟨rfl, rfl, rfl⟩)) ⟨rfl, trivial, by decide, rfl, trivial⟩ (LeE.none rfl rfl) rfl
 rcases y4542 with _ | _
 · rintro _ _ _ ⟨rfl, rfl, rfl⟩
   have q0 := (Option.some.inj H)
   subst q0
   exact W.now (InBlock.r (Then.r (BodyR.mkR trivial rfl [] ⟨rfl, rfl⟩ ⟨rfl, trivial, by decide, rfl, trivial⟩ rfl rfl)))
 rintro _ _ _ ⟨rfl, rfl, rfl⟩
 refine W.now ?_
 refine InBlock.x0 ?_
 refine Then.n ?_
 refine WP.seq ?_
 refine WP.region ?_
 refine WPL.q (q_as (v := .lit (.bool _)) rfl) rfl ?_
 refine WPL.nilW ?_
 refine W.now ?_
 refine Then.n ?_
 refine WP.retW ?_
 have q0 := (Option.some.inj H)
 subst q0
 exact W.now (BodyR.mkR trivial rfl [] ⟨rfl, rfl⟩ ⟨rfl, trivial, by decide, rfl, trivial⟩ rfl rfl)
set_option maxRecDepth 100000 in
set_option maxHeartbeats 4000000 in
theorem s_dec_size (k : Nat) (x4552 : Int) (x4558 : Int) (H : g_dec_size k x4552 = some x4558) : Go.Q.Spec Tryd.prog 23 0 [.lit (.int .i64 x4552)] Mem.nil (fun o M => o = .ret (.lit (.int .u64 x4558)) ∧ M = Mem.nil) := by
 unfold g_dec_size at H
 refine Go.Q.Spec.of_bodyR (az := []) (rs := [.tmp 2]) (nt := 10) Tryd.func23 rfl rfl (by intro t T h; simp at h) rfl rfl fun cx hnp => ?_
 refine WP.seq ?_
 refine WP.region ?_
 refine WPL.q (q_as (v := .lit (.int _ _)) rfl) rfl ?_
 refine WPL.nilW ?_
 refine W.now ?_
 refine Then.n ?_
 refine WP.seq ?_
 refine WP.seq ?_
 refine WP.region ?_
 refine WPL.q (q_mv (v := .lit (.int _ _)) rfl) rfl ?_
 refine WPL.q (q_lss rfl rfl) rfl ?_
 refine WPL.nilW ?_
 refine W.now ?_
 refine Then.n ?_
 refine WP.cond (t := (decide (x4552 < 0))) rfl (fun hb4560 => ?_) (fun hb4560 => ?_)
 · replace H := cnt hb4560 H
   refine WP.seq ?_
   refine WP.region ?_
   refine WPL.q (q_mv (v := .lit (.int _ _)) rfl) rfl ?_
   refine WPL.q (q_conv Tryd.underlying2 Tryd.underlying41 rfl) rfl ?_
   obtain ⟨x4562, h4562, H⟩ := bnd H
   refine WPL.q (q_nm (q_neg rfl) (nm_int h4562)) rfl ?_
   refine WPL.q (q_as (v := .lit (.int _ _)) rfl) rfl ?_
   refine WPL.nilW ?_
   refine W.now ?_
   refine Then.n ?_
   refine WP.retW ?_
   have q0 := (Option.some.inj H)
   subst q0
   exact W.now (Then.r (BodyR.mkR trivial rfl [] ⟨rfl, rfl⟩ ⟨rfl, trivial, by decide, rfl, trivial⟩ rfl rfl))
 replace H := cnf hb4560 H
 refine WP.skipW ?_
 refine W.now ?_
 refine Then.n ?_
 refine WP.seq ?_
 refine WP.region ?_
 refine WPL.q (q_mv (v := .lit (.int _ _)) rfl) rfl ?_
 refine WPL.q (q_conv Tryd.underlying2 Tryd.underlying41 rfl) rfl ?_
 refine WPL.q (q_as (v := .lit (.int _ _)) rfl) rfl ?_
 refine WPL.nilW ?_
 refine W.now ?_
 refine Then.n ?_
 refine WP.retW ?_
 have q0 := (Option.some.inj H)
 subst q0
 exact W.now (BodyR.mkR trivial rfl [] ⟨rfl, rfl⟩ ⟨rfl, trivial, by decide, rfl, trivial⟩ rfl rfl)
set_option maxRecDepth 100000 in
set_option maxHeartbeats 4000000 in
theorem s_dec_of (k : Nat) (x4549 : Int) (x4550 : Int) (x4567 : Int) (H : g_dec_of k x4549 x4550 = some x4567) : Go.Q.Spec Tryd.prog 48 0 [.agg [.lit (.int .i64 x4549), .lit (.int .i64 x4550)]] Mem.nil (fun o M => o = .ret (.agg [.lit (.bool (decide (x4549 < 0))), .lit (.int .u64 0), .lit (.int .u64 x4567), .lit (.int .i64 x4550)]) ∧ M = (Mem.nil.push (.cells 48 [.lit (.bool (decide (x4549 < 0))), .lit (.int .u64 0), .lit (.int .u64 x4567), .lit (.int .i64 x4550)]))) := by
 unfold g_dec_of at H
 refine Go.Q.Spec.of_bodyR (az := [(48, 4)]) (rs := [.cell 2 48]) (nt := 13) Tryd.func48 rfl rfl (by intro t T h; simp at h; rcases h with ⟨rfl, rfl⟩ <;> first | exact ag48) rfl rfl fun cx hnp => ?_
 refine WP.seq ?_
 refine WP.region ?_
 refine WPL.d (d_box rfl rfl) rfl ?_
 refine WPL.d (d_alloc ze48 rfl) rfl ?_
 refine WPL.nilW ?_
 refine W.now ?_
 refine Then.n ?_
 refine WP.seq ?_
 refine WP.regionD' 11 [0] [] mixed rfl ?_
 refine WPD.takeT 0 rfl (by kernel_rfl) (q_fieldAddr fi23_0 rfl rfl) rfl ?_
 refine WPD.takeT 3 rfl (by kernel_rfl) (q_fieldAddr fi23_0 rfl rfl) rfl ?_
 refine WPD.takeT 7 rfl (by kernel_rfl) (q_fieldAddr fi23_1 rfl rfl) rfl ?_
 refine WPD.take 1 rfl (by kernel_rfl) (q_load sc2 rfl rfl rfl) rfl rfl ?_
 refine WPD.takeT 2 rfl (by kernel_rfl) (q_lss rfl rfl) rfl ?_
 refine WPD.take 4 rfl (by kernel_rfl) (q_load sc2 rfl rfl rfl) rfl rfl ?_
 refine WPD.take 8 rfl (by kernel_rfl) (q_load sc3 rfl rfl rfl) rfl rfl ?_
 obtain ⟨x4571, h4569, H⟩ := bnd H
 refine WPD.eff 5 [0] [] rfl (by kernel_rfl) (runs_call (s := []) (t := []) (N := 2) (bor := []) fn23 rfl (s_dec_size k x4549 x4571 h4569) ⟨rfl, trivial, by decide, rfl, trivial⟩ rfl trivial (.ren rfl rfl .nil) rfl trivial rfl) rfl rfl ?_
 refine WPD.takeT 6 rfl (by kernel_rfl) (q_build bu43 rfl) rfl ?_
 refine WPD.takeT 9 rfl (by kernel_rfl) (q_build bu48 rfl) rfl ?_
 refine WPD.effS 10 [0] [] rfl (by kernel_rfl) (s_store sz48 rfl rfl rfl rfl rfl) rfl ?_
 refine WPD.doneW (by kernel_rfl) ?_
 refine W.now ?_
 refine Then.n ?_
 refine WP.retW ?_
 have q0 := (Option.some.inj H)
 subst q0
 exact W.now (BodyR.mkR trivial rfl [1] ⟨rfl, rfl⟩ ⟨rfl, ⟨trivial, .inr ⟨rfl, rfl, rfl⟩⟩, by decide, rfl, trivial⟩ rfl rfl)
set_option maxRecDepth 100000 in
set_option maxHeartbeats 4000000 in
theorem s_dec_clean__b (k : Nat) (x4456 : Int) (x4457 : Int) (x4590 : Bool) (x4591 : Int) (x4592 : Int) (H : g_dec_clean__b k x4456 x4457 = some (x4590, x4591, x4592)) : Go.Q.Spec Tryd.prog 22 2 [.sl 0 1 0 1] ((Mem.nil.push (.cells 59 [.ptr 1 0])).push (.cells 23 [.lit (.int .i64 x4456), .lit (.int .i64 x4457)])) (fun o M => o = .ret (.lit (.bool x4590)) ∧ M = ((Mem.nil.push (.cells 59 [.ptr 1 0])).push (.cells 23 [.lit (.int .i64 x4591), .lit (.int .i64 x4592)]))) := by
 unfold g_dec_clean__b at H
 refine Go.Q.Spec.of_bodyR (az := []) (rs := [.tmp 2]) (nt := 28) Tryd.func22 rfl rfl (by intro t T h; simp at h) rfl rfl fun cx hnp => ?_
 refine WP.seq ?_
 refine WP.region ?_
 refine WPL.q (q_as (v := .lit (.bool _)) rfl) rfl ?_
 refine WPL.nilW ?_
 refine W.now ?_
 refine Then.n ?_
 refine WP.seq ?_
 refine WP.seq ?_
 refine WP.region ?_
 refine WPL.q (q_mv (v := .sl _ _ _ _) rfl) rfl ?_
 refine WPL.q (q_len_sl (k := 1) sl85 rfl rfl) rfl ?_
 refine WPL.q (q_mv (v := .lit (.int _ _)) rfl) rfl ?_
 refine WPL.nilW ?_
 refine W.now ?_
 refine Then.n ?_
 refine WP.block ?_
 refine WP.loopU ?_
 refine WPI.round ?_
 refine WP.seq ?_
 refine WP.region ?_
 refine WPL.q (q_lss rfl rfl) rfl ?_
 refine WPL.nilW ?_
 refine W.now ?_
 refine Then.n ?_
 refine WP.seq ?_
 refine WP.condT rfl ?_
 refine WP.skipW ?_
 refine W.now ?_
 refine Then.n ?_
 refine WP.seq ?_
 refine WP.block ?_
 refine WP.seq ?_
 refine WP.region ?_
 refine WPL.q (q_index_sl (o := 0) sl85 rfl rfl rfl rfl) rfl ?_
 refine WPL.q (q_load sc59 rfl rfl rfl) rfl ?_
 refine WPL.q (q_as (v := .ptr _ _) rfl) rfl ?_
 refine WPL.nilW ?_
 refine W.now ?_
 refine Then.n ?_
 refine WP.seq ?_
 refine WP.seq ?_
 refine WP.region ?_
 refine WPL.q (q_mv (v := .ptr _ _) rfl) rfl ?_
 refine WPL.q (q_nilCheck rfl) rfl ?_
 refine WPL.q (q_load_ag ag23 rfl rfl (Nat.le_of_ble_eq_true rfl)) rfl ?_
 refine WPL.d (d_buildSlice (ds := ([(⟨x4456, x4457⟩ : S_api_Dec)] : List S_api_Dec)) (R := rdS_api_Dec) li113 rfl rfl rfl rfl rfl (JoinRows.cons (l := [.lit (.int .i64 x4456), .lit (.int .i64 x4457)]) (Joins.via (Joins.cons Joins.sc (Joins.cons Joins.sc Joins.unit))) rfl JoinRows.nil) rfl rfl) rfl ?_
 obtain ⟨x4609, h4607, H⟩ := bnd H
 refine WPL.c (runs_call (s := []) (t := []) (N := 3) (bor := [2]) fn47 rfl (s_dec_ranged k ([(⟨x4456, x4457⟩ : S_api_Dec)] : List S_api_Dec) x4609 h4607) ⟨rfl, trivial, by decide, rfl, trivial⟩ rfl ⟨trivial, rfl, rfl, trivial⟩ (.row rfl rfl .nil) rfl trivial rfl) rfl ?_
 refine WPL.q (q_not rfl) rfl ?_
 refine WPL.nilW ?_
 refine W.now ?_
 refine Then.n ?_
 refine WP.cond (t := (!x4609)) rfl (fun hb4609 => ?_) (fun hb4609 => ?_)
 · replace H := cnt hb4609 H
   refine WP.seq ?_
   refine WP.region ?_
   refine WPL.q (q_as (v := .lit (.bool _)) rfl) rfl ?_
   refine WPL.nilW ?_
   refine W.now ?_
   refine Then.n ?_
   refine WP.retW ?_
   have q0 := (Prod.mk.inj (Option.some.inj H)).1
   have q1 := (Prod.mk.inj (Prod.mk.inj (Option.some.inj H)).2).1
   have q2 := (Prod.mk.inj (Prod.mk.inj (Option.some.inj H)).2).2
   subst q0
   subst q1
   subst q2
   exact W.now (Then.r (InBlock.r (Then.r (Then.r (InBlock.r (Then.r (BodyR.mkR trivial rfl [0, 1] ⟨rfl, rfl⟩ ⟨rfl, ⟨⟨trivial, .inr ⟨rfl, rfl, rfl⟩⟩, .inr ⟨rfl, rfl, rfl⟩⟩, by decide, rfl, ⟨⟨trivial, rfl⟩, rfl⟩⟩ rfl rfl)))))))
 replace H := cnf hb4609 H
 refine WP.skipW ?_
 refine W.now ?_
 refine Then.n ?_
 refine WP.region ?_
 refine WPL.q (q_mv (v := .ptr _ _) rfl) rfl ?_
 refine WPL.q (q_mv (v := .ptr _ _) rfl) rfl ?_
 refine WPL.q (q_nilCheck rfl) rfl ?_
 refine WPL.q (q_load_ag ag23 rfl rfl (Nat.le_of_ble_eq_true rfl)) rfl ?_
 obtain ⟨x4612, h4610, H⟩ := bnd H
 refine WPL.c (runs_call (s := []) (t := [3]) (N := 4) (bor := []) fn48 rfl (s_dec_of k x4456 x4457 x4612 h4610) ⟨rfl, trivial, by decide, rfl, trivial⟩ rfl trivial (.ren rfl rfl .nil) rfl ⟨trivial, rfl⟩ rfl) rfl ?_
 obtain ⟨⟨x4614, x4615, x4616⟩, h4612, H⟩ := bnd H
 refine WPL.c (runs_call (s := []) (t := [4]) (N := 5) (bor := []) fn18 rfl (s_dec_num_tell k (decide (x4456 < 0)) 0 x4612 x4457 x4614 x4615 x4616 h4612) ⟨rfl, trivial, by decide, rfl, trivial⟩ rfl trivial (.ren rfl rfl .nil) rfl ⟨trivial, rfl⟩ rfl) rfl ?_
 refine WPL.q (q_mv (v := .tup _) rfl) rfl ?_
 refine WPL.q (q_extract rfl rfl) rfl ?_
 refine WPL.q (q_extract rfl rfl) rfl ?_
 refine WPL.q (q_nilCheck rfl) rfl ?_
 refine WPL.s (s_store sz23 rfl rfl rfl rfl rfl) ?_
 refine WPL.nilW ?_
 refine W.now ?_
 refine InBlock.n ?_
 refine Then.n ?_
 refine WP.region ?_
 refine WPL.q (q_nm (q_add rfl rfl) (fold_int (b := 1) (by decide))) rfl ?_
 refine WPL.q (q_mv (v := .lit (.int _ _)) rfl) rfl ?_
 refine WPL.nilW ?_
 refine W.now ?_
 refine Then.n ?_
 refine WPI.round ?_
 refine WP.seq ?_
 refine WP.region ?_
 refine WPL.q (q_lss rfl rfl) rfl ?_
 refine WPL.nilW ?_
 refine W.now ?_
 refine Then.n ?_
 refine WP.seq ?_
 refine WP.condF rfl ?_
 refine WP.exitW ?_
 refine W.now ?_
 refine Then.x ?_
 refine Then.x ?_
 refine InBlock.x0 ?_
 refine Then.n ?_
 refine WP.seq ?_
 refine WP.region ?_
 refine WPL.q (q_as (v := .lit (.bool _)) rfl) rfl ?_
 refine WPL.nilW ?_
 refine W.now ?_
 refine Then.n ?_
 refine WP.retW ?_
 have q0 := (Prod.mk.inj (Option.some.inj H)).1
 have q1 := (Prod.mk.inj (Prod.mk.inj (Option.some.inj H)).2).1
 have q2 := (Prod.mk.inj (Prod.mk.inj (Option.some.inj H)).2).2
 subst q0
 subst q1
 subst q2
 exact W.now (BodyR.mkR trivial rfl [0, 1] ⟨rfl, rfl⟩ ⟨rfl, ⟨⟨trivial, .inr ⟨rfl, rfl, rfl⟩⟩, .inr ⟨rfl, rfl, rfl⟩⟩, by decide, rfl, ⟨⟨trivial, rfl⟩, rfl⟩⟩ rfl rfl)
set_option maxRecDepth 100000 in
set_option maxHeartbeats 4000000 in
theorem s_math_bits_Mul (k : Nat) (x4654 : Int) (x4655 : Int) (x4659 : Int) (H : g_math_bits_Mul k x4654 x4655 = some x4659) : Go.Q.Spec Tryd.prog 49 0 [.lit (.int .u64 x4654), .lit (.int .u64 x4655)] Mem.nil (fun o M => o = .ret (.tup [.lit (.int .u64 x4659), .lit (.int .u64 (IntKind.wrap .u64 (x4654 * x4655)))]) ∧ M = Mem.nil) := by
 unfold g_math_bits_Mul at H
 refine Go.Q.Spec.of_bodyR (az := []) (rs := [.tmp 4, .tmp 5]) (nt := 30) Tryd.func49 rfl rfl (by intro t T h; simp at h) rfl rfl fun cx hnp => ?_
 refine WP.seq ?_
 refine WP.region ?_
 refine WPL.q (q_as (v := .lit (.int _ _)) rfl) rfl ?_
 refine WPL.q (q_as (v := .lit (.int _ _)) rfl) rfl ?_
 refine WPL.nilW ?_
 refine W.now ?_
 refine Then.n ?_
 refine WP.seq ?_
 refine WP.condF rfl ?_
 refine WP.skipW ?_
 refine W.now ?_
 refine Then.n ?_
 refine WP.seq ?_
 refine WP.region ?_
 refine WPL.q (q_mv (v := .lit (.int _ _)) rfl) rfl ?_
 refine WPL.q (q_mv (v := .lit (.int _ _)) rfl) rfl ?_
 obtain ⟨x4661, h4659, H⟩ := bnd H
 refine WPL.c (runs_call (s := []) (t := []) (N := 0) (bor := []) fn41 rfl (s_math_bits_Mul64 k x4654 x4655 x4661 h4659) ⟨rfl, trivial, by decide, rfl, trivial⟩ rfl trivial (.ren rfl rfl (.ren rfl rfl .nil)) rfl trivial rfl) rfl ?_
 refine WPL.q (q_mv (v := .tup _) rfl) rfl ?_
 refine WPL.q (q_extract rfl rfl) rfl ?_
 refine WPL.q (q_extract rfl rfl) rfl ?_
 refine WPL.q (q_as (v := .lit (.int _ _)) rfl) rfl ?_
 refine WPL.q (q_as (v := .lit (.int _ _)) rfl) rfl ?_
 refine WPL.nilW ?_
 refine W.now ?_
 refine Then.n ?_
 refine WP.seq ?_
 refine WP.region ?_
 refine WPL.q (q_mv (v := .lit (.int _ _)) rfl) rfl ?_
 refine WPL.q (q_mv (v := .lit (.int _ _)) rfl) rfl ?_
 refine WPL.q (q_as (v := .lit (.int _ _)) rfl) rfl ?_
 refine WPL.q (q_as (v := .lit (.int _ _)) rfl) rfl ?_
 refine WPL.nilW ?_
 refine W.now ?_
 refine Then.n ?_
 refine WP.retW ?_
 have q0 := (Option.some.inj H)
 subst q0
 exact W.now (BodyR.mkR trivial rfl [] ⟨rfl, rfl⟩ ⟨rfl, trivial, by decide, rfl, trivial⟩ rfl rfl)
set_option maxRecDepth 100000 in
set_option maxHeartbeats 4000000 in
theorem s_strings_HasPrefix (k : Nat) (x4696 : ByteArray) (x4697 : ByteArray) (x4701 : Bool) (H : g_strings_HasPrefix k x4696 x4697 = some x4701) : Go.Q.Spec Tryd.prog 50 0 [.lit (.string x4696), .lit (.string x4697)] Mem.nil (fun o M => o = .ret (.lit (.bool x4701)) ∧ M = Mem.nil) := by
 unfold g_strings_HasPrefix at H
 refine Go.Q.Spec.of_bodyR (az := []) (rs := [.tmp 4]) (nt := 8) Tryd.func50 rfl rfl (by intro t T h; simp at h) rfl rfl fun cx hnp => ?_
 refine WP.seq ?_
 refine WP.region ?_
 refine WPL.q (q_as (v := .lit (.bool _)) rfl) rfl ?_
 refine WPL.nilW ?_
 refine W.now ?_
 refine Then.n ?_
 refine WP.seq ?_
 refine WP.region ?_
 refine WPL.q (q_mv (v := .lit (.string _)) rfl) rfl ?_
 refine WPL.q (q_mv (v := .lit (.string _)) rfl) rfl ?_
 obtain ⟨x4703, h4701, H⟩ := bnd H
 refine WPL.c (runs_call (s := []) (t := []) (N := 0) (bor := []) fn69 rfl (s_internal_stringslite_HasPrefix k x4696 x4697 x4703 h4701) ⟨rfl, trivial, by decide, rfl, trivial⟩ rfl trivial (.ren rfl rfl (.ren rfl rfl .nil)) rfl trivial rfl) rfl ?_
 refine WPL.q (q_as (v := .lit (.bool _)) rfl) rfl ?_
 refine WPL.nilW ?_
 refine W.now ?_
 refine Then.n ?_
 refine WP.retW ?_
 have q0 := (Option.some.inj H)
 subst q0
 exact W.now (BodyR.mkR trivial rfl [] ⟨rfl, rfl⟩ ⟨rfl, trivial, by decide, rfl, trivial⟩ rfl rfl)
set_option maxRecDepth 100000 in
set_option maxHeartbeats 4000000 in
theorem s_strings_Repeat (k : Nat) (x4644 : ByteArray) (x4645 : Int) (x4840 : ByteArray) (H : g_strings_Repeat k x4644 x4645 = some x4840) : Go.Q.Spec Tryd.prog 24 0 [.lit (.string x4644), .lit (.int .i64 x4645)] Mem.nil (fun o M => o = .ret (.lit (.string x4840)) ∧ M = Mem.nil) := by
 unfold g_strings_Repeat at H
 refine Go.Q.Spec.of_bodyR (az := []) (rs := [.tmp 4]) (nt := 125) Tryd.func24 rfl rfl (by intro t T h; simp at h) rfl rfl fun cx hnp => ?_
 refine WP.seq ?_
 refine WP.region ?_
 refine WPL.q (q_as (v := .lit (.string _)) rfl) rfl ?_
 refine WPL.nilW ?_
 refine W.now ?_
 refine Then.n ?_
 refine WP.seq ?_
 refine WP.seq ?_
 refine WP.region ?_
 refine WPL.q (q_mv (v := .lit (.int _ _)) rfl) rfl ?_
 refine WPL.nilW ?_
 refine W.now ?_
 refine Then.n ?_
 refine WP.block ?_
 refine WP.seq ?_
 refine WP.region ?_
 refine WPL.q (q_eql rfl rfl) rfl ?_
 refine WPL.q (q_as (v := .lit (.bool _)) rfl) rfl ?_
 refine WPL.nilW ?_
 refine W.now ?_
 refine Then.n ?_
 refine WP.cond (t := (decide (x4645 = 0))) rfl (fun hb4842 => ?_) (fun hb4842 => ?_)
 · replace H := cnt hb4842 H
   refine WP.seq ?_
   refine WP.region ?_
   refine WPL.q (q_as (v := .lit (.string _)) rfl) rfl ?_
   refine WPL.nilW ?_
   refine W.now ?_
   refine Then.n ?_
   refine WP.retW ?_
   have q0 := (Option.some.inj H)
   subst q0
   exact W.now (InBlock.r (Then.r (BodyR.mkR trivial rfl [] ⟨rfl, rfl⟩ ⟨rfl, trivial, by decide, rfl, trivial⟩ rfl rfl)))
 replace H := cnf hb4842 H
 refine WP.seq ?_
 refine WP.region ?_
 refine WPL.q (q_eql rfl rfl) rfl ?_
 refine WPL.q (q_as (v := .lit (.bool _)) rfl) rfl ?_
 refine WPL.nilW ?_
 refine W.now ?_
 refine Then.n ?_
 refine WP.cond (t := (decide (x4645 = 1))) rfl (fun hb4843 => ?_) (fun hb4843 => ?_)
 · replace H := cnt hb4843 H
   refine WP.seq ?_
   refine WP.region ?_
   refine WPL.q (q_mv (v := .lit (.string _)) rfl) rfl ?_
   refine WPL.q (q_as (v := .lit (.string _)) rfl) rfl ?_
   refine WPL.nilW ?_
   refine W.now ?_
   refine Then.n ?_
   refine WP.retW ?_
   have q0 := (Option.some.inj H)
   subst q0
   exact W.now (InBlock.r (Then.r (BodyR.mkR trivial rfl [] ⟨rfl, rfl⟩ ⟨rfl, trivial, by decide, rfl, trivial⟩ rfl rfl)))
 replace H := cnf hb4843 H
 refine WP.skipW ?_
 refine W.now ?_
 refine InBlock.n ?_
 refine Then.n ?_
 refine WP.seq ?_
 refine WP.seq ?_
 refine WP.region ?_
 refine WPL.q (q_mv (v := .lit (.int _ _)) rfl) rfl ?_
 refine WPL.q (q_lss rfl rfl) rfl ?_
 refine WPL.nilW ?_
 refine W.now ?_
 refine Then.n ?_
 refine WP.cond (t := (decide (x4645 < 0))) rfl (fun hb4845 => ?_) (fun hb4845 => ?_)
 · replace H := cnt hb4845 H
   refine WP.region ?_
   refine WPL.q (q_mki cn9) rfl ?_
   exact nf rfl H
 replace H := cnf hb4845 H
 refine WP.skipW ?_
 refine W.now ?_
 refine Then.n ?_
 refine WP.seq ?_
 refine WP.region ?_
 refine WPL.q (q_mv (v := .lit (.string _)) rfl) rfl ?_
 refine WPL.q (q_len_str Tryd.underlying9 rfl) rfl ?_
 obtain ⟨x4847, h4847, H⟩ := bnd H
 refine WPL.q (q_nm (q_conv Tryd.underlying3 Tryd.underlying88 rfl) (nm_int h4847)) rfl ?_
 refine WPL.q (q_mv (v := .lit (.int _ _)) rfl) rfl ?_
 refine WPL.q (q_conv Tryd.underlying3 Tryd.underlying88 rfl) rfl ?_
 obtain ⟨x4849, h4847, H⟩ := bnd H
 refine WPL.c (runs_call (s := []) (t := []) (N := 0) (bor := []) fn49 rfl (s_math_bits_Mul k x4847 (IntKind.wrap .u64 x4645) x4849 h4847) ⟨rfl, trivial, by decide, rfl, trivial⟩ rfl trivial (.ren rfl rfl (.ren rfl rfl .nil)) rfl trivial rfl) rfl ?_
 refine WPL.q (q_mv (v := .tup _) rfl) rfl ?_
 refine WPL.q (q_extract rfl rfl) rfl ?_
 refine WPL.q (q_extract rfl rfl) rfl ?_
 refine WPL.q (q_as (v := .lit (.int _ _)) rfl) rfl ?_
 refine WPL.q (q_as (v := .lit (.int _ _)) rfl) rfl ?_
 refine WPL.nilW ?_
 refine W.now ?_
 refine Then.n ?_
 refine WP.seq ?_
 refine WP.seq ?_
 obtain ⟨x4859, H4861, H⟩ := bnd H
 refine WP.monoW (Q := fun x E M => x = .normal ∧ E = (((Env.none.upd 0 (.lit (.string x4644))).upd 6 (.lit (.int .u64 (IntKind.wrap .u64 (x4847 * (IntKind.wrap .u64 x4645)))))).upd 34 (.lit (.bool x4859))) ∧ M = Mem.nil) ?_ ?_
 · clear H
   have H := H4861
   clear H4861
   refine WP.region ?_
   refine WPL.q (q_mv (v := .lit (.int _ _)) rfl) rfl ?_
   refine WPL.q (q_gtr rfl rfl) rfl ?_
   refine WPL.q (q_mv (v := .lit (.bool _)) rfl) rfl ?_
   refine WPL.split (t := 31) (b := (decide (0 < x4849))) rfl (fun hb4859 => ?_) (fun hb4859 => ?_)
   · replace H := cnt hb4859 H
     refine WPL.skipg (b' := true) rfl rfl (lb hb4859) rfl rfl ?_
     refine WPL.skipg (b' := true) rfl rfl (lb hb4859) rfl rfl ?_
     refine WPL.q (q_pickT (v := .lit (.bool _)) (lb hb4859) rfl) rfl ?_
     refine WPL.nilW ?_
     have q0 := (Option.some.inj H)
     subst q0
     exact W.wk [] hnp ⟨rfl, rfl, rfl⟩ ⟨rfl, trivial, by decide, rfl, trivial⟩ (LeE.upd rfl rfl (LeE.upd rfl rfl (LeE.upd rfl rfl (LeE.none rfl rfl)))) rfl
   replace H := cnf hb4859 H
   refine WPL.qg rfl rfl (lb hb4859) (q_mv (v := .lit (.int _ _)) rfl) rfl ?_
   obtain ⟨x4861, h4861, H⟩ := bnd H
   refine WPL.qg rfl rfl (lb hb4859) (q_nm (q_gtr rfl rfl) (nm_bool h4861)) rfl ?_
   refine WPL.q (q_pickF (v := .lit (.bool _)) (lb hb4859) rfl) rfl ?_
   refine WPL.nilW ?_
   have q0 := (Option.some.inj H)
   subst q0
   exact W.wk [] hnp ⟨rfl, rfl, rfl⟩ ⟨rfl, trivial, by decide, rfl, trivial⟩ (LeE.upd rfl rfl (LeE.upd rfl rfl (LeE.upd rfl rfl (LeE.none rfl rfl)))) rfl
 rintro _ _ _ ⟨rfl, rfl, rfl⟩
 refine W.now ?_
 refine Then.n ?_
 refine WP.cond (t := x4859) rfl (fun hb4862 => ?_) (fun hb4862 => ?_)
 · replace H := cnt hb4862 H
   refine WP.region ?_
   refine WPL.q (q_mki cn9) rfl ?_
   exact nf rfl H
 replace H := cnf hb4862 H
 refine WP.skipW ?_
 refine W.now ?_
 refine Then.n ?_
 refine WP.seq ?_
 refine WP.region ?_
 refine WPL.q (q_mv (v := .lit (.int _ _)) rfl) rfl ?_
 obtain ⟨x4864, h4864, H⟩ := bnd H
 refine WPL.q (q_nm (q_conv Tryd.underlying88 Tryd.underlying3 rfl) (nm_int h4864)) rfl ?_
 refine WPL.q (q_as (v := .lit (.int _ _)) rfl) rfl ?_
 refine WPL.nilW ?_
 refine W.now ?_
 refine Then.n ?_
 refine WP.seq ?_
 refine WP.seq ?_
 refine WP.region ?_
 refine WPL.q (q_mv (v := .lit (.string _)) rfl) rfl ?_
 refine WPL.q (q_len_str Tryd.underlying9 rfl) rfl ?_
 obtain ⟨x4867, h4867, H⟩ := bnd H
 refine WPL.q (q_nm (q_eql rfl rfl) (nm_bool h4867)) rfl ?_
 refine WPL.nilW ?_
 refine W.now ?_
 refine Then.n ?_
 refine WP.cond (t := x4867) rfl (fun hb4867 => ?_) (fun hb4867 => ?_)
 · replace H := cnt hb4867 H
   refine WP.seq ?_
   refine WP.region ?_
   refine WPL.q (q_as (v := .lit (.string _)) rfl) rfl ?_
   refine WPL.nilW ?_
   refine W.now ?_
   refine Then.n ?_
   refine WP.retW ?_
   have q0 := (Option.some.inj H)
   subst q0
   exact W.now (Then.r (BodyR.mkR trivial rfl [] ⟨rfl, rfl⟩ ⟨rfl, trivial, by decide, rfl, trivial⟩ rfl rfl))
 replace H := cnf hb4867 H
 refine WP.skipW ?_
 refine W.now ?_
 refine Then.n ?_
 refine WP.seq ?_
 obtain ⟨y5005, H5003, H⟩ := bnd H
 refine WP.monoW (Q := fun x E M => match (generalizing := false) y5005 with | (Sum.inl x4936) => x = .ret ∧ E = (Env.none.upd 4 (.lit (.string x4936))) ∧ M = Mem.nil | (Sum.inr _) => x = .normal ∧ E = ((Env.none.upd 0 (.lit (.string x4644))).upd 7 (.lit (.int .i64 x4864))) ∧ M = Mem.nil) ?_ ?_
 · clear H
   have H := H5003
   clear H5003
   refine WP.seq ?_
   refine WP.region ?_
   refine WPL.q (q_mv (v := .lit (.string _)) rfl) rfl ?_
   obtain ⟨x4937, h4937, H⟩ := bnd H
   refine WPL.q (q_index_str Tryd.underlying9 rfl rfl h4937) rfl ?_
   refine WPL.nilW ?_
   refine W.now ?_
   refine Then.n ?_
   refine WP.block ?_
   refine WP.seq ?_
   obtain ⟨x4942, H4946, H⟩ := bnd H
   refine WP.monoW (Q := fun x E M => x = .normal ∧ E = (((Env.none.upd 0 (.lit (.string x4644))).upd 7 (.lit (.int .i64 x4864))).upd 43 (.lit (.bool x4942))) ∧ M = Mem.nil) ?_ ?_
   · clear H
     have H := H4946
     clear H4946
     refine WP.seq ?_
     refine WP.region ?_
     refine WPL.q (q_eql rfl rfl) rfl ?_
     refine WPL.q (q_as (v := .lit (.bool _)) rfl) rfl ?_
     refine WPL.nilW ?_
     refine W.now ?_
     refine Then.n ?_
     refine WP.cond (t := (decide (x4937 = 32))) rfl (fun hb4942 => ?_) (fun hb4942 => ?_)
     · replace H := cnt hb4942 H
       refine WP.skipW ?_
       have q0 := (Option.some.inj H)
       subst q0
       exact W.wk [] hnp ⟨rfl, rfl, rfl⟩ ⟨rfl, trivial, by decide, rfl, trivial⟩ (LeE.upd rfl rfl (LeE.upd rfl rfl (LeE.upd rfl rfl (LeE.none rfl rfl)))) rfl
     replace H := cnf hb4942 H
     refine WP.seq ?_
     refine WP.region ?_
     refine WPL.q (q_eql rfl rfl) rfl ?_
     refine WPL.q (q_as (v := .lit (.bool _)) rfl) rfl ?_
     refine WPL.nilW ?_
     refine W.now ?_
     refine Then.n ?_
     refine WP.cond (t := (decide (x4937 = 45))) rfl (fun hb4943 => ?_) (fun hb4943 => ?_)
     · replace H := cnt hb4943 H
       refine WP.skipW ?_
       have q0 := (Option.some.inj H)
       subst q0
       exact W.wk [] hnp ⟨rfl, rfl, rfl⟩ ⟨rfl, trivial, by decide, rfl, trivial⟩ (LeE.upd rfl rfl (LeE.upd rfl rfl (LeE.upd rfl rfl (LeE.none rfl rfl)))) rfl
     replace H := cnf hb4943 H
     refine WP.seq ?_
     refine WP.region ?_
     refine WPL.q (q_eql rfl rfl) rfl ?_
     refine WPL.q (q_as (v := .lit (.bool _)) rfl) rfl ?_
     refine WPL.nilW ?_
     refine W.now ?_
     refine Then.n ?_
     refine WP.cond (t := (decide (x4937 = 48))) rfl (fun hb4944 => ?_) (fun hb4944 => ?_)
     · replace H := cnt hb4944 H
       refine WP.skipW ?_
       have q0 := (Option.some.inj H)
       subst q0
       exact W.wk [] hnp ⟨rfl, rfl, rfl⟩ ⟨rfl, trivial, by decide, rfl, trivial⟩ (LeE.upd rfl rfl (LeE.upd rfl rfl (LeE.upd rfl rfl (LeE.none rfl rfl)))) rfl
     replace H := cnf hb4944 H
     refine WP.seq ?_
     refine WP.region ?_
     refine WPL.q (q_eql rfl rfl) rfl ?_
     refine WPL.q (q_as (v := .lit (.bool _)) rfl) rfl ?_
     refine WPL.nilW ?_
     refine W.now ?_
     refine Then.n ?_
     refine WP.cond (t := (decide (x4937 = 61))) rfl (fun hb4945 => ?_) (fun hb4945 => ?_)
     · replace H := cnt hb4945 H
       refine WP.skipW ?_
       have q0 := (Option.some.inj H)
       subst q0
       exact W.wk [] hnp ⟨rfl, rfl, rfl⟩ ⟨rfl, trivial, by decide, rfl, trivial⟩ (LeE.upd rfl rfl (LeE.upd rfl rfl (LeE.upd rfl rfl (LeE.none rfl rfl)))) rfl
     replace H := cnf hb4945 H
     refine WP.region ?_
     refine WPL.q (q_eql rfl rfl) rfl ?_
     refine WPL.q (q_as (v := .lit (.bool _)) rfl) rfl ?_
     refine WPL.nilW ?_
     have q0 := (Option.some.inj H)
     subst q0
     exact W.wk [] hnp ⟨rfl, rfl, rfl⟩ ⟨rfl, trivial, by decide, rfl, trivial⟩ (LeE.upd rfl rfl (LeE.upd rfl rfl (LeE.upd rfl rfl (LeE.none rfl rfl)))) rfl
   rintro _ _ _ ⟨rfl, rfl, rfl⟩
   refine W.now ?_
   refine Then.n ?_
   refine WP.cond (t := x4942) rfl (fun hb4947 => ?_) (fun hb4947 => ?_)
   · replace H := cnt hb4947 H
     refine WP.block ?_
     refine WP.seq ?_
     obtain ⟨x4952, H4955, H⟩ := bnd H
     refine WP.monoW (Q := fun x E M => x = .normal ∧ E = (((Env.none.upd 0 (.lit (.string x4644))).upd 7 (.lit (.int .i64 x4864))).upd 49 (.lit (.bool x4952))) ∧ M = Mem.nil) ?_ ?_
     · clear H
       have H := H4955
       clear H4955
       refine WP.region ?_
       refine WPL.q (q_mv (v := .lit (.int _ _)) rfl) rfl ?_
       refine WPL.q (q_leq rfl rfl) rfl ?_
       refine WPL.q (q_mv (v := .lit (.bool _)) rfl) rfl ?_
       refine WPL.split (t := 52) (b := (decide (x4864 ≤ 128))) rfl (fun hb4952 => ?_) (fun hb4952 => ?_)
       · replace H := cnt hb4952 H
         refine WPL.qg rfl rfl (lb hb4952) (q_mv (v := .lit (.string _)) rfl) rfl ?_
         obtain ⟨x4955, h4953, H⟩ := bnd H
         refine WPL.cg rfl rfl (lb hb4952) (runs_call (s := []) (t := []) (N := 0) (bor := []) fn50 rfl (s_strings_HasPrefix k (ByteArray.mk #[32, 32, 32, 32, 32, 32, 32, 32, 32, 32, 32, 32, 32, 32, 32, 32, 32, 32, 32, 32, 32, 32, 32, 32, 32, 32, 32, 32, 32, 32, 32, 32, 32, 32, 32, 32, 32, 32, 32, 32, 32, 32, 32, 32, 32, 32, 32, 32, 32, 32, 32, 32, 32, 32, 32, 32, 32, 32, 32, 32, 32, 32, 32, 32, 32, 32, 32, 32, 32, 32, 32, 32, 32, 32, 32, 32, 32, 32, 32, 32, 32, 32, 32, 32, 32, 32, 32, 32, 32, 32, 32, 32, 32, 32, 32, 32, 32, 32, 32, 32, 32, 32, 32, 32, 32, 32, 32, 32, 32, 32, 32, 32, 32, 32, 32, 32, 32, 32, 32, 32, 32, 32, 32, 32, 32, 32, 32, 32]) x4644 x4955 h4953) ⟨rfl, trivial, by decide, rfl, trivial⟩ rfl trivial (.ren rfl rfl (.ren rfl rfl .nil)) rfl trivial rfl) rfl ?_
         refine WPL.q (q_pickT (v := .lit (.bool _)) (lb hb4952) rfl) rfl ?_
         refine WPL.q (q_as (v := .lit (.bool _)) rfl) rfl ?_
         refine WPL.nilW ?_
         have q0 := (Option.some.inj H)
         subst q0
         exact W.wk [] hnp ⟨rfl, rfl, rfl⟩ ⟨rfl, trivial, by decide, rfl, trivial⟩ (LeE.upd rfl rfl (LeE.upd rfl rfl (LeE.upd rfl rfl (LeE.none rfl rfl)))) rfl
       replace H := cnf hb4952 H
       refine WPL.skipg (b' := false) rfl rfl (lb hb4952) rfl rfl ?_
       refine WPL.skipg (b' := false) rfl rfl (lb hb4952) rfl rfl ?_
       refine WPL.q (q_pickF (v := .lit (.bool _)) (lb hb4952) rfl) rfl ?_
       refine WPL.q (q_as (v := .lit (.bool _)) rfl) rfl ?_
       refine WPL.nilW ?_
       have q0 := (Option.some.inj H)
       subst q0
       exact W.wk [] hnp ⟨rfl, rfl, rfl⟩ ⟨rfl, trivial, by decide, rfl, trivial⟩ (LeE.upd rfl rfl (LeE.upd rfl rfl (LeE.upd rfl rfl (LeE.none rfl rfl)))) rfl
     rintro _ _ _ ⟨rfl, rfl, rfl⟩
     refine W.now ?_
     refine Then.n ?_
     refine WP.cond (t := x4952) rfl (fun hb4956 => ?_) (fun hb4956 => ?_)
     · replace H := cnt hb4956 H
       refine WP.seq ?_
       refine WP.region ?_
       refine WPL.q (q_mv (v := .lit (.int _ _)) rfl) rfl ?_
       obtain ⟨h4957, H⟩ := grd H
       obtain ⟨x4959, h4959, H⟩ := bnd H
       refine WPL.q (q_nm (q_slice_str (i := 0) (j := x4864) Tryd.underlying9 rfl rfl ⟨_, rfl⟩ h4957) (nm_str h4959)) rfl ?_
       refine WPL.q (q_as (v := .lit (.string _)) rfl) rfl ?_
       refine WPL.nilW ?_
       refine W.now ?_
       refine Then.n ?_
       refine WP.retW ?_
       have q0 := Option.some.inj H
       subst q0
       exact W.wk [] hnp (InBlock.r (InBlock.r ⟨rfl, rfl, rfl⟩)) ⟨rfl, trivial, by decide, rfl, trivial⟩ (LeE.upd rfl rfl (LeE.none rfl rfl)) rfl
     replace H := cnf hb4956 H
     refine WP.seq ?_
     obtain ⟨x4963, H4966, H⟩ := bnd H
     refine WP.monoW (Q := fun x E M => x = .normal ∧ E = (((Env.none.upd 0 (.lit (.string x4644))).upd 7 (.lit (.int .i64 x4864))).upd 58 (.lit (.bool x4963))) ∧ M = Mem.nil) ?_ ?_
     · clear H
       have H := H4966
       clear H4966
       refine WP.region ?_
       refine WPL.q (q_mv (v := .lit (.int _ _)) rfl) rfl ?_
       refine WPL.q (q_leq rfl rfl) rfl ?_
       refine WPL.q (q_mv (v := .lit (.bool _)) rfl) rfl ?_
       refine WPL.split (t := 61) (b := (decide (x4864 ≤ 128))) rfl (fun hb4963 => ?_) (fun hb4963 => ?_)
       · replace H := cnt hb4963 H
         refine WPL.qg rfl rfl (lb hb4963) (q_mv (v := .lit (.string _)) rfl) rfl ?_
         obtain ⟨x4966, h4964, H⟩ := bnd H
         refine WPL.cg rfl rfl (lb hb4963) (runs_call (s := []) (t := []) (N := 0) (bor := []) fn50 rfl (s_strings_HasPrefix k (ByteArray.mk #[45, 45, 45, 45, 45, 45, 45, 45, 45, 45, 45, 45, 45, 45, 45, 45, 45, 45, 45, 45, 45, 45, 45, 45, 45, 45, 45, 45, 45, 45, 45, 45, 45, 45, 45, 45, 45, 45, 45, 45, 45, 45, 45, 45, 45, 45, 45, 45, 45, 45, 45, 45, 45, 45, 45, 45, 45, 45, 45, 45, 45, 45, 45, 45, 45, 45, 45, 45, 45, 45, 45, 45, 45, 45, 45, 45, 45, 45, 45, 45, 45, 45, 45, 45, 45, 45, 45, 45, 45, 45, 45, 45, 45, 45, 45, 45, 45, 45, 45, 45, 45, 45, 45, 45, 45, 45, 45, 45, 45, 45, 45, 45, 45, 45, 45, 45, 45, 45, 45, 45, 45, 45, 45, 45, 45, 45, 45, 45]) x4644 x4966 h4964) ⟨rfl, trivial, by decide, rfl, trivial⟩ rfl trivial (.ren rfl rfl (.ren rfl rfl .nil)) rfl trivial rfl) rfl ?_
         refine WPL.q (q_pickT (v := .lit (.bool _)) (lb hb4963) rfl) rfl ?_
         refine WPL.q (q_as (v := .lit (.bool _)) rfl) rfl ?_
         refine WPL.nilW ?_
         have q0 := (Option.some.inj H)
         subst q0
         exact W.wk [] hnp ⟨rfl, rfl, rfl⟩ ⟨rfl, trivial, by decide, rfl, trivial⟩ (LeE.upd rfl rfl (LeE.upd rfl rfl (LeE.upd rfl rfl (LeE.none rfl rfl)))) rfl
       replace H := cnf hb4963 H
       refine WPL.skipg (b' := false) rfl rfl (lb hb4963) rfl rfl ?_
       refine WPL.skipg (b' := false) rfl rfl (lb hb4963) rfl rfl ?_
       refine WPL.q (q_pickF (v := .lit (.bool _)) (lb hb4963) rfl) rfl ?_
       refine WPL.q (q_as (v := .lit (.bool _)) rfl) rfl ?_
       refine WPL.nilW ?_
       have q0 := (Option.some.inj H)
       subst q0
       exact W.wk [] hnp ⟨rfl, rfl, rfl⟩ ⟨rfl, trivial, by decide, rfl, trivial⟩ (LeE.upd rfl rfl (LeE.upd rfl rfl (LeE.upd rfl rfl (LeE.none rfl rfl)))) rfl
     rintro _ _ _ ⟨rfl, rfl, rfl⟩
     refine W.now ?_
     refine Then.n ?_
     refine WP.cond (t := x4963) rfl (fun hb4967 => ?_) (fun hb4967 => ?_)
     · replace H := cnt hb4967 H
       refine WP.seq ?_
       refine WP.region ?_
       refine WPL.q (q_mv (v := .lit (.int _ _)) rfl) rfl ?_
       obtain ⟨h4968, H⟩ := grd H
       obtain ⟨x4970, h4970, H⟩ := bnd H
       refine WPL.q (q_nm (q_slice_str (i := 0) (j := x4864) Tryd.underlying9 rfl rfl ⟨_, rfl⟩ h4968) (nm_str h4970)) rfl ?_
       refine WPL.q (q_as (v := .lit (.string _)) rfl) rfl ?_
       refine WPL.nilW ?_
       refine W.now ?_
       refine Then.n ?_
       refine WP.retW ?_
       have q0 := Option.some.inj H
       subst q0
       exact W.wk [] hnp (InBlock.r (InBlock.r ⟨rfl, rfl, rfl⟩)) ⟨rfl, trivial, by decide, rfl, trivial⟩ (LeE.upd rfl rfl (LeE.none rfl rfl)) rfl
     replace H := cnf hb4967 H
     refine WP.seq ?_
     obtain ⟨x4974, H4977, H⟩ := bnd H
     refine WP.monoW (Q := fun x E M => x = .normal ∧ E = (((Env.none.upd 0 (.lit (.string x4644))).upd 7 (.lit (.int .i64 x4864))).upd 67 (.lit (.bool x4974))) ∧ M = Mem.nil) ?_ ?_
     · clear H
       have H := H4977
       clear H4977
       refine WP.region ?_
       refine WPL.q (q_mv (v := .lit (.int _ _)) rfl) rfl ?_
       refine WPL.q (q_leq rfl rfl) rfl ?_
       refine WPL.q (q_mv (v := .lit (.bool _)) rfl) rfl ?_
       refine WPL.split (t := 70) (b := (decide (x4864 ≤ 64))) rfl (fun hb4974 => ?_) (fun hb4974 => ?_)
       · replace H := cnt hb4974 H
         refine WPL.qg rfl rfl (lb hb4974) (q_mv (v := .lit (.string _)) rfl) rfl ?_
         obtain ⟨x4977, h4975, H⟩ := bnd H
         refine WPL.cg rfl rfl (lb hb4974) (runs_call (s := []) (t := []) (N := 0) (bor := []) fn50 rfl (s_strings_HasPrefix k (ByteArray.mk #[48, 48, 48, 48, 48, 48, 48, 48, 48, 48, 48, 48, 48, 48, 48, 48, 48, 48, 48, 48, 48, 48, 48, 48, 48, 48, 48, 48, 48, 48, 48, 48, 48, 48, 48, 48, 48, 48, 48, 48, 48, 48, 48, 48, 48, 48, 48, 48, 48, 48, 48, 48, 48, 48, 48, 48, 48, 48, 48, 48, 48, 48, 48, 48]) x4644 x4977 h4975) ⟨rfl, trivial, by decide, rfl, trivial⟩ rfl trivial (.ren rfl rfl (.ren rfl rfl .nil)) rfl trivial rfl) rfl ?_
         refine WPL.q (q_pickT (v := .lit (.bool _)) (lb hb4974) rfl) rfl ?_
         refine WPL.q (q_as (v := .lit (.bool _)) rfl) rfl ?_
         refine WPL.nilW ?_
         have q0 := (Option.some.inj H)
         subst q0
         exact W.wk [] hnp ⟨rfl, rfl, rfl⟩ ⟨rfl, trivial, by decide, rfl, trivial⟩ (LeE.upd rfl rfl (LeE.upd rfl rfl (LeE.upd rfl rfl (LeE.none rfl rfl)))) rfl
       replace H := cnf hb4974 H
       refine WPL.skipg (b' := false) rfl rfl (lb hb4974) rfl rfl ?_
       refine WPL.skipg (b' := false) rfl rfl (lb hb4974) rfl rfl ?_
       refine WPL.q (q_pickF (v := .lit (.bool _)) (lb hb4974) rfl) rfl ?_
       refine WPL.q (q_as (v := .lit (.bool _)) rfl) rfl ?_
       refine WPL.nilW ?_
       have q0 := (Option.some.inj H)
       subst q0
       exact W.wk [] hnp ⟨rfl, rfl, rfl⟩ ⟨rfl, trivial, by decide, rfl, trivial⟩ (LeE.upd rfl rfl (LeE.upd rfl rfl (LeE.upd rfl rfl (LeE.none rfl rfl)))) rfl
     rintro _ _ _ ⟨rfl, rfl, rfl⟩
     refine W.now ?_
     refine Then.n ?_
     refine WP.cond (t := x4974) rfl (fun hb4978 => ?_) (fun hb4978 => ?_)
     · replace H := cnt hb4978 H
       refine WP.seq ?_
       refine WP.region ?_
       refine WPL.q (q_mv (v := .lit (.int _ _)) rfl) rfl ?_
       obtain ⟨h4979, H⟩ := grd H
       obtain ⟨x4981, h4981, H⟩ := bnd H
       refine WPL.q (q_nm (q_slice_str (i := 0) (j := x4864) Tryd.underlying9 rfl rfl ⟨_, rfl⟩ h4979) (nm_str h4981)) rfl ?_
       refine WPL.q (q_as (v := .lit (.string _)) rfl) rfl ?_
       refine WPL.nilW ?_
       refine W.now ?_
       refine Then.n ?_
       refine WP.retW ?_
       have q0 := Option.some.inj H
       subst q0
       exact W.wk [] hnp (InBlock.r (InBlock.r ⟨rfl, rfl, rfl⟩)) ⟨rfl, trivial, by decide, rfl, trivial⟩ (LeE.upd rfl rfl (LeE.none rfl rfl)) rfl
     replace H := cnf hb4978 H
     refine WP.seq ?_
     obtain ⟨x4985, H4988, H⟩ := bnd H
     refine WP.monoW (Q := fun x E M => x = .normal ∧ E = (((Env.none.upd 0 (.lit (.string x4644))).upd 7 (.lit (.int .i64 x4864))).upd 76 (.lit (.bool x4985))) ∧ M = Mem.nil) ?_ ?_
     · clear H
       have H := H4988
       clear H4988
       refine WP.region ?_
       refine WPL.q (q_mv (v := .lit (.int _ _)) rfl) rfl ?_
       refine WPL.q (q_leq rfl rfl) rfl ?_
       refine WPL.q (q_mv (v := .lit (.bool _)) rfl) rfl ?_
       refine WPL.split (t := 79) (b := (decide (x4864 ≤ 128))) rfl (fun hb4985 => ?_) (fun hb4985 => ?_)
       · replace H := cnt hb4985 H
         refine WPL.qg rfl rfl (lb hb4985) (q_mv (v := .lit (.string _)) rfl) rfl ?_
         obtain ⟨x4988, h4986, H⟩ := bnd H
         refine WPL.cg rfl rfl (lb hb4985) (runs_call (s := []) (t := []) (N := 0) (bor := []) fn50 rfl (s_strings_HasPrefix k (ByteArray.mk #[61, 61, 61, 61, 61, 61, 61, 61, 61, 61, 61, 61, 61, 61, 61, 61, 61, 61, 61, 61, 61, 61, 61, 61, 61, 61, 61, 61, 61, 61, 61, 61, 61, 61, 61, 61, 61, 61, 61, 61, 61, 61, 61, 61, 61, 61, 61, 61, 61, 61, 61, 61, 61, 61, 61, 61, 61, 61, 61, 61, 61, 61, 61, 61, 61, 61, 61, 61, 61, 61, 61, 61, 61, 61, 61, 61, 61, 61, 61, 61, 61, 61, 61, 61, 61, 61, 61, 61, 61, 61, 61, 61, 61, 61, 61, 61, 61, 61, 61, 61, 61, 61, 61, 61, 61, 61, 61, 61, 61, 61, 61, 61, 61, 61, 61, 61, 61, 61, 61, 61, 61, 61, 61, 61, 61, 61, 61, 61]) x4644 x4988 h4986) ⟨rfl, trivial, by decide, rfl, trivial⟩ rfl trivial (.ren rfl rfl (.ren rfl rfl .nil)) rfl trivial rfl) rfl ?_
         refine WPL.q (q_pickT (v := .lit (.bool _)) (lb hb4985) rfl) rfl ?_
         refine WPL.q (q_as (v := .lit (.bool _)) rfl) rfl ?_
         refine WPL.nilW ?_
         have q0 := (Option.some.inj H)
         subst q0
         exact W.wk [] hnp ⟨rfl, rfl, rfl⟩ ⟨rfl, trivial, by decide, rfl, trivial⟩ (LeE.upd rfl rfl (LeE.upd rfl rfl (LeE.upd rfl rfl (LeE.none rfl rfl)))) rfl
       replace H := cnf hb4985 H
       refine WPL.skipg (b' := false) rfl rfl (lb hb4985) rfl rfl ?_
       refine WPL.skipg (b' := false) rfl rfl (lb hb4985) rfl rfl ?_
       refine WPL.q (q_pickF (v := .lit (.bool _)) (lb hb4985) rfl) rfl ?_
       refine WPL.q (q_as (v := .lit (.bool _)) rfl) rfl ?_
       refine WPL.nilW ?_
       have q0 := (Option.some.inj H)
       subst q0
       exact W.wk [] hnp ⟨rfl, rfl, rfl⟩ ⟨rfl, trivial, by decide, rfl, trivial⟩ (LeE.upd rfl rfl (LeE.upd rfl rfl (LeE.upd rfl rfl (LeE.none rfl rfl)))) rfl
     rintro _ _ _ ⟨rfl, rfl, rfl⟩
     refine W.now ?_
     refine Then.n ?_
     refine WP.cond (t := x4985) rfl (fun hb4989 => ?_) (fun hb4989 => ?_)
     · replace H := cnt hb4989 H
       refine WP.seq ?_
       refine WP.region ?_
       refine WPL.q (q_mv (v := .lit (.int _ _)) rfl) rfl ?_
       obtain ⟨h4990, H⟩ := grd H
       obtain ⟨x4992, h4992, H⟩ := bnd H
       refine WPL.q (q_nm (q_slice_str (i := 0) (j := x4864) Tryd.underlying9 rfl rfl ⟨_, rfl⟩ h4990) (nm_str h4992)) rfl ?_
       refine WPL.q (q_as (v := .lit (.string _)) rfl) rfl ?_
       refine WPL.nilW ?_
       refine W.now ?_
       refine Then.n ?_
       refine WP.retW ?_
       have q0 := Option.some.inj H
       subst q0
       exact W.wk [] hnp (InBlock.r (InBlock.r ⟨rfl, rfl, rfl⟩)) ⟨rfl, trivial, by decide, rfl, trivial⟩ (LeE.upd rfl rfl (LeE.none rfl rfl)) rfl
     replace H := cnf hb4989 H
     refine WP.seq ?_
     obtain ⟨x4996, H4999, H⟩ := bnd H
     refine WP.monoW (Q := fun x E M => x = .normal ∧ E = (((Env.none.upd 0 (.lit (.string x4644))).upd 7 (.lit (.int .i64 x4864))).upd 85 (.lit (.bool x4996))) ∧ M = Mem.nil) ?_ ?_
     · clear H
       have H := H4999
       clear H4999
       refine WP.region ?_
       refine WPL.q (q_mv (v := .lit (.int _ _)) rfl) rfl ?_
       refine WPL.q (q_leq rfl rfl) rfl ?_
       refine WPL.q (q_mv (v := .lit (.bool _)) rfl) rfl ?_
       refine WPL.split (t := 88) (b := (decide (x4864 ≤ 64))) rfl (fun hb4996 => ?_) (fun hb4996 => ?_)
       · replace H := cnt hb4996 H
         refine WPL.qg rfl rfl (lb hb4996) (q_mv (v := .lit (.string _)) rfl) rfl ?_
         obtain ⟨x4999, h4997, H⟩ := bnd H
         refine WPL.cg rfl rfl (lb hb4996) (runs_call (s := []) (t := []) (N := 0) (bor := []) fn50 rfl (s_strings_HasPrefix k (ByteArray.mk #[9, 9, 9, 9, 9, 9, 9, 9, 9, 9, 9, 9, 9, 9, 9, 9, 9, 9, 9, 9, 9, 9, 9, 9, 9, 9, 9, 9, 9, 9, 9, 9, 9, 9, 9, 9, 9, 9, 9, 9, 9, 9, 9, 9, 9, 9, 9, 9, 9, 9, 9, 9, 9, 9, 9, 9, 9, 9, 9, 9, 9, 9, 9, 9]) x4644 x4999 h4997) ⟨rfl, trivial, by decide, rfl, trivial⟩ rfl trivial (.ren rfl rfl (.ren rfl rfl .nil)) rfl trivial rfl) rfl ?_
         refine WPL.q (q_pickT (v := .lit (.bool _)) (lb hb4996) rfl) rfl ?_
         refine WPL.q (q_as (v := .lit (.bool _)) rfl) rfl ?_
         refine WPL.nilW ?_
         have q0 := (Option.some.inj H)
         subst q0
         exact W.wk [] hnp ⟨rfl, rfl, rfl⟩ ⟨rfl, trivial, by decide, rfl, trivial⟩ (LeE.upd rfl rfl (LeE.upd rfl rfl (LeE.upd rfl rfl (LeE.none rfl rfl)))) rfl
       replace H := cnf hb4996 H
       refine WPL.skipg (b' := false) rfl rfl (lb hb4996) rfl rfl ?_
       refine WPL.skipg (b' := false) rfl rfl (lb hb4996) rfl rfl ?_
       refine WPL.q (q_pickF (v := .lit (.bool _)) (lb hb4996) rfl) rfl ?_
       refine WPL.q (q_as (v := .lit (.bool _)) rfl) rfl ?_
       refine WPL.nilW ?_
       have q0 := (Option.some.inj H)
       subst q0
       exact W.wk [] hnp ⟨rfl, rfl, rfl⟩ ⟨rfl, trivial, by decide, rfl, trivial⟩ (LeE.upd rfl rfl (LeE.upd rfl rfl (LeE.upd rfl rfl (LeE.none rfl rfl)))) rfl
     rintro _ _ _ ⟨rfl, rfl, rfl⟩
     refine W.now ?_
     refine Then.n ?_
     refine WP.cond (t := x4996) rfl (fun hb5000 => ?_) (fun hb5000 => ?_)
     · replace H := cnt hb5000 H
       refine WP.seq ?_
       refine WP.region ?_
       refine WPL.q (q_mv (v := .lit (.int _ _)) rfl) rfl ?_
       obtain ⟨h5001, H⟩ := grd H
       obtain ⟨x5003, h5003, H⟩ := bnd H
       refine WPL.q (q_nm (q_slice_str (i := 0) (j := x4864) Tryd.underlying9 rfl rfl ⟨_, rfl⟩ h5001) (nm_str h5003)) rfl ?_
       refine WPL.q (q_as (v := .lit (.string _)) rfl) rfl ?_
       refine WPL.nilW ?_
       refine W.now ?_
       refine Then.n ?_
       refine WP.retW ?_
       have q0 := Option.some.inj H
       subst q0
       exact W.wk [] hnp (InBlock.r (InBlock.r ⟨rfl, rfl, rfl⟩)) ⟨rfl, trivial, by decide, rfl, trivial⟩ (LeE.upd rfl rfl (LeE.none rfl rfl)) rfl
     replace H := cnf hb5000 H
     refine WP.skipW ?_
     have q0 := Option.some.inj H
     subst q0
     exact W.wk [] hnp (InBlock.n (InBlock.n ⟨rfl, rfl, rfl⟩)) ⟨rfl, trivial, by decide, rfl, trivial⟩ (LeE.upd rfl rfl (LeE.upd rfl rfl (LeE.none rfl rfl))) rfl
   replace H := cnf hb4947 H
   refine WP.skipW ?_
   have q0 := Option.some.inj H
   subst q0
   exact W.wk [] hnp (InBlock.n ⟨rfl, rfl, rfl⟩) ⟨rfl, trivial, by decide, rfl, trivial⟩ (LeE.upd rfl rfl (LeE.upd rfl rfl (LeE.none rfl rfl))) rfl
 rcases y5005 with x4936 | _
 · rintro _ _ _ ⟨rfl, rfl, rfl⟩
   have q0 := (Option.some.inj H)
   subst q0
   exact W.now (Then.r (BodyR.mkR trivial rfl [] ⟨rfl, rfl⟩ ⟨rfl, trivial, by decide, rfl, trivial⟩ rfl rfl))
 rintro _ _ _ ⟨rfl, rfl, rfl⟩
 refine W.now ?_
 refine Then.n ?_
 refine WP.seq ?_
 refine WP.region ?_
 refine WPL.q (q_mv (v := .lit (.int _ _)) rfl) rfl ?_
 refine WPL.q (q_as (v := .lit (.int _ _)) rfl) rfl ?_
 refine WPL.nilW ?_
 refine W.now ?_
 refine Then.n ?_
 refine WP.seq ?_
 obtain ⟨x5011, H5016, H⟩ := bnd H
 refine WP.monoW (Q := fun x E M => x = .normal ∧ E = (((Env.none.upd 0 (.lit (.string x4644))).upd 7 (.lit (.int .i64 x4864))).upd 8 (.lit (.int .i64 x5011))) ∧ M = Mem.nil) ?_ ?_
 · clear H
   have H := H5016
   clear H5016
   refine WP.seq ?_
   refine WP.region ?_
   refine WPL.q (q_mv (v := .lit (.int _ _)) rfl) rfl ?_
   refine WPL.q (q_gtr rfl rfl) rfl ?_
   refine WPL.nilW ?_
   refine W.now ?_
   refine Then.n ?_
   refine WP.cond (t := (decide (8192 < x4864))) rfl (fun hb5011 => ?_) (fun hb5011 => ?_)
   · replace H := cnt hb5011 H
     refine WP.seq ?_
     refine WP.region ?_
     refine WPL.q (q_mv (v := .lit (.string _)) rfl) rfl ?_
     refine WPL.q (q_len_str Tryd.underlying9 rfl) rfl ?_
     obtain ⟨h5012, H⟩ := grd H
     obtain ⟨x5014, h5014, H⟩ := bnd H
     refine WPL.q (q_nm (q_quo rfl rfl (bnot h5012)) (nm_int h5014)) rfl ?_
     refine WPL.q (q_mv (v := .lit (.string _)) rfl) rfl ?_
     refine WPL.q (q_len_str Tryd.underlying9 rfl) rfl ?_
     obtain ⟨x5015, h5015, H⟩ := bnd H
     refine WPL.q (q_nm (q_mul rfl rfl) (nm_int h5015)) rfl ?_
     refine WPL.q (q_as (v := .lit (.int _ _)) rfl) rfl ?_
     refine WPL.nilW ?_
     refine W.now ?_
     refine Then.n ?_
     refine WP.seq ?_
     refine WP.region ?_
     refine WPL.q (q_mv (v := .lit (.int _ _)) rfl) rfl ?_
     refine WPL.q (q_eql rfl rfl) rfl ?_
     refine WPL.nilW ?_
     refine W.now ?_
     refine Then.n ?_
     refine WP.cond (t := (decide (x5015 = 0))) rfl (fun hb5015 => ?_) (fun hb5015 => ?_)
     · replace H := cnt hb5015 H
       refine WP.region ?_
       refine WPL.q (q_mv (v := .lit (.string _)) rfl) rfl ?_
       refine WPL.q (q_len_str Tryd.underlying9 rfl) rfl ?_
       refine WPL.q (q_as (v := .lit (.int _ _)) rfl) rfl ?_
       refine WPL.nilW ?_
       have q0 := (Option.some.inj H)
       subst q0
       exact W.wk [] hnp ⟨rfl, rfl, rfl⟩ ⟨rfl, trivial, by decide, rfl, trivial⟩ (LeE.upd rfl rfl (LeE.upd rfl rfl (LeE.upd rfl rfl (LeE.none rfl rfl)))) rfl
     replace H := cnf hb5015 H
     refine WP.skipW ?_
     have q0 := (Option.some.inj H)
     subst q0
     exact W.wk [] hnp ⟨rfl, rfl, rfl⟩ ⟨rfl, trivial, by decide, rfl, trivial⟩ (LeE.upd rfl rfl (LeE.upd rfl rfl (LeE.upd rfl rfl (LeE.none rfl rfl)))) rfl
   replace H := cnf hb5011 H
   refine WP.skipW ?_
   have q0 := (Option.some.inj H)
   subst q0
   exact W.wk [] hnp ⟨rfl, rfl, rfl⟩ ⟨rfl, trivial, by decide, rfl, trivial⟩ (LeE.upd rfl rfl (LeE.upd rfl rfl (LeE.upd rfl rfl (LeE.none rfl rfl)))) rfl
 rintro _ _ _ ⟨rfl, rfl, rfl⟩
 refine W.now ?_
 refine Then.n ?_
 refine WP.seq ?_
 refine WP.region ?_
 refine WPL.d (d_alloc ze94 rfl) rfl ?_
 refine WPL.nilW ?_
 refine W.now ?_
 refine Then.n ?_
 refine WP.seq ?_
 refine WP.region ?_
 refine WPL.q (q_mv (v := .lit (.int _ _)) rfl) rfl ?_
 exact nf rfl H
set_option maxRecDepth 100000 in
set_option maxHeartbeats 4000000 in
theorem s_dec_Print (k : Nat) (x4453 : Int) (x4454 : Int) (x5082 : ByteArray) (H : g_dec_Print k x4453 x4454 = some x5082) : Go.Q.Spec Tryd.prog 7 0 [.agg [.lit (.int .i64 x4453), .lit (.int .i64 x4454)]] Mem.nil (fun o M => o = .ret (.lit (.string x5082)) ∧ M = Mem.nil) := by
 unfold g_dec_Print at H
 refine Go.Q.Spec.of_bodyR (az := []) (rs := [.tmp 2]) (nt := 72) Tryd.func7 rfl rfl (by intro t T h; simp at h) rfl rfl fun cx hnp => ?_
 refine WP.seq ?_
 refine WP.region ?_
 refine WPL.d (d_box rfl rfl) rfl ?_
 refine WPL.q (q_as (v := .lit (.string _)) rfl) rfl ?_
 refine WPL.nilW ?_
 refine W.now ?_
 refine Then.n ?_
 refine WP.seq ?_
 refine WP.seq ?_
 refine WP.region ?_
 refine WPL.d (d_buildCells li85 rfl rfl rfl rfl rfl) rfl ?_
 obtain ⟨⟨x5089, x5090, x5091⟩, h5087, H⟩ := bnd H
 refine WPL.c (runs_call (s := [1, 0]) (t := [1, 0]) (N := 2) (bor := []) fn22 rfl (s_dec_clean__b k x4453 x4454 x5089 x5090 x5091 h5087) ⟨rfl, ⟨⟨trivial, .inr ⟨rfl, rfl, rfl⟩⟩, .inr ⟨rfl, rfl, rfl⟩⟩, by decide, rfl, trivial⟩ rfl trivial (.ren rfl rfl .nil) rfl ⟨⟨trivial, rfl⟩, rfl⟩ rfl) rfl ?_
 refine WPL.q (q_not rfl) rfl ?_
 refine WPL.nilW ?_
 refine W.now ?_
 refine Then.n ?_
 refine WP.cond (t := (!x5089)) rfl (fun hb5091 => ?_) (fun hb5091 => ?_)
 · replace H := cnt hb5091 H
   refine WP.seq ?_
   refine WP.region ?_
   refine WPL.q (q_as (v := .lit (.string _)) rfl) rfl ?_
   refine WPL.nilW ?_
   refine W.now ?_
   refine Then.n ?_
   refine WP.retW ?_
   have q0 := (Option.some.inj H)
   subst q0
   exact W.now (Then.r (BodyR.mkR trivial rfl [] ⟨rfl, rfl⟩ ⟨rfl, trivial, by decide, rfl, trivial⟩ rfl rfl))
 replace H := cnf hb5091 H
 refine WP.skipW ?_
 refine W.now ?_
 refine Then.n ?_
 refine WP.seq ?_
 refine WP.region ?_
 refine WPL.q (q_as (v := .lit (.string _)) rfl) rfl ?_
 refine WPL.nilW ?_
 refine W.now ?_
 refine Then.n ?_
 refine WP.seq ?_
 refine WP.seq ?_
 refine WP.region ?_
 refine WPL.q (q_fieldAddr fi23_0 rfl rfl) rfl ?_
 refine WPL.q (q_load sc2 rfl rfl rfl) rfl ?_
 obtain ⟨x5094, h5092, H⟩ := bnd H
 refine WPL.c (runs_call (s := []) (t := []) (N := 2) (bor := []) fn23 rfl (s_dec_size k x5090 x5094 h5092) ⟨rfl, trivial, by decide, rfl, trivial⟩ rfl trivial (.ren rfl rfl .nil) rfl trivial rfl) rfl ?_
 refine WPL.q (q_as (v := .lit (.int _ _)) rfl) rfl ?_
 refine WPL.nilW ?_
 refine W.now ?_
 refine Then.n ?_
 refine WP.block ?_
 refine WP.cv (Cv.weak (E' := (((Env.none.upd 1 (.ptr 0 0)).upd 3 (.lit (.string (ByteArray.mk #[])))).upd 4 (.lit (.int .u64 x5094)))) (M' := (Mem.nil.push (.cells 23 [.lit (.int .i64 x5090), .lit (.int .i64 x5091)]))) [0] hnp ⟨rfl, ⟨trivial, .inr ⟨rfl, rfl, rfl⟩⟩, by decide, rfl, trivial⟩ (LeE.upd rfl rfl (LeE.upd rfl rfl (LeE.upd rfl rfl (LeE.none rfl rfl))))) ?_
 obtain ⟨x5106, H5110, H⟩ := bnd H
 refine WP.monoW (Q := fun x E M => x = .exit 0 ∧ E = ((Env.none.upd 1 (.ptr 0 0)).upd 3 (.lit (.string x5106))) ∧ M = (Mem.nil.push (.cells 23 [.lit (.int .i64 x5090), .lit (.int .i64 x5091)]))) ?_ ?_
 · refine WP.loop (β := ByteArray × Int) (fun n b => g_dec_Print_l0 k n b.1 b.2 = some x5106) (fun b => (((Env.none.upd 1 (.ptr 0 0)).upd 3 (.lit (.string b.1))).upd 4 (.lit (.int .u64 b.2)))) (fun b => (Mem.nil.push (.cells 23 [.lit (.int .i64 x5090), .lit (.int .i64 x5091)]))) k ((ByteArray.mk #[]), x5094) H5110 rfl rfl ?_
   rintro n ⟨x5100, x5101⟩ H
   obtain _ | n := n
   · exact nf rfl H
   rw [g_dec_Print_l0.eq_2] at H
   show WP _ _ _ _ (((Env.none.upd 1 (.ptr 0 0)).upd 3 (.lit (.string x5100))).upd 4 (.lit (.int .u64 x5101))) (Mem.nil.push (.cells 23 [.lit (.int .i64 x5090), .lit (.int .i64 x5091)])) _
   refine WP.seq ?_
   refine WP.seq ?_
   refine WP.region ?_
   refine WPL.q (q_mv (v := .lit (.int _ _)) rfl) rfl ?_
   refine WPL.q (q_gtr rfl rfl) rfl ?_
   refine WPL.nilW ?_
   refine W.now ?_
   refine Then.n ?_
   refine WP.cond (t := (decide (0 < x5101))) rfl (fun hb5107 => ?_) (fun hb5107 => ?_)
   · replace H := cnt hb5107 H
     refine WP.skipW ?_
     refine W.now ?_
     refine Then.n ?_
     refine WP.seq ?_
     refine WP.block ?_
     refine WP.region ?_
     refine WPL.q (q_mv (v := .lit (.int _ _)) rfl) rfl ?_
     refine WPL.q (q_rem rfl rfl rfl) rfl ?_
     obtain ⟨x5109, h5109, H⟩ := bnd H
     refine WPL.q (q_nm (q_add rfl rfl) (nm_int h5109)) rfl ?_
     refine WPL.q (q_conv Tryd.underlying41 Tryd.underlying5 rfl) rfl ?_
     refine WPL.d (d_buildSlice (ds := ([(IntKind.wrap .u8 x5109)] : List Int)) (R := (Rd.int .u8)) li61 rfl rfl rfl rfl rfl (JoinRows.cons1 Joins.sc rfl JoinRows.nil) rfl rfl) rfl ?_
     refine WPL.q (q_bytes_str_row Tryd.underlying61 Tryd.underlying5 Tryd.underlying9 rfl rfl) rfl ?_
     refine WPL.q (q_mv (v := .lit (.string _)) rfl) rfl ?_
     obtain ⟨h5109, H⟩ := grd H
     refine WPL.q (q_concat rfl rfl h5109) rfl ?_
     refine WPL.q (q_as (v := .lit (.string _)) rfl) rfl ?_
     refine WPL.nilW ?_
     refine W.now ?_
     refine InBlock.n ?_
     refine Then.n ?_
     refine WP.region ?_
     refine WPL.q (q_mv (v := .lit (.int _ _)) rfl) rfl ?_
     refine WPL.q (q_quo rfl rfl rfl) rfl ?_
     refine WPL.q (q_as (v := .lit (.int _ _)) rfl) rfl ?_
     refine WPL.nilW ?_
     exact W.wk [0] hnp (Then.n ⟨n, (((strOf ([(IntKind.wrap .u8 x5109)] : List Int)) ++ x5100), (IntKind.wrap .u64 (Int.tdiv x5101 10))), Nat.lt_succ_self n, H, rfl, rfl⟩) ⟨rfl, ⟨trivial, .inr ⟨rfl, rfl, rfl⟩⟩, by decide, rfl, trivial⟩ (LeE.upd rfl rfl (LeE.upd rfl rfl (LeE.upd rfl rfl (LeE.none rfl rfl)))) rfl
   replace H := cnf hb5107 H
   refine WP.exitW ?_
   have q0 := (Option.some.inj H)
   subst q0
   exact W.wk [0] hnp (Then.x (Then.x ⟨rfl, rfl, rfl⟩)) ⟨rfl, ⟨trivial, .inr ⟨rfl, rfl, rfl⟩⟩, by decide, rfl, trivial⟩ (LeE.upd rfl rfl (LeE.upd rfl rfl (LeE.none rfl rfl))) rfl
 rintro _ _ _ ⟨rfl, rfl, rfl⟩
 refine W.now ?_
 refine InBlock.x0 ?_
 refine Then.n ?_
 refine WP.seq ?_
 obtain ⟨x5141, H5170, H⟩ := bnd H
 refine WP.monoW (Q := fun x E M => x = .normal ∧ E = ((Env.none.upd 1 (.ptr 0 0)).upd 3 (.lit (.string x5141))) ∧ M = (Mem.nil.push (.cells 23 [.lit (.int .i64 x5090), .lit (.int .i64 x5091)]))) ?_ ?_
 · clear H
   have H := H5170
   clear H5170
   refine WP.block ?_
   refine WP.seq ?_
   refine WP.region ?_
   refine WPL.q (q_fieldAddr fi23_0 rfl rfl) rfl ?_
   refine WPL.q (q_load sc2 rfl rfl rfl) rfl ?_
   refine WPL.q (q_eql rfl rfl) rfl ?_
   refine WPL.q (q_as (v := .lit (.bool _)) rfl) rfl ?_
   refine WPL.nilW ?_
   refine W.now ?_
   refine Then.n ?_
   refine WP.cond (t := (decide (x5090 = 0))) rfl (fun hb5141 => ?_) (fun hb5141 => ?_)
   · replace H := cnt hb5141 H
     refine WP.region ?_
     refine WPL.q (q_as (v := .lit (.string _)) rfl) rfl ?_
     refine WPL.nilW ?_
     have q0 := (Option.some.inj H)
     subst q0
     exact W.wk [0] hnp (InBlock.n ⟨rfl, rfl, rfl⟩) ⟨rfl, ⟨trivial, .inr ⟨rfl, rfl, rfl⟩⟩, by decide, rfl, trivial⟩ (LeE.upd rfl rfl (LeE.upd rfl rfl (LeE.none rfl rfl))) rfl
   replace H := cnf hb5141 H
   refine WP.seq ?_
   refine WP.region ?_
   refine WPL.q (q_fieldAddr fi23_1 rfl rfl) rfl ?_
   refine WPL.q (q_load sc3 rfl rfl rfl) rfl ?_
   refine WPL.q (q_gtr rfl rfl) rfl ?_
   refine WPL.q (q_as (v := .lit (.bool _)) rfl) rfl ?_
   refine WPL.nilW ?_
   refine W.now ?_
   refine Then.n ?_
   refine WP.cond (t := (decide (0 < x5091))) rfl (fun hb5142 => ?_) (fun hb5142 => ?_)
   · replace H := cnt hb5142 H
     refine WP.region ?_
     refine WPL.q (q_mv (v := .lit (.string _)) rfl) rfl ?_
     refine WPL.q (q_fieldAddr fi23_1 rfl rfl) rfl ?_
     refine WPL.q (q_load sc3 rfl rfl rfl) rfl ?_
     obtain ⟨x5145, h5143, H⟩ := bnd H
     refine WPL.c (runs_call (s := []) (t := []) (N := 1) (bor := []) fn24 rfl (s_strings_Repeat k (ByteArray.mk #[48]) x5091 x5145 h5143) ⟨rfl, trivial, by decide, rfl, trivial⟩ rfl trivial (.ren rfl rfl (.ren rfl rfl .nil)) rfl trivial rfl) rfl ?_
     obtain ⟨h5145, H⟩ := grd H
     refine WPL.q (q_concat rfl rfl h5145) rfl ?_
     refine WPL.q (q_as (v := .lit (.string _)) rfl) rfl ?_
     refine WPL.nilW ?_
     have q0 := (Option.some.inj H)
     subst q0
     exact W.wk [0] hnp (InBlock.n ⟨rfl, rfl, rfl⟩) ⟨rfl, ⟨trivial, .inr ⟨rfl, rfl, rfl⟩⟩, by decide, rfl, trivial⟩ (LeE.upd rfl rfl (LeE.upd rfl rfl (LeE.none rfl rfl))) rfl
   replace H := cnf hb5142 H
   refine WP.seq ?_
   refine WP.region ?_
   refine WPL.q (q_fieldAddr fi23_1 rfl rfl) rfl ?_
   refine WPL.q (q_load sc3 rfl rfl rfl) rfl ?_
   refine WPL.q (q_lss rfl rfl) rfl ?_
   refine WPL.q (q_as (v := .lit (.bool _)) rfl) rfl ?_
   refine WPL.nilW ?_
   refine W.now ?_
   refine Then.n ?_
   refine WP.cond (t := (decide (x5091 < 0))) rfl (fun hb5146 => ?_) (fun hb5146 => ?_)
   · replace H := cnt hb5146 H
     refine WP.seq ?_
     refine WP.region ?_
     refine WPL.q (q_fieldAddr fi23_1 rfl rfl) rfl ?_
     refine WPL.q (q_load sc3 rfl rfl rfl) rfl ?_
     refine WPL.q (q_sub rfl rfl) rfl ?_
     refine WPL.q (q_mv (v := .lit (.string _)) rfl) rfl ?_
     refine WPL.q (q_len_str Tryd.underlying9 rfl) rfl ?_
     obtain ⟨x5148, h5148, H⟩ := bnd H
     refine WPL.q (q_nm (q_sub rfl rfl) (nm_int h5148)) rfl ?_
     obtain ⟨x5149, h5149, H⟩ := bnd H
     refine WPL.q (q_nm (q_max rfl rfl) (nm_int h5149)) rfl ?_
     obtain ⟨x5151, h5149, H⟩ := bnd H
     refine WPL.c (runs_call (s := []) (t := []) (N := 1) (bor := []) fn24 rfl (s_strings_Repeat k (ByteArray.mk #[48]) x5149 x5151 h5149) ⟨rfl, trivial, by decide, rfl, trivial⟩ rfl trivial (.ren rfl rfl (.ren rfl rfl .nil)) rfl trivial rfl) rfl ?_
     refine WPL.q (q_mv (v := .lit (.string _)) rfl) rfl ?_
     obtain ⟨h5151, H⟩ := grd H
     refine WPL.q (q_concat rfl rfl h5151) rfl ?_
     refine WPL.q (q_as (v := .lit (.string _)) rfl) rfl ?_
     refine WPL.nilW ?_
     refine W.now ?_
     refine Then.n ?_
     refine WP.regionD' 17 [0] [] mixed rfl ?_
     refine WPD.takeT 0 rfl (by kernel_rfl) (q_mv (v := .lit (.string _)) rfl) rfl ?_
     refine WPD.takeT 1 rfl (by kernel_rfl) (q_mv (v := .lit (.string _)) rfl) rfl ?_
     obtain ⟨x5163, h5163, H⟩ := bnd H
     refine WPD.takeT 2 rfl (by kernel_rfl) (q_nm (q_len_str Tryd.underlying9 rfl) (nm_int h5163)) rfl ?_
     refine WPD.takeT 3 rfl (by kernel_rfl) (q_fieldAddr fi23_1 rfl rfl) rfl ?_
     refine WPD.takeT 8 rfl (by kernel_rfl) (q_mv (v := .lit (.string _)) rfl) rfl ?_
     refine WPD.takeT 9 rfl (by kernel_rfl) (q_mv (v := .lit (.string _)) rfl) rfl ?_
     obtain ⟨x5164, h5164, H⟩ := bnd H
     refine WPD.takeT 10 rfl (by kernel_rfl) (q_nm (q_len_str Tryd.underlying9 rfl) (nm_int h5164)) rfl ?_
     refine WPD.takeT 11 rfl (by kernel_rfl) (q_fieldAddr fi23_1 rfl rfl) rfl ?_
     refine WPD.take 4 rfl (by kernel_rfl) (q_load sc3 rfl rfl rfl) rfl rfl ?_
     refine WPD.takeT 5 rfl (by kernel_rfl) (q_add rfl rfl) rfl ?_
     obtain ⟨h5164, H⟩ := grd H
     obtain ⟨x5166, h5166, H⟩ := bnd H
     refine WPD.takeT 6 rfl (by kernel_rfl) (q_nm (q_slice_str (i := 0) (j := (IntKind.wrap .i64 (x5163 + x5091))) Tryd.underlying9 rfl rfl ⟨_, rfl⟩ h5164) (nm_str h5166)) rfl ?_
     obtain ⟨h5166, H⟩ := grd H
     refine WPD.takeT 7 rfl (by kernel_rfl) (q_concat rfl rfl h5166) rfl ?_
     refine WPD.take 12 rfl (by kernel_rfl) (q_load sc3 rfl rfl rfl) rfl rfl ?_
     refine WPD.takeT 13 rfl (by kernel_rfl) (q_add rfl rfl) rfl ?_
     obtain ⟨h5167, H⟩ := grd H
     obtain ⟨x5169, h5169, H⟩ := bnd H
     refine WPD.takeT 14 rfl (by kernel_rfl) (q_nm (q_slice_str (i := (IntKind.wrap .i64 (x5164 + x5091))) (j := ((ByteArray.size (x5151 ++ x5106) : Nat) : Int)) Tryd.underlying9 rfl ⟨_, rfl⟩ rfl h5167) (nm_str h5169)) rfl ?_
     obtain ⟨h5169, H⟩ := grd H
     refine WPD.takeT 15 rfl (by kernel_rfl) (q_concat rfl rfl h5169) rfl ?_
     refine WPD.takeT 16 rfl (by kernel_rfl) (q_as (v := .lit (.string _)) rfl) rfl ?_
     refine WPD.doneW (by kernel_rfl) ?_
     have q0 := (Option.some.inj H)
     subst q0
     exact W.wk [0] hnp (InBlock.n ⟨rfl, rfl, rfl⟩) ⟨rfl, ⟨trivial, .inr ⟨rfl, rfl, rfl⟩⟩, by decide, rfl, trivial⟩ (LeE.upd rfl rfl (LeE.upd rfl rfl (LeE.none rfl rfl))) rfl
   replace H := cnf hb5146 H
   refine WP.skipW ?_
   have q0 := (Option.some.inj H)
   subst q0
   exact W.wk [0] hnp (InBlock.n ⟨rfl, rfl, rfl⟩) ⟨rfl, ⟨trivial, .inr ⟨rfl, rfl, rfl⟩⟩, by decide, rfl, trivial⟩ (LeE.upd rfl rfl (LeE.upd rfl rfl (LeE.none rfl rfl))) rfl
 rintro _ _ _ ⟨rfl, rfl, rfl⟩
 refine W.now ?_
 refine Then.n ?_
 refine WP.seq ?_
 obtain ⟨x5174, H5176, H⟩ := bnd H
 refine WP.monoW (Q := fun x E M => x = .normal ∧ E = (Env.none.upd 3 (.lit (.string x5174))) ∧ M = Mem.nil) ?_ ?_
 · clear H
   have H := H5176
   clear H5176
   refine WP.seq ?_
   refine WP.region ?_
   refine WPL.q (q_fieldAddr fi23_0 rfl rfl) rfl ?_
   refine WPL.q (q_load sc2 rfl rfl rfl) rfl ?_
   refine WPL.q (q_lss rfl rfl) rfl ?_
   refine WPL.nilW ?_
   refine W.now ?_
   refine Then.n ?_
   refine WP.cond (t := (decide (x5090 < 0))) rfl (fun hb5174 => ?_) (fun hb5174 => ?_)
   · replace H := cnt hb5174 H
     refine WP.region ?_
     refine WPL.q (q_mv (v := .lit (.string _)) rfl) rfl ?_
     obtain ⟨h5175, H⟩ := grd H
     refine WPL.q (q_concat rfl rfl h5175) rfl ?_
     refine WPL.q (q_as (v := .lit (.string _)) rfl) rfl ?_
     refine WPL.nilW ?_
     have q0 := (Option.some.inj H)
     subst q0
     exact W.wk [] hnp ⟨rfl, rfl, rfl⟩ ⟨rfl, trivial, by decide, rfl, trivial⟩ (LeE.upd rfl rfl (LeE.none rfl rfl)) rfl
   replace H := cnf hb5174 H
   refine WP.skipW ?_
   have q0 := (Option.some.inj H)
   subst q0
   exact W.wk [] hnp ⟨rfl, rfl, rfl⟩ ⟨rfl, trivial, by decide, rfl, trivial⟩ (LeE.upd rfl rfl (LeE.none rfl rfl)) rfl
 rintro _ _ _ ⟨rfl, rfl, rfl⟩
 refine W.now ?_
 refine Then.n ?_
 refine WP.seq ?_
 refine WP.region ?_
 refine WPL.q (q_mv (v := .lit (.string _)) rfl) rfl ?_
 refine WPL.q (q_as (v := .lit (.string _)) rfl) rfl ?_
 refine WPL.nilW ?_
 refine W.now ?_
 refine Then.n ?_
 refine WP.retW ?_
 have q0 := (Option.some.inj H)
 subst q0
 exact W.now (BodyR.mkR trivial rfl [] ⟨rfl, rfl⟩ ⟨rfl, trivial, by decide, rfl, trivial⟩ rfl rfl)
end Go.Proofs.YtdbeblgfccjbgaaDoor.W
