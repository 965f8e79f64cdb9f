/- Texts joined: part 6 of what LDeflateParse stands on. -/
import Derived.Test.YtmmeanjjfhimjaaSDeflateParsee
namespace Go.Proofs.Ytmmeanjjfhimjaa.W
open Go Go.Q Go.Proofs
set_option linter.unusedVariables false
set_option linter.unusedSimpArgs false
set_option maxRecDepth 100000 in
set_option maxHeartbeats 4000000 in
theorem s_deflate_shorter (k : Nat) (x8842 : (List Int)) (x8843 : Int) (x8896 : (List Int)) (H : g_deflate_shorter k x8842 x8843 = some x8896) : Go.Q.Spec Try.prog 35 0 [.ro (Rd.slice (Rd.int .i64)) false x8842, .lit (.int .i64 x8843)] Mem.nil (fun o M => o = .ret (.ro (Rd.slice (Rd.int .i64)) false x8896) ∧ M = Mem.nil) := by
 unfold g_deflate_shorter at H
 refine Go.Q.Spec.of_bodyR (az := []) (rs := [.tmp 4]) (nt := 24) Try.func35 rfl rfl (by intro t T h; simp at h) rfl rfl fun cx hnp => ?_
 refine WP.seq ?_
 refine WP.region ?_
 refine WPL.q (q_as (v := .lit _) rfl) rfl ?_
 refine WPL.nilW ?_
 refine W.now ?_
 refine Then.n ?_
 refine WP.seq ?_
 refine WP.block ?_
 refine WP.cv (Cv.weak (E' := ((Env.none.upd 0 (.ro (Rd.slice (Rd.int .i64)) false x8842)).upd 1 (.lit (.int .i64 x8843)))) (M' := Mem.nil) [] hnp ⟨rfl, trivial, by decide, rfl, trivial⟩ (LeE.upd rfl rfl (LeE.upd rfl rfl (LeE.none rfl rfl)))) ?_
 obtain ⟨x8946, H8970, H⟩ := bnd H
 refine WP.monoW (Q := fun x E M => x = .exit 0 ∧ E = (Env.none.upd 0 (.ro (Rd.slice (Rd.int .i64)) false x8946)) ∧ M = Mem.nil) ?_ ?_
 · refine WP.loop (β := (List Int)) (fun n b => g_deflate_shorter_l0 k x8843 n b = some x8946) (fun b => ((Env.none.upd 0 (.ro (Rd.slice (Rd.int .i64)) false b)).upd 1 (.lit (.int .i64 x8843)))) (fun b => Mem.nil) k x8842 H8970 rfl rfl ?_
   rintro n x8921 H
   obtain _ | n := n
   · exact nf rfl H
   rw [g_deflate_shorter_l0.eq_2] at H
   show WP _ _ _ _ ((Env.none.upd 0 (.ro (Rd.slice (Rd.int .i64)) false x8921)).upd 1 (.lit (.int .i64 x8843))) Mem.nil _
   refine WP.seq ?_
   refine WP.seq ?_
   obtain ⟨x8962, H8966, H⟩ := bnd H
   refine WP.monoW (Q := fun x E M => x = .normal ∧ E = (((Env.none.upd 0 (.ro (Rd.slice (Rd.int .i64)) false x8921)).upd 1 (.lit (.int .i64 x8843))).upd 17 (.lit (.bool x8962))) ∧ M = Mem.nil) ?_ ?_
   · clear H
     have H := H8966
     clear H8966
     refine WP.region ?_
     refine WPL.q (q_mv (v := .ro _ _ _) rfl) rfl ?_
     refine WPL.q (q_len_ro sl66 rfl) rfl ?_
     refine WPL.q (q_mv (v := .lit (.int _ _)) rfl) rfl ?_
     obtain ⟨x8963, h8963, H⟩ := bnd H
     refine WPL.q (q_nm (q_gtr rfl rfl) (nm_bool h8963)) rfl ?_
     refine WPL.q (q_mv (v := .lit (.bool _)) rfl) rfl ?_
     refine WPL.split (t := 9) (b := x8963) rfl (fun hb8963 => ?_) (fun hb8963 => ?_)
     · replace H := cnt hb8963 H
       refine WPL.qg rfl rfl (lb hb8963) (q_mv (v := .ro _ _ _) rfl) rfl ?_
       refine WPL.qg rfl rfl (lb hb8963) (q_mv (v := .ro _ _ _) rfl) rfl ?_
       refine WPL.qg rfl rfl (lb hb8963) (q_len_ro sl66 rfl) rfl ?_
       obtain ⟨x8965, h8965, H⟩ := bnd H
       refine WPL.qg rfl rfl (lb hb8963) (q_nm (q_sub rfl rfl) (nm_int h8965)) rfl ?_
       obtain ⟨x8966, h8966, H⟩ := bnd H
       refine WPL.qg rfl rfl (lb hb8963) (q_index_ro sl66 rfl rfl rfl h8966) rfl ?_
       refine WPL.qg rfl rfl (lb hb8963) (q_load_sc sc3 rfl) rfl ?_
       refine WPL.qg rfl rfl (lb hb8963) (q_eql rfl rfl) rfl ?_
       refine WPL.q (q_pickT (v := .lit (.bool _)) (lb hb8963) rfl) rfl ?_
       refine WPL.nilW ?_
       have q0 := (Option.some.inj H)
       subst q0
       exact W.wk [] hnp ⟨rfl, rfl, rfl⟩ ⟨rfl, trivial, by decide, rfl, trivial⟩ (LeE.upd rfl rfl (LeE.upd rfl rfl (LeE.upd rfl rfl (LeE.none rfl rfl)))) rfl
     replace H := cnf hb8963 H
     refine WPL.skipg (b' := false) rfl rfl (lb hb8963) rfl rfl (.inl trivial) ?_
     refine WPL.skipg (b' := false) rfl rfl (lb hb8963) rfl rfl (.inl trivial) ?_
     refine WPL.skipg (b' := false) rfl rfl (lb hb8963) rfl rfl (.inl trivial) ?_
     refine WPL.skipg (b' := false) rfl rfl (lb hb8963) rfl rfl (.inl trivial) ?_
     refine WPL.skipg (b' := false) rfl rfl (lb hb8963) rfl rfl (.inl trivial) ?_
     refine WPL.skipg (b' := false) rfl rfl (lb hb8963) rfl rfl (.inl trivial) ?_
     refine WPL.skipg (b' := false) rfl rfl (lb hb8963) rfl rfl (.inl trivial) ?_
     refine WPL.q (q_pickF (v := .lit (.bool _)) (lb hb8963) rfl) rfl ?_
     refine WPL.nilW ?_
     have q0 := (Option.some.inj H)
     subst q0
     exact W.wk [] hnp ⟨rfl, rfl, rfl⟩ ⟨rfl, trivial, by decide, rfl, trivial⟩ (LeE.upd rfl rfl (LeE.upd rfl rfl (LeE.upd rfl rfl (LeE.none rfl rfl)))) rfl
   rintro _ _ _ ⟨rfl, rfl, rfl⟩
   refine W.now ?_
   refine Then.n ?_
   refine WP.cond (t := x8962) rfl (fun hb8967 => ?_) (fun hb8967 => ?_)
   · replace H := cnt hb8967 H
     refine WP.skipW ?_
     refine W.now ?_
     refine Then.n ?_
     refine WP.block ?_
     refine WP.region ?_
     refine WPL.q (q_mv (v := .ro _ _ _) rfl) rfl ?_
     refine WPL.q (q_mv (v := .ro _ _ _) rfl) rfl ?_
     refine WPL.q (q_len_ro sl66 rfl) rfl ?_
     obtain ⟨x8969, h8969, H⟩ := bnd H
     refine WPL.q (q_nm (q_sub rfl rfl) (nm_int h8969)) rfl ?_
     obtain ⟨h8969, H⟩ := grd H
     refine WPL.q (q_slice_ro (i := 0) (j := x8969) sl66 rfl rfl rfl ⟨_, rfl⟩ h8969) rfl ?_
     refine WPL.q (q_as (v := .ro _ _ _) rfl) rfl ?_
     refine WPL.nilW ?_
     exact W.wk [] hnp (InBlock.n (Then.n ⟨n, (List.drop (Int.toNat 0) (List.take (Int.toNat x8969) x8921)), Nat.lt_succ_self n, H, rfl, rfl⟩)) ⟨rfl, trivial, by decide, rfl, trivial⟩ (LeE.upd rfl rfl (LeE.upd rfl rfl (LeE.none rfl rfl))) rfl
   replace H := cnf hb8967 H
   refine WP.exitW ?_
   have q0 := (Option.some.inj H)
   subst q0
   exact W.wk [] hnp (Then.x (Then.x ⟨rfl, rfl, rfl⟩)) ⟨rfl, trivial, by decide, rfl, trivial⟩ (LeE.upd rfl rfl (LeE.none rfl rfl)) rfl
 rintro _ _ _ ⟨rfl, rfl, rfl⟩
 refine W.now ?_
 refine InBlock.x0 ?_
 refine Then.n ?_
 refine WP.seq ?_
 refine WP.region ?_
 refine WPL.q (q_mv (v := .ro _ _ _) rfl) rfl ?_
 refine WPL.q (q_as (v := .ro _ _ _) rfl) rfl ?_
 refine WPL.nilW ?_
 refine W.now ?_
 refine Then.n ?_
 refine WP.retW ?_
 have q0 := (Option.some.inj H)
 subst q0
 exact W.now (BodyR.mkR trivial rfl [] ⟨rfl, rfl⟩ ⟨rfl, trivial, by decide, rfl, trivial⟩ rfl rfl)
set_option maxRecDepth 100000 in
set_option maxHeartbeats 4000000 in
theorem s_deflate_Lengths_2 (k : Nat) (x8986 : Int) (x8987 : (List Int)) (x9008 : Int) (H : g_deflate_Lengths_2 k x8986 x8987 = some x9008) : Go.Q.Spec Try.prog 63 1 [.lit (.int .i64 x8986), .ptr 0 0] (Mem.nil.push (.cells 66 [.ro (Rd.slice (Rd.int .i64)) false x8987])) (fun o M => o = .ret (.lit (.int .i64 x9008)) ∧ M = (Mem.nil.push (.cells 66 [.ro (Rd.slice (Rd.int .i64)) false x8987]))) := by
 unfold g_deflate_Lengths_2 at H
 refine Go.Q.Spec.of_bodyR (az := []) (rs := [.tmp 3]) (nt := 20) Try.func63 rfl rfl (by intro t T h; simp at h) rfl rfl fun cx hnp => ?_
 refine WP.seq ?_
 refine WP.region ?_
 refine WPL.q (q_as (v := .lit (.int _ _)) rfl) rfl ?_
 refine WPL.nilW ?_
 refine W.now ?_
 refine Then.n ?_
 refine WP.seq ?_
 refine WP.seq ?_
 obtain ⟨x9021, H9024, H⟩ := bnd H
 refine WP.monoW (Q := fun x E M => x = .normal ∧ E = (((Env.none.upd 0 (.lit (.int .i64 x8986))).upd 1 (.ptr 0 0)).upd 15 (.lit (.bool x9021))) ∧ M = (Mem.nil.push (.cells 66 [.ro (Rd.slice (Rd.int .i64)) false x8987]))) ?_ ?_
 · clear H
   have H := H9024
   clear H9024
   refine WP.region ?_
   refine WPL.q (q_load sc66 rfl rfl rfl) rfl ?_
   refine WPL.q (q_mv (v := .lit (.int _ _)) rfl) rfl ?_
   obtain ⟨x9022, h9022, H⟩ := bnd H
   refine WPL.q (q_index_ro sl66 rfl rfl rfl h9022) rfl ?_
   refine WPL.q (q_load_sc sc3 rfl) rfl ?_
   refine WPL.q (q_lss rfl rfl) rfl ?_
   refine WPL.q (q_mv (v := .lit (.bool _)) rfl) rfl ?_
   refine WPL.split (t := 9) (b := (decide (x9022 < 0))) rfl (fun hb9022 => ?_) (fun hb9022 => ?_)
   · replace H := cnt hb9022 H
     refine WPL.skipg (b' := true) rfl rfl (lb hb9022) rfl rfl (.inl trivial) ?_
     refine WPL.skipg (b' := true) rfl rfl (lb hb9022) rfl rfl (.inl trivial) ?_
     refine WPL.skipg (b' := true) rfl rfl (lb hb9022) rfl rfl (.inl trivial) ?_
     refine WPL.skipg (b' := true) rfl rfl (lb hb9022) rfl rfl (.inl trivial) ?_
     refine WPL.skipg (b' := true) rfl rfl (lb hb9022) rfl rfl (.inl trivial) ?_
     refine WPL.q (q_pickT (v := .lit (.bool _)) (lb hb9022) rfl) rfl ?_
     refine WPL.nilW ?_
     have q0 := (Option.some.inj H)
     subst q0
     exact W.wk [0] hnp ⟨rfl, rfl, rfl⟩ ⟨rfl, ⟨trivial, .inr ⟨rfl, rfl, rfl⟩⟩, by decide, rfl, ⟨trivial, rfl⟩⟩ (LeE.upd rfl rfl (LeE.upd rfl rfl (LeE.upd rfl rfl (LeE.none rfl rfl)))) rfl
   replace H := cnf hb9022 H
   refine WPL.qg rfl rfl (lb hb9022) (q_load sc66 rfl rfl rfl) rfl ?_
   refine WPL.qg rfl rfl (lb hb9022) (q_mv (v := .lit (.int _ _)) rfl) rfl ?_
   obtain ⟨x9024, h9024, H⟩ := bnd H
   refine WPL.qg rfl rfl (lb hb9022) (q_index_ro sl66 rfl rfl rfl h9024) rfl ?_
   refine WPL.qg rfl rfl (lb hb9022) (q_load_sc sc3 rfl) rfl ?_
   refine WPL.qg rfl rfl (lb hb9022) (q_gtr rfl rfl) rfl ?_
   refine WPL.q (q_pickF (v := .lit (.bool _)) (lb hb9022) rfl) rfl ?_
   refine WPL.nilW ?_
   have q0 := (Option.some.inj H)
   subst q0
   exact W.wk [0] hnp ⟨rfl, rfl, rfl⟩ ⟨rfl, ⟨trivial, .inr ⟨rfl, rfl, rfl⟩⟩, by decide, rfl, ⟨trivial, rfl⟩⟩ (LeE.upd rfl rfl (LeE.upd rfl rfl (LeE.upd rfl rfl (LeE.none rfl rfl)))) rfl
 rintro _ _ _ ⟨rfl, rfl, rfl⟩
 refine W.now ?_
 refine Then.n ?_
 refine WP.cond (t := x9021) rfl (fun hb9025 => ?_) (fun hb9025 => ?_)
 · replace H := cnt hb9025 H
   refine WP.seq ?_
   refine WP.region ?_
   refine WPL.q (q_as (v := .lit (.int _ _)) rfl) rfl ?_
   refine WPL.nilW ?_
   refine W.now ?_
   refine Then.n ?_
   refine WP.retW ?_
   have q0 := (Option.some.inj H)
   subst q0
   exact W.now (Then.r (BodyR.mkR trivial rfl [0] ⟨rfl, rfl⟩ ⟨rfl, ⟨trivial, .inr ⟨rfl, rfl, rfl⟩⟩, by decide, rfl, ⟨trivial, rfl⟩⟩ rfl rfl))
 replace H := cnf hb9025 H
 refine WP.skipW ?_
 refine W.now ?_
 refine Then.n ?_
 refine WP.seq ?_
 refine WP.region ?_
 refine WPL.q (q_load sc66 rfl rfl rfl) rfl ?_
 refine WPL.q (q_mv (v := .lit (.int _ _)) rfl) rfl ?_
 obtain ⟨x9027, h9027, H⟩ := bnd H
 refine WPL.q (q_index_ro sl66 rfl rfl rfl h9027) rfl ?_
 refine WPL.q (q_load_sc sc3 rfl) rfl ?_
 refine WPL.q (q_as (v := .lit (.int _ _)) rfl) rfl ?_
 refine WPL.nilW ?_
 refine W.now ?_
 refine Then.n ?_
 refine WP.retW ?_
 have q0 := (Option.some.inj H)
 subst q0
 exact W.now (BodyR.mkR trivial rfl [0] ⟨rfl, rfl⟩ ⟨rfl, ⟨trivial, .inr ⟨rfl, rfl, rfl⟩⟩, by decide, rfl, ⟨trivial, rfl⟩⟩ rfl rfl)
set_option maxRecDepth 100000 in
set_option maxHeartbeats 4000000 in
theorem s_deflate_Lengths_1__b (k : Nat) (x9128 : Int) (x9129 : Int) (x9130 : (List Int)) (x9131 : (List Int)) (H : g_deflate_Lengths_1__b k x9128 x9129 x9130 x9131 = some ()) : Go.Q.Spec Try.prog 62 2 [.lit (.int .i64 x9128), .lit (.int .i64 x9129), .ptr 0 0, .ptr 1 0] ((((Mem.nil.push (.cells 66 [.whole 2])).push (.cells 66 [.whole 3])).push (.row 3 (Rd.int .i64) x9130)).push (.row 3 (Rd.int .i64) x9131)) (fun o M => o = .ret (.tup []) ∧ M = ((((Mem.nil.push (.cells 66 [.whole 2])).push (.cells 66 [.whole 3])).push (.row 3 (Rd.int .i64) (x9130 ++ ([x9128] : List Int)))).push (.row 3 (Rd.int .i64) (x9131 ++ ([x9129] : List Int))))) := by
 unfold g_deflate_Lengths_1__b at H
 refine Go.Q.Spec.of_bodyR (az := []) (rs := []) (nt := 14) Try.func62 rfl rfl (by intro t T h; simp at h) rfl rfl fun cx hnp => ?_
 refine WP.regionD' 10 [0, 1] [8] mixed rfl ?_
 refine WPD.takeT 1 rfl (by kernel_rfl) (q_mv (v := .lit (.int _ _)) rfl) rfl ?_
 refine WPD.takeT 5 rfl (by kernel_rfl) (q_mv (v := .lit (.int _ _)) rfl) rfl ?_
 refine WPD.take 0 rfl (by kernel_rfl) (q_load sc66 rfl rfl rfl) rfl rfl ?_
 refine WPD.take 4 rfl (by kernel_rfl) (q_load sc66 rfl rfl rfl) rfl rfl ?_
 refine WPD.of2 2 6 (by kernel_rfl) ?_ ?_
 · refine WPD1.eff 2 [0, 1] [8] rfl (Does.runs (d_buildSlice (ds := ([x9128] : List Int)) (R := (Rd.int .i64)) li66 rfl rfl rfl rfl rfl (JoinRows.cons1 Joins.sc rfl JoinRows.nil) rfl rfl)) rfl rfl ?_
   refine WPD.of2 3 6 (by kernel_rfl) ?_ ?_
   · obtain ⟨h9154, H⟩ := grd H
     refine WPD1.eff 3 [0, 1] [8] rfl (Does.runs (d_append ap66 rfl rfl rfl rfl (src_row sl66 rfl rfl) h9154 rfl)) rfl rfl ?_
     refine WPD.eff 6 [0, 1] [8] rfl (by kernel_rfl) (Does.runs (d_buildSlice (ds := ([x9129] : List Int)) (R := (Rd.int .i64)) li66 rfl rfl rfl rfl rfl (JoinRows.cons1 Joins.sc rfl JoinRows.nil) rfl rfl)) rfl rfl ?_
     obtain ⟨h9155, H⟩ := grd H
     refine WPD.eff 7 [0, 1] [8] rfl (by kernel_rfl) (Does.runs (d_append ap66 rfl rfl rfl rfl (src_row sl66 rfl rfl) h9155 rfl)) rfl rfl ?_
     refine WPD.effS 8 [] [] rfl (by kernel_rfl) (s_store sz66 rfl rfl rfl rfl rfl) rfl ?_
     refine WPD.effS 9 [] [] rfl (by kernel_rfl) (s_store sz66 rfl rfl rfl rfl rfl) rfl ?_
     refine WPD.doneW (by kernel_rfl) ?_
     exact W.now (BodyR.mkN trivial rfl [0, 1, 5, 7] ⟨rfl, rfl⟩ ⟨rfl, ⟨⟨⟨⟨trivial, .inr ⟨rfl, rfl, rfl⟩⟩, .inr ⟨rfl, rfl, rfl⟩⟩, .inr ⟨rfl, rfl, rfl⟩⟩, .inr ⟨rfl, rfl, rfl⟩⟩, by decide, rfl, ⟨⟨trivial, rfl⟩, rfl⟩⟩ rfl rfl)
   refine WPD1.eff 6 [0, 1] [8] rfl (Does.runs (d_buildSlice (ds := ([x9129] : List Int)) (R := (Rd.int .i64)) li66 rfl rfl rfl rfl rfl (JoinRows.cons1 Joins.sc rfl JoinRows.nil) rfl rfl)) rfl rfl ?_
   obtain ⟨h9156, H⟩ := grd H
   refine WPD.eff 3 [0, 1] [8] rfl (by kernel_rfl) (Does.runs (d_append ap66 rfl rfl rfl rfl (src_row sl66 rfl rfl) h9156 rfl)) rfl rfl ?_
   obtain ⟨h9157, H⟩ := grd H
   refine WPD.eff 7 [0, 1] [8] rfl (by kernel_rfl) (Does.runs (d_append ap66 rfl rfl rfl rfl (src_row sl66 rfl rfl) h9157 rfl)) rfl rfl ?_
   refine WPD.effS 8 [] [] rfl (by kernel_rfl) (s_store sz66 rfl rfl rfl rfl rfl) rfl ?_
   refine WPD.effS 9 [] [] rfl (by kernel_rfl) (s_store sz66 rfl rfl rfl rfl rfl) rfl ?_
   refine WPD.doneW (by kernel_rfl) ?_
   exact W.now (BodyR.mkN trivial rfl [0, 1, 6, 7] ⟨rfl, rfl⟩ ⟨rfl, ⟨⟨⟨⟨trivial, .inr ⟨rfl, rfl, rfl⟩⟩, .inr ⟨rfl, rfl, rfl⟩⟩, .inr ⟨rfl, rfl, rfl⟩⟩, .inr ⟨rfl, rfl, rfl⟩⟩, by decide, rfl, ⟨⟨trivial, rfl⟩, rfl⟩⟩ rfl rfl)
 refine WPD1.eff 6 [0, 1] [8] rfl (Does.runs (d_buildSlice (ds := ([x9129] : List Int)) (R := (Rd.int .i64)) li66 rfl rfl rfl rfl rfl (JoinRows.cons1 Joins.sc rfl JoinRows.nil) rfl rfl)) rfl rfl ?_
 refine WPD.eff 2 [0, 1] [8] rfl (by kernel_rfl) (Does.runs (d_buildSlice (ds := ([x9128] : List Int)) (R := (Rd.int .i64)) li66 rfl rfl rfl rfl rfl (JoinRows.cons1 Joins.sc rfl JoinRows.nil) rfl rfl)) rfl rfl ?_
 obtain ⟨h9158, H⟩ := grd H
 refine WPD.eff 3 [0, 1] [8] rfl (by kernel_rfl) (Does.runs (d_append ap66 rfl rfl rfl rfl (src_row sl66 rfl rfl) h9158 rfl)) rfl rfl ?_
 obtain ⟨h9159, H⟩ := grd H
 refine WPD.eff 7 [0, 1] [8] rfl (by kernel_rfl) (Does.runs (d_append ap66 rfl rfl rfl rfl (src_row sl66 rfl rfl) h9159 rfl)) rfl rfl ?_
 refine WPD.effS 8 [] [] rfl (by kernel_rfl) (s_store sz66 rfl rfl rfl rfl rfl) rfl ?_
 refine WPD.effS 9 [] [] rfl (by kernel_rfl) (s_store sz66 rfl rfl rfl rfl rfl) rfl ?_
 refine WPD.doneW (by kernel_rfl) ?_
 exact W.now (BodyR.mkN trivial rfl [0, 1, 6, 7] ⟨rfl, rfl⟩ ⟨rfl, ⟨⟨⟨⟨trivial, .inr ⟨rfl, rfl, rfl⟩⟩, .inr ⟨rfl, rfl, rfl⟩⟩, .inr ⟨rfl, rfl, rfl⟩⟩, .inr ⟨rfl, rfl, rfl⟩⟩, by decide, rfl, ⟨⟨trivial, rfl⟩, rfl⟩⟩ rfl rfl)
set_option maxRecDepth 100000 in
set_option maxHeartbeats 4000000 in
theorem s_deflate_Lengths (k : Nat) (x8980 : (List Int)) (x9530 : (List Int)) (x9531 : (List Int)) (H : g_deflate_Lengths k x8980 = some (x9530, x9531)) : Go.Q.Spec Try.prog 36 0 [.ro (Rd.slice (Rd.int .i64)) false x8980] Mem.nil (fun o M => o = .ret (.tup [.ro (Rd.slice (Rd.int .i64)) false x9530, .ro (Rd.slice (Rd.int .i64)) false x9531]) ∧ M = Mem.nil) := by
 unfold g_deflate_Lengths at H
 refine Go.Q.Spec.of_bodyR (az := []) (rs := [.tmp 2, .tmp 3]) (nt := 85) Try.func36 rfl rfl (by intro t T h; simp at h) rfl rfl fun cx hnp => ?_
 refine WP.seq ?_
 refine WP.region ?_
 refine WPL.d (d_box rfl rfl) rfl ?_
 refine WPL.q (q_as (v := .lit _) rfl) rfl ?_
 refine WPL.q (q_as (v := .lit _) rfl) rfl ?_
 refine WPL.nilW ?_
 refine W.now ?_
 refine Then.n ?_
 refine WP.seq ?_
 refine WP.region ?_
 refine WPL.d (d_alloc ze66 rfl) rfl ?_
 refine WPL.d (d_alloc ze66 rfl) rfl ?_
 refine WPL.nilW ?_
 refine W.now ?_
 refine Then.n ?_
 refine WP.seq ?_
 refine WP.region ?_
 refine WPL.q (q_makeFunc) rfl ?_
 refine WPL.q (q_as (v := .fn _ _) rfl) rfl ?_
 refine WPL.nilW ?_
 refine W.now ?_
 refine Then.n ?_
 refine WP.seq ?_
 refine WP.region ?_
 refine WPL.q (q_makeFunc) rfl ?_
 refine WPL.q (q_as (v := .fn _ _) rfl) rfl ?_
 refine WPL.nilW ?_
 refine W.now ?_
 refine Then.n ?_
 refine WP.seq ?_
 refine WP.seq ?_
 refine WP.region ?_
 refine WPL.q (q_as (v := .lit (.int _ _)) rfl) rfl ?_
 refine WPL.nilW ?_
 refine W.now ?_
 refine Then.n ?_
 refine WP.block ?_
 refine WP.cv (Cv.virC 3 (Rd.int .i64) (N := 3) rfl rfl (i := 1) (off := 0) rfl rfl) ?_
 refine WP.cv (Cv.virC 3 (Rd.int .i64) (N := 4) rfl rfl (i := 2) (off := 0) rfl rfl) ?_
 refine WP.cv (Cv.weak (E' := ((((((Env.none.upd 1 (.ptr 0 0)).upd 4 (.ptr 1 0)).upd 5 (.ptr 3 0)).upd 6 (.fn 62 [.ptr 1 0, .ptr 3 0])).upd 7 (.fn 63 [.ptr 0 0])).upd 8 (.lit (.int .i64 0)))) (M' := (((((Mem.nil.push (.cells 66 [.ro (Rd.slice (Rd.int .i64)) false x8980])).push (.cells 66 [.whole 2])).push (.row 3 (Rd.int .i64) ([] : List Int))).push (.cells 66 [.whole 4])).push (.row 3 (Rd.int .i64) ([] : List Int)))) [0, 1, 3, 2, 4] hnp ⟨rfl, ⟨⟨⟨⟨⟨trivial, .inr ⟨rfl, rfl, rfl⟩⟩, .inr ⟨rfl, rfl, rfl⟩⟩, .inr ⟨rfl, rfl, rfl⟩⟩, .inr ⟨rfl, rfl, rfl⟩⟩, .inr ⟨rfl, rfl, rfl⟩⟩, by decide, rfl, trivial⟩ (LeE.upd rfl rfl (LeE.upd rfl rfl (LeE.upd rfl rfl (LeE.upd rfl rfl (LeE.upd rfl rfl (LeE.upd rfl rfl (LeE.none rfl rfl)))))))) ?_
 obtain ⟨⟨x9939, x9940⟩, H10063, H⟩ := bnd H
 refine WP.monoW (Q := fun x E M => x = .exit 0 ∧ E = ((Env.none.upd 4 (.ptr 0 0)).upd 5 (.ptr 2 0)) ∧ M = ((((Mem.nil.push (.cells 66 [.whole 1])).push (.row 3 (Rd.int .i64) x9939)).push (.cells 66 [.whole 3])).push (.row 3 (Rd.int .i64) x9940))) ?_ ?_
 · refine WP.loop (β := Int × (List Int) × (List Int)) (fun n b => g_deflate_Lengths_l0 k x8980 n b.1 b.2.1 b.2.2 = some (x9939, x9940)) (fun b => ((((((Env.none.upd 1 (.ptr 0 0)).upd 4 (.ptr 1 0)).upd 5 (.ptr 3 0)).upd 6 (.fn 62 [.ptr 1 0, .ptr 3 0])).upd 7 (.fn 63 [.ptr 0 0])).upd 8 (.lit (.int .i64 b.1)))) (fun b => (((((Mem.nil.push (.cells 66 [.ro (Rd.slice (Rd.int .i64)) false x8980])).push (.cells 66 [.whole 2])).push (.row 3 (Rd.int .i64) b.2.1)).push (.cells 66 [.whole 4])).push (.row 3 (Rd.int .i64) b.2.2))) k (0, ([] : List Int), ([] : List Int)) H10063 rfl rfl ?_
   rintro n ⟨x9835, x9836, x9837⟩ H
   obtain _ | n := n
   · exact nf rfl H
   rw [g_deflate_Lengths_l0.eq_2] at H
   show WP _ _ _ _ ((((((Env.none.upd 1 (.ptr 0 0)).upd 4 (.ptr 1 0)).upd 5 (.ptr 3 0)).upd 6 (.fn 62 [.ptr 1 0, .ptr 3 0])).upd 7 (.fn 63 [.ptr 0 0])).upd 8 (.lit (.int .i64 x9835))) (((((Mem.nil.push (.cells 66 [.ro (Rd.slice (Rd.int .i64)) false x8980])).push (.cells 66 [.whole 2])).push (.row 3 (Rd.int .i64) x9836)).push (.cells 66 [.whole 4])).push (.row 3 (Rd.int .i64) x9837)) _
   refine WP.seq ?_
   refine WP.seq ?_
   refine WP.region ?_
   refine WPL.q (q_mv (v := .lit (.int _ _)) rfl) rfl ?_
   refine WPL.q (q_load sc66 rfl rfl rfl) rfl ?_
   refine WPL.q (q_len_ro sl66 rfl) rfl ?_
   obtain ⟨x9943, h9943, H⟩ := bnd H
   refine WPL.q (q_nm (q_lss rfl rfl) (nm_bool h9943)) rfl ?_
   refine WPL.nilW ?_
   refine W.now ?_
   refine Then.n ?_
   refine WP.cond (t := x9943) rfl (fun hb9943 => ?_) (fun hb9943 => ?_)
   · replace H := cnt hb9943 H
     refine WP.skipW ?_
     refine W.now ?_
     refine Then.n ?_
     refine WP.block ?_
     refine WP.seq ?_
     refine WP.region ?_
     refine WPL.q (q_mv (v := .fn _ _) rfl) rfl ?_
     refine WPL.q (q_mv (v := .lit (.int _ _)) rfl) rfl ?_
     obtain ⟨x9946, h9944, H⟩ := bnd H
     refine WPL.c (runs_call (s := [0]) (t := [0]) (N := 5) (bor := []) fn63 rfl (s_deflate_Lengths_2 k x9835 x8980 x9946 h9944) ⟨rfl, ⟨trivial, .inr ⟨rfl, rfl, rfl⟩⟩, by decide, rfl, trivial⟩ rfl trivial (.ren rfl rfl (.ren rfl rfl .nil)) rfl ⟨trivial, rfl⟩ rfl) rfl ?_
     refine WPL.q (q_as (v := .lit (.int _ _)) rfl) rfl ?_
     refine WPL.q (q_as (v := .lit (.int _ _)) rfl) rfl ?_
     refine WPL.nilW ?_
     refine W.now ?_
     refine Then.n ?_
     refine WP.seq ?_
     refine WP.block ?_
     refine WP.cv (Cv.weak (E' := ((((((((Env.none.upd 1 (.ptr 0 0)).upd 4 (.ptr 1 0)).upd 5 (.ptr 3 0)).upd 6 (.fn 62 [.ptr 1 0, .ptr 3 0])).upd 7 (.fn 63 [.ptr 0 0])).upd 8 (.lit (.int .i64 x9835))).upd 9 (.lit (.int .i64 x9946))).upd 10 (.lit (.int .i64 1)))) (M' := (((((Mem.nil.push (.cells 66 [.ro (Rd.slice (Rd.int .i64)) false x8980])).push (.cells 66 [.whole 2])).push (.row 3 (Rd.int .i64) x9836)).push (.cells 66 [.whole 4])).push (.row 3 (Rd.int .i64) x9837))) [0, 1, 2, 3, 4] hnp ⟨rfl, ⟨⟨⟨⟨⟨trivial, .inr ⟨rfl, rfl, rfl⟩⟩, .inr ⟨rfl, rfl, rfl⟩⟩, .inr ⟨rfl, rfl, rfl⟩⟩, .inr ⟨rfl, rfl, rfl⟩⟩, .inr ⟨rfl, rfl, rfl⟩⟩, by decide, rfl, trivial⟩ (LeE.upd rfl rfl (LeE.upd rfl rfl (LeE.upd rfl rfl (LeE.upd rfl rfl (LeE.upd rfl rfl (LeE.upd rfl rfl (LeE.upd rfl rfl (LeE.upd rfl rfl (LeE.none rfl rfl)))))))))) ?_
     obtain ⟨x9992, H10014, H⟩ := bnd H
     refine WP.monoW (Q := fun x E M => x = .exit 2 ∧ E = ((((((((Env.none.upd 1 (.ptr 0 0)).upd 4 (.ptr 1 0)).upd 5 (.ptr 3 0)).upd 6 (.fn 62 [.ptr 1 0, .ptr 3 0])).upd 7 (.fn 63 [.ptr 0 0])).upd 8 (.lit (.int .i64 x9835))).upd 9 (.lit (.int .i64 x9946))).upd 10 (.lit (.int .i64 x9992))) ∧ M = (((((Mem.nil.push (.cells 66 [.ro (Rd.slice (Rd.int .i64)) false x8980])).push (.cells 66 [.whole 2])).push (.row 3 (Rd.int .i64) x9836)).push (.cells 66 [.whole 4])).push (.row 3 (Rd.int .i64) x9837))) ?_ ?_
     · refine WP.loop (β := Int) (fun n b => g_deflate_Lengths_l1 k x8980 x9835 x9946 n b = some x9992) (fun b => ((((((((Env.none.upd 1 (.ptr 0 0)).upd 4 (.ptr 1 0)).upd 5 (.ptr 3 0)).upd 6 (.fn 62 [.ptr 1 0, .ptr 3 0])).upd 7 (.fn 63 [.ptr 0 0])).upd 8 (.lit (.int .i64 x9835))).upd 9 (.lit (.int .i64 x9946))).upd 10 (.lit (.int .i64 b)))) (fun b => (((((Mem.nil.push (.cells 66 [.ro (Rd.slice (Rd.int .i64)) false x8980])).push (.cells 66 [.whole 2])).push (.row 3 (Rd.int .i64) x9836)).push (.cells 66 [.whole 4])).push (.row 3 (Rd.int .i64) x9837))) k 1 H10014 rfl rfl ?_
       rintro n x9969 H
       obtain _ | n := n
       · exact nf rfl H
       rw [g_deflate_Lengths_l1.eq_2] at H
       show WP _ _ _ _ ((((((((Env.none.upd 1 (.ptr 0 0)).upd 4 (.ptr 1 0)).upd 5 (.ptr 3 0)).upd 6 (.fn 62 [.ptr 1 0, .ptr 3 0])).upd 7 (.fn 63 [.ptr 0 0])).upd 8 (.lit (.int .i64 x9835))).upd 9 (.lit (.int .i64 x9946))).upd 10 (.lit (.int .i64 x9969))) (((((Mem.nil.push (.cells 66 [.ro (Rd.slice (Rd.int .i64)) false x8980])).push (.cells 66 [.whole 2])).push (.row 3 (Rd.int .i64) x9836)).push (.cells 66 [.whole 4])).push (.row 3 (Rd.int .i64) x9837)) _
       refine WP.seq ?_
       refine WP.seq ?_
       obtain ⟨x10008, H10012, H⟩ := bnd H
       refine WP.monoW (Q := fun x E M => x = .normal ∧ E = (((((((((Env.none.upd 1 (.ptr 0 0)).upd 4 (.ptr 1 0)).upd 5 (.ptr 3 0)).upd 6 (.fn 62 [.ptr 1 0, .ptr 3 0])).upd 7 (.fn 63 [.ptr 0 0])).upd 8 (.lit (.int .i64 x9835))).upd 9 (.lit (.int .i64 x9946))).upd 10 (.lit (.int .i64 x9969))).upd 34 (.lit (.bool x10008))) ∧ M = (((((Mem.nil.push (.cells 66 [.ro (Rd.slice (Rd.int .i64)) false x8980])).push (.cells 66 [.whole 2])).push (.row 3 (Rd.int .i64) x9836)).push (.cells 66 [.whole 4])).push (.row 3 (Rd.int .i64) x9837))) ?_ ?_
       · clear H
         have H := H10012
         clear H10012
         refine WP.region ?_
         refine WPL.q (q_mv (v := .lit (.int _ _)) rfl) rfl ?_
         refine WPL.q (q_mv (v := .lit (.int _ _)) rfl) rfl ?_
         refine WPL.q (q_add rfl rfl) rfl ?_
         refine WPL.q (q_load sc66 rfl rfl rfl) rfl ?_
         refine WPL.q (q_len_ro sl66 rfl) rfl ?_
         obtain ⟨x10009, h10009, H⟩ := bnd H
         refine WPL.q (q_nm (q_lss rfl rfl) (nm_bool h10009)) rfl ?_
         refine WPL.q (q_mv (v := .lit (.bool _)) rfl) rfl ?_
         refine WPL.split (t := 26) (b := x10009) rfl (fun hb10009 => ?_) (fun hb10009 => ?_)
         · replace H := cnt hb10009 H
           refine WPL.qg rfl rfl (lb hb10009) (q_mv (v := .fn _ _) rfl) rfl ?_
           refine WPL.qg rfl rfl (lb hb10009) (q_mv (v := .lit (.int _ _)) rfl) rfl ?_
           refine WPL.qg rfl rfl (lb hb10009) (q_mv (v := .lit (.int _ _)) rfl) rfl ?_
           refine WPL.qg rfl rfl (lb hb10009) (q_add rfl rfl) rfl ?_
           obtain ⟨x10012, h10010, H⟩ := bnd H
           refine WPL.cg rfl rfl (lb hb10009) (runs_call (s := [0]) (t := [0]) (N := 5) (bor := []) fn63 rfl (s_deflate_Lengths_2 k (IntKind.wrap .i64 (x9835 + x9969)) x8980 x10012 h10010) ⟨rfl, ⟨trivial, .inr ⟨rfl, rfl, rfl⟩⟩, by decide, rfl, trivial⟩ rfl trivial (.ren rfl rfl (.ren rfl rfl .nil)) rfl ⟨trivial, rfl⟩ rfl) rfl ?_
           refine WPL.qg rfl rfl (lb hb10009) (q_mv (v := .lit (.int _ _)) rfl) rfl ?_
           refine WPL.qg rfl rfl (lb hb10009) (q_eql rfl rfl) rfl ?_
           refine WPL.q (q_pickT (v := .lit (.bool _)) (lb hb10009) rfl) rfl ?_
           refine WPL.nilW ?_
           have q0 := (Option.some.inj H)
           subst q0
           exact W.wk [0, 1, 2, 3, 4] hnp ⟨rfl, rfl, rfl⟩ ⟨rfl, ⟨⟨⟨⟨⟨trivial, .inr ⟨rfl, rfl, rfl⟩⟩, .inr ⟨rfl, rfl, rfl⟩⟩, .inr ⟨rfl, rfl, rfl⟩⟩, .inr ⟨rfl, rfl, rfl⟩⟩, .inr ⟨rfl, rfl, rfl⟩⟩, by decide, rfl, trivial⟩ (LeE.upd rfl rfl (LeE.upd rfl rfl (LeE.upd rfl rfl (LeE.upd rfl rfl (LeE.upd rfl rfl (LeE.upd rfl rfl (LeE.upd rfl rfl (LeE.upd rfl rfl (LeE.upd rfl rfl (LeE.none rfl rfl)))))))))) rfl
         replace H := cnf hb10009 H
         refine WPL.skipg (b' := false) rfl rfl (lb hb10009) rfl rfl (.inl trivial) ?_
         refine WPL.skipg (b' := false) rfl rfl (lb hb10009) rfl rfl (.inl trivial) ?_
         refine WPL.skipg (b' := false) rfl rfl (lb hb10009) rfl rfl (.inl trivial) ?_
         refine WPL.skipg (b' := false) rfl rfl (lb hb10009) rfl rfl (.inl trivial) ?_
         refine WPL.skipg (b' := false) rfl rfl (lb hb10009) rfl rfl (SkipOkE.und rfl) ?_
         refine WPL.skipg (b' := false) rfl rfl (lb hb10009) rfl rfl (.inl trivial) ?_
         refine WPL.skipg (b' := false) rfl rfl (lb hb10009) rfl rfl (.inl trivial) ?_
         refine WPL.q (q_pickF (v := .lit (.bool _)) (lb hb10009) rfl) rfl ?_
         refine WPL.nilW ?_
         have q0 := (Option.some.inj H)
         subst q0
         exact W.wk [0, 1, 2, 3, 4] hnp ⟨rfl, rfl, rfl⟩ ⟨rfl, ⟨⟨⟨⟨⟨trivial, .inr ⟨rfl, rfl, rfl⟩⟩, .inr ⟨rfl, rfl, rfl⟩⟩, .inr ⟨rfl, rfl, rfl⟩⟩, .inr ⟨rfl, rfl, rfl⟩⟩, .inr ⟨rfl, rfl, rfl⟩⟩, by decide, rfl, trivial⟩ (LeE.upd rfl rfl (LeE.upd rfl rfl (LeE.upd rfl rfl (LeE.upd rfl rfl (LeE.upd rfl rfl (LeE.upd rfl rfl (LeE.upd rfl rfl (LeE.upd rfl rfl (LeE.upd rfl rfl (LeE.none rfl rfl)))))))))) rfl
       rintro _ _ _ ⟨rfl, rfl, rfl⟩
       refine W.now ?_
       refine Then.n ?_
       refine WP.cond (t := x10008) rfl (fun hb10013 => ?_) (fun hb10013 => ?_)
       · replace H := cnt hb10013 H
         refine WP.skipW ?_
         refine W.now ?_
         refine Then.n ?_
         refine WP.block ?_
         refine WP.region ?_
         refine WPL.q (q_mv (v := .lit (.int _ _)) rfl) rfl ?_
         refine WPL.q (q_add rfl rfl) rfl ?_
         refine WPL.q (q_as (v := .lit (.int _ _)) rfl) rfl ?_
         refine WPL.nilW ?_
         exact W.wk [0, 1, 2, 3, 4] hnp (InBlock.n (Then.n ⟨n, (IntKind.wrap .i64 (x9969 + 1)), Nat.lt_succ_self n, H, rfl, rfl⟩)) ⟨rfl, ⟨⟨⟨⟨⟨trivial, .inr ⟨rfl, rfl, rfl⟩⟩, .inr ⟨rfl, rfl, rfl⟩⟩, .inr ⟨rfl, rfl, rfl⟩⟩, .inr ⟨rfl, rfl, rfl⟩⟩, .inr ⟨rfl, rfl, rfl⟩⟩, by decide, rfl, trivial⟩ (LeE.upd rfl rfl (LeE.upd rfl rfl (LeE.upd rfl rfl (LeE.upd rfl rfl (LeE.upd rfl rfl (LeE.upd rfl rfl (LeE.upd rfl rfl (LeE.upd rfl rfl (LeE.none rfl rfl))))))))) rfl
       replace H := cnf hb10013 H
       refine WP.exitW ?_
       have q0 := (Option.some.inj H)
       subst q0
       exact W.wk [0, 1, 2, 3, 4] hnp (Then.x (Then.x ⟨rfl, rfl, rfl⟩)) ⟨rfl, ⟨⟨⟨⟨⟨trivial, .inr ⟨rfl, rfl, rfl⟩⟩, .inr ⟨rfl, rfl, rfl⟩⟩, .inr ⟨rfl, rfl, rfl⟩⟩, .inr ⟨rfl, rfl, rfl⟩⟩, .inr ⟨rfl, rfl, rfl⟩⟩, by decide, rfl, trivial⟩ (LeE.upd rfl rfl (LeE.upd rfl rfl (LeE.upd rfl rfl (LeE.upd rfl rfl (LeE.upd rfl rfl (LeE.upd rfl rfl (LeE.upd rfl rfl (LeE.upd rfl rfl (LeE.none rfl rfl))))))))) rfl
     rintro _ _ _ ⟨rfl, rfl, rfl⟩
     refine W.now ?_
     refine InBlock.x0 ?_
     refine Then.n ?_
     refine WP.seq ?_
     obtain ⟨⟨x10038, x10039, x10040⟩, H10062, H⟩ := bnd H
     refine WP.monoW (Q := fun x E M => x = .normal ∧ E = (((((((Env.none.upd 1 (.ptr 0 0)).upd 4 (.ptr 1 0)).upd 5 (.ptr 3 0)).upd 6 (.fn 62 [.ptr 1 0, .ptr 3 0])).upd 7 (.fn 63 [.ptr 0 0])).upd 8 (.lit (.int .i64 x9835))).upd 10 (.lit (.int .i64 x10038))) ∧ M = (((((Mem.nil.push (.cells 66 [.ro (Rd.slice (Rd.int .i64)) false x8980])).push (.cells 66 [.whole 2])).push (.row 3 (Rd.int .i64) x10039)).push (.cells 66 [.whole 4])).push (.row 3 (Rd.int .i64) x10040))) ?_ ?_
     · clear H
       have H := H10062
       clear H10062
       refine WP.block ?_
       refine WP.seq ?_
       obtain ⟨x10042, H10043, H⟩ := bnd H
       refine WP.monoW (Q := fun x E M => x = .normal ∧ E = (((((((((Env.none.upd 1 (.ptr 0 0)).upd 4 (.ptr 1 0)).upd 5 (.ptr 3 0)).upd 6 (.fn 62 [.ptr 1 0, .ptr 3 0])).upd 7 (.fn 63 [.ptr 0 0])).upd 8 (.lit (.int .i64 x9835))).upd 9 (.lit (.int .i64 x9946))).upd 10 (.lit (.int .i64 x9992))).upd 40 (.lit (.bool x10042))) ∧ M = (((((Mem.nil.push (.cells 66 [.ro (Rd.slice (Rd.int .i64)) false x8980])).push (.cells 66 [.whole 2])).push (.row 3 (Rd.int .i64) x9836)).push (.cells 66 [.whole 4])).push (.row 3 (Rd.int .i64) x9837))) ?_ ?_
       · clear H
         have H := H10043
         clear H10043
         refine WP.region ?_
         refine WPL.q (q_mv (v := .lit (.int _ _)) rfl) rfl ?_
         refine WPL.q (q_eql rfl rfl) rfl ?_
         refine WPL.q (q_mv (v := .lit (.bool _)) rfl) rfl ?_
         refine WPL.split (t := 43) (b := (decide (x9946 = 0))) rfl (fun hb10042 => ?_) (fun hb10042 => ?_)
         · replace H := cnt hb10042 H
           refine WPL.qg rfl rfl (lb hb10042) (q_mv (v := .lit (.int _ _)) rfl) rfl ?_
           refine WPL.qg rfl rfl (lb hb10042) (q_geq rfl rfl) rfl ?_
           refine WPL.q (q_pickT (v := .lit (.bool _)) (lb hb10042) rfl) rfl ?_
           refine WPL.q (q_as (v := .lit (.bool _)) rfl) rfl ?_
           refine WPL.nilW ?_
           have q0 := (Option.some.inj H)
           subst q0
           exact W.wk [0, 1, 2, 3, 4] hnp ⟨rfl, rfl, rfl⟩ ⟨rfl, ⟨⟨⟨⟨⟨trivial, .inr ⟨rfl, rfl, rfl⟩⟩, .inr ⟨rfl, rfl, rfl⟩⟩, .inr ⟨rfl, rfl, rfl⟩⟩, .inr ⟨rfl, rfl, rfl⟩⟩, .inr ⟨rfl, rfl, rfl⟩⟩, by decide, rfl, trivial⟩ (LeE.upd rfl rfl (LeE.upd rfl rfl (LeE.upd rfl rfl (LeE.upd rfl rfl (LeE.upd rfl rfl (LeE.upd rfl rfl (LeE.upd rfl rfl (LeE.upd rfl rfl (LeE.upd rfl rfl (LeE.none rfl rfl)))))))))) rfl
         replace H := cnf hb10042 H
         refine WPL.skipg (b' := false) rfl rfl (lb hb10042) rfl rfl (.inl trivial) ?_
         refine WPL.skipg (b' := false) rfl rfl (lb hb10042) rfl rfl (.inl trivial) ?_
         refine WPL.q (q_pickF (v := .lit (.bool _)) (lb hb10042) rfl) rfl ?_
         refine WPL.q (q_as (v := .lit (.bool _)) rfl) rfl ?_
         refine WPL.nilW ?_
         have q0 := (Option.some.inj H)
         subst q0
         exact W.wk [0, 1, 2, 3, 4] hnp ⟨rfl, rfl, rfl⟩ ⟨rfl, ⟨⟨⟨⟨⟨trivial, .inr ⟨rfl, rfl, rfl⟩⟩, .inr ⟨rfl, rfl, rfl⟩⟩, .inr ⟨rfl, rfl, rfl⟩⟩, .inr ⟨rfl, rfl, rfl⟩⟩, .inr ⟨rfl, rfl, rfl⟩⟩, by decide, rfl, trivial⟩ (LeE.upd rfl rfl (LeE.upd rfl rfl (LeE.upd rfl rfl (LeE.upd rfl rfl (LeE.upd rfl rfl (LeE.upd rfl rfl (LeE.upd rfl rfl (LeE.upd rfl rfl (LeE.upd rfl rfl (LeE.none rfl rfl)))))))))) rfl
       rintro _ _ _ ⟨rfl, rfl, rfl⟩
       refine W.now ?_
       refine Then.n ?_
       refine WP.cond (t := x10042) rfl (fun hb10044 => ?_) (fun hb10044 => ?_)
       · replace H := cnt hb10044 H
         refine WP.seq ?_
         refine WP.region ?_
         refine WPL.q (q_mv (v := .lit (.int _ _)) rfl) rfl ?_
         obtain ⟨x10046, h10046, H⟩ := bnd H
         refine WPL.q (q_nm (q_min rfl rfl) (nm_int h10046)) rfl ?_
         refine WPL.q (q_as (v := .lit (.int _ _)) rfl) rfl ?_
         refine WPL.nilW ?_
         refine W.now ?_
         refine Then.n ?_
         refine WP.region ?_
         refine WPL.q (q_mv (v := .fn _ _) rfl) rfl ?_
         refine WPL.q (q_mv (v := .lit (.int _ _)) rfl) rfl ?_
         refine WPL.q (q_sub rfl rfl) rfl ?_
         obtain ⟨_, h10046, H⟩ := bnd H
         refine WPL.c (runs_call (s := [1, 3, 2, 4]) (t := [1, 3, 5, 6]) (N := 7) (bor := []) fn62 rfl (s_deflate_Lengths_1__b k 18 (IntKind.wrap .i64 (x10046 - 11)) x9836 x9837 h10046) ⟨rfl, ⟨⟨⟨⟨trivial, .inr ⟨rfl, rfl, rfl⟩⟩, .inr ⟨rfl, rfl, rfl⟩⟩, .inr ⟨rfl, rfl, rfl⟩⟩, .inr ⟨rfl, rfl, rfl⟩⟩, by decide, rfl, trivial⟩ rfl trivial (.ren rfl rfl (.ren rfl rfl (.ren rfl rfl (.ren rfl rfl .nil)))) rfl ⟨⟨⟨⟨trivial, rfl⟩, rfl⟩, rfl⟩, rfl⟩ rfl) rfl ?_
         refine WPL.nilW ?_
         have q0 := (Prod.mk.inj (Option.some.inj H)).1
         have q1 := (Prod.mk.inj (Prod.mk.inj (Option.some.inj H)).2).1
         have q2 := (Prod.mk.inj (Prod.mk.inj (Option.some.inj H)).2).2
         subst q0
         subst q1
         subst q2
         exact W.wk [0, 1, 5, 3, 6] hnp (InBlock.n ⟨rfl, rfl, rfl⟩) ⟨rfl, ⟨⟨⟨⟨⟨trivial, .inr ⟨rfl, rfl, rfl⟩⟩, .inr ⟨rfl, rfl, rfl⟩⟩, .inr ⟨rfl, rfl, rfl⟩⟩, .inr ⟨rfl, rfl, rfl⟩⟩, .inr ⟨rfl, rfl, rfl⟩⟩, by decide, rfl, trivial⟩ (LeE.upd rfl rfl (LeE.upd rfl rfl (LeE.upd rfl rfl (LeE.upd rfl rfl (LeE.upd rfl rfl (LeE.upd rfl rfl (LeE.upd rfl rfl (LeE.none rfl rfl)))))))) rfl
       replace H := cnf hb10044 H
       refine WP.seq ?_
       obtain ⟨x10049, H10050, H⟩ := bnd H
       refine WP.monoW (Q := fun x E M => x = .normal ∧ E = (((((((((Env.none.upd 1 (.ptr 0 0)).upd 4 (.ptr 1 0)).upd 5 (.ptr 3 0)).upd 6 (.fn 62 [.ptr 1 0, .ptr 3 0])).upd 7 (.fn 63 [.ptr 0 0])).upd 8 (.lit (.int .i64 x9835))).upd 9 (.lit (.int .i64 x9946))).upd 10 (.lit (.int .i64 x9992))).upd 53 (.lit (.bool x10049))) ∧ M = (((((Mem.nil.push (.cells 66 [.ro (Rd.slice (Rd.int .i64)) false x8980])).push (.cells 66 [.whole 2])).push (.row 3 (Rd.int .i64) x9836)).push (.cells 66 [.whole 4])).push (.row 3 (Rd.int .i64) x9837))) ?_ ?_
       · clear H
         have H := H10050
         clear H10050
         refine WP.region ?_
         refine WPL.q (q_mv (v := .lit (.int _ _)) rfl) rfl ?_
         refine WPL.q (q_eql rfl rfl) rfl ?_
         refine WPL.q (q_mv (v := .lit (.bool _)) rfl) rfl ?_
         refine WPL.split (t := 56) (b := (decide (x9946 = 0))) rfl (fun hb10049 => ?_) (fun hb10049 => ?_)
         · replace H := cnt hb10049 H
           refine WPL.qg rfl rfl (lb hb10049) (q_mv (v := .lit (.int _ _)) rfl) rfl ?_
           refine WPL.qg rfl rfl (lb hb10049) (q_geq rfl rfl) rfl ?_
           refine WPL.q (q_pickT (v := .lit (.bool _)) (lb hb10049) rfl) rfl ?_
           refine WPL.q (q_as (v := .lit (.bool _)) rfl) rfl ?_
           refine WPL.nilW ?_
           have q0 := (Option.some.inj H)
           subst q0
           exact W.wk [0, 1, 2, 3, 4] hnp ⟨rfl, rfl, rfl⟩ ⟨rfl, ⟨⟨⟨⟨⟨trivial, .inr ⟨rfl, rfl, rfl⟩⟩, .inr ⟨rfl, rfl, rfl⟩⟩, .inr ⟨rfl, rfl, rfl⟩⟩, .inr ⟨rfl, rfl, rfl⟩⟩, .inr ⟨rfl, rfl, rfl⟩⟩, by decide, rfl, trivial⟩ (LeE.upd rfl rfl (LeE.upd rfl rfl (LeE.upd rfl rfl (LeE.upd rfl rfl (LeE.upd rfl rfl (LeE.upd rfl rfl (LeE.upd rfl rfl (LeE.upd rfl rfl (LeE.upd rfl rfl (LeE.none rfl rfl)))))))))) rfl
         replace H := cnf hb10049 H
         refine WPL.skipg (b' := false) rfl rfl (lb hb10049) rfl rfl (.inl trivial) ?_
         refine WPL.skipg (b' := false) rfl rfl (lb hb10049) rfl rfl (.inl trivial) ?_
         refine WPL.q (q_pickF (v := .lit (.bool _)) (lb hb10049) rfl) rfl ?_
         refine WPL.q (q_as (v := .lit (.bool _)) rfl) rfl ?_
         refine WPL.nilW ?_
         have q0 := (Option.some.inj H)
         subst q0
         exact W.wk [0, 1, 2, 3, 4] hnp ⟨rfl, rfl, rfl⟩ ⟨rfl, ⟨⟨⟨⟨⟨trivial, .inr ⟨rfl, rfl, rfl⟩⟩, .inr ⟨rfl, rfl, rfl⟩⟩, .inr ⟨rfl, rfl, rfl⟩⟩, .inr ⟨rfl, rfl, rfl⟩⟩, .inr ⟨rfl, rfl, rfl⟩⟩, by decide, rfl, trivial⟩ (LeE.upd rfl rfl (LeE.upd rfl rfl (LeE.upd rfl rfl (LeE.upd rfl rfl (LeE.upd rfl rfl (LeE.upd rfl rfl (LeE.upd rfl rfl (LeE.upd rfl rfl (LeE.upd rfl rfl (LeE.none rfl rfl)))))))))) rfl
       rintro _ _ _ ⟨rfl, rfl, rfl⟩
       refine W.now ?_
       refine Then.n ?_
       refine WP.cond (t := x10049) rfl (fun hb10051 => ?_) (fun hb10051 => ?_)
       · replace H := cnt hb10051 H
         refine WP.region ?_
         refine WPL.q (q_mv (v := .fn _ _) rfl) rfl ?_
         refine WPL.q (q_mv (v := .lit (.int _ _)) rfl) rfl ?_
         refine WPL.q (q_sub rfl rfl) rfl ?_
         obtain ⟨_, h10052, H⟩ := bnd H
         refine WPL.c (runs_call (s := [1, 3, 2, 4]) (t := [1, 3, 5, 6]) (N := 7) (bor := []) fn62 rfl (s_deflate_Lengths_1__b k 17 (IntKind.wrap .i64 (x9992 - 3)) x9836 x9837 h10052) ⟨rfl, ⟨⟨⟨⟨trivial, .inr ⟨rfl, rfl, rfl⟩⟩, .inr ⟨rfl, rfl, rfl⟩⟩, .inr ⟨rfl, rfl, rfl⟩⟩, .inr ⟨rfl, rfl, rfl⟩⟩, by decide, rfl, trivial⟩ rfl trivial (.ren rfl rfl (.ren rfl rfl (.ren rfl rfl (.ren rfl rfl .nil)))) rfl ⟨⟨⟨⟨trivial, rfl⟩, rfl⟩, rfl⟩, rfl⟩ rfl) rfl ?_
         refine WPL.nilW ?_
         have q0 := (Prod.mk.inj (Option.some.inj H)).1
         have q1 := (Prod.mk.inj (Prod.mk.inj (Option.some.inj H)).2).1
         have q2 := (Prod.mk.inj (Prod.mk.inj (Option.some.inj H)).2).2
         subst q0
         subst q1
         subst q2
         exact W.wk [0, 1, 5, 3, 6] hnp (InBlock.n ⟨rfl, rfl, rfl⟩) ⟨rfl, ⟨⟨⟨⟨⟨trivial, .inr ⟨rfl, rfl, rfl⟩⟩, .inr ⟨rfl, rfl, rfl⟩⟩, .inr ⟨rfl, rfl, rfl⟩⟩, .inr ⟨rfl, rfl, rfl⟩⟩, .inr ⟨rfl, rfl, rfl⟩⟩, by decide, rfl, trivial⟩ (LeE.upd rfl rfl (LeE.upd rfl rfl (LeE.upd rfl rfl (LeE.upd rfl rfl (LeE.upd rfl rfl (LeE.upd rfl rfl (LeE.upd rfl rfl (LeE.none rfl rfl)))))))) rfl
       replace H := cnf hb10051 H
       refine WP.seq ?_
       obtain ⟨x10055, H10056, H⟩ := bnd H
       refine WP.monoW (Q := fun x E M => x = .normal ∧ E = (((((((((Env.none.upd 1 (.ptr 0 0)).upd 4 (.ptr 1 0)).upd 5 (.ptr 3 0)).upd 6 (.fn 62 [.ptr 1 0, .ptr 3 0])).upd 7 (.fn 63 [.ptr 0 0])).upd 8 (.lit (.int .i64 x9835))).upd 9 (.lit (.int .i64 x9946))).upd 10 (.lit (.int .i64 x9992))).upd 64 (.lit (.bool x10055))) ∧ M = (((((Mem.nil.push (.cells 66 [.ro (Rd.slice (Rd.int .i64)) false x8980])).push (.cells 66 [.whole 2])).push (.row 3 (Rd.int .i64) x9836)).push (.cells 66 [.whole 4])).push (.row 3 (Rd.int .i64) x9837))) ?_ ?_
       · clear H
         have H := H10056
         clear H10056
         refine WP.region ?_
         refine WPL.q (q_mv (v := .lit (.int _ _)) rfl) rfl ?_
         refine WPL.q (q_neq rfl rfl) rfl ?_
         refine WPL.q (q_mv (v := .lit (.bool _)) rfl) rfl ?_
         refine WPL.split (t := 67) (b := (!decide (x9946 = 0))) rfl (fun hb10055 => ?_) (fun hb10055 => ?_)
         · replace H := cnt hb10055 H
           refine WPL.qg rfl rfl (lb hb10055) (q_mv (v := .lit (.int _ _)) rfl) rfl ?_
           refine WPL.qg rfl rfl (lb hb10055) (q_geq rfl rfl) rfl ?_
           refine WPL.q (q_pickT (v := .lit (.bool _)) (lb hb10055) rfl) rfl ?_
           refine WPL.q (q_as (v := .lit (.bool _)) rfl) rfl ?_
           refine WPL.nilW ?_
           have q0 := (Option.some.inj H)
           subst q0
           exact W.wk [0, 1, 2, 3, 4] hnp ⟨rfl, rfl, rfl⟩ ⟨rfl, ⟨⟨⟨⟨⟨trivial, .inr ⟨rfl, rfl, rfl⟩⟩, .inr ⟨rfl, rfl, rfl⟩⟩, .inr ⟨rfl, rfl, rfl⟩⟩, .inr ⟨rfl, rfl, rfl⟩⟩, .inr ⟨rfl, rfl, rfl⟩⟩, by decide, rfl, trivial⟩ (LeE.upd rfl rfl (LeE.upd rfl rfl (LeE.upd rfl rfl (LeE.upd rfl rfl (LeE.upd rfl rfl (LeE.upd rfl rfl (LeE.upd rfl rfl (LeE.upd rfl rfl (LeE.upd rfl rfl (LeE.none rfl rfl)))))))))) rfl
         replace H := cnf hb10055 H
         refine WPL.skipg (b' := false) rfl rfl (lb hb10055) rfl rfl (.inl trivial) ?_
         refine WPL.skipg (b' := false) rfl rfl (lb hb10055) rfl rfl (.inl trivial) ?_
         refine WPL.q (q_pickF (v := .lit (.bool _)) (lb hb10055) rfl) rfl ?_
         refine WPL.q (q_as (v := .lit (.bool _)) rfl) rfl ?_
         refine WPL.nilW ?_
         have q0 := (Option.some.inj H)
         subst q0
         exact W.wk [0, 1, 2, 3, 4] hnp ⟨rfl, rfl, rfl⟩ ⟨rfl, ⟨⟨⟨⟨⟨trivial, .inr ⟨rfl, rfl, rfl⟩⟩, .inr ⟨rfl, rfl, rfl⟩⟩, .inr ⟨rfl, rfl, rfl⟩⟩, .inr ⟨rfl, rfl, rfl⟩⟩, .inr ⟨rfl, rfl, rfl⟩⟩, by decide, rfl, trivial⟩ (LeE.upd rfl rfl (LeE.upd rfl rfl (LeE.upd rfl rfl (LeE.upd rfl rfl (LeE.upd rfl rfl (LeE.upd rfl rfl (LeE.upd rfl rfl (LeE.upd rfl rfl (LeE.upd rfl rfl (LeE.none rfl rfl)))))))))) rfl
       rintro _ _ _ ⟨rfl, rfl, rfl⟩
       refine W.now ?_
       refine Then.n ?_
       refine WP.cond (t := x10055) rfl (fun hb10057 => ?_) (fun hb10057 => ?_)
       · replace H := cnt hb10057 H
         refine WP.seq ?_
         refine WP.region ?_
         refine WPL.q (q_mv (v := .lit (.int _ _)) rfl) rfl ?_
         obtain ⟨x10059, h10059, H⟩ := bnd H
         refine WPL.q (q_nm (q_min rfl rfl) (nm_int h10059)) rfl ?_
         refine WPL.q (q_as (v := .lit (.int _ _)) rfl) rfl ?_
         refine WPL.nilW ?_
         refine W.now ?_
         refine Then.n ?_
         refine WP.seq ?_
         refine WP.region ?_
         refine WPL.q (q_mv (v := .fn _ _) rfl) rfl ?_
         refine WPL.q (q_mv (v := .lit (.int _ _)) rfl) rfl ?_
         obtain ⟨_, h10059, H⟩ := bnd H
         refine WPL.c (runs_call (s := [1, 3, 2, 4]) (t := [1, 3, 5, 6]) (N := 7) (bor := []) fn62 rfl (s_deflate_Lengths_1__b k x9946 0 x9836 x9837 h10059) ⟨rfl, ⟨⟨⟨⟨trivial, .inr ⟨rfl, rfl, rfl⟩⟩, .inr ⟨rfl, rfl, rfl⟩⟩, .inr ⟨rfl, rfl, rfl⟩⟩, .inr ⟨rfl, rfl, rfl⟩⟩, by decide, rfl, trivial⟩ rfl trivial (.ren rfl rfl (.ren rfl rfl (.ren rfl rfl (.ren rfl rfl .nil)))) rfl ⟨⟨⟨⟨trivial, rfl⟩, rfl⟩, rfl⟩, rfl⟩ rfl) rfl ?_
         refine WPL.nilW ?_
         refine W.now ?_
         refine Then.n ?_
         refine WP.region ?_
         refine WPL.q (q_mv (v := .fn _ _) rfl) rfl ?_
         refine WPL.q (q_mv (v := .lit (.int _ _)) rfl) rfl ?_
         refine WPL.q (q_sub rfl rfl) rfl ?_
         obtain ⟨_, h10060, H⟩ := bnd H
         refine WPL.c (runs_call (s := [1, 3, 5, 6]) (t := [1, 3, 7, 8]) (N := 9) (bor := []) fn62 rfl (s_deflate_Lengths_1__b k 16 (IntKind.wrap .i64 (x10059 - 4)) (x9836 ++ ([x9946] : List Int)) (x9837 ++ ([0] : List Int)) h10060) ⟨rfl, ⟨⟨⟨⟨trivial, .inr ⟨rfl, rfl, rfl⟩⟩, .inr ⟨rfl, rfl, rfl⟩⟩, .inr ⟨rfl, rfl, rfl⟩⟩, .inr ⟨rfl, rfl, rfl⟩⟩, by decide, rfl, trivial⟩ rfl trivial (.ren rfl rfl (.ren rfl rfl (.ren rfl rfl (.ren rfl rfl .nil)))) rfl ⟨⟨⟨⟨trivial, rfl⟩, rfl⟩, rfl⟩, rfl⟩ rfl) rfl ?_
         refine WPL.nilW ?_
         have q0 := (Prod.mk.inj (Option.some.inj H)).1
         have q1 := (Prod.mk.inj (Prod.mk.inj (Option.some.inj H)).2).1
         have q2 := (Prod.mk.inj (Prod.mk.inj (Option.some.inj H)).2).2
         subst q0
         subst q1
         subst q2
         exact W.wk [0, 1, 7, 3, 8] hnp (InBlock.n ⟨rfl, rfl, rfl⟩) ⟨rfl, ⟨⟨⟨⟨⟨trivial, .inr ⟨rfl, rfl, rfl⟩⟩, .inr ⟨rfl, rfl, rfl⟩⟩, .inr ⟨rfl, rfl, rfl⟩⟩, .inr ⟨rfl, rfl, rfl⟩⟩, .inr ⟨rfl, rfl, rfl⟩⟩, by decide, rfl, trivial⟩ (LeE.upd rfl rfl (LeE.upd rfl rfl (LeE.upd rfl rfl (LeE.upd rfl rfl (LeE.upd rfl rfl (LeE.upd rfl rfl (LeE.upd rfl rfl (LeE.none rfl rfl)))))))) rfl
       replace H := cnf hb10057 H
       refine WP.seq ?_
       refine WP.region ?_
       refine WPL.q (q_as (v := .lit (.int _ _)) rfl) rfl ?_
       refine WPL.nilW ?_
       refine W.now ?_
       refine Then.n ?_
       refine WP.region ?_
       refine WPL.q (q_mv (v := .fn _ _) rfl) rfl ?_
       refine WPL.q (q_mv (v := .lit (.int _ _)) rfl) rfl ?_
       obtain ⟨_, h10061, H⟩ := bnd H
       refine WPL.c (runs_call (s := [1, 3, 2, 4]) (t := [1, 3, 5, 6]) (N := 7) (bor := []) fn62 rfl (s_deflate_Lengths_1__b k x9946 0 x9836 x9837 h10061) ⟨rfl, ⟨⟨⟨⟨trivial, .inr ⟨rfl, rfl, rfl⟩⟩, .inr ⟨rfl, rfl, rfl⟩⟩, .inr ⟨rfl, rfl, rfl⟩⟩, .inr ⟨rfl, rfl, rfl⟩⟩, by decide, rfl, trivial⟩ rfl trivial (.ren rfl rfl (.ren rfl rfl (.ren rfl rfl (.ren rfl rfl .nil)))) rfl ⟨⟨⟨⟨trivial, rfl⟩, rfl⟩, rfl⟩, rfl⟩ rfl) rfl ?_
       refine WPL.nilW ?_
       have q0 := (Prod.mk.inj (Option.some.inj H)).1
       have q1 := (Prod.mk.inj (Prod.mk.inj (Option.some.inj H)).2).1
       have q2 := (Prod.mk.inj (Prod.mk.inj (Option.some.inj H)).2).2
       subst q0
       subst q1
       subst q2
       exact W.wk [0, 1, 5, 3, 6] hnp (InBlock.n ⟨rfl, rfl, rfl⟩) ⟨rfl, ⟨⟨⟨⟨⟨trivial, .inr ⟨rfl, rfl, rfl⟩⟩, .inr ⟨rfl, rfl, rfl⟩⟩, .inr ⟨rfl, rfl, rfl⟩⟩, .inr ⟨rfl, rfl, rfl⟩⟩, .inr ⟨rfl, rfl, rfl⟩⟩, by decide, rfl, trivial⟩ (LeE.upd rfl rfl (LeE.upd rfl rfl (LeE.upd rfl rfl (LeE.upd rfl rfl (LeE.upd rfl rfl (LeE.upd rfl rfl (LeE.upd rfl rfl (LeE.none rfl rfl)))))))) rfl
     rintro _ _ _ ⟨rfl, rfl, rfl⟩
     refine W.now ?_
     refine Then.n ?_
     refine WP.region ?_
     refine WPL.q (q_mv (v := .lit (.int _ _)) rfl) rfl ?_
     refine WPL.q (q_mv (v := .lit (.int _ _)) rfl) rfl ?_
     refine WPL.q (q_add rfl rfl) rfl ?_
     refine WPL.q (q_as (v := .lit (.int _ _)) rfl) rfl ?_
     refine WPL.nilW ?_
     exact W.wk [0, 1, 2, 3, 4] hnp (InBlock.n (Then.n ⟨n, ((IntKind.wrap .i64 (x9835 + x10038)), x10039, x10040), Nat.lt_succ_self n, H, rfl, rfl⟩)) ⟨rfl, ⟨⟨⟨⟨⟨trivial, .inr ⟨rfl, rfl, rfl⟩⟩, .inr ⟨rfl, rfl, rfl⟩⟩, .inr ⟨rfl, rfl, rfl⟩⟩, .inr ⟨rfl, rfl, rfl⟩⟩, .inr ⟨rfl, rfl, rfl⟩⟩, by decide, rfl, trivial⟩ (LeE.upd rfl rfl (LeE.upd rfl rfl (LeE.upd rfl rfl (LeE.upd rfl rfl (LeE.upd rfl rfl (LeE.upd rfl rfl (LeE.none rfl rfl))))))) rfl
   replace H := cnf hb9943 H
   refine WP.exitW ?_
   have q0 := (Prod.mk.inj (Option.some.inj H)).1
   have q1 := (Prod.mk.inj (Option.some.inj H)).2
   subst q0
   subst q1
   exact W.wk [1, 2, 3, 4] hnp (Then.x (Then.x ⟨rfl, rfl, rfl⟩)) ⟨rfl, ⟨⟨⟨⟨trivial, .inr ⟨rfl, rfl, rfl⟩⟩, .inr ⟨rfl, rfl, rfl⟩⟩, .inr ⟨rfl, rfl, rfl⟩⟩, .inr ⟨rfl, rfl, rfl⟩⟩, by decide, rfl, trivial⟩ (LeE.upd rfl rfl (LeE.upd rfl rfl (LeE.none rfl rfl))) rfl
 rintro _ _ _ ⟨rfl, rfl, rfl⟩
 refine W.now ?_
 refine InBlock.x0 ?_
 refine Then.n ?_
 refine WP.seq ?_
 refine WP.regionD' 4 [0, 2] [] mixed rfl ?_
 refine WPD.take 0 rfl (by kernel_rfl) (q_load sc66 rfl rfl rfl) rfl rfl ?_
 refine WPD.takeT 2 rfl (by kernel_rfl) (q_as (v := .whole _) rfl) rfl ?_
 refine WPD.take 1 rfl (by kernel_rfl) (q_load sc66 rfl rfl rfl) rfl rfl ?_
 refine WPD.takeT 3 rfl (by kernel_rfl) (q_as (v := .whole _) rfl) rfl ?_
 refine WPD.doneW (by kernel_rfl) ?_
 refine W.now ?_
 refine Then.n ?_
 refine WP.retW ?_
 refine W.cv (Cv.frzRow (i := 1) rfl rfl hnp rfl rfl) rfl ?_
 refine W.cv (Cv.frzRow (i := 3) rfl rfl hnp rfl rfl) rfl ?_
 have q0 := (Prod.mk.inj (Option.some.inj H)).1
 have q1 := (Prod.mk.inj (Option.some.inj H)).2
 subst q0
 subst q1
 exact W.now (BodyR.mkR trivial rfl [] ⟨rfl, rfl⟩ ⟨rfl, trivial, by decide, rfl, trivial⟩ rfl rfl)
set_option maxRecDepth 100000 in
set_option maxHeartbeats 4000000 in
theorem s_huff_Full (k : Nat) (x10243 : (List Int)) (x10248 : Bool) (H : g_huff_Full k x10243 = some x10248) : Go.Q.Spec Try.prog 65 0 [.ro (Rd.slice (Rd.int .i64)) false x10243] Mem.nil (fun o M => o = .ret (.lit (.bool x10248)) ∧ M = Mem.nil) := by
 unfold g_huff_Full at H
 refine Go.Q.Spec.of_bodyR (az := []) (rs := [.tmp 2]) (nt := 11) Try.func65 rfl rfl (by intro t T h; simp at h) rfl rfl fun cx hnp => ?_
 refine WP.seq ?_
 refine WP.region ?_
 refine WPL.q (q_as (v := .lit (.bool _)) rfl) rfl ?_
 refine WPL.nilW ?_
 refine W.now ?_
 refine Then.n ?_
 refine WP.seq ?_
 refine WP.region ?_
 refine WPL.q (q_mv (v := .ro _ _ _) rfl) rfl ?_
 obtain ⟨⟨x10250, x10251⟩, h10248, H⟩ := bnd H
 refine WPL.c (runs_call (s := []) (t := []) (N := 0) (bor := []) fn66 rfl (s_huff_judged k x10243 x10250 x10251 h10248) ⟨rfl, trivial, by decide, rfl, trivial⟩ rfl trivial (.ren rfl rfl .nil) rfl trivial rfl) rfl ?_
 refine WPL.q (q_mv (v := .tup _) rfl) rfl ?_
 refine WPL.q (q_extract rfl rfl) rfl ?_
 refine WPL.q (q_extract rfl rfl) rfl ?_
 refine WPL.q (q_as (v := .lit (.bool _)) rfl) rfl ?_
 refine WPL.q (q_as (v := .lit (.int _ _)) rfl) rfl ?_
 refine WPL.nilW ?_
 refine W.now ?_
 refine Then.n ?_
 refine WP.seq ?_
 refine WP.region ?_
 refine WPL.q (q_mv (v := .lit (.bool _)) rfl) rfl ?_
 refine WPL.q (q_as (v := .lit (.bool _)) rfl) rfl ?_
 refine WPL.nilW ?_
 refine W.now ?_
 refine Then.n ?_
 refine WP.retW ?_
 have q0 := (Option.some.inj H)
 subst q0
 exact W.now (BodyR.mkR trivial rfl [] ⟨rfl, rfl⟩ ⟨rfl, trivial, by decide, rfl, trivial⟩ rfl rfl)
set_option maxRecDepth 100000 in
set_option maxHeartbeats 4000000 in
theorem s_deflate_row (k : Nat) (x10085 : (List Int)) (r : (((List Int) × Bool × (List Int)) ⊕ ByteArray)) (H : g_deflate_row k x10085 = some r) : Go.Q.Spec Try.prog 38 1 [.whole 0] (Mem.nil.push (.row 3 (Rd.int .i64) x10085)) (fun o M => match (generalizing := false) r with | (Sum.inl (x10254, x10255, x10256)) => o = .ret (.tup [.ro (Rd.slice (Rd.int .i64)) false x10254, .lit (.bool x10255)]) ∧ M = (Mem.nil.push (.row 3 (Rd.int .i64) x10256)) | (Sum.inr x10257) => o = .pan (.ifc 9 (.lit (.string x10257))) ∧ M = (Mem.nil.push (.gone))) := by
 unfold g_deflate_row at H
 refine Go.Q.Spec.of_bodyR (az := []) (rs := [.tmp 2, .tmp 3]) (nt := 51) Try.func38 rfl rfl (by intro t T h; simp at h) rfl rfl fun cx hnp => ?_
 refine WP.seq ?_
 refine WP.region ?_
 refine WPL.q (q_as (v := .lit _) rfl) rfl ?_
 refine WPL.q (q_as (v := .lit (.bool _)) rfl) rfl ?_
 refine WPL.nilW ?_
 refine W.now ?_
 refine Then.n ?_
 refine WP.seq ?_
 refine WP.seq ?_
 refine WP.region ?_
 refine WPL.q (q_as (v := .lit (.int _ _)) rfl) rfl ?_
 refine WPL.q (q_as (v := .lit (.int _ _)) rfl) rfl ?_
 refine WPL.nilW ?_
 refine W.now ?_
 refine Then.n ?_
 refine WP.block ?_
 refine WP.cv (Cv.weak (E' := (((Env.none.upd 0 (.whole 0)).upd 4 (.lit (.int .i64 0))).upd 5 (.lit (.int .i64 0)))) (M' := (Mem.nil.push (.row 3 (Rd.int .i64) x10085))) [0] hnp ⟨rfl, ⟨trivial, .inr ⟨rfl, rfl, rfl⟩⟩, by decide, rfl, ⟨trivial, rfl⟩⟩ (LeE.upd rfl rfl (LeE.upd rfl rfl (LeE.upd rfl rfl (LeE.none rfl rfl))))) ?_
 obtain ⟨x10407, H10493, H⟩ := bnd H
 refine WP.monoW (Q := fun x E M => x = .exit 0 ∧ E = (Env.none.upd 0 (.whole 0)) ∧ M = (Mem.nil.push (.row 3 (Rd.int .i64) x10407))) ?_ ?_
 · refine WP.loop (β := Int × Int × (List Int)) (fun n b => g_deflate_row_l0 k n b.1 b.2.1 b.2.2 = some x10407) (fun b => (((Env.none.upd 0 (.whole 0)).upd 4 (.lit (.int .i64 b.1))).upd 5 (.lit (.int .i64 b.2.1)))) (fun b => (Mem.nil.push (.row 3 (Rd.int .i64) b.2.2))) k (0, 0, x10085) H10493 rfl rfl ?_
   rintro n ⟨x10327, x10328, x10329⟩ H
   obtain _ | n := n
   · exact nf rfl H
   rw [g_deflate_row_l0.eq_2] at H
   show WP _ _ _ _ (((Env.none.upd 0 (.whole 0)).upd 4 (.lit (.int .i64 x10327))).upd 5 (.lit (.int .i64 x10328))) (Mem.nil.push (.row 3 (Rd.int .i64) x10329)) _
   refine WP.seq ?_
   refine WP.seq ?_
   obtain ⟨x10417, H10419, H⟩ := bnd H
   refine WP.monoW (Q := fun x E M => x = .normal ∧ E = (((Env.none.upd 0 (.whole 0)).upd 4 (.lit (.int .i64 x10327))).upd 17 (.lit (.bool x10417))) ∧ M = (Mem.nil.push (.row 3 (Rd.int .i64) x10329))) ?_ ?_
   · clear H
     have H := H10419
     clear H10419
     refine WP.region ?_
     refine WPL.q (q_mv (v := .lit (.int _ _)) rfl) rfl ?_
     refine WPL.q (q_lss rfl rfl) rfl ?_
     refine WPL.q (q_mv (v := .lit (.bool _)) rfl) rfl ?_
     refine WPL.split (t := 12) (b := (decide (x10328 < 2))) rfl (fun hb10417 => ?_) (fun hb10417 => ?_)
     · replace H := cnt hb10417 H
       refine WPL.qg rfl rfl (lb hb10417) (q_mv (v := .lit (.int _ _)) rfl) rfl ?_
       refine WPL.qg rfl rfl (lb hb10417) (q_mv (v := .whole _) rfl) rfl ?_
       refine WPL.qg rfl rfl (lb hb10417) (q_len_row sl66 rfl rfl) rfl ?_
       obtain ⟨x10419, h10419, H⟩ := bnd H
       refine WPL.qg rfl rfl (lb hb10417) (q_nm (q_lss rfl rfl) (nm_bool h10419)) rfl ?_
       refine WPL.q (q_pickT (v := .lit (.bool _)) (lb hb10417) rfl) rfl ?_
       refine WPL.nilW ?_
       have q0 := (Option.some.inj H)
       subst q0
       exact W.wk [0] hnp ⟨rfl, rfl, rfl⟩ ⟨rfl, ⟨trivial, .inr ⟨rfl, rfl, rfl⟩⟩, by decide, rfl, ⟨trivial, rfl⟩⟩ (LeE.upd rfl rfl (LeE.upd rfl rfl (LeE.upd rfl rfl (LeE.none rfl rfl)))) rfl
     replace H := cnf hb10417 H
     refine WPL.skipg (b' := false) rfl rfl (lb hb10417) rfl rfl (.inl trivial) ?_
     refine WPL.skipg (b' := false) rfl rfl (lb hb10417) rfl rfl (.inl trivial) ?_
     refine WPL.skipg (b' := false) rfl rfl (lb hb10417) rfl rfl (.inl trivial) ?_
     refine WPL.skipg (b' := false) rfl rfl (lb hb10417) rfl rfl (.inl trivial) ?_
     refine WPL.q (q_pickF (v := .lit (.bool _)) (lb hb10417) rfl) rfl ?_
     refine WPL.nilW ?_
     have q0 := (Option.some.inj H)
     subst q0
     exact W.wk [0] hnp ⟨rfl, rfl, rfl⟩ ⟨rfl, ⟨trivial, .inr ⟨rfl, rfl, rfl⟩⟩, by decide, rfl, ⟨trivial, rfl⟩⟩ (LeE.upd rfl rfl (LeE.upd rfl rfl (LeE.upd rfl rfl (LeE.none rfl rfl)))) rfl
   rintro _ _ _ ⟨rfl, rfl, rfl⟩
   refine W.now ?_
   refine Then.n ?_
   refine WP.cond (t := x10417) rfl (fun hb10420 => ?_) (fun hb10420 => ?_)
   · replace H := cnt hb10420 H
     refine WP.skipW ?_
     refine W.now ?_
     refine Then.n ?_
     refine WP.seq ?_
     obtain ⟨⟨x10452, x10453⟩, H10492, H⟩ := bnd H
     refine WP.monoW (Q := fun x E M => x = .normal ∧ E = (((Env.none.upd 0 (.whole 0)).upd 4 (.lit (.int .i64 x10327))).upd 5 (.lit (.int .i64 x10452))) ∧ M = (Mem.nil.push (.row 3 (Rd.int .i64) x10453))) ?_ ?_
     · clear H
       have H := H10492
       clear H10492
       refine WP.block ?_
       refine WP.seq ?_
       refine WP.region ?_
       refine WPL.q (q_as (v := .lit (.int _ _)) rfl) rfl ?_
       refine WPL.nilW ?_
       refine W.now ?_
       refine Then.n ?_
       refine WP.seq ?_
       refine WP.seq ?_
       refine WP.region ?_
       refine WPL.q (q_mv (v := .whole _) rfl) rfl ?_
       refine WPL.q (q_len_row sl66 rfl rfl) rfl ?_
       refine WPL.q (q_mv (v := .lit (.int _ _)) rfl) rfl ?_
       refine WPL.nilW ?_
       refine W.now ?_
       refine Then.n ?_
       refine WP.block ?_
       refine WP.cv (Cv.weak (E' := ((((((Env.none.upd 0 (.whole 0)).upd 4 (.lit (.int .i64 x10327))).upd 5 (.lit (.int .i64 0))).upd 20 (.whole 0)).upd 21 (.lit (.int .i64 ((List.length x10329 : Nat) : Int)))).upd 22 (.lit (.int .i64 0)))) (M' := (Mem.nil.push (.row 3 (Rd.int .i64) x10329))) [0] hnp ⟨rfl, ⟨trivial, .inr ⟨rfl, rfl, rfl⟩⟩, by decide, rfl, ⟨trivial, rfl⟩⟩ (LeE.upd rfl rfl (LeE.upd rfl rfl (LeE.upd rfl rfl (LeE.upd rfl rfl (LeE.upd rfl rfl (LeE.upd rfl rfl (LeE.none rfl rfl)))))))) ?_
       obtain ⟨x10474, H10483, H⟩ := bnd H
       refine WP.monoW (Q := fun x E M => x = .exit 2 ∧ E = (((Env.none.upd 0 (.whole 0)).upd 4 (.lit (.int .i64 x10327))).upd 5 (.lit (.int .i64 x10474))) ∧ M = (Mem.nil.push (.row 3 (Rd.int .i64) x10329))) ?_ ?_
       · refine WP.loop (β := Int × Int) (fun n b => g_deflate_row_l1 k x10329 n b.1 b.2 = some x10474) (fun b => ((((((Env.none.upd 0 (.whole 0)).upd 4 (.lit (.int .i64 x10327))).upd 5 (.lit (.int .i64 b.1))).upd 20 (.whole 0)).upd 21 (.lit (.int .i64 ((List.length x10329 : Nat) : Int)))).upd 22 (.lit (.int .i64 b.2)))) (fun b => (Mem.nil.push (.row 3 (Rd.int .i64) x10329))) k (0, 0) H10483 rfl rfl ?_
         rintro n ⟨x10463, x10464⟩ H
         obtain _ | n := n
         · exact nf rfl H
         rw [g_deflate_row_l1.eq_2] at H
         show WP _ _ _ _ ((((((Env.none.upd 0 (.whole 0)).upd 4 (.lit (.int .i64 x10327))).upd 5 (.lit (.int .i64 x10463))).upd 20 (.whole 0)).upd 21 (.lit (.int .i64 ((List.length x10329 : Nat) : Int)))).upd 22 (.lit (.int .i64 x10464))) (Mem.nil.push (.row 3 (Rd.int .i64) x10329)) _
         refine WP.seq ?_
         refine WP.region ?_
         obtain ⟨x10475, h10475, H⟩ := bnd H
         refine WPL.q (q_nm (q_lss rfl rfl) (nm_bool h10475)) rfl ?_
         refine WPL.nilW ?_
         refine W.now ?_
         refine Then.n ?_
         refine WP.seq ?_
         refine WP.cond (t := x10475) rfl (fun hb10476 => ?_) (fun hb10476 => ?_)
         · replace H := cnt hb10476 H
           refine WP.skipW ?_
           refine W.now ?_
           refine Then.n ?_
           refine WP.seq ?_
           obtain ⟨x10480, H10482, H⟩ := bnd H
           refine WP.monoW (Q := fun x E M => x = .normal ∧ E = ((((((Env.none.upd 0 (.whole 0)).upd 4 (.lit (.int .i64 x10327))).upd 5 (.lit (.int .i64 x10480))).upd 20 (.whole 0)).upd 21 (.lit (.int .i64 ((List.length x10329 : Nat) : Int)))).upd 22 (.lit (.int .i64 x10464))) ∧ M = (Mem.nil.push (.row 3 (Rd.int .i64) x10329))) ?_ ?_
           · clear H
             have H := H10482
             clear H10482
             refine WP.block ?_
             refine WP.seq ?_
             refine WP.region ?_
             obtain ⟨x10481, h10481, H⟩ := bnd H
             refine WPL.q (q_index_row sl66 rfl rfl rfl (ixs h10481)) rfl ?_
             refine WPL.q (q_load_row (j := (Int.toNat x10464)) sc3 rfl rfl (ixj h10481)) rfl ?_
             refine WPL.q (q_as (v := .lit (.int _ _)) rfl) rfl ?_
             refine WPL.nilW ?_
             refine W.now ?_
             refine Then.n ?_
             refine WP.seq ?_
             refine WP.region ?_
             refine WPL.q (q_mv (v := .lit (.int _ _)) rfl) rfl ?_
             refine WPL.q (q_gtr rfl rfl) rfl ?_
             refine WPL.nilW ?_
             refine W.now ?_
             refine Then.n ?_
             refine WP.cond (t := (decide (0 < x10481))) rfl (fun hb10481 => ?_) (fun hb10481 => ?_)
             · replace H := cnt hb10481 H
               refine WP.region ?_
               refine WPL.q (q_mv (v := .lit (.int _ _)) rfl) rfl ?_
               refine WPL.q (q_add rfl rfl) rfl ?_
               refine WPL.q (q_as (v := .lit (.int _ _)) rfl) rfl ?_
               refine WPL.nilW ?_
               have q0 := (Option.some.inj H)
               subst q0
               exact W.wk [0] hnp (InBlock.n ⟨rfl, rfl, rfl⟩) ⟨rfl, ⟨trivial, .inr ⟨rfl, rfl, rfl⟩⟩, by decide, rfl, ⟨trivial, rfl⟩⟩ (LeE.upd rfl rfl (LeE.upd rfl rfl (LeE.upd rfl rfl (LeE.upd rfl rfl (LeE.upd rfl rfl (LeE.upd rfl rfl (LeE.none rfl rfl))))))) rfl
             replace H := cnf hb10481 H
             refine WP.skipW ?_
             have q0 := (Option.some.inj H)
             subst q0
             exact W.wk [0] hnp (InBlock.n ⟨rfl, rfl, rfl⟩) ⟨rfl, ⟨trivial, .inr ⟨rfl, rfl, rfl⟩⟩, by decide, rfl, ⟨trivial, rfl⟩⟩ (LeE.upd rfl rfl (LeE.upd rfl rfl (LeE.upd rfl rfl (LeE.upd rfl rfl (LeE.upd rfl rfl (LeE.upd rfl rfl (LeE.none rfl rfl))))))) rfl
           rintro _ _ _ ⟨rfl, rfl, rfl⟩
           refine W.now ?_
           refine Then.n ?_
           refine WP.region ?_
           refine WPL.q (q_add rfl rfl) rfl ?_
           refine WPL.q (q_mv (v := .lit (.int _ _)) rfl) rfl ?_
           refine WPL.nilW ?_
           exact W.wk [0] hnp (Then.n ⟨n, (x10480, (IntKind.wrap .i64 (x10464 + 1))), Nat.lt_succ_self n, H, rfl, rfl⟩) ⟨rfl, ⟨trivial, .inr ⟨rfl, rfl, rfl⟩⟩, by decide, rfl, ⟨trivial, rfl⟩⟩ (LeE.upd rfl rfl (LeE.upd rfl rfl (LeE.upd rfl rfl (LeE.upd rfl rfl (LeE.upd rfl rfl (LeE.upd rfl rfl (LeE.none rfl rfl))))))) rfl
         replace H := cnf hb10476 H
         refine WP.exitW ?_
         have q0 := (Option.some.inj H)
         subst q0
         exact W.wk [0] hnp (Then.x (Then.x ⟨rfl, rfl, rfl⟩)) ⟨rfl, ⟨trivial, .inr ⟨rfl, rfl, rfl⟩⟩, by decide, rfl, ⟨trivial, rfl⟩⟩ (LeE.upd rfl rfl (LeE.upd rfl rfl (LeE.upd rfl rfl (LeE.none rfl rfl)))) rfl
       rintro _ _ _ ⟨rfl, rfl, rfl⟩
       refine W.now ?_
       refine InBlock.x0 ?_
       refine Then.n ?_
       refine WP.seq ?_
       obtain ⟨x10487, H10489, H⟩ := bnd H
       refine WP.monoW (Q := fun x E M => x = .normal ∧ E = ((((Env.none.upd 0 (.whole 0)).upd 4 (.lit (.int .i64 x10327))).upd 5 (.lit (.int .i64 x10474))).upd 39 (.lit (.bool x10487))) ∧ M = (Mem.nil.push (.row 3 (Rd.int .i64) x10329))) ?_ ?_
       · clear H
         have H := H10489
         clear H10489
         refine WP.region ?_
         refine WPL.q (q_mv (v := .lit (.int _ _)) rfl) rfl ?_
         refine WPL.q (q_lss rfl rfl) rfl ?_
         refine WPL.q (q_mv (v := .lit (.bool _)) rfl) rfl ?_
         refine WPL.split (t := 33) (b := (decide (x10474 < 2))) rfl (fun hb10487 => ?_) (fun hb10487 => ?_)
         · replace H := cnt hb10487 H
           refine WPL.qg rfl rfl (lb hb10487) (q_mv (v := .whole _) rfl) rfl ?_
           refine WPL.qg rfl rfl (lb hb10487) (q_mv (v := .lit (.int _ _)) rfl) rfl ?_
           obtain ⟨x10489, h10489, H⟩ := bnd H
           refine WPL.qg rfl rfl (lb hb10487) (q_index_row sl66 rfl rfl rfl (ixs h10489)) rfl ?_
           refine WPL.qg rfl rfl (lb hb10487) (q_load_row (j := (Int.toNat x10327)) sc3 rfl rfl (ixj h10489)) rfl ?_
           refine WPL.qg rfl rfl (lb hb10487) (q_eql rfl rfl) rfl ?_
           refine WPL.q (q_pickT (v := .lit (.bool _)) (lb hb10487) rfl) rfl ?_
           refine WPL.nilW ?_
           have q0 := (Option.some.inj H)
           subst q0
           exact W.wk [0] hnp ⟨rfl, rfl, rfl⟩ ⟨rfl, ⟨trivial, .inr ⟨rfl, rfl, rfl⟩⟩, by decide, rfl, ⟨trivial, rfl⟩⟩ (LeE.upd rfl rfl (LeE.upd rfl rfl (LeE.upd rfl rfl (LeE.upd rfl rfl (LeE.none rfl rfl))))) rfl
         replace H := cnf hb10487 H
         refine WPL.skipg (b' := false) rfl rfl (lb hb10487) rfl rfl (.inl trivial) ?_
         refine WPL.skipg (b' := false) rfl rfl (lb hb10487) rfl rfl (.inl trivial) ?_
         refine WPL.skipg (b' := false) rfl rfl (lb hb10487) rfl rfl (.inl trivial) ?_
         refine WPL.skipg (b' := false) rfl rfl (lb hb10487) rfl rfl (.inl trivial) ?_
         refine WPL.skipg (b' := false) rfl rfl (lb hb10487) rfl rfl (.inl trivial) ?_
         refine WPL.q (q_pickF (v := .lit (.bool _)) (lb hb10487) rfl) rfl ?_
         refine WPL.nilW ?_
         have q0 := (Option.some.inj H)
         subst q0
         exact W.wk [0] hnp ⟨rfl, rfl, rfl⟩ ⟨rfl, ⟨trivial, .inr ⟨rfl, rfl, rfl⟩⟩, by decide, rfl, ⟨trivial, rfl⟩⟩ (LeE.upd rfl rfl (LeE.upd rfl rfl (LeE.upd rfl rfl (LeE.upd rfl rfl (LeE.none rfl rfl))))) rfl
       rintro _ _ _ ⟨rfl, rfl, rfl⟩
       refine W.now ?_
       refine Then.n ?_
       refine WP.cond (t := x10487) rfl (fun hb10490 => ?_) (fun hb10490 => ?_)
       · replace H := cnt hb10490 H
         refine WP.region ?_
         refine WPL.q (q_mv (v := .whole _) rfl) rfl ?_
         refine WPL.q (q_mv (v := .lit (.int _ _)) rfl) rfl ?_
         obtain ⟨x10492, h10492, H⟩ := bnd H
         refine WPL.q (q_index_row sl66 rfl rfl rfl (ixs h10492)) rfl ?_
         refine WPL.s (s_store_row (j := (Int.toNat x10327)) (d := 1) sz3 rfl rfl rfl rfl Joins.sc (ixl h10492)) ?_
         refine WPL.nilW ?_
         have q0 := (Prod.mk.inj (Option.some.inj H)).1
         have q1 := (Prod.mk.inj (Option.some.inj H)).2
         subst q0
         subst q1
         exact W.wk [0] hnp (InBlock.n ⟨rfl, rfl, rfl⟩) ⟨rfl, ⟨trivial, .inr ⟨rfl, rfl, rfl⟩⟩, by decide, rfl, ⟨trivial, rfl⟩⟩ (LeE.upd rfl rfl (LeE.upd rfl rfl (LeE.upd rfl rfl (LeE.none rfl rfl)))) rfl
       replace H := cnf hb10490 H
       refine WP.skipW ?_
       have q0 := (Prod.mk.inj (Option.some.inj H)).1
       have q1 := (Prod.mk.inj (Option.some.inj H)).2
       subst q0
       subst q1
       exact W.wk [0] hnp (InBlock.n ⟨rfl, rfl, rfl⟩) ⟨rfl, ⟨trivial, .inr ⟨rfl, rfl, rfl⟩⟩, by decide, rfl, ⟨trivial, rfl⟩⟩ (LeE.upd rfl rfl (LeE.upd rfl rfl (LeE.upd rfl rfl (LeE.none rfl rfl)))) rfl
     rintro _ _ _ ⟨rfl, rfl, rfl⟩
     refine W.now ?_
     refine Then.n ?_
     refine WP.region ?_
     refine WPL.q (q_mv (v := .lit (.int _ _)) rfl) rfl ?_
     refine WPL.q (q_add rfl rfl) rfl ?_
     refine WPL.q (q_as (v := .lit (.int _ _)) rfl) rfl ?_
     refine WPL.nilW ?_
     exact W.wk [0] hnp (Then.n ⟨n, ((IntKind.wrap .i64 (x10327 + 1)), x10452, x10453), Nat.lt_succ_self n, H, rfl, rfl⟩) ⟨rfl, ⟨trivial, .inr ⟨rfl, rfl, rfl⟩⟩, by decide, rfl, ⟨trivial, rfl⟩⟩ (LeE.upd rfl rfl (LeE.upd rfl rfl (LeE.upd rfl rfl (LeE.none rfl rfl)))) rfl
   replace H := cnf hb10420 H
   refine WP.exitW ?_
   have q0 := (Option.some.inj H)
   subst q0
   exact W.wk [0] hnp (Then.x (Then.x ⟨rfl, rfl, rfl⟩)) ⟨rfl, ⟨trivial, .inr ⟨rfl, rfl, rfl⟩⟩, by decide, rfl, ⟨trivial, rfl⟩⟩ (LeE.upd rfl rfl (LeE.none rfl rfl)) rfl
 rintro _ _ _ ⟨rfl, rfl, rfl⟩
 refine W.now ?_
 refine InBlock.x0 ?_
 refine Then.n ?_
 refine WP.seq ?_
 refine WP.region ?_
 refine WPL.q (q_mv (v := .whole _) rfl) rfl ?_
 obtain ⟨y10499, h10494, H⟩ := bnd H
 rcases y10499 with ⟨x10496, x10497⟩ | x10498
 · refine WPL.c (runs_call (s := []) (t := []) (N := 1) (bor := [0]) fn34 rfl (s_huff_Lengths k x10407 7 (Sum.inl (x10496, x10497)) h10494) ⟨rfl, trivial, by decide, rfl, trivial⟩ rfl ⟨trivial, rfl, rfl, trivial⟩ (.row rfl rfl (.ren rfl rfl .nil)) rfl trivial rfl) rfl ?_
   refine WPL.q (q_mv (v := .tup _) rfl) rfl ?_
   refine WPL.q (q_extract rfl rfl) rfl ?_
   refine WPL.q (q_extract rfl rfl) rfl ?_
   refine WPL.q (q_as (v := .ro _ _ _) rfl) rfl ?_
   refine WPL.q (q_as (v := .lit (.int _ _)) rfl) rfl ?_
   refine WPL.nilW ?_
   refine W.now ?_
   refine Then.n ?_
   refine WP.seq ?_
   refine WP.region ?_
   refine WPL.q (q_mv (v := .ro _ _ _) rfl) rfl ?_
   refine WPL.q (q_mv (v := .ro _ _ _) rfl) rfl ?_
   obtain ⟨x10501, h10499, H⟩ := bnd H
   refine WPL.c (runs_call (s := []) (t := []) (N := 1) (bor := []) fn65 rfl (s_huff_Full k x10496 x10501 h10499) ⟨rfl, trivial, by decide, rfl, trivial⟩ rfl trivial (.ren rfl rfl .nil) rfl trivial rfl) rfl ?_
   refine WPL.q (q_as (v := .ro _ _ _) rfl) rfl ?_
   refine WPL.q (q_as (v := .lit (.bool _)) rfl) rfl ?_
   refine WPL.nilW ?_
   refine W.now ?_
   refine Then.n ?_
   refine WP.retW ?_
   have q0 := Option.some.inj H
   subst q0
   exact W.now (BodyR.mkR trivial rfl [0] ⟨rfl, rfl⟩ ⟨rfl, ⟨trivial, .inr ⟨rfl, rfl, rfl⟩⟩, by decide, rfl, ⟨trivial, rfl⟩⟩ rfl rfl)
 refine WPL.pW (runs_callP (s := []) (t := []) (N := 1) (bor := [0]) fn34 rfl (s_huff_Lengths k x10407 7 (Sum.inr x10498) h10494) ⟨rfl, trivial, by decide, rfl, trivial⟩ rfl ⟨trivial, rfl, rfl, trivial⟩ (.row rfl rfl (.ren rfl rfl .nil)) rfl trivial rfl) ?_
 have q0 := Option.some.inj H
 subst q0
 exact W.now (Then.p (BodyR.mkP trivial [0] ⟨rfl, rfl⟩ ⟨rfl, ⟨trivial, .inl rfl⟩, by decide, rfl, ⟨trivial, rfl⟩⟩ rfl rfl))
end Go.Proofs.Ytmmeanjjfhimjaa.W
namespace Go.Proofs.Ytmmeanjjfhimjaa.W
open Go Go.Q Go.Proofs
set_option linter.unusedVariables false
set_option linter.unusedSimpArgs false
set_option maxRecDepth 100000 in
set_option maxHeartbeats 4000000 in
theorem s_deflate_dynamic (k : Nat) (x5183 : (List S_deflate_Item)) (r : (ByteArray ⊕ (List Int))) (H : g_deflate_dynamic k x5183 = some r) : Go.Q.Spec Try.prog 18 0 [.ro (Rd.slice rdS_deflate_Item) false x5183] Mem.nil (fun o M => match (generalizing := false) r with | (Sum.inl x10623) => o = .pan (.ifc 9 (.lit (.string x10623))) ∧ M = Mem.nil | (Sum.inr x10624) => o = .ret (.ro (Rd.slice (Rd.int .u8)) false x10624) ∧ M = Mem.nil) := by
 unfold g_deflate_dynamic at H
 refine Go.Q.Spec.of_bodyR (az := []) (rs := [.tmp 2]) (nt := 190) Try.func18 rfl rfl (by intro t T h; simp at h) rfl rfl fun cx hnp => ?_
 refine WP.seq ?_
 refine WP.region ?_
 refine WPL.q (q_as (v := .lit _) rfl) rfl ?_
 refine WPL.nilW ?_
 refine W.now ?_
 refine Then.n ?_
 refine WP.seq ?_
 obtain ⟨_, H10640, H⟩ := bnd H
 refine WP.monoW (Q := fun x E M => x = .normal ∧ E = (((Env.none.upd 0 (.ro (Rd.slice rdS_deflate_Item) false x5183)).upd 3 (.whole 0)).upd 4 (.whole 1)) ∧ M = ((Mem.nil.push (.row 3 (Rd.int .i64) (List.replicate (Int.toNat 286) (0 : Int)))).push (.row 3 (Rd.int .i64) (List.replicate (Int.toNat 30) (0 : Int))))) ?_ ?_
 · clear H
   have H := H10640
   clear H10640
   refine WP.regionD' 4 [] [] mixed rfl ?_
   refine WPD.of2 0 1 (by kernel_rfl) ?_ ?_
   · obtain ⟨h10636, H⟩ := grd H
     refine WPD1.eff 0 [] [] rfl (Does.runs (d_make (d := (0 : Int)) (R := (Rd.int .i64)) li66 by3 rfl rfl rfl Joins.sc rfl rfl h10636 rfl)) rfl rfl ?_
     refine WPD.takeT 2 rfl (by kernel_rfl) (q_as (v := .whole _) rfl) rfl ?_
     obtain ⟨h10637, H⟩ := grd H
     refine WPD.eff 1 [] [] rfl (by kernel_rfl) (Does.runs (d_make (d := (0 : Int)) (R := (Rd.int .i64)) li66 by3 rfl rfl rfl Joins.sc rfl rfl h10637 rfl)) rfl rfl ?_
     refine WPD.takeT 3 rfl (by kernel_rfl) (q_as (v := .whole _) rfl) rfl ?_
     refine WPD.doneW (by kernel_rfl) ?_
     exact W.wk [0, 1] hnp ⟨rfl, rfl, rfl⟩ ⟨rfl, ⟨⟨trivial, .inr ⟨rfl, rfl, rfl⟩⟩, .inr ⟨rfl, rfl, rfl⟩⟩, by decide, rfl, trivial⟩ (LeE.upd rfl rfl (LeE.upd rfl rfl (LeE.upd rfl rfl (LeE.none rfl rfl)))) rfl
   obtain ⟨h10636, H⟩ := grd H
   obtain ⟨h10638, H⟩ := grd H
   replace H := (grdI h10638 (grdI h10636 H))
   obtain ⟨h10638, H⟩ := grd H
   refine WPD1.eff 1 [] [] rfl (Does.runs (d_make (d := (0 : Int)) (R := (Rd.int .i64)) li66 by3 rfl rfl rfl Joins.sc rfl rfl h10638 rfl)) rfl rfl ?_
   obtain ⟨h10639, H⟩ := grd H
   refine WPD.eff 0 [] [] rfl (by kernel_rfl) (Does.runs (d_make (d := (0 : Int)) (R := (Rd.int .i64)) li66 by3 rfl rfl rfl Joins.sc rfl rfl h10639 rfl)) rfl rfl ?_
   refine WPD.takeT 2 rfl (by kernel_rfl) (q_as (v := .whole _) rfl) rfl ?_
   refine WPD.takeT 3 rfl (by kernel_rfl) (q_as (v := .whole _) rfl) rfl ?_
   refine WPD.doneW (by kernel_rfl) ?_
   exact W.wk [1, 0] hnp ⟨rfl, rfl, rfl⟩ ⟨rfl, ⟨⟨trivial, .inr ⟨rfl, rfl, rfl⟩⟩, .inr ⟨rfl, rfl, rfl⟩⟩, by decide, rfl, trivial⟩ (LeE.upd rfl rfl (LeE.upd rfl rfl (LeE.upd rfl rfl (LeE.none rfl rfl)))) rfl
 rintro _ _ _ ⟨rfl, rfl, rfl⟩
 refine W.now ?_
 refine Then.n ?_
 refine WP.seq ?_
 refine WP.region ?_
 refine WPL.q (q_mv (v := .whole _) rfl) rfl ?_
 obtain ⟨x10642, h10642, H⟩ := bnd H
 refine WPL.q (q_index_row sl66 rfl rfl rfl (ixs h10642)) rfl ?_
 refine WPL.s (s_store_row (j := (Int.toNat 256)) (d := 1) sz3 rfl rfl rfl rfl Joins.sc (ixl h10642)) ?_
 refine WPL.nilW ?_
 refine W.now ?_
 refine Then.n ?_
 refine WP.seq ?_
 refine WP.seq ?_
 refine WP.region ?_
 refine WPL.q (q_mv (v := .ro _ _ _) rfl) rfl ?_
 refine WPL.q (q_len_ro sl32 rfl) rfl ?_
 refine WPL.q (q_mv (v := .lit (.int _ _)) rfl) rfl ?_
 refine WPL.nilW ?_
 refine W.now ?_
 refine Then.n ?_
 refine WP.block ?_
 refine WP.cv (Cv.weak (E' := ((((((Env.none.upd 0 (.ro (Rd.slice rdS_deflate_Item) false x5183)).upd 3 (.whole 0)).upd 4 (.whole 1)).upd 33 (.ro (Rd.slice rdS_deflate_Item) false x5183)).upd 34 (.lit (.int .i64 ((List.length x5183 : Nat) : Int)))).upd 35 (.lit (.int .i64 0)))) (M' := ((Mem.nil.push (.row 3 (Rd.int .i64) (List.set (List.replicate (Int.toNat 286) (0 : Int)) (Int.toNat 256) 1))).push (.row 3 (Rd.int .i64) (List.replicate (Int.toNat 30) (0 : Int))))) [0, 1] hnp ⟨rfl, ⟨⟨trivial, .inr ⟨rfl, rfl, rfl⟩⟩, .inr ⟨rfl, rfl, rfl⟩⟩, by decide, rfl, trivial⟩ (LeE.upd rfl rfl (LeE.upd rfl rfl (LeE.upd rfl rfl (LeE.upd rfl rfl (LeE.upd rfl rfl (LeE.upd rfl rfl (LeE.none rfl rfl)))))))) ?_
 obtain ⟨⟨x10734, x10735⟩, H10779, H⟩ := bnd H
 refine WP.monoW (Q := fun x E M => x = .exit 0 ∧ E = (((Env.none.upd 0 (.ro (Rd.slice rdS_deflate_Item) false x5183)).upd 3 (.whole 0)).upd 4 (.whole 1)) ∧ M = ((Mem.nil.push (.row 3 (Rd.int .i64) x10734)).push (.row 3 (Rd.int .i64) x10735))) ?_ ?_
 · refine WP.loop (β := Int × (List Int) × (List Int)) (fun n b => g_deflate_dynamic_l0 k x5183 n b.1 b.2.1 b.2.2 = some (x10734, x10735)) (fun b => ((((((Env.none.upd 0 (.ro (Rd.slice rdS_deflate_Item) false x5183)).upd 3 (.whole 0)).upd 4 (.whole 1)).upd 33 (.ro (Rd.slice rdS_deflate_Item) false x5183)).upd 34 (.lit (.int .i64 ((List.length x5183 : Nat) : Int)))).upd 35 (.lit (.int .i64 b.1)))) (fun b => ((Mem.nil.push (.row 3 (Rd.int .i64) b.2.1)).push (.row 3 (Rd.int .i64) b.2.2))) k (0, (List.set (List.replicate (Int.toNat 286) (0 : Int)) (Int.toNat 256) 1), (List.replicate (Int.toNat 30) (0 : Int))) H10779 rfl rfl ?_
   rintro n ⟨x10687, x10688, x10689⟩ H
   obtain _ | n := n
   · exact nf rfl H
   rw [g_deflate_dynamic_l0.eq_2] at H
   show WP _ _ _ _ ((((((Env.none.upd 0 (.ro (Rd.slice rdS_deflate_Item) false x5183)).upd 3 (.whole 0)).upd 4 (.whole 1)).upd 33 (.ro (Rd.slice rdS_deflate_Item) false x5183)).upd 34 (.lit (.int .i64 ((List.length x5183 : Nat) : Int)))).upd 35 (.lit (.int .i64 x10687))) ((Mem.nil.push (.row 3 (Rd.int .i64) x10688)).push (.row 3 (Rd.int .i64) x10689)) _
   refine WP.seq ?_
   refine WP.region ?_
   obtain ⟨x10736, h10736, H⟩ := bnd H
   refine WPL.q (q_nm (q_lss rfl rfl) (nm_bool h10736)) rfl ?_
   refine WPL.nilW ?_
   refine W.now ?_
   refine Then.n ?_
   refine WP.seq ?_
   refine WP.cond (t := x10736) rfl (fun hb10737 => ?_) (fun hb10737 => ?_)
   · replace H := cnt hb10737 H
     refine WP.skipW ?_
     refine W.now ?_
     refine Then.n ?_
     refine WP.seq ?_
     obtain ⟨⟨x10758, x10759⟩, H10778, H⟩ := bnd H
     refine WP.monoW (Q := fun x E M => x = .normal ∧ E = ((((((Env.none.upd 0 (.ro (Rd.slice rdS_deflate_Item) false x5183)).upd 3 (.whole 0)).upd 4 (.whole 1)).upd 33 (.ro (Rd.slice rdS_deflate_Item) false x5183)).upd 34 (.lit (.int .i64 ((List.length x5183 : Nat) : Int)))).upd 35 (.lit (.int .i64 x10687))) ∧ M = ((Mem.nil.push (.row 3 (Rd.int .i64) x10758)).push (.row 3 (Rd.int .i64) x10759))) ?_ ?_
     · clear H
       have H := H10778
       clear H10778
       refine WP.block ?_
       refine WP.seq ?_
       refine WP.region ?_
       obtain ⟨x10760, h10760, H⟩ := bnd H
       refine WPL.q (q_index_ro sl32 rfl rfl rfl h10760) rfl ?_
       refine WPL.q (q_load_roag ag36 rfl rfl S_deflate_Item.sp) rfl ?_
       refine WPL.d (d_alloc ze36 rfl) rfl ?_
       refine WPL.s (s_store sz36 rfl rfl rfl rfl rfl) ?_
       refine WPL.nilW ?_
       refine W.now ?_
       refine Then.n ?_
       refine WP.seq ?_
       refine WP.seq ?_
       refine WP.region ?_
       refine WPL.q (q_fieldAddr fi36_1 rfl rfl) rfl ?_
       refine WPL.q (q_load sc3 rfl rfl rfl) rfl ?_
       refine WPL.q (q_eql rfl rfl) rfl ?_
       refine WPL.nilW ?_
       refine W.now ?_
       refine Then.n ?_
       refine WP.cond (t := (decide (x10760.fLen = 0))) rfl (fun hb10763 => ?_) (fun hb10763 => ?_)
       · replace H := cnt hb10763 H
         refine WP.seq ?_
         refine WP.region ?_
         refine WPL.q (q_mv (v := .whole _) rfl) rfl ?_
         refine WPL.q (q_fieldAddr fi36_0 rfl rfl) rfl ?_
         refine WPL.q (q_load sc3 rfl rfl rfl) rfl ?_
         obtain ⟨x10765, h10765, H⟩ := bnd H
         refine WPL.q (q_index_row sl66 rfl rfl rfl (ixs h10765)) rfl ?_
         refine WPL.q (q_load_row (j := (Int.toNat x10760.fByte)) sc3 rfl rfl (ixj h10765)) rfl ?_
         refine WPL.q (q_add rfl rfl) rfl ?_
         obtain ⟨x10766, h10766, H⟩ := bnd H
         refine WPL.q (q_index_row sl66 rfl rfl rfl (ixs h10766)) rfl ?_
         refine WPL.s (s_store_row (j := (Int.toNat x10760.fByte)) (d := (IntKind.wrap .i64 (x10765 + 1))) sz3 rfl rfl rfl rfl Joins.sc (ixl h10766)) ?_
         refine WPL.nilW ?_
         refine W.now ?_
         refine Then.n ?_
         refine WP.exitW ?_
         have q0 := (Prod.mk.inj (Option.some.inj H)).1
         have q1 := (Prod.mk.inj (Option.some.inj H)).2
         subst q0
         subst q1
         exact W.wk [0, 1] hnp (Then.x (InBlock.x0 ⟨rfl, rfl, rfl⟩)) ⟨rfl, ⟨⟨trivial, .inr ⟨rfl, rfl, rfl⟩⟩, .inr ⟨rfl, rfl, rfl⟩⟩, by decide, rfl, trivial⟩ (LeE.upd rfl rfl (LeE.upd rfl rfl (LeE.upd rfl rfl (LeE.upd rfl rfl (LeE.upd rfl rfl (LeE.upd rfl rfl (LeE.none rfl rfl))))))) rfl
       replace H := cnf hb10763 H
       refine WP.skipW ?_
       refine W.now ?_
       refine Then.n ?_
       refine WP.seq ?_
       refine WP.region ?_
       refine WPL.q (q_fieldAddr fi36_1 rfl rfl) rfl ?_
       refine WPL.q (q_load sc3 rfl rfl rfl) rfl ?_
       obtain ⟨⟨x10768, x10769, x10770⟩, h10766, H⟩ := bnd H
       refine WPL.c (runs_call (s := []) (t := []) (N := 3) (bor := []) fn32 rfl (s_deflate_lit k x10760.fLen x10768 x10769 x10770 h10766) ⟨rfl, trivial, by decide, rfl, trivial⟩ rfl trivial (.ren rfl rfl .nil) rfl trivial rfl) rfl ?_
       refine WPL.q (q_mv (v := .tup _) rfl) rfl ?_
       refine WPL.q (q_extract rfl rfl) rfl ?_
       refine WPL.q (q_extract rfl rfl) rfl ?_
       refine WPL.q (q_extract rfl rfl) rfl ?_
       refine WPL.q (q_as (v := .lit (.int _ _)) rfl) rfl ?_
       refine WPL.q (q_as (v := .lit (.int _ _)) rfl) rfl ?_
       refine WPL.q (q_as (v := .lit (.int _ _)) rfl) rfl ?_
       refine WPL.nilW ?_
       refine W.now ?_
       refine Then.n ?_
       refine WP.seq ?_
       refine WP.region ?_
       refine WPL.q (q_mv (v := .whole _) rfl) rfl ?_
       refine WPL.q (q_mv (v := .lit (.int _ _)) rfl) rfl ?_
       obtain ⟨x10771, h10771, H⟩ := bnd H
       refine WPL.q (q_index_row sl66 rfl rfl rfl (ixs h10771)) rfl ?_
       refine WPL.q (q_load_row (j := (Int.toNat x10768)) sc3 rfl rfl (ixj h10771)) rfl ?_
       refine WPL.q (q_add rfl rfl) rfl ?_
       obtain ⟨x10772, h10772, H⟩ := bnd H
       refine WPL.q (q_index_row sl66 rfl rfl rfl (ixs h10772)) rfl ?_
       refine WPL.s (s_store_row (j := (Int.toNat x10768)) (d := (IntKind.wrap .i64 (x10771 + 1))) sz3 rfl rfl rfl rfl Joins.sc (ixl h10772)) ?_
       refine WPL.nilW ?_
       refine W.now ?_
       refine Then.n ?_
       refine WP.seq ?_
       refine WP.region ?_
       refine WPL.q (q_fieldAddr fi36_2 rfl rfl) rfl ?_
       refine WPL.q (q_load sc3 rfl rfl rfl) rfl ?_
       obtain ⟨⟨x10774, x10775, x10776⟩, h10772, H⟩ := bnd H
       refine WPL.c (runs_call (s := []) (t := []) (N := 3) (bor := []) fn33 rfl (s_deflate_dist k x10760.fDist x10774 x10775 x10776 h10772) ⟨rfl, trivial, by decide, rfl, trivial⟩ rfl trivial (.ren rfl rfl .nil) rfl trivial rfl) rfl ?_
       refine WPL.q (q_mv (v := .tup _) rfl) rfl ?_
       refine WPL.q (q_extract rfl rfl) rfl ?_
       refine WPL.q (q_extract rfl rfl) rfl ?_
       refine WPL.q (q_extract rfl rfl) rfl ?_
       refine WPL.q (q_as (v := .lit (.int _ _)) rfl) rfl ?_
       refine WPL.nilW ?_
       refine W.now ?_
       refine Then.n ?_
       refine WP.region ?_
       refine WPL.q (q_mv (v := .whole _) rfl) rfl ?_
       refine WPL.q (q_mv (v := .lit (.int _ _)) rfl) rfl ?_
       obtain ⟨x10777, h10777, H⟩ := bnd H
       refine WPL.q (q_index_row sl66 rfl rfl rfl (ixs h10777)) rfl ?_
       refine WPL.q (q_load_row (j := (Int.toNat x10774)) sc3 rfl rfl (ixj h10777)) rfl ?_
       refine WPL.q (q_add rfl rfl) rfl ?_
       obtain ⟨x10778, h10778, H⟩ := bnd H
       refine WPL.q (q_index_row sl66 rfl rfl rfl (ixs h10778)) rfl ?_
       refine WPL.s (s_store_row (j := (Int.toNat x10774)) (d := (IntKind.wrap .i64 (x10777 + 1))) sz3 rfl rfl rfl rfl Joins.sc (ixl h10778)) ?_
       refine WPL.nilW ?_
       have q0 := (Prod.mk.inj (Option.some.inj H)).1
       have q1 := (Prod.mk.inj (Option.some.inj H)).2
       subst q0
       subst q1
       exact W.wk [0, 1] hnp (InBlock.n ⟨rfl, rfl, rfl⟩) ⟨rfl, ⟨⟨trivial, .inr ⟨rfl, rfl, rfl⟩⟩, .inr ⟨rfl, rfl, rfl⟩⟩, by decide, rfl, trivial⟩ (LeE.upd rfl rfl (LeE.upd rfl rfl (LeE.upd rfl rfl (LeE.upd rfl rfl (LeE.upd rfl rfl (LeE.upd rfl rfl (LeE.none rfl rfl))))))) rfl
     rintro _ _ _ ⟨rfl, rfl, rfl⟩
     refine W.now ?_
     refine Then.n ?_
     refine WP.region ?_
     refine WPL.q (q_add rfl rfl) rfl ?_
     refine WPL.q (q_mv (v := .lit (.int _ _)) rfl) rfl ?_
     refine WPL.nilW ?_
     exact W.wk [0, 1] hnp (Then.n ⟨n, ((IntKind.wrap .i64 (x10687 + 1)), x10758, x10759), Nat.lt_succ_self n, H, rfl, rfl⟩) ⟨rfl, ⟨⟨trivial, .inr ⟨rfl, rfl, rfl⟩⟩, .inr ⟨rfl, rfl, rfl⟩⟩, by decide, rfl, trivial⟩ (LeE.upd rfl rfl (LeE.upd rfl rfl (LeE.upd rfl rfl (LeE.upd rfl rfl (LeE.upd rfl rfl (LeE.upd rfl rfl (LeE.none rfl rfl))))))) rfl
   replace H := cnf hb10737 H
   refine WP.exitW ?_
   have q0 := (Prod.mk.inj (Option.some.inj H)).1
   have q1 := (Prod.mk.inj (Option.some.inj H)).2
   subst q0
   subst q1
   exact W.wk [0, 1] hnp (Then.x (Then.x ⟨rfl, rfl, rfl⟩)) ⟨rfl, ⟨⟨trivial, .inr ⟨rfl, rfl, rfl⟩⟩, .inr ⟨rfl, rfl, rfl⟩⟩, by decide, rfl, trivial⟩ (LeE.upd rfl rfl (LeE.upd rfl rfl (LeE.upd rfl rfl (LeE.none rfl rfl)))) rfl
 rintro _ _ _ ⟨rfl, rfl, rfl⟩
 refine W.now ?_
 refine InBlock.x0 ?_
 refine Then.n ?_
 refine WP.seq ?_
 refine WP.region ?_
 refine WPL.q (q_mv (v := .whole _) rfl) rfl ?_
 obtain ⟨y10785, h10780, H⟩ := bnd H
 rcases y10785 with ⟨x10782, x10783⟩ | x10784
 · refine WPL.c (runs_call (s := []) (t := []) (N := 2) (bor := [0]) fn34 rfl (s_huff_Lengths k x10734 15 (Sum.inl (x10782, x10783)) h10780) ⟨rfl, trivial, by decide, rfl, trivial⟩ rfl ⟨trivial, rfl, rfl, trivial⟩ (.row rfl rfl (.ren rfl rfl .nil)) rfl trivial rfl) rfl ?_
   refine WPL.q (q_mv (v := .tup _) rfl) rfl ?_
   refine WPL.q (q_extract rfl rfl) rfl ?_
   refine WPL.q (q_extract rfl rfl) rfl ?_
   refine WPL.q (q_as (v := .ro _ _ _) rfl) rfl ?_
   refine WPL.q (q_as (v := .lit (.int _ _)) rfl) rfl ?_
   refine WPL.nilW ?_
   refine W.now ?_
   refine Then.n ?_
   refine WP.seq ?_
   refine WP.region ?_
   refine WPL.q (q_mv (v := .whole _) rfl) rfl ?_
   obtain ⟨y10790, h10785, H⟩ := bnd H
   rcases y10790 with ⟨x10787, x10788⟩ | x10789
   · refine WPL.c (runs_call (s := []) (t := []) (N := 2) (bor := [1]) fn34 rfl (s_huff_Lengths k x10735 15 (Sum.inl (x10787, x10788)) h10785) ⟨rfl, trivial, by decide, rfl, trivial⟩ rfl ⟨trivial, rfl, rfl, trivial⟩ (.row rfl rfl (.ren rfl rfl .nil)) rfl trivial rfl) rfl ?_
     refine WPL.q (q_mv (v := .tup _) rfl) rfl ?_
     refine WPL.q (q_extract rfl rfl) rfl ?_
     refine WPL.q (q_extract rfl rfl) rfl ?_
     refine WPL.q (q_as (v := .ro _ _ _) rfl) rfl ?_
     refine WPL.q (q_as (v := .lit (.int _ _)) rfl) rfl ?_
     refine WPL.nilW ?_
     refine W.now ?_
     refine Then.n ?_
     refine WP.seq ?_
     refine WP.region ?_
     refine WPL.q (q_mv (v := .ro _ _ _) rfl) rfl ?_
     obtain ⟨x10792, h10790, H⟩ := bnd H
     refine WPL.c (runs_call (s := []) (t := []) (N := 2) (bor := []) fn35 rfl (s_deflate_shorter k x10782 257 x10792 h10790) ⟨rfl, trivial, by decide, rfl, trivial⟩ rfl trivial (.ren rfl rfl (.ren rfl rfl .nil)) rfl trivial rfl) rfl ?_
     refine WPL.q (q_mv (v := .ro _ _ _) rfl) rfl ?_
     obtain ⟨x10794, h10792, H⟩ := bnd H
     refine WPL.c (runs_call (s := []) (t := []) (N := 2) (bor := []) fn35 rfl (s_deflate_shorter k x10787 1 x10794 h10792) ⟨rfl, trivial, by decide, rfl, trivial⟩ rfl trivial (.ren rfl rfl (.ren rfl rfl .nil)) rfl trivial rfl) rfl ?_
     refine WPL.q (q_as (v := .ro _ _ _) rfl) rfl ?_
     refine WPL.q (q_as (v := .ro _ _ _) rfl) rfl ?_
     refine WPL.nilW ?_
     refine W.now ?_
     refine Then.n ?_
     refine WP.seq ?_
     refine WP.region ?_
     refine WPL.q (q_mv (v := .ro _ _ _) rfl) rfl ?_
     refine WPL.q (q_mv (v := .ro _ _ _) rfl) rfl ?_
     refine WPL.d (d_buildSlice (ds := ([x10792, x10794] : List (List Int))) (R := (Rd.slice (Rd.int .i64))) li120 rfl rfl rfl rfl rfl (JoinRows.cons (l := [.ro (Rd.slice (Rd.int .i64)) false x10792]) Joins.one rfl (JoinRows.cons (l := [.ro (Rd.slice (Rd.int .i64)) false x10794]) Joins.one rfl JoinRows.nil)) rfl rfl) rfl ?_
     obtain ⟨y10798, h10794, H⟩ := bnd H
     rcases y10798 with x10796 | x10797
     · refine WPL.pW (runs_callP (s := [2]) (t := [2]) (N := 3) (bor := []) fn37 rfl (s_slices_Concat_int_int k ([x10792, x10794] : List (List Int)) (Sum.inl x10796) h10794) ⟨rfl, ⟨trivial, .inr ⟨rfl, rfl, rfl⟩⟩, by decide, rfl, trivial⟩ rfl trivial (.ren rfl rfl .nil) rfl ⟨trivial, rfl⟩ rfl) ?_
       have q0 := Option.some.inj H
       subst q0
       exact W.now (Then.p (BodyR.mkP trivial [] ⟨rfl, rfl⟩ ⟨rfl, trivial, by decide, rfl, trivial⟩ rfl rfl))
     refine WPL.c (runs_call (s := [2]) (t := [2]) (N := 3) (bor := []) fn37 rfl (s_slices_Concat_int_int k ([x10792, x10794] : List (List Int)) (Sum.inr x10797) h10794) ⟨rfl, ⟨trivial, .inr ⟨rfl, rfl, rfl⟩⟩, by decide, rfl, trivial⟩ rfl trivial (.ren rfl rfl .nil) rfl ⟨trivial, rfl⟩ rfl) rfl ?_
     obtain ⟨⟨x10800, x10801⟩, h10798, H⟩ := bnd H
     refine WPL.c (runs_call (s := []) (t := []) (N := 3) (bor := []) fn36 rfl (s_deflate_Lengths k x10797 x10800 x10801 h10798) ⟨rfl, trivial, by decide, rfl, trivial⟩ rfl trivial (.ren rfl rfl .nil) rfl trivial rfl) rfl ?_
     refine WPL.q (q_mv (v := .tup _) rfl) rfl ?_
     refine WPL.q (q_extract rfl rfl) rfl ?_
     refine WPL.q (q_extract rfl rfl) rfl ?_
     refine WPL.q (q_as (v := .ro _ _ _) rfl) rfl ?_
     refine WPL.q (q_as (v := .ro _ _ _) rfl) rfl ?_
     refine WPL.nilW ?_
     refine W.now ?_
     refine Then.n ?_
     refine WP.seq ?_
     refine WP.region ?_
     obtain ⟨h10801, H⟩ := grd H
     refine WPL.d (d_make (d := (0 : Int)) (R := (Rd.int .i64)) li66 by3 rfl rfl rfl Joins.sc rfl rfl h10801 rfl) rfl ?_
     refine WPL.q (q_as (v := .whole _) rfl) rfl ?_
     refine WPL.nilW ?_
     refine W.now ?_
     refine Then.n ?_
     refine WP.seq ?_
     refine WP.seq ?_
     refine WP.region ?_
     refine WPL.q (q_mv (v := .ro _ _ _) rfl) rfl ?_
     refine WPL.q (q_len_ro sl66 rfl) rfl ?_
     refine WPL.q (q_mv (v := .lit (.int _ _)) rfl) rfl ?_
     refine WPL.nilW ?_
     refine W.now ?_
     refine Then.n ?_
     refine WP.block ?_
     refine WP.cv (Cv.weak (E' := (((((((((Env.none.upd 0 (.ro (Rd.slice rdS_deflate_Item) false x5183)).upd 10 (.ro (Rd.slice (Rd.int .i64)) false x10792)).upd 12 (.ro (Rd.slice (Rd.int .i64)) false x10794)).upd 14 (.ro (Rd.slice (Rd.int .i64)) false x10800)).upd 15 (.ro (Rd.slice (Rd.int .i64)) false x10801)).upd 16 (.whole 0)).upd 99 (.ro (Rd.slice (Rd.int .i64)) false x10800)).upd 100 (.lit (.int .i64 ((List.length x10800 : Nat) : Int)))).upd 101 (.lit (.int .i64 0)))) (M' := (Mem.nil.push (.row 3 (Rd.int .i64) (List.replicate (Int.toNat 19) (0 : Int))))) [3] hnp ⟨rfl, ⟨trivial, .inr ⟨rfl, rfl, rfl⟩⟩, by decide, rfl, trivial⟩ (LeE.upd rfl rfl (LeE.upd rfl rfl (LeE.upd rfl rfl (LeE.upd rfl rfl (LeE.upd rfl rfl (LeE.upd rfl rfl (LeE.upd rfl rfl (LeE.upd rfl rfl (LeE.upd rfl rfl (LeE.none rfl rfl))))))))))) ?_
     obtain ⟨x10817, H10823, H⟩ := bnd H
     refine WP.monoW (Q := fun x E M => x = .exit 2 ∧ E = ((((((Env.none.upd 0 (.ro (Rd.slice rdS_deflate_Item) false x5183)).upd 10 (.ro (Rd.slice (Rd.int .i64)) false x10792)).upd 12 (.ro (Rd.slice (Rd.int .i64)) false x10794)).upd 14 (.ro (Rd.slice (Rd.int .i64)) false x10800)).upd 15 (.ro (Rd.slice (Rd.int .i64)) false x10801)).upd 16 (.whole 0)) ∧ M = (Mem.nil.push (.row 3 (Rd.int .i64) x10817))) ?_ ?_
     · refine WP.loop (β := Int × (List Int)) (fun n b => g_deflate_dynamic_l1 k x10800 n b.1 b.2 = some x10817) (fun b => (((((((((Env.none.upd 0 (.ro (Rd.slice rdS_deflate_Item) false x5183)).upd 10 (.ro (Rd.slice (Rd.int .i64)) false x10792)).upd 12 (.ro (Rd.slice (Rd.int .i64)) false x10794)).upd 14 (.ro (Rd.slice (Rd.int .i64)) false x10800)).upd 15 (.ro (Rd.slice (Rd.int .i64)) false x10801)).upd 16 (.whole 0)).upd 99 (.ro (Rd.slice (Rd.int .i64)) false x10800)).upd 100 (.lit (.int .i64 ((List.length x10800 : Nat) : Int)))).upd 101 (.lit (.int .i64 b.1)))) (fun b => (Mem.nil.push (.row 3 (Rd.int .i64) b.2))) k (0, (List.replicate (Int.toNat 19) (0 : Int))) H10823 rfl rfl ?_
       rintro n ⟨x10809, x10810⟩ H
       obtain _ | n := n
       · exact nf rfl H
       rw [g_deflate_dynamic_l1.eq_2] at H
       show WP _ _ _ _ (((((((((Env.none.upd 0 (.ro (Rd.slice rdS_deflate_Item) false x5183)).upd 10 (.ro (Rd.slice (Rd.int .i64)) false x10792)).upd 12 (.ro (Rd.slice (Rd.int .i64)) false x10794)).upd 14 (.ro (Rd.slice (Rd.int .i64)) false x10800)).upd 15 (.ro (Rd.slice (Rd.int .i64)) false x10801)).upd 16 (.whole 0)).upd 99 (.ro (Rd.slice (Rd.int .i64)) false x10800)).upd 100 (.lit (.int .i64 ((List.length x10800 : Nat) : Int)))).upd 101 (.lit (.int .i64 x10809))) (Mem.nil.push (.row 3 (Rd.int .i64) x10810)) _
       refine WP.seq ?_
       refine WP.region ?_
       obtain ⟨x10818, h10818, H⟩ := bnd H
       refine WPL.q (q_nm (q_lss rfl rfl) (nm_bool h10818)) rfl ?_
       refine WPL.nilW ?_
       refine W.now ?_
       refine Then.n ?_
       refine WP.seq ?_
       refine WP.cond (t := x10818) rfl (fun hb10819 => ?_) (fun hb10819 => ?_)
       · replace H := cnt hb10819 H
         refine WP.skipW ?_
         refine W.now ?_
         refine Then.n ?_
         refine WP.seq ?_
         refine WP.block ?_
         refine WP.seq ?_
         refine WP.region ?_
         obtain ⟨x10821, h10821, H⟩ := bnd H
         refine WPL.q (q_index_ro sl66 rfl rfl rfl h10821) rfl ?_
         refine WPL.q (q_load_sc sc3 rfl) rfl ?_
         refine WPL.q (q_as (v := .lit (.int _ _)) rfl) rfl ?_
         refine WPL.nilW ?_
         refine W.now ?_
         refine Then.n ?_
         refine WP.region ?_
         refine WPL.q (q_mv (v := .whole _) rfl) rfl ?_
         refine WPL.q (q_mv (v := .lit (.int _ _)) rfl) rfl ?_
         obtain ⟨x10822, h10822, H⟩ := bnd H
         refine WPL.q (q_index_row sl66 rfl rfl rfl (ixs h10822)) rfl ?_
         refine WPL.q (q_load_row (j := (Int.toNat x10821)) sc3 rfl rfl (ixj h10822)) rfl ?_
         refine WPL.q (q_add rfl rfl) rfl ?_
         obtain ⟨x10823, h10823, H⟩ := bnd H
         refine WPL.q (q_index_row sl66 rfl rfl rfl (ixs h10823)) rfl ?_
         refine WPL.s (s_store_row (j := (Int.toNat x10821)) (d := (IntKind.wrap .i64 (x10822 + 1))) sz3 rfl rfl rfl rfl Joins.sc (ixl h10823)) ?_
         refine WPL.nilW ?_
         refine W.now ?_
         refine InBlock.n ?_
         refine Then.n ?_
         refine WP.region ?_
         refine WPL.q (q_add rfl rfl) rfl ?_
         refine WPL.q (q_mv (v := .lit (.int _ _)) rfl) rfl ?_
         refine WPL.nilW ?_
         exact W.wk [0] hnp (Then.n ⟨n, ((IntKind.wrap .i64 (x10809 + 1)), (List.set x10810 (Int.toNat x10821) (IntKind.wrap .i64 (x10822 + 1)))), Nat.lt_succ_self n, H, rfl, rfl⟩) ⟨rfl, ⟨trivial, .inr ⟨rfl, rfl, rfl⟩⟩, by decide, rfl, trivial⟩ (LeE.upd rfl rfl (LeE.upd rfl rfl (LeE.upd rfl rfl (LeE.upd rfl rfl (LeE.upd rfl rfl (LeE.upd rfl rfl (LeE.upd rfl rfl (LeE.upd rfl rfl (LeE.upd rfl rfl (LeE.none rfl rfl)))))))))) rfl
       replace H := cnf hb10819 H
       refine WP.exitW ?_
       have q0 := (Option.some.inj H)
       subst q0
       exact W.wk [0] hnp (Then.x (Then.x ⟨rfl, rfl, rfl⟩)) ⟨rfl, ⟨trivial, .inr ⟨rfl, rfl, rfl⟩⟩, by decide, rfl, trivial⟩ (LeE.upd rfl rfl (LeE.upd rfl rfl (LeE.upd rfl rfl (LeE.upd rfl rfl (LeE.upd rfl rfl (LeE.upd rfl rfl (LeE.none rfl rfl))))))) rfl
     rintro _ _ _ ⟨rfl, rfl, rfl⟩
     refine W.now ?_
     refine InBlock.x0 ?_
     refine Then.n ?_
     refine WP.seq ?_
     refine WP.region ?_
     refine WPL.q (q_mv (v := .whole _) rfl) rfl ?_
     obtain ⟨y10830, h10824, H⟩ := bnd H
     rcases y10830 with ⟨x10826, x10827, x10828⟩ | x10829
     · refine WPL.c (runs_call (s := [0]) (t := [0]) (N := 1) (bor := []) fn38 rfl (s_deflate_row k x10817 (Sum.inl (x10826, x10827, x10828)) h10824) ⟨rfl, ⟨trivial, .inr ⟨rfl, rfl, rfl⟩⟩, by decide, rfl, trivial⟩ rfl trivial (.ren rfl rfl .nil) rfl ⟨trivial, rfl⟩ rfl) rfl ?_
       refine WPL.q (q_mv (v := .tup _) rfl) rfl ?_
       refine WPL.q (q_extract rfl rfl) rfl ?_
       refine WPL.q (q_extract rfl rfl) rfl ?_
       refine WPL.q (q_as (v := .ro _ _ _) rfl) rfl ?_
       refine WPL.q (q_as (v := .lit (.bool _)) rfl) rfl ?_
       refine WPL.nilW ?_
       refine W.now ?_
       refine Then.n ?_
       refine WP.seq ?_
       refine WP.seq ?_
       refine WP.region ?_
       refine WPL.q (q_mv (v := .lit (.bool _)) rfl) rfl ?_
       refine WPL.q (q_not rfl) rfl ?_
       refine WPL.nilW ?_
       refine W.now ?_
       refine Then.n ?_
       refine WP.cond (t := (!x10827)) rfl (fun hb10831 => ?_) (fun hb10831 => ?_)
       · replace H := cnt hb10831 H
         refine WP.seq ?_
         refine WP.region ?_
         refine WPL.q (q_as (v := .lit _) rfl) rfl ?_
         refine WPL.nilW ?_
         refine W.now ?_
         refine Then.n ?_
         refine WP.retW ?_
         refine W.cv (Cv.nilRo (Rd.int .u8) false 2 rfl) rfl ?_
         have q0 := Option.some.inj H
         subst q0
         exact W.now (Then.r (BodyR.mkR trivial rfl [] ⟨rfl, rfl⟩ ⟨rfl, trivial, by decide, rfl, trivial⟩ rfl rfl))
       replace H := cnf hb10831 H
       refine WP.skipW ?_
       refine W.now ?_
       refine Then.n ?_
       refine WP.seq ?_
       refine WP.region ?_
       obtain ⟨_, h10832, H⟩ := bnd H
       refine WPL.c (runs_call (s := []) (t := [1]) (N := 2) (bor := []) fn23 rfl (s_bits_NewWriter k h10832) ⟨rfl, trivial, by decide, rfl, trivial⟩ rfl trivial .nil rfl ⟨trivial, rfl⟩ rfl) rfl ?_
       refine WPL.q (q_as (v := .ptr _ _) rfl) rfl ?_
       refine WPL.nilW ?_
       refine W.now ?_
       refine Then.n ?_
       refine WP.seq ?_
       refine WP.region ?_
       refine WPL.q (q_mv (v := .ptr _ _) rfl) rfl ?_
       obtain ⟨⟨x10835, x10836, x10837⟩, h10833, H⟩ := bnd H
       refine WPL.c (runs_call (s := [1]) (t := [1, 2]) (N := 3) (bor := []) fn24 rfl (s_bits_Writer_Put k 5 3 0 x10835 x10836 x10837 h10833) ⟨rfl, ⟨trivial, .inr ⟨rfl, rfl, rfl⟩⟩, by decide, rfl, trivial⟩ rfl trivial (.ren rfl rfl (.ren rfl rfl (.ren rfl rfl .nil))) rfl ⟨⟨trivial, rfl⟩, rfl⟩ rfl) rfl ?_
       refine WPL.nilW ?_
       refine W.now ?_
       refine Then.n ?_
       refine WP.seq ?_
       refine WP.region ?_
       refine WPL.q (q_mv (v := .ptr _ _) rfl) rfl ?_
       refine WPL.q (q_mv (v := .ro _ _ _) rfl) rfl ?_
       refine WPL.q (q_len_ro sl66 rfl) rfl ?_
       obtain ⟨x10838, h10838, H⟩ := bnd H
       refine WPL.q (q_nm (q_sub rfl rfl) (nm_int h10838)) rfl ?_
       refine WPL.q (q_conv Try.underlying3 Try.underlying50 rfl) rfl ?_
       obtain ⟨⟨x10840, x10841, x10842⟩, h10838, H⟩ := bnd H
       refine WPL.c (runs_call (s := [1, 2]) (t := [1, 3]) (N := 4) (bor := []) fn24 rfl (s_bits_Writer_Put__b k (IntKind.wrap .u32 x10838) 5 x10836 x10837 x10840 x10841 x10842 h10838) ⟨rfl, ⟨⟨trivial, .inr ⟨rfl, rfl, rfl⟩⟩, .inr ⟨rfl, rfl, rfl⟩⟩, by decide, rfl, trivial⟩ rfl trivial (.ren rfl rfl (.ren rfl rfl (.ren rfl rfl .nil))) rfl ⟨⟨trivial, rfl⟩, rfl⟩ rfl) rfl ?_
       refine WPL.nilW ?_
       refine W.now ?_
       refine Then.n ?_
       refine WP.seq ?_
       refine WP.region ?_
       refine WPL.q (q_mv (v := .ptr _ _) rfl) rfl ?_
       refine WPL.q (q_mv (v := .ro _ _ _) rfl) rfl ?_
       refine WPL.q (q_len_ro sl66 rfl) rfl ?_
       obtain ⟨x10843, h10843, H⟩ := bnd H
       refine WPL.q (q_nm (q_sub rfl rfl) (nm_int h10843)) rfl ?_
       refine WPL.q (q_conv Try.underlying3 Try.underlying50 rfl) rfl ?_
       obtain ⟨⟨x10845, x10846, x10847⟩, h10843, H⟩ := bnd H
       refine WPL.c (runs_call (s := [1, 3]) (t := [1, 4]) (N := 5) (bor := []) fn24 rfl (s_bits_Writer_Put__b k (IntKind.wrap .u32 x10843) 5 x10841 x10842 x10845 x10846 x10847 h10843) ⟨rfl, ⟨⟨trivial, .inr ⟨rfl, rfl, rfl⟩⟩, .inr ⟨rfl, rfl, rfl⟩⟩, by decide, rfl, trivial⟩ rfl trivial (.ren rfl rfl (.ren rfl rfl (.ren rfl rfl .nil))) rfl ⟨⟨trivial, rfl⟩, rfl⟩ rfl) rfl ?_
       refine WPL.nilW ?_
       refine W.now ?_
       refine Then.n ?_
       refine WP.seq ?_
       refine WP.region ?_
       refine WPL.q (q_mv (v := .ptr _ _) rfl) rfl ?_
       obtain ⟨⟨x10849, x10850, x10851⟩, h10847, H⟩ := bnd H
       refine WPL.c (runs_call (s := [1, 4]) (t := [1, 5]) (N := 6) (bor := []) fn24 rfl (s_bits_Writer_Put__b k 15 4 x10846 x10847 x10849 x10850 x10851 h10847) ⟨rfl, ⟨⟨trivial, .inr ⟨rfl, rfl, rfl⟩⟩, .inr ⟨rfl, rfl, rfl⟩⟩, by decide, rfl, trivial⟩ rfl trivial (.ren rfl rfl (.ren rfl rfl (.ren rfl rfl .nil))) rfl ⟨⟨trivial, rfl⟩, rfl⟩ rfl) rfl ?_
       refine WPL.nilW ?_
       refine W.now ?_
       refine Then.n ?_
       refine WP.seq ?_
       refine WP.seq ?_
       refine WP.region ?_
       refine WPL.q (q_buildC (l := [.lit (.int .i64 (List.getD ([16, 17, 18, 0, 8, 7, 9, 6, 10, 5, 11, 4, 12, 3, 13, 2, 14, 1, 15] : List Int) 0 (0 : Int))), .lit (.int .i64 (List.getD ([16, 17, 18, 0, 8, 7, 9, 6, 10, 5, 11, 4, 12, 3, 13, 2, 14, 1, 15] : List Int) 1 (0 : Int))), .lit (.int .i64 (List.getD ([16, 17, 18, 0, 8, 7, 9, 6, 10, 5, 11, 4, 12, 3, 13, 2, 14, 1, 15] : List Int) 2 (0 : Int))), .lit (.int .i64 (List.getD ([16, 17, 18, 0, 8, 7, 9, 6, 10, 5, 11, 4, 12, 3, 13, 2, 14, 1, 15] : List Int) 3 (0 : Int))), .lit (.int .i64 (List.getD ([16, 17, 18, 0, 8, 7, 9, 6, 10, 5, 11, 4, 12, 3, 13, 2, 14, 1, 15] : List Int) 4 (0 : Int))), .lit (.int .i64 (List.getD ([16, 17, 18, 0, 8, 7, 9, 6, 10, 5, 11, 4, 12, 3, 13, 2, 14, 1, 15] : List Int) 5 (0 : Int))), .lit (.int .i64 (List.getD ([16, 17, 18, 0, 8, 7, 9, 6, 10, 5, 11, 4, 12, 3, 13, 2, 14, 1, 15] : List Int) 6 (0 : Int))), .lit (.int .i64 (List.getD ([16, 17, 18, 0, 8, 7, 9, 6, 10, 5, 11, 4, 12, 3, 13, 2, 14, 1, 15] : List Int) 7 (0 : Int))), .lit (.int .i64 (List.getD ([16, 17, 18, 0, 8, 7, 9, 6, 10, 5, 11, 4, 12, 3, 13, 2, 14, 1, 15] : List Int) 8 (0 : Int))), .lit (.int .i64 (List.getD ([16, 17, 18, 0, 8, 7, 9, 6, 10, 5, 11, 4, 12, 3, 13, 2, 14, 1, 15] : List Int) 9 (0 : Int))), .lit (.int .i64 (List.getD ([16, 17, 18, 0, 8, 7, 9, 6, 10, 5, 11, 4, 12, 3, 13, 2, 14, 1, 15] : List Int) 10 (0 : Int))), .lit (.int .i64 (List.getD ([16, 17, 18, 0, 8, 7, 9, 6, 10, 5, 11, 4, 12, 3, 13, 2, 14, 1, 15] : List Int) 11 (0 : Int))), .lit (.int .i64 (List.getD ([16, 17, 18, 0, 8, 7, 9, 6, 10, 5, 11, 4, 12, 3, 13, 2, 14, 1, 15] : List Int) 12 (0 : Int))), .lit (.int .i64 (List.getD ([16, 17, 18, 0, 8, 7, 9, 6, 10, 5, 11, 4, 12, 3, 13, 2, 14, 1, 15] : List Int) 13 (0 : Int))), .lit (.int .i64 (List.getD ([16, 17, 18, 0, 8, 7, 9, 6, 10, 5, 11, 4, 12, 3, 13, 2, 14, 1, 15] : List Int) 14 (0 : Int))), .lit (.int .i64 (List.getD ([16, 17, 18, 0, 8, 7, 9, 6, 10, 5, 11, 4, 12, 3, 13, 2, 14, 1, 15] : List Int) 15 (0 : Int))), .lit (.int .i64 (List.getD ([16, 17, 18, 0, 8, 7, 9, 6, 10, 5, 11, 4, 12, 3, 13, 2, 14, 1, 15] : List Int) 16 (0 : Int))), .lit (.int .i64 (List.getD ([16, 17, 18, 0, 8, 7, 9, 6, 10, 5, 11, 4, 12, 3, 13, 2, 14, 1, 15] : List Int) 17 (0 : Int))), .lit (.int .i64 (List.getD ([16, 17, 18, 0, 8, 7, 9, 6, 10, 5, 11, 4, 12, 3, 13, 2, 14, 1, 15] : List Int) 18 (0 : Int)))]) bu79 (by kernel_rfl) (by kernel_rfl)) rfl ?_
       refine WPL.q (q_mv (v := .lit (.int _ _)) rfl) rfl ?_
       refine WPL.nilW ?_
       refine W.now ?_
       refine Then.n ?_
       refine WP.block ?_
       refine WP.cv (Cv.weak (E' := (((((((((Env.none.upd 0 (.ro (Rd.slice rdS_deflate_Item) false x5183)).upd 10 (.ro (Rd.slice (Rd.int .i64)) false x10792)).upd 12 (.ro (Rd.slice (Rd.int .i64)) false x10794)).upd 14 (.ro (Rd.slice (Rd.int .i64)) false x10800)).upd 15 (.ro (Rd.slice (Rd.int .i64)) false x10801)).upd 19 (.ro (Rd.slice (Rd.int .i64)) false x10826)).upd 21 (.ptr 0 0)).upd 136 (.agg [.lit (.int .i64 (List.getD ([16, 17, 18, 0, 8, 7, 9, 6, 10, 5, 11, 4, 12, 3, 13, 2, 14, 1, 15] : List Int) 0 (0 : Int))), .lit (.int .i64 (List.getD ([16, 17, 18, 0, 8, 7, 9, 6, 10, 5, 11, 4, 12, 3, 13, 2, 14, 1, 15] : List Int) 1 (0 : Int))), .lit (.int .i64 (List.getD ([16, 17, 18, 0, 8, 7, 9, 6, 10, 5, 11, 4, 12, 3, 13, 2, 14, 1, 15] : List Int) 2 (0 : Int))), .lit (.int .i64 (List.getD ([16, 17, 18, 0, 8, 7, 9, 6, 10, 5, 11, 4, 12, 3, 13, 2, 14, 1, 15] : List Int) 3 (0 : Int))), .lit (.int .i64 (List.getD ([16, 17, 18, 0, 8, 7, 9, 6, 10, 5, 11, 4, 12, 3, 13, 2, 14, 1, 15] : List Int) 4 (0 : Int))), .lit (.int .i64 (List.getD ([16, 17, 18, 0, 8, 7, 9, 6, 10, 5, 11, 4, 12, 3, 13, 2, 14, 1, 15] : List Int) 5 (0 : Int))), .lit (.int .i64 (List.getD ([16, 17, 18, 0, 8, 7, 9, 6, 10, 5, 11, 4, 12, 3, 13, 2, 14, 1, 15] : List Int) 6 (0 : Int))), .lit (.int .i64 (List.getD ([16, 17, 18, 0, 8, 7, 9, 6, 10, 5, 11, 4, 12, 3, 13, 2, 14, 1, 15] : List Int) 7 (0 : Int))), .lit (.int .i64 (List.getD ([16, 17, 18, 0, 8, 7, 9, 6, 10, 5, 11, 4, 12, 3, 13, 2, 14, 1, 15] : List Int) 8 (0 : Int))), .lit (.int .i64 (List.getD ([16, 17, 18, 0, 8, 7, 9, 6, 10, 5, 11, 4, 12, 3, 13, 2, 14, 1, 15] : List Int) 9 (0 : Int))), .lit (.int .i64 (List.getD ([16, 17, 18, 0, 8, 7, 9, 6, 10, 5, 11, 4, 12, 3, 13, 2, 14, 1, 15] : List Int) 10 (0 : Int))), .lit (.int .i64 (List.getD ([16, 17, 18, 0, 8, 7, 9, 6, 10, 5, 11, 4, 12, 3, 13, 2, 14, 1, 15] : List Int) 11 (0 : Int))), .lit (.int .i64 (List.getD ([16, 17, 18, 0, 8, 7, 9, 6, 10, 5, 11, 4, 12, 3, 13, 2, 14, 1, 15] : List Int) 12 (0 : Int))), .lit (.int .i64 (List.getD ([16, 17, 18, 0, 8, 7, 9, 6, 10, 5, 11, 4, 12, 3, 13, 2, 14, 1, 15] : List Int) 13 (0 : Int))), .lit (.int .i64 (List.getD ([16, 17, 18, 0, 8, 7, 9, 6, 10, 5, 11, 4, 12, 3, 13, 2, 14, 1, 15] : List Int) 14 (0 : Int))), .lit (.int .i64 (List.getD ([16, 17, 18, 0, 8, 7, 9, 6, 10, 5, 11, 4, 12, 3, 13, 2, 14, 1, 15] : List Int) 15 (0 : Int))), .lit (.int .i64 (List.getD ([16, 17, 18, 0, 8, 7, 9, 6, 10, 5, 11, 4, 12, 3, 13, 2, 14, 1, 15] : List Int) 16 (0 : Int))), .lit (.int .i64 (List.getD ([16, 17, 18, 0, 8, 7, 9, 6, 10, 5, 11, 4, 12, 3, 13, 2, 14, 1, 15] : List Int) 17 (0 : Int))), .lit (.int .i64 (List.getD ([16, 17, 18, 0, 8, 7, 9, 6, 10, 5, 11, 4, 12, 3, 13, 2, 14, 1, 15] : List Int) 18 (0 : Int)))])).upd 137 (.lit (.int .i64 0)))) (M' := ((Mem.nil.push (.cells 101 [.whole 1, .lit (.int .i64 x10850)])).push (.row 5 (Rd.int .u8) x10851))) [1, 5] hnp ⟨rfl, ⟨⟨trivial, .inr ⟨rfl, rfl, rfl⟩⟩, .inr ⟨rfl, rfl, rfl⟩⟩, by decide, rfl, trivial⟩ (LeE.upd rfl rfl (LeE.upd rfl rfl (LeE.upd rfl rfl (LeE.upd rfl rfl (LeE.upd rfl rfl (LeE.upd rfl rfl (LeE.upd rfl rfl (LeE.upd rfl rfl (LeE.upd rfl rfl (LeE.none rfl rfl))))))))))) ?_
       obtain ⟨⟨x10870, x10871⟩, H10880, H⟩ := bnd H
       refine WP.monoW (Q := fun x E M => x = .exit 4 ∧ E = (((((((Env.none.upd 0 (.ro (Rd.slice rdS_deflate_Item) false x5183)).upd 10 (.ro (Rd.slice (Rd.int .i64)) false x10792)).upd 12 (.ro (Rd.slice (Rd.int .i64)) false x10794)).upd 14 (.ro (Rd.slice (Rd.int .i64)) false x10800)).upd 15 (.ro (Rd.slice (Rd.int .i64)) false x10801)).upd 19 (.ro (Rd.slice (Rd.int .i64)) false x10826)).upd 21 (.ptr 0 0)) ∧ M = ((Mem.nil.push (.cells 101 [.whole 1, .lit (.int .i64 x10870)])).push (.row 5 (Rd.int .u8) x10871))) ?_ ?_
       · refine WP.loop (β := Int × Int × (List Int)) (fun n b => g_deflate_dynamic_l2 k x10826 n b.1 b.2.1 b.2.2 = some (x10870, x10871)) (fun b => (((((((((Env.none.upd 0 (.ro (Rd.slice rdS_deflate_Item) false x5183)).upd 10 (.ro (Rd.slice (Rd.int .i64)) false x10792)).upd 12 (.ro (Rd.slice (Rd.int .i64)) false x10794)).upd 14 (.ro (Rd.slice (Rd.int .i64)) false x10800)).upd 15 (.ro (Rd.slice (Rd.int .i64)) false x10801)).upd 19 (.ro (Rd.slice (Rd.int .i64)) false x10826)).upd 21 (.ptr 0 0)).upd 136 (.agg [.lit (.int .i64 (List.getD ([16, 17, 18, 0, 8, 7, 9, 6, 10, 5, 11, 4, 12, 3, 13, 2, 14, 1, 15] : List Int) 0 (0 : Int))), .lit (.int .i64 (List.getD ([16, 17, 18, 0, 8, 7, 9, 6, 10, 5, 11, 4, 12, 3, 13, 2, 14, 1, 15] : List Int) 1 (0 : Int))), .lit (.int .i64 (List.getD ([16, 17, 18, 0, 8, 7, 9, 6, 10, 5, 11, 4, 12, 3, 13, 2, 14, 1, 15] : List Int) 2 (0 : Int))), .lit (.int .i64 (List.getD ([16, 17, 18, 0, 8, 7, 9, 6, 10, 5, 11, 4, 12, 3, 13, 2, 14, 1, 15] : List Int) 3 (0 : Int))), .lit (.int .i64 (List.getD ([16, 17, 18, 0, 8, 7, 9, 6, 10, 5, 11, 4, 12, 3, 13, 2, 14, 1, 15] : List Int) 4 (0 : Int))), .lit (.int .i64 (List.getD ([16, 17, 18, 0, 8, 7, 9, 6, 10, 5, 11, 4, 12, 3, 13, 2, 14, 1, 15] : List Int) 5 (0 : Int))), .lit (.int .i64 (List.getD ([16, 17, 18, 0, 8, 7, 9, 6, 10, 5, 11, 4, 12, 3, 13, 2, 14, 1, 15] : List Int) 6 (0 : Int))), .lit (.int .i64 (List.getD ([16, 17, 18, 0, 8, 7, 9, 6, 10, 5, 11, 4, 12, 3, 13, 2, 14, 1, 15] : List Int) 7 (0 : Int))), .lit (.int .i64 (List.getD ([16, 17, 18, 0, 8, 7, 9, 6, 10, 5, 11, 4, 12, 3, 13, 2, 14, 1, 15] : List Int) 8 (0 : Int))), .lit (.int .i64 (List.getD ([16, 17, 18, 0, 8, 7, 9, 6, 10, 5, 11, 4, 12, 3, 13, 2, 14, 1, 15] : List Int) 9 (0 : Int))), .lit (.int .i64 (List.getD ([16, 17, 18, 0, 8, 7, 9, 6, 10, 5, 11, 4, 12, 3, 13, 2, 14, 1, 15] : List Int) 10 (0 : Int))), .lit (.int .i64 (List.getD ([16, 17, 18, 0, 8, 7, 9, 6, 10, 5, 11, 4, 12, 3, 13, 2, 14, 1, 15] : List Int) 11 (0 : Int))), .lit (.int .i64 (List.getD ([16, 17, 18, 0, 8, 7, 9, 6, 10, 5, 11, 4, 12, 3, 13, 2, 14, 1, 15] : List Int) 12 (0 : Int))), .lit (.int .i64 (List.getD ([16, 17, 18, 0, 8, 7, 9, 6, 10, 5, 11, 4, 12, 3, 13, 2, 14, 1, 15] : List Int) 13 (0 : Int))), .lit (.int .i64 (List.getD ([16, 17, 18, 0, 8, 7, 9, 6, 10, 5, 11, 4, 12, 3, 13, 2, 14, 1, 15] : List Int) 14 (0 : Int))), .lit (.int .i64 (List.getD ([16, 17, 18, 0, 8, 7, 9, 6, 10, 5, 11, 4, 12, 3, 13, 2, 14, 1, 15] : List Int) 15 (0 : Int))), .lit (.int .i64 (List.getD ([16, 17, 18, 0, 8, 7, 9, 6, 10, 5, 11, 4, 12, 3, 13, 2, 14, 1, 15] : List Int) 16 (0 : Int))), .lit (.int .i64 (List.getD ([16, 17, 18, 0, 8, 7, 9, 6, 10, 5, 11, 4, 12, 3, 13, 2, 14, 1, 15] : List Int) 17 (0 : Int))), .lit (.int .i64 (List.getD ([16, 17, 18, 0, 8, 7, 9, 6, 10, 5, 11, 4, 12, 3, 13, 2, 14, 1, 15] : List Int) 18 (0 : Int)))])).upd 137 (.lit (.int .i64 b.1)))) (fun b => ((Mem.nil.push (.cells 101 [.whole 1, .lit (.int .i64 b.2.1)])).push (.row 5 (Rd.int .u8) b.2.2))) k (0, x10850, x10851) H10880 rfl rfl ?_
         rintro n ⟨x10858, x10859, x10860⟩ H
         obtain _ | n := n
         · exact nf rfl H
         rw [g_deflate_dynamic_l2.eq_2] at H
         show WP _ _ _ _ (((((((((Env.none.upd 0 (.ro (Rd.slice rdS_deflate_Item) false x5183)).upd 10 (.ro (Rd.slice (Rd.int .i64)) false x10792)).upd 12 (.ro (Rd.slice (Rd.int .i64)) false x10794)).upd 14 (.ro (Rd.slice (Rd.int .i64)) false x10800)).upd 15 (.ro (Rd.slice (Rd.int .i64)) false x10801)).upd 19 (.ro (Rd.slice (Rd.int .i64)) false x10826)).upd 21 (.ptr 0 0)).upd 136 (.agg [.lit (.int .i64 (List.getD ([16, 17, 18, 0, 8, 7, 9, 6, 10, 5, 11, 4, 12, 3, 13, 2, 14, 1, 15] : List Int) 0 (0 : Int))), .lit (.int .i64 (List.getD ([16, 17, 18, 0, 8, 7, 9, 6, 10, 5, 11, 4, 12, 3, 13, 2, 14, 1, 15] : List Int) 1 (0 : Int))), .lit (.int .i64 (List.getD ([16, 17, 18, 0, 8, 7, 9, 6, 10, 5, 11, 4, 12, 3, 13, 2, 14, 1, 15] : List Int) 2 (0 : Int))), .lit (.int .i64 (List.getD ([16, 17, 18, 0, 8, 7, 9, 6, 10, 5, 11, 4, 12, 3, 13, 2, 14, 1, 15] : List Int) 3 (0 : Int))), .lit (.int .i64 (List.getD ([16, 17, 18, 0, 8, 7, 9, 6, 10, 5, 11, 4, 12, 3, 13, 2, 14, 1, 15] : List Int) 4 (0 : Int))), .lit (.int .i64 (List.getD ([16, 17, 18, 0, 8, 7, 9, 6, 10, 5, 11, 4, 12, 3, 13, 2, 14, 1, 15] : List Int) 5 (0 : Int))), .lit (.int .i64 (List.getD ([16, 17, 18, 0, 8, 7, 9, 6, 10, 5, 11, 4, 12, 3, 13, 2, 14, 1, 15] : List Int) 6 (0 : Int))), .lit (.int .i64 (List.getD ([16, 17, 18, 0, 8, 7, 9, 6, 10, 5, 11, 4, 12, 3, 13, 2, 14, 1, 15] : List Int) 7 (0 : Int))), .lit (.int .i64 (List.getD ([16, 17, 18, 0, 8, 7, 9, 6, 10, 5, 11, 4, 12, 3, 13, 2, 14, 1, 15] : List Int) 8 (0 : Int))), .lit (.int .i64 (List.getD ([16, 17, 18, 0, 8, 7, 9, 6, 10, 5, 11, 4, 12, 3, 13, 2, 14, 1, 15] : List Int) 9 (0 : Int))), .lit (.int .i64 (List.getD ([16, 17, 18, 0, 8, 7, 9, 6, 10, 5, 11, 4, 12, 3, 13, 2, 14, 1, 15] : List Int) 10 (0 : Int))), .lit (.int .i64 (List.getD ([16, 17, 18, 0, 8, 7, 9, 6, 10, 5, 11, 4, 12, 3, 13, 2, 14, 1, 15] : List Int) 11 (0 : Int))), .lit (.int .i64 (List.getD ([16, 17, 18, 0, 8, 7, 9, 6, 10, 5, 11, 4, 12, 3, 13, 2, 14, 1, 15] : List Int) 12 (0 : Int))), .lit (.int .i64 (List.getD ([16, 17, 18, 0, 8, 7, 9, 6, 10, 5, 11, 4, 12, 3, 13, 2, 14, 1, 15] : List Int) 13 (0 : Int))), .lit (.int .i64 (List.getD ([16, 17, 18, 0, 8, 7, 9, 6, 10, 5, 11, 4, 12, 3, 13, 2, 14, 1, 15] : List Int) 14 (0 : Int))), .lit (.int .i64 (List.getD ([16, 17, 18, 0, 8, 7, 9, 6, 10, 5, 11, 4, 12, 3, 13, 2, 14, 1, 15] : List Int) 15 (0 : Int))), .lit (.int .i64 (List.getD ([16, 17, 18, 0, 8, 7, 9, 6, 10, 5, 11, 4, 12, 3, 13, 2, 14, 1, 15] : List Int) 16 (0 : Int))), .lit (.int .i64 (List.getD ([16, 17, 18, 0, 8, 7, 9, 6, 10, 5, 11, 4, 12, 3, 13, 2, 14, 1, 15] : List Int) 17 (0 : Int))), .lit (.int .i64 (List.getD ([16, 17, 18, 0, 8, 7, 9, 6, 10, 5, 11, 4, 12, 3, 13, 2, 14, 1, 15] : List Int) 18 (0 : Int)))])).upd 137 (.lit (.int .i64 x10858))) ((Mem.nil.push (.cells 101 [.whole 1, .lit (.int .i64 x10859)])).push (.row 5 (Rd.int .u8) x10860)) _
         refine WP.seq ?_
         refine WP.region ?_
         refine WPL.q (q_lss rfl rfl) rfl ?_
         refine WPL.nilW ?_
         refine W.now ?_
         refine Then.n ?_
         refine WP.seq ?_
         refine WP.cond (t := (decide (x10858 < 19))) rfl (fun hb10872 => ?_) (fun hb10872 => ?_)
         · replace H := cnt hb10872 H
           refine WP.skipW ?_
           refine W.now ?_
           refine Then.n ?_
           refine WP.seq ?_
           refine WP.block ?_
           refine WP.seq ?_
           refine WP.region ?_
           obtain ⟨h10873, H⟩ := grd H
           obtain ⟨x10875, h10875, H⟩ := bnd H
           refine WPL.q (q_nm (q_indexArrV (f := (fun x => .lit (.int .i64 x))) (l := ([16, 17, 18, 0, 8, 7, 9, 6, 10, 5, 11, 4, 12, 3, 13, 2, 14, 1, 15] : List Int)) (d0 := (0 : Int)) ar79 sc3 rfl rfl h10873) (nm_int h10875)) rfl ?_
           refine WPL.q (q_as (v := .lit (.int _ _)) rfl) rfl ?_
           refine WPL.nilW ?_
           refine W.now ?_
           refine Then.n ?_
           refine WP.region ?_
           refine WPL.q (q_mv (v := .ptr _ _) rfl) rfl ?_
           refine WPL.q (q_mv (v := .ro _ _ _) rfl) rfl ?_
           refine WPL.q (q_mv (v := .lit (.int _ _)) rfl) rfl ?_
           obtain ⟨x10876, h10876, H⟩ := bnd H
           refine WPL.q (q_index_ro sl66 rfl rfl rfl h10876) rfl ?_
           refine WPL.q (q_load_sc sc3 rfl) rfl ?_
           refine WPL.q (q_conv Try.underlying3 Try.underlying50 rfl) rfl ?_
           obtain ⟨⟨x10878, x10879, x10880⟩, h10876, H⟩ := bnd H
           refine WPL.c (runs_call (s := [0, 1]) (t := [0, 2]) (N := 3) (bor := []) fn24 rfl (s_bits_Writer_Put__b k (IntKind.wrap .u32 x10876) 3 x10859 x10860 x10878 x10879 x10880 h10876) ⟨rfl, ⟨⟨trivial, .inr ⟨rfl, rfl, rfl⟩⟩, .inr ⟨rfl, rfl, rfl⟩⟩, by decide, rfl, trivial⟩ rfl trivial (.ren rfl rfl (.ren rfl rfl (.ren rfl rfl .nil))) rfl ⟨⟨trivial, rfl⟩, rfl⟩ rfl) rfl ?_
           refine WPL.nilW ?_
           refine W.now ?_
           refine InBlock.n ?_
           refine Then.n ?_
           refine WP.region ?_
           refine WPL.q (q_add rfl rfl) rfl ?_
           refine WPL.q (q_mv (v := .lit (.int _ _)) rfl) rfl ?_
           refine WPL.nilW ?_
           exact W.wk [0, 2] hnp (Then.n ⟨n, ((IntKind.wrap .i64 (x10858 + 1)), x10879, x10880), Nat.lt_succ_self n, H, rfl, rfl⟩) ⟨rfl, ⟨⟨trivial, .inr ⟨rfl, rfl, rfl⟩⟩, .inr ⟨rfl, rfl, rfl⟩⟩, by decide, rfl, trivial⟩ (LeE.upd rfl rfl (LeE.upd rfl rfl (LeE.upd rfl rfl (LeE.upd rfl rfl (LeE.upd rfl rfl (LeE.upd rfl rfl (LeE.upd rfl rfl (LeE.upd rfl rfl (LeE.upd rfl rfl (LeE.none rfl rfl)))))))))) rfl
         replace H := cnf hb10872 H
         refine WP.exitW ?_
         have q0 := (Prod.mk.inj (Option.some.inj H)).1
         have q1 := (Prod.mk.inj (Option.some.inj H)).2
         subst q0
         subst q1
         exact W.wk [0, 1] hnp (Then.x (Then.x ⟨rfl, rfl, rfl⟩)) ⟨rfl, ⟨⟨trivial, .inr ⟨rfl, rfl, rfl⟩⟩, .inr ⟨rfl, rfl, rfl⟩⟩, by decide, rfl, trivial⟩ (LeE.upd rfl rfl (LeE.upd rfl rfl (LeE.upd rfl rfl (LeE.upd rfl rfl (LeE.upd rfl rfl (LeE.upd rfl rfl (LeE.upd rfl rfl (LeE.none rfl rfl)))))))) rfl
       rintro _ _ _ ⟨rfl, rfl, rfl⟩
       refine W.now ?_
       refine InBlock.x0 ?_
       refine Then.n ?_
       refine WP.seq ?_
       refine WP.region ?_
       refine WPL.q (q_mv (v := .ro _ _ _) rfl) rfl ?_
       obtain ⟨⟨x10883, x10884⟩, h10881, H⟩ := bnd H
       refine WPL.c (runs_call (s := []) (t := []) (N := 2) (bor := []) fn39 rfl (s_huff_Codes k x10826 x10883 x10884 h10881) ⟨rfl, trivial, by decide, rfl, trivial⟩ rfl trivial (.ren rfl rfl .nil) rfl trivial rfl) rfl ?_
       refine WPL.q (q_mv (v := .tup _) rfl) rfl ?_
       refine WPL.q (q_extract rfl rfl) rfl ?_
       refine WPL.q (q_extract rfl rfl) rfl ?_
       refine WPL.q (q_as (v := .ro _ _ _) rfl) rfl ?_
       refine WPL.q (q_as (v := .lit (.int _ _)) rfl) rfl ?_
       refine WPL.nilW ?_
       refine W.now ?_
       refine Then.n ?_
       refine WP.seq ?_
       refine WP.region ?_
       refine WPL.q (q_buildC (l := [.lit (.int .i64 (List.getD ([0, 0, 0, 0, 0, 0, 0, 0, 0, 0, 0, 0, 0, 0, 0, 0, 2, 3, 7] : List Int) 0 (0 : Int))), .lit (.int .i64 (List.getD ([0, 0, 0, 0, 0, 0, 0, 0, 0, 0, 0, 0, 0, 0, 0, 0, 2, 3, 7] : List Int) 1 (0 : Int))), .lit (.int .i64 (List.getD ([0, 0, 0, 0, 0, 0, 0, 0, 0, 0, 0, 0, 0, 0, 0, 0, 2, 3, 7] : List Int) 2 (0 : Int))), .lit (.int .i64 (List.getD ([0, 0, 0, 0, 0, 0, 0, 0, 0, 0, 0, 0, 0, 0, 0, 0, 2, 3, 7] : List Int) 3 (0 : Int))), .lit (.int .i64 (List.getD ([0, 0, 0, 0, 0, 0, 0, 0, 0, 0, 0, 0, 0, 0, 0, 0, 2, 3, 7] : List Int) 4 (0 : Int))), .lit (.int .i64 (List.getD ([0, 0, 0, 0, 0, 0, 0, 0, 0, 0, 0, 0, 0, 0, 0, 0, 2, 3, 7] : List Int) 5 (0 : Int))), .lit (.int .i64 (List.getD ([0, 0, 0, 0, 0, 0, 0, 0, 0, 0, 0, 0, 0, 0, 0, 0, 2, 3, 7] : List Int) 6 (0 : Int))), .lit (.int .i64 (List.getD ([0, 0, 0, 0, 0, 0, 0, 0, 0, 0, 0, 0, 0, 0, 0, 0, 2, 3, 7] : List Int) 7 (0 : Int))), .lit (.int .i64 (List.getD ([0, 0, 0, 0, 0, 0, 0, 0, 0, 0, 0, 0, 0, 0, 0, 0, 2, 3, 7] : List Int) 8 (0 : Int))), .lit (.int .i64 (List.getD ([0, 0, 0, 0, 0, 0, 0, 0, 0, 0, 0, 0, 0, 0, 0, 0, 2, 3, 7] : List Int) 9 (0 : Int))), .lit (.int .i64 (List.getD ([0, 0, 0, 0, 0, 0, 0, 0, 0, 0, 0, 0, 0, 0, 0, 0, 2, 3, 7] : List Int) 10 (0 : Int))), .lit (.int .i64 (List.getD ([0, 0, 0, 0, 0, 0, 0, 0, 0, 0, 0, 0, 0, 0, 0, 0, 2, 3, 7] : List Int) 11 (0 : Int))), .lit (.int .i64 (List.getD ([0, 0, 0, 0, 0, 0, 0, 0, 0, 0, 0, 0, 0, 0, 0, 0, 2, 3, 7] : List Int) 12 (0 : Int))), .lit (.int .i64 (List.getD ([0, 0, 0, 0, 0, 0, 0, 0, 0, 0, 0, 0, 0, 0, 0, 0, 2, 3, 7] : List Int) 13 (0 : Int))), .lit (.int .i64 (List.getD ([0, 0, 0, 0, 0, 0, 0, 0, 0, 0, 0, 0, 0, 0, 0, 0, 2, 3, 7] : List Int) 14 (0 : Int))), .lit (.int .i64 (List.getD ([0, 0, 0, 0, 0, 0, 0, 0, 0, 0, 0, 0, 0, 0, 0, 0, 2, 3, 7] : List Int) 15 (0 : Int))), .lit (.int .i64 (List.getD ([0, 0, 0, 0, 0, 0, 0, 0, 0, 0, 0, 0, 0, 0, 0, 0, 2, 3, 7] : List Int) 16 (0 : Int))), .lit (.int .i64 (List.getD ([0, 0, 0, 0, 0, 0, 0, 0, 0, 0, 0, 0, 0, 0, 0, 0, 2, 3, 7] : List Int) 17 (0 : Int))), .lit (.int .i64 (List.getD ([0, 0, 0, 0, 0, 0, 0, 0, 0, 0, 0, 0, 0, 0, 0, 0, 2, 3, 7] : List Int) 18 (0 : Int)))]) bu79 (by kernel_rfl) (by kernel_rfl)) rfl ?_
       refine WPL.d (d_alloc ze79 rfl) rfl ?_
       refine WPL.s (s_store sz79 rfl rfl rfl rfl rfl) ?_
       refine WPL.nilW ?_
       refine W.now ?_
       refine Then.n ?_
       refine WP.seq ?_
       refine WP.seq ?_
       refine WP.region ?_
       refine WPL.q (q_mv (v := .ro _ _ _) rfl) rfl ?_
       refine WPL.q (q_len_ro sl66 rfl) rfl ?_
       refine WPL.q (q_mv (v := .lit (.int _ _)) rfl) rfl ?_
       refine WPL.nilW ?_
       refine W.now ?_
       refine Then.n ?_
       refine WP.block ?_
       refine WP.cv (Cv.weak (E' := (((((((((((Env.none.upd 0 (.ro (Rd.slice rdS_deflate_Item) false x5183)).upd 10 (.ro (Rd.slice (Rd.int .i64)) false x10792)).upd 12 (.ro (Rd.slice (Rd.int .i64)) false x10794)).upd 15 (.ro (Rd.slice (Rd.int .i64)) false x10801)).upd 19 (.ro (Rd.slice (Rd.int .i64)) false x10826)).upd 21 (.ptr 0 0)).upd 24 (.ro (Rd.slice (Rd.int .u32)) false x10883)).upd 26 (.ptr 2 0)).upd 154 (.ro (Rd.slice (Rd.int .i64)) false x10800)).upd 155 (.lit (.int .i64 ((List.length x10800 : Nat) : Int)))).upd 156 (.lit (.int .i64 0)))) (M' := (((Mem.nil.push (.cells 101 [.whole 1, .lit (.int .i64 x10870)])).push (.row 5 (Rd.int .u8) x10871)).push (.cells 79 [.lit (.int .i64 (List.getD ([0, 0, 0, 0, 0, 0, 0, 0, 0, 0, 0, 0, 0, 0, 0, 0, 2, 3, 7] : List Int) 0 (0 : Int))), .lit (.int .i64 (List.getD ([0, 0, 0, 0, 0, 0, 0, 0, 0, 0, 0, 0, 0, 0, 0, 0, 2, 3, 7] : List Int) 1 (0 : Int))), .lit (.int .i64 (List.getD ([0, 0, 0, 0, 0, 0, 0, 0, 0, 0, 0, 0, 0, 0, 0, 0, 2, 3, 7] : List Int) 2 (0 : Int))), .lit (.int .i64 (List.getD ([0, 0, 0, 0, 0, 0, 0, 0, 0, 0, 0, 0, 0, 0, 0, 0, 2, 3, 7] : List Int) 3 (0 : Int))), .lit (.int .i64 (List.getD ([0, 0, 0, 0, 0, 0, 0, 0, 0, 0, 0, 0, 0, 0, 0, 0, 2, 3, 7] : List Int) 4 (0 : Int))), .lit (.int .i64 (List.getD ([0, 0, 0, 0, 0, 0, 0, 0, 0, 0, 0, 0, 0, 0, 0, 0, 2, 3, 7] : List Int) 5 (0 : Int))), .lit (.int .i64 (List.getD ([0, 0, 0, 0, 0, 0, 0, 0, 0, 0, 0, 0, 0, 0, 0, 0, 2, 3, 7] : List Int) 6 (0 : Int))), .lit (.int .i64 (List.getD ([0, 0, 0, 0, 0, 0, 0, 0, 0, 0, 0, 0, 0, 0, 0, 0, 2, 3, 7] : List Int) 7 (0 : Int))), .lit (.int .i64 (List.getD ([0, 0, 0, 0, 0, 0, 0, 0, 0, 0, 0, 0, 0, 0, 0, 0, 2, 3, 7] : List Int) 8 (0 : Int))), .lit (.int .i64 (List.getD ([0, 0, 0, 0, 0, 0, 0, 0, 0, 0, 0, 0, 0, 0, 0, 0, 2, 3, 7] : List Int) 9 (0 : Int))), .lit (.int .i64 (List.getD ([0, 0, 0, 0, 0, 0, 0, 0, 0, 0, 0, 0, 0, 0, 0, 0, 2, 3, 7] : List Int) 10 (0 : Int))), .lit (.int .i64 (List.getD ([0, 0, 0, 0, 0, 0, 0, 0, 0, 0, 0, 0, 0, 0, 0, 0, 2, 3, 7] : List Int) 11 (0 : Int))), .lit (.int .i64 (List.getD ([0, 0, 0, 0, 0, 0, 0, 0, 0, 0, 0, 0, 0, 0, 0, 0, 2, 3, 7] : List Int) 12 (0 : Int))), .lit (.int .i64 (List.getD ([0, 0, 0, 0, 0, 0, 0, 0, 0, 0, 0, 0, 0, 0, 0, 0, 2, 3, 7] : List Int) 13 (0 : Int))), .lit (.int .i64 (List.getD ([0, 0, 0, 0, 0, 0, 0, 0, 0, 0, 0, 0, 0, 0, 0, 0, 2, 3, 7] : List Int) 14 (0 : Int))), .lit (.int .i64 (List.getD ([0, 0, 0, 0, 0, 0, 0, 0, 0, 0, 0, 0, 0, 0, 0, 0, 2, 3, 7] : List Int) 15 (0 : Int))), .lit (.int .i64 (List.getD ([0, 0, 0, 0, 0, 0, 0, 0, 0, 0, 0, 0, 0, 0, 0, 0, 2, 3, 7] : List Int) 16 (0 : Int))), .lit (.int .i64 (List.getD ([0, 0, 0, 0, 0, 0, 0, 0, 0, 0, 0, 0, 0, 0, 0, 0, 2, 3, 7] : List Int) 17 (0 : Int))), .lit (.int .i64 (List.getD ([0, 0, 0, 0, 0, 0, 0, 0, 0, 0, 0, 0, 0, 0, 0, 0, 2, 3, 7] : List Int) 18 (0 : Int)))]))) [0, 1, 2] hnp ⟨rfl, ⟨⟨⟨trivial, .inr ⟨rfl, rfl, rfl⟩⟩, .inr ⟨rfl, rfl, rfl⟩⟩, .inr ⟨rfl, rfl, rfl⟩⟩, by decide, rfl, trivial⟩ (LeE.upd rfl rfl (LeE.upd rfl rfl (LeE.upd rfl rfl (LeE.upd rfl rfl (LeE.upd rfl rfl (LeE.upd rfl rfl (LeE.upd rfl rfl (LeE.upd rfl rfl (LeE.upd rfl rfl (LeE.upd rfl rfl (LeE.upd rfl rfl (LeE.none rfl rfl))))))))))))) ?_
       obtain ⟨⟨x10944, x10945⟩, H10973, H⟩ := bnd H
       refine WP.monoW (Q := fun x E M => x = .exit 6 ∧ E = ((((Env.none.upd 0 (.ro (Rd.slice rdS_deflate_Item) false x5183)).upd 10 (.ro (Rd.slice (Rd.int .i64)) false x10792)).upd 12 (.ro (Rd.slice (Rd.int .i64)) false x10794)).upd 21 (.ptr 0 0)) ∧ M = ((Mem.nil.push (.cells 101 [.whole 1, .lit (.int .i64 x10944)])).push (.row 5 (Rd.int .u8) x10945))) ?_ ?_
       · refine WP.loop (β := Int × Int × (List Int)) (fun n b => g_deflate_dynamic_l3 k x10800 x10801 x10826 x10883 n b.1 b.2.1 b.2.2 = some (x10944, x10945)) (fun b => (((((((((((Env.none.upd 0 (.ro (Rd.slice rdS_deflate_Item) false x5183)).upd 10 (.ro (Rd.slice (Rd.int .i64)) false x10792)).upd 12 (.ro (Rd.slice (Rd.int .i64)) false x10794)).upd 15 (.ro (Rd.slice (Rd.int .i64)) false x10801)).upd 19 (.ro (Rd.slice (Rd.int .i64)) false x10826)).upd 21 (.ptr 0 0)).upd 24 (.ro (Rd.slice (Rd.int .u32)) false x10883)).upd 26 (.ptr 2 0)).upd 154 (.ro (Rd.slice (Rd.int .i64)) false x10800)).upd 155 (.lit (.int .i64 ((List.length x10800 : Nat) : Int)))).upd 156 (.lit (.int .i64 b.1)))) (fun b => (((Mem.nil.push (.cells 101 [.whole 1, .lit (.int .i64 b.2.1)])).push (.row 5 (Rd.int .u8) b.2.2)).push (.cells 79 [.lit (.int .i64 (List.getD ([0, 0, 0, 0, 0, 0, 0, 0, 0, 0, 0, 0, 0, 0, 0, 0, 2, 3, 7] : List Int) 0 (0 : Int))), .lit (.int .i64 (List.getD ([0, 0, 0, 0, 0, 0, 0, 0, 0, 0, 0, 0, 0, 0, 0, 0, 2, 3, 7] : List Int) 1 (0 : Int))), .lit (.int .i64 (List.getD ([0, 0, 0, 0, 0, 0, 0, 0, 0, 0, 0, 0, 0, 0, 0, 0, 2, 3, 7] : List Int) 2 (0 : Int))), .lit (.int .i64 (List.getD ([0, 0, 0, 0, 0, 0, 0, 0, 0, 0, 0, 0, 0, 0, 0, 0, 2, 3, 7] : List Int) 3 (0 : Int))), .lit (.int .i64 (List.getD ([0, 0, 0, 0, 0, 0, 0, 0, 0, 0, 0, 0, 0, 0, 0, 0, 2, 3, 7] : List Int) 4 (0 : Int))), .lit (.int .i64 (List.getD ([0, 0, 0, 0, 0, 0, 0, 0, 0, 0, 0, 0, 0, 0, 0, 0, 2, 3, 7] : List Int) 5 (0 : Int))), .lit (.int .i64 (List.getD ([0, 0, 0, 0, 0, 0, 0, 0, 0, 0, 0, 0, 0, 0, 0, 0, 2, 3, 7] : List Int) 6 (0 : Int))), .lit (.int .i64 (List.getD ([0, 0, 0, 0, 0, 0, 0, 0, 0, 0, 0, 0, 0, 0, 0, 0, 2, 3, 7] : List Int) 7 (0 : Int))), .lit (.int .i64 (List.getD ([0, 0, 0, 0, 0, 0, 0, 0, 0, 0, 0, 0, 0, 0, 0, 0, 2, 3, 7] : List Int) 8 (0 : Int))), .lit (.int .i64 (List.getD ([0, 0, 0, 0, 0, 0, 0, 0, 0, 0, 0, 0, 0, 0, 0, 0, 2, 3, 7] : List Int) 9 (0 : Int))), .lit (.int .i64 (List.getD ([0, 0, 0, 0, 0, 0, 0, 0, 0, 0, 0, 0, 0, 0, 0, 0, 2, 3, 7] : List Int) 10 (0 : Int))), .lit (.int .i64 (List.getD ([0, 0, 0, 0, 0, 0, 0, 0, 0, 0, 0, 0, 0, 0, 0, 0, 2, 3, 7] : List Int) 11 (0 : Int))), .lit (.int .i64 (List.getD ([0, 0, 0, 0, 0, 0, 0, 0, 0, 0, 0, 0, 0, 0, 0, 0, 2, 3, 7] : List Int) 12 (0 : Int))), .lit (.int .i64 (List.getD ([0, 0, 0, 0, 0, 0, 0, 0, 0, 0, 0, 0, 0, 0, 0, 0, 2, 3, 7] : List Int) 13 (0 : Int))), .lit (.int .i64 (List.getD ([0, 0, 0, 0, 0, 0, 0, 0, 0, 0, 0, 0, 0, 0, 0, 0, 2, 3, 7] : List Int) 14 (0 : Int))), .lit (.int .i64 (List.getD ([0, 0, 0, 0, 0, 0, 0, 0, 0, 0, 0, 0, 0, 0, 0, 0, 2, 3, 7] : List Int) 15 (0 : Int))), .lit (.int .i64 (List.getD ([0, 0, 0, 0, 0, 0, 0, 0, 0, 0, 0, 0, 0, 0, 0, 0, 2, 3, 7] : List Int) 16 (0 : Int))), .lit (.int .i64 (List.getD ([0, 0, 0, 0, 0, 0, 0, 0, 0, 0, 0, 0, 0, 0, 0, 0, 2, 3, 7] : List Int) 17 (0 : Int))), .lit (.int .i64 (List.getD ([0, 0, 0, 0, 0, 0, 0, 0, 0, 0, 0, 0, 0, 0, 0, 0, 2, 3, 7] : List Int) 18 (0 : Int)))]))) k (0, x10870, x10871) H10973 rfl rfl ?_
         rintro n ⟨x10913, x10914, x10915⟩ H
         obtain _ | n := n
         · exact nf rfl H
         rw [g_deflate_dynamic_l3.eq_2] at H
         show WP _ _ _ _ (((((((((((Env.none.upd 0 (.ro (Rd.slice rdS_deflate_Item) false x5183)).upd 10 (.ro (Rd.slice (Rd.int .i64)) false x10792)).upd 12 (.ro (Rd.slice (Rd.int .i64)) false x10794)).upd 15 (.ro (Rd.slice (Rd.int .i64)) false x10801)).upd 19 (.ro (Rd.slice (Rd.int .i64)) false x10826)).upd 21 (.ptr 0 0)).upd 24 (.ro (Rd.slice (Rd.int .u32)) false x10883)).upd 26 (.ptr 2 0)).upd 154 (.ro (Rd.slice (Rd.int .i64)) false x10800)).upd 155 (.lit (.int .i64 ((List.length x10800 : Nat) : Int)))).upd 156 (.lit (.int .i64 x10913))) (((Mem.nil.push (.cells 101 [.whole 1, .lit (.int .i64 x10914)])).push (.row 5 (Rd.int .u8) x10915)).push (.cells 79 [.lit (.int .i64 (List.getD ([0, 0, 0, 0, 0, 0, 0, 0, 0, 0, 0, 0, 0, 0, 0, 0, 2, 3, 7] : List Int) 0 (0 : Int))), .lit (.int .i64 (List.getD ([0, 0, 0, 0, 0, 0, 0, 0, 0, 0, 0, 0, 0, 0, 0, 0, 2, 3, 7] : List Int) 1 (0 : Int))), .lit (.int .i64 (List.getD ([0, 0, 0, 0, 0, 0, 0, 0, 0, 0, 0, 0, 0, 0, 0, 0, 2, 3, 7] : List Int) 2 (0 : Int))), .lit (.int .i64 (List.getD ([0, 0, 0, 0, 0, 0, 0, 0, 0, 0, 0, 0, 0, 0, 0, 0, 2, 3, 7] : List Int) 3 (0 : Int))), .lit (.int .i64 (List.getD ([0, 0, 0, 0, 0, 0, 0, 0, 0, 0, 0, 0, 0, 0, 0, 0, 2, 3, 7] : List Int) 4 (0 : Int))), .lit (.int .i64 (List.getD ([0, 0, 0, 0, 0, 0, 0, 0, 0, 0, 0, 0, 0, 0, 0, 0, 2, 3, 7] : List Int) 5 (0 : Int))), .lit (.int .i64 (List.getD ([0, 0, 0, 0, 0, 0, 0, 0, 0, 0, 0, 0, 0, 0, 0, 0, 2, 3, 7] : List Int) 6 (0 : Int))), .lit (.int .i64 (List.getD ([0, 0, 0, 0, 0, 0, 0, 0, 0, 0, 0, 0, 0, 0, 0, 0, 2, 3, 7] : List Int) 7 (0 : Int))), .lit (.int .i64 (List.getD ([0, 0, 0, 0, 0, 0, 0, 0, 0, 0, 0, 0, 0, 0, 0, 0, 2, 3, 7] : List Int) 8 (0 : Int))), .lit (.int .i64 (List.getD ([0, 0, 0, 0, 0, 0, 0, 0, 0, 0, 0, 0, 0, 0, 0, 0, 2, 3, 7] : List Int) 9 (0 : Int))), .lit (.int .i64 (List.getD ([0, 0, 0, 0, 0, 0, 0, 0, 0, 0, 0, 0, 0, 0, 0, 0, 2, 3, 7] : List Int) 10 (0 : Int))), .lit (.int .i64 (List.getD ([0, 0, 0, 0, 0, 0, 0, 0, 0, 0, 0, 0, 0, 0, 0, 0, 2, 3, 7] : List Int) 11 (0 : Int))), .lit (.int .i64 (List.getD ([0, 0, 0, 0, 0, 0, 0, 0, 0, 0, 0, 0, 0, 0, 0, 0, 2, 3, 7] : List Int) 12 (0 : Int))), .lit (.int .i64 (List.getD ([0, 0, 0, 0, 0, 0, 0, 0, 0, 0, 0, 0, 0, 0, 0, 0, 2, 3, 7] : List Int) 13 (0 : Int))), .lit (.int .i64 (List.getD ([0, 0, 0, 0, 0, 0, 0, 0, 0, 0, 0, 0, 0, 0, 0, 0, 2, 3, 7] : List Int) 14 (0 : Int))), .lit (.int .i64 (List.getD ([0, 0, 0, 0, 0, 0, 0, 0, 0, 0, 0, 0, 0, 0, 0, 0, 2, 3, 7] : List Int) 15 (0 : Int))), .lit (.int .i64 (List.getD ([0, 0, 0, 0, 0, 0, 0, 0, 0, 0, 0, 0, 0, 0, 0, 0, 2, 3, 7] : List Int) 16 (0 : Int))), .lit (.int .i64 (List.getD ([0, 0, 0, 0, 0, 0, 0, 0, 0, 0, 0, 0, 0, 0, 0, 0, 2, 3, 7] : List Int) 17 (0 : Int))), .lit (.int .i64 (List.getD ([0, 0, 0, 0, 0, 0, 0, 0, 0, 0, 0, 0, 0, 0, 0, 0, 2, 3, 7] : List Int) 18 (0 : Int)))])) _
         refine WP.seq ?_
         refine WP.region ?_
         obtain ⟨x10946, h10946, H⟩ := bnd H
         refine WPL.q (q_nm (q_lss rfl rfl) (nm_bool h10946)) rfl ?_
         refine WPL.nilW ?_
         refine W.now ?_
         refine Then.n ?_
         refine WP.seq ?_
         refine WP.cond (t := x10946) rfl (fun hb10947 => ?_) (fun hb10947 => ?_)
         · replace H := cnt hb10947 H
           refine WP.skipW ?_
           refine W.now ?_
           refine Then.n ?_
           refine WP.seq ?_
           refine WP.block ?_
           refine WP.seq ?_
           refine WP.region ?_
           refine WPL.q (q_mv (v := .lit (.int _ _)) rfl) rfl ?_
           obtain ⟨x10949, h10949, H⟩ := bnd H
           refine WPL.q (q_index_ro sl66 rfl rfl rfl h10949) rfl ?_
           refine WPL.q (q_load_sc sc3 rfl) rfl ?_
           refine WPL.q (q_as (v := .lit (.int _ _)) rfl) rfl ?_
           refine WPL.q (q_as (v := .lit (.int _ _)) rfl) rfl ?_
           refine WPL.nilW ?_
           refine W.now ?_
           refine Then.n ?_
           refine WP.seq ?_
           refine WP.regionD' 10 [] [] mixed rfl ?_
           refine WPD.takeT 0 rfl (by kernel_rfl) (q_mv (v := .ptr _ _) rfl) rfl ?_
           refine WPD.takeT 1 rfl (by kernel_rfl) (q_mv (v := .ro _ _ _) rfl) rfl ?_
           refine WPD.takeT 2 rfl (by kernel_rfl) (q_mv (v := .lit (.int _ _)) rfl) rfl ?_
           obtain ⟨x10955, h10955, H⟩ := bnd H
           refine WPD.takeT 3 rfl (by kernel_rfl) (q_index_ro sl80 rfl rfl rfl h10955) rfl ?_
           refine WPD.takeT 4 rfl (by kernel_rfl) (q_load_sc sc50 rfl) rfl ?_
           refine WPD.takeT 5 rfl (by kernel_rfl) (q_mv (v := .ro _ _ _) rfl) rfl ?_
           refine WPD.takeT 6 rfl (by kernel_rfl) (q_mv (v := .lit (.int _ _)) rfl) rfl ?_
           obtain ⟨x10956, h10956, H⟩ := bnd H
           refine WPD.takeT 7 rfl (by kernel_rfl) (q_index_ro sl66 rfl rfl rfl h10956) rfl ?_
           refine WPD.takeT 8 rfl (by kernel_rfl) (q_load_sc sc3 rfl) rfl ?_
           obtain ⟨⟨x10958, x10959⟩, h10956, H⟩ := bnd H
           refine WPD.eff 9 [] [] rfl (by kernel_rfl) (runs_call (s := [0, 1]) (t := [0, 3]) (N := 4) (bor := []) fn40 rfl (s_deflate_put k x10955 x10956 x10914 x10915 x10958 x10959 h10956) ⟨rfl, ⟨⟨trivial, .inr ⟨rfl, rfl, rfl⟩⟩, .inr ⟨rfl, rfl, rfl⟩⟩, by decide, rfl, trivial⟩ rfl trivial (.ren rfl rfl (.ren rfl rfl (.ren rfl rfl .nil))) rfl ⟨⟨trivial, rfl⟩, rfl⟩ rfl) rfl rfl ?_
           refine WPD.doneW (by kernel_rfl) ?_
           refine W.now ?_
           refine Then.n ?_
           refine WP.regionD' 10 [2] [] mixed rfl ?_
           refine WPD.takeT 0 rfl (by kernel_rfl) (q_mv (v := .ptr _ _) rfl) rfl ?_
           refine WPD.takeT 1 rfl (by kernel_rfl) (q_mv (v := .ro _ _ _) rfl) rfl ?_
           refine WPD.takeT 2 rfl (by kernel_rfl) (q_mv (v := .lit (.int _ _)) rfl) rfl ?_
           obtain ⟨x10968, h10968, H⟩ := bnd H
           refine WPD.takeT 3 rfl (by kernel_rfl) (q_index_ro sl66 rfl rfl rfl h10968) rfl ?_
           refine WPD.takeT 4 rfl (by kernel_rfl) (q_load_sc sc3 rfl) rfl ?_
           refine WPD.takeT 5 rfl (by kernel_rfl) (q_conv Try.underlying3 Try.underlying50 rfl) rfl ?_
           refine WPD.takeT 6 rfl (by kernel_rfl) (q_mv (v := .lit (.int _ _)) rfl) rfl ?_
           obtain ⟨h10968, H⟩ := grd H
           refine WPD.takeT 7 rfl (by kernel_rfl) (q_indexArr ar79 rfl rfl h10968 rfl) rfl ?_
           refine WPD.take 8 rfl (by kernel_rfl) (q_load_arr (f := (fun z : Int => AVal.lit (.int .i64 z))) (d0 := (0 : Int)) (xs := ([0, 0, 0, 0, 0, 0, 0, 0, 0, 0, 0, 0, 0, 0, 0, 0, 2, 3, 7] : List Int)) (n := 19) (off := 0) (j := (Int.toNat x10949)) sc3 rfl rfl rfl (natlt h10968) (addone _ _)) rfl rfl ?_
           obtain ⟨⟨x10971, x10972, x10973⟩, h10969, H⟩ := bnd H
           refine WPD.eff 9 [2] [] rfl (by kernel_rfl) (runs_call (s := [0, 3]) (t := [0, 4]) (N := 5) (bor := []) fn24 rfl (s_bits_Writer_Put__b k (IntKind.wrap .u32 x10968) (List.getD ([0, 0, 0, 0, 0, 0, 0, 0, 0, 0, 0, 0, 0, 0, 0, 0, 2, 3, 7] : List Int) (Int.toNat x10949) (0 : Int)) x10958 x10959 x10971 x10972 x10973 h10969) ⟨rfl, ⟨⟨trivial, .inr ⟨rfl, rfl, rfl⟩⟩, .inr ⟨rfl, rfl, rfl⟩⟩, by decide, rfl, trivial⟩ rfl trivial (.ren rfl rfl (.ren rfl rfl (.ren rfl rfl .nil))) rfl ⟨⟨trivial, rfl⟩, rfl⟩ rfl) rfl rfl ?_
           refine WPD.doneW (by kernel_rfl) ?_
           refine W.now ?_
           refine InBlock.n ?_
           refine Then.n ?_
           refine WP.region ?_
           refine WPL.q (q_add rfl rfl) rfl ?_
           refine WPL.q (q_mv (v := .lit (.int _ _)) rfl) rfl ?_
           refine WPL.nilW ?_
           exact W.wk [0, 4, 2] hnp (Then.n ⟨n, ((IntKind.wrap .i64 (x10913 + 1)), x10972, x10973), Nat.lt_succ_self n, H, rfl, rfl⟩) ⟨rfl, ⟨⟨⟨trivial, .inr ⟨rfl, rfl, rfl⟩⟩, .inr ⟨rfl, rfl, rfl⟩⟩, .inr ⟨rfl, rfl, rfl⟩⟩, by decide, rfl, trivial⟩ (LeE.upd rfl rfl (LeE.upd rfl rfl (LeE.upd rfl rfl (LeE.upd rfl rfl (LeE.upd rfl rfl (LeE.upd rfl rfl (LeE.upd rfl rfl (LeE.upd rfl rfl (LeE.upd rfl rfl (LeE.upd rfl rfl (LeE.upd rfl rfl (LeE.none rfl rfl)))))))))))) rfl
         replace H := cnf hb10947 H
         refine WP.exitW ?_
         have q0 := (Prod.mk.inj (Option.some.inj H)).1
         have q1 := (Prod.mk.inj (Option.some.inj H)).2
         subst q0
         subst q1
         exact W.wk [0, 1] hnp (Then.x (Then.x ⟨rfl, rfl, rfl⟩)) ⟨rfl, ⟨⟨trivial, .inr ⟨rfl, rfl, rfl⟩⟩, .inr ⟨rfl, rfl, rfl⟩⟩, by decide, rfl, trivial⟩ (LeE.upd rfl rfl (LeE.upd rfl rfl (LeE.upd rfl rfl (LeE.upd rfl rfl (LeE.none rfl rfl))))) rfl
       rintro _ _ _ ⟨rfl, rfl, rfl⟩
       refine W.now ?_
       refine InBlock.x0 ?_
       refine Then.n ?_
       refine WP.seq ?_
       refine WP.region ?_
       refine WPL.q (q_mv (v := .ptr _ _) rfl) rfl ?_
       refine WPL.q (q_mv (v := .ro _ _ _) rfl) rfl ?_
       refine WPL.q (q_mv (v := .ro _ _ _) rfl) rfl ?_
       obtain ⟨⟨x10976, x10977⟩, h10974, H⟩ := bnd H
       refine WPL.c (runs_call (s := [0, 1]) (t := [0, 2, 3]) (N := 4) (bor := []) fn28 rfl (s_deflate_coded k x10792 x10794 x10944 x10945 x10976 x10977 h10974) ⟨rfl, ⟨⟨trivial, .inr ⟨rfl, rfl, rfl⟩⟩, .inr ⟨rfl, rfl, rfl⟩⟩, by decide, rfl, trivial⟩ rfl trivial (.ren rfl rfl (.ren rfl rfl (.ren rfl rfl .nil))) rfl ⟨⟨⟨trivial, rfl⟩, rfl⟩, rfl⟩ rfl) rfl ?_
       refine WPL.q (q_mv (v := .ro _ _ _) rfl) rfl ?_
       obtain ⟨⟨x10979, x10980⟩, h10977, H⟩ := bnd H
       refine WPL.c (runs_call (s := [3, 0, 2]) (t := [3, 0, 4]) (N := 5) (bor := []) fn31 rfl (s_deflate_coder_all k x5183 x10792 x10794 x10976 x10977 x10944 x10945 x10979 x10980 h10977) ⟨rfl, ⟨⟨⟨trivial, .inr ⟨rfl, rfl, rfl⟩⟩, .inr ⟨rfl, rfl, rfl⟩⟩, .inr ⟨rfl, rfl, rfl⟩⟩, by decide, rfl, trivial⟩ rfl trivial (.ren rfl rfl (.ren rfl rfl .nil)) rfl ⟨⟨⟨trivial, rfl⟩, rfl⟩, rfl⟩ rfl) rfl ?_
       refine WPL.nilW ?_
       refine W.now ?_
       refine Then.n ?_
       refine WP.seq ?_
       refine WP.region ?_
       refine WPL.q (q_mv (v := .ptr _ _) rfl) rfl ?_
       obtain ⟨x10982, h10980, H⟩ := bnd H
       refine WPL.c (runs_call (s := [0, 4]) (t := [0, 5]) (N := 6) (bor := []) fn27 rfl (s_bits_Writer_Done k x10979 x10980 x10982 h10980) ⟨rfl, ⟨⟨trivial, .inr ⟨rfl, rfl, rfl⟩⟩, .inr ⟨rfl, rfl, rfl⟩⟩, by decide, rfl, trivial⟩ rfl trivial (.ren rfl rfl .nil) rfl ⟨⟨trivial, rfl⟩, rfl⟩ rfl) rfl ?_
       refine WPL.q (q_as (v := .ro _ _ _) rfl) rfl ?_
       refine WPL.nilW ?_
       refine W.now ?_
       refine Then.n ?_
       refine WP.retW ?_
       have q0 := Option.some.inj H
       subst q0
       exact W.now (BodyR.mkR trivial rfl [] ⟨rfl, rfl⟩ ⟨rfl, trivial, by decide, rfl, trivial⟩ rfl rfl)
     refine WPL.pW (runs_callP (s := [0]) (t := [0]) (N := 1) (bor := []) fn38 rfl (s_deflate_row k x10817 (Sum.inr x10829) h10824) ⟨rfl, ⟨trivial, .inr ⟨rfl, rfl, rfl⟩⟩, by decide, rfl, trivial⟩ rfl trivial (.ren rfl rfl .nil) rfl ⟨trivial, rfl⟩ rfl) ?_
     have q0 := Option.some.inj H
     subst q0
     exact W.now (Then.p (BodyR.mkP trivial [] ⟨rfl, rfl⟩ ⟨rfl, trivial, by decide, rfl, trivial⟩ rfl rfl))
   refine WPL.pW (runs_callP (s := []) (t := []) (N := 2) (bor := [1]) fn34 rfl (s_huff_Lengths k x10735 15 (Sum.inr x10789) h10785) ⟨rfl, trivial, by decide, rfl, trivial⟩ rfl ⟨trivial, rfl, rfl, trivial⟩ (.row rfl rfl (.ren rfl rfl .nil)) rfl trivial rfl) ?_
   have q0 := Option.some.inj H
   subst q0
   exact W.now (Then.p (BodyR.mkP trivial [] ⟨rfl, rfl⟩ ⟨rfl, trivial, by decide, rfl, trivial⟩ rfl rfl))
 refine WPL.pW (runs_callP (s := []) (t := []) (N := 2) (bor := [0]) fn34 rfl (s_huff_Lengths k x10734 15 (Sum.inr x10784) h10780) ⟨rfl, trivial, by decide, rfl, trivial⟩ rfl ⟨trivial, rfl, rfl, trivial⟩ (.row rfl rfl (.ren rfl rfl .nil)) rfl trivial rfl) ?_
 have q0 := Option.some.inj H
 subst q0
 exact W.now (Then.p (BodyR.mkP trivial [] ⟨rfl, rfl⟩ ⟨rfl, trivial, by decide, rfl, trivial⟩ rfl rfl))
end Go.Proofs.Ytmmeanjjfhimjaa.W
namespace Go.Proofs.Ytmmeanjjfhimjaa.W
open Go Go.Q Go.Proofs
set_option linter.unusedVariables false
set_option linter.unusedSimpArgs false
set_option maxRecDepth 100000 in
set_option maxHeartbeats 4000000 in
theorem s_deflate_Deflate (k : Nat) (x7 : (List Int)) (x8 : Int) (r : (((List Int) × Int) ⊕ ByteArray)) (H : g_deflate_Deflate k x7 x8 = some r) : Go.Q.Spec Try.prog 7 0 [.ro (Rd.slice (Rd.int .u8)) true x7, .lit (.int .i64 x8)] Mem.nil (fun o M => match (generalizing := false) r with | (Sum.inl (x11006, x11007)) => o = .ret (.tup [.ro (Rd.slice (Rd.int .u8)) false x11006, .lit (.int .i64 x11007)]) ∧ M = Mem.nil | (Sum.inr x11008) => o = .pan (.ifc 9 (.lit (.string x11008))) ∧ M = Mem.nil) := by
 unfold g_deflate_Deflate at H
 refine Go.Q.Spec.of_bodyR (az := []) (rs := [.tmp 4, .tmp 5]) (nt := 49) Try.func7 rfl rfl (by intro t T h; simp at h) rfl rfl fun cx hnp => ?_
 refine WP.seq ?_
 refine WP.region ?_
 refine WPL.q (q_as (v := .lit _) rfl) rfl ?_
 refine WPL.q (q_as (v := .lit (.int _ _)) rfl) rfl ?_
 refine WPL.nilW ?_
 refine W.now ?_
 refine Then.n ?_
 refine WP.seq ?_
 refine WP.seq ?_
 obtain ⟨x11015, H11016, H⟩ := bnd H
 refine WP.monoW (Q := fun x E M => x = .normal ∧ E = (((Env.none.upd 0 (.ro (Rd.slice (Rd.int .u8)) true x7)).upd 1 (.lit (.int .i64 x8))).upd 15 (.lit (.bool x11015))) ∧ M = Mem.nil) ?_ ?_
 · clear H
   have H := H11016
   clear H11016
   refine WP.region ?_
   refine WPL.q (q_mv (v := .lit (.int _ _)) rfl) rfl ?_
   refine WPL.q (q_lss rfl rfl) rfl ?_
   refine WPL.q (q_mv (v := .lit (.bool _)) rfl) rfl ?_
   refine WPL.split (t := 12) (b := (decide (x8 < 0))) rfl (fun hb11015 => ?_) (fun hb11015 => ?_)
   · replace H := cnt hb11015 H
     refine WPL.skipg (b' := true) rfl rfl (lb hb11015) rfl rfl (.inl trivial) ?_
     refine WPL.skipg (b' := true) rfl rfl (lb hb11015) rfl rfl (.inl trivial) ?_
     refine WPL.q (q_pickT (v := .lit (.bool _)) (lb hb11015) rfl) rfl ?_
     refine WPL.nilW ?_
     have q0 := (Option.some.inj H)
     subst q0
     exact W.wk [] hnp ⟨rfl, rfl, rfl⟩ ⟨rfl, trivial, by decide, rfl, trivial⟩ (LeE.upd rfl rfl (LeE.upd rfl rfl (LeE.upd rfl rfl (LeE.none rfl rfl)))) rfl
   replace H := cnf hb11015 H
   refine WPL.qg rfl rfl (lb hb11015) (q_mv (v := .lit (.int _ _)) rfl) rfl ?_
   refine WPL.qg rfl rfl (lb hb11015) (q_gtr rfl rfl) rfl ?_
   refine WPL.q (q_pickF (v := .lit (.bool _)) (lb hb11015) rfl) rfl ?_
   refine WPL.nilW ?_
   have q0 := (Option.some.inj H)
   subst q0
   exact W.wk [] hnp ⟨rfl, rfl, rfl⟩ ⟨rfl, trivial, by decide, rfl, trivial⟩ (LeE.upd rfl rfl (LeE.upd rfl rfl (LeE.upd rfl rfl (LeE.none rfl rfl)))) rfl
 rintro _ _ _ ⟨rfl, rfl, rfl⟩
 refine W.now ?_
 refine Then.n ?_
 refine WP.cond (t := x11015) rfl (fun hb11017 => ?_) (fun hb11017 => ?_)
 · replace H := cnt hb11017 H
   refine WP.seq ?_
   refine WP.region ?_
   refine WPL.q (q_as (v := .lit _) rfl) rfl ?_
   refine WPL.q (q_as (v := .lit (.int _ _)) rfl) rfl ?_
   refine WPL.nilW ?_
   refine W.now ?_
   refine Then.n ?_
   refine WP.retW ?_
   refine W.cv (Cv.nilRo (Rd.int .u8) false 4 rfl) rfl ?_
   have q0 := Option.some.inj H
   subst q0
   exact W.now (Then.r (BodyR.mkR trivial rfl [] ⟨rfl, rfl⟩ ⟨rfl, trivial, by decide, rfl, trivial⟩ rfl rfl))
 replace H := cnf hb11017 H
 refine WP.skipW ?_
 refine W.now ?_
 refine Then.n ?_
 refine WP.seq ?_
 refine WP.seq ?_
 refine WP.region ?_
 refine WPL.q (q_mv (v := .ro _ _ _) rfl) rfl ?_
 refine WPL.q (q_len_ro sl22 rfl) rfl ?_
 obtain ⟨x11021, h11021, H⟩ := bnd H
 refine WPL.q (q_nm (q_gtr rfl rfl) (nm_bool h11021)) rfl ?_
 refine WPL.nilW ?_
 refine W.now ?_
 refine Then.n ?_
 refine WP.cond (t := x11021) rfl (fun hb11021 => ?_) (fun hb11021 => ?_)
 · replace H := cnt hb11021 H
   refine WP.seq ?_
   refine WP.region ?_
   refine WPL.q (q_as (v := .lit _) rfl) rfl ?_
   refine WPL.q (q_as (v := .lit (.int _ _)) rfl) rfl ?_
   refine WPL.nilW ?_
   refine W.now ?_
   refine Then.n ?_
   refine WP.retW ?_
   refine W.cv (Cv.nilRo (Rd.int .u8) false 4 rfl) rfl ?_
   have q0 := Option.some.inj H
   subst q0
   exact W.now (Then.r (BodyR.mkR trivial rfl [] ⟨rfl, rfl⟩ ⟨rfl, trivial, by decide, rfl, trivial⟩ rfl rfl))
 replace H := cnf hb11021 H
 refine WP.skipW ?_
 refine W.now ?_
 refine Then.n ?_
 refine WP.seq ?_
 refine WP.region ?_
 refine WPL.q (q_mv (v := .ro _ _ _) rfl) rfl ?_
 obtain ⟨x11024, h11022, H⟩ := bnd H
 refine WPL.c (runs_call (s := []) (t := []) (N := 0) (bor := []) fn16 rfl (s_deflate_stored k x7 x11024 h11022) ⟨rfl, trivial, by decide, rfl, trivial⟩ rfl trivial (.ren rfl rfl .nil) rfl trivial rfl) rfl ?_
 refine WPL.q (q_as (v := .ro _ _ _) rfl) rfl ?_
 refine WPL.nilW ?_
 refine W.now ?_
 refine Then.n ?_
 refine WP.seq ?_
 refine WP.seq ?_
 refine WP.region ?_
 refine WPL.q (q_mv (v := .lit (.int _ _)) rfl) rfl ?_
 refine WPL.q (q_eql rfl rfl) rfl ?_
 refine WPL.nilW ?_
 refine W.now ?_
 refine Then.n ?_
 refine WP.cond (t := (decide (x8 = 0))) rfl (fun hb11025 => ?_) (fun hb11025 => ?_)
 · replace H := cnt hb11025 H
   refine WP.seq ?_
   refine WP.region ?_
   refine WPL.q (q_mv (v := .ro _ _ _) rfl) rfl ?_
   refine WPL.q (q_as (v := .ro _ _ _) rfl) rfl ?_
   refine WPL.q (q_as (v := .lit (.int _ _)) rfl) rfl ?_
   refine WPL.nilW ?_
   refine W.now ?_
   refine Then.n ?_
   refine WP.retW ?_
   have q0 := Option.some.inj H
   subst q0
   exact W.now (Then.r (BodyR.mkR trivial rfl [] ⟨rfl, rfl⟩ ⟨rfl, trivial, by decide, rfl, trivial⟩ rfl rfl))
 replace H := cnf hb11025 H
 refine WP.skipW ?_
 refine W.now ?_
 refine Then.n ?_
 refine WP.seq ?_
 refine WP.region ?_
 refine WPL.q (q_mv (v := .ro _ _ _) rfl) rfl ?_
 obtain ⟨x11028, h11026, H⟩ := bnd H
 refine WPL.c (runs_call (s := []) (t := []) (N := 0) (bor := []) fn13 rfl (s_deflate_Parse k x7 x11028 h11026) ⟨rfl, trivial, by decide, rfl, trivial⟩ rfl trivial (.ren rfl rfl .nil) rfl trivial rfl) rfl ?_
 refine WPL.q (q_as (v := .ro _ _ _) rfl) rfl ?_
 refine WPL.nilW ?_
 refine W.now ?_
 refine Then.n ?_
 refine WP.seq ?_
 obtain ⟨x11033, H11037, H⟩ := bnd H
 refine WP.monoW (Q := fun x E M => x = .normal ∧ E = (((Env.none.upd 1 (.lit (.int .i64 x8))).upd 6 (.ro (Rd.slice (Rd.int .u8)) false x11033)).upd 7 (.ro (Rd.slice rdS_deflate_Item) false x11028)) ∧ M = Mem.nil) ?_ ?_
 · clear H
   have H := H11037
   clear H11037
   refine WP.seq ?_
   refine WP.region ?_
   refine WPL.q (q_mv (v := .ro _ _ _) rfl) rfl ?_
   obtain ⟨x11035, h11033, H⟩ := bnd H
   refine WPL.c (runs_call (s := []) (t := []) (N := 0) (bor := []) fn17 rfl (s_deflate_fixed k x11028 x11035 h11033) ⟨rfl, trivial, by decide, rfl, trivial⟩ rfl trivial (.ren rfl rfl .nil) rfl trivial rfl) rfl ?_
   refine WPL.q (q_as (v := .ro _ _ _) rfl) rfl ?_
   refine WPL.nilW ?_
   refine W.now ?_
   refine Then.n ?_
   refine WP.seq ?_
   refine WP.region ?_
   refine WPL.q (q_mv (v := .ro _ _ _) rfl) rfl ?_
   refine WPL.q (q_len_ro sl22 rfl) rfl ?_
   refine WPL.q (q_mv (v := .ro _ _ _) rfl) rfl ?_
   refine WPL.q (q_len_ro sl22 rfl) rfl ?_
   obtain ⟨x11036, h11036, H⟩ := bnd H
   refine WPL.q (q_nm (q_lss rfl rfl) (nm_bool h11036)) rfl ?_
   refine WPL.nilW ?_
   refine W.now ?_
   refine Then.n ?_
   refine WP.cond (t := x11036) rfl (fun hb11036 => ?_) (fun hb11036 => ?_)
   · replace H := cnt hb11036 H
     refine WP.region ?_
     refine WPL.q (q_mv (v := .ro _ _ _) rfl) rfl ?_
     refine WPL.q (q_as (v := .ro _ _ _) rfl) rfl ?_
     refine WPL.nilW ?_
     have q0 := (Option.some.inj H)
     subst q0
     exact W.wk [] hnp ⟨rfl, rfl, rfl⟩ ⟨rfl, trivial, by decide, rfl, trivial⟩ (LeE.upd rfl rfl (LeE.upd rfl rfl (LeE.upd rfl rfl (LeE.none rfl rfl)))) rfl
   replace H := cnf hb11036 H
   refine WP.skipW ?_
   have q0 := (Option.some.inj H)
   subst q0
   exact W.wk [] hnp ⟨rfl, rfl, rfl⟩ ⟨rfl, trivial, by decide, rfl, trivial⟩ (LeE.upd rfl rfl (LeE.upd rfl rfl (LeE.upd rfl rfl (LeE.none rfl rfl)))) rfl
 rintro _ _ _ ⟨rfl, rfl, rfl⟩
 refine W.now ?_
 refine Then.n ?_
 refine WP.seq ?_
 obtain ⟨y11062, H11060, H⟩ := bnd H
 refine WP.monoW (Q := fun x E M => match (generalizing := false) y11062 with | (Sum.inl x11049) => x = .panic (.ifc 9 (.lit (.string x11049))) ∧ E = Env.none ∧ M = Mem.nil | (Sum.inr x11050) => x = .normal ∧ E = (Env.none.upd 6 (.ro (Rd.slice (Rd.int .u8)) false x11050)) ∧ M = Mem.nil) ?_ ?_
 · clear H
   have H := H11060
   clear H11060
   refine WP.seq ?_
   refine WP.region ?_
   refine WPL.q (q_mv (v := .lit (.int _ _)) rfl) rfl ?_
   refine WPL.q (q_eql rfl rfl) rfl ?_
   refine WPL.nilW ?_
   refine W.now ?_
   refine Then.n ?_
   refine WP.cond (t := (decide (x8 = 2))) rfl (fun hb11050 => ?_) (fun hb11050 => ?_)
   · replace H := cnt hb11050 H
     refine WP.seq ?_
     refine WP.region ?_
     refine WPL.q (q_mv (v := .ro _ _ _) rfl) rfl ?_
     obtain ⟨y11055, h11051, H⟩ := bnd H
     rcases y11055 with x11053 | x11054
     · refine WPL.pW (runs_callP (s := []) (t := []) (N := 0) (bor := []) fn18 rfl (s_deflate_dynamic k x11028 (Sum.inl x11053) h11051) ⟨rfl, trivial, by decide, rfl, trivial⟩ rfl trivial (.ren rfl rfl .nil) rfl trivial rfl) ?_
       have q0 := Option.some.inj H
       subst q0
       exact W.wkP [] hnp (Then.p ⟨rfl, rfl, rfl⟩) ⟨rfl, trivial, by decide, rfl, trivial⟩ (LeE.none rfl rfl) rfl rfl
     refine WPL.c (runs_call (s := []) (t := []) (N := 0) (bor := []) fn18 rfl (s_deflate_dynamic k x11028 (Sum.inr x11054) h11051) ⟨rfl, trivial, by decide, rfl, trivial⟩ rfl trivial (.ren rfl rfl .nil) rfl trivial rfl) rfl ?_
     refine WPL.q (q_as (v := .ro _ _ _) rfl) rfl ?_
     refine WPL.nilW ?_
     refine W.now ?_
     refine Then.n ?_
     refine WP.seq ?_
     refine WP.region ?_
     refine WPL.q (q_mv (v := .ro _ _ _) rfl) rfl ?_
     obtain ⟨h11057, H⟩ := grd H
     refine WPL.q (q_neqNilRo Try.underlying22 rfl h11057) rfl ?_
     refine WPL.q (q_mv (v := .lit (.bool _)) rfl) rfl ?_
     refine WPL.qg rfl rfl rfl (q_mv (v := .ro _ _ _) rfl) rfl ?_
     refine WPL.qg rfl rfl rfl (q_len_ro sl22 rfl) rfl ?_
     refine WPL.qg rfl rfl rfl (q_mv (v := .ro _ _ _) rfl) rfl ?_
     refine WPL.qg rfl rfl rfl (q_len_ro sl22 rfl) rfl ?_
     obtain ⟨x11059, h11059, H⟩ := bnd H
     refine WPL.qg rfl rfl rfl (q_nm (q_lss rfl rfl) (nm_bool h11059)) rfl ?_
     refine WPL.q (q_pickT (v := .lit (.bool _)) rfl rfl) rfl ?_
     refine WPL.nilW ?_
     refine W.now ?_
     refine Then.n ?_
     refine WP.cond (t := x11059) rfl (fun hb11059 => ?_) (fun hb11059 => ?_)
     · replace H := cnt hb11059 H
       refine WP.region ?_
       refine WPL.q (q_mv (v := .ro _ _ _) rfl) rfl ?_
       refine WPL.q (q_as (v := .ro _ _ _) rfl) rfl ?_
       refine WPL.nilW ?_
       have q0 := Option.some.inj H
       subst q0
       exact W.wk [] hnp ⟨rfl, rfl, rfl⟩ ⟨rfl, trivial, by decide, rfl, trivial⟩ (LeE.upd rfl rfl (LeE.none rfl rfl)) rfl
     replace H := cnf hb11059 H
     refine WP.skipW ?_
     have q0 := Option.some.inj H
     subst q0
     exact W.wk [] hnp ⟨rfl, rfl, rfl⟩ ⟨rfl, trivial, by decide, rfl, trivial⟩ (LeE.upd rfl rfl (LeE.none rfl rfl)) rfl
   replace H := cnf hb11050 H
   refine WP.skipW ?_
   have q0 := Option.some.inj H
   subst q0
   exact W.wk [] hnp ⟨rfl, rfl, rfl⟩ ⟨rfl, trivial, by decide, rfl, trivial⟩ (LeE.upd rfl rfl (LeE.none rfl rfl)) rfl
 rcases y11062 with x11049 | x11050
 · rintro _ _ _ ⟨rfl, rfl, rfl⟩
   have q0 := Option.some.inj H
   subst q0
   exact W.now (Then.p (BodyR.mkP trivial [] ⟨rfl, rfl⟩ ⟨rfl, trivial, by decide, rfl, trivial⟩ rfl rfl))
 rintro _ _ _ ⟨rfl, rfl, rfl⟩
 refine W.now ?_
 refine Then.n ?_
 refine WP.seq ?_
 refine WP.region ?_
 refine WPL.q (q_mv (v := .ro _ _ _) rfl) rfl ?_
 refine WPL.q (q_as (v := .ro _ _ _) rfl) rfl ?_
 refine WPL.q (q_as (v := .lit (.int _ _)) rfl) rfl ?_
 refine WPL.nilW ?_
 refine W.now ?_
 refine Then.n ?_
 refine WP.retW ?_
 have q0 := Option.some.inj H
 subst q0
 exact W.now (BodyR.mkR trivial rfl [] ⟨rfl, rfl⟩ ⟨rfl, trivial, by decide, rfl, trivial⟩ rfl rfl)
set_option maxRecDepth 100000 in
set_option maxHeartbeats 4000000 in
theorem s_quirelaw01_Same (k : Nat) (x11069 : (List Int)) (x11070 : (List Int)) (x11073 : Bool) (H : g_quirelaw01_Same k x11069 x11070 = some x11073) : Go.Q.Spec Try.prog 10 0 [.ro (Rd.slice (Rd.int .u8)) false x11069, .ro (Rd.slice (Rd.int .u8)) true x11070] Mem.nil (fun o M => o = .ret (.lit (.bool x11073)) ∧ M = Mem.nil) := by
 unfold g_quirelaw01_Same at H
 refine Go.Q.Spec.of_bodyR (az := []) (rs := [.tmp 4]) (nt := 10) Try.func10 rfl rfl (by intro t T h; simp at h) rfl rfl fun cx hnp => ?_
 refine WP.seq ?_
 refine WP.region ?_
 refine WPL.q (q_as (v := .lit (.bool _)) rfl) rfl ?_
 refine WPL.nilW ?_
 refine W.now ?_
 refine Then.n ?_
 refine WP.seq ?_
 refine WP.region ?_
 refine WPL.q (q_mv (v := .ro _ _ _) rfl) rfl ?_
 refine WPL.q (q_bytes_str Try.underlying22 Try.underlying5 Try.underlying9 rfl) rfl ?_
 refine WPL.q (q_mv (v := .ro _ _ _) rfl) rfl ?_
 refine WPL.q (q_bytes_str Try.underlying22 Try.underlying5 Try.underlying9 rfl) rfl ?_
 obtain ⟨x11074, h11074, H⟩ := bnd H
 refine WPL.q (q_nm (q_eqls rfl rfl) (nm_bool h11074)) rfl ?_
 refine WPL.q (q_as (v := .lit (.bool _)) rfl) rfl ?_
 refine WPL.nilW ?_
 refine W.now ?_
 refine Then.n ?_
 refine WP.retW ?_
 have q0 := (Option.some.inj H)
 subst q0
 exact W.now (BodyR.mkR trivial rfl [] ⟨rfl, rfl⟩ ⟨rfl, trivial, by decide, rfl, trivial⟩ rfl rfl)
set_option maxRecDepth 100000 in
set_option maxHeartbeats 4000000 in
theorem s_quirelaw04_alive (k : Nat) (r : (Bool ⊕ ByteArray)) (H : g_quirelaw04_alive k = some r) : Go.Q.Spec Try.prog 8 0 [] Mem.nil (fun o M => match (generalizing := false) r with | (Sum.inl x11082) => o = .ret (.lit (.bool x11082)) ∧ M = Mem.nil | (Sum.inr x11083) => o = .pan (.ifc 9 (.lit (.string x11083))) ∧ M = Mem.nil) := by
 unfold g_quirelaw04_alive at H
 refine Go.Q.Spec.of_bodyR (az := []) (rs := [.tmp 0]) (nt := 16) Try.func8 rfl rfl (by intro t T h; simp at h) rfl rfl fun cx hnp => ?_
 refine WP.seq ?_
 refine WP.region ?_
 refine WPL.q (q_as (v := .lit (.bool _)) rfl) rfl ?_
 refine WPL.nilW ?_
 refine W.now ?_
 refine Then.n ?_
 refine WP.seq ?_
 refine WP.region ?_
 refine WPL.d (d_buildSlice (ds := ([97] : List Int)) (R := (Rd.int .u8)) li22 rfl rfl rfl rfl rfl (JoinRows.cons1 Joins.sc rfl JoinRows.nil) rfl rfl) rfl ?_
 refine WPL.d (d_bytesConst Try.underlying22 Try.underlying5 rfl rfl rfl) rfl ?_
 obtain ⟨y11088, h11083, H⟩ := bnd H
 rcases y11088 with ⟨x11085, x11086⟩ | x11087
 · refine WPL.c (runs_call (s := []) (t := []) (N := 1) (bor := [0]) fn7 rfl (s_deflate_Deflate k ([97] : List Int) 0 (Sum.inl (x11085, x11086)) h11083) ⟨rfl, trivial, by decide, rfl, trivial⟩ rfl ⟨trivial, rfl, rfl, trivial⟩ (.row rfl rfl (.ren rfl rfl .nil)) rfl trivial rfl) rfl ?_
   refine WPL.q (q_mv (v := .tup _) rfl) rfl ?_
   refine WPL.q (q_extract rfl rfl) rfl ?_
   refine WPL.q (q_extract rfl rfl) rfl ?_
   refine WPL.q (q_as (v := .ro _ _ _) rfl) rfl ?_
   refine WPL.q (q_as (v := .lit (.int _ _)) rfl) rfl ?_
   refine WPL.nilW ?_
   refine W.now ?_
   refine Then.n ?_
   refine WP.seq ?_
   obtain ⟨x11092, H11095, H⟩ := bnd H
   refine WP.monoW (Q := fun x E M => x = .normal ∧ E = (Env.none.upd 0 (.lit (.bool x11092))) ∧ M = Mem.nil) ?_ ?_
   · clear H
     have H := H11095
     clear H11095
     refine WP.region ?_
     refine WPL.q (q_mv (v := .lit (.int _ _)) rfl) rfl ?_
     refine WPL.q (q_eql rfl rfl) rfl ?_
     refine WPL.q (q_mv (v := .lit (.bool _)) rfl) rfl ?_
     refine WPL.split (t := 11) (b := (decide (x11086 = 0))) rfl (fun hb11092 => ?_) (fun hb11092 => ?_)
     · replace H := cnt hb11092 H
       refine WPL.qg rfl rfl (lb hb11092) (q_mv (v := .ro _ _ _) rfl) rfl ?_
       refine WPL.dg rfl rfl (lb hb11092) (d_buildSlice (ds := ([1, 1, 0, 254, 255, 97] : List Int)) (R := (Rd.int .u8)) li22 rfl rfl rfl rfl rfl (JoinRows.cons1 Joins.sc rfl (JoinRows.cons1 Joins.sc rfl (JoinRows.cons1 Joins.sc rfl (JoinRows.cons1 Joins.sc rfl (JoinRows.cons1 Joins.sc rfl (JoinRows.cons1 Joins.sc rfl JoinRows.nil)))))) rfl rfl) rfl ?_
       obtain ⟨x11095, h11093, H⟩ := bnd H
       refine WPL.cg rfl rfl (lb hb11092) (runs_call (s := []) (t := []) (N := 2) (bor := [1]) fn10 rfl (s_quirelaw01_Same k x11085 ([1, 1, 0, 254, 255, 97] : List Int) x11095 h11093) ⟨rfl, trivial, by decide, rfl, trivial⟩ rfl ⟨trivial, rfl, rfl, trivial⟩ (.ren rfl rfl (.row rfl rfl .nil)) rfl trivial rfl) rfl ?_
       refine WPL.q (q_pickT (v := .lit (.bool _)) (lb hb11092) rfl) rfl ?_
       refine WPL.q (q_as (v := .lit (.bool _)) rfl) rfl ?_
       refine WPL.nilW ?_
       have q0 := (Option.some.inj H)
       subst q0
       exact W.wk [] hnp ⟨rfl, rfl, rfl⟩ ⟨rfl, trivial, by decide, rfl, trivial⟩ (LeE.upd rfl rfl (LeE.none rfl rfl)) rfl
     replace H := cnf hb11092 H
     refine WPL.skipg (b' := false) rfl rfl (lb hb11092) rfl rfl (.inl trivial) ?_
     refine WPL.skipg (b' := false) rfl rfl (lb hb11092) rfl rfl (.inl trivial) ?_
     refine WPL.skipg (b' := false) rfl rfl (lb hb11092) rfl rfl (.inl (by simp only [SkipOk]; kernel_rfl)) ?_
     refine WPL.q (q_pickF (v := .lit (.bool _)) (lb hb11092) rfl) rfl ?_
     refine WPL.q (q_as (v := .lit (.bool _)) rfl) rfl ?_
     refine WPL.nilW ?_
     have q0 := (Option.some.inj H)
     subst q0
     exact W.wk [] hnp ⟨rfl, rfl, rfl⟩ ⟨rfl, trivial, by decide, rfl, trivial⟩ (LeE.upd rfl rfl (LeE.none rfl rfl)) rfl
   rintro _ _ _ ⟨rfl, rfl, rfl⟩
   refine W.now ?_
   refine Then.n ?_
   refine WP.retW ?_
   have q0 := Option.some.inj H
   subst q0
   exact W.now (BodyR.mkR trivial rfl [] ⟨rfl, rfl⟩ ⟨rfl, trivial, by decide, rfl, trivial⟩ rfl rfl)
 refine WPL.pW (runs_callP (s := []) (t := []) (N := 1) (bor := [0]) fn7 rfl (s_deflate_Deflate k ([97] : List Int) 0 (Sum.inr x11087) h11083) ⟨rfl, trivial, by decide, rfl, trivial⟩ rfl ⟨trivial, rfl, rfl, trivial⟩ (.row rfl rfl (.ren rfl rfl .nil)) rfl trivial rfl) ?_
 have q0 := Option.some.inj H
 subst q0
 exact W.now (Then.p (BodyR.mkP trivial [] ⟨rfl, rfl⟩ ⟨rfl, trivial, by decide, rfl, trivial⟩ rfl rfl))
set_option maxRecDepth 100000 in
set_option maxHeartbeats 4000000 in
theorem s_deflate_items__b (k : Nat) (x11109 : (List Int)) (H : g_deflate_items k x11109 = some ()) : Go.Q.Spec Try.prog 22 0 [.ro (Rd.slice (Rd.int .u8)) false x11109] Mem.nil (fun o M => o = .ret (.fn 50 [.ptr 0 0]) ∧ M = (Mem.nil.push (.cells 22 [.ro (Rd.slice (Rd.int .u8)) false x11109]))) := by
 unfold g_deflate_items at H
 refine Go.Q.Spec.of_bodyR (az := []) (rs := [.tmp 2]) (nt := 4) Try.func22 rfl rfl (by intro t T h; simp at h) rfl rfl fun cx hnp => ?_
 refine WP.seq ?_
 refine WP.region ?_
 refine WPL.d (d_box rfl rfl) rfl ?_
 refine WPL.q (q_as (v := .lit _) rfl) rfl ?_
 refine WPL.nilW ?_
 refine W.now ?_
 refine Then.n ?_
 refine WP.seq ?_
 refine WP.region ?_
 refine WPL.q (q_makeFunc) rfl ?_
 refine WPL.q (q_as (v := .fn _ _) rfl) rfl ?_
 refine WPL.nilW ?_
 refine W.now ?_
 refine Then.n ?_
 refine WP.retW ?_
 exact W.now (BodyR.mkR trivial rfl [0] ⟨rfl, rfl⟩ ⟨rfl, ⟨trivial, .inr ⟨rfl, rfl, rfl⟩⟩, by decide, rfl, trivial⟩ rfl rfl)
set_option maxRecDepth 100000 in
set_option maxHeartbeats 4000000 in
theorem s_deflate_matcher_learn__b (k : Nat) (x11141 : Int) (x11142 : (List Int)) (x11143 : Int) (x11144 : (List ((Int × Int × Int) × Int))) (x11145 : (List Int)) (x11262 : Int) (x11263 : (List ((Int × Int × Int) × Int))) (x11264 : (List Int)) (H : g_deflate_matcher_learn k x11141 x11142 x11143 x11144 x11145 = some (x11262, x11263, x11264)) : Go.Q.Spec Try.prog 77 2 [.ptr 0 0, .lit (.int .i64 x11141)] (((Mem.nil.push (.cells 97 [.ro (Rd.slice (Rd.int .u8)) false x11142, .mp 1, .whole 2, .lit (.int .i64 x11143)])).push (.obj (mapO fk3 (Value.int .i64) x11144))).push (.row 3 (Rd.int .i64) x11145)) (fun o M => o = .ret (.tup []) ∧ M = (((Mem.nil.push (.cells 97 [.ro (Rd.slice (Rd.int .u8)) false x11142, .mp 1, .whole 2, .lit (.int .i64 x11262)])).push (.obj (mapO fk3 (Value.int .i64) x11263))).push (.row 3 (Rd.int .i64) x11264))) := by
 unfold g_deflate_matcher_learn at H
 refine Go.Q.Spec.of_bodyR (az := []) (rs := []) (nt := 79) Try.func77 rfl rfl (by intro t T h; simp at h) rfl rfl fun cx hnp => ?_
 refine WP.block ?_
 refine WP.cv (Cv.weak (E' := ((Env.none.upd 0 (.ptr 0 0)).upd 1 (.lit (.int .i64 x11141)))) (M' := (((Mem.nil.push (.cells 97 [.ro (Rd.slice (Rd.int .u8)) false x11142, .mp 1, .whole 2, .lit (.int .i64 x11143)])).push (.obj (mapO fk3 (Value.int .i64) x11144))).push (.row 3 (Rd.int .i64) x11145))) [0, 1, 2] hnp ⟨rfl, ⟨⟨⟨trivial, .inr ⟨rfl, rfl, rfl⟩⟩, .inr ⟨rfl, rfl, rfl⟩⟩, .inr ⟨rfl, rfl, rfl⟩⟩, by decide, rfl, ⟨⟨trivial, rfl⟩, rfl⟩⟩ (LeE.upd rfl rfl (LeE.upd rfl rfl (LeE.none rfl rfl)))) ?_
 obtain ⟨⟨x11376, x11377, x11378⟩, H11432, H⟩ := bnd H
 refine WP.monoW (Q := fun x E M => x = .exit 0 ∧ E = Env.none ∧ M = (((Mem.nil.push (.cells 97 [.ro (Rd.slice (Rd.int .u8)) false x11142, .mp 1, .whole 2, .lit (.int .i64 x11376)])).push (.obj (mapO fk3 (Value.int .i64) x11377))).push (.row 3 (Rd.int .i64) x11378))) ?_ ?_
 · refine WP.loop (β := Int × (List ((Int × Int × Int) × Int)) × (List Int)) (fun n b => g_deflate_matcher_learn_l0 k x11141 x11142 n b.1 b.2.1 b.2.2 = some (x11376, x11377, x11378)) (fun b => ((Env.none.upd 0 (.ptr 0 0)).upd 1 (.lit (.int .i64 x11141)))) (fun b => (((Mem.nil.push (.cells 97 [.ro (Rd.slice (Rd.int .u8)) false x11142, .mp 1, .whole 2, .lit (.int .i64 b.1)])).push (.obj (mapO fk3 (Value.int .i64) b.2.1))).push (.row 3 (Rd.int .i64) b.2.2))) k (x11143, x11144, x11145) H11432 rfl rfl ?_
   rintro n ⟨x11319, x11320, x11321⟩ H
   obtain _ | n := n
   · exact nf rfl H
   rw [g_deflate_matcher_learn_l0.eq_2] at H
   show WP _ _ _ _ ((Env.none.upd 0 (.ptr 0 0)).upd 1 (.lit (.int .i64 x11141))) (((Mem.nil.push (.cells 97 [.ro (Rd.slice (Rd.int .u8)) false x11142, .mp 1, .whole 2, .lit (.int .i64 x11319)])).push (.obj (mapO fk3 (Value.int .i64) x11320))).push (.row 3 (Rd.int .i64) x11321)) _
   refine WP.seq ?_
   refine WP.seq ?_
   obtain ⟨x11394, H11398, H⟩ := bnd H
   refine WP.monoW (Q := fun x E M => x = .normal ∧ E = (((Env.none.upd 0 (.ptr 0 0)).upd 1 (.lit (.int .i64 x11141))).upd 25 (.lit (.bool x11394))) ∧ M = (((Mem.nil.push (.cells 97 [.ro (Rd.slice (Rd.int .u8)) false x11142, .mp 1, .whole 2, .lit (.int .i64 x11319)])).push (.obj (mapO fk3 (Value.int .i64) x11320))).push (.row 3 (Rd.int .i64) x11321))) ?_ ?_
   · clear H
     have H := H11398
     clear H11398
     refine WP.regionD' 19 [0] [] mixed rfl ?_
     refine WPD.takeT 0 rfl (by kernel_rfl) (q_mv (v := .ptr _ _) rfl) rfl ?_
     refine WPD.takeT 1 rfl (by kernel_rfl) (q_nilCheck rfl) rfl ?_
     refine WPD.takeT 2 rfl (by kernel_rfl) (q_fieldAddr fi97_3 rfl rfl) rfl ?_
     refine WPD.takeT 4 rfl (by kernel_rfl) (q_mv (v := .lit (.int _ _)) rfl) rfl ?_
     refine WPD.take 3 rfl (by kernel_rfl) (q_load sc3 rfl rfl rfl) rfl rfl ?_
     refine WPD.takeT 5 rfl (by kernel_rfl) (q_lss rfl rfl) rfl ?_
     refine WPD.takeT 6 rfl (by kernel_rfl) (q_mv (v := .lit (.bool _)) rfl) rfl ?_
     refine WPD.split (t := 13) (b := (decide (x11319 < x11141))) rfl (fun hb11396 => ?_) (fun hb11396 => ?_)
     · replace H := cnt hb11396 H
       refine WPD.takegT 7 rfl (by kernel_rfl) rfl rfl (lb hb11396) (q_mv (v := .ptr _ _) rfl) rfl ?_
       refine WPD.takegT 8 rfl (by kernel_rfl) rfl rfl (lb hb11396) (q_nilCheck rfl) rfl ?_
       refine WPD.takegT 9 rfl (by kernel_rfl) rfl rfl (lb hb11396) (q_fieldAddr fi97_3 rfl rfl) rfl ?_
       refine WPD.takegT 12 rfl (by kernel_rfl) rfl rfl (lb hb11396) (q_mv (v := .ptr _ _) rfl) rfl ?_
       refine WPD.takegT 13 rfl (by kernel_rfl) rfl rfl (lb hb11396) (q_nilCheck rfl) rfl ?_
       refine WPD.takegT 14 rfl (by kernel_rfl) rfl rfl (lb hb11396) (q_fieldAddr fi97_0 rfl rfl) rfl ?_
       refine WPD.takeg 10 rfl (by kernel_rfl) rfl rfl (lb hb11396) (q_load sc3 rfl rfl rfl) rfl rfl ?_
       refine WPD.takegT 11 rfl (by kernel_rfl) rfl rfl (lb hb11396) (q_add rfl rfl) rfl ?_
       refine WPD.takeg 15 rfl (by kernel_rfl) rfl rfl (lb hb11396) (q_load sc22 rfl rfl rfl) rfl rfl ?_
       refine WPD.takegT 16 rfl (by kernel_rfl) rfl rfl (lb hb11396) (q_len_ro sl22 rfl) rfl ?_
       obtain ⟨x11398, h11398, H⟩ := bnd H
       refine WPD.takegT 17 rfl (by kernel_rfl) rfl rfl (lb hb11396) (q_nm (q_leq rfl rfl) (nm_bool h11398)) rfl ?_
       refine WPD.takeT 18 rfl (by kernel_rfl) (q_pickT (v := .lit (.bool _)) (lb hb11396) rfl) rfl ?_
       refine WPD.doneW (by kernel_rfl) ?_
       have q0 := (Option.some.inj H)
       subst q0
       exact W.wk [0, 1, 2] hnp ⟨rfl, rfl, rfl⟩ ⟨rfl, ⟨⟨⟨trivial, .inr ⟨rfl, rfl, rfl⟩⟩, .inr ⟨rfl, rfl, rfl⟩⟩, .inr ⟨rfl, rfl, rfl⟩⟩, by decide, rfl, ⟨⟨trivial, rfl⟩, rfl⟩⟩ (LeE.upd rfl rfl (LeE.upd rfl rfl (LeE.upd rfl rfl (LeE.none rfl rfl)))) rfl
     replace H := cnf hb11396 H
     refine WPD.pass (b' := false) 7 rfl (by kernel_rfl) rfl rfl (lb hb11396) rfl rfl (.inl trivial) ?_
     refine WPD.pass (b' := false) 8 rfl (by kernel_rfl) rfl rfl (lb hb11396) rfl rfl (.inl trivial) ?_
     refine WPD.pass (b' := false) 9 rfl (by kernel_rfl) rfl rfl (lb hb11396) rfl rfl (.inl trivial) ?_
     refine WPD.pass (b' := false) 10 rfl (by kernel_rfl) rfl rfl (lb hb11396) rfl rfl (.inl trivial) ?_
     refine WPD.pass (b' := false) 11 rfl (by kernel_rfl) rfl rfl (lb hb11396) rfl rfl (.inl trivial) ?_
     refine WPD.pass (b' := false) 12 rfl (by kernel_rfl) rfl rfl (lb hb11396) rfl rfl (.inl trivial) ?_
     refine WPD.pass (b' := false) 13 rfl (by kernel_rfl) rfl rfl (lb hb11396) rfl rfl (.inl trivial) ?_
     refine WPD.pass (b' := false) 14 rfl (by kernel_rfl) rfl rfl (lb hb11396) rfl rfl (.inl trivial) ?_
     refine WPD.pass (b' := false) 15 rfl (by kernel_rfl) rfl rfl (lb hb11396) rfl rfl (.inl trivial) ?_
     refine WPD.pass (b' := false) 16 rfl (by kernel_rfl) rfl rfl (lb hb11396) rfl rfl (.inl trivial) ?_
     refine WPD.pass (b' := false) 17 rfl (by kernel_rfl) rfl rfl (lb hb11396) rfl rfl (.inl trivial) ?_
     refine WPD.takeT 18 rfl (by kernel_rfl) (q_pickF (v := .lit (.bool _)) (lb hb11396) rfl) rfl ?_
     refine WPD.doneW (by kernel_rfl) ?_
     have q0 := (Option.some.inj H)
     subst q0
     exact W.wk [0, 1, 2] hnp ⟨rfl, rfl, rfl⟩ ⟨rfl, ⟨⟨⟨trivial, .inr ⟨rfl, rfl, rfl⟩⟩, .inr ⟨rfl, rfl, rfl⟩⟩, .inr ⟨rfl, rfl, rfl⟩⟩, by decide, rfl, ⟨⟨trivial, rfl⟩, rfl⟩⟩ (LeE.upd rfl rfl (LeE.upd rfl rfl (LeE.upd rfl rfl (LeE.none rfl rfl)))) rfl
   rintro _ _ _ ⟨rfl, rfl, rfl⟩
   refine W.now ?_
   refine Then.n ?_
   refine WP.cond (t := x11394) rfl (fun hb11399 => ?_) (fun hb11399 => ?_)
   · replace H := cnt hb11399 H
     refine WP.skipW ?_
     refine W.now ?_
     refine Then.n ?_
     refine WP.seq ?_
     refine WP.block ?_
     refine WP.seq ?_
     refine WP.regionD' 18 [0] [] mixed rfl ?_
     refine WPD.takeT 0 rfl (by kernel_rfl) (q_mv (v := .ptr _ _) rfl) rfl ?_
     refine WPD.takeT 1 rfl (by kernel_rfl) (q_nilCheck rfl) rfl ?_
     refine WPD.takeT 2 rfl (by kernel_rfl) (q_fieldAddr fi97_0 rfl rfl) rfl ?_
     refine WPD.takeT 4 rfl (by kernel_rfl) (q_mv (v := .ptr _ _) rfl) rfl ?_
     refine WPD.takeT 5 rfl (by kernel_rfl) (q_nilCheck rfl) rfl ?_
     refine WPD.takeT 6 rfl (by kernel_rfl) (q_fieldAddr fi97_3 rfl rfl) rfl ?_
     refine WPD.takeT 8 rfl (by kernel_rfl) (q_mv (v := .ptr _ _) rfl) rfl ?_
     refine WPD.takeT 9 rfl (by kernel_rfl) (q_nilCheck rfl) rfl ?_
     refine WPD.takeT 10 rfl (by kernel_rfl) (q_fieldAddr fi97_3 rfl rfl) rfl ?_
     refine WPD.take 3 rfl (by kernel_rfl) (q_load sc22 rfl rfl rfl) rfl rfl ?_
     refine WPD.take 7 rfl (by kernel_rfl) (q_load sc3 rfl rfl rfl) rfl rfl ?_
     refine WPD.take 11 rfl (by kernel_rfl) (q_load sc3 rfl rfl rfl) rfl rfl ?_
     refine WPD.takeT 12 rfl (by kernel_rfl) (q_add rfl rfl) rfl ?_
     obtain ⟨h11418, H⟩ := grd H
     refine WPD.takeT 13 rfl (by kernel_rfl) (q_slice_ro (i := x11319) (j := (IntKind.wrap .i64 (x11319 + 3))) sl22 rfl rfl ⟨_, rfl⟩ ⟨_, rfl⟩ h11418) rfl ?_
     obtain ⟨h11419, H⟩ := grd H
     refine WPD.takeT 14 rfl (by kernel_rfl) (q_sliceToArr (n := 3) (0 : Int) ar136 rfl rfl h11419) rfl ?_
     refine WPD.takeT 15 rfl (by kernel_rfl) (q_load_roag ag136 rfl rfl Splits.arr) rfl ?_
     refine WPD.eff 16 [0] [] rfl (by kernel_rfl) (Does.runs (d_alloc ze136 rfl)) rfl rfl ?_
     refine WPD.effS 17 [0] [] rfl (by kernel_rfl) (s_store sz136 rfl rfl rfl rfl rfl) rfl ?_
     refine WPD.doneW (by kernel_rfl) ?_
     refine W.now ?_
     refine Then.n ?_
     refine WP.seq ?_
     refine WP.regionD' 11 [0, 1, 3] [] mixed rfl ?_
     refine WPD.takeT 0 rfl (by kernel_rfl) (q_mv (v := .ptr _ _) rfl) rfl ?_
     refine WPD.takeT 1 rfl (by kernel_rfl) (q_nilCheck rfl) rfl ?_
     refine WPD.takeT 2 rfl (by kernel_rfl) (q_fieldAddr fi97_1 rfl rfl) rfl ?_
     refine WPD.take 3 rfl (by kernel_rfl) (q_load sc95 rfl rfl rfl) rfl rfl ?_
     refine WPD.take 4 rfl (by kernel_rfl) (q_load_ag ag136 rfl rfl (Nat.le_of_ble_eq_true rfl)) rfl rfl ?_
     obtain ⟨x11425, h11425, H⟩ := bnd H
     refine WPD.take 5 rfl (by kernel_rfl) (q_lookupN (fk := fk3) (fv := (Value.int .i64)) (k := ((List.getD (List.drop (Int.toNat x11319) (List.take (Int.toNat (IntKind.wrap .i64 (x11319 + 3))) x11142)) 0 (0 : Int)), (List.getD (List.drop (Int.toNat x11319) (List.take (Int.toNat (IntKind.wrap .i64 (x11319 + 3))) x11142)) 1 (0 : Int)), (List.getD (List.drop (Int.toNat x11319) (List.take (Int.toNat (IntKind.wrap .i64 (x11319 + 3))) x11142)) 2 (0 : Int)))) (z := (0 : Int)) ko136 Try.underlying95 zv3 rfl rfl (key_agg [.int .u8 (List.getD (List.drop (Int.toNat x11319) (List.take (Int.toNat (IntKind.wrap .i64 (x11319 + 3))) x11142)) 0 (0 : Int)), .int .u8 (List.getD (List.drop (Int.toNat x11319) (List.take (Int.toNat (IntKind.wrap .i64 (x11319 + 3))) x11142)) 1 (0 : Int)), .int .u8 (List.getD (List.drop (Int.toNat x11319) (List.take (Int.toNat (IntKind.wrap .i64 (x11319 + 3))) x11142)) 2 (0 : Int))] rfl rfl) (some_inj h11425)) rfl rfl ?_
     refine WPD.takeT 6 rfl (by kernel_rfl) (q_mv (v := .tup _) rfl) rfl ?_
     refine WPD.takeT 7 rfl (by kernel_rfl) (q_extract rfl rfl) rfl ?_
     refine WPD.takeT 8 rfl (by kernel_rfl) (q_extract rfl rfl) rfl ?_
     refine WPD.takeT 9 rfl (by kernel_rfl) (q_as (v := .lit (.int _ _)) rfl) rfl ?_
     refine WPD.takeT 10 rfl (by kernel_rfl) (q_as (v := .lit (.bool _)) rfl) rfl ?_
     refine WPD.doneW (by kernel_rfl) ?_
     refine W.now ?_
     refine Then.n ?_
     refine WP.seq ?_
     obtain ⟨x11428, H11429, H⟩ := bnd H
     refine WP.monoW (Q := fun x E M => x = .normal ∧ E = ((((Env.none.upd 0 (.ptr 0 0)).upd 1 (.lit (.int .i64 x11141))).upd 4 (.ptr 3 0)).upd 5 (.lit (.int .i64 x11428))) ∧ M = ((((Mem.nil.push (.cells 97 [.ro (Rd.slice (Rd.int .u8)) false x11142, .mp 1, .whole 2, .lit (.int .i64 x11319)])).push (.obj (mapO fk3 (Value.int .i64) x11320))).push (.row 3 (Rd.int .i64) x11321)).push (.cells 136 [.lit (.int .u8 (List.getD (List.drop (Int.toNat x11319) (List.take (Int.toNat (IntKind.wrap .i64 (x11319 + 3))) x11142)) 0 (0 : Int))), .lit (.int .u8 (List.getD (List.drop (Int.toNat x11319) (List.take (Int.toNat (IntKind.wrap .i64 (x11319 + 3))) x11142)) 1 (0 : Int))), .lit (.int .u8 (List.getD (List.drop (Int.toNat x11319) (List.take (Int.toNat (IntKind.wrap .i64 (x11319 + 3))) x11142)) 2 (0 : Int)))]))) ?_ ?_
     · clear H
       have H := H11429
       clear H11429
       refine WP.seq ?_
       refine WP.region ?_
       refine WPL.q (q_mv (v := .lit (.bool _)) rfl) rfl ?_
       refine WPL.q (q_not rfl) rfl ?_
       refine WPL.nilW ?_
       refine W.now ?_
       refine Then.n ?_
       refine WP.cond (t := (!(Option.isSome x11425))) rfl (fun hb11428 => ?_) (fun hb11428 => ?_)
       · replace H := cnt hb11428 H
         refine WP.region ?_
         refine WPL.q (q_as (v := .lit (.int _ _)) rfl) rfl ?_
         refine WPL.nilW ?_
         have q0 := (Option.some.inj H)
         subst q0
         exact W.wk [0, 1, 2, 3] hnp ⟨rfl, rfl, rfl⟩ ⟨rfl, ⟨⟨⟨⟨trivial, .inr ⟨rfl, rfl, rfl⟩⟩, .inr ⟨rfl, rfl, rfl⟩⟩, .inr ⟨rfl, rfl, rfl⟩⟩, .inr ⟨rfl, rfl, rfl⟩⟩, by decide, rfl, ⟨⟨trivial, rfl⟩, rfl⟩⟩ (LeE.upd rfl rfl (LeE.upd rfl rfl (LeE.upd rfl rfl (LeE.upd rfl rfl (LeE.none rfl rfl))))) rfl
       replace H := cnf hb11428 H
       refine WP.skipW ?_
       have q0 := (Option.some.inj H)
       subst q0
       exact W.wk [0, 1, 2, 3] hnp ⟨rfl, rfl, rfl⟩ ⟨rfl, ⟨⟨⟨⟨trivial, .inr ⟨rfl, rfl, rfl⟩⟩, .inr ⟨rfl, rfl, rfl⟩⟩, .inr ⟨rfl, rfl, rfl⟩⟩, .inr ⟨rfl, rfl, rfl⟩⟩, by decide, rfl, ⟨⟨trivial, rfl⟩, rfl⟩⟩ (LeE.upd rfl rfl (LeE.upd rfl rfl (LeE.upd rfl rfl (LeE.upd rfl rfl (LeE.none rfl rfl))))) rfl
     rintro _ _ _ ⟨rfl, rfl, rfl⟩
     refine W.now ?_
     refine Then.n ?_
     refine WP.seq ?_
     refine WP.regionD' 11 [0] [] mixed rfl ?_
     refine WPD.takeT 0 rfl (by kernel_rfl) (q_mv (v := .ptr _ _) rfl) rfl ?_
     refine WPD.takeT 1 rfl (by kernel_rfl) (q_nilCheck rfl) rfl ?_
     refine WPD.takeT 2 rfl (by kernel_rfl) (q_fieldAddr fi97_2 rfl rfl) rfl ?_
     refine WPD.takeT 4 rfl (by kernel_rfl) (q_mv (v := .ptr _ _) rfl) rfl ?_
     refine WPD.takeT 5 rfl (by kernel_rfl) (q_nilCheck rfl) rfl ?_
     refine WPD.takeT 6 rfl (by kernel_rfl) (q_fieldAddr fi97_3 rfl rfl) rfl ?_
     refine WPD.takeT 8 rfl (by kernel_rfl) (q_mv (v := .lit (.int _ _)) rfl) rfl ?_
     refine WPD.take 3 rfl (by kernel_rfl) (q_load sc66 rfl rfl rfl) rfl rfl ?_
     refine WPD.take 7 rfl (by kernel_rfl) (q_load sc3 rfl rfl rfl) rfl rfl ?_
     obtain ⟨x11432, h11432, H⟩ := bnd H
     refine WPD.takeT 9 rfl (by kernel_rfl) (q_index_row sl66 rfl rfl rfl (ixs h11432)) rfl ?_
     refine WPD.effS 10 [0] [] rfl (by kernel_rfl) (s_store_row (j := (Int.toNat x11319)) (d := x11428) sz3 rfl rfl rfl rfl Joins.sc (ixl h11432)) rfl ?_
     refine WPD.doneW (by kernel_rfl) ?_
     refine W.now ?_
     refine Then.n ?_
     refine WP.regionD' 10 [0, 3] [] mixed rfl ?_
     refine WPD.takeT 0 rfl (by kernel_rfl) (q_mv (v := .ptr _ _) rfl) rfl ?_
     refine WPD.takeT 1 rfl (by kernel_rfl) (q_nilCheck rfl) rfl ?_
     refine WPD.takeT 2 rfl (by kernel_rfl) (q_fieldAddr fi97_1 rfl rfl) rfl ?_
     refine WPD.takeT 5 rfl (by kernel_rfl) (q_mv (v := .ptr _ _) rfl) rfl ?_
     refine WPD.takeT 6 rfl (by kernel_rfl) (q_nilCheck rfl) rfl ?_
     refine WPD.takeT 7 rfl (by kernel_rfl) (q_fieldAddr fi97_3 rfl rfl) rfl ?_
     refine WPD.take 3 rfl (by kernel_rfl) (q_load sc95 rfl rfl rfl) rfl rfl ?_
     refine WPD.take 4 rfl (by kernel_rfl) (q_load_ag ag136 rfl rfl (Nat.le_of_ble_eq_true rfl)) rfl rfl ?_
     refine WPD.take 8 rfl (by kernel_rfl) (q_load sc3 rfl rfl rfl) rfl rfl ?_
     refine WPD.effS 9 [0, 3] [] rfl (by kernel_rfl) (s_mapUpdate (fk := fk3) (fv := (Value.int .i64)) (k := ((List.getD (List.drop (Int.toNat x11319) (List.take (Int.toNat (IntKind.wrap .i64 (x11319 + 3))) x11142)) 0 (0 : Int)), (List.getD (List.drop (Int.toNat x11319) (List.take (Int.toNat (IntKind.wrap .i64 (x11319 + 3))) x11142)) 1 (0 : Int)), (List.getD (List.drop (Int.toNat x11319) (List.take (Int.toNat (IntKind.wrap .i64 (x11319 + 3))) x11142)) 2 (0 : Int)))) (v := x11319) ko136 Try.underlying95 rfl rfl (key_agg [.int .u8 (List.getD (List.drop (Int.toNat x11319) (List.take (Int.toNat (IntKind.wrap .i64 (x11319 + 3))) x11142)) 0 (0 : Int)), .int .u8 (List.getD (List.drop (Int.toNat x11319) (List.take (Int.toNat (IntKind.wrap .i64 (x11319 + 3))) x11142)) 1 (0 : Int)), .int .u8 (List.getD (List.drop (Int.toNat x11319) (List.take (Int.toNat (IntKind.wrap .i64 (x11319 + 3))) x11142)) 2 (0 : Int))] rfl rfl) rfl) rfl ?_
     refine WPD.doneW (by kernel_rfl) ?_
     refine W.now ?_
     refine InBlock.n ?_
     refine Then.n ?_
     refine WP.region ?_
     refine WPL.q (q_mv (v := .ptr _ _) rfl) rfl ?_
     refine WPL.q (q_nilCheck rfl) rfl ?_
     refine WPL.q (q_fieldAddr fi97_3 rfl rfl) rfl ?_
     refine WPL.q (q_load sc3 rfl rfl rfl) rfl ?_
     refine WPL.q (q_add rfl rfl) rfl ?_
     refine WPL.q (q_nilCheck rfl) rfl ?_
     refine WPL.q (q_fieldAddr fi97_3 rfl rfl) rfl ?_
     refine WPL.s (s_store sz3 rfl rfl rfl rfl rfl) ?_
     refine WPL.nilW ?_
     exact W.wk [0, 1, 2] hnp (Then.n ⟨n, ((IntKind.wrap .i64 (x11319 + 1)), (mapPut x11320 ((List.getD (List.drop (Int.toNat x11319) (List.take (Int.toNat (IntKind.wrap .i64 (x11319 + 3))) x11142)) 0 (0 : Int)), (List.getD (List.drop (Int.toNat x11319) (List.take (Int.toNat (IntKind.wrap .i64 (x11319 + 3))) x11142)) 1 (0 : Int)), (List.getD (List.drop (Int.toNat x11319) (List.take (Int.toNat (IntKind.wrap .i64 (x11319 + 3))) x11142)) 2 (0 : Int))) x11319), (List.set x11321 (Int.toNat x11319) x11428)), Nat.lt_succ_self n, H, rfl, rfl⟩) ⟨rfl, ⟨⟨⟨trivial, .inr ⟨rfl, rfl, rfl⟩⟩, .inr ⟨rfl, rfl, rfl⟩⟩, .inr ⟨rfl, rfl, rfl⟩⟩, by decide, rfl, ⟨⟨trivial, rfl⟩, rfl⟩⟩ (LeE.upd rfl rfl (LeE.upd rfl rfl (LeE.none rfl rfl))) rfl
   replace H := cnf hb11399 H
   refine WP.exitW ?_
   have q0 := (Prod.mk.inj (Option.some.inj H)).1
   have q1 := (Prod.mk.inj (Prod.mk.inj (Option.some.inj H)).2).1
   have q2 := (Prod.mk.inj (Prod.mk.inj (Option.some.inj H)).2).2
   subst q0
   subst q1
   subst q2
   exact W.wk [0, 1, 2] hnp (Then.x (Then.x ⟨rfl, rfl, rfl⟩)) ⟨rfl, ⟨⟨⟨trivial, .inr ⟨rfl, rfl, rfl⟩⟩, .inr ⟨rfl, rfl, rfl⟩⟩, .inr ⟨rfl, rfl, rfl⟩⟩, by decide, rfl, ⟨⟨trivial, rfl⟩, rfl⟩⟩ (LeE.none rfl rfl) rfl
 rintro _ _ _ ⟨rfl, rfl, rfl⟩
 have q0 := (Prod.mk.inj (Option.some.inj H)).1
 have q1 := (Prod.mk.inj (Prod.mk.inj (Option.some.inj H)).2).1
 have q2 := (Prod.mk.inj (Prod.mk.inj (Option.some.inj H)).2).2
 subst q0
 subst q1
 subst q2
 exact W.now (InBlock.x0 (BodyR.mkN trivial rfl [0, 1, 2] ⟨rfl, rfl⟩ ⟨rfl, ⟨⟨⟨trivial, .inr ⟨rfl, rfl, rfl⟩⟩, .inr ⟨rfl, rfl, rfl⟩⟩, .inr ⟨rfl, rfl, rfl⟩⟩, by decide, rfl, ⟨⟨trivial, rfl⟩, rfl⟩⟩ rfl rfl))
set_option maxRecDepth 100000 in
set_option maxHeartbeats 4000000 in
theorem s_deflate_matcher_longest__b (k : Nat) (x11131 : Int) (x11132 : (List Int)) (x11133 : Int) (x11134 : (List ((Int × Int × Int) × Int))) (x11135 : (List Int)) (x11949 : Int) (x11950 : Int) (x11951 : Int) (x11952 : (List ((Int × Int × Int) × Int))) (x11953 : (List Int)) (H : g_deflate_matcher_longest k x11131 x11132 x11133 x11134 x11135 = some (x11949, x11950, x11951, x11952, x11953)) : Go.Q.Spec Try.prog 51 2 [.ptr 0 0, .lit (.int .i64 x11131)] (((Mem.nil.push (.cells 97 [.ro (Rd.slice (Rd.int .u8)) false x11132, .mp 1, .whole 2, .lit (.int .i64 x11133)])).push (.obj (mapO fk3 (Value.int .i64) x11134))).push (.row 3 (Rd.int .i64) x11135)) (fun o M => o = .ret (.tup [.lit (.int .i64 x11949), .lit (.int .i64 x11950)]) ∧ M = (((Mem.nil.push (.cells 97 [.ro (Rd.slice (Rd.int .u8)) false x11132, .mp 1, .whole 2, .lit (.int .i64 x11951)])).push (.obj (mapO fk3 (Value.int .i64) x11952))).push (.row 3 (Rd.int .i64) x11953))) := by
 unfold g_deflate_matcher_longest at H
 refine Go.Q.Spec.of_bodyR (az := []) (rs := [.tmp 4, .tmp 5]) (nt := 105) Try.func51 rfl rfl (by intro t T h; simp at h) rfl rfl fun cx hnp => ?_
 refine WP.seq ?_
 refine WP.region ?_
 refine WPL.q (q_as (v := .lit (.int _ _)) rfl) rfl ?_
 refine WPL.q (q_as (v := .lit (.int _ _)) rfl) rfl ?_
 refine WPL.nilW ?_
 refine W.now ?_
 refine Then.n ?_
 refine WP.scope ?_
 refine WP.seq ?_
 refine WP.seq ?_
 refine WP.region ?_
 refine WPL.q (q_mv (v := .lit (.int _ _)) rfl) rfl ?_
 refine WPL.q (q_add rfl rfl) rfl ?_
 refine WPL.q (q_mv (v := .ptr _ _) rfl) rfl ?_
 refine WPL.q (q_nilCheck rfl) rfl ?_
 refine WPL.q (q_fieldAddr fi97_0 rfl rfl) rfl ?_
 refine WPL.q (q_load sc22 rfl rfl rfl) rfl ?_
 refine WPL.q (q_len_ro sl22 rfl) rfl ?_
 obtain ⟨x11956, h11956, H⟩ := bnd H
 refine WPL.q (q_nm (q_gtr rfl rfl) (nm_bool h11956)) rfl ?_
 refine WPL.nilW ?_
 refine W.now ?_
 refine Then.n ?_
 refine WP.cond (t := x11956) rfl (fun hb11956 => ?_) (fun hb11956 => ?_)
 · replace H := cnt hb11956 H
   refine WP.seq ?_
   refine WP.region ?_
   refine WPL.q (q_as (v := .lit (.int _ _)) rfl) rfl ?_
   refine WPL.q (q_as (v := .lit (.int _ _)) rfl) rfl ?_
   refine WPL.nilW ?_
   refine W.now ?_
   refine Then.n ?_
   refine WP.retW ?_
   have q0 := (Prod.mk.inj (Option.some.inj H)).1
   have q1 := (Prod.mk.inj (Prod.mk.inj (Option.some.inj H)).2).1
   have q2 := (Prod.mk.inj (Prod.mk.inj (Prod.mk.inj (Option.some.inj H)).2).2).1
   have q3 := (Prod.mk.inj (Prod.mk.inj (Prod.mk.inj (Prod.mk.inj (Option.some.inj H)).2).2).2).1
   have q4 := (Prod.mk.inj (Prod.mk.inj (Prod.mk.inj (Prod.mk.inj (Option.some.inj H)).2).2).2).2
   subst q0
   subst q1
   subst q2
   subst q3
   subst q4
   exact W.now (Then.r (Scope.r (BodyR.mkR trivial rfl [0, 1, 2] ⟨rfl, rfl⟩ ⟨rfl, ⟨⟨⟨trivial, .inr ⟨rfl, rfl, rfl⟩⟩, .inr ⟨rfl, rfl, rfl⟩⟩, .inr ⟨rfl, rfl, rfl⟩⟩, by decide, rfl, ⟨⟨trivial, rfl⟩, rfl⟩⟩ rfl rfl)))
 replace H := cnf hb11956 H
 refine WP.skipW ?_
 refine W.now ?_
 refine Then.n ?_
 refine WP.seq ?_
 refine WP.region ?_
 refine WPL.q (q_mv (v := .ptr _ _) rfl) rfl ?_
 refine WPL.q (q_mv (v := .lit (.int _ _)) rfl) rfl ?_
 obtain ⟨⟨x11959, x11960, x11961⟩, h11957, H⟩ := bnd H
 refine WPL.c (runs_call (s := [0, 1, 2]) (t := [0, 1, 3]) (N := 4) (bor := []) fn77 rfl (s_deflate_matcher_learn__b k x11131 x11132 x11133 x11134 x11135 x11959 x11960 x11961 h11957) ⟨rfl, ⟨⟨⟨trivial, .inr ⟨rfl, rfl, rfl⟩⟩, .inr ⟨rfl, rfl, rfl⟩⟩, .inr ⟨rfl, rfl, rfl⟩⟩, by decide, rfl, trivial⟩ rfl trivial (.ren rfl rfl (.ren rfl rfl .nil)) rfl ⟨⟨⟨trivial, rfl⟩, rfl⟩, rfl⟩ rfl) rfl ?_
 refine WPL.nilW ?_
 refine W.now ?_
 refine Then.n ?_
 refine WP.seq ?_
 refine WP.regionD' 20 [0, 1] [] mixed rfl ?_
 refine WPD.takeT 0 rfl (by kernel_rfl) (q_mv (v := .ptr _ _) rfl) rfl ?_
 refine WPD.takeT 1 rfl (by kernel_rfl) (q_nilCheck rfl) rfl ?_
 refine WPD.takeT 2 rfl (by kernel_rfl) (q_fieldAddr fi97_1 rfl rfl) rfl ?_
 refine WPD.takeT 4 rfl (by kernel_rfl) (q_mv (v := .ptr _ _) rfl) rfl ?_
 refine WPD.takeT 5 rfl (by kernel_rfl) (q_nilCheck rfl) rfl ?_
 refine WPD.takeT 6 rfl (by kernel_rfl) (q_fieldAddr fi97_0 rfl rfl) rfl ?_
 refine WPD.takeT 8 rfl (by kernel_rfl) (q_mv (v := .lit (.int _ _)) rfl) rfl ?_
 refine WPD.takeT 9 rfl (by kernel_rfl) (q_mv (v := .lit (.int _ _)) rfl) rfl ?_
 refine WPD.takeT 10 rfl (by kernel_rfl) (q_add rfl rfl) rfl ?_
 refine WPD.take 3 rfl (by kernel_rfl) (q_load sc95 rfl rfl rfl) rfl rfl ?_
 refine WPD.take 7 rfl (by kernel_rfl) (q_load sc22 rfl rfl rfl) rfl rfl ?_
 obtain ⟨h11969, H⟩ := grd H
 refine WPD.takeT 11 rfl (by kernel_rfl) (q_slice_ro (i := x11131) (j := (IntKind.wrap .i64 (x11131 + 3))) sl22 rfl rfl ⟨_, rfl⟩ ⟨_, rfl⟩ h11969) rfl ?_
 obtain ⟨h11970, H⟩ := grd H
 refine WPD.takeT 12 rfl (by kernel_rfl) (q_sliceToArr (n := 3) (0 : Int) ar136 rfl rfl h11970) rfl ?_
 refine WPD.takeT 13 rfl (by kernel_rfl) (q_load_roag ag136 rfl rfl Splits.arr) rfl ?_
 obtain ⟨x11972, h11972, H⟩ := bnd H
 refine WPD.take 14 rfl (by kernel_rfl) (q_lookupN (fk := fk3) (fv := (Value.int .i64)) (k := ((List.getD (List.drop (Int.toNat x11131) (List.take (Int.toNat (IntKind.wrap .i64 (x11131 + 3))) x11132)) 0 (0 : Int)), (List.getD (List.drop (Int.toNat x11131) (List.take (Int.toNat (IntKind.wrap .i64 (x11131 + 3))) x11132)) 1 (0 : Int)), (List.getD (List.drop (Int.toNat x11131) (List.take (Int.toNat (IntKind.wrap .i64 (x11131 + 3))) x11132)) 2 (0 : Int)))) (z := (0 : Int)) ko136 Try.underlying95 zv3 rfl rfl (key_agg [.int .u8 (List.getD (List.drop (Int.toNat x11131) (List.take (Int.toNat (IntKind.wrap .i64 (x11131 + 3))) x11132)) 0 (0 : Int)), .int .u8 (List.getD (List.drop (Int.toNat x11131) (List.take (Int.toNat (IntKind.wrap .i64 (x11131 + 3))) x11132)) 1 (0 : Int)), .int .u8 (List.getD (List.drop (Int.toNat x11131) (List.take (Int.toNat (IntKind.wrap .i64 (x11131 + 3))) x11132)) 2 (0 : Int))] rfl rfl) (some_inj h11972)) rfl rfl ?_
 refine WPD.takeT 15 rfl (by kernel_rfl) (q_mv (v := .tup _) rfl) rfl ?_
 refine WPD.takeT 16 rfl (by kernel_rfl) (q_extract rfl rfl) rfl ?_
 refine WPD.takeT 17 rfl (by kernel_rfl) (q_extract rfl rfl) rfl ?_
 refine WPD.takeT 18 rfl (by kernel_rfl) (q_as (v := .lit (.int _ _)) rfl) rfl ?_
 refine WPD.takeT 19 rfl (by kernel_rfl) (q_as (v := .lit (.bool _)) rfl) rfl ?_
 refine WPD.doneW (by kernel_rfl) ?_
 refine W.now ?_
 refine Then.n ?_
 refine WP.seq ?_
 refine WP.seq ?_
 refine WP.region ?_
 refine WPL.q (q_mv (v := .lit (.bool _)) rfl) rfl ?_
 refine WPL.q (q_not rfl) rfl ?_
 refine WPL.nilW ?_
 refine W.now ?_
 refine Then.n ?_
 refine WP.cond (t := (!(Option.isSome x11972))) rfl (fun hb11974 => ?_) (fun hb11974 => ?_)
 · replace H := cnt hb11974 H
   refine WP.seq ?_
   refine WP.region ?_
   refine WPL.q (q_as (v := .lit (.int _ _)) rfl) rfl ?_
   refine WPL.q (q_as (v := .lit (.int _ _)) rfl) rfl ?_
   refine WPL.nilW ?_
   refine W.now ?_
   refine Then.n ?_
   refine WP.retW ?_
   have q0 := (Prod.mk.inj (Option.some.inj H)).1
   have q1 := (Prod.mk.inj (Prod.mk.inj (Option.some.inj H)).2).1
   have q2 := (Prod.mk.inj (Prod.mk.inj (Prod.mk.inj (Option.some.inj H)).2).2).1
   have q3 := (Prod.mk.inj (Prod.mk.inj (Prod.mk.inj (Prod.mk.inj (Option.some.inj H)).2).2).2).1
   have q4 := (Prod.mk.inj (Prod.mk.inj (Prod.mk.inj (Prod.mk.inj (Option.some.inj H)).2).2).2).2
   subst q0
   subst q1
   subst q2
   subst q3
   subst q4
   exact W.now (Then.r (Scope.r (BodyR.mkR trivial rfl [0, 1, 3] ⟨rfl, rfl⟩ ⟨rfl, ⟨⟨⟨trivial, .inr ⟨rfl, rfl, rfl⟩⟩, .inr ⟨rfl, rfl, rfl⟩⟩, .inr ⟨rfl, rfl, rfl⟩⟩, by decide, rfl, ⟨⟨trivial, rfl⟩, rfl⟩⟩ rfl rfl)))
 replace H := cnf hb11974 H
 refine WP.skipW ?_
 refine W.now ?_
 refine Then.n ?_
 refine WP.seq ?_
 refine WP.region ?_
 refine WPL.q (q_as (v := .lit (.int _ _)) rfl) rfl ?_
 refine WPL.q (q_as (v := .lit (.int _ _)) rfl) rfl ?_
 refine WPL.nilW ?_
 refine W.now ?_
 refine Then.n ?_
 refine WP.seq ?_
 refine WP.labelW ?_
 refine W.now ?_
 refine Then.n ?_
 refine WP.seq ?_
 refine WP.seq ?_
 refine WP.region ?_
 refine WPL.q (q_mv (v := .lit (.int _ _)) rfl) rfl ?_
 refine WPL.nilW ?_
 refine W.now ?_
 refine Then.n ?_
 refine WP.block ?_
 refine WP.cv (Cv.weak (E' := ((((((Env.none.upd 0 (.ptr 0 0)).upd 1 (.lit (.int .i64 x11131))).upd 6 (.lit (.int .i64 (Option.getD x11972 (0 : Int))))).upd 8 (.lit (.int .i64 0))).upd 9 (.lit (.int .i64 0))).upd 42 (.lit (.int .i64 0)))) (M' := (((Mem.nil.push (.cells 97 [.ro (Rd.slice (Rd.int .u8)) false x11132, .mp 1, .whole 2, .lit (.int .i64 x11959)])).push (.obj (mapO fk3 (Value.int .i64) x11960))).push (.row 3 (Rd.int .i64) x11961))) [0, 1, 3] hnp ⟨rfl, ⟨⟨⟨trivial, .inr ⟨rfl, rfl, rfl⟩⟩, .inr ⟨rfl, rfl, rfl⟩⟩, .inr ⟨rfl, rfl, rfl⟩⟩, by decide, rfl, ⟨⟨trivial, rfl⟩, rfl⟩⟩ (LeE.upd rfl rfl (LeE.upd rfl rfl (LeE.upd rfl rfl (LeE.upd rfl rfl (LeE.upd rfl rfl (LeE.upd rfl rfl (LeE.none rfl rfl)))))))) ?_
 obtain ⟨⟨x12470, x12471⟩, H12745, H⟩ := bnd H
 refine WP.monoW (Q := fun x E M => x = .exit 0 ∧ E = ((Env.none.upd 8 (.lit (.int .i64 x12470))).upd 9 (.lit (.int .i64 x12471))) ∧ M = (((Mem.nil.push (.cells 97 [.ro (Rd.slice (Rd.int .u8)) false x11132, .mp 1, .whole 2, .lit (.int .i64 x11959)])).push (.obj (mapO fk3 (Value.int .i64) x11960))).push (.row 3 (Rd.int .i64) x11961))) ?_ ?_
 · refine WP.loop (β := Int × Int × Int × Int) (fun n b => g_deflate_matcher_longest_l0 k x11131 x11132 x11961 n b.1 b.2.1 b.2.2.1 b.2.2.2 = some (x12470, x12471)) (fun b => ((((((Env.none.upd 0 (.ptr 0 0)).upd 1 (.lit (.int .i64 x11131))).upd 6 (.lit (.int .i64 b.1))).upd 8 (.lit (.int .i64 b.2.1))).upd 9 (.lit (.int .i64 b.2.2.1))).upd 42 (.lit (.int .i64 b.2.2.2)))) (fun b => (((Mem.nil.push (.cells 97 [.ro (Rd.slice (Rd.int .u8)) false x11132, .mp 1, .whole 2, .lit (.int .i64 x11959)])).push (.obj (mapO fk3 (Value.int .i64) x11960))).push (.row 3 (Rd.int .i64) x11961))) k ((Option.getD x11972 (0 : Int)), 0, 0, 0) H12745 rfl rfl ?_
   rintro n ⟨x12242, x12243, x12244, x12245⟩ H
   obtain _ | n := n
   · exact nf rfl H
   rw [g_deflate_matcher_longest_l0.eq_2] at H
   show WP _ _ _ _ ((((((Env.none.upd 0 (.ptr 0 0)).upd 1 (.lit (.int .i64 x11131))).upd 6 (.lit (.int .i64 x12242))).upd 8 (.lit (.int .i64 x12243))).upd 9 (.lit (.int .i64 x12244))).upd 42 (.lit (.int .i64 x12245))) (((Mem.nil.push (.cells 97 [.ro (Rd.slice (Rd.int .u8)) false x11132, .mp 1, .whole 2, .lit (.int .i64 x11959)])).push (.obj (mapO fk3 (Value.int .i64) x11960))).push (.row 3 (Rd.int .i64) x11961)) _
   refine WP.seq ?_
   refine WP.region ?_
   refine WPL.q (q_lss rfl rfl) rfl ?_
   refine WPL.nilW ?_
   refine W.now ?_
   refine Then.n ?_
   refine WP.seq ?_
   refine WP.cond (t := (decide (x12245 < 32))) rfl (fun hb12472 => ?_) (fun hb12472 => ?_)
   · replace H := cnt hb12472 H
     refine WP.skipW ?_
     refine W.now ?_
     refine Then.n ?_
     refine WP.seq ?_
     refine WP.block ?_
     refine WP.seq ?_
     refine WP.seq ?_
     obtain ⟨x12594, H12596, H⟩ := bnd H
     refine WP.monoW (Q := fun x E M => x = .normal ∧ E = (((((((Env.none.upd 0 (.ptr 0 0)).upd 1 (.lit (.int .i64 x11131))).upd 6 (.lit (.int .i64 x12242))).upd 8 (.lit (.int .i64 x12243))).upd 9 (.lit (.int .i64 x12244))).upd 42 (.lit (.int .i64 x12245))).upd 51 (.lit (.bool x12594))) ∧ M = (((Mem.nil.push (.cells 97 [.ro (Rd.slice (Rd.int .u8)) false x11132, .mp 1, .whole 2, .lit (.int .i64 x11959)])).push (.obj (mapO fk3 (Value.int .i64) x11960))).push (.row 3 (Rd.int .i64) x11961))) ?_ ?_
     · clear H
       have H := H12596
       clear H12596
       refine WP.region ?_
       refine WPL.q (q_mv (v := .lit (.int _ _)) rfl) rfl ?_
       refine WPL.q (q_lss rfl rfl) rfl ?_
       refine WPL.q (q_mv (v := .lit (.bool _)) rfl) rfl ?_
       refine WPL.split (t := 46) (b := (decide (x12242 < 0))) rfl (fun hb12594 => ?_) (fun hb12594 => ?_)
       · replace H := cnt hb12594 H
         refine WPL.skipg (b' := true) rfl rfl (lb hb12594) rfl rfl (.inl trivial) ?_
         refine WPL.skipg (b' := true) rfl rfl (lb hb12594) rfl rfl (.inl trivial) ?_
         refine WPL.skipg (b' := true) rfl rfl (lb hb12594) rfl rfl (.inl trivial) ?_
         refine WPL.skipg (b' := true) rfl rfl (lb hb12594) rfl rfl (.inl trivial) ?_
         refine WPL.q (q_pickT (v := .lit (.bool _)) (lb hb12594) rfl) rfl ?_
         refine WPL.nilW ?_
         have q0 := (Option.some.inj H)
         subst q0
         exact W.wk [0, 1, 2] hnp ⟨rfl, rfl, rfl⟩ ⟨rfl, ⟨⟨⟨trivial, .inr ⟨rfl, rfl, rfl⟩⟩, .inr ⟨rfl, rfl, rfl⟩⟩, .inr ⟨rfl, rfl, rfl⟩⟩, by decide, rfl, ⟨⟨trivial, rfl⟩, rfl⟩⟩ (LeE.upd rfl rfl (LeE.upd rfl rfl (LeE.upd rfl rfl (LeE.upd rfl rfl (LeE.upd rfl rfl (LeE.upd rfl rfl (LeE.upd rfl rfl (LeE.none rfl rfl)))))))) rfl
       replace H := cnf hb12594 H
       refine WPL.qg rfl rfl (lb hb12594) (q_mv (v := .lit (.int _ _)) rfl) rfl ?_
       refine WPL.qg rfl rfl (lb hb12594) (q_mv (v := .lit (.int _ _)) rfl) rfl ?_
       refine WPL.qg rfl rfl (lb hb12594) (q_sub rfl rfl) rfl ?_
       obtain ⟨x12596, h12596, H⟩ := bnd H
       refine WPL.qg rfl rfl (lb hb12594) (q_nm (q_gtr rfl rfl) (nm_bool h12596)) rfl ?_
       refine WPL.q (q_pickF (v := .lit (.bool _)) (lb hb12594) rfl) rfl ?_
       refine WPL.nilW ?_
       have q0 := (Option.some.inj H)
       subst q0
       exact W.wk [0, 1, 2] hnp ⟨rfl, rfl, rfl⟩ ⟨rfl, ⟨⟨⟨trivial, .inr ⟨rfl, rfl, rfl⟩⟩, .inr ⟨rfl, rfl, rfl⟩⟩, .inr ⟨rfl, rfl, rfl⟩⟩, by decide, rfl, ⟨⟨trivial, rfl⟩, rfl⟩⟩ (LeE.upd rfl rfl (LeE.upd rfl rfl (LeE.upd rfl rfl (LeE.upd rfl rfl (LeE.upd rfl rfl (LeE.upd rfl rfl (LeE.upd rfl rfl (LeE.none rfl rfl)))))))) rfl
     rintro _ _ _ ⟨rfl, rfl, rfl⟩
     refine W.now ?_
     refine Then.n ?_
     refine WP.cond (t := x12594) rfl (fun hb12597 => ?_) (fun hb12597 => ?_)
     · replace H := cnt hb12597 H
       refine WP.exitW ?_
       have q0 := (Prod.mk.inj (Option.some.inj H)).1
       have q1 := (Prod.mk.inj (Option.some.inj H)).2
       subst q0
       subst q1
       exact W.wk [0, 1, 2] hnp (Then.x (InBlock.x rfl (Then.x (Then.x ⟨rfl, rfl, rfl⟩)))) ⟨rfl, ⟨⟨⟨trivial, .inr ⟨rfl, rfl, rfl⟩⟩, .inr ⟨rfl, rfl, rfl⟩⟩, .inr ⟨rfl, rfl, rfl⟩⟩, by decide, rfl, ⟨⟨trivial, rfl⟩, rfl⟩⟩ (LeE.upd rfl rfl (LeE.upd rfl rfl (LeE.none rfl rfl))) rfl
     replace H := cnf hb12597 H
     refine WP.skipW ?_
     refine W.now ?_
     refine Then.n ?_
     refine WP.seq ?_
     refine WP.region ?_
     refine WPL.q (q_as (v := .lit (.int _ _)) rfl) rfl ?_
     refine WPL.nilW ?_
     refine W.now ?_
     refine Then.n ?_
     refine WP.seq ?_
     refine WP.block ?_
     refine WP.cv (Cv.weak (E' := (((((((Env.none.upd 0 (.ptr 0 0)).upd 1 (.lit (.int .i64 x11131))).upd 6 (.lit (.int .i64 x12242))).upd 8 (.lit (.int .i64 x12243))).upd 9 (.lit (.int .i64 x12244))).upd 10 (.lit (.int .i64 0))).upd 42 (.lit (.int .i64 x12245)))) (M' := (((Mem.nil.push (.cells 97 [.ro (Rd.slice (Rd.int .u8)) false x11132, .mp 1, .whole 2, .lit (.int .i64 x11959)])).push (.obj (mapO fk3 (Value.int .i64) x11960))).push (.row 3 (Rd.int .i64) x11961))) [0, 1, 2] hnp ⟨rfl, ⟨⟨⟨trivial, .inr ⟨rfl, rfl, rfl⟩⟩, .inr ⟨rfl, rfl, rfl⟩⟩, .inr ⟨rfl, rfl, rfl⟩⟩, by decide, rfl, ⟨⟨trivial, rfl⟩, rfl⟩⟩ (LeE.upd rfl rfl (LeE.upd rfl rfl (LeE.upd rfl rfl (LeE.upd rfl rfl (LeE.upd rfl rfl (LeE.upd rfl rfl (LeE.upd rfl rfl (LeE.none rfl rfl))))))))) ?_
     obtain ⟨x12688, H12738, H⟩ := bnd H
     refine WP.monoW (Q := fun x E M => x = .exit 2 ∧ E = (((((((Env.none.upd 0 (.ptr 0 0)).upd 1 (.lit (.int .i64 x11131))).upd 6 (.lit (.int .i64 x12242))).upd 8 (.lit (.int .i64 x12243))).upd 9 (.lit (.int .i64 x12244))).upd 10 (.lit (.int .i64 x12688))).upd 42 (.lit (.int .i64 x12245))) ∧ M = (((Mem.nil.push (.cells 97 [.ro (Rd.slice (Rd.int .u8)) false x11132, .mp 1, .whole 2, .lit (.int .i64 x11959)])).push (.obj (mapO fk3 (Value.int .i64) x11960))).push (.row 3 (Rd.int .i64) x11961))) ?_ ?_
     · refine WP.loop (β := Int) (fun n b => g_deflate_matcher_longest_l1 k x11131 x11132 x12242 n b = some x12688) (fun b => (((((((Env.none.upd 0 (.ptr 0 0)).upd 1 (.lit (.int .i64 x11131))).upd 6 (.lit (.int .i64 x12242))).upd 8 (.lit (.int .i64 x12243))).upd 9 (.lit (.int .i64 x12244))).upd 10 (.lit (.int .i64 b))).upd 42 (.lit (.int .i64 x12245)))) (fun b => (((Mem.nil.push (.cells 97 [.ro (Rd.slice (Rd.int .u8)) false x11132, .mp 1, .whole 2, .lit (.int .i64 x11959)])).push (.obj (mapO fk3 (Value.int .i64) x11960))).push (.row 3 (Rd.int .i64) x11961))) k 0 H12738 rfl rfl ?_
       rintro n x12637 H
       obtain _ | n := n
       · exact nf rfl H
       rw [g_deflate_matcher_longest_l1.eq_2] at H
       show WP _ _ _ _ (((((((Env.none.upd 0 (.ptr 0 0)).upd 1 (.lit (.int .i64 x11131))).upd 6 (.lit (.int .i64 x12242))).upd 8 (.lit (.int .i64 x12243))).upd 9 (.lit (.int .i64 x12244))).upd 10 (.lit (.int .i64 x12637))).upd 42 (.lit (.int .i64 x12245))) (((Mem.nil.push (.cells 97 [.ro (Rd.slice (Rd.int .u8)) false x11132, .mp 1, .whole 2, .lit (.int .i64 x11959)])).push (.obj (mapO fk3 (Value.int .i64) x11960))).push (.row 3 (Rd.int .i64) x11961)) _
       refine WP.seq ?_
       refine WP.seq ?_
       obtain ⟨x12725, H12736, H⟩ := bnd H
       refine WP.monoW (Q := fun x E M => x = .normal ∧ E = ((((((((Env.none.upd 0 (.ptr 0 0)).upd 1 (.lit (.int .i64 x11131))).upd 6 (.lit (.int .i64 x12242))).upd 8 (.lit (.int .i64 x12243))).upd 9 (.lit (.int .i64 x12244))).upd 10 (.lit (.int .i64 x12637))).upd 42 (.lit (.int .i64 x12245))).upd 85 (.lit (.bool x12725))) ∧ M = (((Mem.nil.push (.cells 97 [.ro (Rd.slice (Rd.int .u8)) false x11132, .mp 1, .whole 2, .lit (.int .i64 x11959)])).push (.obj (mapO fk3 (Value.int .i64) x11960))).push (.row 3 (Rd.int .i64) x11961))) ?_ ?_
       · clear H
         have H := H12736
         clear H12736
         refine WP.regionD' 34 [0] [] mixed rfl ?_
         refine WPD.takeT 0 rfl (by kernel_rfl) (q_mv (v := .lit (.int _ _)) rfl) rfl ?_
         refine WPD.takeT 1 rfl (by kernel_rfl) (q_lss rfl rfl) rfl ?_
         refine WPD.takeT 2 rfl (by kernel_rfl) (q_mv (v := .lit (.bool _)) rfl) rfl ?_
         refine WPD.split (t := 54) (b := (decide (x12637 < 258))) rfl (fun hb12731 => ?_) (fun hb12731 => ?_)
         · replace H := cnt hb12731 H
           refine WPD.takegT 3 rfl (by kernel_rfl) rfl rfl (lb hb12731) (q_mv (v := .lit (.int _ _)) rfl) rfl ?_
           refine WPD.takegT 4 rfl (by kernel_rfl) rfl rfl (lb hb12731) (q_mv (v := .lit (.int _ _)) rfl) rfl ?_
           refine WPD.takegT 5 rfl (by kernel_rfl) rfl rfl (lb hb12731) (q_add rfl rfl) rfl ?_
           refine WPD.takegT 6 rfl (by kernel_rfl) rfl rfl (lb hb12731) (q_mv (v := .ptr _ _) rfl) rfl ?_
           refine WPD.takegT 7 rfl (by kernel_rfl) rfl rfl (lb hb12731) (q_nilCheck rfl) rfl ?_
           refine WPD.takegT 8 rfl (by kernel_rfl) rfl rfl (lb hb12731) (q_fieldAddr fi97_0 rfl rfl) rfl ?_
           refine WPD.takeg 9 rfl (by kernel_rfl) rfl rfl (lb hb12731) (q_load sc22 rfl rfl rfl) rfl rfl ?_
           refine WPD.takegT 10 rfl (by kernel_rfl) rfl rfl (lb hb12731) (q_len_ro sl22 rfl) rfl ?_
           obtain ⟨x12733, h12733, H⟩ := bnd H
           refine WPD.takegT 11 rfl (by kernel_rfl) rfl rfl (lb hb12731) (q_nm (q_lss rfl rfl) (nm_bool h12733)) rfl ?_
           refine WPD.takeT 12 rfl (by kernel_rfl) (q_pickT (v := .lit (.bool _)) (lb hb12731) rfl) rfl ?_
           refine WPD.takeT 13 rfl (by kernel_rfl) (q_mv (v := .lit (.bool _)) rfl) rfl ?_
           refine WPD.split (t := 65) (b := x12733) rfl (fun hb12733 => ?_) (fun hb12733 => ?_)
           · replace H := cnt hb12733 H
             refine WPD.takegT 14 rfl (by kernel_rfl) rfl rfl (lb hb12733) (q_mv (v := .ptr _ _) rfl) rfl ?_
             refine WPD.takegT 15 rfl (by kernel_rfl) rfl rfl (lb hb12733) (q_nilCheck rfl) rfl ?_
             refine WPD.takegT 16 rfl (by kernel_rfl) rfl rfl (lb hb12733) (q_fieldAddr fi97_0 rfl rfl) rfl ?_
             refine WPD.takegT 18 rfl (by kernel_rfl) rfl rfl (lb hb12733) (q_mv (v := .lit (.int _ _)) rfl) rfl ?_
             refine WPD.takegT 19 rfl (by kernel_rfl) rfl rfl (lb hb12733) (q_mv (v := .lit (.int _ _)) rfl) rfl ?_
             refine WPD.takegT 20 rfl (by kernel_rfl) rfl rfl (lb hb12733) (q_add rfl rfl) rfl ?_
             refine WPD.takegT 23 rfl (by kernel_rfl) rfl rfl (lb hb12733) (q_mv (v := .ptr _ _) rfl) rfl ?_
             refine WPD.takegT 24 rfl (by kernel_rfl) rfl rfl (lb hb12733) (q_nilCheck rfl) rfl ?_
             refine WPD.takegT 25 rfl (by kernel_rfl) rfl rfl (lb hb12733) (q_fieldAddr fi97_0 rfl rfl) rfl ?_
             refine WPD.takegT 27 rfl (by kernel_rfl) rfl rfl (lb hb12733) (q_mv (v := .lit (.int _ _)) rfl) rfl ?_
             refine WPD.takegT 28 rfl (by kernel_rfl) rfl rfl (lb hb12733) (q_mv (v := .lit (.int _ _)) rfl) rfl ?_
             refine WPD.takegT 29 rfl (by kernel_rfl) rfl rfl (lb hb12733) (q_add rfl rfl) rfl ?_
             refine WPD.takeg 17 rfl (by kernel_rfl) rfl rfl (lb hb12733) (q_load sc22 rfl rfl rfl) rfl rfl ?_
             obtain ⟨x12735, h12735, H⟩ := bnd H
             refine WPD.takegT 21 rfl (by kernel_rfl) rfl rfl (lb hb12733) (q_index_ro sl22 rfl rfl rfl h12735) rfl ?_
             refine WPD.takegT 22 rfl (by kernel_rfl) rfl rfl (lb hb12733) (q_load_sc sc5 rfl) rfl ?_
             refine WPD.takeg 26 rfl (by kernel_rfl) rfl rfl (lb hb12733) (q_load sc22 rfl rfl rfl) rfl rfl ?_
             obtain ⟨x12736, h12736, H⟩ := bnd H
             refine WPD.takegT 30 rfl (by kernel_rfl) rfl rfl (lb hb12733) (q_index_ro sl22 rfl rfl rfl h12736) rfl ?_
             refine WPD.takegT 31 rfl (by kernel_rfl) rfl rfl (lb hb12733) (q_load_sc sc5 rfl) rfl ?_
             refine WPD.takegT 32 rfl (by kernel_rfl) rfl rfl (lb hb12733) (q_eql rfl rfl) rfl ?_
             refine WPD.takeT 33 rfl (by kernel_rfl) (q_pickT (v := .lit (.bool _)) (lb hb12733) rfl) rfl ?_
             refine WPD.doneW (by kernel_rfl) ?_
             have q0 := (Option.some.inj H)
             subst q0
             exact W.wk [0, 1, 2] hnp ⟨rfl, rfl, rfl⟩ ⟨rfl, ⟨⟨⟨trivial, .inr ⟨rfl, rfl, rfl⟩⟩, .inr ⟨rfl, rfl, rfl⟩⟩, .inr ⟨rfl, rfl, rfl⟩⟩, by decide, rfl, ⟨⟨trivial, rfl⟩, rfl⟩⟩ (LeE.upd rfl rfl (LeE.upd rfl rfl (LeE.upd rfl rfl (LeE.upd rfl rfl (LeE.upd rfl rfl (LeE.upd rfl rfl (LeE.upd rfl rfl (LeE.upd rfl rfl (LeE.none rfl rfl))))))))) rfl
           replace H := cnf hb12733 H
           refine WPD.pass (b' := false) 14 rfl (by kernel_rfl) rfl rfl (lb hb12733) rfl rfl (.inl trivial) ?_
           refine WPD.pass (b' := false) 15 rfl (by kernel_rfl) rfl rfl (lb hb12733) rfl rfl (.inl trivial) ?_
           refine WPD.pass (b' := false) 16 rfl (by kernel_rfl) rfl rfl (lb hb12733) rfl rfl (.inl trivial) ?_
           refine WPD.pass (b' := false) 17 rfl (by kernel_rfl) rfl rfl (lb hb12733) rfl rfl (.inl trivial) ?_
           refine WPD.pass (b' := false) 18 rfl (by kernel_rfl) rfl rfl (lb hb12733) rfl rfl (.inl trivial) ?_
           refine WPD.pass (b' := false) 19 rfl (by kernel_rfl) rfl rfl (lb hb12733) rfl rfl (.inl trivial) ?_
           refine WPD.pass (b' := false) 20 rfl (by kernel_rfl) rfl rfl (lb hb12733) rfl rfl (.inl trivial) ?_
           refine WPD.pass (b' := false) 21 rfl (by kernel_rfl) rfl rfl (lb hb12733) rfl rfl (.inl trivial) ?_
           refine WPD.pass (b' := false) 22 rfl (by kernel_rfl) rfl rfl (lb hb12733) rfl rfl (.inl trivial) ?_
           refine WPD.pass (b' := false) 23 rfl (by kernel_rfl) rfl rfl (lb hb12733) rfl rfl (.inl trivial) ?_
           refine WPD.pass (b' := false) 24 rfl (by kernel_rfl) rfl rfl (lb hb12733) rfl rfl (.inl trivial) ?_
           refine WPD.pass (b' := false) 25 rfl (by kernel_rfl) rfl rfl (lb hb12733) rfl rfl (.inl trivial) ?_
           refine WPD.pass (b' := false) 26 rfl (by kernel_rfl) rfl rfl (lb hb12733) rfl rfl (.inl trivial) ?_
           refine WPD.pass (b' := false) 27 rfl (by kernel_rfl) rfl rfl (lb hb12733) rfl rfl (.inl trivial) ?_
           refine WPD.pass (b' := false) 28 rfl (by kernel_rfl) rfl rfl (lb hb12733) rfl rfl (.inl trivial) ?_
           refine WPD.pass (b' := false) 29 rfl (by kernel_rfl) rfl rfl (lb hb12733) rfl rfl (.inl trivial) ?_
           refine WPD.pass (b' := false) 30 rfl (by kernel_rfl) rfl rfl (lb hb12733) rfl rfl (.inl trivial) ?_
           refine WPD.pass (b' := false) 31 rfl (by kernel_rfl) rfl rfl (lb hb12733) rfl rfl (.inl trivial) ?_
           refine WPD.pass (b' := false) 32 rfl (by kernel_rfl) rfl rfl (lb hb12733) rfl rfl (.inl trivial) ?_
           refine WPD.takeT 33 rfl (by kernel_rfl) (q_pickF (v := .lit (.bool _)) (lb hb12733) rfl) rfl ?_
           refine WPD.doneW (by kernel_rfl) ?_
           have q0 := (Option.some.inj H)
           subst q0
           exact W.wk [0, 1, 2] hnp ⟨rfl, rfl, rfl⟩ ⟨rfl, ⟨⟨⟨trivial, .inr ⟨rfl, rfl, rfl⟩⟩, .inr ⟨rfl, rfl, rfl⟩⟩, .inr ⟨rfl, rfl, rfl⟩⟩, by decide, rfl, ⟨⟨trivial, rfl⟩, rfl⟩⟩ (LeE.upd rfl rfl (LeE.upd rfl rfl (LeE.upd rfl rfl (LeE.upd rfl rfl (LeE.upd rfl rfl (LeE.upd rfl rfl (LeE.upd rfl rfl (LeE.upd rfl rfl (LeE.none rfl rfl))))))))) rfl
         replace H := cnf hb12731 H
         refine WPD.pass (b' := false) 3 rfl (by kernel_rfl) rfl rfl (lb hb12731) rfl rfl (.inl trivial) ?_
         refine WPD.pass (b' := false) 4 rfl (by kernel_rfl) rfl rfl (lb hb12731) rfl rfl (.inl trivial) ?_
         refine WPD.pass (b' := false) 5 rfl (by kernel_rfl) rfl rfl (lb hb12731) rfl rfl (.inl trivial) ?_
         refine WPD.pass (b' := false) 6 rfl (by kernel_rfl) rfl rfl (lb hb12731) rfl rfl (.inl trivial) ?_
         refine WPD.pass (b' := false) 7 rfl (by kernel_rfl) rfl rfl (lb hb12731) rfl rfl (.inl trivial) ?_
         refine WPD.pass (b' := false) 8 rfl (by kernel_rfl) rfl rfl (lb hb12731) rfl rfl (.inl trivial) ?_
         refine WPD.pass (b' := false) 9 rfl (by kernel_rfl) rfl rfl (lb hb12731) rfl rfl (.inl trivial) ?_
         refine WPD.pass (b' := false) 10 rfl (by kernel_rfl) rfl rfl (lb hb12731) rfl rfl (.inl trivial) ?_
         refine WPD.pass (b' := false) 11 rfl (by kernel_rfl) rfl rfl (lb hb12731) rfl rfl (.inl trivial) ?_
         refine WPD.takeT 12 rfl (by kernel_rfl) (q_pickF (v := .lit (.bool _)) (lb hb12731) rfl) rfl ?_
         refine WPD.takeT 13 rfl (by kernel_rfl) (q_mv (v := .lit (.bool _)) rfl) rfl ?_
         refine WPD.pass (b' := false) 14 rfl (by kernel_rfl) rfl rfl rfl rfl rfl (.inl trivial) ?_
         refine WPD.pass (b' := false) 15 rfl (by kernel_rfl) rfl rfl rfl rfl rfl (.inl trivial) ?_
         refine WPD.pass (b' := false) 16 rfl (by kernel_rfl) rfl rfl rfl rfl rfl (.inl trivial) ?_
         refine WPD.pass (b' := false) 17 rfl (by kernel_rfl) rfl rfl rfl rfl rfl (.inl trivial) ?_
         refine WPD.pass (b' := false) 18 rfl (by kernel_rfl) rfl rfl rfl rfl rfl (.inl trivial) ?_
         refine WPD.pass (b' := false) 19 rfl (by kernel_rfl) rfl rfl rfl rfl rfl (.inl trivial) ?_
         refine WPD.pass (b' := false) 20 rfl (by kernel_rfl) rfl rfl rfl rfl rfl (.inl trivial) ?_
         refine WPD.pass (b' := false) 21 rfl (by kernel_rfl) rfl rfl rfl rfl rfl (.inl trivial) ?_
         refine WPD.pass (b' := false) 22 rfl (by kernel_rfl) rfl rfl rfl rfl rfl (.inl trivial) ?_
         refine WPD.pass (b' := false) 23 rfl (by kernel_rfl) rfl rfl rfl rfl rfl (.inl trivial) ?_
         refine WPD.pass (b' := false) 24 rfl (by kernel_rfl) rfl rfl rfl rfl rfl (.inl trivial) ?_
         refine WPD.pass (b' := false) 25 rfl (by kernel_rfl) rfl rfl rfl rfl rfl (.inl trivial) ?_
         refine WPD.pass (b' := false) 26 rfl (by kernel_rfl) rfl rfl rfl rfl rfl (.inl trivial) ?_
         refine WPD.pass (b' := false) 27 rfl (by kernel_rfl) rfl rfl rfl rfl rfl (.inl trivial) ?_
         refine WPD.pass (b' := false) 28 rfl (by kernel_rfl) rfl rfl rfl rfl rfl (.inl trivial) ?_
         refine WPD.pass (b' := false) 29 rfl (by kernel_rfl) rfl rfl rfl rfl rfl (.inl trivial) ?_
         refine WPD.pass (b' := false) 30 rfl (by kernel_rfl) rfl rfl rfl rfl rfl (.inl trivial) ?_
         refine WPD.pass (b' := false) 31 rfl (by kernel_rfl) rfl rfl rfl rfl rfl (.inl trivial) ?_
         refine WPD.pass (b' := false) 32 rfl (by kernel_rfl) rfl rfl rfl rfl rfl (.inl trivial) ?_
         refine WPD.takeT 33 rfl (by kernel_rfl) (q_pickF (v := .lit (.bool _)) rfl rfl) rfl ?_
         refine WPD.doneW (by kernel_rfl) ?_
         have q0 := (Option.some.inj H)
         subst q0
         exact W.wk [0, 1, 2] hnp ⟨rfl, rfl, rfl⟩ ⟨rfl, ⟨⟨⟨trivial, .inr ⟨rfl, rfl, rfl⟩⟩, .inr ⟨rfl, rfl, rfl⟩⟩, .inr ⟨rfl, rfl, rfl⟩⟩, by decide, rfl, ⟨⟨trivial, rfl⟩, rfl⟩⟩ (LeE.upd rfl rfl (LeE.upd rfl rfl (LeE.upd rfl rfl (LeE.upd rfl rfl (LeE.upd rfl rfl (LeE.upd rfl rfl (LeE.upd rfl rfl (LeE.upd rfl rfl (LeE.none rfl rfl))))))))) rfl
       rintro _ _ _ ⟨rfl, rfl, rfl⟩
       refine W.now ?_
       refine Then.n ?_
       refine WP.cond (t := x12725) rfl (fun hb12737 => ?_) (fun hb12737 => ?_)
       · replace H := cnt hb12737 H
         refine WP.skipW ?_
         refine W.now ?_
         refine Then.n ?_
         refine WP.block ?_
         refine WP.region ?_
         refine WPL.q (q_mv (v := .lit (.int _ _)) rfl) rfl ?_
         refine WPL.q (q_add rfl rfl) rfl ?_
         refine WPL.q (q_as (v := .lit (.int _ _)) rfl) rfl ?_
         refine WPL.nilW ?_
         exact W.wk [0, 1, 2] hnp (InBlock.n (Then.n ⟨n, (IntKind.wrap .i64 (x12637 + 1)), Nat.lt_succ_self n, H, rfl, rfl⟩)) ⟨rfl, ⟨⟨⟨trivial, .inr ⟨rfl, rfl, rfl⟩⟩, .inr ⟨rfl, rfl, rfl⟩⟩, .inr ⟨rfl, rfl, rfl⟩⟩, by decide, rfl, ⟨⟨trivial, rfl⟩, rfl⟩⟩ (LeE.upd rfl rfl (LeE.upd rfl rfl (LeE.upd rfl rfl (LeE.upd rfl rfl (LeE.upd rfl rfl (LeE.upd rfl rfl (LeE.upd rfl rfl (LeE.none rfl rfl)))))))) rfl
       replace H := cnf hb12737 H
       refine WP.exitW ?_
       have q0 := (Option.some.inj H)
       subst q0
       exact W.wk [0, 1, 2] hnp (Then.x (Then.x ⟨rfl, rfl, rfl⟩)) ⟨rfl, ⟨⟨⟨trivial, .inr ⟨rfl, rfl, rfl⟩⟩, .inr ⟨rfl, rfl, rfl⟩⟩, .inr ⟨rfl, rfl, rfl⟩⟩, by decide, rfl, ⟨⟨trivial, rfl⟩, rfl⟩⟩ (LeE.upd rfl rfl (LeE.upd rfl rfl (LeE.upd rfl rfl (LeE.upd rfl rfl (LeE.upd rfl rfl (LeE.upd rfl rfl (LeE.upd rfl rfl (LeE.none rfl rfl)))))))) rfl
     rintro _ _ _ ⟨rfl, rfl, rfl⟩
     refine W.now ?_
     refine InBlock.x0 ?_
     refine Then.n ?_
     refine WP.seq ?_
     obtain ⟨⟨x12741, x12742⟩, H12743, H⟩ := bnd H
     refine WP.monoW (Q := fun x E M => x = .normal ∧ E = ((((((Env.none.upd 0 (.ptr 0 0)).upd 1 (.lit (.int .i64 x11131))).upd 6 (.lit (.int .i64 x12242))).upd 8 (.lit (.int .i64 x12741))).upd 9 (.lit (.int .i64 x12742))).upd 42 (.lit (.int .i64 x12245))) ∧ M = (((Mem.nil.push (.cells 97 [.ro (Rd.slice (Rd.int .u8)) false x11132, .mp 1, .whole 2, .lit (.int .i64 x11959)])).push (.obj (mapO fk3 (Value.int .i64) x11960))).push (.row 3 (Rd.int .i64) x11961))) ?_ ?_
     · clear H
       have H := H12743
       clear H12743
       refine WP.seq ?_
       refine WP.region ?_
       refine WPL.q (q_mv (v := .lit (.int _ _)) rfl) rfl ?_
       refine WPL.q (q_mv (v := .lit (.int _ _)) rfl) rfl ?_
       refine WPL.q (q_gtr rfl rfl) rfl ?_
       refine WPL.nilW ?_
       refine W.now ?_
       refine Then.n ?_
       refine WP.cond (t := (decide (x12243 < x12688))) rfl (fun hb12742 => ?_) (fun hb12742 => ?_)
       · replace H := cnt hb12742 H
         refine WP.region ?_
         refine WPL.q (q_mv (v := .lit (.int _ _)) rfl) rfl ?_
         refine WPL.q (q_mv (v := .lit (.int _ _)) rfl) rfl ?_
         refine WPL.q (q_mv (v := .lit (.int _ _)) rfl) rfl ?_
         refine WPL.q (q_sub rfl rfl) rfl ?_
         refine WPL.q (q_as (v := .lit (.int _ _)) rfl) rfl ?_
         refine WPL.q (q_as (v := .lit (.int _ _)) rfl) rfl ?_
         refine WPL.nilW ?_
         have q0 := (Prod.mk.inj (Option.some.inj H)).1
         have q1 := (Prod.mk.inj (Option.some.inj H)).2
         subst q0
         subst q1
         exact W.wk [0, 1, 2] hnp ⟨rfl, rfl, rfl⟩ ⟨rfl, ⟨⟨⟨trivial, .inr ⟨rfl, rfl, rfl⟩⟩, .inr ⟨rfl, rfl, rfl⟩⟩, .inr ⟨rfl, rfl, rfl⟩⟩, by decide, rfl, ⟨⟨trivial, rfl⟩, rfl⟩⟩ (LeE.upd rfl rfl (LeE.upd rfl rfl (LeE.upd rfl rfl (LeE.upd rfl rfl (LeE.upd rfl rfl (LeE.upd rfl rfl (LeE.none rfl rfl))))))) rfl
       replace H := cnf hb12742 H
       refine WP.skipW ?_
       have q0 := (Prod.mk.inj (Option.some.inj H)).1
       have q1 := (Prod.mk.inj (Option.some.inj H)).2
       subst q0
       subst q1
       exact W.wk [0, 1, 2] hnp ⟨rfl, rfl, rfl⟩ ⟨rfl, ⟨⟨⟨trivial, .inr ⟨rfl, rfl, rfl⟩⟩, .inr ⟨rfl, rfl, rfl⟩⟩, .inr ⟨rfl, rfl, rfl⟩⟩, by decide, rfl, ⟨⟨trivial, rfl⟩, rfl⟩⟩ (LeE.upd rfl rfl (LeE.upd rfl rfl (LeE.upd rfl rfl (LeE.upd rfl rfl (LeE.upd rfl rfl (LeE.upd rfl rfl (LeE.none rfl rfl))))))) rfl
     rintro _ _ _ ⟨rfl, rfl, rfl⟩
     refine W.now ?_
     refine Then.n ?_
     refine WP.region ?_
     refine WPL.q (q_mv (v := .ptr _ _) rfl) rfl ?_
     refine WPL.q (q_nilCheck rfl) rfl ?_
     refine WPL.q (q_fieldAddr fi97_2 rfl rfl) rfl ?_
     refine WPL.q (q_load sc66 rfl rfl rfl) rfl ?_
     refine WPL.q (q_mv (v := .lit (.int _ _)) rfl) rfl ?_
     obtain ⟨x12745, h12745, H⟩ := bnd H
     refine WPL.q (q_index_row sl66 rfl rfl rfl (ixs h12745)) rfl ?_
     refine WPL.q (q_load_row (j := (Int.toNat x12242)) sc3 rfl rfl (ixj h12745)) rfl ?_
     refine WPL.q (q_as (v := .lit (.int _ _)) rfl) rfl ?_
     refine WPL.nilW ?_
     refine W.now ?_
     refine InBlock.n ?_
     refine Then.n ?_
     refine WP.region ?_
     refine WPL.q (q_add rfl rfl) rfl ?_
     refine WPL.q (q_mv (v := .lit (.int _ _)) rfl) rfl ?_
     refine WPL.nilW ?_
     exact W.wk [0, 1, 2] hnp (Then.n ⟨n, (x12745, x12741, x12742, (IntKind.wrap .i64 (x12245 + 1))), Nat.lt_succ_self n, H, rfl, rfl⟩) ⟨rfl, ⟨⟨⟨trivial, .inr ⟨rfl, rfl, rfl⟩⟩, .inr ⟨rfl, rfl, rfl⟩⟩, .inr ⟨rfl, rfl, rfl⟩⟩, by decide, rfl, ⟨⟨trivial, rfl⟩, rfl⟩⟩ (LeE.upd rfl rfl (LeE.upd rfl rfl (LeE.upd rfl rfl (LeE.upd rfl rfl (LeE.upd rfl rfl (LeE.upd rfl rfl (LeE.none rfl rfl))))))) rfl
   replace H := cnf hb12472 H
   refine WP.exitW ?_
   have q0 := (Prod.mk.inj (Option.some.inj H)).1
   have q1 := (Prod.mk.inj (Option.some.inj H)).2
   subst q0
   subst q1
   exact W.wk [0, 1, 2] hnp (Then.x (Then.x ⟨rfl, rfl, rfl⟩)) ⟨rfl, ⟨⟨⟨trivial, .inr ⟨rfl, rfl, rfl⟩⟩, .inr ⟨rfl, rfl, rfl⟩⟩, .inr ⟨rfl, rfl, rfl⟩⟩, by decide, rfl, ⟨⟨trivial, rfl⟩, rfl⟩⟩ (LeE.upd rfl rfl (LeE.upd rfl rfl (LeE.none rfl rfl))) rfl
 rintro _ _ _ ⟨rfl, rfl, rfl⟩
 refine W.now ?_
 refine InBlock.x0 ?_
 refine Then.n ?_
 refine WP.seq ?_
 refine WP.region ?_
 refine WPL.q (q_mv (v := .lit (.int _ _)) rfl) rfl ?_
 refine WPL.q (q_mv (v := .lit (.int _ _)) rfl) rfl ?_
 refine WPL.q (q_as (v := .lit (.int _ _)) rfl) rfl ?_
 refine WPL.q (q_as (v := .lit (.int _ _)) rfl) rfl ?_
 refine WPL.nilW ?_
 refine W.now ?_
 refine Then.n ?_
 refine WP.retW ?_
 have q0 := (Prod.mk.inj (Option.some.inj H)).1
 have q1 := (Prod.mk.inj (Prod.mk.inj (Option.some.inj H)).2).1
 have q2 := (Prod.mk.inj (Prod.mk.inj (Prod.mk.inj (Option.some.inj H)).2).2).1
 have q3 := (Prod.mk.inj (Prod.mk.inj (Prod.mk.inj (Prod.mk.inj (Option.some.inj H)).2).2).2).1
 have q4 := (Prod.mk.inj (Prod.mk.inj (Prod.mk.inj (Prod.mk.inj (Option.some.inj H)).2).2).2).2
 subst q0
 subst q1
 subst q2
 subst q3
 subst q4
 exact W.now (Scope.r (BodyR.mkR trivial rfl [0, 1, 2] ⟨rfl, rfl⟩ ⟨rfl, ⟨⟨⟨trivial, .inr ⟨rfl, rfl, rfl⟩⟩, .inr ⟨rfl, rfl, rfl⟩⟩, .inr ⟨rfl, rfl, rfl⟩⟩, by decide, rfl, ⟨⟨trivial, rfl⟩, rfl⟩⟩ rfl rfl))
end Go.Proofs.Ytmmeanjjfhimjaa.W
