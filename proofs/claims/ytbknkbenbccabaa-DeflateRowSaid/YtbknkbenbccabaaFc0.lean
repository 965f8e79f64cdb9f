/- Walks: Fc0 -/
import Derived.Test.YtbknkbenbccabaaFb
namespace Go.Proofs.Ytbknkbenbccabaa.W
open Go Go.Q Go.Proofs
set_option linter.unusedVariables false
set_option linter.unusedSimpArgs false
set_option maxRecDepth 100000 in
set_option maxHeartbeats 4000000 in
theorem s_deflate_Lengths_2 (k : Nat) (x8 : Int) (x9 : (List Int)) (x28 : Int) (H : g_deflate_Lengths_2 k x8 x9 = some x28) : Go.Q.Spec Try.prog 26 1 [.lit (.int .i64 x8), .ptr 0 0] (Mem.nil.push (.cells 32 [.ro (Rd.slice (Rd.int .i64)) false x9])) (fun o M => o = .ret (.lit (.int .i64 x28)) ∧ M = (Mem.nil.push (.cells 32 [.ro (Rd.slice (Rd.int .i64)) false x9]))) := by
  unfold g_deflate_Lengths_2 at H
  refine Go.Q.Spec.of_bodyR (rs := [.tmp 3]) (nt := 20) Try.func26 rfl rfl (by intro t T h; simp at h) rfl rfl fun cx hnp => ?_
  refine WP.seq ?_
  refine WP.region ?_
  refine WPL.q (q_as (v := .lit (.int _ _)) rfl) rfl ?_
  refine WPL.nilW ?_
  refine W.now ?_
  refine Then.n ?_
  refine WP.seq ?_
  refine WP.seq ?_
  obtain ⟨x40, H43, H⟩ := bnd H
  refine WP.monoW (Q := fun x E M => x = .normal ∧ E = (((Env.none.upd 0 (.lit (.int .i64 x8))).upd 1 (.ptr 0 0)).upd 15 (.lit (.bool x40))) ∧ M = (Mem.nil.push (.cells 32 [.ro (Rd.slice (Rd.int .i64)) false x9]))) ?_ ?_
  · clear H
    have H := H43
    clear H43
    refine WP.region ?_
    refine WPL.q (q_load sc32 rfl rfl rfl) rfl ?_
    refine WPL.q (q_mv (v := .lit (.int _ _)) rfl) rfl ?_
    obtain ⟨x41, h41, H⟩ := bnd H
    refine WPL.q (q_index_ro sl32 rfl rfl rfl h41) rfl ?_
    refine WPL.q (q_load_sc sc3 rfl) rfl ?_
    refine WPL.q (q_lss rfl rfl) rfl ?_
    refine WPL.q (q_mv (v := .lit (.bool _)) rfl) rfl ?_
    refine WPL.split (t := 9) (b := (decide (x41 < 0))) rfl (fun hb41 => ?_) (fun hb41 => ?_)
    · replace H := cnt hb41 H
      refine WPL.skipg (b' := true) rfl rfl (lb hb41) rfl rfl ?_
      refine WPL.skipg (b' := true) rfl rfl (lb hb41) rfl rfl ?_
      refine WPL.skipg (b' := true) rfl rfl (lb hb41) rfl rfl ?_
      refine WPL.skipg (b' := true) rfl rfl (lb hb41) rfl rfl ?_
      refine WPL.skipg (b' := true) rfl rfl (lb hb41) rfl rfl ?_
      refine WPL.q (q_pickT (v := .lit (.bool _)) (lb hb41) rfl) rfl ?_
      refine WPL.nilW ?_
      refine W.cv (Cv.weak (E' := (((Env.none.upd 0 (.lit (.int .i64 x8))).upd 1 (.ptr 0 0)).upd 15 (.lit (.bool true)))) (M' := (Mem.nil.push (.cells 32 [.ro (Rd.slice (Rd.int .i64)) false x9]))) [0] hnp ⟨rfl, ⟨trivial, .inr ⟨rfl, rfl, rfl⟩⟩, by decide, rfl, ⟨trivial, rfl⟩⟩ (LeE.upd rfl rfl (LeE.upd rfl rfl (LeE.upd rfl rfl (LeE.none rfl rfl))))) rfl ?_
      refine W.now ?_
      have q0 := (Option.some.inj H)
      subst q0
      exact ⟨rfl, rfl, rfl⟩
    · replace H := cnf hb41 H
      refine WPL.qg rfl rfl (lb hb41) (q_load sc32 rfl rfl rfl) rfl ?_
      refine WPL.qg rfl rfl (lb hb41) (q_mv (v := .lit (.int _ _)) rfl) rfl ?_
      obtain ⟨x43, h43, H⟩ := bnd H
      refine WPL.qg rfl rfl (lb hb41) (q_index_ro sl32 rfl rfl rfl h43) rfl ?_
      refine WPL.qg rfl rfl (lb hb41) (q_load_sc sc3 rfl) rfl ?_
      refine WPL.qg rfl rfl (lb hb41) (q_gtr rfl rfl) rfl ?_
      refine WPL.q (q_pickF (v := .lit (.bool _)) (lb hb41) rfl) rfl ?_
      refine WPL.nilW ?_
      refine W.cv (Cv.weak (E' := (((Env.none.upd 0 (.lit (.int .i64 x8))).upd 1 (.ptr 0 0)).upd 15 (.lit (.bool (decide (15 < x43)))))) (M' := (Mem.nil.push (.cells 32 [.ro (Rd.slice (Rd.int .i64)) false x9]))) [0] hnp ⟨rfl, ⟨trivial, .inr ⟨rfl, rfl, rfl⟩⟩, by decide, rfl, ⟨trivial, rfl⟩⟩ (LeE.upd rfl rfl (LeE.upd rfl rfl (LeE.upd rfl rfl (LeE.none rfl rfl))))) rfl ?_
      refine W.now ?_
      have q0 := (Option.some.inj H)
      subst q0
      exact ⟨rfl, rfl, rfl⟩
  · rintro _ _ _ ⟨rfl, rfl, rfl⟩
    refine W.now ?_
    refine Then.n ?_
    refine WP.cond (t := x40) rfl (fun hb => ?_) (fun hb => ?_)
    · replace H := cnt hb H
      refine WP.seq ?_
      refine WP.region ?_
      refine WPL.q (q_as (v := .lit (.int _ _)) rfl) rfl ?_
      refine WPL.nilW ?_
      refine W.now ?_
      refine Then.n ?_
      refine WP.retW ?_
      refine W.now ?_
      refine Then.r ?_
      have q0 := (Option.some.inj H)
      subst q0
      exact ⟨trivial, _, rfl, [0], (.lit (.int .i64 0)), (Mem.nil.push (.cells 32 [.ro (Rd.slice (Rd.int .i64)) false x9])), ⟨rfl, ⟨trivial, .inr ⟨rfl, rfl, rfl⟩⟩, by decide, rfl, ⟨trivial, rfl⟩⟩, rfl, rfl, rfl, rfl⟩
    · replace H := cnf hb H
      refine WP.skipW ?_
      refine W.now ?_
      refine Then.n ?_
      refine WP.seq ?_
      refine WP.region ?_
      refine WPL.q (q_load sc32 rfl rfl rfl) rfl ?_
      refine WPL.q (q_mv (v := .lit (.int _ _)) rfl) rfl ?_
      obtain ⟨x45, h45, H⟩ := bnd H
      refine WPL.q (q_index_ro sl32 rfl rfl rfl h45) rfl ?_
      refine WPL.q (q_load_sc sc3 rfl) rfl ?_
      refine WPL.q (q_as (v := .lit (.int _ _)) rfl) rfl ?_
      refine WPL.nilW ?_
      refine W.now ?_
      refine Then.n ?_
      refine WP.retW ?_
      refine W.now ?_
      have q0 := (Option.some.inj H)
      subst q0
      exact ⟨trivial, _, rfl, [0], (.lit (.int .i64 x45)), (Mem.nil.push (.cells 32 [.ro (Rd.slice (Rd.int .i64)) false x9])), ⟨rfl, ⟨trivial, .inr ⟨rfl, rfl, rfl⟩⟩, by decide, rfl, ⟨trivial, rfl⟩⟩, rfl, rfl, rfl, rfl⟩
set_option maxRecDepth 100000 in
set_option maxHeartbeats 4000000 in
theorem s_deflate_Lengths_1 (k : Nat) (x96 : Int) (x97 : Int) (H : g_deflate_Lengths_1 k x96 x97 = some ()) : Go.Q.Spec Try.prog 25 2 [.lit (.int .i64 x96), .lit (.int .i64 x97), .ptr 0 0, .ptr 1 0] ((Mem.nil.push (.cells 32 [.lit (.slice none 0 0)])).push (.cells 32 [.lit (.slice none 0 0)])) (fun o M => o = .ret (.tup []) ∧ M = ((((Mem.nil.push (.cells 32 [.whole 2])).push (.cells 32 [.whole 3])).push (.row 3 (Rd.int .i64) (([] : List Int) ++ ([x96] : List Int)))).push (.row 3 (Rd.int .i64) (([] : List Int) ++ ([x97] : List Int))))) := by
  unfold g_deflate_Lengths_1 at H
  refine Go.Q.Spec.of_bodyR (rs := []) (nt := 14) Try.func25 rfl rfl (by intro t T h; simp at h) rfl rfl fun cx hnp => ?_
  refine WP.regionD' 10 [0, 1] [8] mixed rfl ?_
  refine WPD.takeT 1 rfl (by kernel_rfl) (q_mv (v := .lit (.int _ _)) rfl) rfl ?_
  refine WPD.takeT 5 rfl (by kernel_rfl) (q_mv (v := .lit (.int _ _)) rfl) rfl ?_
  refine WPD.take 0 rfl (by kernel_rfl) (q_load sc32 rfl rfl rfl) rfl rfl ?_
  refine WPD.take 4 rfl (by kernel_rfl) (q_load sc32 rfl rfl rfl) rfl rfl ?_
  refine WPD.of2 2 6 (by kernel_rfl) ?_ ?_
  · refine WPD1.eff 2 [0, 1] [8] rfl (Does.runs (d_buildSlice (ds := ([x96] : List Int)) (R := (Rd.int .i64)) li32 rfl rfl rfl rfl rfl (JoinRows.cons1 Joins.sc rfl JoinRows.nil) rfl rfl)) rfl rfl ?_
    refine WPD.of2 3 6 (by kernel_rfl) ?_ ?_
    · obtain ⟨h120, H⟩ := grd H
      refine WPD1.cvL (CvL.vir 3 (Rd.int .i64) (N := 3) rfl 6 rfl) rfl ?_
      refine WPD1.eff 3 [0, 1] [8] rfl (Does.runs (d_append ap32 rfl rfl rfl rfl (src_row sl32 rfl rfl) h120 rfl)) rfl rfl ?_
      refine WPD.eff 6 [0, 1] [8] rfl (by kernel_rfl) (Does.runs (d_buildSlice (ds := ([x97] : List Int)) (R := (Rd.int .i64)) li32 rfl rfl rfl rfl rfl (JoinRows.cons1 Joins.sc rfl JoinRows.nil) rfl rfl)) rfl rfl ?_
      obtain ⟨h121, H⟩ := grd H
      refine WPD.cvL (CvL.vir 3 (Rd.int .i64) (N := 6) rfl 10 rfl) rfl ?_
      refine WPD.eff 7 [0, 1] [8] rfl (by kernel_rfl) (Does.runs (d_append ap32 rfl rfl rfl rfl (src_row sl32 rfl rfl) h121 rfl)) rfl rfl ?_
      refine WPD.effS 8 [] [] rfl (by kernel_rfl) (s_store sz32 rfl rfl rfl rfl rfl) rfl ?_
      refine WPD.effS 9 [] [] rfl (by kernel_rfl) (s_store sz32 rfl rfl rfl rfl rfl) rfl ?_
      refine WPD.doneW (by kernel_rfl) ?_
      refine W.now ?_
      exact ⟨trivial, _, rfl, [0, 1, 4, 7], (.tup []), ((((Mem.nil.push (.cells 32 [.whole 2])).push (.cells 32 [.whole 3])).push (.row 3 (Rd.int .i64) (([] : List Int) ++ ([x96] : List Int)))).push (.row 3 (Rd.int .i64) (([] : List Int) ++ ([x97] : List Int)))), ⟨rfl, ⟨⟨⟨⟨trivial, .inr ⟨rfl, rfl, rfl⟩⟩, .inr ⟨rfl, rfl, rfl⟩⟩, .inr ⟨rfl, rfl, rfl⟩⟩, .inr ⟨rfl, rfl, rfl⟩⟩, by decide, rfl, ⟨⟨trivial, rfl⟩, rfl⟩⟩, rfl, rfl, rfl, rfl⟩
    · refine WPD1.eff 6 [0, 1] [8] rfl (Does.runs (d_buildSlice (ds := ([x97] : List Int)) (R := (Rd.int .i64)) li32 rfl rfl rfl rfl rfl (JoinRows.cons1 Joins.sc rfl JoinRows.nil) rfl rfl)) rfl rfl ?_
      obtain ⟨h122, H⟩ := grd H
      refine WPD.cvL (CvL.vir 3 (Rd.int .i64) (N := 4) rfl 6 rfl) rfl ?_
      refine WPD.eff 3 [0, 1] [8] rfl (by kernel_rfl) (Does.runs (d_append ap32 rfl rfl rfl rfl (src_row sl32 rfl rfl) h122 rfl)) rfl rfl ?_
      obtain ⟨h123, H⟩ := grd H
      refine WPD.cvL (CvL.vir 3 (Rd.int .i64) (N := 6) rfl 10 rfl) rfl ?_
      refine WPD.eff 7 [0, 1] [8] rfl (by kernel_rfl) (Does.runs (d_append ap32 rfl rfl rfl rfl (src_row sl32 rfl rfl) h123 rfl)) rfl rfl ?_
      refine WPD.effS 8 [] [] rfl (by kernel_rfl) (s_store sz32 rfl rfl rfl rfl rfl) rfl ?_
      refine WPD.effS 9 [] [] rfl (by kernel_rfl) (s_store sz32 rfl rfl rfl rfl rfl) rfl ?_
      refine WPD.doneW (by kernel_rfl) ?_
      refine W.now ?_
      exact ⟨trivial, _, rfl, [0, 1, 5, 7], (.tup []), ((((Mem.nil.push (.cells 32 [.whole 2])).push (.cells 32 [.whole 3])).push (.row 3 (Rd.int .i64) (([] : List Int) ++ ([x96] : List Int)))).push (.row 3 (Rd.int .i64) (([] : List Int) ++ ([x97] : List Int)))), ⟨rfl, ⟨⟨⟨⟨trivial, .inr ⟨rfl, rfl, rfl⟩⟩, .inr ⟨rfl, rfl, rfl⟩⟩, .inr ⟨rfl, rfl, rfl⟩⟩, .inr ⟨rfl, rfl, rfl⟩⟩, by decide, rfl, ⟨⟨trivial, rfl⟩, rfl⟩⟩, rfl, rfl, rfl, rfl⟩
  · refine WPD1.eff 6 [0, 1] [8] rfl (Does.runs (d_buildSlice (ds := ([x97] : List Int)) (R := (Rd.int .i64)) li32 rfl rfl rfl rfl rfl (JoinRows.cons1 Joins.sc rfl JoinRows.nil) rfl rfl)) rfl rfl ?_
    refine WPD.eff 2 [0, 1] [8] rfl (by kernel_rfl) (Does.runs (d_buildSlice (ds := ([x96] : List Int)) (R := (Rd.int .i64)) li32 rfl rfl rfl rfl rfl (JoinRows.cons1 Joins.sc rfl JoinRows.nil) rfl rfl)) rfl rfl ?_
    obtain ⟨h124, H⟩ := grd H
    refine WPD.cvL (CvL.vir 3 (Rd.int .i64) (N := 4) rfl 6 rfl) rfl ?_
    refine WPD.eff 3 [0, 1] [8] rfl (by kernel_rfl) (Does.runs (d_append ap32 rfl rfl rfl rfl (src_row sl32 rfl rfl) h124 rfl)) rfl rfl ?_
    obtain ⟨h125, H⟩ := grd H
    refine WPD.cvL (CvL.vir 3 (Rd.int .i64) (N := 6) rfl 10 rfl) rfl ?_
    refine WPD.eff 7 [0, 1] [8] rfl (by kernel_rfl) (Does.runs (d_append ap32 rfl rfl rfl rfl (src_row sl32 rfl rfl) h125 rfl)) rfl rfl ?_
    refine WPD.effS 8 [] [] rfl (by kernel_rfl) (s_store sz32 rfl rfl rfl rfl rfl) rfl ?_
    refine WPD.effS 9 [] [] rfl (by kernel_rfl) (s_store sz32 rfl rfl rfl rfl rfl) rfl ?_
    refine WPD.doneW (by kernel_rfl) ?_
    refine W.now ?_
    exact ⟨trivial, _, rfl, [0, 1, 5, 7], (.tup []), ((((Mem.nil.push (.cells 32 [.whole 2])).push (.cells 32 [.whole 3])).push (.row 3 (Rd.int .i64) (([] : List Int) ++ ([x96] : List Int)))).push (.row 3 (Rd.int .i64) (([] : List Int) ++ ([x97] : List Int)))), ⟨rfl, ⟨⟨⟨⟨trivial, .inr ⟨rfl, rfl, rfl⟩⟩, .inr ⟨rfl, rfl, rfl⟩⟩, .inr ⟨rfl, rfl, rfl⟩⟩, .inr ⟨rfl, rfl, rfl⟩⟩, by decide, rfl, ⟨⟨trivial, rfl⟩, rfl⟩⟩, rfl, rfl, rfl, rfl⟩
set_option maxRecDepth 100000 in
set_option maxHeartbeats 4000000 in
theorem s_deflate_Lengths_1__b (k : Nat) (x139 : Int) (x140 : Int) (x141 : (List Int)) (x142 : (List Int)) (H : g_deflate_Lengths_1__b k x139 x140 x141 x142 = some ()) : Go.Q.Spec Try.prog 25 2 [.lit (.int .i64 x139), .lit (.int .i64 x140), .ptr 0 0, .ptr 1 0] ((((Mem.nil.push (.cells 32 [.whole 2])).push (.cells 32 [.whole 3])).push (.row 3 (Rd.int .i64) x141)).push (.row 3 (Rd.int .i64) x142)) (fun o M => o = .ret (.tup []) ∧ M = ((((Mem.nil.push (.cells 32 [.whole 2])).push (.cells 32 [.whole 3])).push (.row 3 (Rd.int .i64) (x141 ++ ([x139] : List Int)))).push (.row 3 (Rd.int .i64) (x142 ++ ([x140] : List Int))))) := by
  unfold g_deflate_Lengths_1__b at H
  refine Go.Q.Spec.of_bodyR (rs := []) (nt := 14) Try.func25 rfl rfl (by intro t T h; simp at h) rfl rfl fun cx hnp => ?_
  refine WP.regionD' 10 [0, 1] [8] mixed rfl ?_
  refine WPD.takeT 1 rfl (by kernel_rfl) (q_mv (v := .lit (.int _ _)) rfl) rfl ?_
  refine WPD.takeT 5 rfl (by kernel_rfl) (q_mv (v := .lit (.int _ _)) rfl) rfl ?_
  refine WPD.take 0 rfl (by kernel_rfl) (q_load sc32 rfl rfl rfl) rfl rfl ?_
  refine WPD.take 4 rfl (by kernel_rfl) (q_load sc32 rfl rfl rfl) rfl rfl ?_
  refine WPD.of2 2 6 (by kernel_rfl) ?_ ?_
  · refine WPD1.eff 2 [0, 1] [8] rfl (Does.runs (d_buildSlice (ds := ([x139] : List Int)) (R := (Rd.int .i64)) li32 rfl rfl rfl rfl rfl (JoinRows.cons1 Joins.sc rfl JoinRows.nil) rfl rfl)) rfl rfl ?_
    refine WPD.of2 3 6 (by kernel_rfl) ?_ ?_
    · obtain ⟨h165, H⟩ := grd H
      refine WPD1.eff 3 [0, 1] [8] rfl (Does.runs (d_append ap32 rfl rfl rfl rfl (src_row sl32 rfl rfl) h165 rfl)) rfl rfl ?_
      refine WPD.eff 6 [0, 1] [8] rfl (by kernel_rfl) (Does.runs (d_buildSlice (ds := ([x140] : List Int)) (R := (Rd.int .i64)) li32 rfl rfl rfl rfl rfl (JoinRows.cons1 Joins.sc rfl JoinRows.nil) rfl rfl)) rfl rfl ?_
      obtain ⟨h166, H⟩ := grd H
      refine WPD.eff 7 [0, 1] [8] rfl (by kernel_rfl) (Does.runs (d_append ap32 rfl rfl rfl rfl (src_row sl32 rfl rfl) h166 rfl)) rfl rfl ?_
      refine WPD.effS 8 [] [] rfl (by kernel_rfl) (s_store sz32 rfl rfl rfl rfl rfl) rfl ?_
      refine WPD.effS 9 [] [] rfl (by kernel_rfl) (s_store sz32 rfl rfl rfl rfl rfl) rfl ?_
      refine WPD.doneW (by kernel_rfl) ?_
      refine W.now ?_
      exact ⟨trivial, _, rfl, [0, 1, 5, 7], (.tup []), ((((Mem.nil.push (.cells 32 [.whole 2])).push (.cells 32 [.whole 3])).push (.row 3 (Rd.int .i64) (x141 ++ ([x139] : List Int)))).push (.row 3 (Rd.int .i64) (x142 ++ ([x140] : List Int)))), ⟨rfl, ⟨⟨⟨⟨trivial, .inr ⟨rfl, rfl, rfl⟩⟩, .inr ⟨rfl, rfl, rfl⟩⟩, .inr ⟨rfl, rfl, rfl⟩⟩, .inr ⟨rfl, rfl, rfl⟩⟩, by decide, rfl, ⟨⟨trivial, rfl⟩, rfl⟩⟩, rfl, rfl, rfl, rfl⟩
    · refine WPD1.eff 6 [0, 1] [8] rfl (Does.runs (d_buildSlice (ds := ([x140] : List Int)) (R := (Rd.int .i64)) li32 rfl rfl rfl rfl rfl (JoinRows.cons1 Joins.sc rfl JoinRows.nil) rfl rfl)) rfl rfl ?_
      obtain ⟨h167, H⟩ := grd H
      refine WPD.eff 3 [0, 1] [8] rfl (by kernel_rfl) (Does.runs (d_append ap32 rfl rfl rfl rfl (src_row sl32 rfl rfl) h167 rfl)) rfl rfl ?_
      obtain ⟨h168, H⟩ := grd H
      refine WPD.eff 7 [0, 1] [8] rfl (by kernel_rfl) (Does.runs (d_append ap32 rfl rfl rfl rfl (src_row sl32 rfl rfl) h168 rfl)) rfl rfl ?_
      refine WPD.effS 8 [] [] rfl (by kernel_rfl) (s_store sz32 rfl rfl rfl rfl rfl) rfl ?_
      refine WPD.effS 9 [] [] rfl (by kernel_rfl) (s_store sz32 rfl rfl rfl rfl rfl) rfl ?_
      refine WPD.doneW (by kernel_rfl) ?_
      refine W.now ?_
      exact ⟨trivial, _, rfl, [0, 1, 6, 7], (.tup []), ((((Mem.nil.push (.cells 32 [.whole 2])).push (.cells 32 [.whole 3])).push (.row 3 (Rd.int .i64) (x141 ++ ([x139] : List Int)))).push (.row 3 (Rd.int .i64) (x142 ++ ([x140] : List Int)))), ⟨rfl, ⟨⟨⟨⟨trivial, .inr ⟨rfl, rfl, rfl⟩⟩, .inr ⟨rfl, rfl, rfl⟩⟩, .inr ⟨rfl, rfl, rfl⟩⟩, .inr ⟨rfl, rfl, rfl⟩⟩, by decide, rfl, ⟨⟨trivial, rfl⟩, rfl⟩⟩, rfl, rfl, rfl, rfl⟩
  · refine WPD1.eff 6 [0, 1] [8] rfl (Does.runs (d_buildSlice (ds := ([x140] : List Int)) (R := (Rd.int .i64)) li32 rfl rfl rfl rfl rfl (JoinRows.cons1 Joins.sc rfl JoinRows.nil) rfl rfl)) rfl rfl ?_
    refine WPD.eff 2 [0, 1] [8] rfl (by kernel_rfl) (Does.runs (d_buildSlice (ds := ([x139] : List Int)) (R := (Rd.int .i64)) li32 rfl rfl rfl rfl rfl (JoinRows.cons1 Joins.sc rfl JoinRows.nil) rfl rfl)) rfl rfl ?_
    obtain ⟨h169, H⟩ := grd H
    refine WPD.eff 3 [0, 1] [8] rfl (by kernel_rfl) (Does.runs (d_append ap32 rfl rfl rfl rfl (src_row sl32 rfl rfl) h169 rfl)) rfl rfl ?_
    obtain ⟨h170, H⟩ := grd H
    refine WPD.eff 7 [0, 1] [8] rfl (by kernel_rfl) (Does.runs (d_append ap32 rfl rfl rfl rfl (src_row sl32 rfl rfl) h170 rfl)) rfl rfl ?_
    refine WPD.effS 8 [] [] rfl (by kernel_rfl) (s_store sz32 rfl rfl rfl rfl rfl) rfl ?_
    refine WPD.effS 9 [] [] rfl (by kernel_rfl) (s_store sz32 rfl rfl rfl rfl rfl) rfl ?_
    refine WPD.doneW (by kernel_rfl) ?_
    refine W.now ?_
    exact ⟨trivial, _, rfl, [0, 1, 6, 7], (.tup []), ((((Mem.nil.push (.cells 32 [.whole 2])).push (.cells 32 [.whole 3])).push (.row 3 (Rd.int .i64) (x141 ++ ([x139] : List Int)))).push (.row 3 (Rd.int .i64) (x142 ++ ([x140] : List Int)))), ⟨rfl, ⟨⟨⟨⟨trivial, .inr ⟨rfl, rfl, rfl⟩⟩, .inr ⟨rfl, rfl, rfl⟩⟩, .inr ⟨rfl, rfl, rfl⟩⟩, .inr ⟨rfl, rfl, rfl⟩⟩, by decide, rfl, ⟨⟨trivial, rfl⟩, rfl⟩⟩, rfl, rfl, rfl, rfl⟩
set_option maxRecDepth 100000 in
set_option maxHeartbeats 4000000 in
theorem s_deflate_Lengths_1__c (k : Nat) (x249 : Int) (x250 : Int) (x251 : (List Int)) (H : g_deflate_Lengths_1__c k x249 x250 x251 = some ()) : Go.Q.Spec Try.prog 25 2 [.lit (.int .i64 x249), .lit (.int .i64 x250), .ptr 0 0, .ptr 1 0] (((Mem.nil.push (.cells 32 [.whole 2])).push (.cells 32 [.lit (.slice none 0 0)])).push (.row 3 (Rd.int .i64) x251)) (fun o M => o = .ret (.tup []) ∧ M = ((((Mem.nil.push (.cells 32 [.whole 2])).push (.cells 32 [.whole 3])).push (.row 3 (Rd.int .i64) (x251 ++ ([x249] : List Int)))).push (.row 3 (Rd.int .i64) (([] : List Int) ++ ([x250] : List Int))))) := by
  unfold g_deflate_Lengths_1__c at H
  refine Go.Q.Spec.of_bodyR (rs := []) (nt := 14) Try.func25 rfl rfl (by intro t T h; simp at h) rfl rfl fun cx hnp => ?_
  refine WP.regionD' 10 [0, 1] [8] mixed rfl ?_
  refine WPD.takeT 1 rfl (by kernel_rfl) (q_mv (v := .lit (.int _ _)) rfl) rfl ?_
  refine WPD.takeT 5 rfl (by kernel_rfl) (q_mv (v := .lit (.int _ _)) rfl) rfl ?_
  refine WPD.take 0 rfl (by kernel_rfl) (q_load sc32 rfl rfl rfl) rfl rfl ?_
  refine WPD.take 4 rfl (by kernel_rfl) (q_load sc32 rfl rfl rfl) rfl rfl ?_
  refine WPD.of2 2 6 (by kernel_rfl) ?_ ?_
  · refine WPD1.eff 2 [0, 1] [8] rfl (Does.runs (d_buildSlice (ds := ([x249] : List Int)) (R := (Rd.int .i64)) li32 rfl rfl rfl rfl rfl (JoinRows.cons1 Joins.sc rfl JoinRows.nil) rfl rfl)) rfl rfl ?_
    refine WPD.of2 3 6 (by kernel_rfl) ?_ ?_
    · obtain ⟨h274, H⟩ := grd H
      refine WPD1.eff 3 [0, 1] [8] rfl (Does.runs (d_append ap32 rfl rfl rfl rfl (src_row sl32 rfl rfl) h274 rfl)) rfl rfl ?_
      refine WPD.eff 6 [0, 1] [8] rfl (by kernel_rfl) (Does.runs (d_buildSlice (ds := ([x250] : List Int)) (R := (Rd.int .i64)) li32 rfl rfl rfl rfl rfl (JoinRows.cons1 Joins.sc rfl JoinRows.nil) rfl rfl)) rfl rfl ?_
      obtain ⟨h275, H⟩ := grd H
      refine WPD.cvL (CvL.vir 3 (Rd.int .i64) (N := 6) rfl 10 rfl) rfl ?_
      refine WPD.eff 7 [0, 1] [8] rfl (by kernel_rfl) (Does.runs (d_append ap32 rfl rfl rfl rfl (src_row sl32 rfl rfl) h275 rfl)) rfl rfl ?_
      refine WPD.effS 8 [] [] rfl (by kernel_rfl) (s_store sz32 rfl rfl rfl rfl rfl) rfl ?_
      refine WPD.effS 9 [] [] rfl (by kernel_rfl) (s_store sz32 rfl rfl rfl rfl rfl) rfl ?_
      refine WPD.doneW (by kernel_rfl) ?_
      refine W.now ?_
      exact ⟨trivial, _, rfl, [0, 1, 4, 7], (.tup []), ((((Mem.nil.push (.cells 32 [.whole 2])).push (.cells 32 [.whole 3])).push (.row 3 (Rd.int .i64) (x251 ++ ([x249] : List Int)))).push (.row 3 (Rd.int .i64) (([] : List Int) ++ ([x250] : List Int)))), ⟨rfl, ⟨⟨⟨⟨trivial, .inr ⟨rfl, rfl, rfl⟩⟩, .inr ⟨rfl, rfl, rfl⟩⟩, .inr ⟨rfl, rfl, rfl⟩⟩, .inr ⟨rfl, rfl, rfl⟩⟩, by decide, rfl, ⟨⟨trivial, rfl⟩, rfl⟩⟩, rfl, rfl, rfl, rfl⟩
    · refine WPD1.eff 6 [0, 1] [8] rfl (Does.runs (d_buildSlice (ds := ([x250] : List Int)) (R := (Rd.int .i64)) li32 rfl rfl rfl rfl rfl (JoinRows.cons1 Joins.sc rfl JoinRows.nil) rfl rfl)) rfl rfl ?_
      obtain ⟨h276, H⟩ := grd H
      refine WPD.eff 3 [0, 1] [8] rfl (by kernel_rfl) (Does.runs (d_append ap32 rfl rfl rfl rfl (src_row sl32 rfl rfl) h276 rfl)) rfl rfl ?_
      obtain ⟨h277, H⟩ := grd H
      refine WPD.cvL (CvL.vir 3 (Rd.int .i64) (N := 6) rfl 10 rfl) rfl ?_
      refine WPD.eff 7 [0, 1] [8] rfl (by kernel_rfl) (Does.runs (d_append ap32 rfl rfl rfl rfl (src_row sl32 rfl rfl) h277 rfl)) rfl rfl ?_
      refine WPD.effS 8 [] [] rfl (by kernel_rfl) (s_store sz32 rfl rfl rfl rfl rfl) rfl ?_
      refine WPD.effS 9 [] [] rfl (by kernel_rfl) (s_store sz32 rfl rfl rfl rfl rfl) rfl ?_
      refine WPD.doneW (by kernel_rfl) ?_
      refine W.now ?_
      exact ⟨trivial, _, rfl, [0, 1, 5, 7], (.tup []), ((((Mem.nil.push (.cells 32 [.whole 2])).push (.cells 32 [.whole 3])).push (.row 3 (Rd.int .i64) (x251 ++ ([x249] : List Int)))).push (.row 3 (Rd.int .i64) (([] : List Int) ++ ([x250] : List Int)))), ⟨rfl, ⟨⟨⟨⟨trivial, .inr ⟨rfl, rfl, rfl⟩⟩, .inr ⟨rfl, rfl, rfl⟩⟩, .inr ⟨rfl, rfl, rfl⟩⟩, .inr ⟨rfl, rfl, rfl⟩⟩, by decide, rfl, ⟨⟨trivial, rfl⟩, rfl⟩⟩, rfl, rfl, rfl, rfl⟩
  · refine WPD1.eff 6 [0, 1] [8] rfl (Does.runs (d_buildSlice (ds := ([x250] : List Int)) (R := (Rd.int .i64)) li32 rfl rfl rfl rfl rfl (JoinRows.cons1 Joins.sc rfl JoinRows.nil) rfl rfl)) rfl rfl ?_
    refine WPD.eff 2 [0, 1] [8] rfl (by kernel_rfl) (Does.runs (d_buildSlice (ds := ([x249] : List Int)) (R := (Rd.int .i64)) li32 rfl rfl rfl rfl rfl (JoinRows.cons1 Joins.sc rfl JoinRows.nil) rfl rfl)) rfl rfl ?_
    obtain ⟨h278, H⟩ := grd H
    refine WPD.eff 3 [0, 1] [8] rfl (by kernel_rfl) (Does.runs (d_append ap32 rfl rfl rfl rfl (src_row sl32 rfl rfl) h278 rfl)) rfl rfl ?_
    obtain ⟨h279, H⟩ := grd H
    refine WPD.cvL (CvL.vir 3 (Rd.int .i64) (N := 6) rfl 10 rfl) rfl ?_
    refine WPD.eff 7 [0, 1] [8] rfl (by kernel_rfl) (Does.runs (d_append ap32 rfl rfl rfl rfl (src_row sl32 rfl rfl) h279 rfl)) rfl rfl ?_
    refine WPD.effS 8 [] [] rfl (by kernel_rfl) (s_store sz32 rfl rfl rfl rfl rfl) rfl ?_
    refine WPD.effS 9 [] [] rfl (by kernel_rfl) (s_store sz32 rfl rfl rfl rfl rfl) rfl ?_
    refine WPD.doneW (by kernel_rfl) ?_
    refine W.now ?_
    exact ⟨trivial, _, rfl, [0, 1, 5, 7], (.tup []), ((((Mem.nil.push (.cells 32 [.whole 2])).push (.cells 32 [.whole 3])).push (.row 3 (Rd.int .i64) (x251 ++ ([x249] : List Int)))).push (.row 3 (Rd.int .i64) (([] : List Int) ++ ([x250] : List Int)))), ⟨rfl, ⟨⟨⟨⟨trivial, .inr ⟨rfl, rfl, rfl⟩⟩, .inr ⟨rfl, rfl, rfl⟩⟩, .inr ⟨rfl, rfl, rfl⟩⟩, .inr ⟨rfl, rfl, rfl⟩⟩, by decide, rfl, ⟨⟨trivial, rfl⟩, rfl⟩⟩, rfl, rfl, rfl, rfl⟩
set_option maxRecDepth 100000 in
set_option maxHeartbeats 4000000 in
theorem s_deflate_Lengths (k : Nat) (x4 : (List Int)) (x502 : (List Int)) (x503 : (List Int)) (H : g_deflate_Lengths k x4 = some (x502, x503)) : Go.Q.Spec Try.prog 15 0 [.ro (Rd.slice (Rd.int .i64)) false x4] Mem.nil (fun o M => o = .ret (.tup [.ro (Rd.slice (Rd.int .i64)) false x502, .ro (Rd.slice (Rd.int .i64)) false x503]) ∧ M = Mem.nil) := by
  unfold g_deflate_Lengths at H
  refine Go.Q.Spec.of_bodyR (rs := [.tmp 2, .tmp 3]) (nt := 85) Try.func15 rfl rfl (by intro t T h; simp at h) rfl rfl fun cx hnp => ?_
  refine WP.seq ?_
  refine WP.region ?_
  refine WPL.d (d_box rfl rfl) rfl ?_
  refine WPL.q (q_as (v := .lit _) rfl) rfl ?_
  refine WPL.q (q_as (v := .lit _) rfl) rfl ?_
  refine WPL.nilW ?_
  refine W.now ?_
  refine Then.n ?_
  refine WP.seq ?_
  refine WP.region ?_
  refine WPL.d (d_alloc ze32 rfl) rfl ?_
  refine WPL.d (d_alloc ze32 rfl) rfl ?_
  refine WPL.nilW ?_
  refine W.now ?_
  refine Then.n ?_
  refine WP.seq ?_
  refine WP.region ?_
  refine WPL.q (q_makeFunc) rfl ?_
  refine WPL.q (q_as (v := .fn _ _) rfl) rfl ?_
  refine WPL.nilW ?_
  refine W.now ?_
  refine Then.n ?_
  refine WP.seq ?_
  refine WP.region ?_
  refine WPL.q (q_makeFunc) rfl ?_
  refine WPL.q (q_as (v := .fn _ _) rfl) rfl ?_
  refine WPL.nilW ?_
  refine W.now ?_
  refine Then.n ?_
  refine WP.seq ?_
  refine WP.seq ?_
  refine WP.region ?_
  refine WPL.q (q_as (v := .lit (.int _ _)) rfl) rfl ?_
  refine WPL.nilW ?_
  refine W.now ?_
  refine Then.n ?_
  refine WP.block ?_
  refine WP.cv (Cv.virC 3 (Rd.int .i64) (N := 3) rfl rfl (i := 1) (off := 0) rfl rfl) ?_
  refine WP.cv (Cv.virC 3 (Rd.int .i64) (N := 4) rfl rfl (i := 2) (off := 0) rfl rfl) ?_
  refine WP.cv (Cv.weak (E' := ((((((Env.none.upd 1 (.ptr 0 0)).upd 4 (.ptr 1 0)).upd 5 (.ptr 3 0)).upd 6 (.fn 25 [.ptr 1 0, .ptr 3 0])).upd 7 (.fn 26 [.ptr 0 0])).upd 8 (.lit (.int .i64 0)))) (M' := (((((Mem.nil.push (.cells 32 [.ro (Rd.slice (Rd.int .i64)) false x4])).push (.cells 32 [.whole 2])).push (.row 3 (Rd.int .i64) ([] : List Int))).push (.cells 32 [.whole 4])).push (.row 3 (Rd.int .i64) ([] : List Int)))) [0, 1, 3, 2, 4] hnp ⟨rfl, ⟨⟨⟨⟨⟨trivial, .inr ⟨rfl, rfl, rfl⟩⟩, .inr ⟨rfl, rfl, rfl⟩⟩, .inr ⟨rfl, rfl, rfl⟩⟩, .inr ⟨rfl, rfl, rfl⟩⟩, .inr ⟨rfl, rfl, rfl⟩⟩, by decide, rfl, trivial⟩ (LeE.upd rfl rfl (LeE.upd rfl rfl (LeE.upd rfl rfl (LeE.upd rfl rfl (LeE.upd rfl rfl (LeE.upd rfl rfl (LeE.none rfl rfl)))))))) ?_
  obtain ⟨⟨x863, x864⟩, H973, H⟩ := bnd H
  refine WP.monoW (Q := fun x E M => x = .exit 0 ∧ E = ((Env.none.upd 4 (.ptr 0 0)).upd 5 (.ptr 2 0)) ∧ M = ((((Mem.nil.push (.cells 32 [.whole 1])).push (.row 3 (Rd.int .i64) x863)).push (.cells 32 [.whole 3])).push (.row 3 (Rd.int .i64) x864))) ?_ ?_
  · refine WP.loop (β := Int × (List Int) × (List Int)) (fun n b => g_deflate_Lengths_l0 k x4 n b.1 b.2.1 b.2.2 = some (x863, x864)) (fun b => ((((((Env.none.upd 1 (.ptr 0 0)).upd 4 (.ptr 1 0)).upd 5 (.ptr 3 0)).upd 6 (.fn 25 [.ptr 1 0, .ptr 3 0])).upd 7 (.fn 26 [.ptr 0 0])).upd 8 (.lit (.int .i64 b.1)))) (fun b => (((((Mem.nil.push (.cells 32 [.ro (Rd.slice (Rd.int .i64)) false x4])).push (.cells 32 [.whole 2])).push (.row 3 (Rd.int .i64) b.2.1)).push (.cells 32 [.whole 4])).push (.row 3 (Rd.int .i64) b.2.2))) k (0, ([] : List Int), ([] : List Int)) H973 rfl rfl ?_
    rintro n ⟨x771, x772, x773⟩ H
    obtain _ | n := n
    · exact nf rfl H
    rw [g_deflate_Lengths_l0.eq_2] at H
    show WP _ _ _ _ ((((((Env.none.upd 1 (.ptr 0 0)).upd 4 (.ptr 1 0)).upd 5 (.ptr 3 0)).upd 6 (.fn 25 [.ptr 1 0, .ptr 3 0])).upd 7 (.fn 26 [.ptr 0 0])).upd 8 (.lit (.int .i64 x771))) (((((Mem.nil.push (.cells 32 [.ro (Rd.slice (Rd.int .i64)) false x4])).push (.cells 32 [.whole 2])).push (.row 3 (Rd.int .i64) x772)).push (.cells 32 [.whole 4])).push (.row 3 (Rd.int .i64) x773)) _
    refine WP.seq ?_
    refine WP.seq ?_
    refine WP.region ?_
    refine WPL.q (q_mv (v := .lit (.int _ _)) rfl) rfl ?_
    refine WPL.q (q_load sc32 rfl rfl rfl) rfl ?_
    refine WPL.q (q_len_ro sl32 rfl) rfl ?_
    obtain ⟨x866, h866, H⟩ := bnd H
    refine WPL.q (q_nm (q_lss rfl rfl) (nm_bool h866)) rfl ?_
    refine WPL.nilW ?_
    refine W.now ?_
    refine Then.n ?_
    refine WP.cond (t := x866) rfl (fun hb => ?_) (fun hb => ?_)
    · replace H := cnt hb H
      refine WP.skipW ?_
      refine W.now ?_
      refine Then.n ?_
      refine WP.block ?_
      refine WP.seq ?_
      refine WP.region ?_
      refine WPL.q (q_mv (v := .fn _ _) rfl) rfl ?_
      refine WPL.q (q_mv (v := .lit (.int _ _)) rfl) rfl ?_
      obtain ⟨x868, h866, H⟩ := bnd H
      refine WPL.c (runs_call (s := [0]) (t := [0]) (N := 5) (bor := []) fn26 rfl (s_deflate_Lengths_2 k x771 x4 x868 h866) ⟨rfl, ⟨trivial, .inr ⟨rfl, rfl, rfl⟩⟩, by decide, rfl, trivial⟩ rfl trivial (.ren rfl rfl (.ren rfl rfl .nil)) rfl ⟨trivial, rfl⟩ rfl) rfl ?_
      refine WPL.q (q_as (v := .lit (.int _ _)) rfl) rfl ?_
      refine WPL.q (q_as (v := .lit (.int _ _)) rfl) rfl ?_
      refine WPL.nilW ?_
      refine W.now ?_
      refine Then.n ?_
      refine WP.seq ?_
      refine WP.block ?_
      refine WP.cv (Cv.weak (E' := ((((((((Env.none.upd 1 (.ptr 0 0)).upd 4 (.ptr 1 0)).upd 5 (.ptr 3 0)).upd 6 (.fn 25 [.ptr 1 0, .ptr 3 0])).upd 7 (.fn 26 [.ptr 0 0])).upd 8 (.lit (.int .i64 x771))).upd 9 (.lit (.int .i64 x868))).upd 10 (.lit (.int .i64 1)))) (M' := (((((Mem.nil.push (.cells 32 [.ro (Rd.slice (Rd.int .i64)) false x4])).push (.cells 32 [.whole 2])).push (.row 3 (Rd.int .i64) x772)).push (.cells 32 [.whole 4])).push (.row 3 (Rd.int .i64) x773))) [0, 1, 2, 3, 4] hnp ⟨rfl, ⟨⟨⟨⟨⟨trivial, .inr ⟨rfl, rfl, rfl⟩⟩, .inr ⟨rfl, rfl, rfl⟩⟩, .inr ⟨rfl, rfl, rfl⟩⟩, .inr ⟨rfl, rfl, rfl⟩⟩, .inr ⟨rfl, rfl, rfl⟩⟩, by decide, rfl, trivial⟩ (LeE.upd rfl rfl (LeE.upd rfl rfl (LeE.upd rfl rfl (LeE.upd rfl rfl (LeE.upd rfl rfl (LeE.upd rfl rfl (LeE.upd rfl rfl (LeE.upd rfl rfl (LeE.none rfl rfl)))))))))) ?_
      obtain ⟨x910, H930, H⟩ := bnd H
      refine WP.monoW (Q := fun x E M => x = .exit 2 ∧ E = ((((((((Env.none.upd 1 (.ptr 0 0)).upd 4 (.ptr 1 0)).upd 5 (.ptr 3 0)).upd 6 (.fn 25 [.ptr 1 0, .ptr 3 0])).upd 7 (.fn 26 [.ptr 0 0])).upd 8 (.lit (.int .i64 x771))).upd 9 (.lit (.int .i64 x868))).upd 10 (.lit (.int .i64 x910))) ∧ M = (((((Mem.nil.push (.cells 32 [.ro (Rd.slice (Rd.int .i64)) false x4])).push (.cells 32 [.whole 2])).push (.row 3 (Rd.int .i64) x772)).push (.cells 32 [.whole 4])).push (.row 3 (Rd.int .i64) x773))) ?_ ?_
      · refine WP.loop (β := Int) (fun n b => g_deflate_Lengths_l1 k x4 x771 x868 n b = some x910) (fun b => ((((((((Env.none.upd 1 (.ptr 0 0)).upd 4 (.ptr 1 0)).upd 5 (.ptr 3 0)).upd 6 (.fn 25 [.ptr 1 0, .ptr 3 0])).upd 7 (.fn 26 [.ptr 0 0])).upd 8 (.lit (.int .i64 x771))).upd 9 (.lit (.int .i64 x868))).upd 10 (.lit (.int .i64 b)))) (fun b => (((((Mem.nil.push (.cells 32 [.ro (Rd.slice (Rd.int .i64)) false x4])).push (.cells 32 [.whole 2])).push (.row 3 (Rd.int .i64) x772)).push (.cells 32 [.whole 4])).push (.row 3 (Rd.int .i64) x773))) k 1 H930 rfl rfl ?_
        rintro n x889 H
        obtain _ | n := n
        · exact nf rfl H
        rw [g_deflate_Lengths_l1.eq_2] at H
        show WP _ _ _ _ ((((((((Env.none.upd 1 (.ptr 0 0)).upd 4 (.ptr 1 0)).upd 5 (.ptr 3 0)).upd 6 (.fn 25 [.ptr 1 0, .ptr 3 0])).upd 7 (.fn 26 [.ptr 0 0])).upd 8 (.lit (.int .i64 x771))).upd 9 (.lit (.int .i64 x868))).upd 10 (.lit (.int .i64 x889))) (((((Mem.nil.push (.cells 32 [.ro (Rd.slice (Rd.int .i64)) false x4])).push (.cells 32 [.whole 2])).push (.row 3 (Rd.int .i64) x772)).push (.cells 32 [.whole 4])).push (.row 3 (Rd.int .i64) x773)) _
        refine WP.seq ?_
        refine WP.seq ?_
        obtain ⟨x925, H929, H⟩ := bnd H
        refine WP.monoW (Q := fun x E M => x = .normal ∧ E = (((((((((Env.none.upd 1 (.ptr 0 0)).upd 4 (.ptr 1 0)).upd 5 (.ptr 3 0)).upd 6 (.fn 25 [.ptr 1 0, .ptr 3 0])).upd 7 (.fn 26 [.ptr 0 0])).upd 8 (.lit (.int .i64 x771))).upd 9 (.lit (.int .i64 x868))).upd 10 (.lit (.int .i64 x889))).upd 34 (.lit (.bool x925))) ∧ M = (((((Mem.nil.push (.cells 32 [.ro (Rd.slice (Rd.int .i64)) false x4])).push (.cells 32 [.whole 2])).push (.row 3 (Rd.int .i64) x772)).push (.cells 32 [.whole 4])).push (.row 3 (Rd.int .i64) x773))) ?_ ?_
        · clear H
          have H := H929
          clear H929
          refine WP.region ?_
          refine WPL.q (q_mv (v := .lit (.int _ _)) rfl) rfl ?_
          refine WPL.q (q_mv (v := .lit (.int _ _)) rfl) rfl ?_
          refine WPL.q (q_add rfl rfl) rfl ?_
          refine WPL.q (q_load sc32 rfl rfl rfl) rfl ?_
          refine WPL.q (q_len_ro sl32 rfl) rfl ?_
          obtain ⟨x926, h926, H⟩ := bnd H
          refine WPL.q (q_nm (q_lss rfl rfl) (nm_bool h926)) rfl ?_
          refine WPL.q (q_mv (v := .lit (.bool _)) rfl) rfl ?_
          refine WPL.split (t := 26) (b := x926) rfl (fun hb926 => ?_) (fun hb926 => ?_)
          · replace H := cnt hb926 H
            refine WPL.qg rfl rfl (lb hb926) (q_mv (v := .fn _ _) rfl) rfl ?_
            refine WPL.qg rfl rfl (lb hb926) (q_mv (v := .lit (.int _ _)) rfl) rfl ?_
            refine WPL.qg rfl rfl (lb hb926) (q_mv (v := .lit (.int _ _)) rfl) rfl ?_
            refine WPL.qg rfl rfl (lb hb926) (q_add rfl rfl) rfl ?_
            obtain ⟨x929, h927, H⟩ := bnd H
            refine WPL.cg rfl rfl (lb hb926) (runs_call (s := [0]) (t := [0]) (N := 5) (bor := []) fn26 rfl (s_deflate_Lengths_2 k (IntKind.wrap .i64 (x771 + x889)) x4 x929 h927) ⟨rfl, ⟨trivial, .inr ⟨rfl, rfl, rfl⟩⟩, by decide, rfl, trivial⟩ rfl trivial (.ren rfl rfl (.ren rfl rfl .nil)) rfl ⟨trivial, rfl⟩ rfl) rfl ?_
            refine WPL.qg rfl rfl (lb hb926) (q_mv (v := .lit (.int _ _)) rfl) rfl ?_
            refine WPL.qg rfl rfl (lb hb926) (q_eql rfl rfl) rfl ?_
            refine WPL.q (q_pickT (v := .lit (.bool _)) (lb hb926) rfl) rfl ?_
            refine WPL.nilW ?_
            refine W.cv (Cv.weak (E' := (((((((((Env.none.upd 1 (.ptr 0 0)).upd 4 (.ptr 1 0)).upd 5 (.ptr 3 0)).upd 6 (.fn 25 [.ptr 1 0, .ptr 3 0])).upd 7 (.fn 26 [.ptr 0 0])).upd 8 (.lit (.int .i64 x771))).upd 9 (.lit (.int .i64 x868))).upd 10 (.lit (.int .i64 x889))).upd 34 (.lit (.bool (decide (x929 = x868)))))) (M' := (((((Mem.nil.push (.cells 32 [.ro (Rd.slice (Rd.int .i64)) false x4])).push (.cells 32 [.whole 2])).push (.row 3 (Rd.int .i64) x772)).push (.cells 32 [.whole 4])).push (.row 3 (Rd.int .i64) x773))) [0, 1, 2, 3, 4] hnp ⟨rfl, ⟨⟨⟨⟨⟨trivial, .inr ⟨rfl, rfl, rfl⟩⟩, .inr ⟨rfl, rfl, rfl⟩⟩, .inr ⟨rfl, rfl, rfl⟩⟩, .inr ⟨rfl, rfl, rfl⟩⟩, .inr ⟨rfl, rfl, rfl⟩⟩, by decide, rfl, trivial⟩ (LeE.upd rfl rfl (LeE.upd rfl rfl (LeE.upd rfl rfl (LeE.upd rfl rfl (LeE.upd rfl rfl (LeE.upd rfl rfl (LeE.upd rfl rfl (LeE.upd rfl rfl (LeE.upd rfl rfl (LeE.none rfl rfl))))))))))) rfl ?_
            refine W.now ?_
            have q0 := (Option.some.inj H)
            subst q0
            exact ⟨rfl, rfl, rfl⟩
          · replace H := cnf hb926 H
            refine WPL.skipg (b' := false) rfl rfl (lb hb926) rfl rfl ?_
            refine WPL.skipg (b' := false) rfl rfl (lb hb926) rfl rfl ?_
            refine WPL.skipg (b' := false) rfl rfl (lb hb926) rfl rfl ?_
            refine WPL.skipg (b' := false) rfl rfl (lb hb926) rfl rfl ?_
            refine WPL.skipg (b' := false) rfl rfl (lb hb926) rfl rfl ?_
            refine WPL.skipg (b' := false) rfl rfl (lb hb926) rfl rfl ?_
            refine WPL.skipg (b' := false) rfl rfl (lb hb926) rfl rfl ?_
            refine WPL.q (q_pickF (v := .lit (.bool _)) (lb hb926) rfl) rfl ?_
            refine WPL.nilW ?_
            refine W.cv (Cv.weak (E' := (((((((((Env.none.upd 1 (.ptr 0 0)).upd 4 (.ptr 1 0)).upd 5 (.ptr 3 0)).upd 6 (.fn 25 [.ptr 1 0, .ptr 3 0])).upd 7 (.fn 26 [.ptr 0 0])).upd 8 (.lit (.int .i64 x771))).upd 9 (.lit (.int .i64 x868))).upd 10 (.lit (.int .i64 x889))).upd 34 (.lit (.bool false)))) (M' := (((((Mem.nil.push (.cells 32 [.ro (Rd.slice (Rd.int .i64)) false x4])).push (.cells 32 [.whole 2])).push (.row 3 (Rd.int .i64) x772)).push (.cells 32 [.whole 4])).push (.row 3 (Rd.int .i64) x773))) [0, 1, 2, 3, 4] hnp ⟨rfl, ⟨⟨⟨⟨⟨trivial, .inr ⟨rfl, rfl, rfl⟩⟩, .inr ⟨rfl, rfl, rfl⟩⟩, .inr ⟨rfl, rfl, rfl⟩⟩, .inr ⟨rfl, rfl, rfl⟩⟩, .inr ⟨rfl, rfl, rfl⟩⟩, by decide, rfl, trivial⟩ (LeE.upd rfl rfl (LeE.upd rfl rfl (LeE.upd rfl rfl (LeE.upd rfl rfl (LeE.upd rfl rfl (LeE.upd rfl rfl (LeE.upd rfl rfl (LeE.upd rfl rfl (LeE.upd rfl rfl (LeE.none rfl rfl))))))))))) rfl ?_
            refine W.now ?_
            have q0 := (Option.some.inj H)
            subst q0
            exact ⟨rfl, rfl, rfl⟩
        · rintro _ _ _ ⟨rfl, rfl, rfl⟩
          refine W.now ?_
          refine Then.n ?_
          refine WP.cond (t := x925) rfl (fun hb => ?_) (fun hb => ?_)
          · replace H := cnt hb H
            refine WP.skipW ?_
            refine W.now ?_
            refine Then.n ?_
            refine WP.block ?_
            refine WP.region ?_
            refine WPL.q (q_mv (v := .lit (.int _ _)) rfl) rfl ?_
            refine WPL.q (q_add rfl rfl) rfl ?_
            refine WPL.q (q_as (v := .lit (.int _ _)) rfl) rfl ?_
            refine WPL.nilW ?_
            refine W.cv (Cv.weak (E' := ((((((((Env.none.upd 1 (.ptr 0 0)).upd 4 (.ptr 1 0)).upd 5 (.ptr 3 0)).upd 6 (.fn 25 [.ptr 1 0, .ptr 3 0])).upd 7 (.fn 26 [.ptr 0 0])).upd 8 (.lit (.int .i64 x771))).upd 9 (.lit (.int .i64 x868))).upd 10 (.lit (.int .i64 (IntKind.wrap .i64 (x889 + 1)))))) (M' := (((((Mem.nil.push (.cells 32 [.ro (Rd.slice (Rd.int .i64)) false x4])).push (.cells 32 [.whole 2])).push (.row 3 (Rd.int .i64) x772)).push (.cells 32 [.whole 4])).push (.row 3 (Rd.int .i64) x773))) [0, 1, 2, 3, 4] hnp ⟨rfl, ⟨⟨⟨⟨⟨trivial, .inr ⟨rfl, rfl, rfl⟩⟩, .inr ⟨rfl, rfl, rfl⟩⟩, .inr ⟨rfl, rfl, rfl⟩⟩, .inr ⟨rfl, rfl, rfl⟩⟩, .inr ⟨rfl, rfl, rfl⟩⟩, by decide, rfl, trivial⟩ (LeE.upd rfl rfl (LeE.upd rfl rfl (LeE.upd rfl rfl (LeE.upd rfl rfl (LeE.upd rfl rfl (LeE.upd rfl rfl (LeE.upd rfl rfl (LeE.upd rfl rfl (LeE.none rfl rfl)))))))))) rfl ?_
            refine W.now ?_
            refine InBlock.n ?_
            exact Then.n ⟨n, (IntKind.wrap .i64 (x889 + 1)), Nat.lt_succ_self n, H, rfl, rfl⟩
          · replace H := cnf hb H
            refine WP.exitW ?_
            refine W.cv (Cv.weak (E' := ((((((((Env.none.upd 1 (.ptr 0 0)).upd 4 (.ptr 1 0)).upd 5 (.ptr 3 0)).upd 6 (.fn 25 [.ptr 1 0, .ptr 3 0])).upd 7 (.fn 26 [.ptr 0 0])).upd 8 (.lit (.int .i64 x771))).upd 9 (.lit (.int .i64 x868))).upd 10 (.lit (.int .i64 x889)))) (M' := (((((Mem.nil.push (.cells 32 [.ro (Rd.slice (Rd.int .i64)) false x4])).push (.cells 32 [.whole 2])).push (.row 3 (Rd.int .i64) x772)).push (.cells 32 [.whole 4])).push (.row 3 (Rd.int .i64) x773))) [0, 1, 2, 3, 4] hnp ⟨rfl, ⟨⟨⟨⟨⟨trivial, .inr ⟨rfl, rfl, rfl⟩⟩, .inr ⟨rfl, rfl, rfl⟩⟩, .inr ⟨rfl, rfl, rfl⟩⟩, .inr ⟨rfl, rfl, rfl⟩⟩, .inr ⟨rfl, rfl, rfl⟩⟩, by decide, rfl, trivial⟩ (LeE.upd rfl rfl (LeE.upd rfl rfl (LeE.upd rfl rfl (LeE.upd rfl rfl (LeE.upd rfl rfl (LeE.upd rfl rfl (LeE.upd rfl rfl (LeE.upd rfl rfl (LeE.none rfl rfl)))))))))) rfl ?_
            refine W.now ?_
            refine Then.x ?_
            refine Then.x ?_
            have q0 := (Option.some.inj H)
            subst q0
            exact ⟨rfl, rfl, rfl⟩
      · rintro _ _ _ ⟨rfl, rfl, rfl⟩
        refine W.now ?_
        refine InBlock.x0 ?_
        refine Then.n ?_
        refine WP.seq ?_
        obtain ⟨⟨x951, x952, x953⟩, H972, H⟩ := bnd H
        refine WP.monoW (Q := fun x E M => x = .normal ∧ E = (((((((Env.none.upd 1 (.ptr 0 0)).upd 4 (.ptr 1 0)).upd 5 (.ptr 3 0)).upd 6 (.fn 25 [.ptr 1 0, .ptr 3 0])).upd 7 (.fn 26 [.ptr 0 0])).upd 8 (.lit (.int .i64 x771))).upd 10 (.lit (.int .i64 x951))) ∧ M = (((((Mem.nil.push (.cells 32 [.ro (Rd.slice (Rd.int .i64)) false x4])).push (.cells 32 [.whole 2])).push (.row 3 (Rd.int .i64) x952)).push (.cells 32 [.whole 4])).push (.row 3 (Rd.int .i64) x953))) ?_ ?_
        · clear H
          have H := H972
          clear H972
          refine WP.block ?_
          refine WP.seq ?_
          obtain ⟨x955, H956, H⟩ := bnd H
          refine WP.monoW (Q := fun x E M => x = .normal ∧ E = (((((((((Env.none.upd 1 (.ptr 0 0)).upd 4 (.ptr 1 0)).upd 5 (.ptr 3 0)).upd 6 (.fn 25 [.ptr 1 0, .ptr 3 0])).upd 7 (.fn 26 [.ptr 0 0])).upd 8 (.lit (.int .i64 x771))).upd 9 (.lit (.int .i64 x868))).upd 10 (.lit (.int .i64 x910))).upd 40 (.lit (.bool x955))) ∧ M = (((((Mem.nil.push (.cells 32 [.ro (Rd.slice (Rd.int .i64)) false x4])).push (.cells 32 [.whole 2])).push (.row 3 (Rd.int .i64) x772)).push (.cells 32 [.whole 4])).push (.row 3 (Rd.int .i64) x773))) ?_ ?_
          · clear H
            have H := H956
            clear H956
            refine WP.region ?_
            refine WPL.q (q_mv (v := .lit (.int _ _)) rfl) rfl ?_
            refine WPL.q (q_eql rfl rfl) rfl ?_
            refine WPL.q (q_mv (v := .lit (.bool _)) rfl) rfl ?_
            refine WPL.split (t := 43) (b := (decide (x868 = 0))) rfl (fun hb955 => ?_) (fun hb955 => ?_)
            · replace H := cnt hb955 H
              refine WPL.qg rfl rfl (lb hb955) (q_mv (v := .lit (.int _ _)) rfl) rfl ?_
              refine WPL.qg rfl rfl (lb hb955) (q_geq rfl rfl) rfl ?_
              refine WPL.q (q_pickT (v := .lit (.bool _)) (lb hb955) rfl) rfl ?_
              refine WPL.q (q_as (v := .lit (.bool _)) rfl) rfl ?_
              refine WPL.nilW ?_
              refine W.cv (Cv.weak (E' := (((((((((Env.none.upd 1 (.ptr 0 0)).upd 4 (.ptr 1 0)).upd 5 (.ptr 3 0)).upd 6 (.fn 25 [.ptr 1 0, .ptr 3 0])).upd 7 (.fn 26 [.ptr 0 0])).upd 8 (.lit (.int .i64 x771))).upd 9 (.lit (.int .i64 x868))).upd 10 (.lit (.int .i64 x910))).upd 40 (.lit (.bool (decide (11 ≤ x910)))))) (M' := (((((Mem.nil.push (.cells 32 [.ro (Rd.slice (Rd.int .i64)) false x4])).push (.cells 32 [.whole 2])).push (.row 3 (Rd.int .i64) x772)).push (.cells 32 [.whole 4])).push (.row 3 (Rd.int .i64) x773))) [0, 1, 2, 3, 4] hnp ⟨rfl, ⟨⟨⟨⟨⟨trivial, .inr ⟨rfl, rfl, rfl⟩⟩, .inr ⟨rfl, rfl, rfl⟩⟩, .inr ⟨rfl, rfl, rfl⟩⟩, .inr ⟨rfl, rfl, rfl⟩⟩, .inr ⟨rfl, rfl, rfl⟩⟩, by decide, rfl, trivial⟩ (LeE.upd rfl rfl (LeE.upd rfl rfl (LeE.upd rfl rfl (LeE.upd rfl rfl (LeE.upd rfl rfl (LeE.upd rfl rfl (LeE.upd rfl rfl (LeE.upd rfl rfl (LeE.upd rfl rfl (LeE.none rfl rfl))))))))))) rfl ?_
              refine W.now ?_
              have q0 := (Option.some.inj H)
              subst q0
              exact ⟨rfl, rfl, rfl⟩
            · replace H := cnf hb955 H
              refine WPL.skipg (b' := false) rfl rfl (lb hb955) rfl rfl ?_
              refine WPL.skipg (b' := false) rfl rfl (lb hb955) rfl rfl ?_
              refine WPL.q (q_pickF (v := .lit (.bool _)) (lb hb955) rfl) rfl ?_
              refine WPL.q (q_as (v := .lit (.bool _)) rfl) rfl ?_
              refine WPL.nilW ?_
              refine W.cv (Cv.weak (E' := (((((((((Env.none.upd 1 (.ptr 0 0)).upd 4 (.ptr 1 0)).upd 5 (.ptr 3 0)).upd 6 (.fn 25 [.ptr 1 0, .ptr 3 0])).upd 7 (.fn 26 [.ptr 0 0])).upd 8 (.lit (.int .i64 x771))).upd 9 (.lit (.int .i64 x868))).upd 10 (.lit (.int .i64 x910))).upd 40 (.lit (.bool false)))) (M' := (((((Mem.nil.push (.cells 32 [.ro (Rd.slice (Rd.int .i64)) false x4])).push (.cells 32 [.whole 2])).push (.row 3 (Rd.int .i64) x772)).push (.cells 32 [.whole 4])).push (.row 3 (Rd.int .i64) x773))) [0, 1, 2, 3, 4] hnp ⟨rfl, ⟨⟨⟨⟨⟨trivial, .inr ⟨rfl, rfl, rfl⟩⟩, .inr ⟨rfl, rfl, rfl⟩⟩, .inr ⟨rfl, rfl, rfl⟩⟩, .inr ⟨rfl, rfl, rfl⟩⟩, .inr ⟨rfl, rfl, rfl⟩⟩, by decide, rfl, trivial⟩ (LeE.upd rfl rfl (LeE.upd rfl rfl (LeE.upd rfl rfl (LeE.upd rfl rfl (LeE.upd rfl rfl (LeE.upd rfl rfl (LeE.upd rfl rfl (LeE.upd rfl rfl (LeE.upd rfl rfl (LeE.none rfl rfl))))))))))) rfl ?_
              refine W.now ?_
              have q0 := (Option.some.inj H)
              subst q0
              exact ⟨rfl, rfl, rfl⟩
          · rintro _ _ _ ⟨rfl, rfl, rfl⟩
            refine W.now ?_
            refine Then.n ?_
            refine WP.cond (t := x955) rfl (fun hb => ?_) (fun hb => ?_)
            · replace H := cnt hb H
              refine WP.seq ?_
              refine WP.region ?_
              refine WPL.q (q_mv (v := .lit (.int _ _)) rfl) rfl ?_
              obtain ⟨x958, h958, H⟩ := bnd H
              refine WPL.q (q_nm (q_min rfl rfl) (nm_int h958)) rfl ?_
              refine WPL.q (q_as (v := .lit (.int _ _)) rfl) rfl ?_
              refine WPL.nilW ?_
              refine W.now ?_
              refine Then.n ?_
              refine WP.region ?_
              refine WPL.q (q_mv (v := .fn _ _) rfl) rfl ?_
              refine WPL.q (q_mv (v := .lit (.int _ _)) rfl) rfl ?_
              refine WPL.q (q_sub rfl rfl) rfl ?_
              obtain ⟨_, h958, H⟩ := bnd H
              refine WPL.c (runs_call (s := [1, 3, 2, 4]) (t := [1, 3, 5, 6]) (N := 7) (bor := []) fn25 rfl (s_deflate_Lengths_1__b k 18 (IntKind.wrap .i64 (x958 - 11)) x772 x773 h958) ⟨rfl, ⟨⟨⟨⟨trivial, .inr ⟨rfl, rfl, rfl⟩⟩, .inr ⟨rfl, rfl, rfl⟩⟩, .inr ⟨rfl, rfl, rfl⟩⟩, .inr ⟨rfl, rfl, rfl⟩⟩, by decide, rfl, trivial⟩ rfl trivial (.ren rfl rfl (.ren rfl rfl (.ren rfl rfl (.ren rfl rfl .nil)))) rfl ⟨⟨⟨⟨trivial, rfl⟩, rfl⟩, rfl⟩, rfl⟩ rfl) rfl ?_
              refine WPL.nilW ?_
              refine W.cv (Cv.weak (E' := (((((((Env.none.upd 1 (.ptr 0 0)).upd 4 (.ptr 1 0)).upd 5 (.ptr 3 0)).upd 6 (.fn 25 [.ptr 1 0, .ptr 3 0])).upd 7 (.fn 26 [.ptr 0 0])).upd 8 (.lit (.int .i64 x771))).upd 10 (.lit (.int .i64 x958)))) (M' := (((((Mem.nil.push (.cells 32 [.ro (Rd.slice (Rd.int .i64)) false x4])).push (.cells 32 [.whole 2])).push (.row 3 (Rd.int .i64) (x772 ++ ([18] : List Int)))).push (.cells 32 [.whole 4])).push (.row 3 (Rd.int .i64) (x773 ++ ([(IntKind.wrap .i64 (x958 - 11))] : List Int))))) [0, 1, 5, 3, 6] hnp ⟨rfl, ⟨⟨⟨⟨⟨trivial, .inr ⟨rfl, rfl, rfl⟩⟩, .inr ⟨rfl, rfl, rfl⟩⟩, .inr ⟨rfl, rfl, rfl⟩⟩, .inr ⟨rfl, rfl, rfl⟩⟩, .inr ⟨rfl, rfl, rfl⟩⟩, by decide, rfl, trivial⟩ (LeE.upd rfl rfl (LeE.upd rfl rfl (LeE.upd rfl rfl (LeE.upd rfl rfl (LeE.upd rfl rfl (LeE.upd rfl rfl (LeE.upd rfl rfl (LeE.none rfl rfl))))))))) rfl ?_
              refine W.now ?_
              refine InBlock.n ?_
              have q0 := (Prod.mk.inj (Option.some.inj H)).1
              have q1 := (Prod.mk.inj (Prod.mk.inj (Option.some.inj H)).2).1
              have q2 := (Prod.mk.inj (Prod.mk.inj (Option.some.inj H)).2).2
              subst q0
              subst q1
              subst q2
              exact ⟨rfl, rfl, rfl⟩
            · replace H := cnf hb H
              refine WP.seq ?_
              obtain ⟨x961, H962, H⟩ := bnd H
              refine WP.monoW (Q := fun x E M => x = .normal ∧ E = (((((((((Env.none.upd 1 (.ptr 0 0)).upd 4 (.ptr 1 0)).upd 5 (.ptr 3 0)).upd 6 (.fn 25 [.ptr 1 0, .ptr 3 0])).upd 7 (.fn 26 [.ptr 0 0])).upd 8 (.lit (.int .i64 x771))).upd 9 (.lit (.int .i64 x868))).upd 10 (.lit (.int .i64 x910))).upd 53 (.lit (.bool x961))) ∧ M = (((((Mem.nil.push (.cells 32 [.ro (Rd.slice (Rd.int .i64)) false x4])).push (.cells 32 [.whole 2])).push (.row 3 (Rd.int .i64) x772)).push (.cells 32 [.whole 4])).push (.row 3 (Rd.int .i64) x773))) ?_ ?_
              · clear H
                have H := H962
                clear H962
                refine WP.region ?_
                refine WPL.q (q_mv (v := .lit (.int _ _)) rfl) rfl ?_
                refine WPL.q (q_eql rfl rfl) rfl ?_
                refine WPL.q (q_mv (v := .lit (.bool _)) rfl) rfl ?_
                refine WPL.split (t := 56) (b := (decide (x868 = 0))) rfl (fun hb961 => ?_) (fun hb961 => ?_)
                · replace H := cnt hb961 H
                  refine WPL.qg rfl rfl (lb hb961) (q_mv (v := .lit (.int _ _)) rfl) rfl ?_
                  refine WPL.qg rfl rfl (lb hb961) (q_geq rfl rfl) rfl ?_
                  refine WPL.q (q_pickT (v := .lit (.bool _)) (lb hb961) rfl) rfl ?_
                  refine WPL.q (q_as (v := .lit (.bool _)) rfl) rfl ?_
                  refine WPL.nilW ?_
                  refine W.cv (Cv.weak (E' := (((((((((Env.none.upd 1 (.ptr 0 0)).upd 4 (.ptr 1 0)).upd 5 (.ptr 3 0)).upd 6 (.fn 25 [.ptr 1 0, .ptr 3 0])).upd 7 (.fn 26 [.ptr 0 0])).upd 8 (.lit (.int .i64 x771))).upd 9 (.lit (.int .i64 x868))).upd 10 (.lit (.int .i64 x910))).upd 53 (.lit (.bool (decide (3 ≤ x910)))))) (M' := (((((Mem.nil.push (.cells 32 [.ro (Rd.slice (Rd.int .i64)) false x4])).push (.cells 32 [.whole 2])).push (.row 3 (Rd.int .i64) x772)).push (.cells 32 [.whole 4])).push (.row 3 (Rd.int .i64) x773))) [0, 1, 2, 3, 4] hnp ⟨rfl, ⟨⟨⟨⟨⟨trivial, .inr ⟨rfl, rfl, rfl⟩⟩, .inr ⟨rfl, rfl, rfl⟩⟩, .inr ⟨rfl, rfl, rfl⟩⟩, .inr ⟨rfl, rfl, rfl⟩⟩, .inr ⟨rfl, rfl, rfl⟩⟩, by decide, rfl, trivial⟩ (LeE.upd rfl rfl (LeE.upd rfl rfl (LeE.upd rfl rfl (LeE.upd rfl rfl (LeE.upd rfl rfl (LeE.upd rfl rfl (LeE.upd rfl rfl (LeE.upd rfl rfl (LeE.upd rfl rfl (LeE.none rfl rfl))))))))))) rfl ?_
                  refine W.now ?_
                  have q0 := (Option.some.inj H)
                  subst q0
                  exact ⟨rfl, rfl, rfl⟩
                · replace H := cnf hb961 H
                  refine WPL.skipg (b' := false) rfl rfl (lb hb961) rfl rfl ?_
                  refine WPL.skipg (b' := false) rfl rfl (lb hb961) rfl rfl ?_
                  refine WPL.q (q_pickF (v := .lit (.bool _)) (lb hb961) rfl) rfl ?_
                  refine WPL.q (q_as (v := .lit (.bool _)) rfl) rfl ?_
                  refine WPL.nilW ?_
                  refine W.cv (Cv.weak (E' := (((((((((Env.none.upd 1 (.ptr 0 0)).upd 4 (.ptr 1 0)).upd 5 (.ptr 3 0)).upd 6 (.fn 25 [.ptr 1 0, .ptr 3 0])).upd 7 (.fn 26 [.ptr 0 0])).upd 8 (.lit (.int .i64 x771))).upd 9 (.lit (.int .i64 x868))).upd 10 (.lit (.int .i64 x910))).upd 53 (.lit (.bool false)))) (M' := (((((Mem.nil.push (.cells 32 [.ro (Rd.slice (Rd.int .i64)) false x4])).push (.cells 32 [.whole 2])).push (.row 3 (Rd.int .i64) x772)).push (.cells 32 [.whole 4])).push (.row 3 (Rd.int .i64) x773))) [0, 1, 2, 3, 4] hnp ⟨rfl, ⟨⟨⟨⟨⟨trivial, .inr ⟨rfl, rfl, rfl⟩⟩, .inr ⟨rfl, rfl, rfl⟩⟩, .inr ⟨rfl, rfl, rfl⟩⟩, .inr ⟨rfl, rfl, rfl⟩⟩, .inr ⟨rfl, rfl, rfl⟩⟩, by decide, rfl, trivial⟩ (LeE.upd rfl rfl (LeE.upd rfl rfl (LeE.upd rfl rfl (LeE.upd rfl rfl (LeE.upd rfl rfl (LeE.upd rfl rfl (LeE.upd rfl rfl (LeE.upd rfl rfl (LeE.upd rfl rfl (LeE.none rfl rfl))))))))))) rfl ?_
                  refine W.now ?_
                  have q0 := (Option.some.inj H)
                  subst q0
                  exact ⟨rfl, rfl, rfl⟩
              · rintro _ _ _ ⟨rfl, rfl, rfl⟩
                refine W.now ?_
                refine Then.n ?_
                refine WP.cond (t := x961) rfl (fun hb => ?_) (fun hb => ?_)
                · replace H := cnt hb H
                  refine WP.region ?_
                  refine WPL.q (q_mv (v := .fn _ _) rfl) rfl ?_
                  refine WPL.q (q_mv (v := .lit (.int _ _)) rfl) rfl ?_
                  refine WPL.q (q_sub rfl rfl) rfl ?_
                  obtain ⟨_, h963, H⟩ := bnd H
                  refine WPL.c (runs_call (s := [1, 3, 2, 4]) (t := [1, 3, 5, 6]) (N := 7) (bor := []) fn25 rfl (s_deflate_Lengths_1__b k 17 (IntKind.wrap .i64 (x910 - 3)) x772 x773 h963) ⟨rfl, ⟨⟨⟨⟨trivial, .inr ⟨rfl, rfl, rfl⟩⟩, .inr ⟨rfl, rfl, rfl⟩⟩, .inr ⟨rfl, rfl, rfl⟩⟩, .inr ⟨rfl, rfl, rfl⟩⟩, by decide, rfl, trivial⟩ rfl trivial (.ren rfl rfl (.ren rfl rfl (.ren rfl rfl (.ren rfl rfl .nil)))) rfl ⟨⟨⟨⟨trivial, rfl⟩, rfl⟩, rfl⟩, rfl⟩ rfl) rfl ?_
                  refine WPL.nilW ?_
                  refine W.cv (Cv.weak (E' := (((((((Env.none.upd 1 (.ptr 0 0)).upd 4 (.ptr 1 0)).upd 5 (.ptr 3 0)).upd 6 (.fn 25 [.ptr 1 0, .ptr 3 0])).upd 7 (.fn 26 [.ptr 0 0])).upd 8 (.lit (.int .i64 x771))).upd 10 (.lit (.int .i64 x910)))) (M' := (((((Mem.nil.push (.cells 32 [.ro (Rd.slice (Rd.int .i64)) false x4])).push (.cells 32 [.whole 2])).push (.row 3 (Rd.int .i64) (x772 ++ ([17] : List Int)))).push (.cells 32 [.whole 4])).push (.row 3 (Rd.int .i64) (x773 ++ ([(IntKind.wrap .i64 (x910 - 3))] : List Int))))) [0, 1, 5, 3, 6] hnp ⟨rfl, ⟨⟨⟨⟨⟨trivial, .inr ⟨rfl, rfl, rfl⟩⟩, .inr ⟨rfl, rfl, rfl⟩⟩, .inr ⟨rfl, rfl, rfl⟩⟩, .inr ⟨rfl, rfl, rfl⟩⟩, .inr ⟨rfl, rfl, rfl⟩⟩, by decide, rfl, trivial⟩ (LeE.upd rfl rfl (LeE.upd rfl rfl (LeE.upd rfl rfl (LeE.upd rfl rfl (LeE.upd rfl rfl (LeE.upd rfl rfl (LeE.upd rfl rfl (LeE.none rfl rfl))))))))) rfl ?_
                  refine W.now ?_
                  refine InBlock.n ?_
                  have q0 := (Prod.mk.inj (Option.some.inj H)).1
                  have q1 := (Prod.mk.inj (Prod.mk.inj (Option.some.inj H)).2).1
                  have q2 := (Prod.mk.inj (Prod.mk.inj (Option.some.inj H)).2).2
                  subst q0
                  subst q1
                  subst q2
                  exact ⟨rfl, rfl, rfl⟩
                · replace H := cnf hb H
                  refine WP.seq ?_
                  obtain ⟨x966, H967, H⟩ := bnd H
                  refine WP.monoW (Q := fun x E M => x = .normal ∧ E = (((((((((Env.none.upd 1 (.ptr 0 0)).upd 4 (.ptr 1 0)).upd 5 (.ptr 3 0)).upd 6 (.fn 25 [.ptr 1 0, .ptr 3 0])).upd 7 (.fn 26 [.ptr 0 0])).upd 8 (.lit (.int .i64 x771))).upd 9 (.lit (.int .i64 x868))).upd 10 (.lit (.int .i64 x910))).upd 64 (.lit (.bool x966))) ∧ M = (((((Mem.nil.push (.cells 32 [.ro (Rd.slice (Rd.int .i64)) false x4])).push (.cells 32 [.whole 2])).push (.row 3 (Rd.int .i64) x772)).push (.cells 32 [.whole 4])).push (.row 3 (Rd.int .i64) x773))) ?_ ?_
                  · clear H
                    have H := H967
                    clear H967
                    refine WP.region ?_
                    refine WPL.q (q_mv (v := .lit (.int _ _)) rfl) rfl ?_
                    refine WPL.q (q_neq rfl rfl) rfl ?_
                    refine WPL.q (q_mv (v := .lit (.bool _)) rfl) rfl ?_
                    refine WPL.split (t := 67) (b := (!decide (x868 = 0))) rfl (fun hb966 => ?_) (fun hb966 => ?_)
                    · replace H := cnt hb966 H
                      refine WPL.qg rfl rfl (lb hb966) (q_mv (v := .lit (.int _ _)) rfl) rfl ?_
                      refine WPL.qg rfl rfl (lb hb966) (q_geq rfl rfl) rfl ?_
                      refine WPL.q (q_pickT (v := .lit (.bool _)) (lb hb966) rfl) rfl ?_
                      refine WPL.q (q_as (v := .lit (.bool _)) rfl) rfl ?_
                      refine WPL.nilW ?_
                      refine W.cv (Cv.weak (E' := (((((((((Env.none.upd 1 (.ptr 0 0)).upd 4 (.ptr 1 0)).upd 5 (.ptr 3 0)).upd 6 (.fn 25 [.ptr 1 0, .ptr 3 0])).upd 7 (.fn 26 [.ptr 0 0])).upd 8 (.lit (.int .i64 x771))).upd 9 (.lit (.int .i64 x868))).upd 10 (.lit (.int .i64 x910))).upd 64 (.lit (.bool (decide (4 ≤ x910)))))) (M' := (((((Mem.nil.push (.cells 32 [.ro (Rd.slice (Rd.int .i64)) false x4])).push (.cells 32 [.whole 2])).push (.row 3 (Rd.int .i64) x772)).push (.cells 32 [.whole 4])).push (.row 3 (Rd.int .i64) x773))) [0, 1, 2, 3, 4] hnp ⟨rfl, ⟨⟨⟨⟨⟨trivial, .inr ⟨rfl, rfl, rfl⟩⟩, .inr ⟨rfl, rfl, rfl⟩⟩, .inr ⟨rfl, rfl, rfl⟩⟩, .inr ⟨rfl, rfl, rfl⟩⟩, .inr ⟨rfl, rfl, rfl⟩⟩, by decide, rfl, trivial⟩ (LeE.upd rfl rfl (LeE.upd rfl rfl (LeE.upd rfl rfl (LeE.upd rfl rfl (LeE.upd rfl rfl (LeE.upd rfl rfl (LeE.upd rfl rfl (LeE.upd rfl rfl (LeE.upd rfl rfl (LeE.none rfl rfl))))))))))) rfl ?_
                      refine W.now ?_
                      have q0 := (Option.some.inj H)
                      subst q0
                      exact ⟨rfl, rfl, rfl⟩
                    · replace H := cnf hb966 H
                      refine WPL.skipg (b' := false) rfl rfl (lb hb966) rfl rfl ?_
                      refine WPL.skipg (b' := false) rfl rfl (lb hb966) rfl rfl ?_
                      refine WPL.q (q_pickF (v := .lit (.bool _)) (lb hb966) rfl) rfl ?_
                      refine WPL.q (q_as (v := .lit (.bool _)) rfl) rfl ?_
                      refine WPL.nilW ?_
                      refine W.cv (Cv.weak (E' := (((((((((Env.none.upd 1 (.ptr 0 0)).upd 4 (.ptr 1 0)).upd 5 (.ptr 3 0)).upd 6 (.fn 25 [.ptr 1 0, .ptr 3 0])).upd 7 (.fn 26 [.ptr 0 0])).upd 8 (.lit (.int .i64 x771))).upd 9 (.lit (.int .i64 x868))).upd 10 (.lit (.int .i64 x910))).upd 64 (.lit (.bool false)))) (M' := (((((Mem.nil.push (.cells 32 [.ro (Rd.slice (Rd.int .i64)) false x4])).push (.cells 32 [.whole 2])).push (.row 3 (Rd.int .i64) x772)).push (.cells 32 [.whole 4])).push (.row 3 (Rd.int .i64) x773))) [0, 1, 2, 3, 4] hnp ⟨rfl, ⟨⟨⟨⟨⟨trivial, .inr ⟨rfl, rfl, rfl⟩⟩, .inr ⟨rfl, rfl, rfl⟩⟩, .inr ⟨rfl, rfl, rfl⟩⟩, .inr ⟨rfl, rfl, rfl⟩⟩, .inr ⟨rfl, rfl, rfl⟩⟩, by decide, rfl, trivial⟩ (LeE.upd rfl rfl (LeE.upd rfl rfl (LeE.upd rfl rfl (LeE.upd rfl rfl (LeE.upd rfl rfl (LeE.upd rfl rfl (LeE.upd rfl rfl (LeE.upd rfl rfl (LeE.upd rfl rfl (LeE.none rfl rfl))))))))))) rfl ?_
                      refine W.now ?_
                      have q0 := (Option.some.inj H)
                      subst q0
                      exact ⟨rfl, rfl, rfl⟩
                  · rintro _ _ _ ⟨rfl, rfl, rfl⟩
                    refine W.now ?_
                    refine Then.n ?_
                    refine WP.cond (t := x966) rfl (fun hb => ?_) (fun hb => ?_)
                    · replace H := cnt hb H
                      refine WP.seq ?_
                      refine WP.region ?_
                      refine WPL.q (q_mv (v := .lit (.int _ _)) rfl) rfl ?_
                      obtain ⟨x969, h969, H⟩ := bnd H
                      refine WPL.q (q_nm (q_min rfl rfl) (nm_int h969)) rfl ?_
                      refine WPL.q (q_as (v := .lit (.int _ _)) rfl) rfl ?_
                      refine WPL.nilW ?_
                      refine W.now ?_
                      refine Then.n ?_
                      refine WP.seq ?_
                      refine WP.region ?_
                      refine WPL.q (q_mv (v := .fn _ _) rfl) rfl ?_
                      refine WPL.q (q_mv (v := .lit (.int _ _)) rfl) rfl ?_
                      obtain ⟨_, h969, H⟩ := bnd H
                      refine WPL.c (runs_call (s := [1, 3, 2, 4]) (t := [1, 3, 5, 6]) (N := 7) (bor := []) fn25 rfl (s_deflate_Lengths_1__b k x868 0 x772 x773 h969) ⟨rfl, ⟨⟨⟨⟨trivial, .inr ⟨rfl, rfl, rfl⟩⟩, .inr ⟨rfl, rfl, rfl⟩⟩, .inr ⟨rfl, rfl, rfl⟩⟩, .inr ⟨rfl, rfl, rfl⟩⟩, by decide, rfl, trivial⟩ rfl trivial (.ren rfl rfl (.ren rfl rfl (.ren rfl rfl (.ren rfl rfl .nil)))) rfl ⟨⟨⟨⟨trivial, rfl⟩, rfl⟩, rfl⟩, rfl⟩ rfl) rfl ?_
                      refine WPL.nilW ?_
                      refine W.now ?_
                      refine Then.n ?_
                      refine WP.region ?_
                      refine WPL.q (q_mv (v := .fn _ _) rfl) rfl ?_
                      refine WPL.q (q_mv (v := .lit (.int _ _)) rfl) rfl ?_
                      refine WPL.q (q_sub rfl rfl) rfl ?_
                      obtain ⟨_, h970, H⟩ := bnd H
                      refine WPL.c (runs_call (s := [1, 3, 5, 6]) (t := [1, 3, 7, 8]) (N := 9) (bor := []) fn25 rfl (s_deflate_Lengths_1__b k 16 (IntKind.wrap .i64 (x969 - 4)) (x772 ++ ([x868] : List Int)) (x773 ++ ([0] : List Int)) h970) ⟨rfl, ⟨⟨⟨⟨trivial, .inr ⟨rfl, rfl, rfl⟩⟩, .inr ⟨rfl, rfl, rfl⟩⟩, .inr ⟨rfl, rfl, rfl⟩⟩, .inr ⟨rfl, rfl, rfl⟩⟩, by decide, rfl, trivial⟩ rfl trivial (.ren rfl rfl (.ren rfl rfl (.ren rfl rfl (.ren rfl rfl .nil)))) rfl ⟨⟨⟨⟨trivial, rfl⟩, rfl⟩, rfl⟩, rfl⟩ rfl) rfl ?_
                      refine WPL.nilW ?_
                      refine W.cv (Cv.weak (E' := (((((((Env.none.upd 1 (.ptr 0 0)).upd 4 (.ptr 1 0)).upd 5 (.ptr 3 0)).upd 6 (.fn 25 [.ptr 1 0, .ptr 3 0])).upd 7 (.fn 26 [.ptr 0 0])).upd 8 (.lit (.int .i64 x771))).upd 10 (.lit (.int .i64 x969)))) (M' := (((((Mem.nil.push (.cells 32 [.ro (Rd.slice (Rd.int .i64)) false x4])).push (.cells 32 [.whole 2])).push (.row 3 (Rd.int .i64) ((x772 ++ ([x868] : List Int)) ++ ([16] : List Int)))).push (.cells 32 [.whole 4])).push (.row 3 (Rd.int .i64) ((x773 ++ ([0] : List Int)) ++ ([(IntKind.wrap .i64 (x969 - 4))] : List Int))))) [0, 1, 7, 3, 8] hnp ⟨rfl, ⟨⟨⟨⟨⟨trivial, .inr ⟨rfl, rfl, rfl⟩⟩, .inr ⟨rfl, rfl, rfl⟩⟩, .inr ⟨rfl, rfl, rfl⟩⟩, .inr ⟨rfl, rfl, rfl⟩⟩, .inr ⟨rfl, rfl, rfl⟩⟩, by decide, rfl, trivial⟩ (LeE.upd rfl rfl (LeE.upd rfl rfl (LeE.upd rfl rfl (LeE.upd rfl rfl (LeE.upd rfl rfl (LeE.upd rfl rfl (LeE.upd rfl rfl (LeE.none rfl rfl))))))))) rfl ?_
                      refine W.now ?_
                      refine InBlock.n ?_
                      have q0 := (Prod.mk.inj (Option.some.inj H)).1
                      have q1 := (Prod.mk.inj (Prod.mk.inj (Option.some.inj H)).2).1
                      have q2 := (Prod.mk.inj (Prod.mk.inj (Option.some.inj H)).2).2
                      subst q0
                      subst q1
                      subst q2
                      exact ⟨rfl, rfl, rfl⟩
                    · replace H := cnf hb H
                      refine WP.seq ?_
                      refine WP.region ?_
                      refine WPL.q (q_as (v := .lit (.int _ _)) rfl) rfl ?_
                      refine WPL.nilW ?_
                      refine W.now ?_
                      refine Then.n ?_
                      refine WP.region ?_
                      refine WPL.q (q_mv (v := .fn _ _) rfl) rfl ?_
                      refine WPL.q (q_mv (v := .lit (.int _ _)) rfl) rfl ?_
                      obtain ⟨_, h971, H⟩ := bnd H
                      refine WPL.c (runs_call (s := [1, 3, 2, 4]) (t := [1, 3, 5, 6]) (N := 7) (bor := []) fn25 rfl (s_deflate_Lengths_1__b k x868 0 x772 x773 h971) ⟨rfl, ⟨⟨⟨⟨trivial, .inr ⟨rfl, rfl, rfl⟩⟩, .inr ⟨rfl, rfl, rfl⟩⟩, .inr ⟨rfl, rfl, rfl⟩⟩, .inr ⟨rfl, rfl, rfl⟩⟩, by decide, rfl, trivial⟩ rfl trivial (.ren rfl rfl (.ren rfl rfl (.ren rfl rfl (.ren rfl rfl .nil)))) rfl ⟨⟨⟨⟨trivial, rfl⟩, rfl⟩, rfl⟩, rfl⟩ rfl) rfl ?_
                      refine WPL.nilW ?_
                      refine W.cv (Cv.weak (E' := (((((((Env.none.upd 1 (.ptr 0 0)).upd 4 (.ptr 1 0)).upd 5 (.ptr 3 0)).upd 6 (.fn 25 [.ptr 1 0, .ptr 3 0])).upd 7 (.fn 26 [.ptr 0 0])).upd 8 (.lit (.int .i64 x771))).upd 10 (.lit (.int .i64 1)))) (M' := (((((Mem.nil.push (.cells 32 [.ro (Rd.slice (Rd.int .i64)) false x4])).push (.cells 32 [.whole 2])).push (.row 3 (Rd.int .i64) (x772 ++ ([x868] : List Int)))).push (.cells 32 [.whole 4])).push (.row 3 (Rd.int .i64) (x773 ++ ([0] : List Int))))) [0, 1, 5, 3, 6] hnp ⟨rfl, ⟨⟨⟨⟨⟨trivial, .inr ⟨rfl, rfl, rfl⟩⟩, .inr ⟨rfl, rfl, rfl⟩⟩, .inr ⟨rfl, rfl, rfl⟩⟩, .inr ⟨rfl, rfl, rfl⟩⟩, .inr ⟨rfl, rfl, rfl⟩⟩, by decide, rfl, trivial⟩ (LeE.upd rfl rfl (LeE.upd rfl rfl (LeE.upd rfl rfl (LeE.upd rfl rfl (LeE.upd rfl rfl (LeE.upd rfl rfl (LeE.upd rfl rfl (LeE.none rfl rfl))))))))) rfl ?_
                      refine W.now ?_
                      refine InBlock.n ?_
                      have q0 := (Prod.mk.inj (Option.some.inj H)).1
                      have q1 := (Prod.mk.inj (Prod.mk.inj (Option.some.inj H)).2).1
                      have q2 := (Prod.mk.inj (Prod.mk.inj (Option.some.inj H)).2).2
                      subst q0
                      subst q1
                      subst q2
                      exact ⟨rfl, rfl, rfl⟩
        · rintro _ _ _ ⟨rfl, rfl, rfl⟩
          refine W.now ?_
          refine Then.n ?_
          refine WP.region ?_
          refine WPL.q (q_mv (v := .lit (.int _ _)) rfl) rfl ?_
          refine WPL.q (q_mv (v := .lit (.int _ _)) rfl) rfl ?_
          refine WPL.q (q_add rfl rfl) rfl ?_
          refine WPL.q (q_as (v := .lit (.int _ _)) rfl) rfl ?_
          refine WPL.nilW ?_
          refine W.cv (Cv.weak (E' := ((((((Env.none.upd 1 (.ptr 0 0)).upd 4 (.ptr 1 0)).upd 5 (.ptr 3 0)).upd 6 (.fn 25 [.ptr 1 0, .ptr 3 0])).upd 7 (.fn 26 [.ptr 0 0])).upd 8 (.lit (.int .i64 (IntKind.wrap .i64 (x771 + x951)))))) (M' := (((((Mem.nil.push (.cells 32 [.ro (Rd.slice (Rd.int .i64)) false x4])).push (.cells 32 [.whole 2])).push (.row 3 (Rd.int .i64) x952)).push (.cells 32 [.whole 4])).push (.row 3 (Rd.int .i64) x953))) [0, 1, 2, 3, 4] hnp ⟨rfl, ⟨⟨⟨⟨⟨trivial, .inr ⟨rfl, rfl, rfl⟩⟩, .inr ⟨rfl, rfl, rfl⟩⟩, .inr ⟨rfl, rfl, rfl⟩⟩, .inr ⟨rfl, rfl, rfl⟩⟩, .inr ⟨rfl, rfl, rfl⟩⟩, by decide, rfl, trivial⟩ (LeE.upd rfl rfl (LeE.upd rfl rfl (LeE.upd rfl rfl (LeE.upd rfl rfl (LeE.upd rfl rfl (LeE.upd rfl rfl (LeE.none rfl rfl)))))))) rfl ?_
          refine W.now ?_
          refine InBlock.n ?_
          exact Then.n ⟨n, ((IntKind.wrap .i64 (x771 + x951)), x952, x953), Nat.lt_succ_self n, H, rfl, rfl⟩
    · replace H := cnf hb H
      refine WP.exitW ?_
      refine W.cv (Cv.weak (E' := ((Env.none.upd 4 (.ptr 0 0)).upd 5 (.ptr 2 0))) (M' := ((((Mem.nil.push (.cells 32 [.whole 1])).push (.row 3 (Rd.int .i64) x772)).push (.cells 32 [.whole 3])).push (.row 3 (Rd.int .i64) x773))) [1, 2, 3, 4] hnp ⟨rfl, ⟨⟨⟨⟨trivial, .inr ⟨rfl, rfl, rfl⟩⟩, .inr ⟨rfl, rfl, rfl⟩⟩, .inr ⟨rfl, rfl, rfl⟩⟩, .inr ⟨rfl, rfl, rfl⟩⟩, by decide, rfl, trivial⟩ (LeE.upd rfl rfl (LeE.upd rfl rfl (LeE.none rfl rfl)))) rfl ?_
      refine W.now ?_
      refine Then.x ?_
      refine Then.x ?_
      have q0 := (Prod.mk.inj (Option.some.inj H)).1
      have q1 := (Prod.mk.inj (Option.some.inj H)).2
      subst q0
      subst q1
      exact ⟨rfl, rfl, rfl⟩
  · rintro _ _ _ ⟨rfl, rfl, rfl⟩
    refine W.now ?_
    refine InBlock.x0 ?_
    refine Then.n ?_
    refine WP.seq ?_
    refine WP.regionD' 4 [0, 2] [] mixed rfl ?_
    refine WPD.take 0 rfl (by kernel_rfl) (q_load sc32 rfl rfl rfl) rfl rfl ?_
    refine WPD.takeT 2 rfl (by kernel_rfl) (q_as (v := .whole _) rfl) rfl ?_
    refine WPD.take 1 rfl (by kernel_rfl) (q_load sc32 rfl rfl rfl) rfl rfl ?_
    refine WPD.takeT 3 rfl (by kernel_rfl) (q_as (v := .whole _) rfl) rfl ?_
    refine WPD.doneW (by kernel_rfl) ?_
    refine W.now ?_
    refine Then.n ?_
    refine WP.retW ?_
    refine W.cv (Cv.frzRow (i := 1) rfl rfl hnp rfl rfl) rfl ?_
    refine W.cv (Cv.frzRow (i := 3) rfl rfl hnp rfl rfl) rfl ?_
    refine W.now ?_
    have q0 := (Prod.mk.inj (Option.some.inj H)).1
    have q1 := (Prod.mk.inj (Option.some.inj H)).2
    subst q0
    subst q1
    exact ⟨trivial, _, rfl, [], (.tup [.ro (Rd.slice (Rd.int .i64)) false x863, .ro (Rd.slice (Rd.int .i64)) false x864]), Mem.nil, ⟨rfl, trivial, by decide, rfl, trivial⟩, rfl, rfl, rfl, rfl⟩
end Go.Proofs.Ytbknkbenbccabaa.W
