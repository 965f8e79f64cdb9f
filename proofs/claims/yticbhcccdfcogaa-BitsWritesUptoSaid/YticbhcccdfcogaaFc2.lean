/- Walks: Fc2 -/
import Derived.Test.YticbhcccdfcogaaFb
import Derived.Test.YticbhcccdfcogaaFc1
namespace Go.Proofs.Yticbhcccdfcogaa.W
open Go Go.Q Go.Proofs
set_option linter.unusedVariables false
set_option linter.unusedSimpArgs false
set_option maxRecDepth 100000 in
set_option maxHeartbeats 4000000 in
theorem s18 (k : Nat) (x1402 : Int) (x1403 : Int) (x1404 : (List Int)) (x1423 : Int) (x1424 : (List Int)) (H : f18 k x1402 x1403 x1404 = some (x1423, x1424)) : Go.Q.Spec Try.prog 18 1 [.ptr 0 0, .lit (.int .u32 x1402), .lit (.int .i64 x1403)] ((Mem.nil.push (.cells 45 [.whole 1])).push (.row 5 (Rd.int .u8) x1404)) (fun o M => o = .ret (.lit (.int .i64 x1423)) ∧ M = ((Mem.nil.push (.cells 45 [.whole 1])).push (.row 5 (Rd.int .u8) x1424))) := by
  unfold f18 at H
  refine Go.Q.Spec.of_bodyR (rs := [.tmp 6]) (nt := 34) Try.func18 rfl rfl (by intro t T h; simp at h) rfl rfl fun cx hnp => ?_
  refine WP.seq ?_
  refine WP.region ?_
  refine WPL.q (q_as (v := .lit (.int _ _)) rfl) rfl ?_
  refine WPL.nilW ?_
  refine W.now ?_
  refine Then.n ?_
  refine WP.seq ?_
  refine WP.seq ?_
  obtain ⟨x1430, H1431, H⟩ := bnd H
  refine WP.monoW (Q := fun x E M => x = .normal ∧ E = ((((Env.none.upd 0 (.ptr 0 0)).upd 1 (.lit (.int .u32 x1402))).upd 2 (.lit (.int .i64 x1403))).upd 13 (.lit (.bool x1430))) ∧ M = ((Mem.nil.push (.cells 45 [.whole 1])).push (.row 5 (Rd.int .u8) x1404))) ?_ ?_
  · clear H
    have H := H1431
    clear H1431
    refine WP.region ?_
    refine WPL.q (q_mv (v := .lit (.int _ _)) rfl) rfl ?_
    refine WPL.q (q_lss rfl rfl) rfl ?_
    refine WPL.q (q_mv (v := .lit (.bool _)) rfl) rfl ?_
    refine WPL.split (t := 10) (b := (decide (x1403 < 0))) rfl (fun hb1430 => ?_) (fun hb1430 => ?_)
    · replace H := cnt hb1430 H
      refine WPL.skipg (b' := true) rfl rfl (lb hb1430) rfl rfl ?_
      refine WPL.skipg (b' := true) rfl rfl (lb hb1430) rfl rfl ?_
      refine WPL.q (q_pickT (v := .lit (.bool _)) (lb hb1430) rfl) rfl ?_
      refine WPL.nilW ?_
      refine W.cv (Cv.weak (E' := ((((Env.none.upd 0 (.ptr 0 0)).upd 1 (.lit (.int .u32 x1402))).upd 2 (.lit (.int .i64 x1403))).upd 13 (.lit (.bool true)))) (M' := ((Mem.nil.push (.cells 45 [.whole 1])).push (.row 5 (Rd.int .u8) x1404))) [0, 1] hnp ⟨rfl, ⟨⟨trivial, .inr ⟨rfl, rfl, rfl⟩⟩, .inr ⟨rfl, rfl, rfl⟩⟩, by decide, rfl, ⟨trivial, rfl⟩⟩ (LeE.upd rfl rfl (LeE.upd rfl rfl (LeE.upd rfl rfl (LeE.upd rfl rfl (LeE.none rfl rfl)))))) rfl ?_
      refine W.now ?_
      have q0 := (Option.some.inj H)
      subst q0
      exact ⟨rfl, rfl, rfl⟩
    · replace H := cnf hb1430 H
      refine WPL.qg rfl rfl (lb hb1430) (q_mv (v := .lit (.int _ _)) rfl) rfl ?_
      refine WPL.qg rfl rfl (lb hb1430) (q_gtr rfl rfl) rfl ?_
      refine WPL.q (q_pickF (v := .lit (.bool _)) (lb hb1430) rfl) rfl ?_
      refine WPL.nilW ?_
      refine W.cv (Cv.weak (E' := ((((Env.none.upd 0 (.ptr 0 0)).upd 1 (.lit (.int .u32 x1402))).upd 2 (.lit (.int .i64 x1403))).upd 13 (.lit (.bool (decide (32 < x1403)))))) (M' := ((Mem.nil.push (.cells 45 [.whole 1])).push (.row 5 (Rd.int .u8) x1404))) [0, 1] hnp ⟨rfl, ⟨⟨trivial, .inr ⟨rfl, rfl, rfl⟩⟩, .inr ⟨rfl, rfl, rfl⟩⟩, by decide, rfl, ⟨trivial, rfl⟩⟩ (LeE.upd rfl rfl (LeE.upd rfl rfl (LeE.upd rfl rfl (LeE.upd rfl rfl (LeE.none rfl rfl)))))) rfl ?_
      refine W.now ?_
      have q0 := (Option.some.inj H)
      subst q0
      exact ⟨rfl, rfl, rfl⟩
  · rintro _ _ _ ⟨rfl, rfl, rfl⟩
    refine W.now ?_
    refine Then.n ?_
    refine WP.cond (t := x1430) rfl (fun hb => ?_) (fun hb => ?_)
    · replace H := cnt hb H
      refine WP.seq ?_
      refine WP.region ?_
      refine WPL.q (q_as (v := .lit (.int _ _)) rfl) rfl ?_
      refine WPL.nilW ?_
      refine W.now ?_
      refine Then.n ?_
      refine WP.retW ?_
      refine W.now ?_
      refine Then.r ?_
      have q0 := (Prod.mk.inj (Option.some.inj H)).1
      have q1 := (Prod.mk.inj (Option.some.inj H)).2
      subst q0
      subst q1
      exact ⟨trivial, _, rfl, [0, 1], (.lit (.int .i64 1)), ((Mem.nil.push (.cells 45 [.whole 1])).push (.row 5 (Rd.int .u8) x1404)), ⟨rfl, ⟨⟨trivial, .inr ⟨rfl, rfl, rfl⟩⟩, .inr ⟨rfl, rfl, rfl⟩⟩, by decide, rfl, ⟨trivial, rfl⟩⟩, rfl, rfl, rfl, rfl⟩
    · replace H := cnf hb H
      refine WP.skipW ?_
      refine W.now ?_
      refine Then.n ?_
      refine WP.seq ?_
      refine WP.seq ?_
      refine WP.region ?_
      refine WPL.q (q_as (v := .lit (.int _ _)) rfl) rfl ?_
      refine WPL.nilW ?_
      refine W.now ?_
      refine Then.n ?_
      refine WP.block ?_
      refine WP.cv (Cv.weak (E' := ((((Env.none.upd 0 (.ptr 0 0)).upd 1 (.lit (.int .u32 x1402))).upd 2 (.lit (.int .i64 x1403))).upd 7 (.lit (.int .i64 0)))) (M' := ((Mem.nil.push (.cells 45 [.whole 1])).push (.row 5 (Rd.int .u8) x1404))) [0, 1] hnp ⟨rfl, ⟨⟨trivial, .inr ⟨rfl, rfl, rfl⟩⟩, .inr ⟨rfl, rfl, rfl⟩⟩, by decide, rfl, ⟨trivial, rfl⟩⟩ (LeE.upd rfl rfl (LeE.upd rfl rfl (LeE.upd rfl rfl (LeE.upd rfl rfl (LeE.none rfl rfl)))))) ?_
      obtain ⟨x1441, H1444, H⟩ := bnd H
      refine WP.monoW (Q := fun x E M => x = .exit 0 ∧ E = Env.none ∧ M = ((Mem.nil.push (.cells 45 [.whole 1])).push (.row 5 (Rd.int .u8) x1441))) ?_ ?_
      · refine WP.loop (β := Int × (List Int)) (fun n b => f18_l0 k x1402 x1403 n b.1 b.2 = some x1441) (fun b => ((((Env.none.upd 0 (.ptr 0 0)).upd 1 (.lit (.int .u32 x1402))).upd 2 (.lit (.int .i64 x1403))).upd 7 (.lit (.int .i64 b.1)))) (fun b => ((Mem.nil.push (.cells 45 [.whole 1])).push (.row 5 (Rd.int .u8) b.2))) k (0, x1404) H1444 rfl rfl ?_
        rintro n ⟨x1436, x1437⟩ H
        obtain _ | n := n
        · exact nf rfl H
        rw [f18_l0.eq_2] at H
        show WP _ _ _ _ ((((Env.none.upd 0 (.ptr 0 0)).upd 1 (.lit (.int .u32 x1402))).upd 2 (.lit (.int .i64 x1403))).upd 7 (.lit (.int .i64 x1436))) ((Mem.nil.push (.cells 45 [.whole 1])).push (.row 5 (Rd.int .u8) x1437)) _
        refine WP.seq ?_
        refine WP.seq ?_
        refine WP.region ?_
        refine WPL.q (q_mv (v := .lit (.int _ _)) rfl) rfl ?_
        refine WPL.q (q_mv (v := .lit (.int _ _)) rfl) rfl ?_
        refine WPL.q (q_lss rfl rfl) rfl ?_
        refine WPL.nilW ?_
        refine W.now ?_
        refine Then.n ?_
        refine WP.cond (t := (decide (x1436 < x1403))) rfl (fun hb => ?_) (fun hb => ?_)
        · replace H := cnt hb H
          refine WP.skipW ?_
          refine W.now ?_
          refine Then.n ?_
          refine WP.seq ?_
          refine WP.block ?_
          refine WP.region ?_
          refine WPL.q (q_mv (v := .ptr _ _) rfl) rfl ?_
          refine WPL.q (q_mv (v := .ptr _ _) rfl) rfl ?_
          refine WPL.q (q_nilCheck rfl) rfl ?_
          refine WPL.q (q_fieldAddr fi45_0 rfl rfl) rfl ?_
          refine WPL.q (q_load sc23 rfl rfl rfl) rfl ?_
          refine WPL.q (q_mv (v := .lit (.int _ _)) rfl) rfl ?_
          refine WPL.q (q_mv (v := .lit (.int _ _)) rfl) rfl ?_
          refine WPL.q (q_conv Try.underlying3 Try.underlying40 rfl) rfl ?_
          obtain ⟨h1441, H⟩ := grd H
          refine WPL.q (q_shr rfl rfl h1441) rfl ?_
          obtain ⟨x1443, h1443, H⟩ := bnd H
          refine WPL.q (q_nm (q_conv Try.underlying22 Try.underlying5 rfl) (nm_int h1443)) rfl ?_
          refine WPL.q (q_and rfl rfl) rfl ?_
          refine WPL.d (d_buildSlice (ds := ([(bits .and .u8 x1443 1)] : List Int)) (R := (Rd.int .u8)) li23 rfl rfl rfl rfl rfl (JoinRows.cons1 Joins.sc rfl JoinRows.nil) rfl rfl) rfl ?_
          obtain ⟨h1443, H⟩ := grd H
          refine WPL.d (d_append ap23 rfl rfl rfl rfl (src_row sl23 rfl rfl) h1443 rfl) rfl ?_
          refine WPL.q (q_nilCheck rfl) rfl ?_
          refine WPL.q (q_fieldAddr fi45_0 rfl rfl) rfl ?_
          refine WPL.s (s_store sz23 rfl rfl rfl rfl rfl) ?_
          refine WPL.nilW ?_
          refine W.now ?_
          refine InBlock.n ?_
          refine Then.n ?_
          refine WP.region ?_
          refine WPL.q (q_mv (v := .lit (.int _ _)) rfl) rfl ?_
          refine WPL.q (q_add rfl rfl) rfl ?_
          refine WPL.q (q_as (v := .lit (.int _ _)) rfl) rfl ?_
          refine WPL.nilW ?_
          refine W.cv (Cv.weak (E' := ((((Env.none.upd 0 (.ptr 0 0)).upd 1 (.lit (.int .u32 x1402))).upd 2 (.lit (.int .i64 x1403))).upd 7 (.lit (.int .i64 (IntKind.wrap .i64 (x1436 + 1)))))) (M' := ((Mem.nil.push (.cells 45 [.whole 1])).push (.row 5 (Rd.int .u8) (x1437 ++ ([(bits .and .u8 x1443 1)] : List Int))))) [0, 3] hnp ⟨rfl, ⟨⟨trivial, .inr ⟨rfl, rfl, rfl⟩⟩, .inr ⟨rfl, rfl, rfl⟩⟩, by decide, rfl, ⟨trivial, rfl⟩⟩ (LeE.upd rfl rfl (LeE.upd rfl rfl (LeE.upd rfl rfl (LeE.upd rfl rfl (LeE.none rfl rfl)))))) rfl ?_
          refine W.now ?_
          exact Then.n ⟨n, ((IntKind.wrap .i64 (x1436 + 1)), (x1437 ++ ([(bits .and .u8 x1443 1)] : List Int))), Nat.lt_succ_self n, H, rfl, rfl⟩
        · replace H := cnf hb H
          refine WP.exitW ?_
          refine W.cv (Cv.weak (E' := Env.none) (M' := ((Mem.nil.push (.cells 45 [.whole 1])).push (.row 5 (Rd.int .u8) x1437))) [0, 1] hnp ⟨rfl, ⟨⟨trivial, .inr ⟨rfl, rfl, rfl⟩⟩, .inr ⟨rfl, rfl, rfl⟩⟩, by decide, rfl, ⟨trivial, rfl⟩⟩ (LeE.none rfl rfl)) rfl ?_
          refine W.now ?_
          refine Then.x ?_
          refine Then.x ?_
          have q0 := (Option.some.inj H)
          subst q0
          exact ⟨rfl, rfl, rfl⟩
      · rintro _ _ _ ⟨rfl, rfl, rfl⟩
        refine W.now ?_
        refine InBlock.x0 ?_
        refine Then.n ?_
        refine WP.seq ?_
        refine WP.region ?_
        refine WPL.q (q_as (v := .lit (.int _ _)) rfl) rfl ?_
        refine WPL.nilW ?_
        refine W.now ?_
        refine Then.n ?_
        refine WP.retW ?_
        refine W.now ?_
        have q0 := (Prod.mk.inj (Option.some.inj H)).1
        have q1 := (Prod.mk.inj (Option.some.inj H)).2
        subst q0
        subst q1
        exact ⟨trivial, _, rfl, [0, 1], (.lit (.int .i64 0)), ((Mem.nil.push (.cells 45 [.whole 1])).push (.row 5 (Rd.int .u8) x1441)), ⟨rfl, ⟨⟨trivial, .inr ⟨rfl, rfl, rfl⟩⟩, .inr ⟨rfl, rfl, rfl⟩⟩, by decide, rfl, ⟨trivial, rfl⟩⟩, rfl, rfl, rfl, rfl⟩
set_option maxRecDepth 100000 in
set_option maxHeartbeats 4000000 in
theorem s19 (k : Nat) (x1456 : Int) (x1457 : (List Int)) (x1459 : Int) (H : f19 k x1456 x1457 = some x1459) : Go.Q.Spec Try.prog 19 1 [.ptr 0 0] ((Mem.nil.push (.cells 57 [.whole 1, .lit (.int .i64 x1456)])).push (.row 5 (Rd.int .u8) x1457)) (fun o M => o = .ret (.tup []) ∧ M = ((Mem.nil.push (.cells 57 [.whole 1, .lit (.int .i64 x1459)])).push (.row 5 (Rd.int .u8) x1457))) := by
  unfold f19 at H
  refine Go.Q.Spec.of_bodyR (rs := []) (nt := 13) Try.func19 rfl rfl (by intro t T h; simp at h) rfl rfl fun cx hnp => ?_
  refine WP.seq ?_
  refine WP.region ?_
  refine WPL.q (q_mv (v := .ptr _ _) rfl) rfl ?_
  refine WPL.q (q_neqp Try.underlying29 rfl) rfl ?_
  refine WPL.nilW ?_
  refine W.now ?_
  refine Then.n ?_
  refine WP.condT rfl ?_
  refine WP.region ?_
  refine WPL.q (q_mv (v := .ptr _ _) rfl) rfl ?_
  refine WPL.q (q_mv (v := .ptr _ _) rfl) rfl ?_
  refine WPL.q (q_nilCheck rfl) rfl ?_
  refine WPL.q (q_fieldAddr fi57_0 rfl rfl) rfl ?_
  refine WPL.q (q_load sc23 rfl rfl rfl) rfl ?_
  refine WPL.q (q_len_row sl23 rfl rfl) rfl ?_
  obtain ⟨x1460, h1460, H⟩ := bnd H
  refine WPL.q (q_nm (q_mul rfl rfl) (nm_int h1460)) rfl ?_
  refine WPL.q (q_nilCheck rfl) rfl ?_
  refine WPL.q (q_fieldAddr fi57_1 rfl rfl) rfl ?_
  refine WPL.s (s_store sz3 rfl rfl rfl rfl rfl) ?_
  refine WPL.nilW ?_
  refine W.now ?_
  have q0 := (Option.some.inj H)
  subst q0
  exact ⟨trivial, _, rfl, [0, 1], (.tup []), ((Mem.nil.push (.cells 57 [.whole 1, .lit (.int .i64 x1460)])).push (.row 5 (Rd.int .u8) x1457)), ⟨rfl, ⟨⟨trivial, .inr ⟨rfl, rfl, rfl⟩⟩, .inr ⟨rfl, rfl, rfl⟩⟩, by decide, rfl, ⟨trivial, rfl⟩⟩, rfl, rfl, rfl, rfl⟩
set_option maxRecDepth 100000 in
set_option maxHeartbeats 4000000 in
theorem s20 (k : Nat) (x1463 : (List Int)) (x1473 : (List Int)) (H : f20 k x1463 = some x1473) : Go.Q.Spec Try.prog 20 1 [.ptr 0 0] ((Mem.nil.push (.cells 45 [.whole 1])).push (.row 5 (Rd.int .u8) x1463)) (fun o M => o = .ret (.tup []) ∧ M = ((Mem.nil.push (.cells 45 [.whole 1])).push (.row 5 (Rd.int .u8) x1473))) := by
  unfold f20 at H
  refine Go.Q.Spec.of_bodyR (rs := []) (nt := 18) Try.func20 rfl rfl (by intro t T h; simp at h) rfl rfl fun cx hnp => ?_
  refine WP.block ?_
  refine WP.cv (Cv.weak (E' := (Env.none.upd 0 (.ptr 0 0))) (M' := ((Mem.nil.push (.cells 45 [.whole 1])).push (.row 5 (Rd.int .u8) x1463))) [0, 1] hnp ⟨rfl, ⟨⟨trivial, .inr ⟨rfl, rfl, rfl⟩⟩, .inr ⟨rfl, rfl, rfl⟩⟩, by decide, rfl, ⟨trivial, rfl⟩⟩ (LeE.upd rfl rfl (LeE.none rfl rfl))) ?_
  obtain ⟨x1481, H1484, H⟩ := bnd H
  refine WP.monoW (Q := fun x E M => x = .exit 0 ∧ E = Env.none ∧ M = ((Mem.nil.push (.cells 45 [.whole 1])).push (.row 5 (Rd.int .u8) x1481))) ?_ ?_
  · refine WP.loop (β := (List Int)) (fun n b => f20_l0 k n b = some x1481) (fun b => (Env.none.upd 0 (.ptr 0 0))) (fun b => ((Mem.nil.push (.cells 45 [.whole 1])).push (.row 5 (Rd.int .u8) b))) k x1463 H1484 rfl rfl ?_
    rintro n x1477 H
    obtain _ | n := n
    · exact nf rfl H
    rw [f20_l0.eq_2] at H
    show WP _ _ _ _ (Env.none.upd 0 (.ptr 0 0)) ((Mem.nil.push (.cells 45 [.whole 1])).push (.row 5 (Rd.int .u8) x1477)) _
    refine WP.seq ?_
    refine WP.seq ?_
    refine WP.region ?_
    refine WPL.q (q_mv (v := .ptr _ _) rfl) rfl ?_
    refine WPL.q (q_nilCheck rfl) rfl ?_
    refine WPL.q (q_fieldAddr fi45_0 rfl rfl) rfl ?_
    refine WPL.q (q_load sc23 rfl rfl rfl) rfl ?_
    refine WPL.q (q_len_row sl23 rfl rfl) rfl ?_
    obtain ⟨x1483, h1483, H⟩ := bnd H
    refine WPL.q (q_nm (q_rem rfl rfl rfl) (nm_int h1483)) rfl ?_
    refine WPL.q (q_neq rfl rfl) rfl ?_
    refine WPL.nilW ?_
    refine W.now ?_
    refine Then.n ?_
    refine WP.cond (t := (!decide (x1483 = 0))) rfl (fun hb => ?_) (fun hb => ?_)
    · replace H := cnt hb H
      refine WP.skipW ?_
      refine W.now ?_
      refine Then.n ?_
      refine WP.block ?_
      refine WP.region ?_
      refine WPL.q (q_mv (v := .ptr _ _) rfl) rfl ?_
      refine WPL.q (q_mv (v := .ptr _ _) rfl) rfl ?_
      refine WPL.q (q_nilCheck rfl) rfl ?_
      refine WPL.q (q_fieldAddr fi45_0 rfl rfl) rfl ?_
      refine WPL.q (q_load sc23 rfl rfl rfl) rfl ?_
      refine WPL.d (d_buildSlice (ds := ([0] : List Int)) (R := (Rd.int .u8)) li23 rfl rfl rfl rfl rfl (JoinRows.cons1 Joins.sc rfl JoinRows.nil) rfl rfl) rfl ?_
      obtain ⟨h1483, H⟩ := grd H
      refine WPL.d (d_append ap23 rfl rfl rfl rfl (src_row sl23 rfl rfl) h1483 rfl) rfl ?_
      refine WPL.q (q_nilCheck rfl) rfl ?_
      refine WPL.q (q_fieldAddr fi45_0 rfl rfl) rfl ?_
      refine WPL.s (s_store sz23 rfl rfl rfl rfl rfl) ?_
      refine WPL.nilW ?_
      refine W.cv (Cv.weak (E' := (Env.none.upd 0 (.ptr 0 0))) (M' := ((Mem.nil.push (.cells 45 [.whole 1])).push (.row 5 (Rd.int .u8) (x1477 ++ ([0] : List Int))))) [0, 3] hnp ⟨rfl, ⟨⟨trivial, .inr ⟨rfl, rfl, rfl⟩⟩, .inr ⟨rfl, rfl, rfl⟩⟩, by decide, rfl, ⟨trivial, rfl⟩⟩ (LeE.upd rfl rfl (LeE.none rfl rfl))) rfl ?_
      refine W.now ?_
      refine InBlock.n ?_
      exact Then.n ⟨n, (x1477 ++ ([0] : List Int)), Nat.lt_succ_self n, H, rfl, rfl⟩
    · replace H := cnf hb H
      refine WP.exitW ?_
      refine W.cv (Cv.weak (E' := Env.none) (M' := ((Mem.nil.push (.cells 45 [.whole 1])).push (.row 5 (Rd.int .u8) x1477))) [0, 1] hnp ⟨rfl, ⟨⟨trivial, .inr ⟨rfl, rfl, rfl⟩⟩, .inr ⟨rfl, rfl, rfl⟩⟩, by decide, rfl, ⟨trivial, rfl⟩⟩ (LeE.none rfl rfl)) rfl ?_
      refine W.now ?_
      refine Then.x ?_
      refine Then.x ?_
      have q0 := (Option.some.inj H)
      subst q0
      exact ⟨rfl, rfl, rfl⟩
  · rintro _ _ _ ⟨rfl, rfl, rfl⟩
    refine W.now ?_
    refine InBlock.x0 ?_
    have q0 := (Option.some.inj H)
    subst q0
    exact ⟨trivial, _, rfl, [0, 1], (.tup []), ((Mem.nil.push (.cells 45 [.whole 1])).push (.row 5 (Rd.int .u8) x1481)), ⟨rfl, ⟨⟨trivial, .inr ⟨rfl, rfl, rfl⟩⟩, .inr ⟨rfl, rfl, rfl⟩⟩, by decide, rfl, ⟨trivial, rfl⟩⟩, rfl, rfl, rfl, rfl⟩
set_option maxRecDepth 100000 in
set_option maxHeartbeats 4000000 in
theorem s21 (k : Nat) (x1488 : (List Int)) (x1489 : Int) (x1490 : (List Int)) (x1493 : Int) (H : f21 k x1488 x1489 x1490 = some x1493) : Go.Q.Spec Try.prog 21 1 [.ptr 0 0, .ro (Rd.slice (Rd.int .u8)) false x1488] ((Mem.nil.push (.cells 57 [.whole 1, .lit (.int .i64 x1489)])).push (.row 5 (Rd.int .u8) x1490)) (fun o M => o = .ret (.tup []) ∧ M = ((Mem.nil.push (.cells 57 [.whole 1, .lit (.int .i64 x1493)])).push (.row 5 (Rd.int .u8) (x1490 ++ x1488)))) := by
  unfold f21 at H
  refine Go.Q.Spec.of_bodyR (rs := []) (nt := 24) Try.func21 rfl rfl (by intro t T h; simp at h) rfl rfl fun cx hnp => ?_
  refine WP.seq ?_
  refine WP.region ?_
  refine WPL.q (q_mv (v := .ptr _ _) rfl) rfl ?_
  refine WPL.q (q_neqp Try.underlying29 rfl) rfl ?_
  refine WPL.nilW ?_
  refine W.now ?_
  refine Then.n ?_
  refine WP.condT rfl ?_
  refine WP.seq ?_
  refine WP.region ?_
  refine WPL.q (q_mv (v := .ptr _ _) rfl) rfl ?_
  refine WPL.q (q_mv (v := .ptr _ _) rfl) rfl ?_
  refine WPL.q (q_nilCheck rfl) rfl ?_
  refine WPL.q (q_fieldAddr fi57_0 rfl rfl) rfl ?_
  refine WPL.q (q_load sc23 rfl rfl rfl) rfl ?_
  refine WPL.q (q_mv (v := .ro _ _ _) rfl) rfl ?_
  obtain ⟨h1493, H⟩ := grd H
  refine WPL.d (d_append ap23 rfl rfl rfl rfl (src_ro sl23 rfl) h1493 rfl) rfl ?_
  refine WPL.q (q_nilCheck rfl) rfl ?_
  refine WPL.q (q_fieldAddr fi57_0 rfl rfl) rfl ?_
  refine WPL.s (s_store sz23 rfl rfl rfl rfl rfl) ?_
  refine WPL.nilW ?_
  refine W.now ?_
  refine Then.n ?_
  refine WP.region ?_
  refine WPL.q (q_mv (v := .ptr _ _) rfl) rfl ?_
  refine WPL.q (q_mv (v := .ptr _ _) rfl) rfl ?_
  refine WPL.q (q_nilCheck rfl) rfl ?_
  refine WPL.q (q_fieldAddr fi57_0 rfl rfl) rfl ?_
  refine WPL.q (q_load sc23 rfl rfl rfl) rfl ?_
  refine WPL.q (q_len_row sl23 rfl rfl) rfl ?_
  obtain ⟨x1495, h1495, H⟩ := bnd H
  refine WPL.q (q_nm (q_mul rfl rfl) (nm_int h1495)) rfl ?_
  refine WPL.q (q_nilCheck rfl) rfl ?_
  refine WPL.q (q_fieldAddr fi57_1 rfl rfl) rfl ?_
  refine WPL.s (s_store sz3 rfl rfl rfl rfl rfl) ?_
  refine WPL.nilW ?_
  refine W.now ?_
  have q0 := (Option.some.inj H)
  subst q0
  exact ⟨trivial, _, rfl, [0, 2], (.tup []), ((Mem.nil.push (.cells 57 [.whole 1, .lit (.int .i64 x1495)])).push (.row 5 (Rd.int .u8) (x1490 ++ x1488))), ⟨rfl, ⟨⟨trivial, .inr ⟨rfl, rfl, rfl⟩⟩, .inr ⟨rfl, rfl, rfl⟩⟩, by decide, rfl, ⟨trivial, rfl⟩⟩, rfl, rfl, rfl, rfl⟩
set_option maxRecDepth 100000 in
set_option maxHeartbeats 4000000 in
theorem s22 (k : Nat) (x1498 : (List Int)) (x1499 : (List Int)) (x1518 : (List Int)) (H : f22 k x1498 x1499 = some x1518) : Go.Q.Spec Try.prog 22 1 [.ptr 0 0, .ro (Rd.slice (Rd.int .u8)) false x1498] ((Mem.nil.push (.cells 45 [.whole 1])).push (.row 5 (Rd.int .u8) x1499)) (fun o M => o = .ret (.tup []) ∧ M = ((Mem.nil.push (.cells 45 [.whole 1])).push (.row 5 (Rd.int .u8) x1518))) := by
  unfold f22 at H
  refine Go.Q.Spec.of_bodyR (rs := []) (nt := 20) Try.func22 rfl rfl (by intro t T h; simp at h) rfl rfl fun cx hnp => ?_
  refine WP.seq ?_
  refine WP.region ?_
  refine WPL.q (q_mv (v := .ptr _ _) rfl) rfl ?_
  obtain ⟨x1520, h1518, H⟩ := bnd H
  refine WPL.c (runs_call (s := [0, 1]) (t := [0, 2]) (N := 3) (bor := []) fn20 rfl (s20 k x1499 x1520 h1518) ⟨rfl, ⟨⟨trivial, .inr ⟨rfl, rfl, rfl⟩⟩, .inr ⟨rfl, rfl, rfl⟩⟩, by decide, rfl, trivial⟩ rfl trivial (.ren rfl rfl .nil) rfl ⟨⟨trivial, rfl⟩, rfl⟩ rfl) rfl ?_
  refine WPL.nilW ?_
  refine W.now ?_
  refine Then.n ?_
  refine WP.seq ?_
  refine WP.region ?_
  refine WPL.q (q_as (v := .lit (.int _ _)) rfl) rfl ?_
  refine WPL.nilW ?_
  refine W.now ?_
  refine Then.n ?_
  refine WP.block ?_
  refine WP.cv (Cv.weak (E' := (((Env.none.upd 0 (.ptr 0 0)).upd 1 (.ro (Rd.slice (Rd.int .u8)) false x1498)).upd 4 (.lit (.int .i64 0)))) (M' := ((Mem.nil.push (.cells 45 [.whole 1])).push (.row 5 (Rd.int .u8) x1520))) [0, 2] hnp ⟨rfl, ⟨⟨trivial, .inr ⟨rfl, rfl, rfl⟩⟩, .inr ⟨rfl, rfl, rfl⟩⟩, by decide, rfl, ⟨trivial, rfl⟩⟩ (LeE.upd rfl rfl (LeE.upd rfl rfl (LeE.upd rfl rfl (LeE.none rfl rfl))))) ?_
  obtain ⟨x1535, H1541, H⟩ := bnd H
  refine WP.monoW (Q := fun x E M => x = .exit 0 ∧ E = Env.none ∧ M = ((Mem.nil.push (.cells 45 [.whole 1])).push (.row 5 (Rd.int .u8) x1535))) ?_ ?_
  · refine WP.loop (β := Int × (List Int)) (fun n b => f22_l0 k x1498 n b.1 b.2 = some x1535) (fun b => (((Env.none.upd 0 (.ptr 0 0)).upd 1 (.ro (Rd.slice (Rd.int .u8)) false x1498)).upd 4 (.lit (.int .i64 b.1)))) (fun b => ((Mem.nil.push (.cells 45 [.whole 1])).push (.row 5 (Rd.int .u8) b.2))) k (0, x1520) H1541 rfl rfl ?_
    rintro n ⟨x1527, x1528⟩ H
    obtain _ | n := n
    · exact nf rfl H
    rw [f22_l0.eq_2] at H
    show WP _ _ _ _ (((Env.none.upd 0 (.ptr 0 0)).upd 1 (.ro (Rd.slice (Rd.int .u8)) false x1498)).upd 4 (.lit (.int .i64 x1527))) ((Mem.nil.push (.cells 45 [.whole 1])).push (.row 5 (Rd.int .u8) x1528)) _
    refine WP.seq ?_
    refine WP.seq ?_
    refine WP.region ?_
    refine WPL.q (q_mv (v := .lit (.int _ _)) rfl) rfl ?_
    refine WPL.q (q_mv (v := .ro _ _ _) rfl) rfl ?_
    refine WPL.q (q_len_ro sl23 rfl) rfl ?_
    obtain ⟨x1537, h1537, H⟩ := bnd H
    refine WPL.q (q_nm (q_lss rfl rfl) (nm_bool h1537)) rfl ?_
    refine WPL.nilW ?_
    refine W.now ?_
    refine Then.n ?_
    refine WP.cond (t := x1537) rfl (fun hb => ?_) (fun hb => ?_)
    · replace H := cnt hb H
      refine WP.skipW ?_
      refine W.now ?_
      refine Then.n ?_
      refine WP.seq ?_
      refine WP.block ?_
      refine WP.region ?_
      refine WPL.q (q_mv (v := .ptr _ _) rfl) rfl ?_
      refine WPL.q (q_mv (v := .ro _ _ _) rfl) rfl ?_
      refine WPL.q (q_mv (v := .lit (.int _ _)) rfl) rfl ?_
      obtain ⟨x1538, h1538, H⟩ := bnd H
      refine WPL.q (q_index_ro sl23 rfl rfl rfl h1538) rfl ?_
      refine WPL.q (q_load_sc sc5 rfl) rfl ?_
      refine WPL.q (q_conv Try.underlying5 Try.underlying22 rfl) rfl ?_
      obtain ⟨⟨x1540, x1541⟩, h1538, H⟩ := bnd H
      refine WPL.c (runs_call (s := [0, 1]) (t := [0, 2]) (N := 3) (bor := []) fn18 rfl (s18 k (IntKind.wrap .u32 x1538) 8 x1528 x1540 x1541 h1538) ⟨rfl, ⟨⟨trivial, .inr ⟨rfl, rfl, rfl⟩⟩, .inr ⟨rfl, rfl, rfl⟩⟩, by decide, rfl, trivial⟩ rfl trivial (.ren rfl rfl (.ren rfl rfl (.ren rfl rfl .nil))) rfl ⟨⟨trivial, rfl⟩, rfl⟩ rfl) rfl ?_
      refine WPL.nilW ?_
      refine W.now ?_
      refine InBlock.n ?_
      refine Then.n ?_
      refine WP.region ?_
      refine WPL.q (q_mv (v := .lit (.int _ _)) rfl) rfl ?_
      refine WPL.q (q_add rfl rfl) rfl ?_
      refine WPL.q (q_as (v := .lit (.int _ _)) rfl) rfl ?_
      refine WPL.nilW ?_
      refine W.cv (Cv.weak (E' := (((Env.none.upd 0 (.ptr 0 0)).upd 1 (.ro (Rd.slice (Rd.int .u8)) false x1498)).upd 4 (.lit (.int .i64 (IntKind.wrap .i64 (x1527 + 1)))))) (M' := ((Mem.nil.push (.cells 45 [.whole 1])).push (.row 5 (Rd.int .u8) x1541))) [0, 2] hnp ⟨rfl, ⟨⟨trivial, .inr ⟨rfl, rfl, rfl⟩⟩, .inr ⟨rfl, rfl, rfl⟩⟩, by decide, rfl, ⟨trivial, rfl⟩⟩ (LeE.upd rfl rfl (LeE.upd rfl rfl (LeE.upd rfl rfl (LeE.none rfl rfl))))) rfl ?_
      refine W.now ?_
      exact Then.n ⟨n, ((IntKind.wrap .i64 (x1527 + 1)), x1541), Nat.lt_succ_self n, H, rfl, rfl⟩
    · replace H := cnf hb H
      refine WP.exitW ?_
      refine W.cv (Cv.weak (E' := Env.none) (M' := ((Mem.nil.push (.cells 45 [.whole 1])).push (.row 5 (Rd.int .u8) x1528))) [0, 1] hnp ⟨rfl, ⟨⟨trivial, .inr ⟨rfl, rfl, rfl⟩⟩, .inr ⟨rfl, rfl, rfl⟩⟩, by decide, rfl, ⟨trivial, rfl⟩⟩ (LeE.none rfl rfl)) rfl ?_
      refine W.now ?_
      refine Then.x ?_
      refine Then.x ?_
      have q0 := (Option.some.inj H)
      subst q0
      exact ⟨rfl, rfl, rfl⟩
  · rintro _ _ _ ⟨rfl, rfl, rfl⟩
    refine W.now ?_
    refine InBlock.x0 ?_
    have q0 := (Option.some.inj H)
    subst q0
    exact ⟨trivial, _, rfl, [0, 1], (.tup []), ((Mem.nil.push (.cells 45 [.whole 1])).push (.row 5 (Rd.int .u8) x1535)), ⟨rfl, ⟨⟨trivial, .inr ⟨rfl, rfl, rfl⟩⟩, .inr ⟨rfl, rfl, rfl⟩⟩, by decide, rfl, ⟨trivial, rfl⟩⟩, rfl, rfl, rfl, rfl⟩
set_option maxRecDepth 100000 in
set_option maxHeartbeats 4000000 in
theorem s23 (k : Nat) (x1572 : Int) (x1573 : (List Int)) (H : f23 k x1572 x1573 = some ()) : Go.Q.Spec Try.prog 23 1 [.ptr 0 0] ((Mem.nil.push (.cells 57 [.whole 1, .lit (.int .i64 x1572)])).push (.row 5 (Rd.int .u8) x1573)) (fun o M => o = .ret (.lit (.int .i64 x1572)) ∧ M = ((Mem.nil.push (.cells 57 [.whole 1, .lit (.int .i64 x1572)])).push (.row 5 (Rd.int .u8) x1573))) := by
  unfold f23 at H
  refine Go.Q.Spec.of_bodyR (rs := [.tmp 2]) (nt := 9) Try.func23 rfl rfl (by intro t T h; simp at h) rfl rfl fun cx hnp => ?_
  refine WP.seq ?_
  refine WP.region ?_
  refine WPL.q (q_as (v := .lit (.int _ _)) rfl) rfl ?_
  refine WPL.nilW ?_
  refine W.now ?_
  refine Then.n ?_
  refine WP.seq ?_
  refine WP.seq ?_
  refine WP.region ?_
  refine WPL.q (q_mv (v := .ptr _ _) rfl) rfl ?_
  refine WPL.q (q_eqlp Try.underlying29 rfl) rfl ?_
  refine WPL.nilW ?_
  refine W.now ?_
  refine Then.n ?_
  refine WP.condF rfl ?_
  refine WP.skipW ?_
  refine W.now ?_
  refine Then.n ?_
  refine WP.seq ?_
  refine WP.region ?_
  refine WPL.q (q_mv (v := .ptr _ _) rfl) rfl ?_
  refine WPL.q (q_nilCheck rfl) rfl ?_
  refine WPL.q (q_fieldAddr fi57_1 rfl rfl) rfl ?_
  refine WPL.q (q_load sc3 rfl rfl rfl) rfl ?_
  refine WPL.q (q_as (v := .lit (.int _ _)) rfl) rfl ?_
  refine WPL.nilW ?_
  refine W.now ?_
  refine Then.n ?_
  refine WP.retW ?_
  refine W.now ?_
  exact ⟨trivial, _, rfl, [0, 1], (.lit (.int .i64 x1572)), ((Mem.nil.push (.cells 57 [.whole 1, .lit (.int .i64 x1572)])).push (.row 5 (Rd.int .u8) x1573)), ⟨rfl, ⟨⟨trivial, .inr ⟨rfl, rfl, rfl⟩⟩, .inr ⟨rfl, rfl, rfl⟩⟩, by decide, rfl, ⟨trivial, rfl⟩⟩, rfl, rfl, rfl, rfl⟩
set_option maxRecDepth 100000 in
set_option maxHeartbeats 4000000 in
theorem s25 (k : Nat) (x1579 : (List Int)) (x1728 : (List Int)) (H : f25 k x1579 = some x1728) : Go.Q.Spec Try.prog 25 1 [.ptr 0 0] ((Mem.nil.push (.cells 45 [.whole 1])).push (.row 5 (Rd.int .u8) x1579)) (fun o M => o = .ret (.ro (Rd.slice (Rd.int .u8)) false x1728) ∧ M = ((Mem.nil.push (.cells 45 [.whole 1])).push (.row 5 (Rd.int .u8) x1579))) := by
  unfold f25 at H
  refine Go.Q.Spec.of_bodyR (rs := [.tmp 2]) (nt := 42) Try.func25 rfl rfl (by intro t T h; simp at h) rfl rfl fun cx hnp => ?_
  refine WP.seq ?_
  refine WP.region ?_
  refine WPL.q (q_as (v := .lit _) rfl) rfl ?_
  refine WPL.nilW ?_
  refine W.now ?_
  refine Then.n ?_
  refine WP.seq ?_
  refine WP.region ?_
  refine WPL.q (q_as (v := .lit _) rfl) rfl ?_
  refine WPL.nilW ?_
  refine W.now ?_
  refine Then.n ?_
  refine WP.seq ?_
  refine WP.seq ?_
  refine WP.region ?_
  refine WPL.q (q_as (v := .lit (.int _ _)) rfl) rfl ?_
  refine WPL.nilW ?_
  refine W.now ?_
  refine Then.n ?_
  refine WP.block ?_
  refine WP.cv (Cv.vir 5 (Rd.int .u8) (N := 2) rfl 3 rfl) ?_
  refine WP.cv (Cv.weak (E' := (((Env.none.upd 0 (.ptr 0 0)).upd 3 (.whole 2)).upd 4 (.lit (.int .i64 0)))) (M' := (((Mem.nil.push (.cells 45 [.whole 1])).push (.row 5 (Rd.int .u8) x1579)).push (.row 5 (Rd.int .u8) ([] : List Int)))) [0, 1, 2] hnp ⟨rfl, ⟨⟨⟨trivial, .inr ⟨rfl, rfl, rfl⟩⟩, .inr ⟨rfl, rfl, rfl⟩⟩, .inr ⟨rfl, rfl, rfl⟩⟩, by decide, rfl, ⟨trivial, rfl⟩⟩ (LeE.upd rfl rfl (LeE.upd rfl rfl (LeE.upd rfl rfl (LeE.none rfl rfl))))) ?_
  obtain ⟨x1875, H1923, H⟩ := bnd H
  refine WP.monoW (Q := fun x E M => x = .exit 0 ∧ E = (Env.none.upd 3 (.whole 2)) ∧ M = (((Mem.nil.push (.cells 45 [.whole 1])).push (.row 5 (Rd.int .u8) x1579)).push (.row 5 (Rd.int .u8) x1875))) ?_ ?_
  · refine WP.loop (β := Int × (List Int)) (fun n b => f25_l0 k x1579 n b.1 b.2 = some x1875) (fun b => (((Env.none.upd 0 (.ptr 0 0)).upd 3 (.whole 2)).upd 4 (.lit (.int .i64 b.1)))) (fun b => (((Mem.nil.push (.cells 45 [.whole 1])).push (.row 5 (Rd.int .u8) x1579)).push (.row 5 (Rd.int .u8) b.2))) k (0, ([] : List Int)) H1923 rfl rfl ?_
    rintro n ⟨x1825, x1826⟩ H
    obtain _ | n := n
    · exact nf rfl H
    rw [f25_l0.eq_2] at H
    show WP _ _ _ _ (((Env.none.upd 0 (.ptr 0 0)).upd 3 (.whole 2)).upd 4 (.lit (.int .i64 x1825))) (((Mem.nil.push (.cells 45 [.whole 1])).push (.row 5 (Rd.int .u8) x1579)).push (.row 5 (Rd.int .u8) x1826)) _
    refine WP.seq ?_
    refine WP.seq ?_
    refine WP.region ?_
    refine WPL.q (q_mv (v := .lit (.int _ _)) rfl) rfl ?_
    refine WPL.q (q_mv (v := .ptr _ _) rfl) rfl ?_
    refine WPL.q (q_nilCheck rfl) rfl ?_
    refine WPL.q (q_fieldAddr fi45_0 rfl rfl) rfl ?_
    refine WPL.q (q_load sc23 rfl rfl rfl) rfl ?_
    refine WPL.q (q_len_row sl23 rfl rfl) rfl ?_
    obtain ⟨x1877, h1877, H⟩ := bnd H
    refine WPL.q (q_nm (q_lss rfl rfl) (nm_bool h1877)) rfl ?_
    refine WPL.nilW ?_
    refine W.now ?_
    refine Then.n ?_
    refine WP.cond (t := x1877) rfl (fun hb => ?_) (fun hb => ?_)
    · replace H := cnt hb H
      refine WP.skipW ?_
      refine W.now ?_
      refine Then.n ?_
      refine WP.seq ?_
      refine WP.block ?_
      refine WP.seq ?_
      obtain ⟨x1902, H1903, H⟩ := bnd H
      refine WP.monoW (Q := fun x E M => x = .normal ∧ E = (((Env.none.upd 0 (.ptr 0 0)).upd 3 (.whole 2)).upd 4 (.lit (.int .i64 x1825))) ∧ M = (((Mem.nil.push (.cells 45 [.whole 1])).push (.row 5 (Rd.int .u8) x1579)).push (.row 5 (Rd.int .u8) x1902))) ?_ ?_
      · clear H
        have H := H1903
        clear H1903
        refine WP.seq ?_
        refine WP.region ?_
        refine WPL.q (q_mv (v := .lit (.int _ _)) rfl) rfl ?_
        refine WPL.q (q_rem rfl rfl rfl) rfl ?_
        refine WPL.q (q_eql rfl rfl) rfl ?_
        refine WPL.nilW ?_
        refine W.now ?_
        refine Then.n ?_
        refine WP.cond (t := (decide ((Int.tmod x1825 8) = 0))) rfl (fun hb => ?_) (fun hb => ?_)
        · replace H := cnt hb H
          refine WP.region ?_
          refine WPL.q (q_mv (v := .whole _) rfl) rfl ?_
          refine WPL.d (d_buildSlice (ds := ([0] : List Int)) (R := (Rd.int .u8)) li23 rfl rfl rfl rfl rfl (JoinRows.cons1 Joins.sc rfl JoinRows.nil) rfl rfl) rfl ?_
          obtain ⟨h1902, H⟩ := grd H
          refine WPL.d (d_append ap23 rfl rfl rfl rfl (src_row sl23 rfl rfl) h1902 rfl) rfl ?_
          refine WPL.q (q_as (v := .whole _) rfl) rfl ?_
          refine WPL.nilW ?_
          refine W.cv (Cv.weak (E' := (((Env.none.upd 0 (.ptr 0 0)).upd 3 (.whole 2)).upd 4 (.lit (.int .i64 x1825)))) (M' := (((Mem.nil.push (.cells 45 [.whole 1])).push (.row 5 (Rd.int .u8) x1579)).push (.row 5 (Rd.int .u8) (x1826 ++ ([0] : List Int))))) [0, 1, 4] hnp ⟨rfl, ⟨⟨⟨trivial, .inr ⟨rfl, rfl, rfl⟩⟩, .inr ⟨rfl, rfl, rfl⟩⟩, .inr ⟨rfl, rfl, rfl⟩⟩, by decide, rfl, ⟨trivial, rfl⟩⟩ (LeE.upd rfl rfl (LeE.upd rfl rfl (LeE.upd rfl rfl (LeE.none rfl rfl))))) rfl ?_
          refine W.now ?_
          have q0 := (Option.some.inj H)
          subst q0
          exact ⟨rfl, rfl, rfl⟩
        · replace H := cnf hb H
          refine WP.skipW ?_
          refine W.cv (Cv.weak (E' := (((Env.none.upd 0 (.ptr 0 0)).upd 3 (.whole 2)).upd 4 (.lit (.int .i64 x1825)))) (M' := (((Mem.nil.push (.cells 45 [.whole 1])).push (.row 5 (Rd.int .u8) x1579)).push (.row 5 (Rd.int .u8) x1826))) [0, 1, 2] hnp ⟨rfl, ⟨⟨⟨trivial, .inr ⟨rfl, rfl, rfl⟩⟩, .inr ⟨rfl, rfl, rfl⟩⟩, .inr ⟨rfl, rfl, rfl⟩⟩, by decide, rfl, ⟨trivial, rfl⟩⟩ (LeE.upd rfl rfl (LeE.upd rfl rfl (LeE.upd rfl rfl (LeE.none rfl rfl))))) rfl ?_
          refine W.now ?_
          have q0 := (Option.some.inj H)
          subst q0
          exact ⟨rfl, rfl, rfl⟩
      · rintro _ _ _ ⟨rfl, rfl, rfl⟩
        refine W.now ?_
        refine Then.n ?_
        refine WP.regionD' 22 [0, 1, 2] [21] mixed rfl ?_
        refine WPD.take 0 rfl (by kernel_rfl) (q_mv (v := .whole _) rfl) rfl rfl ?_
        refine WPD.take 1 rfl (by kernel_rfl) (q_mv (v := .lit (.int _ _)) rfl) rfl rfl ?_
        refine WPD.take 2 rfl (by kernel_rfl) (q_quo rfl rfl rfl) rfl rfl ?_
        refine WPD.take 3 rfl (by kernel_rfl) (q_mv (v := .whole _) rfl) rfl rfl ?_
        refine WPD.take 4 rfl (by kernel_rfl) (q_mv (v := .lit (.int _ _)) rfl) rfl rfl ?_
        refine WPD.take 5 rfl (by kernel_rfl) (q_quo rfl rfl rfl) rfl rfl ?_
        obtain ⟨x1919, h1919, H⟩ := bnd H
        refine WPD.take 6 rfl (by kernel_rfl) (q_index_row sl23 rfl rfl rfl (ixs h1919)) rfl rfl ?_
        refine WPD.take 7 rfl (by kernel_rfl) (q_load_row (j := (Int.toNat (IntKind.wrap .i64 (Int.tdiv x1825 8)))) sc5 rfl rfl (ixj h1919)) rfl rfl ?_
        refine WPD.take 8 rfl (by kernel_rfl) (q_mv (v := .ptr _ _) rfl) rfl rfl ?_
        refine WPD.take 9 rfl (by kernel_rfl) (q_nilCheck rfl) rfl rfl ?_
        refine WPD.take 10 rfl (by kernel_rfl) (q_fieldAddr fi45_0 rfl rfl) rfl rfl ?_
        refine WPD.take 11 rfl (by kernel_rfl) (q_load sc23 rfl rfl rfl) rfl rfl ?_
        refine WPD.take 12 rfl (by kernel_rfl) (q_mv (v := .lit (.int _ _)) rfl) rfl rfl ?_
        obtain ⟨x1920, h1920, H⟩ := bnd H
        refine WPD.take 13 rfl (by kernel_rfl) (q_index_row sl23 rfl rfl rfl (ixs h1920)) rfl rfl ?_
        refine WPD.take 14 rfl (by kernel_rfl) (q_load_row (j := (Int.toNat x1825)) sc5 rfl rfl (ixj h1920)) rfl rfl ?_
        refine WPD.take 15 rfl (by kernel_rfl) (q_mv (v := .lit (.int _ _)) rfl) rfl rfl ?_
        refine WPD.take 16 rfl (by kernel_rfl) (q_rem rfl rfl rfl) rfl rfl ?_
        refine WPD.take 17 rfl (by kernel_rfl) (q_conv Try.underlying3 Try.underlying40 rfl) rfl rfl ?_
        obtain ⟨h1920, H⟩ := grd H
        obtain ⟨x1922, h1922, H⟩ := bnd H
        refine WPD.take 18 rfl (by kernel_rfl) (q_nm (q_shl rfl rfl h1920) (nm_int h1922)) rfl rfl ?_
        refine WPD.take 19 rfl (by kernel_rfl) (q_or rfl rfl) rfl rfl ?_
        obtain ⟨x1923, h1923, H⟩ := bnd H
        refine WPD.take 20 rfl (by kernel_rfl) (q_index_row sl23 rfl rfl rfl (ixs h1923)) rfl rfl ?_
        refine WPD.effS 21 [] [] rfl (by kernel_rfl) (s_store_row (j := (Int.toNat (IntKind.wrap .i64 (Int.tdiv x1825 8)))) (d := (bits .or .u8 x1919 x1922)) sz5 rfl rfl rfl rfl Joins.sc (ixl h1923)) rfl ?_
        refine WPD.doneW (by kernel_rfl) ?_
        refine W.now ?_
        refine InBlock.n ?_
        refine Then.n ?_
        refine WP.region ?_
        refine WPL.q (q_mv (v := .lit (.int _ _)) rfl) rfl ?_
        refine WPL.q (q_add rfl rfl) rfl ?_
        refine WPL.q (q_as (v := .lit (.int _ _)) rfl) rfl ?_
        refine WPL.nilW ?_
        refine W.cv (Cv.weak (E' := (((Env.none.upd 0 (.ptr 0 0)).upd 3 (.whole 2)).upd 4 (.lit (.int .i64 (IntKind.wrap .i64 (x1825 + 1)))))) (M' := (((Mem.nil.push (.cells 45 [.whole 1])).push (.row 5 (Rd.int .u8) x1579)).push (.row 5 (Rd.int .u8) (List.set x1902 (Int.toNat (IntKind.wrap .i64 (Int.tdiv x1825 8))) (bits .or .u8 x1919 x1922))))) [0, 1, 2] hnp ⟨rfl, ⟨⟨⟨trivial, .inr ⟨rfl, rfl, rfl⟩⟩, .inr ⟨rfl, rfl, rfl⟩⟩, .inr ⟨rfl, rfl, rfl⟩⟩, by decide, rfl, ⟨trivial, rfl⟩⟩ (LeE.upd rfl rfl (LeE.upd rfl rfl (LeE.upd rfl rfl (LeE.none rfl rfl))))) rfl ?_
        refine W.now ?_
        exact Then.n ⟨n, ((IntKind.wrap .i64 (x1825 + 1)), (List.set x1902 (Int.toNat (IntKind.wrap .i64 (Int.tdiv x1825 8))) (bits .or .u8 x1919 x1922))), Nat.lt_succ_self n, H, rfl, rfl⟩
    · replace H := cnf hb H
      refine WP.exitW ?_
      refine W.cv (Cv.weak (E' := (Env.none.upd 3 (.whole 2))) (M' := (((Mem.nil.push (.cells 45 [.whole 1])).push (.row 5 (Rd.int .u8) x1579)).push (.row 5 (Rd.int .u8) x1826))) [0, 1, 2] hnp ⟨rfl, ⟨⟨⟨trivial, .inr ⟨rfl, rfl, rfl⟩⟩, .inr ⟨rfl, rfl, rfl⟩⟩, .inr ⟨rfl, rfl, rfl⟩⟩, by decide, rfl, ⟨trivial, rfl⟩⟩ (LeE.upd rfl rfl (LeE.none rfl rfl))) rfl ?_
      refine W.now ?_
      refine Then.x ?_
      refine Then.x ?_
      have q0 := (Option.some.inj H)
      subst q0
      exact ⟨rfl, rfl, rfl⟩
  · rintro _ _ _ ⟨rfl, rfl, rfl⟩
    refine W.now ?_
    refine InBlock.x0 ?_
    refine Then.n ?_
    refine WP.seq ?_
    refine WP.region ?_
    refine WPL.q (q_mv (v := .whole _) rfl) rfl ?_
    refine WPL.q (q_as (v := .whole _) rfl) rfl ?_
    refine WPL.nilW ?_
    refine W.now ?_
    refine Then.n ?_
    refine WP.retW ?_
    refine W.cv (Cv.frzRow (i := 2) rfl rfl hnp rfl rfl) rfl ?_
    refine W.now ?_
    have q0 := (Option.some.inj H)
    subst q0
    exact ⟨trivial, _, rfl, [0, 1], (.ro (Rd.slice (Rd.int .u8)) false x1875), ((Mem.nil.push (.cells 45 [.whole 1])).push (.row 5 (Rd.int .u8) x1579)), ⟨rfl, ⟨⟨trivial, .inr ⟨rfl, rfl, rfl⟩⟩, .inr ⟨rfl, rfl, rfl⟩⟩, by decide, rfl, ⟨trivial, rfl⟩⟩, rfl, rfl, rfl, rfl⟩
set_option maxRecDepth 100000 in
set_option maxHeartbeats 4000000 in
theorem s24 (k : Nat) (x1934 : (List Int)) (x1935 : (List Int)) (x1937 : Bool) (H : f24 k x1934 x1935 = some x1937) : Go.Q.Spec Try.prog 24 0 [.ro (Rd.slice (Rd.int .u8)) false x1934, .ro (Rd.slice (Rd.int .u8)) false x1935] Mem.nil (fun o M => o = .ret (.lit (.bool x1937)) ∧ M = Mem.nil) := by
  unfold f24 at H
  refine Go.Q.Spec.of_bodyR (rs := [.tmp 4]) (nt := 10) Try.func24 rfl rfl (by intro t T h; simp at h) rfl rfl fun cx hnp => ?_
  refine WP.seq ?_
  refine WP.region ?_
  refine WPL.q (q_as (v := .lit (.bool _)) rfl) rfl ?_
  refine WPL.nilW ?_
  refine W.now ?_
  refine Then.n ?_
  refine WP.seq ?_
  refine WP.region ?_
  refine WPL.q (q_mv (v := .ro _ _ _) rfl) rfl ?_
  refine WPL.q (q_bytes_str Try.underlying23 Try.underlying5 Try.underlying9 rfl) rfl ?_
  refine WPL.q (q_mv (v := .ro _ _ _) rfl) rfl ?_
  refine WPL.q (q_bytes_str Try.underlying23 Try.underlying5 Try.underlying9 rfl) rfl ?_
  obtain ⟨x1938, h1938, H⟩ := bnd H
  refine WPL.q (q_nm (q_eqls rfl rfl) (nm_bool h1938)) rfl ?_
  refine WPL.q (q_as (v := .lit (.bool _)) rfl) rfl ?_
  refine WPL.nilW ?_
  refine W.now ?_
  refine Then.n ?_
  refine WP.retW ?_
  refine W.now ?_
  have q0 := (Option.some.inj H)
  subst q0
  exact ⟨trivial, _, rfl, [], (.lit (.bool x1938)), Mem.nil, ⟨rfl, trivial, by decide, rfl, trivial⟩, rfl, rfl, rfl, rfl⟩
set_option maxRecDepth 100000 in
set_option maxHeartbeats 4000000 in
theorem s5 (k : Nat) (x1385 : (List S34Op)) (x2291 : Bool) (H : f5 k x1385 = some x2291) : Go.Q.Spec Try.prog 5 0 [.ro (Rd.slice rdS34Op) false x1385] Mem.nil (fun o M => o = .ret (.lit (.bool x2291)) ∧ M = Mem.nil) := by
  unfold f5 at H
  refine Go.Q.Spec.of_bodyR (rs := [.tmp 2]) (nt := 75) Try.func5 rfl rfl (by intro t T h; simp at h) rfl rfl fun cx hnp => ?_
  refine WP.seq ?_
  refine WP.region ?_
  refine WPL.q (q_as (v := .lit (.bool _)) rfl) rfl ?_
  refine WPL.nilW ?_
  refine W.now ?_
  refine Then.n ?_
  refine WP.seq ?_
  refine WP.region ?_
  obtain ⟨_, h2291, H⟩ := bnd H
  refine WPL.c (runs_call (s := []) (t := [0, 1]) (N := 2) (bor := []) fn12 rfl (s12 k h2291) ⟨rfl, trivial, by decide, rfl, trivial⟩ rfl trivial .nil rfl ⟨⟨trivial, rfl⟩, rfl⟩ rfl) rfl ?_
  refine WPL.q (q_as (v := .ptr _ _) rfl) rfl ?_
  refine WPL.nilW ?_
  refine W.now ?_
  refine Then.n ?_
  refine WP.seq ?_
  refine WP.region ?_
  refine WPL.q (q_build bu45 rfl) rfl ?_
  refine WPL.d (d_box rfl rfl) rfl ?_
  refine WPL.cv (Cv.virC 5 (Rd.int .u8) (N := 3) rfl (i := 2) rfl (off := 0) rfl rfl) ?_
  refine WPL.q (q_as (v := .ptr _ _) rfl) rfl ?_
  refine WPL.nilW ?_
  refine W.now ?_
  refine Then.n ?_
  refine WP.seq ?_
  refine WP.seq ?_
  refine WP.region ?_
  refine WPL.q (q_mv (v := .ptr _ _) rfl) rfl ?_
  refine WPL.q (q_eqlp Try.underlying29 rfl) rfl ?_
  refine WPL.q (q_mv (v := .lit (.bool _)) rfl) rfl ?_
  obtain ⟨x2300, h2298, H⟩ := bnd H
  refine WPL.cg rfl rfl rfl (runs_call (s := []) (t := []) (N := 4) (bor := []) fn11 rfl (s11 k x2300 h2298) ⟨rfl, trivial, by decide, rfl, trivial⟩ rfl trivial .nil rfl trivial rfl) rfl ?_
  refine WPL.qg rfl rfl rfl (q_not rfl) rfl ?_
  refine WPL.q (q_pickF (v := .lit (.bool _)) rfl rfl) rfl ?_
  refine WPL.nilW ?_
  refine W.now ?_
  refine Then.n ?_
  refine WP.cond (t := (!x2300)) rfl (fun hb => ?_) (fun hb => ?_)
  · replace H := cnt hb H
    refine WP.seq ?_
    refine WP.region ?_
    refine WPL.q (q_as (v := .lit (.bool _)) rfl) rfl ?_
    refine WPL.nilW ?_
    refine W.now ?_
    refine Then.n ?_
    refine WP.retW ?_
    refine W.now ?_
    refine Then.r ?_
    have q0 := (Option.some.inj H)
    subst q0
    exact ⟨trivial, _, rfl, [], (.lit (.bool false)), Mem.nil, ⟨rfl, trivial, by decide, rfl, trivial⟩, rfl, rfl, rfl, rfl⟩
  · replace H := cnf hb H
    refine WP.skipW ?_
    refine W.now ?_
    refine Then.n ?_
    refine WP.seq ?_
    refine WP.seq ?_
    refine WP.region ?_
    refine WPL.q (q_as (v := .lit (.int _ _)) rfl) rfl ?_
    refine WPL.nilW ?_
    refine W.now ?_
    refine Then.n ?_
    refine WP.block ?_
    refine WP.cv (Cv.weak (E' := ((((Env.none.upd 0 (.ro (Rd.slice rdS34Op) false x1385)).upd 3 (.ptr 0 0)).upd 4 (.ptr 2 0)).upd 5 (.lit (.int .i64 0)))) (M' := ((((Mem.nil.push (.cells 57 [.whole 1, .lit (.int .i64 0)])).push (.row 5 (Rd.int .u8) ([] : List Int))).push (.cells 45 [.whole 3])).push (.row 5 (Rd.int .u8) ([] : List Int)))) [0, 1, 2, 3] hnp ⟨rfl, ⟨⟨⟨⟨trivial, .inr ⟨rfl, rfl, rfl⟩⟩, .inr ⟨rfl, rfl, rfl⟩⟩, .inr ⟨rfl, rfl, rfl⟩⟩, .inr ⟨rfl, rfl, rfl⟩⟩, by decide, rfl, trivial⟩ (LeE.upd rfl rfl (LeE.upd rfl rfl (LeE.upd rfl rfl (LeE.upd rfl rfl (LeE.none rfl rfl)))))) ?_
    obtain ⟨y2924, H2922, H⟩ := bnd H
    refine WP.monoW (Q := fun x E M => match (generalizing := false) y2924 with | (Sum.inl _) => x = .ret ∧ E = (Env.none.upd 2 (.lit (.bool false))) ∧ M = Mem.nil | (Sum.inr _) => x = .exit 0 ∧ E = Env.none ∧ M = Mem.nil) ?_ ?_
    · refine WP.loop (β := Int × Int × (List Int) × (List Int)) (fun n b => f5_l0 k x1385 n b.1 b.2.1 b.2.2.1 b.2.2.2 = some y2924) (fun b => ((((Env.none.upd 0 (.ro (Rd.slice rdS34Op) false x1385)).upd 3 (.ptr 0 0)).upd 4 (.ptr 2 0)).upd 5 (.lit (.int .i64 b.1)))) (fun b => ((((Mem.nil.push (.cells 57 [.whole 1, .lit (.int .i64 b.2.1)])).push (.row 5 (Rd.int .u8) b.2.2.1)).push (.cells 45 [.whole 3])).push (.row 5 (Rd.int .u8) b.2.2.2))) k (0, 0, ([] : List Int), ([] : List Int)) H2922 rfl rfl ?_
      rintro n ⟨x2507, x2508, x2509, x2510⟩ H
      obtain _ | n := n
      · exact nf rfl H
      rw [f5_l0.eq_2] at H
      show WP _ _ _ _ ((((Env.none.upd 0 (.ro (Rd.slice rdS34Op) false x1385)).upd 3 (.ptr 0 0)).upd 4 (.ptr 2 0)).upd 5 (.lit (.int .i64 x2507))) ((((Mem.nil.push (.cells 57 [.whole 1, .lit (.int .i64 x2508)])).push (.row 5 (Rd.int .u8) x2509)).push (.cells 45 [.whole 3])).push (.row 5 (Rd.int .u8) x2510)) _
      refine WP.seq ?_
      refine WP.seq ?_
      refine WP.region ?_
      refine WPL.q (q_mv (v := .lit (.int _ _)) rfl) rfl ?_
      refine WPL.q (q_mv (v := .ro _ _ _) rfl) rfl ?_
      refine WPL.q (q_len_ro sl28 rfl) rfl ?_
      obtain ⟨x2718, h2718, H⟩ := bnd H
      refine WPL.q (q_nm (q_lss rfl rfl) (nm_bool h2718)) rfl ?_
      refine WPL.nilW ?_
      refine W.now ?_
      refine Then.n ?_
      refine WP.cond (t := x2718) rfl (fun hb => ?_) (fun hb => ?_)
      · replace H := cnt hb H
        refine WP.skipW ?_
        refine W.now ?_
        refine Then.n ?_
        refine WP.seq ?_
        refine WP.block ?_
        refine WP.seq ?_
        refine WP.region ?_
        refine WPL.q (q_mv (v := .ro _ _ _) rfl) rfl ?_
        refine WPL.q (q_mv (v := .lit (.int _ _)) rfl) rfl ?_
        obtain ⟨x2821, h2821, H⟩ := bnd H
        refine WPL.q (q_index_ro sl28 rfl rfl rfl h2821) rfl ?_
        refine WPL.q (q_load_roag ag34 rfl rfl S34Op.sp) rfl ?_
        refine WPL.d (d_alloc ze34 rfl) rfl ?_
        refine WPL.s (s_store sz34 rfl rfl rfl rfl rfl) ?_
        refine WPL.nilW ?_
        refine W.now ?_
        refine Then.n ?_
        refine WP.seq ?_
        obtain ⟨y2870, H2868, H⟩ := bnd H
        refine WP.monoW (Q := fun x E M => match (generalizing := false) y2870 with | (Sum.inl _) => x = .ret ∧ E = (Env.none.upd 2 (.lit (.bool false))) ∧ M = Mem.nil | (Sum.inr (x2844, x2845, x2846)) => x = .normal ∧ E = ((((Env.none.upd 0 (.ro (Rd.slice rdS34Op) false x1385)).upd 3 (.ptr 0 0)).upd 4 (.ptr 2 0)).upd 5 (.lit (.int .i64 x2507))) ∧ M = ((((Mem.nil.push (.cells 57 [.whole 1, .lit (.int .i64 x2844)])).push (.row 5 (Rd.int .u8) x2845)).push (.cells 45 [.whole 3])).push (.row 5 (Rd.int .u8) x2846))) ?_ ?_
        · clear H
          have H := H2868
          clear H2868
          refine WP.seq ?_
          refine WP.region ?_
          refine WPL.q (q_fieldAddr fi34_0 rfl rfl) rfl ?_
          refine WPL.q (q_load sc3 rfl rfl rfl) rfl ?_
          refine WPL.nilW ?_
          refine W.now ?_
          refine Then.n ?_
          refine WP.block ?_
          refine WP.seq ?_
          refine WP.region ?_
          refine WPL.q (q_eql rfl rfl) rfl ?_
          refine WPL.q (q_as (v := .lit (.bool _)) rfl) rfl ?_
          refine WPL.nilW ?_
          refine W.now ?_
          refine Then.n ?_
          refine WP.cond (t := (decide (x2821.fKind = 1))) rfl (fun hb => ?_) (fun hb => ?_)
          · replace H := cnt hb H
            refine WP.seq ?_
            refine WP.regionD' 13 [4] [] mixed rfl ?_
            refine WPD.take 0 rfl (by kernel_rfl) (q_mv (v := .ptr _ _) rfl) rfl rfl ?_
            refine WPD.take 1 rfl (by kernel_rfl) (q_fieldAddr fi34_2 rfl rfl) rfl rfl ?_
            refine WPD.take 2 rfl (by kernel_rfl) (q_load sc22 rfl rfl rfl) rfl rfl ?_
            refine WPD.take 3 rfl (by kernel_rfl) (q_fieldAddr fi34_1 rfl rfl) rfl rfl ?_
            refine WPD.take 4 rfl (by kernel_rfl) (q_load sc3 rfl rfl rfl) rfl rfl ?_
            refine WPD.take 6 rfl (by kernel_rfl) (q_mv (v := .ptr _ _) rfl) rfl rfl ?_
            refine WPD.take 7 rfl (by kernel_rfl) (q_fieldAddr fi34_2 rfl rfl) rfl rfl ?_
            refine WPD.take 8 rfl (by kernel_rfl) (q_load sc22 rfl rfl rfl) rfl rfl ?_
            refine WPD.take 9 rfl (by kernel_rfl) (q_fieldAddr fi34_1 rfl rfl) rfl rfl ?_
            refine WPD.take 10 rfl (by kernel_rfl) (q_load sc3 rfl rfl rfl) rfl rfl ?_
            obtain ⟨⟨x2855, x2856, x2857⟩, h2853, H⟩ := bnd H
            refine WPD.eff 5 [4] [] rfl (by kernel_rfl) (runs_call (s := [0, 1]) (t := [0, 5]) (N := 6) (bor := []) fn13 rfl (s13 k x2821.fV x2821.fN x2508 x2509 x2855 x2856 x2857 h2853) ⟨rfl, ⟨⟨trivial, .inr ⟨rfl, rfl, rfl⟩⟩, .inr ⟨rfl, rfl, rfl⟩⟩, by decide, rfl, trivial⟩ rfl trivial (.ren rfl rfl (.ren rfl rfl (.ren rfl rfl .nil))) rfl ⟨⟨trivial, rfl⟩, rfl⟩ rfl) rfl rfl ?_
            obtain ⟨⟨x2859, x2860⟩, h2857, H⟩ := bnd H
            refine WPD.eff 11 [4] [] rfl (by kernel_rfl) (runs_call (s := [2, 3]) (t := [2, 6]) (N := 7) (bor := []) fn18 rfl (s18 k x2821.fV x2821.fN x2510 x2859 x2860 h2857) ⟨rfl, ⟨⟨trivial, .inr ⟨rfl, rfl, rfl⟩⟩, .inr ⟨rfl, rfl, rfl⟩⟩, by decide, rfl, trivial⟩ rfl trivial (.ren rfl rfl (.ren rfl rfl (.ren rfl rfl .nil))) rfl ⟨⟨trivial, rfl⟩, rfl⟩ rfl) rfl rfl ?_
            refine WPD.take 12 rfl (by kernel_rfl) (q_neq rfl rfl) rfl rfl ?_
            refine WPD.doneW (by kernel_rfl) ?_
            refine W.now ?_
            refine Then.n ?_
            refine WP.cond (t := (!decide (x2855 = x2859))) rfl (fun hb => ?_) (fun hb => ?_)
            · replace H := cnt hb H
              refine WP.seq ?_
              refine WP.region ?_
              refine WPL.q (q_as (v := .lit (.bool _)) rfl) rfl ?_
              refine WPL.nilW ?_
              refine W.now ?_
              refine Then.n ?_
              refine WP.retW ?_
              refine W.cv (Cv.weak (E' := (Env.none.upd 2 (.lit (.bool false)))) (M' := Mem.nil) [] hnp ⟨rfl, trivial, by decide, rfl, trivial⟩ (LeE.upd rfl rfl (LeE.none rfl rfl))) rfl ?_
              refine W.now ?_
              refine InBlock.r ?_
              have q0 := Option.some.inj H
              subst q0
              exact ⟨rfl, rfl, rfl⟩
            · replace H := cnf hb H
              refine WP.skipW ?_
              refine W.cv (Cv.weak (E' := ((((Env.none.upd 0 (.ro (Rd.slice rdS34Op) false x1385)).upd 3 (.ptr 0 0)).upd 4 (.ptr 2 0)).upd 5 (.lit (.int .i64 x2507)))) (M' := ((((Mem.nil.push (.cells 57 [.whole 1, .lit (.int .i64 x2856)])).push (.row 5 (Rd.int .u8) x2857)).push (.cells 45 [.whole 3])).push (.row 5 (Rd.int .u8) x2860))) [0, 5, 2, 6] hnp ⟨rfl, ⟨⟨⟨⟨trivial, .inr ⟨rfl, rfl, rfl⟩⟩, .inr ⟨rfl, rfl, rfl⟩⟩, .inr ⟨rfl, rfl, rfl⟩⟩, .inr ⟨rfl, rfl, rfl⟩⟩, by decide, rfl, trivial⟩ (LeE.upd rfl rfl (LeE.upd rfl rfl (LeE.upd rfl rfl (LeE.upd rfl rfl (LeE.none rfl rfl)))))) rfl ?_
              refine W.now ?_
              refine InBlock.n ?_
              have q0 := Option.some.inj H
              subst q0
              exact ⟨rfl, rfl, rfl⟩
          · replace H := cnf hb H
            refine WP.seq ?_
            refine WP.region ?_
            refine WPL.q (q_eql rfl rfl) rfl ?_
            refine WPL.q (q_as (v := .lit (.bool _)) rfl) rfl ?_
            refine WPL.nilW ?_
            refine W.now ?_
            refine Then.n ?_
            refine WP.cond (t := (decide (x2821.fKind = 2))) rfl (fun hb => ?_) (fun hb => ?_)
            · replace H := cnt hb H
              refine WP.seq ?_
              refine WP.region ?_
              refine WPL.q (q_mv (v := .ptr _ _) rfl) rfl ?_
              obtain ⟨x2862, h2860, H⟩ := bnd H
              refine WPL.c (runs_call (s := [0, 1]) (t := [0, 5]) (N := 6) (bor := []) fn19 rfl (s19 k x2508 x2509 x2862 h2860) ⟨rfl, ⟨⟨trivial, .inr ⟨rfl, rfl, rfl⟩⟩, .inr ⟨rfl, rfl, rfl⟩⟩, by decide, rfl, trivial⟩ rfl trivial (.ren rfl rfl .nil) rfl ⟨⟨trivial, rfl⟩, rfl⟩ rfl) rfl ?_
              refine WPL.nilW ?_
              refine W.now ?_
              refine Then.n ?_
              refine WP.region ?_
              refine WPL.q (q_mv (v := .ptr _ _) rfl) rfl ?_
              obtain ⟨x2864, h2862, H⟩ := bnd H
              refine WPL.c (runs_call (s := [2, 3]) (t := [2, 6]) (N := 7) (bor := []) fn20 rfl (s20 k x2510 x2864 h2862) ⟨rfl, ⟨⟨trivial, .inr ⟨rfl, rfl, rfl⟩⟩, .inr ⟨rfl, rfl, rfl⟩⟩, by decide, rfl, trivial⟩ rfl trivial (.ren rfl rfl .nil) rfl ⟨⟨trivial, rfl⟩, rfl⟩ rfl) rfl ?_
              refine WPL.nilW ?_
              refine W.cv (Cv.weak (E' := ((((Env.none.upd 0 (.ro (Rd.slice rdS34Op) false x1385)).upd 3 (.ptr 0 0)).upd 4 (.ptr 2 0)).upd 5 (.lit (.int .i64 x2507)))) (M' := ((((Mem.nil.push (.cells 57 [.whole 1, .lit (.int .i64 x2862)])).push (.row 5 (Rd.int .u8) x2509)).push (.cells 45 [.whole 3])).push (.row 5 (Rd.int .u8) x2864))) [0, 5, 2, 6] hnp ⟨rfl, ⟨⟨⟨⟨trivial, .inr ⟨rfl, rfl, rfl⟩⟩, .inr ⟨rfl, rfl, rfl⟩⟩, .inr ⟨rfl, rfl, rfl⟩⟩, .inr ⟨rfl, rfl, rfl⟩⟩, by decide, rfl, trivial⟩ (LeE.upd rfl rfl (LeE.upd rfl rfl (LeE.upd rfl rfl (LeE.upd rfl rfl (LeE.none rfl rfl)))))) rfl ?_
              refine W.now ?_
              refine InBlock.n ?_
              have q0 := Option.some.inj H
              subst q0
              exact ⟨rfl, rfl, rfl⟩
            · replace H := cnf hb H
              refine WP.seq ?_
              refine WP.region ?_
              refine WPL.q (q_eql rfl rfl) rfl ?_
              refine WPL.q (q_as (v := .lit (.bool _)) rfl) rfl ?_
              refine WPL.nilW ?_
              refine W.now ?_
              refine Then.n ?_
              refine WP.cond (t := (decide (x2821.fKind = 3))) rfl (fun hb => ?_) (fun hb => ?_)
              · replace H := cnt hb H
                refine WP.seq ?_
                refine WP.region ?_
                refine WPL.q (q_mv (v := .ptr _ _) rfl) rfl ?_
                refine WPL.q (q_fieldAddr fi34_3 rfl rfl) rfl ?_
                refine WPL.q (q_load sc23 rfl rfl rfl) rfl ?_
                obtain ⟨x2866, h2864, H⟩ := bnd H
                refine WPL.c (runs_call (s := [0, 1]) (t := [0, 5]) (N := 6) (bor := []) fn21 rfl (s21 k x2821.fB x2508 x2509 x2866 h2864) ⟨rfl, ⟨⟨trivial, .inr ⟨rfl, rfl, rfl⟩⟩, .inr ⟨rfl, rfl, rfl⟩⟩, by decide, rfl, trivial⟩ rfl trivial (.ren rfl rfl (.ren rfl rfl .nil)) rfl ⟨⟨trivial, rfl⟩, rfl⟩ rfl) rfl ?_
                refine WPL.nilW ?_
                refine W.now ?_
                refine Then.n ?_
                refine WP.region ?_
                refine WPL.q (q_mv (v := .ptr _ _) rfl) rfl ?_
                refine WPL.q (q_fieldAddr fi34_3 rfl rfl) rfl ?_
                refine WPL.q (q_load sc23 rfl rfl rfl) rfl ?_
                obtain ⟨x2868, h2866, H⟩ := bnd H
                refine WPL.c (runs_call (s := [2, 3]) (t := [2, 6]) (N := 7) (bor := []) fn22 rfl (s22 k x2821.fB x2510 x2868 h2866) ⟨rfl, ⟨⟨trivial, .inr ⟨rfl, rfl, rfl⟩⟩, .inr ⟨rfl, rfl, rfl⟩⟩, by decide, rfl, trivial⟩ rfl trivial (.ren rfl rfl (.ren rfl rfl .nil)) rfl ⟨⟨trivial, rfl⟩, rfl⟩ rfl) rfl ?_
                refine WPL.nilW ?_
                refine W.cv (Cv.weak (E' := ((((Env.none.upd 0 (.ro (Rd.slice rdS34Op) false x1385)).upd 3 (.ptr 0 0)).upd 4 (.ptr 2 0)).upd 5 (.lit (.int .i64 x2507)))) (M' := ((((Mem.nil.push (.cells 57 [.whole 1, .lit (.int .i64 x2866)])).push (.row 5 (Rd.int .u8) (x2509 ++ x2821.fB))).push (.cells 45 [.whole 3])).push (.row 5 (Rd.int .u8) x2868))) [0, 5, 2, 6] hnp ⟨rfl, ⟨⟨⟨⟨trivial, .inr ⟨rfl, rfl, rfl⟩⟩, .inr ⟨rfl, rfl, rfl⟩⟩, .inr ⟨rfl, rfl, rfl⟩⟩, .inr ⟨rfl, rfl, rfl⟩⟩, by decide, rfl, trivial⟩ (LeE.upd rfl rfl (LeE.upd rfl rfl (LeE.upd rfl rfl (LeE.upd rfl rfl (LeE.none rfl rfl)))))) rfl ?_
                refine W.now ?_
                refine InBlock.n ?_
                have q0 := Option.some.inj H
                subst q0
                exact ⟨rfl, rfl, rfl⟩
              · replace H := cnf hb H
                refine WP.skipW ?_
                refine W.cv (Cv.weak (E' := ((((Env.none.upd 0 (.ro (Rd.slice rdS34Op) false x1385)).upd 3 (.ptr 0 0)).upd 4 (.ptr 2 0)).upd 5 (.lit (.int .i64 x2507)))) (M' := ((((Mem.nil.push (.cells 57 [.whole 1, .lit (.int .i64 x2508)])).push (.row 5 (Rd.int .u8) x2509)).push (.cells 45 [.whole 3])).push (.row 5 (Rd.int .u8) x2510))) [0, 1, 2, 3] hnp ⟨rfl, ⟨⟨⟨⟨trivial, .inr ⟨rfl, rfl, rfl⟩⟩, .inr ⟨rfl, rfl, rfl⟩⟩, .inr ⟨rfl, rfl, rfl⟩⟩, .inr ⟨rfl, rfl, rfl⟩⟩, by decide, rfl, trivial⟩ (LeE.upd rfl rfl (LeE.upd rfl rfl (LeE.upd rfl rfl (LeE.upd rfl rfl (LeE.none rfl rfl)))))) rfl ?_
                refine W.now ?_
                refine InBlock.n ?_
                have q0 := Option.some.inj H
                subst q0
                exact ⟨rfl, rfl, rfl⟩
        · rcases y2870 with _ | ⟨x2844, x2845, x2846⟩
          · rintro _ _ _ ⟨rfl, rfl, rfl⟩
            refine W.cv (Cv.weak (E' := (Env.none.upd 2 (.lit (.bool false)))) (M' := Mem.nil) [] hnp ⟨rfl, trivial, by decide, rfl, trivial⟩ (LeE.upd rfl rfl (LeE.none rfl rfl))) rfl ?_
            refine W.now ?_
            refine Then.r ?_
            refine InBlock.r ?_
            refine Then.r ?_
            refine Then.r ?_
            have q0 := Option.some.inj H
            subst q0
            exact ⟨rfl, rfl, rfl⟩
          · rintro _ _ _ ⟨rfl, rfl, rfl⟩
            refine W.now ?_
            refine Then.n ?_
            refine WP.seq ?_
            obtain ⟨x2896, H2921, H⟩ := bnd H
            refine WP.monoW (Q := fun x E M => x = .normal ∧ E = (((((Env.none.upd 0 (.ro (Rd.slice rdS34Op) false x1385)).upd 3 (.ptr 0 0)).upd 4 (.ptr 2 0)).upd 5 (.lit (.int .i64 x2507))).upd 74 (.lit (.bool x2896))) ∧ M = ((((Mem.nil.push (.cells 57 [.whole 1, .lit (.int .i64 x2844)])).push (.row 5 (Rd.int .u8) x2845)).push (.cells 45 [.whole 3])).push (.row 5 (Rd.int .u8) x2846))) ?_ ?_
            · clear H
              have H := H2921
              clear H2921
              refine WP.regionD' 16 [2] [12] mixed rfl ?_
              refine WPD.take 0 rfl (by kernel_rfl) (q_mv (v := .ptr _ _) rfl) rfl rfl ?_
              refine WPD.take 2 rfl (by kernel_rfl) (q_mv (v := .ptr _ _) rfl) rfl rfl ?_
              refine WPD.take 3 rfl (by kernel_rfl) (q_nilCheck rfl) rfl rfl ?_
              refine WPD.take 4 rfl (by kernel_rfl) (q_fieldAddr fi45_0 rfl rfl) rfl rfl ?_
              refine WPD.take 5 rfl (by kernel_rfl) (q_load sc23 rfl rfl rfl) rfl rfl ?_
              refine WPD.take 6 rfl (by kernel_rfl) (q_len_row sl23 rfl rfl) rfl rfl ?_
              obtain ⟨_, h2912, H⟩ := bnd H
              refine WPD.eff 1 [2] [12] rfl (by kernel_rfl) (runs_call (s := [0, 1]) (t := [0, 4]) (N := 5) (bor := []) fn23 rfl (s23 k x2844 x2845 h2912) ⟨rfl, ⟨⟨trivial, .inr ⟨rfl, rfl, rfl⟩⟩, .inr ⟨rfl, rfl, rfl⟩⟩, by decide, rfl, trivial⟩ rfl trivial (.ren rfl rfl .nil) rfl ⟨⟨trivial, rfl⟩, rfl⟩ rfl) rfl rfl ?_
              obtain ⟨x2914, h2914, H⟩ := bnd H
              refine WPD.take 7 rfl (by kernel_rfl) (q_nm (q_neq rfl rfl) (nm_bool h2914)) rfl rfl ?_
              refine WPD.take 8 rfl (by kernel_rfl) (q_mv (v := .lit (.bool _)) rfl) rfl rfl ?_
              refine WPD.split (t := 67) (b := x2914) rfl (fun hb2914 => ?_) (fun hb2914 => ?_)
              · replace H := cnt hb2914 H
                refine WPD.pass (b' := true) 9 rfl (by kernel_rfl) rfl rfl (lb hb2914) rfl rfl ?_
                refine WPD.pass (b' := true) 10 rfl (by kernel_rfl) rfl rfl (lb hb2914) rfl rfl ?_
                refine WPD.pass (b' := true) 11 rfl (by kernel_rfl) rfl rfl (lb hb2914) rfl rfl ?_
                refine WPD.sub [] rfl ?_
                refine WPD.pass (b' := true) 12 rfl (by kernel_rfl) rfl rfl (lb hb2914) rfl rfl ?_
                refine WPD.pass (b' := true) 13 rfl (by kernel_rfl) rfl rfl (lb hb2914) rfl rfl ?_
                refine WPD.pass (b' := true) 14 rfl (by kernel_rfl) rfl rfl (lb hb2914) rfl rfl ?_
                refine WPD.take 15 rfl (by kernel_rfl) (q_pickT (v := .lit (.bool _)) (lb hb2914) rfl) rfl rfl ?_
                refine WPD.doneW (by kernel_rfl) ?_
                refine W.cv (Cv.weak (E' := (((((Env.none.upd 0 (.ro (Rd.slice rdS34Op) false x1385)).upd 3 (.ptr 0 0)).upd 4 (.ptr 2 0)).upd 5 (.lit (.int .i64 x2507))).upd 74 (.lit (.bool true)))) (M' := ((((Mem.nil.push (.cells 57 [.whole 1, .lit (.int .i64 x2844)])).push (.row 5 (Rd.int .u8) x2845)).push (.cells 45 [.whole 3])).push (.row 5 (Rd.int .u8) x2846))) [0, 4, 2, 3] hnp ⟨rfl, ⟨⟨⟨⟨trivial, .inr ⟨rfl, rfl, rfl⟩⟩, .inr ⟨rfl, rfl, rfl⟩⟩, .inr ⟨rfl, rfl, rfl⟩⟩, .inr ⟨rfl, rfl, rfl⟩⟩, by decide, rfl, trivial⟩ (LeE.upd rfl rfl (LeE.upd rfl rfl (LeE.upd rfl rfl (LeE.upd rfl rfl (LeE.upd rfl rfl (LeE.none rfl rfl))))))) rfl ?_
                refine W.now ?_
                have q0 := (Option.some.inj H)
                subst q0
                exact ⟨rfl, rfl, rfl⟩
              · replace H := cnf hb2914 H
                refine WPD.takeg 9 rfl (by kernel_rfl) rfl rfl (lb hb2914) (q_mv (v := .ptr _ _) rfl) rfl rfl ?_
                refine WPD.takeg 11 rfl (by kernel_rfl) rfl rfl (lb hb2914) (q_mv (v := .ptr _ _) rfl) rfl rfl ?_
                obtain ⟨x2917, h2915, H⟩ := bnd H
                refine WPD.effg 10 [2] [12] rfl (by kernel_rfl) rfl rfl (lb hb2914) (runs_call (s := [0, 4]) (t := [0, 5]) (N := 6) (bor := []) fn15 rfl (s15 k x2844 x2845 x2917 h2915) ⟨rfl, ⟨⟨trivial, .inr ⟨rfl, rfl, rfl⟩⟩, .inr ⟨rfl, rfl, rfl⟩⟩, by decide, rfl, trivial⟩ rfl trivial (.ren rfl rfl .nil) rfl ⟨⟨trivial, rfl⟩, rfl⟩ rfl) rfl rfl ?_
                obtain ⟨x2919, h2917, H⟩ := bnd H
                refine WPD.effg 12 [] [] rfl (by kernel_rfl) rfl rfl (lb hb2914) (runs_call (s := [2, 3]) (t := [2, 6]) (N := 7) (bor := []) fn25 rfl (s25 k x2846 x2919 h2917) ⟨rfl, ⟨⟨trivial, .inr ⟨rfl, rfl, rfl⟩⟩, .inr ⟨rfl, rfl, rfl⟩⟩, by decide, rfl, trivial⟩ rfl trivial (.ren rfl rfl .nil) rfl ⟨⟨trivial, rfl⟩, rfl⟩ rfl) rfl rfl ?_
                obtain ⟨x2921, h2919, H⟩ := bnd H
                refine WPD.effg 13 [] [] rfl (by kernel_rfl) rfl rfl (lb hb2914) (runs_call (s := []) (t := []) (N := 7) (bor := []) fn24 rfl (s24 k x2917 x2919 x2921 h2919) ⟨rfl, trivial, by decide, rfl, trivial⟩ rfl trivial (.ren rfl rfl (.ren rfl rfl .nil)) rfl trivial rfl) rfl rfl ?_
                refine WPD.takeg 14 rfl (by kernel_rfl) rfl rfl (lb hb2914) (q_not rfl) rfl rfl ?_
                refine WPD.take 15 rfl (by kernel_rfl) (q_pickF (v := .lit (.bool _)) (lb hb2914) rfl) rfl rfl ?_
                refine WPD.doneW (by kernel_rfl) ?_
                refine W.cv (Cv.weak (E' := (((((Env.none.upd 0 (.ro (Rd.slice rdS34Op) false x1385)).upd 3 (.ptr 0 0)).upd 4 (.ptr 2 0)).upd 5 (.lit (.int .i64 x2507))).upd 74 (.lit (.bool (!x2921))))) (M' := ((((Mem.nil.push (.cells 57 [.whole 1, .lit (.int .i64 x2844)])).push (.row 5 (Rd.int .u8) x2845)).push (.cells 45 [.whole 3])).push (.row 5 (Rd.int .u8) x2846))) [0, 5, 2, 6] hnp ⟨rfl, ⟨⟨⟨⟨trivial, .inr ⟨rfl, rfl, rfl⟩⟩, .inr ⟨rfl, rfl, rfl⟩⟩, .inr ⟨rfl, rfl, rfl⟩⟩, .inr ⟨rfl, rfl, rfl⟩⟩, by decide, rfl, trivial⟩ (LeE.upd rfl rfl (LeE.upd rfl rfl (LeE.upd rfl rfl (LeE.upd rfl rfl (LeE.upd rfl rfl (LeE.none rfl rfl))))))) rfl ?_
                refine W.now ?_
                have q0 := (Option.some.inj H)
                subst q0
                exact ⟨rfl, rfl, rfl⟩
            · rintro _ _ _ ⟨rfl, rfl, rfl⟩
              refine W.now ?_
              refine Then.n ?_
              refine WP.cond (t := x2896) rfl (fun hb => ?_) (fun hb => ?_)
              · replace H := cnt hb H
                refine WP.seq ?_
                refine WP.region ?_
                refine WPL.q (q_as (v := .lit (.bool _)) rfl) rfl ?_
                refine WPL.nilW ?_
                refine W.now ?_
                refine Then.n ?_
                refine WP.retW ?_
                refine W.cv (Cv.weak (E' := (Env.none.upd 2 (.lit (.bool false)))) (M' := Mem.nil) [] hnp ⟨rfl, trivial, by decide, rfl, trivial⟩ (LeE.upd rfl rfl (LeE.none rfl rfl))) rfl ?_
                refine W.now ?_
                refine InBlock.r ?_
                refine Then.r ?_
                refine Then.r ?_
                have q0 := Option.some.inj H
                subst q0
                exact ⟨rfl, rfl, rfl⟩
              · replace H := cnf hb H
                refine WP.skipW ?_
                refine W.now ?_
                refine InBlock.n ?_
                refine Then.n ?_
                refine WP.region ?_
                refine WPL.q (q_mv (v := .lit (.int _ _)) rfl) rfl ?_
                refine WPL.q (q_add rfl rfl) rfl ?_
                refine WPL.q (q_as (v := .lit (.int _ _)) rfl) rfl ?_
                refine WPL.nilW ?_
                refine W.cv (Cv.weak (E' := ((((Env.none.upd 0 (.ro (Rd.slice rdS34Op) false x1385)).upd 3 (.ptr 0 0)).upd 4 (.ptr 2 0)).upd 5 (.lit (.int .i64 (IntKind.wrap .i64 (x2507 + 1)))))) (M' := ((((Mem.nil.push (.cells 57 [.whole 1, .lit (.int .i64 x2844)])).push (.row 5 (Rd.int .u8) x2845)).push (.cells 45 [.whole 3])).push (.row 5 (Rd.int .u8) x2846))) [0, 1, 2, 3] hnp ⟨rfl, ⟨⟨⟨⟨trivial, .inr ⟨rfl, rfl, rfl⟩⟩, .inr ⟨rfl, rfl, rfl⟩⟩, .inr ⟨rfl, rfl, rfl⟩⟩, .inr ⟨rfl, rfl, rfl⟩⟩, by decide, rfl, trivial⟩ (LeE.upd rfl rfl (LeE.upd rfl rfl (LeE.upd rfl rfl (LeE.upd rfl rfl (LeE.none rfl rfl)))))) rfl ?_
                refine W.now ?_
                exact Then.n ⟨n, ((IntKind.wrap .i64 (x2507 + 1)), x2844, x2845, x2846), Nat.lt_succ_self n, H, rfl, rfl⟩
      · replace H := cnf hb H
        refine WP.exitW ?_
        refine W.cv (Cv.weak (E' := Env.none) (M' := Mem.nil) [] hnp ⟨rfl, trivial, by decide, rfl, trivial⟩ (LeE.none rfl rfl)) rfl ?_
        refine W.now ?_
        refine Then.x ?_
        refine Then.x ?_
        have q0 := Option.some.inj H
        subst q0
        exact ⟨rfl, rfl, rfl⟩
    · rcases y2924 with _ | _
      · rintro _ _ _ ⟨rfl, rfl, rfl⟩
        refine W.now ?_
        refine InBlock.r ?_
        refine Then.r ?_
        have q0 := (Option.some.inj H)
        subst q0
        exact ⟨trivial, _, rfl, [], (.lit (.bool false)), Mem.nil, ⟨rfl, trivial, by decide, rfl, trivial⟩, rfl, rfl, rfl, rfl⟩
      · rintro _ _ _ ⟨rfl, rfl, rfl⟩
        refine W.now ?_
        refine InBlock.x0 ?_
        refine Then.n ?_
        refine WP.seq ?_
        refine WP.region ?_
        refine WPL.q (q_as (v := .lit (.bool _)) rfl) rfl ?_
        refine WPL.nilW ?_
        refine W.now ?_
        refine Then.n ?_
        refine WP.retW ?_
        refine W.now ?_
        have q0 := (Option.some.inj H)
        subst q0
        exact ⟨trivial, _, rfl, [], (.lit (.bool true)), Mem.nil, ⟨rfl, trivial, by decide, rfl, trivial⟩, rfl, rfl, rfl, rfl⟩
end Go.Proofs.Yticbhcccdfcogaa.W
