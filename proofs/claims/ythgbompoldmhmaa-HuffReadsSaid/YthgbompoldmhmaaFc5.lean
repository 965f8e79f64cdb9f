/- Walks: Fc5 -/
import Derived.Test.YthgbompoldmhmaaFb
import Derived.Test.YthgbompoldmhmaaFc0
import Derived.Test.YthgbompoldmhmaaFc4
namespace Go.Proofs.Ythgbompoldmhmaa.W
open Go Go.Q Go.Proofs
set_option linter.unusedVariables false
set_option linter.unusedSimpArgs false
set_option maxRecDepth 100000 in
set_option maxHeartbeats 4000000 in
theorem s30 (k : Nat) (x5403 : (List Int)) (x5441 : Int) (x5442 : Int) (H : f30 k x5403 = some (x5441, x5442)) : Go.Q.Spec Try.prog 30 0 [.ro (Rd.slice (Rd.int .i64)) false x5403] Mem.nil (fun o M => o = .ret (.tup [.lit (.int .i64 x5441), .lit (.int .i64 x5442)]) ∧ M = Mem.nil) := by
  unfold f30 at H
  refine Go.Q.Spec.of_bodyR (rs := [.tmp 2, .tmp 3]) (nt := 31) Try.func30 rfl rfl (by intro t T h; simp at h) rfl rfl fun cx hnp => ?_
  refine WP.seq ?_
  refine WP.region ?_
  refine WPL.q (q_as (v := .lit (.int _ _)) rfl) rfl ?_
  refine WPL.q (q_as (v := .lit (.int _ _)) rfl) rfl ?_
  refine WPL.nilW ?_
  refine W.now ?_
  refine Then.n ?_
  refine WP.seq ?_
  refine WP.region ?_
  refine WPL.q (q_as (v := .lit (.int _ _)) rfl) rfl ?_
  refine WPL.q (q_as (v := .lit (.int _ _)) rfl) rfl ?_
  refine WPL.nilW ?_
  refine W.now ?_
  refine Then.n ?_
  refine WP.seq ?_
  refine WP.seq ?_
  refine WP.region ?_
  refine WPL.q (q_as (v := .lit (.int _ _)) rfl) rfl ?_
  refine WPL.nilW ?_
  refine W.now ?_
  refine Then.n ?_
  refine WP.block ?_
  refine WP.cv (Cv.weak (E' := ((((Env.none.upd 0 (.ro (Rd.slice (Rd.int .i64)) false x5403)).upd 4 (.lit (.int .i64 0))).upd 5 (.lit (.int .i64 0))).upd 6 (.lit (.int .i64 0)))) (M' := Mem.nil) [] hnp ⟨rfl, trivial, by decide, rfl, trivial⟩ (LeE.upd rfl rfl (LeE.upd rfl rfl (LeE.upd rfl rfl (LeE.upd rfl rfl (LeE.none rfl rfl)))))) ?_
  obtain ⟨⟨x5476, x5477⟩, H5492, H⟩ := bnd H
  refine WP.monoW (Q := fun x E M => x = .exit 0 ∧ E = ((Env.none.upd 4 (.lit (.int .i64 x5476))).upd 5 (.lit (.int .i64 x5477))) ∧ M = Mem.nil) ?_ ?_
  · refine WP.loop (β := Int × Int × Int) (fun n b => f30_l0 k x5403 n b.1 b.2.1 b.2.2 = some (x5476, x5477)) (fun b => ((((Env.none.upd 0 (.ro (Rd.slice (Rd.int .i64)) false x5403)).upd 4 (.lit (.int .i64 b.1))).upd 5 (.lit (.int .i64 b.2.1))).upd 6 (.lit (.int .i64 b.2.2)))) (fun b => Mem.nil) k (0, 0, 0) H5492 rfl rfl ?_
    rintro n ⟨x5458, x5459, x5460⟩ H
    obtain _ | n := n
    · exact nf rfl H
    rw [f30_l0.eq_2] at H
    show WP _ _ _ _ ((((Env.none.upd 0 (.ro (Rd.slice (Rd.int .i64)) false x5403)).upd 4 (.lit (.int .i64 x5458))).upd 5 (.lit (.int .i64 x5459))).upd 6 (.lit (.int .i64 x5460))) Mem.nil _
    refine WP.seq ?_
    refine WP.seq ?_
    refine WP.region ?_
    refine WPL.q (q_mv (v := .lit (.int _ _)) rfl) rfl ?_
    refine WPL.q (q_mv (v := .ro _ _ _) rfl) rfl ?_
    refine WPL.q (q_len_ro sl22 rfl) rfl ?_
    obtain ⟨x5479, h5479, H⟩ := bnd H
    refine WPL.q (q_nm (q_lss rfl rfl) (nm_bool h5479)) rfl ?_
    refine WPL.nilW ?_
    refine W.now ?_
    refine Then.n ?_
    refine WP.cond (t := x5479) rfl (fun hb => ?_) (fun hb => ?_)
    · replace H := cnt hb H
      refine WP.skipW ?_
      refine W.now ?_
      refine Then.n ?_
      refine WP.seq ?_
      obtain ⟨⟨x5485, x5486⟩, H5491, H⟩ := bnd H
      refine WP.monoW (Q := fun x E M => x = .normal ∧ E = ((((Env.none.upd 0 (.ro (Rd.slice (Rd.int .i64)) false x5403)).upd 4 (.lit (.int .i64 x5485))).upd 5 (.lit (.int .i64 x5486))).upd 6 (.lit (.int .i64 x5460))) ∧ M = Mem.nil) ?_ ?_
      · clear H
        have H := H5491
        clear H5491
        refine WP.block ?_
        refine WP.seq ?_
        refine WP.region ?_
        refine WPL.q (q_mv (v := .ro _ _ _) rfl) rfl ?_
        refine WPL.q (q_mv (v := .lit (.int _ _)) rfl) rfl ?_
        obtain ⟨x5487, h5487, H⟩ := bnd H
        refine WPL.q (q_index_ro sl22 rfl rfl rfl h5487) rfl ?_
        refine WPL.q (q_load_sc sc3 rfl) rfl ?_
        refine WPL.q (q_gtr rfl rfl) rfl ?_
        refine WPL.nilW ?_
        refine W.now ?_
        refine Then.n ?_
        refine WP.cond (t := (decide (0 < x5487))) rfl (fun hb => ?_) (fun hb => ?_)
        · replace H := cnt hb H
          refine WP.seq ?_
          refine WP.region ?_
          refine WPL.q (q_mv (v := .lit (.int _ _)) rfl) rfl ?_
          refine WPL.q (q_mv (v := .ro _ _ _) rfl) rfl ?_
          refine WPL.q (q_mv (v := .lit (.int _ _)) rfl) rfl ?_
          obtain ⟨x5488, h5488, H⟩ := bnd H
          refine WPL.q (q_index_ro sl22 rfl rfl rfl h5488) rfl ?_
          refine WPL.q (q_load_sc sc3 rfl) rfl ?_
          refine WPL.q (q_sub rfl rfl) rfl ?_
          obtain ⟨x5489, h5489, H⟩ := bnd H
          refine WPL.q (q_nm (q_conv Try.underlying3 Try.underlying27 rfl) (nm_int h5489)) rfl ?_
          obtain ⟨h5489, H⟩ := grd H
          refine WPL.q (q_shl rfl rfl h5489) rfl ?_
          obtain ⟨x5491, h5491, H⟩ := bnd H
          refine WPL.q (q_nm (q_add rfl rfl) (nm_int h5491)) rfl ?_
          refine WPL.q (q_as (v := .lit (.int _ _)) rfl) rfl ?_
          refine WPL.nilW ?_
          refine W.now ?_
          refine Then.n ?_
          refine WP.region ?_
          refine WPL.q (q_mv (v := .lit (.int _ _)) rfl) rfl ?_
          refine WPL.q (q_add rfl rfl) rfl ?_
          refine WPL.q (q_as (v := .lit (.int _ _)) rfl) rfl ?_
          refine WPL.nilW ?_
          refine W.cv (Cv.weak (E' := ((((Env.none.upd 0 (.ro (Rd.slice (Rd.int .i64)) false x5403)).upd 4 (.lit (.int .i64 x5491))).upd 5 (.lit (.int .i64 (IntKind.wrap .i64 (x5459 + 1))))).upd 6 (.lit (.int .i64 x5460)))) (M' := Mem.nil) [] hnp ⟨rfl, trivial, by decide, rfl, trivial⟩ (LeE.upd rfl rfl (LeE.upd rfl rfl (LeE.upd rfl rfl (LeE.upd rfl rfl (LeE.none rfl rfl)))))) rfl ?_
          refine W.now ?_
          refine InBlock.n ?_
          have q0 := (Prod.mk.inj (Option.some.inj H)).1
          have q1 := (Prod.mk.inj (Option.some.inj H)).2
          subst q0
          subst q1
          exact ⟨rfl, rfl, rfl⟩
        · replace H := cnf hb H
          refine WP.skipW ?_
          refine W.cv (Cv.weak (E' := ((((Env.none.upd 0 (.ro (Rd.slice (Rd.int .i64)) false x5403)).upd 4 (.lit (.int .i64 x5458))).upd 5 (.lit (.int .i64 x5459))).upd 6 (.lit (.int .i64 x5460)))) (M' := Mem.nil) [] hnp ⟨rfl, trivial, by decide, rfl, trivial⟩ (LeE.upd rfl rfl (LeE.upd rfl rfl (LeE.upd rfl rfl (LeE.upd rfl rfl (LeE.none rfl rfl)))))) rfl ?_
          refine W.now ?_
          refine InBlock.n ?_
          have q0 := (Prod.mk.inj (Option.some.inj H)).1
          have q1 := (Prod.mk.inj (Option.some.inj H)).2
          subst q0
          subst q1
          exact ⟨rfl, rfl, rfl⟩
      · rintro _ _ _ ⟨rfl, rfl, rfl⟩
        refine W.now ?_
        refine Then.n ?_
        refine WP.region ?_
        refine WPL.q (q_mv (v := .lit (.int _ _)) rfl) rfl ?_
        refine WPL.q (q_add rfl rfl) rfl ?_
        refine WPL.q (q_as (v := .lit (.int _ _)) rfl) rfl ?_
        refine WPL.nilW ?_
        refine W.cv (Cv.weak (E' := ((((Env.none.upd 0 (.ro (Rd.slice (Rd.int .i64)) false x5403)).upd 4 (.lit (.int .i64 x5485))).upd 5 (.lit (.int .i64 x5486))).upd 6 (.lit (.int .i64 (IntKind.wrap .i64 (x5460 + 1)))))) (M' := Mem.nil) [] hnp ⟨rfl, trivial, by decide, rfl, trivial⟩ (LeE.upd rfl rfl (LeE.upd rfl rfl (LeE.upd rfl rfl (LeE.upd rfl rfl (LeE.none rfl rfl)))))) rfl ?_
        refine W.now ?_
        exact Then.n ⟨n, (x5485, x5486, (IntKind.wrap .i64 (x5460 + 1))), Nat.lt_succ_self n, H, rfl, rfl⟩
    · replace H := cnf hb H
      refine WP.exitW ?_
      refine W.cv (Cv.weak (E' := ((Env.none.upd 4 (.lit (.int .i64 x5458))).upd 5 (.lit (.int .i64 x5459)))) (M' := Mem.nil) [] hnp ⟨rfl, trivial, by decide, rfl, trivial⟩ (LeE.upd rfl rfl (LeE.upd rfl rfl (LeE.none rfl rfl)))) rfl ?_
      refine W.now ?_
      refine Then.x ?_
      refine Then.x ?_
      have q0 := (Prod.mk.inj (Option.some.inj H)).1
      have q1 := (Prod.mk.inj (Option.some.inj H)).2
      subst q0
      subst q1
      exact ⟨rfl, rfl, rfl⟩
  · rintro _ _ _ ⟨rfl, rfl, rfl⟩
    refine W.now ?_
    refine InBlock.x0 ?_
    refine Then.n ?_
    refine WP.seq ?_
    refine WP.region ?_
    refine WPL.q (q_mv (v := .lit (.int _ _)) rfl) rfl ?_
    refine WPL.q (q_mv (v := .lit (.int _ _)) rfl) rfl ?_
    refine WPL.q (q_as (v := .lit (.int _ _)) rfl) rfl ?_
    refine WPL.q (q_as (v := .lit (.int _ _)) rfl) rfl ?_
    refine WPL.nilW ?_
    refine W.now ?_
    refine Then.n ?_
    refine WP.retW ?_
    refine W.now ?_
    have q0 := (Prod.mk.inj (Option.some.inj H)).1
    have q1 := (Prod.mk.inj (Option.some.inj H)).2
    subst q0
    subst q1
    exact ⟨trivial, _, rfl, [], (.tup [.lit (.int .i64 x5476), .lit (.int .i64 x5477)]), Mem.nil, ⟨rfl, trivial, by decide, rfl, trivial⟩, rfl, rfl, rfl, rfl⟩
set_option maxRecDepth 100000 in
set_option maxHeartbeats 4000000 in
theorem s11 (k : Nat) (x5360 : (List Int)) (x5513 : Int) (H : f11 k x5360 = some x5513) : Go.Q.Spec Try.prog 11 0 [.ro (Rd.slice (Rd.int .i64)) false x5360] Mem.nil (fun o M => o = .ret (.lit (.int .i64 x5513)) ∧ M = Mem.nil) := by
  unfold f11 at H
  refine Go.Q.Spec.of_bodyR (rs := [.tmp 2]) (nt := 46) Try.func11 rfl rfl (by intro t T h; simp at h) rfl rfl fun cx hnp => ?_
  refine WP.seq ?_
  refine WP.region ?_
  refine WPL.q (q_as (v := .lit (.int _ _)) rfl) rfl ?_
  refine WPL.nilW ?_
  refine W.now ?_
  refine Then.n ?_
  refine WP.seq ?_
  refine WP.seq ?_
  refine WP.region ?_
  refine WPL.q (q_mv (v := .ro _ _ _) rfl) rfl ?_
  refine WPL.q (q_len_ro sl22 rfl) rfl ?_
  obtain ⟨x5515, h5515, H⟩ := bnd H
  refine WPL.q (q_nm (q_gtr rfl rfl) (nm_bool h5515)) rfl ?_
  refine WPL.nilW ?_
  refine W.now ?_
  refine Then.n ?_
  refine WP.cond (t := x5515) rfl (fun hb => ?_) (fun hb => ?_)
  · replace H := cnt hb H
    refine WP.seq ?_
    refine WP.region ?_
    refine WPL.q (q_as (v := .lit (.int _ _)) rfl) rfl ?_
    refine WPL.nilW ?_
    refine W.now ?_
    refine Then.n ?_
    refine WP.retW ?_
    refine W.now ?_
    refine Then.r ?_
    have q0 := (Option.some.inj H)
    subst q0
    exact ⟨trivial, _, rfl, [], (.lit (.int .i64 1)), Mem.nil, ⟨rfl, trivial, by decide, rfl, trivial⟩, rfl, rfl, rfl, rfl⟩
  · replace H := cnf hb H
    refine WP.skipW ?_
    refine W.now ?_
    refine Then.n ?_
    refine WP.seq ?_
    refine WP.seq ?_
    refine WP.region ?_
    refine WPL.q (q_as (v := .lit (.int _ _)) rfl) rfl ?_
    refine WPL.nilW ?_
    refine W.now ?_
    refine Then.n ?_
    refine WP.block ?_
    refine WP.cv (Cv.weak (E' := ((Env.none.upd 0 (.ro (Rd.slice (Rd.int .i64)) false x5360)).upd 3 (.lit (.int .i64 0)))) (M' := Mem.nil) [] hnp ⟨rfl, trivial, by decide, rfl, trivial⟩ (LeE.upd rfl rfl (LeE.upd rfl rfl (LeE.none rfl rfl)))) ?_
    obtain ⟨y5572, H5570, H⟩ := bnd H
    refine WP.monoW (Q := fun x E M => match (generalizing := false) y5572 with | (Sum.inl _) => x = .ret ∧ E = (Env.none.upd 2 (.lit (.int .i64 1))) ∧ M = Mem.nil | (Sum.inr _) => x = .exit 0 ∧ E = (Env.none.upd 0 (.ro (Rd.slice (Rd.int .i64)) false x5360)) ∧ M = Mem.nil) ?_ ?_
    · refine WP.loop (β := Int) (fun n b => f11_l0 k x5360 n b = some y5572) (fun b => ((Env.none.upd 0 (.ro (Rd.slice (Rd.int .i64)) false x5360)).upd 3 (.lit (.int .i64 b)))) (fun b => Mem.nil) k 0 H5570 rfl rfl ?_
      rintro n x5534 H
      obtain _ | n := n
      · exact nf rfl H
      rw [f11_l0.eq_2] at H
      show WP _ _ _ _ ((Env.none.upd 0 (.ro (Rd.slice (Rd.int .i64)) false x5360)).upd 3 (.lit (.int .i64 x5534))) Mem.nil _
      refine WP.seq ?_
      refine WP.seq ?_
      refine WP.region ?_
      refine WPL.q (q_mv (v := .lit (.int _ _)) rfl) rfl ?_
      refine WPL.q (q_mv (v := .ro _ _ _) rfl) rfl ?_
      refine WPL.q (q_len_ro sl22 rfl) rfl ?_
      obtain ⟨x5554, h5554, H⟩ := bnd H
      refine WPL.q (q_nm (q_lss rfl rfl) (nm_bool h5554)) rfl ?_
      refine WPL.nilW ?_
      refine W.now ?_
      refine Then.n ?_
      refine WP.cond (t := x5554) rfl (fun hb => ?_) (fun hb => ?_)
      · replace H := cnt hb H
        refine WP.skipW ?_
        refine W.now ?_
        refine Then.n ?_
        refine WP.seq ?_
        refine WP.block ?_
        refine WP.seq ?_
        obtain ⟨x5566, H5569, H⟩ := bnd H
        refine WP.monoW (Q := fun x E M => x = .normal ∧ E = (((Env.none.upd 0 (.ro (Rd.slice (Rd.int .i64)) false x5360)).upd 3 (.lit (.int .i64 x5534))).upd 26 (.lit (.bool x5566))) ∧ M = Mem.nil) ?_ ?_
        · clear H
          have H := H5569
          clear H5569
          refine WP.region ?_
          refine WPL.q (q_mv (v := .ro _ _ _) rfl) rfl ?_
          refine WPL.q (q_mv (v := .lit (.int _ _)) rfl) rfl ?_
          obtain ⟨x5567, h5567, H⟩ := bnd H
          refine WPL.q (q_index_ro sl22 rfl rfl rfl h5567) rfl ?_
          refine WPL.q (q_load_sc sc3 rfl) rfl ?_
          refine WPL.q (q_lss rfl rfl) rfl ?_
          refine WPL.q (q_mv (v := .lit (.bool _)) rfl) rfl ?_
          refine WPL.split (t := 20) (b := (decide (x5567 < 0))) rfl (fun hb5567 => ?_) (fun hb5567 => ?_)
          · replace H := cnt hb5567 H
            refine WPL.skipg (b' := true) rfl rfl (lb hb5567) rfl rfl ?_
            refine WPL.skipg (b' := true) rfl rfl (lb hb5567) rfl rfl ?_
            refine WPL.skipg (b' := true) rfl rfl (lb hb5567) rfl rfl ?_
            refine WPL.skipg (b' := true) rfl rfl (lb hb5567) rfl rfl ?_
            refine WPL.skipg (b' := true) rfl rfl (lb hb5567) rfl rfl ?_
            refine WPL.q (q_pickT (v := .lit (.bool _)) (lb hb5567) rfl) rfl ?_
            refine WPL.nilW ?_
            refine W.cv (Cv.weak (E' := (((Env.none.upd 0 (.ro (Rd.slice (Rd.int .i64)) false x5360)).upd 3 (.lit (.int .i64 x5534))).upd 26 (.lit (.bool true)))) (M' := Mem.nil) [] hnp ⟨rfl, trivial, by decide, rfl, trivial⟩ (LeE.upd rfl rfl (LeE.upd rfl rfl (LeE.upd rfl rfl (LeE.none rfl rfl))))) rfl ?_
            refine W.now ?_
            have q0 := (Option.some.inj H)
            subst q0
            exact ⟨rfl, rfl, rfl⟩
          · replace H := cnf hb5567 H
            refine WPL.qg rfl rfl (lb hb5567) (q_mv (v := .ro _ _ _) rfl) rfl ?_
            refine WPL.qg rfl rfl (lb hb5567) (q_mv (v := .lit (.int _ _)) rfl) rfl ?_
            obtain ⟨x5569, h5569, H⟩ := bnd H
            refine WPL.qg rfl rfl (lb hb5567) (q_index_ro sl22 rfl rfl rfl h5569) rfl ?_
            refine WPL.qg rfl rfl (lb hb5567) (q_load_sc sc3 rfl) rfl ?_
            refine WPL.qg rfl rfl (lb hb5567) (q_gtr rfl rfl) rfl ?_
            refine WPL.q (q_pickF (v := .lit (.bool _)) (lb hb5567) rfl) rfl ?_
            refine WPL.nilW ?_
            refine W.cv (Cv.weak (E' := (((Env.none.upd 0 (.ro (Rd.slice (Rd.int .i64)) false x5360)).upd 3 (.lit (.int .i64 x5534))).upd 26 (.lit (.bool (decide (15 < x5569)))))) (M' := Mem.nil) [] hnp ⟨rfl, trivial, by decide, rfl, trivial⟩ (LeE.upd rfl rfl (LeE.upd rfl rfl (LeE.upd rfl rfl (LeE.none rfl rfl))))) rfl ?_
            refine W.now ?_
            have q0 := (Option.some.inj H)
            subst q0
            exact ⟨rfl, rfl, rfl⟩
        · rintro _ _ _ ⟨rfl, rfl, rfl⟩
          refine W.now ?_
          refine Then.n ?_
          refine WP.cond (t := x5566) rfl (fun hb => ?_) (fun hb => ?_)
          · replace H := cnt hb H
            refine WP.seq ?_
            refine WP.region ?_
            refine WPL.q (q_as (v := .lit (.int _ _)) rfl) rfl ?_
            refine WPL.nilW ?_
            refine W.now ?_
            refine Then.n ?_
            refine WP.retW ?_
            refine W.cv (Cv.weak (E' := (Env.none.upd 2 (.lit (.int .i64 1)))) (M' := Mem.nil) [] hnp ⟨rfl, trivial, by decide, rfl, trivial⟩ (LeE.upd rfl rfl (LeE.none rfl rfl))) rfl ?_
            refine W.now ?_
            refine InBlock.r ?_
            refine Then.r ?_
            refine Then.r ?_
            have q0 := Option.some.inj H
            subst q0
            exact ⟨rfl, rfl, rfl⟩
          · replace H := cnf hb H
            refine WP.skipW ?_
            refine W.now ?_
            refine InBlock.n ?_
            refine Then.n ?_
            refine WP.region ?_
            refine WPL.q (q_mv (v := .lit (.int _ _)) rfl) rfl ?_
            refine WPL.q (q_add rfl rfl) rfl ?_
            refine WPL.q (q_as (v := .lit (.int _ _)) rfl) rfl ?_
            refine WPL.nilW ?_
            refine W.cv (Cv.weak (E' := ((Env.none.upd 0 (.ro (Rd.slice (Rd.int .i64)) false x5360)).upd 3 (.lit (.int .i64 (IntKind.wrap .i64 (x5534 + 1)))))) (M' := Mem.nil) [] hnp ⟨rfl, trivial, by decide, rfl, trivial⟩ (LeE.upd rfl rfl (LeE.upd rfl rfl (LeE.none rfl rfl)))) rfl ?_
            refine W.now ?_
            exact Then.n ⟨n, (IntKind.wrap .i64 (x5534 + 1)), Nat.lt_succ_self n, H, rfl, rfl⟩
      · replace H := cnf hb H
        refine WP.exitW ?_
        refine W.cv (Cv.weak (E' := (Env.none.upd 0 (.ro (Rd.slice (Rd.int .i64)) false x5360))) (M' := Mem.nil) [] hnp ⟨rfl, trivial, by decide, rfl, trivial⟩ (LeE.upd rfl rfl (LeE.none rfl rfl))) rfl ?_
        refine W.now ?_
        refine Then.x ?_
        refine Then.x ?_
        have q0 := Option.some.inj H
        subst q0
        exact ⟨rfl, rfl, rfl⟩
    · rcases y5572 with _ | _
      · rintro _ _ _ ⟨rfl, rfl, rfl⟩
        refine W.now ?_
        refine InBlock.r ?_
        refine Then.r ?_
        have q0 := (Option.some.inj H)
        subst q0
        exact ⟨trivial, _, rfl, [], (.lit (.int .i64 1)), Mem.nil, ⟨rfl, trivial, by decide, rfl, trivial⟩, rfl, rfl, rfl, rfl⟩
      · rintro _ _ _ ⟨rfl, rfl, rfl⟩
        refine W.now ?_
        refine InBlock.x0 ?_
        refine Then.n ?_
        refine WP.seq ?_
        refine WP.region ?_
        refine WPL.q (q_mv (v := .ro _ _ _) rfl) rfl ?_
        obtain ⟨⟨x5574, x5575⟩, h5572, H⟩ := bnd H
        refine WPL.c (runs_call (s := []) (t := []) (N := 0) (bor := []) fn30 rfl (s30 k x5360 x5574 x5575 h5572) ⟨rfl, trivial, by decide, rfl, trivial⟩ rfl trivial (.ren rfl rfl .nil) rfl trivial rfl) rfl ?_
        refine WPL.q (q_mv (v := .tup _) rfl) rfl ?_
        refine WPL.q (q_extract rfl rfl) rfl ?_
        refine WPL.q (q_extract rfl rfl) rfl ?_
        refine WPL.q (q_as (v := .lit (.int _ _)) rfl) rfl ?_
        refine WPL.q (q_as (v := .lit (.int _ _)) rfl) rfl ?_
        refine WPL.nilW ?_
        refine W.now ?_
        refine Then.n ?_
        refine WP.seq ?_
        refine WP.seq ?_
        obtain ⟨x5587, H5590, H⟩ := bnd H
        refine WP.monoW (Q := fun x E M => x = .normal ∧ E = (Env.none.upd 45 (.lit (.bool x5587))) ∧ M = Mem.nil) ?_ ?_
        · clear H
          have H := H5590
          clear H5590
          refine WP.region ?_
          refine WPL.q (q_mv (v := .lit (.int _ _)) rfl) rfl ?_
          refine WPL.q (q_eql rfl rfl) rfl ?_
          refine WPL.q (q_mv (v := .lit (.bool _)) rfl) rfl ?_
          refine WPL.split (t := 34) (b := (decide (x5574 = 32768))) rfl (fun hb5587 => ?_) (fun hb5587 => ?_)
          · replace H := cnt hb5587 H
            refine WPL.skipg (b' := true) rfl rfl (lb hb5587) rfl rfl ?_
            refine WPL.skipg (b' := true) rfl rfl (lb hb5587) rfl rfl ?_
            refine WPL.q (q_pickT (v := .lit (.bool _)) (lb hb5587) rfl) rfl ?_
            refine WPL.q (q_mv (v := .lit (.bool _)) rfl) rfl ?_
            refine WPL.skipg (b' := true) rfl rfl rfl rfl rfl ?_
            refine WPL.skipg (b' := true) rfl rfl rfl rfl rfl ?_
            refine WPL.skipg (b' := true) rfl rfl rfl rfl rfl ?_
            refine WPL.skipu rfl rfl rfl rfl ?_
            refine WPL.skipu rfl rfl rfl rfl ?_
            refine WPL.skipg (b' := true) rfl rfl rfl rfl rfl ?_
            refine WPL.q (q_pickT (v := .lit (.bool _)) rfl rfl) rfl ?_
            refine WPL.nilW ?_
            refine W.cv (Cv.weak (E' := (Env.none.upd 45 (.lit (.bool true)))) (M' := Mem.nil) [] hnp ⟨rfl, trivial, by decide, rfl, trivial⟩ (LeE.upd rfl rfl (LeE.none rfl rfl))) rfl ?_
            refine W.now ?_
            have q0 := (Option.some.inj H)
            subst q0
            exact ⟨rfl, rfl, rfl⟩
          · replace H := cnf hb5587 H
            refine WPL.qg rfl rfl (lb hb5587) (q_mv (v := .lit (.int _ _)) rfl) rfl ?_
            refine WPL.qg rfl rfl (lb hb5587) (q_eql rfl rfl) rfl ?_
            refine WPL.q (q_pickF (v := .lit (.bool _)) (lb hb5587) rfl) rfl ?_
            refine WPL.q (q_mv (v := .lit (.bool _)) rfl) rfl ?_
            refine WPL.split (t := 38) (b := (decide (x5575 = 0))) rfl (fun hb5588 => ?_) (fun hb5588 => ?_)
            · replace H := cnt hb5588 H
              refine WPL.skipg (b' := true) rfl rfl (lb hb5588) rfl rfl ?_
              refine WPL.skipg (b' := true) rfl rfl (lb hb5588) rfl rfl ?_
              refine WPL.skipg (b' := true) rfl rfl (lb hb5588) rfl rfl ?_
              refine WPL.skipu rfl rfl rfl rfl ?_
              refine WPL.skipu rfl rfl rfl rfl ?_
              refine WPL.skipg (b' := true) rfl rfl (lb hb5588) rfl rfl ?_
              refine WPL.q (q_pickT (v := .lit (.bool _)) (lb hb5588) rfl) rfl ?_
              refine WPL.nilW ?_
              refine W.cv (Cv.weak (E' := (Env.none.upd 45 (.lit (.bool true)))) (M' := Mem.nil) [] hnp ⟨rfl, trivial, by decide, rfl, trivial⟩ (LeE.upd rfl rfl (LeE.none rfl rfl))) rfl ?_
              refine W.now ?_
              have q0 := (Option.some.inj H)
              subst q0
              exact ⟨rfl, rfl, rfl⟩
            · replace H := cnf hb5588 H
              refine WPL.qg rfl rfl (lb hb5588) (q_mv (v := .lit (.int _ _)) rfl) rfl ?_
              refine WPL.qg rfl rfl (lb hb5588) (q_eql rfl rfl) rfl ?_
              refine WPL.qg rfl rfl (lb hb5588) (q_mv (v := .lit (.bool _)) rfl) rfl ?_
              refine WPL.split (t := 41) (b := (decide (x5575 = 1))) rfl (fun hb5589 => ?_) (fun hb5589 => ?_)
              · replace H := cnt hb5589 H
                refine WPL.qg rfl rfl (lb hb5589) (q_mv (v := .lit (.int _ _)) rfl) rfl ?_
                refine WPL.qg rfl rfl (lb hb5589) (q_eql rfl rfl) rfl ?_
                refine WPL.qg rfl rfl (lb hb5588) (q_pickT (v := .lit (.bool _)) (lb hb5589) rfl) rfl ?_
                refine WPL.q (q_pickF (v := .lit (.bool _)) (lb hb5588) rfl) rfl ?_
                refine WPL.nilW ?_
                refine W.cv (Cv.weak (E' := (Env.none.upd 45 (.lit (.bool (decide (x5574 = 16384)))))) (M' := Mem.nil) [] hnp ⟨rfl, trivial, by decide, rfl, trivial⟩ (LeE.upd rfl rfl (LeE.none rfl rfl))) rfl ?_
                refine W.now ?_
                have q0 := (Option.some.inj H)
                subst q0
                exact ⟨rfl, rfl, rfl⟩
              · replace H := cnf hb5589 H
                refine WPL.skipg (b' := false) rfl rfl (lb hb5589) rfl rfl ?_
                refine WPL.skipg (b' := false) rfl rfl (lb hb5589) rfl rfl ?_
                refine WPL.qg rfl rfl (lb hb5588) (q_pickF (v := .lit (.bool _)) (lb hb5589) rfl) rfl ?_
                refine WPL.q (q_pickF (v := .lit (.bool _)) (lb hb5588) rfl) rfl ?_
                refine WPL.nilW ?_
                refine W.cv (Cv.weak (E' := (Env.none.upd 45 (.lit (.bool false)))) (M' := Mem.nil) [] hnp ⟨rfl, trivial, by decide, rfl, trivial⟩ (LeE.upd rfl rfl (LeE.none rfl rfl))) rfl ?_
                refine W.now ?_
                have q0 := (Option.some.inj H)
                subst q0
                exact ⟨rfl, rfl, rfl⟩
        · rintro _ _ _ ⟨rfl, rfl, rfl⟩
          refine W.now ?_
          refine Then.n ?_
          refine WP.cond (t := x5587) rfl (fun hb => ?_) (fun hb => ?_)
          · replace H := cnt hb H
            refine WP.seq ?_
            refine WP.region ?_
            refine WPL.q (q_as (v := .lit (.int _ _)) rfl) rfl ?_
            refine WPL.nilW ?_
            refine W.now ?_
            refine Then.n ?_
            refine WP.retW ?_
            refine W.now ?_
            refine Then.r ?_
            have q0 := (Option.some.inj H)
            subst q0
            exact ⟨trivial, _, rfl, [], (.lit (.int .i64 0)), Mem.nil, ⟨rfl, trivial, by decide, rfl, trivial⟩, rfl, rfl, rfl, rfl⟩
          · replace H := cnf hb H
            refine WP.skipW ?_
            refine W.now ?_
            refine Then.n ?_
            refine WP.seq ?_
            refine WP.region ?_
            refine WPL.q (q_as (v := .lit (.int _ _)) rfl) rfl ?_
            refine WPL.nilW ?_
            refine W.now ?_
            refine Then.n ?_
            refine WP.retW ?_
            refine W.now ?_
            have q0 := (Option.some.inj H)
            subst q0
            exact ⟨trivial, _, rfl, [], (.lit (.int .i64 11)), Mem.nil, ⟨rfl, trivial, by decide, rfl, trivial⟩, rfl, rfl, rfl, rfl⟩
set_option maxRecDepth 100000 in
set_option maxHeartbeats 4000000 in
theorem s15 (k : Nat) (x5358 : (List Int)) (x5652 : (List Int)) (x5653 : Int) (H : f15 k x5358 = some (x5652, x5653)) : Go.Q.Spec Try.prog 15 0 [.ro (Rd.slice (Rd.int .i64)) false x5358] Mem.nil (fun o M => o = .ret (.tup [.ro (Rd.slice (Rd.int .u32)) false x5652, .lit (.int .i64 x5653)]) ∧ M = Mem.nil) := by
  unfold f15 at H
  refine Go.Q.Spec.of_bodyR (rs := [.tmp 2, .tmp 3]) (nt := 42) Try.func15 rfl rfl (by intro t T h; simp at h) rfl rfl fun cx hnp => ?_
  refine WP.seq ?_
  refine WP.region ?_
  refine WPL.q (q_as (v := .lit _) rfl) rfl ?_
  refine WPL.q (q_as (v := .lit (.int _ _)) rfl) rfl ?_
  refine WPL.nilW ?_
  refine W.now ?_
  refine Then.n ?_
  refine WP.seq ?_
  refine WP.seq ?_
  refine WP.region ?_
  refine WPL.q (q_mv (v := .ro _ _ _) rfl) rfl ?_
  obtain ⟨x5657, h5655, H⟩ := bnd H
  refine WPL.c (runs_call (s := []) (t := []) (N := 0) (bor := []) fn11 rfl (s11 k x5358 x5657 h5655) ⟨rfl, trivial, by decide, rfl, trivial⟩ rfl trivial (.ren rfl rfl .nil) rfl trivial rfl) rfl ?_
  refine WPL.q (q_as (v := .lit (.int _ _)) rfl) rfl ?_
  refine WPL.nilW ?_
  refine W.now ?_
  refine Then.n ?_
  refine WP.seq ?_
  refine WP.region ?_
  refine WPL.q (q_mv (v := .lit (.int _ _)) rfl) rfl ?_
  refine WPL.q (q_neq rfl rfl) rfl ?_
  refine WPL.nilW ?_
  refine W.now ?_
  refine Then.n ?_
  refine WP.cond (t := (!decide (x5657 = 0))) rfl (fun hb => ?_) (fun hb => ?_)
  · replace H := cnt hb H
    refine WP.seq ?_
    refine WP.region ?_
    refine WPL.q (q_mv (v := .lit (.int _ _)) rfl) rfl ?_
    refine WPL.q (q_as (v := .lit _) rfl) rfl ?_
    refine WPL.q (q_as (v := .lit (.int _ _)) rfl) rfl ?_
    refine WPL.nilW ?_
    refine W.now ?_
    refine Then.n ?_
    refine WP.retW ?_
    refine W.cv (Cv.nilRo (Rd.int .u32) false 2 rfl) rfl ?_
    refine W.now ?_
    refine Then.r ?_
    have q0 := (Prod.mk.inj (Option.some.inj H)).1
    have q1 := (Prod.mk.inj (Option.some.inj H)).2
    subst q0
    subst q1
    exact ⟨trivial, _, rfl, [], (.tup [.ro (Rd.slice (Rd.int .u32)) false ([] : List Int), .lit (.int .i64 x5657)]), Mem.nil, ⟨rfl, trivial, by decide, rfl, trivial⟩, rfl, rfl, rfl, rfl⟩
  · replace H := cnf hb H
    refine WP.skipW ?_
    refine W.now ?_
    refine Then.n ?_
    refine WP.seq ?_
    refine WP.region ?_
    refine WPL.q (q_mv (v := .ro _ _ _) rfl) rfl ?_
    refine WPL.q (q_len_ro sl22 rfl) rfl ?_
    obtain ⟨h5657, H⟩ := grd H
    refine WPL.d (d_make (d := (0 : Int)) (R := (Rd.int .u32)) li32 by35 rfl rfl rfl Joins.sc rfl rfl h5657 rfl) rfl ?_
    refine WPL.q (q_as (v := .whole _) rfl) rfl ?_
    refine WPL.nilW ?_
    refine W.now ?_
    refine Then.n ?_
    refine WP.seq ?_
    refine WP.region ?_
    refine WPL.q (q_as (v := .lit (.int _ _)) rfl) rfl ?_
    refine WPL.nilW ?_
    refine W.now ?_
    refine Then.n ?_
    refine WP.seq ?_
    refine WP.seq ?_
    refine WP.region ?_
    refine WPL.q (q_as (v := .lit (.int _ _)) rfl) rfl ?_
    refine WPL.nilW ?_
    refine W.now ?_
    refine Then.n ?_
    refine WP.block ?_
    refine WP.cv (Cv.weak (E' := ((((Env.none.upd 0 (.ro (Rd.slice (Rd.int .i64)) false x5358)).upd 5 (.whole 0)).upd 6 (.lit (.int .u32 0))).upd 7 (.lit (.int .i64 1)))) (M' := (Mem.nil.push (.row 35 (Rd.int .u32) (List.replicate (Int.toNat ((List.length x5358 : Nat) : Int)) (0 : Int))))) [0] hnp ⟨rfl, ⟨trivial, .inr ⟨rfl, rfl, rfl⟩⟩, by decide, rfl, trivial⟩ (LeE.upd rfl rfl (LeE.upd rfl rfl (LeE.upd rfl rfl (LeE.upd rfl rfl (LeE.none rfl rfl)))))) ?_
    obtain ⟨x5712, H5747, H⟩ := bnd H
    refine WP.monoW (Q := fun x E M => x = .exit 0 ∧ E = (Env.none.upd 5 (.whole 0)) ∧ M = (Mem.nil.push (.row 35 (Rd.int .u32) x5712))) ?_ ?_
    · refine WP.loop (β := Int × Int × (List Int)) (fun n b => f15_l0 k x5358 n b.1 b.2.1 b.2.2 = some x5712) (fun b => ((((Env.none.upd 0 (.ro (Rd.slice (Rd.int .i64)) false x5358)).upd 5 (.whole 0)).upd 6 (.lit (.int .u32 b.1))).upd 7 (.lit (.int .i64 b.2.1)))) (fun b => (Mem.nil.push (.row 35 (Rd.int .u32) b.2.2))) k (0, 1, (List.replicate (Int.toNat ((List.length x5358 : Nat) : Int)) (0 : Int))) H5747 rfl rfl ?_
      rintro n ⟨x5683, x5684, x5685⟩ H
      obtain _ | n := n
      · exact nf rfl H
      rw [f15_l0.eq_2] at H
      show WP _ _ _ _ ((((Env.none.upd 0 (.ro (Rd.slice (Rd.int .i64)) false x5358)).upd 5 (.whole 0)).upd 6 (.lit (.int .u32 x5683))).upd 7 (.lit (.int .i64 x5684))) (Mem.nil.push (.row 35 (Rd.int .u32) x5685)) _
      refine WP.seq ?_
      refine WP.seq ?_
      refine WP.region ?_
      refine WPL.q (q_mv (v := .lit (.int _ _)) rfl) rfl ?_
      refine WPL.q (q_leq rfl rfl) rfl ?_
      refine WPL.nilW ?_
      refine W.now ?_
      refine Then.n ?_
      refine WP.cond (t := (decide (x5684 ≤ 15))) rfl (fun hb => ?_) (fun hb => ?_)
      · replace H := cnt hb H
        refine WP.skipW ?_
        refine W.now ?_
        refine Then.n ?_
        refine WP.seq ?_
        refine WP.block ?_
        refine WP.seq ?_
        refine WP.region ?_
        refine WPL.q (q_mv (v := .lit (.int _ _)) rfl) rfl ?_
        refine WPL.q (q_shl rfl rfl rfl) rfl ?_
        refine WPL.q (q_as (v := .lit (.int _ _)) rfl) rfl ?_
        refine WPL.nilW ?_
        refine W.now ?_
        refine Then.n ?_
        refine WP.seq ?_
        refine WP.region ?_
        refine WPL.q (q_as (v := .lit (.int _ _)) rfl) rfl ?_
        refine WPL.nilW ?_
        refine W.now ?_
        refine Then.n ?_
        refine WP.block ?_
        refine WP.cv (Cv.weak (E' := (((((Env.none.upd 0 (.ro (Rd.slice (Rd.int .i64)) false x5358)).upd 5 (.whole 0)).upd 6 (.lit (.int .u32 (shlI .u32 x5683 1)))).upd 7 (.lit (.int .i64 x5684))).upd 8 (.lit (.int .i64 0)))) (M' := (Mem.nil.push (.row 35 (Rd.int .u32) x5685))) [0] hnp ⟨rfl, ⟨trivial, .inr ⟨rfl, rfl, rfl⟩⟩, by decide, rfl, trivial⟩ (LeE.upd rfl rfl (LeE.upd rfl rfl (LeE.upd rfl rfl (LeE.upd rfl rfl (LeE.upd rfl rfl (LeE.none rfl rfl))))))) ?_
        obtain ⟨⟨x5736, x5737⟩, H5746, H⟩ := bnd H
        refine WP.monoW (Q := fun x E M => x = .exit 2 ∧ E = ((((Env.none.upd 0 (.ro (Rd.slice (Rd.int .i64)) false x5358)).upd 5 (.whole 0)).upd 6 (.lit (.int .u32 x5736))).upd 7 (.lit (.int .i64 x5684))) ∧ M = (Mem.nil.push (.row 35 (Rd.int .u32) x5737))) ?_ ?_
        · refine WP.loop (β := Int × Int × (List Int)) (fun n b => f15_l1 k x5358 x5684 n b.1 b.2.1 b.2.2 = some (x5736, x5737)) (fun b => (((((Env.none.upd 0 (.ro (Rd.slice (Rd.int .i64)) false x5358)).upd 5 (.whole 0)).upd 6 (.lit (.int .u32 b.1))).upd 7 (.lit (.int .i64 x5684))).upd 8 (.lit (.int .i64 b.2.1)))) (fun b => (Mem.nil.push (.row 35 (Rd.int .u32) b.2.2))) k ((shlI .u32 x5683 1), 0, x5685) H5746 rfl rfl ?_
          rintro n ⟨x5724, x5725, x5726⟩ H
          obtain _ | n := n
          · exact nf rfl H
          rw [f15_l1.eq_2] at H
          show WP _ _ _ _ (((((Env.none.upd 0 (.ro (Rd.slice (Rd.int .i64)) false x5358)).upd 5 (.whole 0)).upd 6 (.lit (.int .u32 x5724))).upd 7 (.lit (.int .i64 x5684))).upd 8 (.lit (.int .i64 x5725))) (Mem.nil.push (.row 35 (Rd.int .u32) x5726)) _
          refine WP.seq ?_
          refine WP.seq ?_
          refine WP.region ?_
          refine WPL.q (q_mv (v := .lit (.int _ _)) rfl) rfl ?_
          refine WPL.q (q_mv (v := .ro _ _ _) rfl) rfl ?_
          refine WPL.q (q_len_ro sl22 rfl) rfl ?_
          obtain ⟨x5739, h5739, H⟩ := bnd H
          refine WPL.q (q_nm (q_lss rfl rfl) (nm_bool h5739)) rfl ?_
          refine WPL.nilW ?_
          refine W.now ?_
          refine Then.n ?_
          refine WP.cond (t := x5739) rfl (fun hb => ?_) (fun hb => ?_)
          · replace H := cnt hb H
            refine WP.skipW ?_
            refine W.now ?_
            refine Then.n ?_
            refine WP.seq ?_
            obtain ⟨⟨x5742, x5743⟩, H5745, H⟩ := bnd H
            refine WP.monoW (Q := fun x E M => x = .normal ∧ E = (((((Env.none.upd 0 (.ro (Rd.slice (Rd.int .i64)) false x5358)).upd 5 (.whole 0)).upd 6 (.lit (.int .u32 x5742))).upd 7 (.lit (.int .i64 x5684))).upd 8 (.lit (.int .i64 x5725))) ∧ M = (Mem.nil.push (.row 35 (Rd.int .u32) x5743))) ?_ ?_
            · clear H
              have H := H5745
              clear H5745
              refine WP.block ?_
              refine WP.seq ?_
              refine WP.region ?_
              refine WPL.q (q_mv (v := .ro _ _ _) rfl) rfl ?_
              refine WPL.q (q_mv (v := .lit (.int _ _)) rfl) rfl ?_
              obtain ⟨x5744, h5744, H⟩ := bnd H
              refine WPL.q (q_index_ro sl22 rfl rfl rfl h5744) rfl ?_
              refine WPL.q (q_load_sc sc3 rfl) rfl ?_
              refine WPL.q (q_mv (v := .lit (.int _ _)) rfl) rfl ?_
              refine WPL.q (q_eql rfl rfl) rfl ?_
              refine WPL.nilW ?_
              refine W.now ?_
              refine Then.n ?_
              refine WP.cond (t := (decide (x5744 = x5684))) rfl (fun hb => ?_) (fun hb => ?_)
              · replace H := cnt hb H
                refine WP.seq ?_
                refine WP.region ?_
                refine WPL.q (q_mv (v := .whole _) rfl) rfl ?_
                refine WPL.q (q_mv (v := .lit (.int _ _)) rfl) rfl ?_
                refine WPL.q (q_mv (v := .lit (.int _ _)) rfl) rfl ?_
                obtain ⟨x5745, h5745, H⟩ := bnd H
                refine WPL.q (q_index_row sl32 rfl rfl rfl (ixs h5745)) rfl ?_
                refine WPL.s (s_store_row (j := (Int.toNat x5725)) (d := x5724) sz35 rfl rfl rfl rfl Joins.sc (ixl h5745)) ?_
                refine WPL.nilW ?_
                refine W.now ?_
                refine Then.n ?_
                refine WP.region ?_
                refine WPL.q (q_mv (v := .lit (.int _ _)) rfl) rfl ?_
                refine WPL.q (q_add rfl rfl) rfl ?_
                refine WPL.q (q_as (v := .lit (.int _ _)) rfl) rfl ?_
                refine WPL.nilW ?_
                refine W.cv (Cv.weak (E' := (((((Env.none.upd 0 (.ro (Rd.slice (Rd.int .i64)) false x5358)).upd 5 (.whole 0)).upd 6 (.lit (.int .u32 (IntKind.wrap .u32 (x5724 + 1))))).upd 7 (.lit (.int .i64 x5684))).upd 8 (.lit (.int .i64 x5725)))) (M' := (Mem.nil.push (.row 35 (Rd.int .u32) (List.set x5726 (Int.toNat x5725) x5724)))) [0] hnp ⟨rfl, ⟨trivial, .inr ⟨rfl, rfl, rfl⟩⟩, by decide, rfl, trivial⟩ (LeE.upd rfl rfl (LeE.upd rfl rfl (LeE.upd rfl rfl (LeE.upd rfl rfl (LeE.upd rfl rfl (LeE.none rfl rfl))))))) rfl ?_
                refine W.now ?_
                refine InBlock.n ?_
                have q0 := (Prod.mk.inj (Option.some.inj H)).1
                have q1 := (Prod.mk.inj (Option.some.inj H)).2
                subst q0
                subst q1
                exact ⟨rfl, rfl, rfl⟩
              · replace H := cnf hb H
                refine WP.skipW ?_
                refine W.cv (Cv.weak (E' := (((((Env.none.upd 0 (.ro (Rd.slice (Rd.int .i64)) false x5358)).upd 5 (.whole 0)).upd 6 (.lit (.int .u32 x5724))).upd 7 (.lit (.int .i64 x5684))).upd 8 (.lit (.int .i64 x5725)))) (M' := (Mem.nil.push (.row 35 (Rd.int .u32) x5726))) [0] hnp ⟨rfl, ⟨trivial, .inr ⟨rfl, rfl, rfl⟩⟩, by decide, rfl, trivial⟩ (LeE.upd rfl rfl (LeE.upd rfl rfl (LeE.upd rfl rfl (LeE.upd rfl rfl (LeE.upd rfl rfl (LeE.none rfl rfl))))))) rfl ?_
                refine W.now ?_
                refine InBlock.n ?_
                have q0 := (Prod.mk.inj (Option.some.inj H)).1
                have q1 := (Prod.mk.inj (Option.some.inj H)).2
                subst q0
                subst q1
                exact ⟨rfl, rfl, rfl⟩
            · rintro _ _ _ ⟨rfl, rfl, rfl⟩
              refine W.now ?_
              refine Then.n ?_
              refine WP.region ?_
              refine WPL.q (q_mv (v := .lit (.int _ _)) rfl) rfl ?_
              refine WPL.q (q_add rfl rfl) rfl ?_
              refine WPL.q (q_as (v := .lit (.int _ _)) rfl) rfl ?_
              refine WPL.nilW ?_
              refine W.cv (Cv.weak (E' := (((((Env.none.upd 0 (.ro (Rd.slice (Rd.int .i64)) false x5358)).upd 5 (.whole 0)).upd 6 (.lit (.int .u32 x5742))).upd 7 (.lit (.int .i64 x5684))).upd 8 (.lit (.int .i64 (IntKind.wrap .i64 (x5725 + 1)))))) (M' := (Mem.nil.push (.row 35 (Rd.int .u32) x5743))) [0] hnp ⟨rfl, ⟨trivial, .inr ⟨rfl, rfl, rfl⟩⟩, by decide, rfl, trivial⟩ (LeE.upd rfl rfl (LeE.upd rfl rfl (LeE.upd rfl rfl (LeE.upd rfl rfl (LeE.upd rfl rfl (LeE.none rfl rfl))))))) rfl ?_
              refine W.now ?_
              exact Then.n ⟨n, (x5742, (IntKind.wrap .i64 (x5725 + 1)), x5743), Nat.lt_succ_self n, H, rfl, rfl⟩
          · replace H := cnf hb H
            refine WP.exitW ?_
            refine W.cv (Cv.weak (E' := ((((Env.none.upd 0 (.ro (Rd.slice (Rd.int .i64)) false x5358)).upd 5 (.whole 0)).upd 6 (.lit (.int .u32 x5724))).upd 7 (.lit (.int .i64 x5684)))) (M' := (Mem.nil.push (.row 35 (Rd.int .u32) x5726))) [0] hnp ⟨rfl, ⟨trivial, .inr ⟨rfl, rfl, rfl⟩⟩, by decide, rfl, trivial⟩ (LeE.upd rfl rfl (LeE.upd rfl rfl (LeE.upd rfl rfl (LeE.upd rfl rfl (LeE.none rfl rfl)))))) rfl ?_
            refine W.now ?_
            refine Then.x ?_
            refine Then.x ?_
            have q0 := (Prod.mk.inj (Option.some.inj H)).1
            have q1 := (Prod.mk.inj (Option.some.inj H)).2
            subst q0
            subst q1
            exact ⟨rfl, rfl, rfl⟩
        · rintro _ _ _ ⟨rfl, rfl, rfl⟩
          refine W.now ?_
          refine InBlock.x0 ?_
          refine InBlock.n ?_
          refine Then.n ?_
          refine WP.region ?_
          refine WPL.q (q_mv (v := .lit (.int _ _)) rfl) rfl ?_
          refine WPL.q (q_add rfl rfl) rfl ?_
          refine WPL.q (q_as (v := .lit (.int _ _)) rfl) rfl ?_
          refine WPL.nilW ?_
          refine W.cv (Cv.weak (E' := ((((Env.none.upd 0 (.ro (Rd.slice (Rd.int .i64)) false x5358)).upd 5 (.whole 0)).upd 6 (.lit (.int .u32 x5736))).upd 7 (.lit (.int .i64 (IntKind.wrap .i64 (x5684 + 1)))))) (M' := (Mem.nil.push (.row 35 (Rd.int .u32) x5737))) [0] hnp ⟨rfl, ⟨trivial, .inr ⟨rfl, rfl, rfl⟩⟩, by decide, rfl, trivial⟩ (LeE.upd rfl rfl (LeE.upd rfl rfl (LeE.upd rfl rfl (LeE.upd rfl rfl (LeE.none rfl rfl)))))) rfl ?_
          refine W.now ?_
          exact Then.n ⟨n, (x5736, (IntKind.wrap .i64 (x5684 + 1)), x5737), Nat.lt_succ_self n, H, rfl, rfl⟩
      · replace H := cnf hb H
        refine WP.exitW ?_
        refine W.cv (Cv.weak (E' := (Env.none.upd 5 (.whole 0))) (M' := (Mem.nil.push (.row 35 (Rd.int .u32) x5685))) [0] hnp ⟨rfl, ⟨trivial, .inr ⟨rfl, rfl, rfl⟩⟩, by decide, rfl, trivial⟩ (LeE.upd rfl rfl (LeE.none rfl rfl))) rfl ?_
        refine W.now ?_
        refine Then.x ?_
        refine Then.x ?_
        have q0 := (Option.some.inj H)
        subst q0
        exact ⟨rfl, rfl, rfl⟩
    · rintro _ _ _ ⟨rfl, rfl, rfl⟩
      refine W.now ?_
      refine InBlock.x0 ?_
      refine Then.n ?_
      refine WP.seq ?_
      refine WP.region ?_
      refine WPL.q (q_mv (v := .whole _) rfl) rfl ?_
      refine WPL.q (q_as (v := .whole _) rfl) rfl ?_
      refine WPL.q (q_as (v := .lit (.int _ _)) rfl) rfl ?_
      refine WPL.nilW ?_
      refine W.now ?_
      refine Then.n ?_
      refine WP.retW ?_
      refine W.cv (Cv.frzRow (i := 0) rfl rfl hnp rfl rfl) rfl ?_
      refine W.now ?_
      have q0 := (Prod.mk.inj (Option.some.inj H)).1
      have q1 := (Prod.mk.inj (Option.some.inj H)).2
      subst q0
      subst q1
      exact ⟨trivial, _, rfl, [], (.tup [.ro (Rd.slice (Rd.int .u32)) false x5712, .lit (.int .i64 0)]), Mem.nil, ⟨rfl, trivial, by decide, rfl, trivial⟩, rfl, rfl, rfl, rfl⟩
set_option maxRecDepth 100000 in
set_option maxHeartbeats 4000000 in
theorem s16 (k : Nat) (x5755 : (List Int)) (x5760 : Bool) (H : f16 k x5755 = some x5760) : Go.Q.Spec Try.prog 16 0 [.ro (Rd.slice (Rd.int .i64)) false x5755] Mem.nil (fun o M => o = .ret (.lit (.bool x5760)) ∧ M = Mem.nil) := by
  unfold f16 at H
  refine Go.Q.Spec.of_bodyR (rs := [.tmp 2]) (nt := 11) Try.func16 rfl rfl (by intro t T h; simp at h) rfl rfl fun cx hnp => ?_
  refine WP.seq ?_
  refine WP.region ?_
  refine WPL.q (q_as (v := .lit (.bool _)) rfl) rfl ?_
  refine WPL.nilW ?_
  refine W.now ?_
  refine Then.n ?_
  refine WP.seq ?_
  refine WP.region ?_
  refine WPL.q (q_mv (v := .ro _ _ _) rfl) rfl ?_
  obtain ⟨⟨x5762, x5763⟩, h5760, H⟩ := bnd H
  refine WPL.c (runs_call (s := []) (t := []) (N := 0) (bor := []) fn32 rfl (s32 k x5755 x5762 x5763 h5760) ⟨rfl, trivial, by decide, rfl, trivial⟩ rfl trivial (.ren rfl rfl .nil) rfl trivial rfl) rfl ?_
  refine WPL.q (q_mv (v := .tup _) rfl) rfl ?_
  refine WPL.q (q_extract rfl rfl) rfl ?_
  refine WPL.q (q_extract rfl rfl) rfl ?_
  refine WPL.q (q_as (v := .lit (.bool _)) rfl) rfl ?_
  refine WPL.q (q_as (v := .lit (.int _ _)) rfl) rfl ?_
  refine WPL.nilW ?_
  refine W.now ?_
  refine Then.n ?_
  refine WP.seq ?_
  refine WP.region ?_
  refine WPL.q (q_mv (v := .lit (.bool _)) rfl) rfl ?_
  refine WPL.q (q_as (v := .lit (.bool _)) rfl) rfl ?_
  refine WPL.nilW ?_
  refine W.now ?_
  refine Then.n ?_
  refine WP.retW ?_
  refine W.now ?_
  have q0 := (Option.some.inj H)
  subst q0
  exact ⟨trivial, _, rfl, [], (.lit (.bool x5762)), Mem.nil, ⟨rfl, trivial, by decide, rfl, trivial⟩, rfl, rfl, rfl, rfl⟩
set_option maxRecDepth 100000 in
set_option maxHeartbeats 4000000 in
theorem s17 (k : Nat) (x5766 : (List Int)) (x5775 : Bool) (H : f17 k x5766 = some x5775) : Go.Q.Spec Try.prog 17 0 [.ro (Rd.slice (Rd.int .i64)) false x5766] Mem.nil (fun o M => o = .ret (.lit (.bool x5775)) ∧ M = Mem.nil) := by
  unfold f17 at H
  refine Go.Q.Spec.of_bodyR (rs := [.tmp 2]) (nt := 15) Try.func17 rfl rfl (by intro t T h; simp at h) rfl rfl fun cx hnp => ?_
  refine WP.seq ?_
  refine WP.region ?_
  refine WPL.q (q_as (v := .lit (.bool _)) rfl) rfl ?_
  refine WPL.nilW ?_
  refine W.now ?_
  refine Then.n ?_
  refine WP.seq ?_
  refine WP.seq ?_
  refine WP.region ?_
  refine WPL.q (q_mv (v := .ro _ _ _) rfl) rfl ?_
  obtain ⟨x5779, h5777, H⟩ := bnd H
  refine WPL.c (runs_call (s := []) (t := []) (N := 0) (bor := []) fn11 rfl (s11 k x5766 x5779 h5777) ⟨rfl, trivial, by decide, rfl, trivial⟩ rfl trivial (.ren rfl rfl .nil) rfl trivial rfl) rfl ?_
  refine WPL.q (q_neq rfl rfl) rfl ?_
  refine WPL.nilW ?_
  refine W.now ?_
  refine Then.n ?_
  refine WP.cond (t := (!decide (x5779 = 0))) rfl (fun hb => ?_) (fun hb => ?_)
  · replace H := cnt hb H
    refine WP.seq ?_
    refine WP.region ?_
    refine WPL.q (q_as (v := .lit (.bool _)) rfl) rfl ?_
    refine WPL.nilW ?_
    refine W.now ?_
    refine Then.n ?_
    refine WP.retW ?_
    refine W.now ?_
    refine Then.r ?_
    have q0 := (Option.some.inj H)
    subst q0
    exact ⟨trivial, _, rfl, [], (.lit (.bool false)), Mem.nil, ⟨rfl, trivial, by decide, rfl, trivial⟩, rfl, rfl, rfl, rfl⟩
  · replace H := cnf hb H
    refine WP.skipW ?_
    refine W.now ?_
    refine Then.n ?_
    refine WP.seq ?_
    refine WP.region ?_
    refine WPL.q (q_mv (v := .ro _ _ _) rfl) rfl ?_
    obtain ⟨⟨x5781, x5782⟩, h5779, H⟩ := bnd H
    refine WPL.c (runs_call (s := []) (t := []) (N := 0) (bor := []) fn30 rfl (s30 k x5766 x5781 x5782 h5779) ⟨rfl, trivial, by decide, rfl, trivial⟩ rfl trivial (.ren rfl rfl .nil) rfl trivial rfl) rfl ?_
    refine WPL.q (q_mv (v := .tup _) rfl) rfl ?_
    refine WPL.q (q_extract rfl rfl) rfl ?_
    refine WPL.q (q_extract rfl rfl) rfl ?_
    refine WPL.q (q_as (v := .lit (.int _ _)) rfl) rfl ?_
    refine WPL.q (q_as (v := .lit (.int _ _)) rfl) rfl ?_
    refine WPL.nilW ?_
    refine W.now ?_
    refine Then.n ?_
    refine WP.seq ?_
    refine WP.region ?_
    refine WPL.q (q_mv (v := .lit (.int _ _)) rfl) rfl ?_
    refine WPL.q (q_eql rfl rfl) rfl ?_
    refine WPL.q (q_as (v := .lit (.bool _)) rfl) rfl ?_
    refine WPL.nilW ?_
    refine W.now ?_
    refine Then.n ?_
    refine WP.retW ?_
    refine W.now ?_
    have q0 := (Option.some.inj H)
    subst q0
    exact ⟨trivial, _, rfl, [], (.lit (.bool (decide (x5781 = 32768)))), Mem.nil, ⟨rfl, trivial, by decide, rfl, trivial⟩, rfl, rfl, rfl, rfl⟩
set_option maxRecDepth 100000 in
set_option maxHeartbeats 4000000 in
theorem s5 (k : Nat) (x5353 : (List Int)) (x5835 : Bool) (H : f5 k x5353 = some x5835) : Go.Q.Spec Try.prog 5 0 [.ro (Rd.slice (Rd.int .i64)) false x5353] Mem.nil (fun o M => o = .ret (.lit (.bool x5835)) ∧ M = Mem.nil) := by
  unfold f5 at H
  refine Go.Q.Spec.of_bodyR (rs := [.tmp 2]) (nt := 51) Try.func5 rfl rfl (by intro t T h; simp at h) rfl rfl fun cx hnp => ?_
  refine WP.seq ?_
  refine WP.region ?_
  refine WPL.q (q_as (v := .lit (.bool _)) rfl) rfl ?_
  refine WPL.nilW ?_
  refine W.now ?_
  refine Then.n ?_
  refine WP.seq ?_
  refine WP.region ?_
  refine WPL.q (q_mv (v := .ro _ _ _) rfl) rfl ?_
  obtain ⟨⟨x5837, x5838⟩, h5835, H⟩ := bnd H
  refine WPL.c (runs_call (s := []) (t := []) (N := 0) (bor := []) fn14 rfl (s14 k x5353 x5837 x5838 h5835) ⟨rfl, trivial, by decide, rfl, trivial⟩ rfl trivial (.ren rfl rfl .nil) rfl trivial rfl) rfl ?_
  refine WPL.q (q_mv (v := .tup _) rfl) rfl ?_
  refine WPL.q (q_extract rfl rfl) rfl ?_
  refine WPL.q (q_extract rfl rfl) rfl ?_
  refine WPL.q (q_as (v := .ro _ _ _) rfl) rfl ?_
  refine WPL.q (q_as (v := .lit (.int _ _)) rfl) rfl ?_
  refine WPL.nilW ?_
  refine W.now ?_
  refine Then.n ?_
  refine WP.seq ?_
  refine WP.region ?_
  refine WPL.q (q_mv (v := .ro _ _ _) rfl) rfl ?_
  obtain ⟨⟨x5840, x5841⟩, h5838, H⟩ := bnd H
  refine WPL.c (runs_call (s := []) (t := []) (N := 0) (bor := []) fn15 rfl (s15 k x5353 x5840 x5841 h5838) ⟨rfl, trivial, by decide, rfl, trivial⟩ rfl trivial (.ren rfl rfl .nil) rfl trivial rfl) rfl ?_
  refine WPL.q (q_mv (v := .tup _) rfl) rfl ?_
  refine WPL.q (q_extract rfl rfl) rfl ?_
  refine WPL.q (q_extract rfl rfl) rfl ?_
  refine WPL.q (q_as (v := .ro _ _ _) rfl) rfl ?_
  refine WPL.q (q_as (v := .lit (.int _ _)) rfl) rfl ?_
  refine WPL.nilW ?_
  refine W.now ?_
  refine Then.n ?_
  refine WP.seq ?_
  refine WP.seq ?_
  obtain ⟨x5865, H5872, H⟩ := bnd H
  refine WP.monoW (Q := fun x E M => x = .normal ∧ E = (((Env.none.upd 3 (.ro (Rd.slice (Rd.int .u32)) false x5837)).upd 5 (.ro (Rd.slice (Rd.int .u32)) false x5840)).upd 34 (.lit (.bool x5865))) ∧ M = Mem.nil) ?_ ?_
  · clear H
    have H := H5872
    clear H5872
    refine WP.region ?_
    refine WPL.q (q_mv (v := .lit (.int _ _)) rfl) rfl ?_
    refine WPL.q (q_mv (v := .lit (.int _ _)) rfl) rfl ?_
    refine WPL.q (q_neq rfl rfl) rfl ?_
    refine WPL.q (q_mv (v := .lit (.bool _)) rfl) rfl ?_
    refine WPL.split (t := 21) (b := (!decide (x5838 = x5841))) rfl (fun hb5865 => ?_) (fun hb5865 => ?_)
    · replace H := cnt hb5865 H
      refine WPL.skipg (b' := true) rfl rfl (lb hb5865) rfl rfl ?_
      refine WPL.skipg (b' := true) rfl rfl (lb hb5865) rfl rfl ?_
      refine WPL.skipg (b' := true) rfl rfl (lb hb5865) rfl rfl ?_
      refine WPL.skipg (b' := true) rfl rfl (lb hb5865) rfl rfl ?_
      refine WPL.skipg (b' := true) rfl rfl (lb hb5865) rfl rfl ?_
      refine WPL.q (q_pickT (v := .lit (.bool _)) (lb hb5865) rfl) rfl ?_
      refine WPL.q (q_mv (v := .lit (.bool _)) rfl) rfl ?_
      refine WPL.skipg (b' := true) rfl rfl rfl rfl rfl ?_
      refine WPL.skipg (b' := true) rfl rfl rfl rfl rfl ?_
      refine WPL.skipg (b' := true) rfl rfl rfl rfl rfl ?_
      refine WPL.skipg (b' := true) rfl rfl rfl rfl rfl ?_
      refine WPL.skipg (b' := true) rfl rfl rfl rfl rfl ?_
      refine WPL.q (q_pickT (v := .lit (.bool _)) rfl rfl) rfl ?_
      refine WPL.nilW ?_
      refine W.cv (Cv.weak (E' := (((Env.none.upd 3 (.ro (Rd.slice (Rd.int .u32)) false x5837)).upd 5 (.ro (Rd.slice (Rd.int .u32)) false x5840)).upd 34 (.lit (.bool true)))) (M' := Mem.nil) [] hnp ⟨rfl, trivial, by decide, rfl, trivial⟩ (LeE.upd rfl rfl (LeE.upd rfl rfl (LeE.upd rfl rfl (LeE.none rfl rfl))))) rfl ?_
      refine W.now ?_
      have q0 := (Option.some.inj H)
      subst q0
      exact ⟨rfl, rfl, rfl⟩
    · replace H := cnf hb5865 H
      refine WPL.qg rfl rfl (lb hb5865) (q_mv (v := .ro _ _ _) rfl) rfl ?_
      refine WPL.qg rfl rfl (lb hb5865) (q_len_ro sl32 rfl) rfl ?_
      refine WPL.qg rfl rfl (lb hb5865) (q_mv (v := .ro _ _ _) rfl) rfl ?_
      refine WPL.qg rfl rfl (lb hb5865) (q_len_ro sl32 rfl) rfl ?_
      obtain ⟨x5867, h5867, H⟩ := bnd H
      refine WPL.qg rfl rfl (lb hb5865) (q_nm (q_neq rfl rfl) (nm_bool h5867)) rfl ?_
      refine WPL.q (q_pickF (v := .lit (.bool _)) (lb hb5865) rfl) rfl ?_
      refine WPL.q (q_mv (v := .lit (.bool _)) rfl) rfl ?_
      refine WPL.split (t := 28) (b := x5867) rfl (fun hb5867 => ?_) (fun hb5867 => ?_)
      · replace H := cnt hb5867 H
        refine WPL.skipg (b' := true) rfl rfl (lb hb5867) rfl rfl ?_
        refine WPL.skipg (b' := true) rfl rfl (lb hb5867) rfl rfl ?_
        refine WPL.skipg (b' := true) rfl rfl (lb hb5867) rfl rfl ?_
        refine WPL.skipg (b' := true) rfl rfl (lb hb5867) rfl rfl ?_
        refine WPL.skipg (b' := true) rfl rfl (lb hb5867) rfl rfl ?_
        refine WPL.q (q_pickT (v := .lit (.bool _)) (lb hb5867) rfl) rfl ?_
        refine WPL.nilW ?_
        refine W.cv (Cv.weak (E' := (((Env.none.upd 3 (.ro (Rd.slice (Rd.int .u32)) false x5837)).upd 5 (.ro (Rd.slice (Rd.int .u32)) false x5840)).upd 34 (.lit (.bool true)))) (M' := Mem.nil) [] hnp ⟨rfl, trivial, by decide, rfl, trivial⟩ (LeE.upd rfl rfl (LeE.upd rfl rfl (LeE.upd rfl rfl (LeE.none rfl rfl))))) rfl ?_
        refine W.now ?_
        have q0 := (Option.some.inj H)
        subst q0
        exact ⟨rfl, rfl, rfl⟩
      · replace H := cnf hb5867 H
        refine WPL.qg rfl rfl (lb hb5867) (q_mv (v := .ro _ _ _) rfl) rfl ?_
        obtain ⟨x5870, h5868, H⟩ := bnd H
        refine WPL.cg rfl rfl (lb hb5867) (runs_call (s := []) (t := []) (N := 0) (bor := []) fn16 rfl (s16 k x5353 x5870 h5868) ⟨rfl, trivial, by decide, rfl, trivial⟩ rfl trivial (.ren rfl rfl .nil) rfl trivial rfl) rfl ?_
        refine WPL.qg rfl rfl (lb hb5867) (q_mv (v := .ro _ _ _) rfl) rfl ?_
        obtain ⟨x5872, h5870, H⟩ := bnd H
        refine WPL.cg rfl rfl (lb hb5867) (runs_call (s := []) (t := []) (N := 0) (bor := []) fn17 rfl (s17 k x5353 x5872 h5870) ⟨rfl, trivial, by decide, rfl, trivial⟩ rfl trivial (.ren rfl rfl .nil) rfl trivial rfl) rfl ?_
        refine WPL.qg rfl rfl (lb hb5867) (q_neqb Try.underlying4 rfl rfl) rfl ?_
        refine WPL.q (q_pickF (v := .lit (.bool _)) (lb hb5867) rfl) rfl ?_
        refine WPL.nilW ?_
        refine W.cv (Cv.weak (E' := (((Env.none.upd 3 (.ro (Rd.slice (Rd.int .u32)) false x5837)).upd 5 (.ro (Rd.slice (Rd.int .u32)) false x5840)).upd 34 (.lit (.bool (!(x5870 == x5872)))))) (M' := Mem.nil) [] hnp ⟨rfl, trivial, by decide, rfl, trivial⟩ (LeE.upd rfl rfl (LeE.upd rfl rfl (LeE.upd rfl rfl (LeE.none rfl rfl))))) rfl ?_
        refine W.now ?_
        have q0 := (Option.some.inj H)
        subst q0
        exact ⟨rfl, rfl, rfl⟩
  · rintro _ _ _ ⟨rfl, rfl, rfl⟩
    refine W.now ?_
    refine Then.n ?_
    refine WP.cond (t := x5865) rfl (fun hb => ?_) (fun hb => ?_)
    · replace H := cnt hb H
      refine WP.seq ?_
      refine WP.region ?_
      refine WPL.q (q_as (v := .lit (.bool _)) rfl) rfl ?_
      refine WPL.nilW ?_
      refine W.now ?_
      refine Then.n ?_
      refine WP.retW ?_
      refine W.now ?_
      refine Then.r ?_
      have q0 := (Option.some.inj H)
      subst q0
      exact ⟨trivial, _, rfl, [], (.lit (.bool false)), Mem.nil, ⟨rfl, trivial, by decide, rfl, trivial⟩, rfl, rfl, rfl, rfl⟩
    · replace H := cnf hb H
      refine WP.skipW ?_
      refine W.now ?_
      refine Then.n ?_
      refine WP.seq ?_
      refine WP.seq ?_
      refine WP.region ?_
      refine WPL.q (q_as (v := .lit (.int _ _)) rfl) rfl ?_
      refine WPL.nilW ?_
      refine W.now ?_
      refine Then.n ?_
      refine WP.block ?_
      refine WP.cv (Cv.weak (E' := (((Env.none.upd 3 (.ro (Rd.slice (Rd.int .u32)) false x5837)).upd 5 (.ro (Rd.slice (Rd.int .u32)) false x5840)).upd 7 (.lit (.int .i64 0)))) (M' := Mem.nil) [] hnp ⟨rfl, trivial, by decide, rfl, trivial⟩ (LeE.upd rfl rfl (LeE.upd rfl rfl (LeE.upd rfl rfl (LeE.none rfl rfl))))) ?_
      obtain ⟨y5906, H5904, H⟩ := bnd H
      refine WP.monoW (Q := fun x E M => match (generalizing := false) y5906 with | (Sum.inl _) => x = .ret ∧ E = (Env.none.upd 2 (.lit (.bool false))) ∧ M = Mem.nil | (Sum.inr _) => x = .exit 0 ∧ E = Env.none ∧ M = Mem.nil) ?_ ?_
      · refine WP.loop (β := Int) (fun n b => f5_l0 k x5837 x5840 n b = some y5906) (fun b => (((Env.none.upd 3 (.ro (Rd.slice (Rd.int .u32)) false x5837)).upd 5 (.ro (Rd.slice (Rd.int .u32)) false x5840)).upd 7 (.lit (.int .i64 b)))) (fun b => Mem.nil) k 0 H5904 rfl rfl ?_
        rintro n x5884 H
        obtain _ | n := n
        · exact nf rfl H
        rw [f5_l0.eq_2] at H
        show WP _ _ _ _ (((Env.none.upd 3 (.ro (Rd.slice (Rd.int .u32)) false x5837)).upd 5 (.ro (Rd.slice (Rd.int .u32)) false x5840)).upd 7 (.lit (.int .i64 x5884))) Mem.nil _
        refine WP.seq ?_
        refine WP.seq ?_
        refine WP.region ?_
        refine WPL.q (q_mv (v := .lit (.int _ _)) rfl) rfl ?_
        refine WPL.q (q_mv (v := .ro _ _ _) rfl) rfl ?_
        refine WPL.q (q_len_ro sl32 rfl) rfl ?_
        obtain ⟨x5896, h5896, H⟩ := bnd H
        refine WPL.q (q_nm (q_lss rfl rfl) (nm_bool h5896)) rfl ?_
        refine WPL.nilW ?_
        refine W.now ?_
        refine Then.n ?_
        refine WP.cond (t := x5896) rfl (fun hb => ?_) (fun hb => ?_)
        · replace H := cnt hb H
          refine WP.skipW ?_
          refine W.now ?_
          refine Then.n ?_
          refine WP.seq ?_
          refine WP.block ?_
          refine WP.seq ?_
          refine WP.regionD' 9 [] [] mixed rfl ?_
          refine WPD.takeT 0 rfl (by kernel_rfl) (q_mv (v := .ro _ _ _) rfl) rfl ?_
          refine WPD.takeT 1 rfl (by kernel_rfl) (q_mv (v := .lit (.int _ _)) rfl) rfl ?_
          obtain ⟨x5903, h5903, H⟩ := bnd H
          refine WPD.takeT 2 rfl (by kernel_rfl) (q_index_ro sl32 rfl rfl rfl h5903) rfl ?_
          refine WPD.takeT 3 rfl (by kernel_rfl) (q_load_sc sc35 rfl) rfl ?_
          refine WPD.takeT 4 rfl (by kernel_rfl) (q_mv (v := .ro _ _ _) rfl) rfl ?_
          refine WPD.takeT 5 rfl (by kernel_rfl) (q_mv (v := .lit (.int _ _)) rfl) rfl ?_
          obtain ⟨x5904, h5904, H⟩ := bnd H
          refine WPD.takeT 6 rfl (by kernel_rfl) (q_index_ro sl32 rfl rfl rfl h5904) rfl ?_
          refine WPD.takeT 7 rfl (by kernel_rfl) (q_load_sc sc35 rfl) rfl ?_
          refine WPD.takeT 8 rfl (by kernel_rfl) (q_neq rfl rfl) rfl ?_
          refine WPD.doneW (by kernel_rfl) ?_
          refine W.now ?_
          refine Then.n ?_
          refine WP.cond (t := (!decide (x5903 = x5904))) rfl (fun hb => ?_) (fun hb => ?_)
          · replace H := cnt hb H
            refine WP.seq ?_
            refine WP.region ?_
            refine WPL.q (q_as (v := .lit (.bool _)) rfl) rfl ?_
            refine WPL.nilW ?_
            refine W.now ?_
            refine Then.n ?_
            refine WP.retW ?_
            refine W.cv (Cv.weak (E' := (Env.none.upd 2 (.lit (.bool false)))) (M' := Mem.nil) [] hnp ⟨rfl, trivial, by decide, rfl, trivial⟩ (LeE.upd rfl rfl (LeE.none rfl rfl))) rfl ?_
            refine W.now ?_
            refine InBlock.r ?_
            refine Then.r ?_
            refine Then.r ?_
            have q0 := Option.some.inj H
            subst q0
            exact ⟨rfl, rfl, rfl⟩
          · replace H := cnf hb H
            refine WP.skipW ?_
            refine W.now ?_
            refine InBlock.n ?_
            refine Then.n ?_
            refine WP.region ?_
            refine WPL.q (q_mv (v := .lit (.int _ _)) rfl) rfl ?_
            refine WPL.q (q_add rfl rfl) rfl ?_
            refine WPL.q (q_as (v := .lit (.int _ _)) rfl) rfl ?_
            refine WPL.nilW ?_
            refine W.cv (Cv.weak (E' := (((Env.none.upd 3 (.ro (Rd.slice (Rd.int .u32)) false x5837)).upd 5 (.ro (Rd.slice (Rd.int .u32)) false x5840)).upd 7 (.lit (.int .i64 (IntKind.wrap .i64 (x5884 + 1)))))) (M' := Mem.nil) [] hnp ⟨rfl, trivial, by decide, rfl, trivial⟩ (LeE.upd rfl rfl (LeE.upd rfl rfl (LeE.upd rfl rfl (LeE.none rfl rfl))))) rfl ?_
            refine W.now ?_
            exact Then.n ⟨n, (IntKind.wrap .i64 (x5884 + 1)), Nat.lt_succ_self n, H, rfl, rfl⟩
        · replace H := cnf hb H
          refine WP.exitW ?_
          refine W.cv (Cv.weak (E' := Env.none) (M' := Mem.nil) [] hnp ⟨rfl, trivial, by decide, rfl, trivial⟩ (LeE.none rfl rfl)) rfl ?_
          refine W.now ?_
          refine Then.x ?_
          refine Then.x ?_
          have q0 := Option.some.inj H
          subst q0
          exact ⟨rfl, rfl, rfl⟩
      · rcases y5906 with _ | _
        · rintro _ _ _ ⟨rfl, rfl, rfl⟩
          refine W.now ?_
          refine InBlock.r ?_
          refine Then.r ?_
          have q0 := (Option.some.inj H)
          subst q0
          exact ⟨trivial, _, rfl, [], (.lit (.bool false)), Mem.nil, ⟨rfl, trivial, by decide, rfl, trivial⟩, rfl, rfl, rfl, rfl⟩
        · rintro _ _ _ ⟨rfl, rfl, rfl⟩
          refine W.now ?_
          refine InBlock.x0 ?_
          refine Then.n ?_
          refine WP.seq ?_
          refine WP.region ?_
          obtain ⟨x5908, h5906, H⟩ := bnd H
          refine WPL.c (runs_call (s := []) (t := []) (N := 0) (bor := []) fn10 rfl (s10 k x5908 h5906) ⟨rfl, trivial, by decide, rfl, trivial⟩ rfl trivial .nil rfl trivial rfl) rfl ?_
          refine WPL.q (q_as (v := .lit (.bool _)) rfl) rfl ?_
          refine WPL.nilW ?_
          refine W.now ?_
          refine Then.n ?_
          refine WP.retW ?_
          refine W.now ?_
          have q0 := (Option.some.inj H)
          subst q0
          exact ⟨trivial, _, rfl, [], (.lit (.bool x5908)), Mem.nil, ⟨rfl, trivial, by decide, rfl, trivial⟩, rfl, rfl, rfl, rfl⟩
end Go.Proofs.Ythgbompoldmhmaa.W
