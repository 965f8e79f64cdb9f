/- Walks: Fc3 -/
import Derived.Test.YthgbompoldmhmaaFb
import Derived.Test.YthgbompoldmhmaaFc1
import Derived.Test.YthgbompoldmhmaaFc2
namespace Go.Proofs.Ythgbompoldmhmaa.W
open Go Go.Q Go.Proofs
set_option linter.unusedVariables false
set_option linter.unusedSimpArgs false
set_option maxRecDepth 100000 in
set_option maxHeartbeats 4000000 in
theorem s39 (k : Nat) (x1387 : Int) (x1388 : (List S55coin)) (x3538 : (List S55coin)) (H : f39 k x1387 x1388 = some x3538) : Go.Q.Spec Try.prog 39 1 [.whole 0, .lit (.int .i64 x1387), .fn 25 []] (Mem.nil.push (.row 55 rdS55coin x1388)) (fun o M => o = .ret (.tup []) ∧ M = (Mem.nil.push (.row 55 rdS55coin x3538))) := by
  unfold f39 at H
  refine Go.Q.Spec.of_bodyR (rs := []) (nt := 63) Try.func39 rfl rfl (by intro t T h; simp at h) rfl rfl fun cx hnp => ?_
  refine WP.seq ?_
  refine WP.region ?_
  refine WPL.q (q_as (v := .lit (.int _ _)) rfl) rfl ?_
  refine WPL.nilW ?_
  refine W.now ?_
  refine Then.n ?_
  refine WP.seq ?_
  refine WP.region ?_
  refine WPL.q (q_mv (v := .lit (.int _ _)) rfl) rfl ?_
  refine WPL.q (q_as (v := .lit (.int _ _)) rfl) rfl ?_
  refine WPL.q (q_as (v := .lit (.int _ _)) rfl) rfl ?_
  refine WPL.nilW ?_
  refine W.now ?_
  refine Then.n ?_
  refine WP.seq ?_
  refine WP.block ?_
  refine WP.cv (Cv.weak (E' := ((((((Env.none.upd 0 (.whole 0)).upd 1 (.lit (.int .i64 x1387))).upd 2 (.fn 25 [])).upd 6 (.lit (.int .i64 20))).upd 7 (.lit (.int .i64 0))).upd 8 (.lit (.int .i64 20)))) (M' := (Mem.nil.push (.row 55 rdS55coin x1388))) [0] hnp ⟨rfl, ⟨trivial, .inr ⟨rfl, rfl, rfl⟩⟩, by decide, rfl, ⟨trivial, rfl⟩⟩ (LeE.upd rfl rfl (LeE.upd rfl rfl (LeE.upd rfl rfl (LeE.upd rfl rfl (LeE.upd rfl rfl (LeE.upd rfl rfl (LeE.none rfl rfl)))))))) ?_
  obtain ⟨⟨x3546, x3547⟩, H3549, H⟩ := bnd H
  refine WP.monoW (Q := fun x E M => x = .exit 0 ∧ E = (((((Env.none.upd 0 (.whole 0)).upd 1 (.lit (.int .i64 x1387))).upd 2 (.fn 25 [])).upd 6 (.lit (.int .i64 20))).upd 7 (.lit (.int .i64 x3546))) ∧ M = (Mem.nil.push (.row 55 rdS55coin x3547))) ?_ ?_
  · refine WP.loop (β := Int × Int × (List S55coin)) (fun n b => f39_l0 k x1387 n b.1 b.2.1 b.2.2 = some (x3546, x3547)) (fun b => ((((((Env.none.upd 0 (.whole 0)).upd 1 (.lit (.int .i64 x1387))).upd 2 (.fn 25 [])).upd 6 (.lit (.int .i64 20))).upd 7 (.lit (.int .i64 b.1))).upd 8 (.lit (.int .i64 b.2.1)))) (fun b => (Mem.nil.push (.row 55 rdS55coin b.2.2))) k (0, 20, x1388) H3549 rfl rfl ?_
    rintro n ⟨x3541, x3542, x3543⟩ H
    obtain _ | n := n
    · exact nf rfl H
    rw [f39_l0.eq_2] at H
    show WP _ _ _ _ ((((((Env.none.upd 0 (.whole 0)).upd 1 (.lit (.int .i64 x1387))).upd 2 (.fn 25 [])).upd 6 (.lit (.int .i64 20))).upd 7 (.lit (.int .i64 x3541))).upd 8 (.lit (.int .i64 x3542))) (Mem.nil.push (.row 55 rdS55coin x3543)) _
    refine WP.seq ?_
    refine WP.seq ?_
    refine WP.region ?_
    refine WPL.q (q_mv (v := .lit (.int _ _)) rfl) rfl ?_
    refine WPL.q (q_mv (v := .lit (.int _ _)) rfl) rfl ?_
    refine WPL.q (q_leq rfl rfl) rfl ?_
    refine WPL.nilW ?_
    refine W.now ?_
    refine Then.n ?_
    refine WP.cond (t := (decide (x3542 ≤ x1387))) rfl (fun hb => ?_) (fun hb => ?_)
    · replace H := cnt hb H
      refine WP.skipW ?_
      refine W.now ?_
      refine Then.n ?_
      refine WP.block ?_
      refine WP.seq ?_
      refine WP.region ?_
      refine WPL.q (q_mv (v := .whole _) rfl) rfl ?_
      refine WPL.q (q_mv (v := .lit (.int _ _)) rfl) rfl ?_
      refine WPL.q (q_mv (v := .lit (.int _ _)) rfl) rfl ?_
      refine WPL.q (q_mv (v := .fn _ _) rfl) rfl ?_
      obtain ⟨x3549, h3547, H⟩ := bnd H
      refine WPL.c (runs_call (s := [0]) (t := [0]) (N := 1) (bor := []) fn43 rfl (s43 k x3541 x3542 x3543 x3549 h3547) ⟨rfl, ⟨trivial, .inr ⟨rfl, rfl, rfl⟩⟩, by decide, rfl, trivial⟩ rfl trivial (.ren rfl rfl (.ren rfl rfl (.ren rfl rfl (.ren rfl rfl .nil)))) rfl ⟨trivial, rfl⟩ rfl) rfl ?_
      refine WPL.nilW ?_
      refine W.now ?_
      refine Then.n ?_
      refine WP.seq ?_
      refine WP.region ?_
      refine WPL.q (q_mv (v := .lit (.int _ _)) rfl) rfl ?_
      refine WPL.q (q_as (v := .lit (.int _ _)) rfl) rfl ?_
      refine WPL.nilW ?_
      refine W.now ?_
      refine Then.n ?_
      refine WP.region ?_
      refine WPL.q (q_mv (v := .lit (.int _ _)) rfl) rfl ?_
      refine WPL.q (q_mv (v := .lit (.int _ _)) rfl) rfl ?_
      refine WPL.q (q_add rfl rfl) rfl ?_
      refine WPL.q (q_as (v := .lit (.int _ _)) rfl) rfl ?_
      refine WPL.nilW ?_
      refine W.cv (Cv.weak (E' := ((((((Env.none.upd 0 (.whole 0)).upd 1 (.lit (.int .i64 x1387))).upd 2 (.fn 25 [])).upd 6 (.lit (.int .i64 20))).upd 7 (.lit (.int .i64 x3542))).upd 8 (.lit (.int .i64 (IntKind.wrap .i64 (x3542 + 20)))))) (M' := (Mem.nil.push (.row 55 rdS55coin x3549))) [0] hnp ⟨rfl, ⟨trivial, .inr ⟨rfl, rfl, rfl⟩⟩, by decide, rfl, ⟨trivial, rfl⟩⟩ (LeE.upd rfl rfl (LeE.upd rfl rfl (LeE.upd rfl rfl (LeE.upd rfl rfl (LeE.upd rfl rfl (LeE.upd rfl rfl (LeE.none rfl rfl)))))))) rfl ?_
      refine W.now ?_
      refine InBlock.n ?_
      exact Then.n ⟨n, (x3542, (IntKind.wrap .i64 (x3542 + 20)), x3549), Nat.lt_succ_self n, H, rfl, rfl⟩
    · replace H := cnf hb H
      refine WP.exitW ?_
      refine W.cv (Cv.weak (E' := (((((Env.none.upd 0 (.whole 0)).upd 1 (.lit (.int .i64 x1387))).upd 2 (.fn 25 [])).upd 6 (.lit (.int .i64 20))).upd 7 (.lit (.int .i64 x3541)))) (M' := (Mem.nil.push (.row 55 rdS55coin x3543))) [0] hnp ⟨rfl, ⟨trivial, .inr ⟨rfl, rfl, rfl⟩⟩, by decide, rfl, ⟨trivial, rfl⟩⟩ (LeE.upd rfl rfl (LeE.upd rfl rfl (LeE.upd rfl rfl (LeE.upd rfl rfl (LeE.upd rfl rfl (LeE.none rfl rfl))))))) rfl ?_
      refine W.now ?_
      refine Then.x ?_
      refine Then.x ?_
      have q0 := (Prod.mk.inj (Option.some.inj H)).1
      have q1 := (Prod.mk.inj (Option.some.inj H)).2
      subst q0
      subst q1
      exact ⟨rfl, rfl, rfl⟩
  · rintro _ _ _ ⟨rfl, rfl, rfl⟩
    refine W.now ?_
    refine InBlock.x0 ?_
    refine Then.n ?_
    refine WP.seq ?_
    refine WP.region ?_
    refine WPL.q (q_mv (v := .whole _) rfl) rfl ?_
    refine WPL.q (q_mv (v := .lit (.int _ _)) rfl) rfl ?_
    refine WPL.q (q_mv (v := .lit (.int _ _)) rfl) rfl ?_
    refine WPL.q (q_mv (v := .fn _ _) rfl) rfl ?_
    obtain ⟨x3552, h3550, H⟩ := bnd H
    refine WPL.c (runs_call (s := [0]) (t := [0]) (N := 1) (bor := []) fn43 rfl (s43 k x3546 x1387 x3547 x3552 h3550) ⟨rfl, ⟨trivial, .inr ⟨rfl, rfl, rfl⟩⟩, by decide, rfl, trivial⟩ rfl trivial (.ren rfl rfl (.ren rfl rfl (.ren rfl rfl (.ren rfl rfl .nil)))) rfl ⟨trivial, rfl⟩ rfl) rfl ?_
    refine WPL.nilW ?_
    refine W.now ?_
    refine Then.n ?_
    refine WP.block ?_
    refine WP.cv (Cv.weak (E' := ((((Env.none.upd 0 (.whole 0)).upd 1 (.lit (.int .i64 x1387))).upd 2 (.fn 25 [])).upd 6 (.lit (.int .i64 20)))) (M' := (Mem.nil.push (.row 55 rdS55coin x3552))) [0] hnp ⟨rfl, ⟨trivial, .inr ⟨rfl, rfl, rfl⟩⟩, by decide, rfl, ⟨trivial, rfl⟩⟩ (LeE.upd rfl rfl (LeE.upd rfl rfl (LeE.upd rfl rfl (LeE.upd rfl rfl (LeE.none rfl rfl)))))) ?_
    obtain ⟨x3599, H3624, H⟩ := bnd H
    refine WP.monoW (Q := fun x E M => x = .exit 2 ∧ E = Env.none ∧ M = (Mem.nil.push (.row 55 rdS55coin x3599))) ?_ ?_
    · refine WP.loop (β := Int × (List S55coin)) (fun n b => f39_l1 k x1387 n b.1 b.2 = some x3599) (fun b => ((((Env.none.upd 0 (.whole 0)).upd 1 (.lit (.int .i64 x1387))).upd 2 (.fn 25 [])).upd 6 (.lit (.int .i64 b.1)))) (fun b => (Mem.nil.push (.row 55 rdS55coin b.2))) k (20, x3552) H3624 rfl rfl ?_
      rintro n ⟨x3575, x3576⟩ H
      obtain _ | n := n
      · exact nf rfl H
      rw [f39_l1.eq_2] at H
      show WP _ _ _ _ ((((Env.none.upd 0 (.whole 0)).upd 1 (.lit (.int .i64 x1387))).upd 2 (.fn 25 [])).upd 6 (.lit (.int .i64 x3575))) (Mem.nil.push (.row 55 rdS55coin x3576)) _
      refine WP.seq ?_
      refine WP.seq ?_
      refine WP.region ?_
      refine WPL.q (q_mv (v := .lit (.int _ _)) rfl) rfl ?_
      refine WPL.q (q_mv (v := .lit (.int _ _)) rfl) rfl ?_
      refine WPL.q (q_lss rfl rfl) rfl ?_
      refine WPL.nilW ?_
      refine W.now ?_
      refine Then.n ?_
      refine WP.cond (t := (decide (x3575 < x1387))) rfl (fun hb => ?_) (fun hb => ?_)
      · replace H := cnt hb H
        refine WP.skipW ?_
        refine W.now ?_
        refine Then.n ?_
        refine WP.block ?_
        refine WP.seq ?_
        refine WP.region ?_
        refine WPL.q (q_mv (v := .lit (.int _ _)) rfl) rfl ?_
        refine WPL.q (q_mul rfl rfl) rfl ?_
        refine WPL.q (q_as (v := .lit (.int _ _)) rfl) rfl ?_
        refine WPL.q (q_as (v := .lit (.int _ _)) rfl) rfl ?_
        refine WPL.nilW ?_
        refine W.now ?_
        refine Then.n ?_
        refine WP.seq ?_
        refine WP.block ?_
        refine WP.cv (Cv.weak (E' := ((((((Env.none.upd 0 (.whole 0)).upd 1 (.lit (.int .i64 x1387))).upd 2 (.fn 25 [])).upd 6 (.lit (.int .i64 x3575))).upd 7 (.lit (.int .i64 0))).upd 8 (.lit (.int .i64 (IntKind.wrap .i64 (2 * x3575)))))) (M' := (Mem.nil.push (.row 55 rdS55coin x3576))) [0] hnp ⟨rfl, ⟨trivial, .inr ⟨rfl, rfl, rfl⟩⟩, by decide, rfl, ⟨trivial, rfl⟩⟩ (LeE.upd rfl rfl (LeE.upd rfl rfl (LeE.upd rfl rfl (LeE.upd rfl rfl (LeE.upd rfl rfl (LeE.upd rfl rfl (LeE.none rfl rfl)))))))) ?_
        obtain ⟨⟨x3611, x3612⟩, H3615, H⟩ := bnd H
        refine WP.monoW (Q := fun x E M => x = .exit 4 ∧ E = (((((Env.none.upd 0 (.whole 0)).upd 1 (.lit (.int .i64 x1387))).upd 2 (.fn 25 [])).upd 6 (.lit (.int .i64 x3575))).upd 7 (.lit (.int .i64 x3611))) ∧ M = (Mem.nil.push (.row 55 rdS55coin x3612))) ?_ ?_
        · refine WP.loop (β := Int × Int × (List S55coin)) (fun n b => f39_l2 k x1387 x3575 n b.1 b.2.1 b.2.2 = some (x3611, x3612)) (fun b => ((((((Env.none.upd 0 (.whole 0)).upd 1 (.lit (.int .i64 x1387))).upd 2 (.fn 25 [])).upd 6 (.lit (.int .i64 x3575))).upd 7 (.lit (.int .i64 b.1))).upd 8 (.lit (.int .i64 b.2.1)))) (fun b => (Mem.nil.push (.row 55 rdS55coin b.2.2))) k (0, (IntKind.wrap .i64 (2 * x3575)), x3576) H3615 rfl rfl ?_
          rintro n ⟨x3605, x3606, x3607⟩ H
          obtain _ | n := n
          · exact nf rfl H
          rw [f39_l2.eq_2] at H
          show WP _ _ _ _ ((((((Env.none.upd 0 (.whole 0)).upd 1 (.lit (.int .i64 x1387))).upd 2 (.fn 25 [])).upd 6 (.lit (.int .i64 x3575))).upd 7 (.lit (.int .i64 x3605))).upd 8 (.lit (.int .i64 x3606))) (Mem.nil.push (.row 55 rdS55coin x3607)) _
          refine WP.seq ?_
          refine WP.seq ?_
          refine WP.region ?_
          refine WPL.q (q_mv (v := .lit (.int _ _)) rfl) rfl ?_
          refine WPL.q (q_mv (v := .lit (.int _ _)) rfl) rfl ?_
          refine WPL.q (q_leq rfl rfl) rfl ?_
          refine WPL.nilW ?_
          refine W.now ?_
          refine Then.n ?_
          refine WP.cond (t := (decide (x3606 ≤ x1387))) rfl (fun hb => ?_) (fun hb => ?_)
          · replace H := cnt hb H
            refine WP.skipW ?_
            refine W.now ?_
            refine Then.n ?_
            refine WP.block ?_
            refine WP.seq ?_
            refine WP.region ?_
            refine WPL.q (q_mv (v := .whole _) rfl) rfl ?_
            refine WPL.q (q_mv (v := .lit (.int _ _)) rfl) rfl ?_
            refine WPL.q (q_mv (v := .lit (.int _ _)) rfl) rfl ?_
            refine WPL.q (q_mv (v := .lit (.int _ _)) rfl) rfl ?_
            refine WPL.q (q_add rfl rfl) rfl ?_
            refine WPL.q (q_mv (v := .lit (.int _ _)) rfl) rfl ?_
            refine WPL.q (q_mv (v := .fn _ _) rfl) rfl ?_
            obtain ⟨x3614, h3612, H⟩ := bnd H
            refine WPL.c (runs_call (s := [0]) (t := [0]) (N := 1) (bor := []) fn44 rfl (s44 k x3605 (IntKind.wrap .i64 (x3605 + x3575)) x3606 x3607 x3614 h3612) ⟨rfl, ⟨trivial, .inr ⟨rfl, rfl, rfl⟩⟩, by decide, rfl, trivial⟩ rfl trivial (.ren rfl rfl (.ren rfl rfl (.ren rfl rfl (.ren rfl rfl (.ren rfl rfl .nil))))) rfl ⟨trivial, rfl⟩ rfl) rfl ?_
            refine WPL.nilW ?_
            refine W.now ?_
            refine Then.n ?_
            refine WP.seq ?_
            refine WP.region ?_
            refine WPL.q (q_mv (v := .lit (.int _ _)) rfl) rfl ?_
            refine WPL.q (q_as (v := .lit (.int _ _)) rfl) rfl ?_
            refine WPL.nilW ?_
            refine W.now ?_
            refine Then.n ?_
            refine WP.region ?_
            refine WPL.q (q_mv (v := .lit (.int _ _)) rfl) rfl ?_
            refine WPL.q (q_mv (v := .lit (.int _ _)) rfl) rfl ?_
            refine WPL.q (q_mul rfl rfl) rfl ?_
            obtain ⟨x3615, h3615, H⟩ := bnd H
            refine WPL.q (q_nm (q_add rfl rfl) (nm_int h3615)) rfl ?_
            refine WPL.q (q_as (v := .lit (.int _ _)) rfl) rfl ?_
            refine WPL.nilW ?_
            refine W.cv (Cv.weak (E' := ((((((Env.none.upd 0 (.whole 0)).upd 1 (.lit (.int .i64 x1387))).upd 2 (.fn 25 [])).upd 6 (.lit (.int .i64 x3575))).upd 7 (.lit (.int .i64 x3606))).upd 8 (.lit (.int .i64 x3615)))) (M' := (Mem.nil.push (.row 55 rdS55coin x3614))) [0] hnp ⟨rfl, ⟨trivial, .inr ⟨rfl, rfl, rfl⟩⟩, by decide, rfl, ⟨trivial, rfl⟩⟩ (LeE.upd rfl rfl (LeE.upd rfl rfl (LeE.upd rfl rfl (LeE.upd rfl rfl (LeE.upd rfl rfl (LeE.upd rfl rfl (LeE.none rfl rfl)))))))) rfl ?_
            refine W.now ?_
            refine InBlock.n ?_
            exact Then.n ⟨n, (x3606, x3615, x3614), Nat.lt_succ_self n, H, rfl, rfl⟩
          · replace H := cnf hb H
            refine WP.exitW ?_
            refine W.cv (Cv.weak (E' := (((((Env.none.upd 0 (.whole 0)).upd 1 (.lit (.int .i64 x1387))).upd 2 (.fn 25 [])).upd 6 (.lit (.int .i64 x3575))).upd 7 (.lit (.int .i64 x3605)))) (M' := (Mem.nil.push (.row 55 rdS55coin x3607))) [0] hnp ⟨rfl, ⟨trivial, .inr ⟨rfl, rfl, rfl⟩⟩, by decide, rfl, ⟨trivial, rfl⟩⟩ (LeE.upd rfl rfl (LeE.upd rfl rfl (LeE.upd rfl rfl (LeE.upd rfl rfl (LeE.upd rfl rfl (LeE.none rfl rfl))))))) rfl ?_
            refine W.now ?_
            refine Then.x ?_
            refine Then.x ?_
            have q0 := (Prod.mk.inj (Option.some.inj H)).1
            have q1 := (Prod.mk.inj (Option.some.inj H)).2
            subst q0
            subst q1
            exact ⟨rfl, rfl, rfl⟩
        · rintro _ _ _ ⟨rfl, rfl, rfl⟩
          refine W.now ?_
          refine InBlock.x0 ?_
          refine Then.n ?_
          refine WP.seq ?_
          obtain ⟨x3620, H3623, H⟩ := bnd H
          refine WP.monoW (Q := fun x E M => x = .normal ∧ E = ((((Env.none.upd 0 (.whole 0)).upd 1 (.lit (.int .i64 x1387))).upd 2 (.fn 25 [])).upd 6 (.lit (.int .i64 x3575))) ∧ M = (Mem.nil.push (.row 55 rdS55coin x3620))) ?_ ?_
          · clear H
            have H := H3623
            clear H3623
            refine WP.seq ?_
            refine WP.region ?_
            refine WPL.q (q_mv (v := .lit (.int _ _)) rfl) rfl ?_
            refine WPL.q (q_mv (v := .lit (.int _ _)) rfl) rfl ?_
            refine WPL.q (q_add rfl rfl) rfl ?_
            refine WPL.q (q_as (v := .lit (.int _ _)) rfl) rfl ?_
            refine WPL.nilW ?_
            refine W.now ?_
            refine Then.n ?_
            refine WP.seq ?_
            refine WP.region ?_
            refine WPL.q (q_mv (v := .lit (.int _ _)) rfl) rfl ?_
            refine WPL.q (q_mv (v := .lit (.int _ _)) rfl) rfl ?_
            obtain ⟨x3621, h3621, H⟩ := bnd H
            refine WPL.q (q_nm (q_lss rfl rfl) (nm_bool h3621)) rfl ?_
            refine WPL.nilW ?_
            refine W.now ?_
            refine Then.n ?_
            refine WP.cond (t := x3621) rfl (fun hb => ?_) (fun hb => ?_)
            · replace H := cnt hb H
              refine WP.region ?_
              refine WPL.q (q_mv (v := .whole _) rfl) rfl ?_
              refine WPL.q (q_mv (v := .lit (.int _ _)) rfl) rfl ?_
              refine WPL.q (q_mv (v := .lit (.int _ _)) rfl) rfl ?_
              refine WPL.q (q_mv (v := .lit (.int _ _)) rfl) rfl ?_
              refine WPL.q (q_mv (v := .fn _ _) rfl) rfl ?_
              obtain ⟨x3623, h3621, H⟩ := bnd H
              refine WPL.c (runs_call (s := [0]) (t := [0]) (N := 1) (bor := []) fn44 rfl (s44 k x3611 (IntKind.wrap .i64 (x3611 + x3575)) x1387 x3612 x3623 h3621) ⟨rfl, ⟨trivial, .inr ⟨rfl, rfl, rfl⟩⟩, by decide, rfl, trivial⟩ rfl trivial (.ren rfl rfl (.ren rfl rfl (.ren rfl rfl (.ren rfl rfl (.ren rfl rfl .nil))))) rfl ⟨trivial, rfl⟩ rfl) rfl ?_
              refine WPL.nilW ?_
              refine W.cv (Cv.weak (E' := ((((Env.none.upd 0 (.whole 0)).upd 1 (.lit (.int .i64 x1387))).upd 2 (.fn 25 [])).upd 6 (.lit (.int .i64 x3575)))) (M' := (Mem.nil.push (.row 55 rdS55coin x3623))) [0] hnp ⟨rfl, ⟨trivial, .inr ⟨rfl, rfl, rfl⟩⟩, by decide, rfl, ⟨trivial, rfl⟩⟩ (LeE.upd rfl rfl (LeE.upd rfl rfl (LeE.upd rfl rfl (LeE.upd rfl rfl (LeE.none rfl rfl)))))) rfl ?_
              refine W.now ?_
              have q0 := (Option.some.inj H)
              subst q0
              exact ⟨rfl, rfl, rfl⟩
            · replace H := cnf hb H
              refine WP.skipW ?_
              refine W.cv (Cv.weak (E' := ((((Env.none.upd 0 (.whole 0)).upd 1 (.lit (.int .i64 x1387))).upd 2 (.fn 25 [])).upd 6 (.lit (.int .i64 x3575)))) (M' := (Mem.nil.push (.row 55 rdS55coin x3612))) [0] hnp ⟨rfl, ⟨trivial, .inr ⟨rfl, rfl, rfl⟩⟩, by decide, rfl, ⟨trivial, rfl⟩⟩ (LeE.upd rfl rfl (LeE.upd rfl rfl (LeE.upd rfl rfl (LeE.upd rfl rfl (LeE.none rfl rfl)))))) rfl ?_
              refine W.now ?_
              have q0 := (Option.some.inj H)
              subst q0
              exact ⟨rfl, rfl, rfl⟩
          · rintro _ _ _ ⟨rfl, rfl, rfl⟩
            refine W.now ?_
            refine Then.n ?_
            refine WP.region ?_
            refine WPL.q (q_mv (v := .lit (.int _ _)) rfl) rfl ?_
            refine WPL.q (q_mul rfl rfl) rfl ?_
            refine WPL.q (q_as (v := .lit (.int _ _)) rfl) rfl ?_
            refine WPL.nilW ?_
            refine W.cv (Cv.weak (E' := ((((Env.none.upd 0 (.whole 0)).upd 1 (.lit (.int .i64 x1387))).upd 2 (.fn 25 [])).upd 6 (.lit (.int .i64 (IntKind.wrap .i64 (x3575 * 2)))))) (M' := (Mem.nil.push (.row 55 rdS55coin x3620))) [0] hnp ⟨rfl, ⟨trivial, .inr ⟨rfl, rfl, rfl⟩⟩, by decide, rfl, ⟨trivial, rfl⟩⟩ (LeE.upd rfl rfl (LeE.upd rfl rfl (LeE.upd rfl rfl (LeE.upd rfl rfl (LeE.none rfl rfl)))))) rfl ?_
            refine W.now ?_
            refine InBlock.n ?_
            exact Then.n ⟨n, ((IntKind.wrap .i64 (x3575 * 2)), x3620), Nat.lt_succ_self n, H, rfl, rfl⟩
      · replace H := cnf hb H
        refine WP.exitW ?_
        refine W.cv (Cv.weak (E' := Env.none) (M' := (Mem.nil.push (.row 55 rdS55coin x3576))) [0] hnp ⟨rfl, ⟨trivial, .inr ⟨rfl, rfl, rfl⟩⟩, by decide, rfl, ⟨trivial, rfl⟩⟩ (LeE.none rfl rfl)) rfl ?_
        refine W.now ?_
        refine Then.x ?_
        refine Then.x ?_
        have q0 := (Option.some.inj H)
        subst q0
        exact ⟨rfl, rfl, rfl⟩
    · rintro _ _ _ ⟨rfl, rfl, rfl⟩
      refine W.now ?_
      refine InBlock.x0 ?_
      have q0 := (Option.some.inj H)
      subst q0
      exact ⟨trivial, _, rfl, [0], (.tup []), (Mem.nil.push (.row 55 rdS55coin x3599)), ⟨rfl, ⟨trivial, .inr ⟨rfl, rfl, rfl⟩⟩, by decide, rfl, ⟨trivial, rfl⟩⟩, rfl, rfl, rfl, rfl⟩
set_option maxRecDepth 100000 in
set_option maxHeartbeats 4000000 in
theorem s27 (k : Nat) (x1385 : (List S55coin)) (x3628 : (List S55coin)) (H : f27 k x1385 = some x3628) : Go.Q.Spec Try.prog 27 1 [.whole 0, .fn 25 []] (Mem.nil.push (.row 55 rdS55coin x1385)) (fun o M => o = .ret (.tup []) ∧ M = (Mem.nil.push (.row 55 rdS55coin x3628))) := by
  unfold f27 at H
  refine Go.Q.Spec.of_bodyR (rs := []) (nt := 9) Try.func27 rfl rfl (by intro t T h; simp at h) rfl rfl fun cx hnp => ?_
  refine WP.region ?_
  refine WPL.q (q_mv (v := .whole _) rfl) rfl ?_
  refine WPL.q (q_mv (v := .whole _) rfl) rfl ?_
  refine WPL.q (q_len_row sl53 rfl rfl) rfl ?_
  refine WPL.q (q_mv (v := .fn _ _) rfl) rfl ?_
  obtain ⟨x3630, h3628, H⟩ := bnd H
  refine WPL.c (runs_call (s := [0]) (t := [0]) (N := 1) (bor := []) fn39 rfl (s39 k ((List.length x1385 : Nat) : Int) x1385 x3630 h3628) ⟨rfl, ⟨trivial, .inr ⟨rfl, rfl, rfl⟩⟩, by decide, rfl, trivial⟩ rfl trivial (.ren rfl rfl (.ren rfl rfl (.ren rfl rfl .nil))) rfl ⟨trivial, rfl⟩ rfl) rfl ?_
  refine WPL.nilW ?_
  refine W.now ?_
  have q0 := (Option.some.inj H)
  subst q0
  exact ⟨trivial, _, rfl, [0], (.tup []), (Mem.nil.push (.row 55 rdS55coin x3630)), ⟨rfl, ⟨trivial, .inr ⟨rfl, rfl, rfl⟩⟩, by decide, rfl, ⟨trivial, rfl⟩⟩, rfl, rfl, rfl, rfl⟩
set_option maxRecDepth 100000 in
set_option maxHeartbeats 4000000 in
theorem s28 (k : Nat) (x3633 : List S55coin) (x3634 : List S55coin) (H : f28 k x3633 = some x3634) : Go.Q.Spec Try.prog 28 1 [.whole 0] (Mem.nil.push (.row 55 rdS55coin x3633)) (fun o M => o = .ret (.whole 1) ∧ M = ((Mem.nil.push (.row 55 rdS55coin x3633)).push (.row 55 rdS55coin x3634))) := by
  unfold f28 at H
  obtain ⟨h, H⟩ := grd H
  have q0 := Option.some.inj H
  subst q0
  refine Go.Q.Spec.of_bodyR (rs := [.tmp 2]) (nt := 8) Try.func28 rfl rfl (by intro t T h; simp at h) rfl rfl fun cx hnp => ?_
  refine WP.seq ?_
  refine WP.region ?_
  refine WPL.q (q_as (v := .lit _) rfl) rfl ?_
  refine WPL.nilW ?_
  refine W.now ?_
  refine Then.n ?_
  refine WP.seq ?_
  refine WP.seq ?_
  refine WP.region ?_
  refine WPL.q (q_mv (v := .whole _) rfl) rfl ?_
  refine WPL.eqlNilW Try.underlying53 rfl rfl rfl fun nb hnb => ?_
  refine WPL.nilW ?_
  refine W.now ?_
  refine Then.n ?_
  refine WP.cond (t := nb) rfl (fun hb => ?_) (fun hb => ?_)
  · have h0 := hnb hb
    subst h0
    refine WP.seq ?_
    refine WP.region ?_
    refine WPL.q (q_as (v := .lit _) rfl) rfl ?_
    refine WPL.nilW ?_
    refine W.now ?_
    refine Then.n ?_
    refine WP.retW ?_
    refine W.cv (Cv.vir 55 rdS55coin (N := 1) rfl 2 rfl) rfl ?_
    refine W.now ?_
    refine Then.r ?_
    exact ⟨trivial, _, rfl, [0, 1], (.whole 1), ((Mem.nil.push (.row 55 rdS55coin ([] : List S55coin))).push (.row 55 rdS55coin ([] : List S55coin))), ⟨rfl, ⟨⟨trivial, .inr ⟨rfl, rfl, rfl⟩⟩, .inr ⟨rfl, rfl, rfl⟩⟩, by decide, rfl, ⟨trivial, rfl⟩⟩, rfl, rfl, rfl, rfl⟩
  · refine WP.skipW ?_
    refine W.now ?_
    refine Then.n ?_
    refine WP.seq ?_
    refine WP.region ?_
    refine WPL.d (d_buildSlice (ds := ([] : List S55coin)) (R := rdS55coin) li53 rfl rfl rfl rfl rfl JoinRows.nil rfl rfl) rfl ?_
    refine WPL.q (q_mv (v := .whole _) rfl) rfl ?_
    refine WPL.d (d_append ap53 rfl rfl rfl rfl (src_row sl53 rfl rfl) h rfl) rfl ?_
    refine WPL.q (q_as (v := .whole _) rfl) rfl ?_
    refine WPL.nilW ?_
    refine W.now ?_
    refine Then.n ?_
    refine WP.retW ?_
    refine W.now ?_
    exact ⟨trivial, _, rfl, [0, 2], (.whole 1), ((Mem.nil.push (.row 55 rdS55coin x3633)).push (.row 55 rdS55coin x3633)), ⟨rfl, ⟨⟨trivial, .inr ⟨rfl, rfl, rfl⟩⟩, .inr ⟨rfl, rfl, rfl⟩⟩, by decide, rfl, ⟨trivial, rfl⟩⟩, rfl, rfl, rfl, rfl⟩
set_option maxRecDepth 100000 in
set_option maxHeartbeats 4000000 in
theorem s40 (k : Nat) (x3669 : Int) (x3679 : (List Int)) (H : f40 k x3669 = some x3679) : Go.Q.Spec Try.prog 40 0 [.lit (.slice none 0 0), .lit (.int .i64 x3669)] Mem.nil (fun o M => o = .ret (.whole 0) ∧ M = (Mem.nil.push (.row 3 (Rd.int .i64) x3679))) := by
  unfold f40 at H
  refine Go.Q.Spec.of_bodyR (rs := [.tmp 4]) (nt := 27) Try.func40 rfl rfl (by intro t T h; simp at h) rfl rfl fun cx hnp => ?_
  refine WP.seq ?_
  refine WP.region ?_
  refine WPL.q (q_as (v := .lit _) rfl) rfl ?_
  refine WPL.nilW ?_
  refine W.now ?_
  refine Then.n ?_
  refine WP.seq ?_
  refine WP.seq ?_
  refine WP.region ?_
  refine WPL.q (q_mv (v := .lit (.int _ _)) rfl) rfl ?_
  refine WPL.q (q_lss rfl rfl) rfl ?_
  refine WPL.nilW ?_
  refine W.now ?_
  refine Then.n ?_
  refine WP.cond (t := (decide (x3669 < 0))) rfl (fun hb => ?_) (fun hb => ?_)
  · replace H := cnt hb H
    refine WP.region ?_
    refine WPL.q (q_mki cn9) rfl ?_
    exact nf rfl H
  · replace H := cnf hb H
    refine WP.skipW ?_
    refine W.now ?_
    refine Then.n ?_
    refine WP.seq ?_
    obtain ⟨x3683, H3686, H⟩ := bnd H
    refine WP.monoW (Q := fun x E M => x = .normal ∧ E = (Env.none.upd 0 (.whole 0)) ∧ M = (Mem.nil.push (.row 3 (Rd.int .i64) x3683))) ?_ ?_
    · clear H
      have H := H3686
      clear H3686
      refine WP.seq ?_
      refine WP.region ?_
      refine WPL.q (q_mv (v := .lit (.int _ _)) rfl) rfl ?_
      refine WPL.q (q_mv (v := .lit _) rfl) rfl ?_
      refine WPL.q (q_cap_nil Try.underlying22 rfl) rfl ?_
      refine WPL.q (q_mv (v := .lit _) rfl) rfl ?_
      refine WPL.q (q_len_nil sl22 rfl) rfl ?_
      refine WPL.q (q_sub rfl rfl) rfl ?_
      obtain ⟨x3684, h3684, H⟩ := bnd H
      refine WPL.q (q_nm (q_sub rfl rfl) (nm_int h3684)) rfl ?_
      refine WPL.q (q_as (v := .lit (.int _ _)) rfl) rfl ?_
      refine WPL.nilW ?_
      refine W.now ?_
      refine Then.n ?_
      refine WP.seq ?_
      refine WP.region ?_
      refine WPL.q (q_mv (v := .lit (.int _ _)) rfl) rfl ?_
      refine WPL.q (q_gtr rfl rfl) rfl ?_
      refine WPL.nilW ?_
      refine W.now ?_
      refine Then.n ?_
      refine WP.cond (t := (decide (0 < x3684))) rfl (fun hb => ?_) (fun hb => ?_)
      · replace H := cnt hb H
        refine WP.region ?_
        refine WPL.q (q_mv (v := .lit _) rfl) rfl ?_
        refine WPL.q (q_mv (v := .lit _) rfl) rfl ?_
        refine WPL.q (q_cap_nil Try.underlying22 rfl) rfl ?_
        refine WPL.q (q_slice_nil sl22 rfl rfl) rfl ?_
        refine WPL.q (q_mv (v := .lit (.int _ _)) rfl) rfl ?_
        obtain ⟨h3684, H⟩ := grd H
        refine WPL.d (d_appendMakeNil (d := (0 : Int)) (R := (Rd.int .i64)) li22 by3 Try.underlying3 rfl rfl rfl rfl Joins.sc rfl rfl h3684 rfl) rfl ?_
        refine WPL.q (q_mv (v := .lit _) rfl) rfl ?_
        refine WPL.q (q_len_nil sl22 rfl) rfl ?_
        obtain ⟨h3685, H⟩ := grd H
        refine WPL.d (d_cut sl22 rfl rfl rfl h3685 rfl) rfl ?_
        refine WPL.q (q_as (v := .whole _) rfl) rfl ?_
        refine WPL.nilW ?_
        refine W.cv (Cv.weak (E' := (Env.none.upd 0 (.whole 0))) (M' := (Mem.nil.push (.row 3 (Rd.int .i64) (List.take (Int.toNat 0) (List.replicate (Int.toNat x3684) (0 : Int)))))) [1] hnp ⟨rfl, ⟨trivial, .inr ⟨rfl, rfl, rfl⟩⟩, by decide, rfl, trivial⟩ (LeE.upd rfl rfl (LeE.none rfl rfl))) rfl ?_
        refine W.now ?_
        have q0 := (Option.some.inj H)
        subst q0
        exact ⟨rfl, rfl, rfl⟩
      · replace H := cnf hb H
        refine WP.skipW ?_
        refine W.cv (Cv.vir 3 (Rd.int .i64) (N := 0) rfl 0 rfl) rfl ?_
        refine W.cv (Cv.weak (E' := (Env.none.upd 0 (.whole 0))) (M' := (Mem.nil.push (.row 3 (Rd.int .i64) ([] : List Int)))) [0] hnp ⟨rfl, ⟨trivial, .inr ⟨rfl, rfl, rfl⟩⟩, by decide, rfl, trivial⟩ (LeE.upd rfl rfl (LeE.none rfl rfl))) rfl ?_
        refine W.now ?_
        have q0 := (Option.some.inj H)
        subst q0
        exact ⟨rfl, rfl, rfl⟩
    · rintro _ _ _ ⟨rfl, rfl, rfl⟩
      refine W.now ?_
      refine Then.n ?_
      refine WP.seq ?_
      refine WP.region ?_
      refine WPL.q (q_mv (v := .whole _) rfl) rfl ?_
      refine WPL.q (q_as (v := .whole _) rfl) rfl ?_
      refine WPL.nilW ?_
      refine W.now ?_
      refine Then.n ?_
      refine WP.retW ?_
      refine W.now ?_
      have q0 := (Option.some.inj H)
      subst q0
      exact ⟨trivial, _, rfl, [0], (.whole 0), (Mem.nil.push (.row 3 (Rd.int .i64) x3683)), ⟨rfl, ⟨trivial, .inr ⟨rfl, rfl, rfl⟩⟩, by decide, rfl, trivial⟩, rfl, rfl, rfl, rfl⟩
set_option maxRecDepth 100000 in
set_option maxHeartbeats 4000000 in
theorem s29 (k : Nat) (x3653 : (List (List Int))) (x3700 : (List Int)) (H : f29 k x3653 = some x3700) : Go.Q.Spec Try.prog 29 1 [.whole 0] (Mem.nil.push (.row 22 (Rd.slice (Rd.int .i64)) x3653)) (fun o M => o = .ret (.ro (Rd.slice (Rd.int .i64)) false x3700) ∧ M = (Mem.nil.push (.row 22 (Rd.slice (Rd.int .i64)) x3653))) := by
  unfold f29 at H
  refine Go.Q.Spec.of_bodyR (rs := [.tmp 2]) (nt := 36) Try.func29 rfl rfl (by intro t T h; simp at h) rfl rfl fun cx hnp => ?_
  refine WP.seq ?_
  refine WP.region ?_
  refine WPL.q (q_as (v := .lit _) rfl) rfl ?_
  refine WPL.nilW ?_
  refine W.now ?_
  refine Then.n ?_
  refine WP.seq ?_
  refine WP.region ?_
  refine WPL.q (q_as (v := .lit (.int _ _)) rfl) rfl ?_
  refine WPL.nilW ?_
  refine W.now ?_
  refine Then.n ?_
  refine WP.seq ?_
  refine WP.seq ?_
  refine WP.region ?_
  refine WPL.q (q_mv (v := .whole _) rfl) rfl ?_
  refine WPL.q (q_len_row sl83 rfl rfl) rfl ?_
  refine WPL.q (q_mv (v := .lit (.int _ _)) rfl) rfl ?_
  refine WPL.nilW ?_
  refine W.now ?_
  refine Then.n ?_
  refine WP.block ?_
  refine WP.cv (Cv.weak (E' := (((((Env.none.upd 0 (.whole 0)).upd 3 (.lit (.int .i64 0))).upd 9 (.whole 0)).upd 10 (.lit (.int .i64 ((List.length x3653 : Nat) : Int)))).upd 11 (.lit (.int .i64 0)))) (M' := (Mem.nil.push (.row 22 (Rd.slice (Rd.int .i64)) x3653))) [0] hnp ⟨rfl, ⟨trivial, .inr ⟨rfl, rfl, rfl⟩⟩, by decide, rfl, ⟨trivial, rfl⟩⟩ (LeE.upd rfl rfl (LeE.upd rfl rfl (LeE.upd rfl rfl (LeE.upd rfl rfl (LeE.upd rfl rfl (LeE.none rfl rfl))))))) ?_
  obtain ⟨x3713, H3718, H⟩ := bnd H
  refine WP.monoW (Q := fun x E M => x = .exit 0 ∧ E = ((Env.none.upd 0 (.whole 0)).upd 3 (.lit (.int .i64 x3713))) ∧ M = (Mem.nil.push (.row 22 (Rd.slice (Rd.int .i64)) x3653))) ?_ ?_
  · refine WP.loop (β := Int × Int) (fun n b => f29_l0 k x3653 n b.1 b.2 = some x3713) (fun b => (((((Env.none.upd 0 (.whole 0)).upd 3 (.lit (.int .i64 b.1))).upd 9 (.whole 0)).upd 10 (.lit (.int .i64 ((List.length x3653 : Nat) : Int)))).upd 11 (.lit (.int .i64 b.2)))) (fun b => (Mem.nil.push (.row 22 (Rd.slice (Rd.int .i64)) x3653))) k (0, 0) H3718 rfl rfl ?_
    rintro n ⟨x3706, x3707⟩ H
    obtain _ | n := n
    · exact nf rfl H
    rw [f29_l0.eq_2] at H
    show WP _ _ _ _ (((((Env.none.upd 0 (.whole 0)).upd 3 (.lit (.int .i64 x3706))).upd 9 (.whole 0)).upd 10 (.lit (.int .i64 ((List.length x3653 : Nat) : Int)))).upd 11 (.lit (.int .i64 x3707))) (Mem.nil.push (.row 22 (Rd.slice (Rd.int .i64)) x3653)) _
    refine WP.seq ?_
    refine WP.region ?_
    obtain ⟨x3714, h3714, H⟩ := bnd H
    refine WPL.q (q_nm (q_lss rfl rfl) (nm_bool h3714)) rfl ?_
    refine WPL.nilW ?_
    refine W.now ?_
    refine Then.n ?_
    refine WP.seq ?_
    refine WP.cond (t := x3714) rfl (fun hb => ?_) (fun hb => ?_)
    · replace H := cnt hb H
      refine WP.skipW ?_
      refine W.now ?_
      refine Then.n ?_
      refine WP.seq ?_
      refine WP.block ?_
      refine WP.seq ?_
      refine WP.region ?_
      obtain ⟨x3717, h3717, H⟩ := bnd H
      refine WPL.q (q_index_row sl83 rfl rfl rfl (ixs h3717)) rfl ?_
      refine WPL.q (q_load_rowr (j := (Int.toNat x3707)) (n := 1) (off := 0) (d := x3717) sc22 rfl rfl (ixj h3717) rfl PartIs.self rfl) rfl ?_
      refine WPL.q (q_as (v := .ro _ _ _) rfl) rfl ?_
      refine WPL.nilW ?_
      refine W.now ?_
      refine Then.n ?_
      refine WP.seq ?_
      refine WP.region ?_
      refine WPL.q (q_mv (v := .lit (.int _ _)) rfl) rfl ?_
      refine WPL.q (q_mv (v := .ro _ _ _) rfl) rfl ?_
      refine WPL.q (q_len_ro sl22 rfl) rfl ?_
      obtain ⟨x3718, h3718, H⟩ := bnd H
      refine WPL.q (q_nm (q_add rfl rfl) (nm_int h3718)) rfl ?_
      refine WPL.q (q_as (v := .lit (.int _ _)) rfl) rfl ?_
      refine WPL.nilW ?_
      refine W.now ?_
      refine Then.n ?_
      refine WP.seq ?_
      refine WP.region ?_
      refine WPL.q (q_mv (v := .lit (.int _ _)) rfl) rfl ?_
      refine WPL.q (q_lss rfl rfl) rfl ?_
      refine WPL.nilW ?_
      refine W.now ?_
      refine Then.n ?_
      refine WP.cond (t := (decide (x3718 < 0))) rfl (fun hb => ?_) (fun hb => ?_)
      · replace H := cnt hb H
        refine WP.region ?_
        refine WPL.q (q_mki cn9) rfl ?_
        exact nf rfl H
      · replace H := cnf hb H
        refine WP.skipW ?_
        refine W.now ?_
        refine InBlock.n ?_
        refine Then.n ?_
        refine WP.region ?_
        refine WPL.q (q_add rfl rfl) rfl ?_
        refine WPL.q (q_mv (v := .lit (.int _ _)) rfl) rfl ?_
        refine WPL.nilW ?_
        refine W.cv (Cv.weak (E' := (((((Env.none.upd 0 (.whole 0)).upd 3 (.lit (.int .i64 x3718))).upd 9 (.whole 0)).upd 10 (.lit (.int .i64 ((List.length x3653 : Nat) : Int)))).upd 11 (.lit (.int .i64 (IntKind.wrap .i64 (x3707 + 1)))))) (M' := (Mem.nil.push (.row 22 (Rd.slice (Rd.int .i64)) x3653))) [0] hnp ⟨rfl, ⟨trivial, .inr ⟨rfl, rfl, rfl⟩⟩, by decide, rfl, ⟨trivial, rfl⟩⟩ (LeE.upd rfl rfl (LeE.upd rfl rfl (LeE.upd rfl rfl (LeE.upd rfl rfl (LeE.upd rfl rfl (LeE.none rfl rfl))))))) rfl ?_
        refine W.now ?_
        exact Then.n ⟨n, (x3718, (IntKind.wrap .i64 (x3707 + 1))), Nat.lt_succ_self n, H, rfl, rfl⟩
    · replace H := cnf hb H
      refine WP.exitW ?_
      refine W.cv (Cv.weak (E' := ((Env.none.upd 0 (.whole 0)).upd 3 (.lit (.int .i64 x3706)))) (M' := (Mem.nil.push (.row 22 (Rd.slice (Rd.int .i64)) x3653))) [0] hnp ⟨rfl, ⟨trivial, .inr ⟨rfl, rfl, rfl⟩⟩, by decide, rfl, ⟨trivial, rfl⟩⟩ (LeE.upd rfl rfl (LeE.upd rfl rfl (LeE.none rfl rfl)))) rfl ?_
      refine W.now ?_
      refine Then.x ?_
      refine Then.x ?_
      have q0 := (Option.some.inj H)
      subst q0
      exact ⟨rfl, rfl, rfl⟩
  · rintro _ _ _ ⟨rfl, rfl, rfl⟩
    refine W.now ?_
    refine InBlock.x0 ?_
    refine Then.n ?_
    refine WP.seq ?_
    refine WP.region ?_
    refine WPL.q (q_mv (v := .lit (.int _ _)) rfl) rfl ?_
    obtain ⟨x3721, h3719, H⟩ := bnd H
    refine WPL.c (runs_call (s := []) (t := [1]) (N := 2) (bor := []) fn40 rfl (s40 k x3713 x3721 h3719) ⟨rfl, trivial, by decide, rfl, trivial⟩ rfl trivial (.ren rfl rfl (.ren rfl rfl .nil)) rfl ⟨trivial, rfl⟩ rfl) rfl ?_
    refine WPL.q (q_as (v := .whole _) rfl) rfl ?_
    refine WPL.nilW ?_
    refine W.now ?_
    refine Then.n ?_
    refine WP.seq ?_
    refine WP.seq ?_
    refine WP.region ?_
    refine WPL.q (q_mv (v := .whole _) rfl) rfl ?_
    refine WPL.q (q_len_row sl83 rfl rfl) rfl ?_
    refine WPL.q (q_mv (v := .lit (.int _ _)) rfl) rfl ?_
    refine WPL.nilW ?_
    refine W.now ?_
    refine Then.n ?_
    refine WP.block ?_
    refine WP.cv (Cv.weak (E' := ((((Env.none.upd 6 (.whole 1)).upd 25 (.whole 0)).upd 26 (.lit (.int .i64 ((List.length x3653 : Nat) : Int)))).upd 27 (.lit (.int .i64 0)))) (M' := ((Mem.nil.push (.row 22 (Rd.slice (Rd.int .i64)) x3653)).push (.row 3 (Rd.int .i64) x3721))) [0, 1] hnp ⟨rfl, ⟨⟨trivial, .inr ⟨rfl, rfl, rfl⟩⟩, .inr ⟨rfl, rfl, rfl⟩⟩, by decide, rfl, ⟨trivial, rfl⟩⟩ (LeE.upd rfl rfl (LeE.upd rfl rfl (LeE.upd rfl rfl (LeE.upd rfl rfl (LeE.none rfl rfl)))))) ?_
    obtain ⟨x3730, H3733, H⟩ := bnd H
    refine WP.monoW (Q := fun x E M => x = .exit 2 ∧ E = (Env.none.upd 6 (.whole 1)) ∧ M = ((Mem.nil.push (.row 22 (Rd.slice (Rd.int .i64)) x3653)).push (.row 3 (Rd.int .i64) x3730))) ?_ ?_
    · refine WP.loop (β := Int × (List Int)) (fun n b => f29_l1 k x3653 n b.1 b.2 = some x3730) (fun b => ((((Env.none.upd 6 (.whole 1)).upd 25 (.whole 0)).upd 26 (.lit (.int .i64 ((List.length x3653 : Nat) : Int)))).upd 27 (.lit (.int .i64 b.1)))) (fun b => ((Mem.nil.push (.row 22 (Rd.slice (Rd.int .i64)) x3653)).push (.row 3 (Rd.int .i64) b.2))) k (0, x3721) H3733 rfl rfl ?_
      rintro n ⟨x3725, x3726⟩ H
      obtain _ | n := n
      · exact nf rfl H
      rw [f29_l1.eq_2] at H
      show WP _ _ _ _ ((((Env.none.upd 6 (.whole 1)).upd 25 (.whole 0)).upd 26 (.lit (.int .i64 ((List.length x3653 : Nat) : Int)))).upd 27 (.lit (.int .i64 x3725))) ((Mem.nil.push (.row 22 (Rd.slice (Rd.int .i64)) x3653)).push (.row 3 (Rd.int .i64) x3726)) _
      refine WP.seq ?_
      refine WP.region ?_
      obtain ⟨x3731, h3731, H⟩ := bnd H
      refine WPL.q (q_nm (q_lss rfl rfl) (nm_bool h3731)) rfl ?_
      refine WPL.nilW ?_
      refine W.now ?_
      refine Then.n ?_
      refine WP.seq ?_
      refine WP.cond (t := x3731) rfl (fun hb => ?_) (fun hb => ?_)
      · replace H := cnt hb H
        refine WP.skipW ?_
        refine W.now ?_
        refine Then.n ?_
        refine WP.seq ?_
        refine WP.block ?_
        refine WP.seq ?_
        refine WP.region ?_
        obtain ⟨x3732, h3732, H⟩ := bnd H
        refine WPL.q (q_index_row sl83 rfl rfl rfl (ixs h3732)) rfl ?_
        refine WPL.q (q_load_rowr (j := (Int.toNat x3725)) (n := 1) (off := 0) (d := x3732) sc22 rfl rfl (ixj h3732) rfl PartIs.self rfl) rfl ?_
        refine WPL.q (q_as (v := .ro _ _ _) rfl) rfl ?_
        refine WPL.nilW ?_
        refine W.now ?_
        refine Then.n ?_
        refine WP.region ?_
        refine WPL.q (q_mv (v := .whole _) rfl) rfl ?_
        refine WPL.q (q_mv (v := .ro _ _ _) rfl) rfl ?_
        obtain ⟨h3732, H⟩ := grd H
        refine WPL.d (d_append ap22 rfl rfl rfl rfl (src_ro sl22 rfl) h3732 rfl) rfl ?_
        refine WPL.q (q_as (v := .whole _) rfl) rfl ?_
        refine WPL.nilW ?_
        refine W.now ?_
        refine InBlock.n ?_
        refine Then.n ?_
        refine WP.region ?_
        refine WPL.q (q_add rfl rfl) rfl ?_
        refine WPL.q (q_mv (v := .lit (.int _ _)) rfl) rfl ?_
        refine WPL.nilW ?_
        refine W.cv (Cv.weak (E' := ((((Env.none.upd 6 (.whole 1)).upd 25 (.whole 0)).upd 26 (.lit (.int .i64 ((List.length x3653 : Nat) : Int)))).upd 27 (.lit (.int .i64 (IntKind.wrap .i64 (x3725 + 1)))))) (M' := ((Mem.nil.push (.row 22 (Rd.slice (Rd.int .i64)) x3653)).push (.row 3 (Rd.int .i64) (x3726 ++ x3732)))) [0, 2] hnp ⟨rfl, ⟨⟨trivial, .inr ⟨rfl, rfl, rfl⟩⟩, .inr ⟨rfl, rfl, rfl⟩⟩, by decide, rfl, ⟨trivial, rfl⟩⟩ (LeE.upd rfl rfl (LeE.upd rfl rfl (LeE.upd rfl rfl (LeE.upd rfl rfl (LeE.none rfl rfl)))))) rfl ?_
        refine W.now ?_
        exact Then.n ⟨n, ((IntKind.wrap .i64 (x3725 + 1)), (x3726 ++ x3732)), Nat.lt_succ_self n, H, rfl, rfl⟩
      · replace H := cnf hb H
        refine WP.exitW ?_
        refine W.cv (Cv.weak (E' := (Env.none.upd 6 (.whole 1))) (M' := ((Mem.nil.push (.row 22 (Rd.slice (Rd.int .i64)) x3653)).push (.row 3 (Rd.int .i64) x3726))) [0, 1] hnp ⟨rfl, ⟨⟨trivial, .inr ⟨rfl, rfl, rfl⟩⟩, .inr ⟨rfl, rfl, rfl⟩⟩, by decide, rfl, ⟨trivial, rfl⟩⟩ (LeE.upd rfl rfl (LeE.none rfl rfl))) rfl ?_
        refine W.now ?_
        refine Then.x ?_
        refine Then.x ?_
        have q0 := (Option.some.inj H)
        subst q0
        exact ⟨rfl, rfl, rfl⟩
    · rintro _ _ _ ⟨rfl, rfl, rfl⟩
      refine W.now ?_
      refine InBlock.x0 ?_
      refine Then.n ?_
      refine WP.seq ?_
      refine WP.region ?_
      refine WPL.q (q_mv (v := .whole _) rfl) rfl ?_
      refine WPL.q (q_as (v := .whole _) rfl) rfl ?_
      refine WPL.nilW ?_
      refine W.now ?_
      refine Then.n ?_
      refine WP.retW ?_
      refine W.cv (Cv.frzRow (i := 1) rfl rfl hnp rfl rfl) rfl ?_
      refine W.now ?_
      have q0 := (Option.some.inj H)
      subst q0
      exact ⟨trivial, _, rfl, [0], (.ro (Rd.slice (Rd.int .i64)) false x3730), (Mem.nil.push (.row 22 (Rd.slice (Rd.int .i64)) x3653)), ⟨rfl, ⟨trivial, .inr ⟨rfl, rfl, rfl⟩⟩, by decide, rfl, ⟨trivial, rfl⟩⟩, rfl, rfl, rfl, rfl⟩
set_option maxRecDepth 100000 in
set_option maxHeartbeats 4000000 in
theorem s9 (k : Nat) (x1276 : (List Int)) (x1277 : Int) (x3868 : (List Int)) (x3869 : Int) (H : f9 k x1276 x1277 = some (x3868, x3869)) : Go.Q.Spec Try.prog 9 0 [.ro (Rd.slice (Rd.int .i64)) true x1276, .lit (.int .i64 x1277)] Mem.nil (fun o M => o = .ret (.tup [.ro (Rd.slice (Rd.int .i64)) false x3868, .lit (.int .i64 x3869)]) ∧ M = Mem.nil) := by
  unfold f9 at H
  refine Go.Q.Spec.of_bodyR (rs := [.tmp 4, .tmp 5]) (nt := 146) Try.func9 rfl rfl (by intro t T h; simp at h) rfl rfl fun cx hnp => ?_
  refine WP.seq ?_
  refine WP.region ?_
  refine WPL.q (q_as (v := .lit _) rfl) rfl ?_
  refine WPL.q (q_as (v := .lit (.int _ _)) rfl) rfl ?_
  refine WPL.nilW ?_
  refine W.now ?_
  refine Then.n ?_
  refine WP.seq ?_
  refine WP.region ?_
  refine WPL.q (q_as (v := .lit _) rfl) rfl ?_
  refine WPL.nilW ?_
  refine W.now ?_
  refine Then.n ?_
  refine WP.seq ?_
  refine WP.seq ?_
  obtain ⟨x3881, H3884, H⟩ := bnd H
  refine WP.monoW (Q := fun x E M => x = .normal ∧ E = ((((Env.none.upd 0 (.ro (Rd.slice (Rd.int .i64)) true x1276)).upd 1 (.lit (.int .i64 x1277))).upd 6 (.lit (.slice none 0 0))).upd 27 (.lit (.bool x3881))) ∧ M = Mem.nil) ?_ ?_
  · clear H
    have H := H3884
    clear H3884
    refine WP.region ?_
    refine WPL.q (q_mv (v := .ro _ _ _) rfl) rfl ?_
    refine WPL.q (q_len_ro sl22 rfl) rfl ?_
    obtain ⟨x3882, h3882, H⟩ := bnd H
    refine WPL.q (q_nm (q_gtr rfl rfl) (nm_bool h3882)) rfl ?_
    refine WPL.q (q_mv (v := .lit (.bool _)) rfl) rfl ?_
    refine WPL.split (t := 20) (b := x3882) rfl (fun hb3882 => ?_) (fun hb3882 => ?_)
    · replace H := cnt hb3882 H
      refine WPL.skipg (b' := true) rfl rfl (lb hb3882) rfl rfl ?_
      refine WPL.skipg (b' := true) rfl rfl (lb hb3882) rfl rfl ?_
      refine WPL.q (q_pickT (v := .lit (.bool _)) (lb hb3882) rfl) rfl ?_
      refine WPL.q (q_mv (v := .lit (.bool _)) rfl) rfl ?_
      refine WPL.skipg (b' := true) rfl rfl rfl rfl rfl ?_
      refine WPL.skipg (b' := true) rfl rfl rfl rfl rfl ?_
      refine WPL.q (q_pickT (v := .lit (.bool _)) rfl rfl) rfl ?_
      refine WPL.nilW ?_
      refine W.cv (Cv.weak (E' := ((((Env.none.upd 0 (.ro (Rd.slice (Rd.int .i64)) true x1276)).upd 1 (.lit (.int .i64 x1277))).upd 6 (.lit (.slice none 0 0))).upd 27 (.lit (.bool true)))) (M' := Mem.nil) [] hnp ⟨rfl, trivial, by decide, rfl, trivial⟩ (LeE.upd rfl rfl (LeE.upd rfl rfl (LeE.upd rfl rfl (LeE.upd rfl rfl (LeE.none rfl rfl)))))) rfl ?_
      refine W.now ?_
      have q0 := (Option.some.inj H)
      subst q0
      exact ⟨rfl, rfl, rfl⟩
    · replace H := cnf hb3882 H
      refine WPL.qg rfl rfl (lb hb3882) (q_mv (v := .lit (.int _ _)) rfl) rfl ?_
      refine WPL.qg rfl rfl (lb hb3882) (q_lss rfl rfl) rfl ?_
      refine WPL.q (q_pickF (v := .lit (.bool _)) (lb hb3882) rfl) rfl ?_
      refine WPL.q (q_mv (v := .lit (.bool _)) rfl) rfl ?_
      refine WPL.split (t := 24) (b := (decide (x1277 < 1))) rfl (fun hb3883 => ?_) (fun hb3883 => ?_)
      · replace H := cnt hb3883 H
        refine WPL.skipg (b' := true) rfl rfl (lb hb3883) rfl rfl ?_
        refine WPL.skipg (b' := true) rfl rfl (lb hb3883) rfl rfl ?_
        refine WPL.q (q_pickT (v := .lit (.bool _)) (lb hb3883) rfl) rfl ?_
        refine WPL.nilW ?_
        refine W.cv (Cv.weak (E' := ((((Env.none.upd 0 (.ro (Rd.slice (Rd.int .i64)) true x1276)).upd 1 (.lit (.int .i64 x1277))).upd 6 (.lit (.slice none 0 0))).upd 27 (.lit (.bool true)))) (M' := Mem.nil) [] hnp ⟨rfl, trivial, by decide, rfl, trivial⟩ (LeE.upd rfl rfl (LeE.upd rfl rfl (LeE.upd rfl rfl (LeE.upd rfl rfl (LeE.none rfl rfl)))))) rfl ?_
        refine W.now ?_
        have q0 := (Option.some.inj H)
        subst q0
        exact ⟨rfl, rfl, rfl⟩
      · replace H := cnf hb3883 H
        refine WPL.qg rfl rfl (lb hb3883) (q_mv (v := .lit (.int _ _)) rfl) rfl ?_
        refine WPL.qg rfl rfl (lb hb3883) (q_gtr rfl rfl) rfl ?_
        refine WPL.q (q_pickF (v := .lit (.bool _)) (lb hb3883) rfl) rfl ?_
        refine WPL.nilW ?_
        refine W.cv (Cv.weak (E' := ((((Env.none.upd 0 (.ro (Rd.slice (Rd.int .i64)) true x1276)).upd 1 (.lit (.int .i64 x1277))).upd 6 (.lit (.slice none 0 0))).upd 27 (.lit (.bool (decide (15 < x1277)))))) (M' := Mem.nil) [] hnp ⟨rfl, trivial, by decide, rfl, trivial⟩ (LeE.upd rfl rfl (LeE.upd rfl rfl (LeE.upd rfl rfl (LeE.upd rfl rfl (LeE.none rfl rfl)))))) rfl ?_
        refine W.now ?_
        have q0 := (Option.some.inj H)
        subst q0
        exact ⟨rfl, rfl, rfl⟩
  · rintro _ _ _ ⟨rfl, rfl, rfl⟩
    refine W.now ?_
    refine Then.n ?_
    refine WP.cond (t := x3881) rfl (fun hb => ?_) (fun hb => ?_)
    · replace H := cnt hb H
      refine WP.seq ?_
      refine WP.region ?_
      refine WPL.q (q_as (v := .lit _) rfl) rfl ?_
      refine WPL.q (q_as (v := .lit (.int _ _)) rfl) rfl ?_
      refine WPL.nilW ?_
      refine W.now ?_
      refine Then.n ?_
      refine WP.retW ?_
      refine W.cv (Cv.nilRo (Rd.int .i64) false 4 rfl) rfl ?_
      refine W.now ?_
      refine Then.r ?_
      have q0 := (Prod.mk.inj (Option.some.inj H)).1
      have q1 := (Prod.mk.inj (Option.some.inj H)).2
      subst q0
      subst q1
      exact ⟨trivial, _, rfl, [], (.tup [.ro (Rd.slice (Rd.int .i64)) false ([] : List Int), .lit (.int .i64 1)]), Mem.nil, ⟨rfl, trivial, by decide, rfl, trivial⟩, rfl, rfl, rfl, rfl⟩
    · replace H := cnf hb H
      refine WP.skipW ?_
      refine W.now ?_
      refine Then.n ?_
      refine WP.seq ?_
      refine WP.seq ?_
      refine WP.region ?_
      refine WPL.q (q_mv (v := .ro _ _ _) rfl) rfl ?_
      refine WPL.q (q_len_ro sl22 rfl) rfl ?_
      refine WPL.q (q_mv (v := .lit (.int _ _)) rfl) rfl ?_
      refine WPL.nilW ?_
      refine W.now ?_
      refine Then.n ?_
      refine WP.block ?_
      refine WP.cv (Cv.vir 55 rdS55coin (N := 0) rfl 6 rfl) ?_
      refine WP.cv (Cv.weak (E' := ((((((Env.none.upd 0 (.ro (Rd.slice (Rd.int .i64)) true x1276)).upd 1 (.lit (.int .i64 x1277))).upd 6 (.whole 0)).upd 28 (.ro (Rd.slice (Rd.int .i64)) true x1276)).upd 29 (.lit (.int .i64 ((List.length x1276 : Nat) : Int)))).upd 30 (.lit (.int .i64 0)))) (M' := (Mem.nil.push (.row 55 rdS55coin ([] : List S55coin)))) [0] hnp ⟨rfl, ⟨trivial, .inr ⟨rfl, rfl, rfl⟩⟩, by decide, rfl, trivial⟩ (LeE.upd rfl rfl (LeE.upd rfl rfl (LeE.upd rfl rfl (LeE.upd rfl rfl (LeE.upd rfl rfl (LeE.upd rfl rfl (LeE.none rfl rfl)))))))) ?_
      obtain ⟨y3986, H3984, H⟩ := bnd H
      refine WP.monoW (Q := fun x E M => match (generalizing := false) y3986 with | (Sum.inl _) => x = .ret ∧ E = ((Env.none.upd 4 (.lit (.slice none 0 0))).upd 5 (.lit (.int .i64 1))) ∧ M = Mem.nil | (Sum.inr x3960) => x = .exit 0 ∧ E = (((Env.none.upd 0 (.ro (Rd.slice (Rd.int .i64)) true x1276)).upd 1 (.lit (.int .i64 x1277))).upd 6 (.whole 0)) ∧ M = (Mem.nil.push (.row 55 rdS55coin x3960))) ?_ ?_
      · refine WP.loop (β := Int × (List S55coin)) (fun n b => f9_l0 k x1276 n b.1 b.2 = some y3986) (fun b => ((((((Env.none.upd 0 (.ro (Rd.slice (Rd.int .i64)) true x1276)).upd 1 (.lit (.int .i64 x1277))).upd 6 (.whole 0)).upd 28 (.ro (Rd.slice (Rd.int .i64)) true x1276)).upd 29 (.lit (.int .i64 ((List.length x1276 : Nat) : Int)))).upd 30 (.lit (.int .i64 b.1)))) (fun b => (Mem.nil.push (.row 55 rdS55coin b.2))) k (0, ([] : List S55coin)) H3984 rfl rfl ?_
        rintro n ⟨x3934, x3935⟩ H
        obtain _ | n := n
        · exact nf rfl H
        rw [f9_l0.eq_2] at H
        show WP _ _ _ _ ((((((Env.none.upd 0 (.ro (Rd.slice (Rd.int .i64)) true x1276)).upd 1 (.lit (.int .i64 x1277))).upd 6 (.whole 0)).upd 28 (.ro (Rd.slice (Rd.int .i64)) true x1276)).upd 29 (.lit (.int .i64 ((List.length x1276 : Nat) : Int)))).upd 30 (.lit (.int .i64 x3934))) (Mem.nil.push (.row 55 rdS55coin x3935)) _
        refine WP.seq ?_
        refine WP.region ?_
        obtain ⟨x3961, h3961, H⟩ := bnd H
        refine WPL.q (q_nm (q_lss rfl rfl) (nm_bool h3961)) rfl ?_
        refine WPL.nilW ?_
        refine W.now ?_
        refine Then.n ?_
        refine WP.seq ?_
        refine WP.cond (t := x3961) rfl (fun hb => ?_) (fun hb => ?_)
        · replace H := cnt hb H
          refine WP.skipW ?_
          refine W.now ?_
          refine Then.n ?_
          refine WP.seq ?_
          obtain ⟨y3984, H3982, H⟩ := bnd H
          refine WP.monoW (Q := fun x E M => match (generalizing := false) y3984 with | (Sum.inl _) => x = .ret ∧ E = ((Env.none.upd 4 (.lit (.slice none 0 0))).upd 5 (.lit (.int .i64 1))) ∧ M = Mem.nil | (Sum.inr x3972) => x = .normal ∧ E = ((((((Env.none.upd 0 (.ro (Rd.slice (Rd.int .i64)) true x1276)).upd 1 (.lit (.int .i64 x1277))).upd 6 (.whole 0)).upd 28 (.ro (Rd.slice (Rd.int .i64)) true x1276)).upd 29 (.lit (.int .i64 ((List.length x1276 : Nat) : Int)))).upd 30 (.lit (.int .i64 x3934))) ∧ M = (Mem.nil.push (.row 55 rdS55coin x3972))) ?_ ?_
          · clear H
            have H := H3982
            clear H3982
            refine WP.block ?_
            refine WP.seq ?_
            refine WP.region ?_
            refine WPL.q (q_mv (v := .lit (.int _ _)) rfl) rfl ?_
            obtain ⟨x3973, h3973, H⟩ := bnd H
            refine WPL.q (q_index_ro sl22 rfl rfl rfl h3973) rfl ?_
            refine WPL.q (q_load_sc sc3 rfl) rfl ?_
            refine WPL.q (q_as (v := .lit (.int _ _)) rfl) rfl ?_
            refine WPL.q (q_as (v := .lit (.int _ _)) rfl) rfl ?_
            refine WPL.nilW ?_
            refine W.now ?_
            refine Then.n ?_
            refine WP.seq ?_
            refine WP.seq ?_
            obtain ⟨x3979, H3980, H⟩ := bnd H
            refine WP.monoW (Q := fun x E M => x = .normal ∧ E = (((((((((Env.none.upd 0 (.ro (Rd.slice (Rd.int .i64)) true x1276)).upd 1 (.lit (.int .i64 x1277))).upd 6 (.whole 0)).upd 7 (.lit (.int .i64 x3934))).upd 8 (.lit (.int .i64 x3973))).upd 28 (.ro (Rd.slice (Rd.int .i64)) true x1276)).upd 29 (.lit (.int .i64 ((List.length x1276 : Nat) : Int)))).upd 30 (.lit (.int .i64 x3934))).upd 40 (.lit (.bool x3979))) ∧ M = (Mem.nil.push (.row 55 rdS55coin x3935))) ?_ ?_
            · clear H
              have H := H3980
              clear H3980
              refine WP.region ?_
              refine WPL.q (q_mv (v := .lit (.int _ _)) rfl) rfl ?_
              refine WPL.q (q_lss rfl rfl) rfl ?_
              refine WPL.q (q_mv (v := .lit (.bool _)) rfl) rfl ?_
              refine WPL.split (t := 37) (b := (decide (x3973 < 0))) rfl (fun hb3979 => ?_) (fun hb3979 => ?_)
              · replace H := cnt hb3979 H
                refine WPL.skipg (b' := true) rfl rfl (lb hb3979) rfl rfl ?_
                refine WPL.skipg (b' := true) rfl rfl (lb hb3979) rfl rfl ?_
                refine WPL.q (q_pickT (v := .lit (.bool _)) (lb hb3979) rfl) rfl ?_
                refine WPL.nilW ?_
                refine W.cv (Cv.weak (E' := (((((((((Env.none.upd 0 (.ro (Rd.slice (Rd.int .i64)) true x1276)).upd 1 (.lit (.int .i64 x1277))).upd 6 (.whole 0)).upd 7 (.lit (.int .i64 x3934))).upd 8 (.lit (.int .i64 x3973))).upd 28 (.ro (Rd.slice (Rd.int .i64)) true x1276)).upd 29 (.lit (.int .i64 ((List.length x1276 : Nat) : Int)))).upd 30 (.lit (.int .i64 x3934))).upd 40 (.lit (.bool true)))) (M' := (Mem.nil.push (.row 55 rdS55coin x3935))) [0] hnp ⟨rfl, ⟨trivial, .inr ⟨rfl, rfl, rfl⟩⟩, by decide, rfl, trivial⟩ (LeE.upd rfl rfl (LeE.upd rfl rfl (LeE.upd rfl rfl (LeE.upd rfl rfl (LeE.upd rfl rfl (LeE.upd rfl rfl (LeE.upd rfl rfl (LeE.upd rfl rfl (LeE.upd rfl rfl (LeE.none rfl rfl))))))))))) rfl ?_
                refine W.now ?_
                have q0 := (Option.some.inj H)
                subst q0
                exact ⟨rfl, rfl, rfl⟩
              · replace H := cnf hb3979 H
                refine WPL.qg rfl rfl (lb hb3979) (q_mv (v := .lit (.int _ _)) rfl) rfl ?_
                refine WPL.qg rfl rfl (lb hb3979) (q_gtr rfl rfl) rfl ?_
                refine WPL.q (q_pickF (v := .lit (.bool _)) (lb hb3979) rfl) rfl ?_
                refine WPL.nilW ?_
                refine W.cv (Cv.weak (E' := (((((((((Env.none.upd 0 (.ro (Rd.slice (Rd.int .i64)) true x1276)).upd 1 (.lit (.int .i64 x1277))).upd 6 (.whole 0)).upd 7 (.lit (.int .i64 x3934))).upd 8 (.lit (.int .i64 x3973))).upd 28 (.ro (Rd.slice (Rd.int .i64)) true x1276)).upd 29 (.lit (.int .i64 ((List.length x1276 : Nat) : Int)))).upd 30 (.lit (.int .i64 x3934))).upd 40 (.lit (.bool (decide (1073741824 < x3973)))))) (M' := (Mem.nil.push (.row 55 rdS55coin x3935))) [0] hnp ⟨rfl, ⟨trivial, .inr ⟨rfl, rfl, rfl⟩⟩, by decide, rfl, trivial⟩ (LeE.upd rfl rfl (LeE.upd rfl rfl (LeE.upd rfl rfl (LeE.upd rfl rfl (LeE.upd rfl rfl (LeE.upd rfl rfl (LeE.upd rfl rfl (LeE.upd rfl rfl (LeE.upd rfl rfl (LeE.none rfl rfl))))))))))) rfl ?_
                refine W.now ?_
                have q0 := (Option.some.inj H)
                subst q0
                exact ⟨rfl, rfl, rfl⟩
            · rintro _ _ _ ⟨rfl, rfl, rfl⟩
              refine W.now ?_
              refine Then.n ?_
              refine WP.cond (t := x3979) rfl (fun hb => ?_) (fun hb => ?_)
              · replace H := cnt hb H
                refine WP.seq ?_
                refine WP.region ?_
                refine WPL.q (q_as (v := .lit _) rfl) rfl ?_
                refine WPL.q (q_as (v := .lit (.int _ _)) rfl) rfl ?_
                refine WPL.nilW ?_
                refine W.now ?_
                refine Then.n ?_
                refine WP.retW ?_
                refine W.cv (Cv.weak (E' := ((Env.none.upd 4 (.lit (.slice none 0 0))).upd 5 (.lit (.int .i64 1)))) (M' := Mem.nil) [] hnp ⟨rfl, trivial, by decide, rfl, trivial⟩ (LeE.upd rfl rfl (LeE.upd rfl rfl (LeE.none rfl rfl)))) rfl ?_
                refine W.now ?_
                refine Then.r ?_
                refine InBlock.r ?_
                have q0 := Option.some.inj H
                subst q0
                exact ⟨rfl, rfl, rfl⟩
              · replace H := cnf hb H
                refine WP.skipW ?_
                refine W.now ?_
                refine Then.n ?_
                refine WP.seq ?_
                refine WP.region ?_
                refine WPL.q (q_mv (v := .lit (.int _ _)) rfl) rfl ?_
                refine WPL.q (q_gtr rfl rfl) rfl ?_
                refine WPL.nilW ?_
                refine W.now ?_
                refine Then.n ?_
                refine WP.cond (t := (decide (0 < x3973))) rfl (fun hb => ?_) (fun hb => ?_)
                · replace H := cnt hb H
                  refine WP.region ?_
                  refine WPL.q (q_mv (v := .whole _) rfl) rfl ?_
                  refine WPL.q (q_mv (v := .lit (.int _ _)) rfl) rfl ?_
                  refine WPL.q (q_mv (v := .lit (.int _ _)) rfl) rfl ?_
                  refine WPL.d (d_buildSlice (ds := ([x3934] : List Int)) (R := (Rd.int .i64)) li22 rfl rfl rfl rfl rfl (JoinRows.cons1 Joins.sc rfl JoinRows.nil) rfl rfl) rfl ?_
                  refine WPL.q (q_build bu55 rfl) rfl ?_
                  refine WPL.cv (Cv.frzRow (i := 1) rfl rfl hnp rfl rfl) ?_
                  refine WPL.d (d_buildSlice (ds := ([(⟨x3973, ([x3934] : List Int)⟩ : S55coin)] : List S55coin)) (R := rdS55coin) li53 rfl rfl rfl rfl rfl (JoinRows.cons (l := [.lit (.int .i64 x3973), .ro (Rd.slice (Rd.int .i64)) false ([x3934] : List Int)]) (Joins.via (Joins.cons Joins.sc (Joins.cons Joins.one Joins.unit))) rfl JoinRows.nil) rfl rfl) rfl ?_
                  obtain ⟨h3981, H⟩ := grd H
                  refine WPL.d (d_append ap53 rfl rfl rfl rfl (src_row sl53 rfl rfl) h3981 rfl) rfl ?_
                  refine WPL.q (q_as (v := .whole _) rfl) rfl ?_
                  refine WPL.nilW ?_
                  refine W.cv (Cv.weak (E' := ((((((Env.none.upd 0 (.ro (Rd.slice (Rd.int .i64)) true x1276)).upd 1 (.lit (.int .i64 x1277))).upd 6 (.whole 0)).upd 28 (.ro (Rd.slice (Rd.int .i64)) true x1276)).upd 29 (.lit (.int .i64 ((List.length x1276 : Nat) : Int)))).upd 30 (.lit (.int .i64 x3934)))) (M' := (Mem.nil.push (.row 55 rdS55coin (x3935 ++ ([(⟨x3973, ([x3934] : List Int)⟩ : S55coin)] : List S55coin))))) [3] hnp ⟨rfl, ⟨trivial, .inr ⟨rfl, rfl, rfl⟩⟩, by decide, rfl, trivial⟩ (LeE.upd rfl rfl (LeE.upd rfl rfl (LeE.upd rfl rfl (LeE.upd rfl rfl (LeE.upd rfl rfl (LeE.upd rfl rfl (LeE.none rfl rfl)))))))) rfl ?_
                  refine W.now ?_
                  refine InBlock.n ?_
                  have q0 := Option.some.inj H
                  subst q0
                  exact ⟨rfl, rfl, rfl⟩
                · replace H := cnf hb H
                  refine WP.skipW ?_
                  refine W.cv (Cv.weak (E' := ((((((Env.none.upd 0 (.ro (Rd.slice (Rd.int .i64)) true x1276)).upd 1 (.lit (.int .i64 x1277))).upd 6 (.whole 0)).upd 28 (.ro (Rd.slice (Rd.int .i64)) true x1276)).upd 29 (.lit (.int .i64 ((List.length x1276 : Nat) : Int)))).upd 30 (.lit (.int .i64 x3934)))) (M' := (Mem.nil.push (.row 55 rdS55coin x3935))) [0] hnp ⟨rfl, ⟨trivial, .inr ⟨rfl, rfl, rfl⟩⟩, by decide, rfl, trivial⟩ (LeE.upd rfl rfl (LeE.upd rfl rfl (LeE.upd rfl rfl (LeE.upd rfl rfl (LeE.upd rfl rfl (LeE.upd rfl rfl (LeE.none rfl rfl)))))))) rfl ?_
                  refine W.now ?_
                  refine InBlock.n ?_
                  have q0 := Option.some.inj H
                  subst q0
                  exact ⟨rfl, rfl, rfl⟩
          · rcases y3984 with _ | x3972
            · rintro _ _ _ ⟨rfl, rfl, rfl⟩
              refine W.cv (Cv.weak (E' := ((Env.none.upd 4 (.lit (.slice none 0 0))).upd 5 (.lit (.int .i64 1)))) (M' := Mem.nil) [] hnp ⟨rfl, trivial, by decide, rfl, trivial⟩ (LeE.upd rfl rfl (LeE.upd rfl rfl (LeE.none rfl rfl)))) rfl ?_
              refine W.now ?_
              refine Then.r ?_
              refine Then.r ?_
              have q0 := Option.some.inj H
              subst q0
              exact ⟨rfl, rfl, rfl⟩
            · rintro _ _ _ ⟨rfl, rfl, rfl⟩
              refine W.now ?_
              refine Then.n ?_
              refine WP.region ?_
              refine WPL.q (q_add rfl rfl) rfl ?_
              refine WPL.q (q_mv (v := .lit (.int _ _)) rfl) rfl ?_
              refine WPL.nilW ?_
              refine W.cv (Cv.weak (E' := ((((((Env.none.upd 0 (.ro (Rd.slice (Rd.int .i64)) true x1276)).upd 1 (.lit (.int .i64 x1277))).upd 6 (.whole 0)).upd 28 (.ro (Rd.slice (Rd.int .i64)) true x1276)).upd 29 (.lit (.int .i64 ((List.length x1276 : Nat) : Int)))).upd 30 (.lit (.int .i64 (IntKind.wrap .i64 (x3934 + 1)))))) (M' := (Mem.nil.push (.row 55 rdS55coin x3972))) [0] hnp ⟨rfl, ⟨trivial, .inr ⟨rfl, rfl, rfl⟩⟩, by decide, rfl, trivial⟩ (LeE.upd rfl rfl (LeE.upd rfl rfl (LeE.upd rfl rfl (LeE.upd rfl rfl (LeE.upd rfl rfl (LeE.upd rfl rfl (LeE.none rfl rfl)))))))) rfl ?_
              refine W.now ?_
              exact Then.n ⟨n, ((IntKind.wrap .i64 (x3934 + 1)), x3972), Nat.lt_succ_self n, H, rfl, rfl⟩
        · replace H := cnf hb H
          refine WP.exitW ?_
          refine W.cv (Cv.weak (E' := (((Env.none.upd 0 (.ro (Rd.slice (Rd.int .i64)) true x1276)).upd 1 (.lit (.int .i64 x1277))).upd 6 (.whole 0))) (M' := (Mem.nil.push (.row 55 rdS55coin x3935))) [0] hnp ⟨rfl, ⟨trivial, .inr ⟨rfl, rfl, rfl⟩⟩, by decide, rfl, trivial⟩ (LeE.upd rfl rfl (LeE.upd rfl rfl (LeE.upd rfl rfl (LeE.none rfl rfl))))) rfl ?_
          refine W.now ?_
          refine Then.x ?_
          refine Then.x ?_
          have q0 := Option.some.inj H
          subst q0
          exact ⟨rfl, rfl, rfl⟩
      · rcases y3986 with _ | x3960
        · rintro _ _ _ ⟨rfl, rfl, rfl⟩
          refine W.cv (Cv.nilRo (Rd.int .i64) false 4 rfl) rfl ?_
          refine W.now ?_
          refine InBlock.r ?_
          refine Then.r ?_
          have q0 := (Prod.mk.inj (Option.some.inj H)).1
          have q1 := (Prod.mk.inj (Option.some.inj H)).2
          subst q0
          subst q1
          exact ⟨trivial, _, rfl, [], (.tup [.ro (Rd.slice (Rd.int .i64)) false ([] : List Int), .lit (.int .i64 1)]), Mem.nil, ⟨rfl, trivial, by decide, rfl, trivial⟩, rfl, rfl, rfl, rfl⟩
        · rintro _ _ _ ⟨rfl, rfl, rfl⟩
          refine W.now ?_
          refine InBlock.x0 ?_
          refine Then.n ?_
          refine WP.seq ?_
          refine WP.seq ?_
          refine WP.region ?_
          refine WPL.q (q_mv (v := .whole _) rfl) rfl ?_
          refine WPL.q (q_len_row sl53 rfl rfl) rfl ?_
          refine WPL.q (q_mv (v := .lit (.int _ _)) rfl) rfl ?_
          obtain ⟨h3988, H⟩ := grd H
          refine WPL.q (q_shl rfl rfl h3988) rfl ?_
          obtain ⟨x3990, h3990, H⟩ := bnd H
          refine WPL.q (q_nm (q_gtr rfl rfl) (nm_bool h3990)) rfl ?_
          refine WPL.nilW ?_
          refine W.now ?_
          refine Then.n ?_
          refine WP.cond (t := x3990) rfl (fun hb => ?_) (fun hb => ?_)
          · replace H := cnt hb H
            refine WP.seq ?_
            refine WP.region ?_
            refine WPL.q (q_as (v := .lit _) rfl) rfl ?_
            refine WPL.q (q_as (v := .lit (.int _ _)) rfl) rfl ?_
            refine WPL.nilW ?_
            refine W.now ?_
            refine Then.n ?_
            refine WP.retW ?_
            refine W.cv (Cv.nilRo (Rd.int .i64) false 4 rfl) rfl ?_
            refine W.now ?_
            refine Then.r ?_
            have q0 := (Prod.mk.inj (Option.some.inj H)).1
            have q1 := (Prod.mk.inj (Option.some.inj H)).2
            subst q0
            subst q1
            exact ⟨trivial, _, rfl, [], (.tup [.ro (Rd.slice (Rd.int .i64)) false ([] : List Int), .lit (.int .i64 1)]), Mem.nil, ⟨rfl, trivial, by decide, rfl, trivial⟩, rfl, rfl, rfl, rfl⟩
          · replace H := cnf hb H
            refine WP.skipW ?_
            refine W.now ?_
            refine Then.n ?_
            refine WP.seq ?_
            refine WP.region ?_
            refine WPL.q (q_mv (v := .ro _ _ _) rfl) rfl ?_
            refine WPL.q (q_len_ro sl22 rfl) rfl ?_
            obtain ⟨h3990, H⟩ := grd H
            refine WPL.d (d_make (d := (0 : Int)) (R := (Rd.int .i64)) li22 by3 rfl rfl rfl Joins.sc rfl rfl h3990 rfl) rfl ?_
            refine WPL.q (q_as (v := .whole _) rfl) rfl ?_
            refine WPL.nilW ?_
            refine W.now ?_
            refine Then.n ?_
            refine WP.seq ?_
            refine WP.seq ?_
            refine WP.region ?_
            refine WPL.q (q_mv (v := .whole _) rfl) rfl ?_
            refine WPL.q (q_len_row sl53 rfl rfl) rfl ?_
            obtain ⟨x3996, h3996, H⟩ := bnd H
            refine WPL.q (q_nm (q_eql rfl rfl) (nm_bool h3996)) rfl ?_
            refine WPL.nilW ?_
            refine W.now ?_
            refine Then.n ?_
            refine WP.cond (t := x3996) rfl (fun hb => ?_) (fun hb => ?_)
            · replace H := cnt hb H
              refine WP.seq ?_
              refine WP.region ?_
              refine WPL.q (q_mv (v := .whole _) rfl) rfl ?_
              refine WPL.q (q_mv (v := .whole _) rfl) rfl ?_
              obtain ⟨x3997, h3997, H⟩ := bnd H
              refine WPL.q (q_index_row sl53 rfl rfl rfl (ixs h3997)) rfl ?_
              refine WPL.q (q_fieldAddr fi55_1 rfl rfl) rfl ?_
              refine WPL.q (q_load_rowr (j := (Int.toNat 0)) (n := 2) (off := 1) (d := x3997) sc22 rfl rfl (ixj h3997) rfl S55coin.p1 rfl) rfl ?_
              obtain ⟨x3998, h3998, H⟩ := bnd H
              refine WPL.q (q_index_ro sl22 rfl rfl rfl h3998) rfl ?_
              refine WPL.q (q_load_sc sc3 rfl) rfl ?_
              obtain ⟨x3999, h3999, H⟩ := bnd H
              refine WPL.q (q_index_row sl22 rfl rfl rfl (ixs h3999)) rfl ?_
              refine WPL.s (s_store_row (j := (Int.toNat x3998)) (d := 1) sz3 rfl rfl rfl rfl Joins.sc (ixl h3999)) ?_
              refine WPL.nilW ?_
              refine W.now ?_
              refine Then.n ?_
              refine WP.seq ?_
              refine WP.region ?_
              refine WPL.q (q_mv (v := .whole _) rfl) rfl ?_
              refine WPL.q (q_as (v := .whole _) rfl) rfl ?_
              refine WPL.q (q_as (v := .lit (.int _ _)) rfl) rfl ?_
              refine WPL.nilW ?_
              refine W.now ?_
              refine Then.n ?_
              refine WP.retW ?_
              refine W.cv (Cv.frzRow (i := 1) rfl rfl hnp rfl rfl) rfl ?_
              refine W.now ?_
              refine Then.r ?_
              have q0 := (Prod.mk.inj (Option.some.inj H)).1
              have q1 := (Prod.mk.inj (Option.some.inj H)).2
              subst q0
              subst q1
              exact ⟨trivial, _, rfl, [], (.tup [.ro (Rd.slice (Rd.int .i64)) false (List.set (List.replicate (Int.toNat ((List.length x1276 : Nat) : Int)) (0 : Int)) (Int.toNat x3998) 1), .lit (.int .i64 0)]), Mem.nil, ⟨rfl, trivial, by decide, rfl, trivial⟩, rfl, rfl, rfl, rfl⟩
            · replace H := cnf hb H
              refine WP.skipW ?_
              refine W.now ?_
              refine Then.n ?_
              refine WP.seq ?_
              refine WP.region ?_
              refine WPL.q (q_as (v := .fn _ _) rfl) rfl ?_
              refine WPL.nilW ?_
              refine W.now ?_
              refine Then.n ?_
              refine WP.seq ?_
              refine WP.region ?_
              refine WPL.q (q_mv (v := .whole _) rfl) rfl ?_
              refine WPL.q (q_mv (v := .fn _ _) rfl) rfl ?_
              obtain ⟨x4001, h3999, H⟩ := bnd H
              refine WPL.c (runs_call (s := [0]) (t := [0]) (N := 2) (bor := []) fn27 rfl (s27 k x3960 x4001 h3999) ⟨rfl, ⟨trivial, .inr ⟨rfl, rfl, rfl⟩⟩, by decide, rfl, trivial⟩ rfl trivial (.ren rfl rfl (.ren rfl rfl .nil)) rfl ⟨trivial, rfl⟩ rfl) rfl ?_
              refine WPL.nilW ?_
              refine W.now ?_
              refine Then.n ?_
              refine WP.seq ?_
              refine WP.region ?_
              refine WPL.q (q_as (v := .lit _) rfl) rfl ?_
              refine WPL.nilW ?_
              refine W.now ?_
              refine Then.n ?_
              refine WP.seq ?_
              refine WP.seq ?_
              refine WP.region ?_
              refine WPL.q (q_mv (v := .lit (.int _ _)) rfl) rfl ?_
              refine WPL.q (q_mv (v := .lit (.int _ _)) rfl) rfl ?_
              refine WPL.nilW ?_
              refine W.now ?_
              refine Then.n ?_
              refine WP.block ?_
              refine WP.cv (Cv.vir 55 rdS55coin (N := 2) rfl 11 rfl) ?_
              refine WP.cv (Cv.weak (E' := ((((((Env.none.upd 6 (.whole 0)).upd 9 (.whole 1)).upd 10 (.fn 25 [])).upd 11 (.whole 2)).upd 74 (.lit (.int .i64 x1277))).upd 75 (.lit (.int .i64 0)))) (M' := (((Mem.nil.push (.row 55 rdS55coin x4001)).push (.row 3 (Rd.int .i64) (List.replicate (Int.toNat ((List.length x1276 : Nat) : Int)) (0 : Int)))).push (.row 55 rdS55coin ([] : List S55coin)))) [0, 1, 2] hnp ⟨rfl, ⟨⟨⟨trivial, .inr ⟨rfl, rfl, rfl⟩⟩, .inr ⟨rfl, rfl, rfl⟩⟩, .inr ⟨rfl, rfl, rfl⟩⟩, by decide, rfl, trivial⟩ (LeE.upd rfl rfl (LeE.upd rfl rfl (LeE.upd rfl rfl (LeE.upd rfl rfl (LeE.upd rfl rfl (LeE.upd rfl rfl (LeE.none rfl rfl)))))))) ?_
              obtain ⟨x4113, H4187, H⟩ := bnd H
              refine WP.monoW (Q := fun x E M => x = .exit 2 ∧ E = (((Env.none.upd 6 (.whole 0)).upd 9 (.whole 1)).upd 11 (.whole 2)) ∧ M = (((Mem.nil.push (.row 55 rdS55coin x4001)).push (.row 3 (Rd.int .i64) (List.replicate (Int.toNat ((List.length x1276 : Nat) : Int)) (0 : Int)))).push (.row 55 rdS55coin x4113))) ?_ ?_
              · refine WP.loop (β := Int × (List S55coin)) (fun n b => f9_l1 k x1277 x4001 n b.1 b.2 = some x4113) (fun b => ((((((Env.none.upd 6 (.whole 0)).upd 9 (.whole 1)).upd 10 (.fn 25 [])).upd 11 (.whole 2)).upd 74 (.lit (.int .i64 x1277))).upd 75 (.lit (.int .i64 b.1)))) (fun b => (((Mem.nil.push (.row 55 rdS55coin x4001)).push (.row 3 (Rd.int .i64) (List.replicate (Int.toNat ((List.length x1276 : Nat) : Int)) (0 : Int)))).push (.row 55 rdS55coin b.2))) k (0, ([] : List S55coin)) H4187 rfl rfl ?_
                rintro n ⟨x4059, x4060⟩ H
                obtain _ | n := n
                · exact nf rfl H
                rw [f9_l1.eq_2] at H
                show WP _ _ _ _ ((((((Env.none.upd 6 (.whole 0)).upd 9 (.whole 1)).upd 10 (.fn 25 [])).upd 11 (.whole 2)).upd 74 (.lit (.int .i64 x1277))).upd 75 (.lit (.int .i64 x4059))) (((Mem.nil.push (.row 55 rdS55coin x4001)).push (.row 3 (Rd.int .i64) (List.replicate (Int.toNat ((List.length x1276 : Nat) : Int)) (0 : Int)))).push (.row 55 rdS55coin x4060)) _
                refine WP.seq ?_
                refine WP.region ?_
                refine WPL.q (q_lss rfl rfl) rfl ?_
                refine WPL.nilW ?_
                refine W.now ?_
                refine Then.n ?_
                refine WP.seq ?_
                refine WP.cond (t := (decide (x4059 < x1277))) rfl (fun hb => ?_) (fun hb => ?_)
                · replace H := cnt hb H
                  refine WP.skipW ?_
                  refine W.now ?_
                  refine Then.n ?_
                  refine WP.seq ?_
                  refine WP.block ?_
                  refine WP.seq ?_
                  refine WP.region ?_
                  refine WPL.q (q_mv (v := .whole _) rfl) rfl ?_
                  obtain ⟨x4115, h4113, H⟩ := bnd H
                  refine WPL.c (runs_call (s := [0]) (t := [0, 3]) (N := 4) (bor := []) fn28 rfl (s28 k x4001 x4115 h4113) ⟨rfl, ⟨trivial, .inr ⟨rfl, rfl, rfl⟩⟩, by decide, rfl, trivial⟩ rfl trivial (.ren rfl rfl .nil) rfl ⟨⟨trivial, rfl⟩, rfl⟩ rfl) rfl ?_
                  refine WPL.q (q_as (v := .whole _) rfl) rfl ?_
                  refine WPL.nilW ?_
                  refine W.now ?_
                  refine Then.n ?_
                  refine WP.seq ?_
                  refine WP.seq ?_
                  refine WP.region ?_
                  refine WPL.q (q_as (v := .lit (.int _ _)) rfl) rfl ?_
                  refine WPL.nilW ?_
                  refine W.now ?_
                  refine Then.n ?_
                  refine WP.block ?_
                  refine WP.cv (Cv.weak (E' := ((((((((Env.none.upd 6 (.whole 0)).upd 9 (.whole 1)).upd 10 (.fn 25 [])).upd 11 (.whole 2)).upd 12 (.whole 3)).upd 13 (.lit (.int .i64 0))).upd 74 (.lit (.int .i64 x1277))).upd 75 (.lit (.int .i64 x4059)))) (M' := ((((Mem.nil.push (.row 55 rdS55coin x4001)).push (.row 3 (Rd.int .i64) (List.replicate (Int.toNat ((List.length x1276 : Nat) : Int)) (0 : Int)))).push (.row 55 rdS55coin x4060)).push (.row 55 rdS55coin x4115))) [0, 1, 2, 3] hnp ⟨rfl, ⟨⟨⟨⟨trivial, .inr ⟨rfl, rfl, rfl⟩⟩, .inr ⟨rfl, rfl, rfl⟩⟩, .inr ⟨rfl, rfl, rfl⟩⟩, .inr ⟨rfl, rfl, rfl⟩⟩, by decide, rfl, trivial⟩ (LeE.upd rfl rfl (LeE.upd rfl rfl (LeE.upd rfl rfl (LeE.upd rfl rfl (LeE.upd rfl rfl (LeE.upd rfl rfl (LeE.upd rfl rfl (LeE.upd rfl rfl (LeE.none rfl rfl)))))))))) ?_
                  obtain ⟨x4162, H4184, H⟩ := bnd H
                  refine WP.monoW (Q := fun x E M => x = .exit 4 ∧ E = ((((((Env.none.upd 6 (.whole 0)).upd 9 (.whole 1)).upd 10 (.fn 25 [])).upd 12 (.whole 2)).upd 74 (.lit (.int .i64 x1277))).upd 75 (.lit (.int .i64 x4059))) ∧ M = (((Mem.nil.push (.row 55 rdS55coin x4001)).push (.row 3 (Rd.int .i64) (List.replicate (Int.toNat ((List.length x1276 : Nat) : Int)) (0 : Int)))).push (.row 55 rdS55coin x4162))) ?_ ?_
                  · refine WP.loop (β := Int × (List S55coin)) (fun n b => f9_l2 k x4060 n b.1 b.2 = some x4162) (fun b => ((((((((Env.none.upd 6 (.whole 0)).upd 9 (.whole 1)).upd 10 (.fn 25 [])).upd 11 (.whole 2)).upd 12 (.whole 3)).upd 13 (.lit (.int .i64 b.1))).upd 74 (.lit (.int .i64 x1277))).upd 75 (.lit (.int .i64 x4059)))) (fun b => ((((Mem.nil.push (.row 55 rdS55coin x4001)).push (.row 3 (Rd.int .i64) (List.replicate (Int.toNat ((List.length x1276 : Nat) : Int)) (0 : Int)))).push (.row 55 rdS55coin x4060)).push (.row 55 rdS55coin b.2))) k (0, x4115) H4184 rfl rfl ?_
                    rintro n ⟨x4138, x4139⟩ H
                    obtain _ | n := n
                    · exact nf rfl H
                    rw [f9_l2.eq_2] at H
                    show WP _ _ _ _ ((((((((Env.none.upd 6 (.whole 0)).upd 9 (.whole 1)).upd 10 (.fn 25 [])).upd 11 (.whole 2)).upd 12 (.whole 3)).upd 13 (.lit (.int .i64 x4138))).upd 74 (.lit (.int .i64 x1277))).upd 75 (.lit (.int .i64 x4059))) ((((Mem.nil.push (.row 55 rdS55coin x4001)).push (.row 3 (Rd.int .i64) (List.replicate (Int.toNat ((List.length x1276 : Nat) : Int)) (0 : Int)))).push (.row 55 rdS55coin x4060)).push (.row 55 rdS55coin x4139)) _
                    refine WP.seq ?_
                    refine WP.seq ?_
                    refine WP.region ?_
                    refine WPL.q (q_mv (v := .lit (.int _ _)) rfl) rfl ?_
                    refine WPL.q (q_add rfl rfl) rfl ?_
                    refine WPL.q (q_mv (v := .whole _) rfl) rfl ?_
                    refine WPL.q (q_len_row sl53 rfl rfl) rfl ?_
                    obtain ⟨x4164, h4164, H⟩ := bnd H
                    refine WPL.q (q_nm (q_lss rfl rfl) (nm_bool h4164)) rfl ?_
                    refine WPL.nilW ?_
                    refine W.now ?_
                    refine Then.n ?_
                    refine WP.cond (t := x4164) rfl (fun hb => ?_) (fun hb => ?_)
                    · replace H := cnt hb H
                      refine WP.skipW ?_
                      refine W.now ?_
                      refine Then.n ?_
                      refine WP.seq ?_
                      refine WP.block ?_
                      refine WP.regionD' 30 [2] [] mixed rfl ?_
                      refine WPD.takeT 0 rfl (by kernel_rfl) (q_mv (v := .whole _) rfl) rfl ?_
                      refine WPD.takeT 1 rfl (by kernel_rfl) (q_mv (v := .whole _) rfl) rfl ?_
                      refine WPD.takeT 2 rfl (by kernel_rfl) (q_mv (v := .lit (.int _ _)) rfl) rfl ?_
                      obtain ⟨x4177, h4177, H⟩ := bnd H
                      refine WPD.takeT 3 rfl (by kernel_rfl) (q_index_row sl53 rfl rfl rfl (ixs h4177)) rfl ?_
                      refine WPD.takeT 4 rfl (by kernel_rfl) (q_fieldAddr fi55_0 rfl rfl) rfl ?_
                      refine WPD.takeT 6 rfl (by kernel_rfl) (q_mv (v := .whole _) rfl) rfl ?_
                      refine WPD.takeT 7 rfl (by kernel_rfl) (q_mv (v := .lit (.int _ _)) rfl) rfl ?_
                      refine WPD.takeT 8 rfl (by kernel_rfl) (q_add rfl rfl) rfl ?_
                      obtain ⟨x4178, h4178, H⟩ := bnd H
                      refine WPD.takeT 9 rfl (by kernel_rfl) (q_index_row sl53 rfl rfl rfl (ixs h4178)) rfl ?_
                      refine WPD.takeT 10 rfl (by kernel_rfl) (q_fieldAddr fi55_0 rfl rfl) rfl ?_
                      refine WPD.takeT 13 rfl (by kernel_rfl) (q_mv (v := .whole _) rfl) rfl ?_
                      refine WPD.takeT 14 rfl (by kernel_rfl) (q_mv (v := .lit (.int _ _)) rfl) rfl ?_
                      obtain ⟨x4179, h4179, H⟩ := bnd H
                      refine WPD.takeT 15 rfl (by kernel_rfl) (q_index_row sl53 rfl rfl rfl (ixs h4179)) rfl ?_
                      refine WPD.takeT 16 rfl (by kernel_rfl) (q_fieldAddr fi55_1 rfl rfl) rfl ?_
                      refine WPD.takeT 18 rfl (by kernel_rfl) (q_mv (v := .whole _) rfl) rfl ?_
                      refine WPD.takeT 19 rfl (by kernel_rfl) (q_mv (v := .lit (.int _ _)) rfl) rfl ?_
                      refine WPD.takeT 20 rfl (by kernel_rfl) (q_add rfl rfl) rfl ?_
                      obtain ⟨x4180, h4180, H⟩ := bnd H
                      refine WPD.takeT 21 rfl (by kernel_rfl) (q_index_row sl53 rfl rfl rfl (ixs h4180)) rfl ?_
                      refine WPD.takeT 22 rfl (by kernel_rfl) (q_fieldAddr fi55_1 rfl rfl) rfl ?_
                      refine WPD.take 5 rfl (by kernel_rfl) (q_load_rowf (j := (Int.toNat x4138)) (n := 2) (off := 0) (d := x4177) sc3 rfl rfl (ixj h4177) rfl S55coin.p0) rfl rfl ?_
                      refine WPD.take 11 rfl (by kernel_rfl) (q_load_rowf (j := (Int.toNat (IntKind.wrap .i64 (x4138 + 1)))) (n := 2) (off := 0) (d := x4178) sc3 rfl rfl (ixj h4178) rfl S55coin.p0) rfl rfl ?_
                      obtain ⟨x4181, h4181, H⟩ := bnd H
                      refine WPD.takeT 12 rfl (by kernel_rfl) (q_nm (q_add rfl rfl) (nm_int h4181)) rfl ?_
                      refine WPD.take 17 rfl (by kernel_rfl) (q_load_rowr (j := (Int.toNat x4138)) (n := 2) (off := 1) (d := x4179) sc22 rfl rfl (ixj h4179) rfl S55coin.p1 rfl) rfl rfl ?_
                      refine WPD.take 23 rfl (by kernel_rfl) (q_load_rowr (j := (Int.toNat (IntKind.wrap .i64 (x4138 + 1)))) (n := 2) (off := 1) (d := x4180) sc22 rfl rfl (ixj h4180) rfl S55coin.p1 rfl) rfl rfl ?_
                      refine WPD.eff 24 [2] [] rfl (by kernel_rfl) (Does.runs (d_buildSlice (ds := ([x4179.fsyms, x4180.fsyms] : List (List Int))) (R := (Rd.slice (Rd.int .i64))) li83 rfl rfl rfl rfl rfl (JoinRows.cons (l := [.ro (Rd.slice (Rd.int .i64)) false x4179.fsyms]) Joins.one rfl (JoinRows.cons (l := [.ro (Rd.slice (Rd.int .i64)) false x4180.fsyms]) Joins.one rfl JoinRows.nil)) rfl rfl)) rfl rfl ?_
                      obtain ⟨x4183, h4181, H⟩ := bnd H
                      refine WPD.eff 25 [2] [] rfl (by kernel_rfl) (runs_call (s := [4]) (t := [4]) (N := 5) (bor := []) fn29 rfl (s29 k ([x4179.fsyms, x4180.fsyms] : List (List Int)) x4183 h4181) ⟨rfl, ⟨trivial, .inr ⟨rfl, rfl, rfl⟩⟩, by decide, rfl, trivial⟩ rfl trivial (.ren rfl rfl .nil) rfl ⟨trivial, rfl⟩ rfl) rfl rfl ?_
                      refine WPD.takeT 26 rfl (by kernel_rfl) (q_build bu55 rfl) rfl ?_
                      refine WPD.eff 27 [2] [] rfl (by kernel_rfl) (Does.runs (d_buildSlice (ds := ([(⟨x4181, x4183⟩ : S55coin)] : List S55coin)) (R := rdS55coin) li53 rfl rfl rfl rfl rfl (JoinRows.cons (l := [.lit (.int .i64 x4181), .ro (Rd.slice (Rd.int .i64)) false x4183]) (Joins.via (Joins.cons Joins.sc (Joins.cons Joins.one Joins.unit))) rfl JoinRows.nil) rfl rfl)) rfl rfl ?_
                      obtain ⟨h4183, H⟩ := grd H
                      refine WPD.eff 28 [2] [] rfl (by kernel_rfl) (Does.runs (d_append ap53 rfl rfl rfl rfl (src_row sl53 rfl rfl) h4183 rfl)) rfl rfl ?_
                      refine WPD.takeT 29 rfl (by kernel_rfl) (q_as (v := .whole _) rfl) rfl ?_
                      refine WPD.doneW (by kernel_rfl) ?_
                      refine W.now ?_
                      refine InBlock.n ?_
                      refine Then.n ?_
                      refine WP.region ?_
                      refine WPL.q (q_mv (v := .lit (.int _ _)) rfl) rfl ?_
                      refine WPL.q (q_add rfl rfl) rfl ?_
                      refine WPL.q (q_as (v := .lit (.int _ _)) rfl) rfl ?_
                      refine WPL.nilW ?_
                      refine W.cv (Cv.weak (E' := ((((((((Env.none.upd 6 (.whole 0)).upd 9 (.whole 1)).upd 10 (.fn 25 [])).upd 11 (.whole 2)).upd 12 (.whole 3)).upd 13 (.lit (.int .i64 (IntKind.wrap .i64 (x4138 + 2))))).upd 74 (.lit (.int .i64 x1277))).upd 75 (.lit (.int .i64 x4059)))) (M' := ((((Mem.nil.push (.row 55 rdS55coin x4001)).push (.row 3 (Rd.int .i64) (List.replicate (Int.toNat ((List.length x1276 : Nat) : Int)) (0 : Int)))).push (.row 55 rdS55coin x4060)).push (.row 55 rdS55coin (x4139 ++ ([(⟨x4181, x4183⟩ : S55coin)] : List S55coin))))) [0, 1, 2, 6] hnp ⟨rfl, ⟨⟨⟨⟨trivial, .inr ⟨rfl, rfl, rfl⟩⟩, .inr ⟨rfl, rfl, rfl⟩⟩, .inr ⟨rfl, rfl, rfl⟩⟩, .inr ⟨rfl, rfl, rfl⟩⟩, by decide, rfl, trivial⟩ (LeE.upd rfl rfl (LeE.upd rfl rfl (LeE.upd rfl rfl (LeE.upd rfl rfl (LeE.upd rfl rfl (LeE.upd rfl rfl (LeE.upd rfl rfl (LeE.upd rfl rfl (LeE.none rfl rfl)))))))))) rfl ?_
                      refine W.now ?_
                      exact Then.n ⟨n, ((IntKind.wrap .i64 (x4138 + 2)), (x4139 ++ ([(⟨x4181, x4183⟩ : S55coin)] : List S55coin))), Nat.lt_succ_self n, H, rfl, rfl⟩
                    · replace H := cnf hb H
                      refine WP.exitW ?_
                      refine W.cv (Cv.weak (E' := ((((((Env.none.upd 6 (.whole 0)).upd 9 (.whole 1)).upd 10 (.fn 25 [])).upd 12 (.whole 2)).upd 74 (.lit (.int .i64 x1277))).upd 75 (.lit (.int .i64 x4059)))) (M' := (((Mem.nil.push (.row 55 rdS55coin x4001)).push (.row 3 (Rd.int .i64) (List.replicate (Int.toNat ((List.length x1276 : Nat) : Int)) (0 : Int)))).push (.row 55 rdS55coin x4139))) [0, 1, 3] hnp ⟨rfl, ⟨⟨⟨trivial, .inr ⟨rfl, rfl, rfl⟩⟩, .inr ⟨rfl, rfl, rfl⟩⟩, .inr ⟨rfl, rfl, rfl⟩⟩, by decide, rfl, trivial⟩ (LeE.upd rfl rfl (LeE.upd rfl rfl (LeE.upd rfl rfl (LeE.upd rfl rfl (LeE.upd rfl rfl (LeE.upd rfl rfl (LeE.none rfl rfl)))))))) rfl ?_
                      refine W.now ?_
                      refine Then.x ?_
                      refine Then.x ?_
                      have q0 := (Option.some.inj H)
                      subst q0
                      exact ⟨rfl, rfl, rfl⟩
                  · rintro _ _ _ ⟨rfl, rfl, rfl⟩
                    refine W.now ?_
                    refine InBlock.x0 ?_
                    refine Then.n ?_
                    refine WP.seq ?_
                    refine WP.region ?_
                    refine WPL.q (q_mv (v := .whole _) rfl) rfl ?_
                    refine WPL.q (q_mv (v := .fn _ _) rfl) rfl ?_
                    obtain ⟨x4187, h4185, H⟩ := bnd H
                    refine WPL.c (runs_call (s := [2]) (t := [2]) (N := 3) (bor := []) fn27 rfl (s27 k x4162 x4187 h4185) ⟨rfl, ⟨trivial, .inr ⟨rfl, rfl, rfl⟩⟩, by decide, rfl, trivial⟩ rfl trivial (.ren rfl rfl (.ren rfl rfl .nil)) rfl ⟨trivial, rfl⟩ rfl) rfl ?_
                    refine WPL.nilW ?_
                    refine W.now ?_
                    refine Then.n ?_
                    refine WP.region ?_
                    refine WPL.q (q_mv (v := .whole _) rfl) rfl ?_
                    refine WPL.q (q_as (v := .whole _) rfl) rfl ?_
                    refine WPL.nilW ?_
                    refine W.now ?_
                    refine InBlock.n ?_
                    refine Then.n ?_
                    refine WP.region ?_
                    refine WPL.q (q_add rfl rfl) rfl ?_
                    refine WPL.q (q_mv (v := .lit (.int _ _)) rfl) rfl ?_
                    refine WPL.nilW ?_
                    refine W.cv (Cv.weak (E' := ((((((Env.none.upd 6 (.whole 0)).upd 9 (.whole 1)).upd 10 (.fn 25 [])).upd 11 (.whole 2)).upd 74 (.lit (.int .i64 x1277))).upd 75 (.lit (.int .i64 (IntKind.wrap .i64 (x4059 + 1)))))) (M' := (((Mem.nil.push (.row 55 rdS55coin x4001)).push (.row 3 (Rd.int .i64) (List.replicate (Int.toNat ((List.length x1276 : Nat) : Int)) (0 : Int)))).push (.row 55 rdS55coin x4187))) [0, 1, 2] hnp ⟨rfl, ⟨⟨⟨trivial, .inr ⟨rfl, rfl, rfl⟩⟩, .inr ⟨rfl, rfl, rfl⟩⟩, .inr ⟨rfl, rfl, rfl⟩⟩, by decide, rfl, trivial⟩ (LeE.upd rfl rfl (LeE.upd rfl rfl (LeE.upd rfl rfl (LeE.upd rfl rfl (LeE.upd rfl rfl (LeE.upd rfl rfl (LeE.none rfl rfl)))))))) rfl ?_
                    refine W.now ?_
                    exact Then.n ⟨n, ((IntKind.wrap .i64 (x4059 + 1)), x4187), Nat.lt_succ_self n, H, rfl, rfl⟩
                · replace H := cnf hb H
                  refine WP.exitW ?_
                  refine W.cv (Cv.weak (E' := (((Env.none.upd 6 (.whole 0)).upd 9 (.whole 1)).upd 11 (.whole 2))) (M' := (((Mem.nil.push (.row 55 rdS55coin x4001)).push (.row 3 (Rd.int .i64) (List.replicate (Int.toNat ((List.length x1276 : Nat) : Int)) (0 : Int)))).push (.row 55 rdS55coin x4060))) [0, 1, 2] hnp ⟨rfl, ⟨⟨⟨trivial, .inr ⟨rfl, rfl, rfl⟩⟩, .inr ⟨rfl, rfl, rfl⟩⟩, .inr ⟨rfl, rfl, rfl⟩⟩, by decide, rfl, trivial⟩ (LeE.upd rfl rfl (LeE.upd rfl rfl (LeE.upd rfl rfl (LeE.none rfl rfl))))) rfl ?_
                  refine W.now ?_
                  refine Then.x ?_
                  refine Then.x ?_
                  have q0 := (Option.some.inj H)
                  subst q0
                  exact ⟨rfl, rfl, rfl⟩
              · rintro _ _ _ ⟨rfl, rfl, rfl⟩
                refine W.now ?_
                refine InBlock.x0 ?_
                refine Then.n ?_
                refine WP.seq ?_
                refine WP.seq ?_
                refine WP.region ?_
                refine WPL.q (q_as (v := .lit (.int _ _)) rfl) rfl ?_
                refine WPL.nilW ?_
                refine W.now ?_
                refine Then.n ?_
                refine WP.block ?_
                refine WP.cv (Cv.weak (E' := ((((Env.none.upd 6 (.whole 0)).upd 9 (.whole 1)).upd 11 (.whole 2)).upd 14 (.lit (.int .i64 0)))) (M' := (((Mem.nil.push (.row 55 rdS55coin x4001)).push (.row 3 (Rd.int .i64) (List.replicate (Int.toNat ((List.length x1276 : Nat) : Int)) (0 : Int)))).push (.row 55 rdS55coin x4113))) [0, 1, 2] hnp ⟨rfl, ⟨⟨⟨trivial, .inr ⟨rfl, rfl, rfl⟩⟩, .inr ⟨rfl, rfl, rfl⟩⟩, .inr ⟨rfl, rfl, rfl⟩⟩, by decide, rfl, trivial⟩ (LeE.upd rfl rfl (LeE.upd rfl rfl (LeE.upd rfl rfl (LeE.upd rfl rfl (LeE.none rfl rfl)))))) ?_
                obtain ⟨x4225, H4246, H⟩ := bnd H
                refine WP.monoW (Q := fun x E M => x = .exit 6 ∧ E = (Env.none.upd 9 (.whole 0)) ∧ M = (Mem.nil.push (.row 3 (Rd.int .i64) x4225))) ?_ ?_
                · refine WP.loop (β := Int × (List Int)) (fun n b => f9_l3 k x4001 x4113 n b.1 b.2 = some x4225) (fun b => ((((Env.none.upd 6 (.whole 0)).upd 9 (.whole 1)).upd 11 (.whole 2)).upd 14 (.lit (.int .i64 b.1)))) (fun b => (((Mem.nil.push (.row 55 rdS55coin x4001)).push (.row 3 (Rd.int .i64) b.2)).push (.row 55 rdS55coin x4113))) k (0, (List.replicate (Int.toNat ((List.length x1276 : Nat) : Int)) (0 : Int))) H4246 rfl rfl ?_
                  rintro n ⟨x4206, x4207⟩ H
                  obtain _ | n := n
                  · exact nf rfl H
                  rw [f9_l3.eq_2] at H
                  show WP _ _ _ _ ((((Env.none.upd 6 (.whole 0)).upd 9 (.whole 1)).upd 11 (.whole 2)).upd 14 (.lit (.int .i64 x4206))) (((Mem.nil.push (.row 55 rdS55coin x4001)).push (.row 3 (Rd.int .i64) x4207)).push (.row 55 rdS55coin x4113)) _
                  refine WP.seq ?_
                  refine WP.seq ?_
                  refine WP.region ?_
                  refine WPL.q (q_mv (v := .lit (.int _ _)) rfl) rfl ?_
                  refine WPL.q (q_mv (v := .whole _) rfl) rfl ?_
                  refine WPL.q (q_len_row sl53 rfl rfl) rfl ?_
                  obtain ⟨x4228, h4228, H⟩ := bnd H
                  refine WPL.q (q_nm (q_mul rfl rfl) (nm_int h4228)) rfl ?_
                  refine WPL.q (q_sub rfl rfl) rfl ?_
                  obtain ⟨x4229, h4229, H⟩ := bnd H
                  refine WPL.q (q_nm (q_lss rfl rfl) (nm_bool h4229)) rfl ?_
                  refine WPL.nilW ?_
                  refine W.now ?_
                  refine Then.n ?_
                  refine WP.cond (t := x4229) rfl (fun hb => ?_) (fun hb => ?_)
                  · replace H := cnt hb H
                    refine WP.skipW ?_
                    refine W.now ?_
                    refine Then.n ?_
                    refine WP.seq ?_
                    refine WP.block ?_
                    refine WP.seq ?_
                    refine WP.region ?_
                    refine WPL.q (q_mv (v := .whole _) rfl) rfl ?_
                    refine WPL.q (q_mv (v := .lit (.int _ _)) rfl) rfl ?_
                    obtain ⟨x4230, h4230, H⟩ := bnd H
                    refine WPL.q (q_index_row sl53 rfl rfl rfl (ixs h4230)) rfl ?_
                    refine WPL.q (q_fieldAddr fi55_1 rfl rfl) rfl ?_
                    refine WPL.q (q_load_rowr (j := (Int.toNat x4206)) (n := 2) (off := 1) (d := x4230) sc22 rfl rfl (ixj h4230) rfl S55coin.p1 rfl) rfl ?_
                    refine WPL.q (q_len_ro sl22 rfl) rfl ?_
                    refine WPL.q (q_mv (v := .lit (.int _ _)) rfl) rfl ?_
                    refine WPL.nilW ?_
                    refine W.now ?_
                    refine Then.n ?_
                    refine WP.block ?_
                    refine WP.cv (Cv.weak (E' := (((((((Env.none.upd 6 (.whole 0)).upd 9 (.whole 1)).upd 11 (.whole 2)).upd 14 (.lit (.int .i64 x4206))).upd 132 (.ro (Rd.slice (Rd.int .i64)) false x4230.fsyms)).upd 133 (.lit (.int .i64 ((List.length x4230.fsyms : Nat) : Int)))).upd 134 (.lit (.int .i64 0)))) (M' := (((Mem.nil.push (.row 55 rdS55coin x4001)).push (.row 3 (Rd.int .i64) x4207)).push (.row 55 rdS55coin x4113))) [0, 1, 2] hnp ⟨rfl, ⟨⟨⟨trivial, .inr ⟨rfl, rfl, rfl⟩⟩, .inr ⟨rfl, rfl, rfl⟩⟩, .inr ⟨rfl, rfl, rfl⟩⟩, by decide, rfl, trivial⟩ (LeE.upd rfl rfl (LeE.upd rfl rfl (LeE.upd rfl rfl (LeE.upd rfl rfl (LeE.upd rfl rfl (LeE.upd rfl rfl (LeE.upd rfl rfl (LeE.none rfl rfl))))))))) ?_
                    obtain ⟨x4241, H4245, H⟩ := bnd H
                    refine WP.monoW (Q := fun x E M => x = .exit 8 ∧ E = ((((Env.none.upd 6 (.whole 0)).upd 9 (.whole 1)).upd 11 (.whole 2)).upd 14 (.lit (.int .i64 x4206))) ∧ M = (((Mem.nil.push (.row 55 rdS55coin x4001)).push (.row 3 (Rd.int .i64) x4241)).push (.row 55 rdS55coin x4113))) ?_ ?_
                    · refine WP.loop (β := Int × (List Int)) (fun n b => f9_l4 k x4230 n b.1 b.2 = some x4241) (fun b => (((((((Env.none.upd 6 (.whole 0)).upd 9 (.whole 1)).upd 11 (.whole 2)).upd 14 (.lit (.int .i64 x4206))).upd 132 (.ro (Rd.slice (Rd.int .i64)) false x4230.fsyms)).upd 133 (.lit (.int .i64 ((List.length x4230.fsyms : Nat) : Int)))).upd 134 (.lit (.int .i64 b.1)))) (fun b => (((Mem.nil.push (.row 55 rdS55coin x4001)).push (.row 3 (Rd.int .i64) b.2)).push (.row 55 rdS55coin x4113))) k (0, x4207) H4245 rfl rfl ?_
                      rintro n ⟨x4235, x4236⟩ H
                      obtain _ | n := n
                      · exact nf rfl H
                      rw [f9_l4.eq_2] at H
                      show WP _ _ _ _ (((((((Env.none.upd 6 (.whole 0)).upd 9 (.whole 1)).upd 11 (.whole 2)).upd 14 (.lit (.int .i64 x4206))).upd 132 (.ro (Rd.slice (Rd.int .i64)) false x4230.fsyms)).upd 133 (.lit (.int .i64 ((List.length x4230.fsyms : Nat) : Int)))).upd 134 (.lit (.int .i64 x4235))) (((Mem.nil.push (.row 55 rdS55coin x4001)).push (.row 3 (Rd.int .i64) x4236)).push (.row 55 rdS55coin x4113)) _
                      refine WP.seq ?_
                      refine WP.region ?_
                      obtain ⟨x4242, h4242, H⟩ := bnd H
                      refine WPL.q (q_nm (q_lss rfl rfl) (nm_bool h4242)) rfl ?_
                      refine WPL.nilW ?_
                      refine W.now ?_
                      refine Then.n ?_
                      refine WP.seq ?_
                      refine WP.cond (t := x4242) rfl (fun hb => ?_) (fun hb => ?_)
                      · replace H := cnt hb H
                        refine WP.skipW ?_
                        refine W.now ?_
                        refine Then.n ?_
                        refine WP.seq ?_
                        refine WP.block ?_
                        refine WP.seq ?_
                        refine WP.region ?_
                        obtain ⟨x4243, h4243, H⟩ := bnd H
                        refine WPL.q (q_index_ro sl22 rfl rfl rfl h4243) rfl ?_
                        refine WPL.q (q_load_sc sc3 rfl) rfl ?_
                        refine WPL.q (q_as (v := .lit (.int _ _)) rfl) rfl ?_
                        refine WPL.nilW ?_
                        refine W.now ?_
                        refine Then.n ?_
                        refine WP.region ?_
                        refine WPL.q (q_mv (v := .whole _) rfl) rfl ?_
                        refine WPL.q (q_mv (v := .lit (.int _ _)) rfl) rfl ?_
                        obtain ⟨x4244, h4244, H⟩ := bnd H
                        refine WPL.q (q_index_row sl22 rfl rfl rfl (ixs h4244)) rfl ?_
                        refine WPL.q (q_load_row (j := (Int.toNat x4243)) sc3 rfl rfl (ixj h4244)) rfl ?_
                        refine WPL.q (q_add rfl rfl) rfl ?_
                        obtain ⟨x4245, h4245, H⟩ := bnd H
                        refine WPL.q (q_index_row sl22 rfl rfl rfl (ixs h4245)) rfl ?_
                        refine WPL.s (s_store_row (j := (Int.toNat x4243)) (d := (IntKind.wrap .i64 (x4244 + 1))) sz3 rfl rfl rfl rfl Joins.sc (ixl h4245)) ?_
                        refine WPL.nilW ?_
                        refine W.now ?_
                        refine InBlock.n ?_
                        refine Then.n ?_
                        refine WP.region ?_
                        refine WPL.q (q_add rfl rfl) rfl ?_
                        refine WPL.q (q_mv (v := .lit (.int _ _)) rfl) rfl ?_
                        refine WPL.nilW ?_
                        refine W.cv (Cv.weak (E' := (((((((Env.none.upd 6 (.whole 0)).upd 9 (.whole 1)).upd 11 (.whole 2)).upd 14 (.lit (.int .i64 x4206))).upd 132 (.ro (Rd.slice (Rd.int .i64)) false x4230.fsyms)).upd 133 (.lit (.int .i64 ((List.length x4230.fsyms : Nat) : Int)))).upd 134 (.lit (.int .i64 (IntKind.wrap .i64 (x4235 + 1)))))) (M' := (((Mem.nil.push (.row 55 rdS55coin x4001)).push (.row 3 (Rd.int .i64) (List.set x4236 (Int.toNat x4243) (IntKind.wrap .i64 (x4244 + 1))))).push (.row 55 rdS55coin x4113))) [0, 1, 2] hnp ⟨rfl, ⟨⟨⟨trivial, .inr ⟨rfl, rfl, rfl⟩⟩, .inr ⟨rfl, rfl, rfl⟩⟩, .inr ⟨rfl, rfl, rfl⟩⟩, by decide, rfl, trivial⟩ (LeE.upd rfl rfl (LeE.upd rfl rfl (LeE.upd rfl rfl (LeE.upd rfl rfl (LeE.upd rfl rfl (LeE.upd rfl rfl (LeE.upd rfl rfl (LeE.none rfl rfl))))))))) rfl ?_
                        refine W.now ?_
                        exact Then.n ⟨n, ((IntKind.wrap .i64 (x4235 + 1)), (List.set x4236 (Int.toNat x4243) (IntKind.wrap .i64 (x4244 + 1)))), Nat.lt_succ_self n, H, rfl, rfl⟩
                      · replace H := cnf hb H
                        refine WP.exitW ?_
                        refine W.cv (Cv.weak (E' := ((((Env.none.upd 6 (.whole 0)).upd 9 (.whole 1)).upd 11 (.whole 2)).upd 14 (.lit (.int .i64 x4206)))) (M' := (((Mem.nil.push (.row 55 rdS55coin x4001)).push (.row 3 (Rd.int .i64) x4236)).push (.row 55 rdS55coin x4113))) [0, 1, 2] hnp ⟨rfl, ⟨⟨⟨trivial, .inr ⟨rfl, rfl, rfl⟩⟩, .inr ⟨rfl, rfl, rfl⟩⟩, .inr ⟨rfl, rfl, rfl⟩⟩, by decide, rfl, trivial⟩ (LeE.upd rfl rfl (LeE.upd rfl rfl (LeE.upd rfl rfl (LeE.upd rfl rfl (LeE.none rfl rfl)))))) rfl ?_
                        refine W.now ?_
                        refine Then.x ?_
                        refine Then.x ?_
                        have q0 := (Option.some.inj H)
                        subst q0
                        exact ⟨rfl, rfl, rfl⟩
                    · rintro _ _ _ ⟨rfl, rfl, rfl⟩
                      refine W.now ?_
                      refine InBlock.x0 ?_
                      refine InBlock.n ?_
                      refine Then.n ?_
                      refine WP.region ?_
                      refine WPL.q (q_mv (v := .lit (.int _ _)) rfl) rfl ?_
                      refine WPL.q (q_add rfl rfl) rfl ?_
                      refine WPL.q (q_as (v := .lit (.int _ _)) rfl) rfl ?_
                      refine WPL.nilW ?_
                      refine W.cv (Cv.weak (E' := ((((Env.none.upd 6 (.whole 0)).upd 9 (.whole 1)).upd 11 (.whole 2)).upd 14 (.lit (.int .i64 (IntKind.wrap .i64 (x4206 + 1)))))) (M' := (((Mem.nil.push (.row 55 rdS55coin x4001)).push (.row 3 (Rd.int .i64) x4241)).push (.row 55 rdS55coin x4113))) [0, 1, 2] hnp ⟨rfl, ⟨⟨⟨trivial, .inr ⟨rfl, rfl, rfl⟩⟩, .inr ⟨rfl, rfl, rfl⟩⟩, .inr ⟨rfl, rfl, rfl⟩⟩, by decide, rfl, trivial⟩ (LeE.upd rfl rfl (LeE.upd rfl rfl (LeE.upd rfl rfl (LeE.upd rfl rfl (LeE.none rfl rfl)))))) rfl ?_
                      refine W.now ?_
                      exact Then.n ⟨n, ((IntKind.wrap .i64 (x4206 + 1)), x4241), Nat.lt_succ_self n, H, rfl, rfl⟩
                  · replace H := cnf hb H
                    refine WP.exitW ?_
                    refine W.cv (Cv.weak (E' := (Env.none.upd 9 (.whole 0))) (M' := (Mem.nil.push (.row 3 (Rd.int .i64) x4207))) [1] hnp ⟨rfl, ⟨trivial, .inr ⟨rfl, rfl, rfl⟩⟩, by decide, rfl, trivial⟩ (LeE.upd rfl rfl (LeE.none rfl rfl))) rfl ?_
                    refine W.now ?_
                    refine Then.x ?_
                    refine Then.x ?_
                    have q0 := (Option.some.inj H)
                    subst q0
                    exact ⟨rfl, rfl, rfl⟩
                · rintro _ _ _ ⟨rfl, rfl, rfl⟩
                  refine W.now ?_
                  refine InBlock.x0 ?_
                  refine Then.n ?_
                  refine WP.seq ?_
                  refine WP.region ?_
                  refine WPL.q (q_mv (v := .whole _) rfl) rfl ?_
                  refine WPL.q (q_as (v := .whole _) rfl) rfl ?_
                  refine WPL.q (q_as (v := .lit (.int _ _)) rfl) rfl ?_
                  refine WPL.nilW ?_
                  refine W.now ?_
                  refine Then.n ?_
                  refine WP.retW ?_
                  refine W.cv (Cv.frzRow (i := 0) rfl rfl hnp rfl rfl) rfl ?_
                  refine W.now ?_
                  have q0 := (Prod.mk.inj (Option.some.inj H)).1
                  have q1 := (Prod.mk.inj (Option.some.inj H)).2
                  subst q0
                  subst q1
                  exact ⟨trivial, _, rfl, [], (.tup [.ro (Rd.slice (Rd.int .i64)) false x4225, .lit (.int .i64 0)]), Mem.nil, ⟨rfl, trivial, by decide, rfl, trivial⟩, rfl, rfl, rfl, rfl⟩
end Go.Proofs.Ythgbompoldmhmaa.W
