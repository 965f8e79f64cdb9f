/- Walks: Fc3 -/
import Derived.Test.YthgbompoldmhmabFb
import Derived.Test.YthgbompoldmhmabFc1
import Derived.Test.YthgbompoldmhmabFc2
namespace Go.Proofs.Ythgbompoldmhmab.W
open Go Go.Q Go.Proofs
set_option linter.unusedVariables false
set_option linter.unusedSimpArgs false
set_option maxRecDepth 100000 in
set_option maxHeartbeats 4000000 in
theorem s_slices_stableCmpFunc_huff_coin (k : Nat) (x2474 : Int) (x2475 : (List S_huff_coin)) (x4625 : (List S_huff_coin)) (H : g_slices_stableCmpFunc_huff_coin k x2474 x2475 = some x4625) : Go.Q.Spec Try.prog 31 1 [.whole 0, .lit (.int .i64 x2474), .fn 23 []] (Mem.nil.push (.row 71 rdS_huff_coin x2475)) (fun o M => o = .ret (.tup []) ∧ M = (Mem.nil.push (.row 71 rdS_huff_coin x4625))) := by
  unfold g_slices_stableCmpFunc_huff_coin at H
  refine Go.Q.Spec.of_bodyR (rs := []) (nt := 63) Try.func31 rfl rfl (by intro t T h; simp at h) rfl rfl fun cx hnp => ?_
  refine WP.seq ?_
  refine WP.region ?_
  refine WPL.q (q_as (v := .lit (.int _ _)) rfl) rfl ?_
  refine WPL.nilW ?_
  refine W.now ?_
  refine Then.n ?_
  refine WP.seq ?_
  refine WP.region ?_
  refine WPL.q (q_mv (v := .lit (.int _ _)) rfl) rfl ?_
  refine WPL.q (q_as (v := .lit (.int _ _)) rfl) rfl ?_
  refine WPL.q (q_as (v := .lit (.int _ _)) rfl) rfl ?_
  refine WPL.nilW ?_
  refine W.now ?_
  refine Then.n ?_
  refine WP.seq ?_
  refine WP.block ?_
  refine WP.cv (Cv.weak (E' := ((((((Env.none.upd 0 (.whole 0)).upd 1 (.lit (.int .i64 x2474))).upd 2 (.fn 23 [])).upd 6 (.lit (.int .i64 20))).upd 7 (.lit (.int .i64 0))).upd 8 (.lit (.int .i64 20)))) (M' := (Mem.nil.push (.row 71 rdS_huff_coin x2475))) [0] hnp ⟨rfl, ⟨trivial, .inr ⟨rfl, rfl, rfl⟩⟩, by decide, rfl, ⟨trivial, rfl⟩⟩ (LeE.upd rfl rfl (LeE.upd rfl rfl (LeE.upd rfl rfl (LeE.upd rfl rfl (LeE.upd rfl rfl (LeE.upd rfl rfl (LeE.none rfl rfl)))))))) ?_
  obtain ⟨⟨x4633, x4634⟩, H4636, H⟩ := bnd H
  refine WP.monoW (Q := fun x E M => x = .exit 0 ∧ E = (((((Env.none.upd 0 (.whole 0)).upd 1 (.lit (.int .i64 x2474))).upd 2 (.fn 23 [])).upd 6 (.lit (.int .i64 20))).upd 7 (.lit (.int .i64 x4633))) ∧ M = (Mem.nil.push (.row 71 rdS_huff_coin x4634))) ?_ ?_
  · refine WP.loop (β := Int × Int × (List S_huff_coin)) (fun n b => g_slices_stableCmpFunc_huff_coin_l0 k x2474 n b.1 b.2.1 b.2.2 = some (x4633, x4634)) (fun b => ((((((Env.none.upd 0 (.whole 0)).upd 1 (.lit (.int .i64 x2474))).upd 2 (.fn 23 [])).upd 6 (.lit (.int .i64 20))).upd 7 (.lit (.int .i64 b.1))).upd 8 (.lit (.int .i64 b.2.1)))) (fun b => (Mem.nil.push (.row 71 rdS_huff_coin b.2.2))) k (0, 20, x2475) H4636 rfl rfl ?_
    rintro n ⟨x4628, x4629, x4630⟩ H
    obtain _ | n := n
    · exact nf rfl H
    rw [g_slices_stableCmpFunc_huff_coin_l0.eq_2] at H
    show WP _ _ _ _ ((((((Env.none.upd 0 (.whole 0)).upd 1 (.lit (.int .i64 x2474))).upd 2 (.fn 23 [])).upd 6 (.lit (.int .i64 20))).upd 7 (.lit (.int .i64 x4628))).upd 8 (.lit (.int .i64 x4629))) (Mem.nil.push (.row 71 rdS_huff_coin x4630)) _
    refine WP.seq ?_
    refine WP.seq ?_
    refine WP.region ?_
    refine WPL.q (q_mv (v := .lit (.int _ _)) rfl) rfl ?_
    refine WPL.q (q_mv (v := .lit (.int _ _)) rfl) rfl ?_
    refine WPL.q (q_leq rfl rfl) rfl ?_
    refine WPL.nilW ?_
    refine W.now ?_
    refine Then.n ?_
    refine WP.cond (t := (decide (x4629 ≤ x2474))) rfl (fun hb => ?_) (fun hb => ?_)
    · replace H := cnt hb H
      refine WP.skipW ?_
      refine W.now ?_
      refine Then.n ?_
      refine WP.block ?_
      refine WP.seq ?_
      refine WP.region ?_
      refine WPL.q (q_mv (v := .whole _) rfl) rfl ?_
      refine WPL.q (q_mv (v := .lit (.int _ _)) rfl) rfl ?_
      refine WPL.q (q_mv (v := .lit (.int _ _)) rfl) rfl ?_
      refine WPL.q (q_mv (v := .fn _ _) rfl) rfl ?_
      obtain ⟨x4636, h4634, H⟩ := bnd H
      refine WPL.c (runs_call (s := [0]) (t := [0]) (N := 1) (bor := []) fn33 rfl (s_slices_insertionSortCmpFunc_huff_coin k x4628 x4629 x4630 x4636 h4634) ⟨rfl, ⟨trivial, .inr ⟨rfl, rfl, rfl⟩⟩, by decide, rfl, trivial⟩ rfl trivial (.ren rfl rfl (.ren rfl rfl (.ren rfl rfl (.ren rfl rfl .nil)))) rfl ⟨trivial, rfl⟩ rfl) rfl ?_
      refine WPL.nilW ?_
      refine W.now ?_
      refine Then.n ?_
      refine WP.seq ?_
      refine WP.region ?_
      refine WPL.q (q_mv (v := .lit (.int _ _)) rfl) rfl ?_
      refine WPL.q (q_as (v := .lit (.int _ _)) rfl) rfl ?_
      refine WPL.nilW ?_
      refine W.now ?_
      refine Then.n ?_
      refine WP.region ?_
      refine WPL.q (q_mv (v := .lit (.int _ _)) rfl) rfl ?_
      refine WPL.q (q_mv (v := .lit (.int _ _)) rfl) rfl ?_
      refine WPL.q (q_add rfl rfl) rfl ?_
      refine WPL.q (q_as (v := .lit (.int _ _)) rfl) rfl ?_
      refine WPL.nilW ?_
      refine W.cv (Cv.weak (E' := ((((((Env.none.upd 0 (.whole 0)).upd 1 (.lit (.int .i64 x2474))).upd 2 (.fn 23 [])).upd 6 (.lit (.int .i64 20))).upd 7 (.lit (.int .i64 x4629))).upd 8 (.lit (.int .i64 (IntKind.wrap .i64 (x4629 + 20)))))) (M' := (Mem.nil.push (.row 71 rdS_huff_coin x4636))) [0] hnp ⟨rfl, ⟨trivial, .inr ⟨rfl, rfl, rfl⟩⟩, by decide, rfl, ⟨trivial, rfl⟩⟩ (LeE.upd rfl rfl (LeE.upd rfl rfl (LeE.upd rfl rfl (LeE.upd rfl rfl (LeE.upd rfl rfl (LeE.upd rfl rfl (LeE.none rfl rfl)))))))) rfl ?_
      refine W.now ?_
      refine InBlock.n ?_
      exact Then.n ⟨n, (x4629, (IntKind.wrap .i64 (x4629 + 20)), x4636), Nat.lt_succ_self n, H, rfl, rfl⟩
    · replace H := cnf hb H
      refine WP.exitW ?_
      refine W.cv (Cv.weak (E' := (((((Env.none.upd 0 (.whole 0)).upd 1 (.lit (.int .i64 x2474))).upd 2 (.fn 23 [])).upd 6 (.lit (.int .i64 20))).upd 7 (.lit (.int .i64 x4628)))) (M' := (Mem.nil.push (.row 71 rdS_huff_coin x4630))) [0] hnp ⟨rfl, ⟨trivial, .inr ⟨rfl, rfl, rfl⟩⟩, by decide, rfl, ⟨trivial, rfl⟩⟩ (LeE.upd rfl rfl (LeE.upd rfl rfl (LeE.upd rfl rfl (LeE.upd rfl rfl (LeE.upd rfl rfl (LeE.none rfl rfl))))))) rfl ?_
      refine W.now ?_
      refine Then.x ?_
      refine Then.x ?_
      have q0 := (Prod.mk.inj (Option.some.inj H)).1
      have q1 := (Prod.mk.inj (Option.some.inj H)).2
      subst q0
      subst q1
      exact ⟨rfl, rfl, rfl⟩
  · rintro _ _ _ ⟨rfl, rfl, rfl⟩
    refine W.now ?_
    refine InBlock.x0 ?_
    refine Then.n ?_
    refine WP.seq ?_
    refine WP.region ?_
    refine WPL.q (q_mv (v := .whole _) rfl) rfl ?_
    refine WPL.q (q_mv (v := .lit (.int _ _)) rfl) rfl ?_
    refine WPL.q (q_mv (v := .lit (.int _ _)) rfl) rfl ?_
    refine WPL.q (q_mv (v := .fn _ _) rfl) rfl ?_
    obtain ⟨x4639, h4637, H⟩ := bnd H
    refine WPL.c (runs_call (s := [0]) (t := [0]) (N := 1) (bor := []) fn33 rfl (s_slices_insertionSortCmpFunc_huff_coin k x4633 x2474 x4634 x4639 h4637) ⟨rfl, ⟨trivial, .inr ⟨rfl, rfl, rfl⟩⟩, by decide, rfl, trivial⟩ rfl trivial (.ren rfl rfl (.ren rfl rfl (.ren rfl rfl (.ren rfl rfl .nil)))) rfl ⟨trivial, rfl⟩ rfl) rfl ?_
    refine WPL.nilW ?_
    refine W.now ?_
    refine Then.n ?_
    refine WP.block ?_
    refine WP.cv (Cv.weak (E' := ((((Env.none.upd 0 (.whole 0)).upd 1 (.lit (.int .i64 x2474))).upd 2 (.fn 23 [])).upd 6 (.lit (.int .i64 20)))) (M' := (Mem.nil.push (.row 71 rdS_huff_coin x4639))) [0] hnp ⟨rfl, ⟨trivial, .inr ⟨rfl, rfl, rfl⟩⟩, by decide, rfl, ⟨trivial, rfl⟩⟩ (LeE.upd rfl rfl (LeE.upd rfl rfl (LeE.upd rfl rfl (LeE.upd rfl rfl (LeE.none rfl rfl)))))) ?_
    obtain ⟨x4686, H4711, H⟩ := bnd H
    refine WP.monoW (Q := fun x E M => x = .exit 2 ∧ E = Env.none ∧ M = (Mem.nil.push (.row 71 rdS_huff_coin x4686))) ?_ ?_
    · refine WP.loop (β := Int × (List S_huff_coin)) (fun n b => g_slices_stableCmpFunc_huff_coin_l1 k x2474 n b.1 b.2 = some x4686) (fun b => ((((Env.none.upd 0 (.whole 0)).upd 1 (.lit (.int .i64 x2474))).upd 2 (.fn 23 [])).upd 6 (.lit (.int .i64 b.1)))) (fun b => (Mem.nil.push (.row 71 rdS_huff_coin b.2))) k (20, x4639) H4711 rfl rfl ?_
      rintro n ⟨x4662, x4663⟩ H
      obtain _ | n := n
      · exact nf rfl H
      rw [g_slices_stableCmpFunc_huff_coin_l1.eq_2] at H
      show WP _ _ _ _ ((((Env.none.upd 0 (.whole 0)).upd 1 (.lit (.int .i64 x2474))).upd 2 (.fn 23 [])).upd 6 (.lit (.int .i64 x4662))) (Mem.nil.push (.row 71 rdS_huff_coin x4663)) _
      refine WP.seq ?_
      refine WP.seq ?_
      refine WP.region ?_
      refine WPL.q (q_mv (v := .lit (.int _ _)) rfl) rfl ?_
      refine WPL.q (q_mv (v := .lit (.int _ _)) rfl) rfl ?_
      refine WPL.q (q_lss rfl rfl) rfl ?_
      refine WPL.nilW ?_
      refine W.now ?_
      refine Then.n ?_
      refine WP.cond (t := (decide (x4662 < x2474))) rfl (fun hb => ?_) (fun hb => ?_)
      · replace H := cnt hb H
        refine WP.skipW ?_
        refine W.now ?_
        refine Then.n ?_
        refine WP.block ?_
        refine WP.seq ?_
        refine WP.region ?_
        refine WPL.q (q_mv (v := .lit (.int _ _)) rfl) rfl ?_
        refine WPL.q (q_mul rfl rfl) rfl ?_
        refine WPL.q (q_as (v := .lit (.int _ _)) rfl) rfl ?_
        refine WPL.q (q_as (v := .lit (.int _ _)) rfl) rfl ?_
        refine WPL.nilW ?_
        refine W.now ?_
        refine Then.n ?_
        refine WP.seq ?_
        refine WP.block ?_
        refine WP.cv (Cv.weak (E' := ((((((Env.none.upd 0 (.whole 0)).upd 1 (.lit (.int .i64 x2474))).upd 2 (.fn 23 [])).upd 6 (.lit (.int .i64 x4662))).upd 7 (.lit (.int .i64 0))).upd 8 (.lit (.int .i64 (IntKind.wrap .i64 (2 * x4662)))))) (M' := (Mem.nil.push (.row 71 rdS_huff_coin x4663))) [0] hnp ⟨rfl, ⟨trivial, .inr ⟨rfl, rfl, rfl⟩⟩, by decide, rfl, ⟨trivial, rfl⟩⟩ (LeE.upd rfl rfl (LeE.upd rfl rfl (LeE.upd rfl rfl (LeE.upd rfl rfl (LeE.upd rfl rfl (LeE.upd rfl rfl (LeE.none rfl rfl)))))))) ?_
        obtain ⟨⟨x4698, x4699⟩, H4702, H⟩ := bnd H
        refine WP.monoW (Q := fun x E M => x = .exit 4 ∧ E = (((((Env.none.upd 0 (.whole 0)).upd 1 (.lit (.int .i64 x2474))).upd 2 (.fn 23 [])).upd 6 (.lit (.int .i64 x4662))).upd 7 (.lit (.int .i64 x4698))) ∧ M = (Mem.nil.push (.row 71 rdS_huff_coin x4699))) ?_ ?_
        · refine WP.loop (β := Int × Int × (List S_huff_coin)) (fun n b => g_slices_stableCmpFunc_huff_coin_l2 k x2474 x4662 n b.1 b.2.1 b.2.2 = some (x4698, x4699)) (fun b => ((((((Env.none.upd 0 (.whole 0)).upd 1 (.lit (.int .i64 x2474))).upd 2 (.fn 23 [])).upd 6 (.lit (.int .i64 x4662))).upd 7 (.lit (.int .i64 b.1))).upd 8 (.lit (.int .i64 b.2.1)))) (fun b => (Mem.nil.push (.row 71 rdS_huff_coin b.2.2))) k (0, (IntKind.wrap .i64 (2 * x4662)), x4663) H4702 rfl rfl ?_
          rintro n ⟨x4692, x4693, x4694⟩ H
          obtain _ | n := n
          · exact nf rfl H
          rw [g_slices_stableCmpFunc_huff_coin_l2.eq_2] at H
          show WP _ _ _ _ ((((((Env.none.upd 0 (.whole 0)).upd 1 (.lit (.int .i64 x2474))).upd 2 (.fn 23 [])).upd 6 (.lit (.int .i64 x4662))).upd 7 (.lit (.int .i64 x4692))).upd 8 (.lit (.int .i64 x4693))) (Mem.nil.push (.row 71 rdS_huff_coin x4694)) _
          refine WP.seq ?_
          refine WP.seq ?_
          refine WP.region ?_
          refine WPL.q (q_mv (v := .lit (.int _ _)) rfl) rfl ?_
          refine WPL.q (q_mv (v := .lit (.int _ _)) rfl) rfl ?_
          refine WPL.q (q_leq rfl rfl) rfl ?_
          refine WPL.nilW ?_
          refine W.now ?_
          refine Then.n ?_
          refine WP.cond (t := (decide (x4693 ≤ x2474))) rfl (fun hb => ?_) (fun hb => ?_)
          · replace H := cnt hb H
            refine WP.skipW ?_
            refine W.now ?_
            refine Then.n ?_
            refine WP.block ?_
            refine WP.seq ?_
            refine WP.region ?_
            refine WPL.q (q_mv (v := .whole _) rfl) rfl ?_
            refine WPL.q (q_mv (v := .lit (.int _ _)) rfl) rfl ?_
            refine WPL.q (q_mv (v := .lit (.int _ _)) rfl) rfl ?_
            refine WPL.q (q_mv (v := .lit (.int _ _)) rfl) rfl ?_
            refine WPL.q (q_add rfl rfl) rfl ?_
            refine WPL.q (q_mv (v := .lit (.int _ _)) rfl) rfl ?_
            refine WPL.q (q_mv (v := .fn _ _) rfl) rfl ?_
            obtain ⟨x4701, h4699, H⟩ := bnd H
            refine WPL.c (runs_call (s := [0]) (t := [0]) (N := 1) (bor := []) fn34 rfl (s_slices_symMergeCmpFunc_huff_coin k x4692 (IntKind.wrap .i64 (x4692 + x4662)) x4693 x4694 x4701 h4699) ⟨rfl, ⟨trivial, .inr ⟨rfl, rfl, rfl⟩⟩, by decide, rfl, trivial⟩ rfl trivial (.ren rfl rfl (.ren rfl rfl (.ren rfl rfl (.ren rfl rfl (.ren rfl rfl .nil))))) rfl ⟨trivial, rfl⟩ rfl) rfl ?_
            refine WPL.nilW ?_
            refine W.now ?_
            refine Then.n ?_
            refine WP.seq ?_
            refine WP.region ?_
            refine WPL.q (q_mv (v := .lit (.int _ _)) rfl) rfl ?_
            refine WPL.q (q_as (v := .lit (.int _ _)) rfl) rfl ?_
            refine WPL.nilW ?_
            refine W.now ?_
            refine Then.n ?_
            refine WP.region ?_
            refine WPL.q (q_mv (v := .lit (.int _ _)) rfl) rfl ?_
            refine WPL.q (q_mv (v := .lit (.int _ _)) rfl) rfl ?_
            refine WPL.q (q_mul rfl rfl) rfl ?_
            obtain ⟨x4702, h4702, H⟩ := bnd H
            refine WPL.q (q_nm (q_add rfl rfl) (nm_int h4702)) rfl ?_
            refine WPL.q (q_as (v := .lit (.int _ _)) rfl) rfl ?_
            refine WPL.nilW ?_
            refine W.cv (Cv.weak (E' := ((((((Env.none.upd 0 (.whole 0)).upd 1 (.lit (.int .i64 x2474))).upd 2 (.fn 23 [])).upd 6 (.lit (.int .i64 x4662))).upd 7 (.lit (.int .i64 x4693))).upd 8 (.lit (.int .i64 x4702)))) (M' := (Mem.nil.push (.row 71 rdS_huff_coin x4701))) [0] hnp ⟨rfl, ⟨trivial, .inr ⟨rfl, rfl, rfl⟩⟩, by decide, rfl, ⟨trivial, rfl⟩⟩ (LeE.upd rfl rfl (LeE.upd rfl rfl (LeE.upd rfl rfl (LeE.upd rfl rfl (LeE.upd rfl rfl (LeE.upd rfl rfl (LeE.none rfl rfl)))))))) rfl ?_
            refine W.now ?_
            refine InBlock.n ?_
            exact Then.n ⟨n, (x4693, x4702, x4701), Nat.lt_succ_self n, H, rfl, rfl⟩
          · replace H := cnf hb H
            refine WP.exitW ?_
            refine W.cv (Cv.weak (E' := (((((Env.none.upd 0 (.whole 0)).upd 1 (.lit (.int .i64 x2474))).upd 2 (.fn 23 [])).upd 6 (.lit (.int .i64 x4662))).upd 7 (.lit (.int .i64 x4692)))) (M' := (Mem.nil.push (.row 71 rdS_huff_coin x4694))) [0] hnp ⟨rfl, ⟨trivial, .inr ⟨rfl, rfl, rfl⟩⟩, by decide, rfl, ⟨trivial, rfl⟩⟩ (LeE.upd rfl rfl (LeE.upd rfl rfl (LeE.upd rfl rfl (LeE.upd rfl rfl (LeE.upd rfl rfl (LeE.none rfl rfl))))))) rfl ?_
            refine W.now ?_
            refine Then.x ?_
            refine Then.x ?_
            have q0 := (Prod.mk.inj (Option.some.inj H)).1
            have q1 := (Prod.mk.inj (Option.some.inj H)).2
            subst q0
            subst q1
            exact ⟨rfl, rfl, rfl⟩
        · rintro _ _ _ ⟨rfl, rfl, rfl⟩
          refine W.now ?_
          refine InBlock.x0 ?_
          refine Then.n ?_
          refine WP.seq ?_
          obtain ⟨x4707, H4710, H⟩ := bnd H
          refine WP.monoW (Q := fun x E M => x = .normal ∧ E = ((((Env.none.upd 0 (.whole 0)).upd 1 (.lit (.int .i64 x2474))).upd 2 (.fn 23 [])).upd 6 (.lit (.int .i64 x4662))) ∧ M = (Mem.nil.push (.row 71 rdS_huff_coin x4707))) ?_ ?_
          · clear H
            have H := H4710
            clear H4710
            refine WP.seq ?_
            refine WP.region ?_
            refine WPL.q (q_mv (v := .lit (.int _ _)) rfl) rfl ?_
            refine WPL.q (q_mv (v := .lit (.int _ _)) rfl) rfl ?_
            refine WPL.q (q_add rfl rfl) rfl ?_
            refine WPL.q (q_as (v := .lit (.int _ _)) rfl) rfl ?_
            refine WPL.nilW ?_
            refine W.now ?_
            refine Then.n ?_
            refine WP.seq ?_
            refine WP.region ?_
            refine WPL.q (q_mv (v := .lit (.int _ _)) rfl) rfl ?_
            refine WPL.q (q_mv (v := .lit (.int _ _)) rfl) rfl ?_
            obtain ⟨x4708, h4708, H⟩ := bnd H
            refine WPL.q (q_nm (q_lss rfl rfl) (nm_bool h4708)) rfl ?_
            refine WPL.nilW ?_
            refine W.now ?_
            refine Then.n ?_
            refine WP.cond (t := x4708) rfl (fun hb => ?_) (fun hb => ?_)
            · replace H := cnt hb H
              refine WP.region ?_
              refine WPL.q (q_mv (v := .whole _) rfl) rfl ?_
              refine WPL.q (q_mv (v := .lit (.int _ _)) rfl) rfl ?_
              refine WPL.q (q_mv (v := .lit (.int _ _)) rfl) rfl ?_
              refine WPL.q (q_mv (v := .lit (.int _ _)) rfl) rfl ?_
              refine WPL.q (q_mv (v := .fn _ _) rfl) rfl ?_
              obtain ⟨x4710, h4708, H⟩ := bnd H
              refine WPL.c (runs_call (s := [0]) (t := [0]) (N := 1) (bor := []) fn34 rfl (s_slices_symMergeCmpFunc_huff_coin k x4698 (IntKind.wrap .i64 (x4698 + x4662)) x2474 x4699 x4710 h4708) ⟨rfl, ⟨trivial, .inr ⟨rfl, rfl, rfl⟩⟩, by decide, rfl, trivial⟩ rfl trivial (.ren rfl rfl (.ren rfl rfl (.ren rfl rfl (.ren rfl rfl (.ren rfl rfl .nil))))) rfl ⟨trivial, rfl⟩ rfl) rfl ?_
              refine WPL.nilW ?_
              refine W.cv (Cv.weak (E' := ((((Env.none.upd 0 (.whole 0)).upd 1 (.lit (.int .i64 x2474))).upd 2 (.fn 23 [])).upd 6 (.lit (.int .i64 x4662)))) (M' := (Mem.nil.push (.row 71 rdS_huff_coin x4710))) [0] hnp ⟨rfl, ⟨trivial, .inr ⟨rfl, rfl, rfl⟩⟩, by decide, rfl, ⟨trivial, rfl⟩⟩ (LeE.upd rfl rfl (LeE.upd rfl rfl (LeE.upd rfl rfl (LeE.upd rfl rfl (LeE.none rfl rfl)))))) rfl ?_
              refine W.now ?_
              have q0 := (Option.some.inj H)
              subst q0
              exact ⟨rfl, rfl, rfl⟩
            · replace H := cnf hb H
              refine WP.skipW ?_
              refine W.cv (Cv.weak (E' := ((((Env.none.upd 0 (.whole 0)).upd 1 (.lit (.int .i64 x2474))).upd 2 (.fn 23 [])).upd 6 (.lit (.int .i64 x4662)))) (M' := (Mem.nil.push (.row 71 rdS_huff_coin x4699))) [0] hnp ⟨rfl, ⟨trivial, .inr ⟨rfl, rfl, rfl⟩⟩, by decide, rfl, ⟨trivial, rfl⟩⟩ (LeE.upd rfl rfl (LeE.upd rfl rfl (LeE.upd rfl rfl (LeE.upd rfl rfl (LeE.none rfl rfl)))))) rfl ?_
              refine W.now ?_
              have q0 := (Option.some.inj H)
              subst q0
              exact ⟨rfl, rfl, rfl⟩
          · rintro _ _ _ ⟨rfl, rfl, rfl⟩
            refine W.now ?_
            refine Then.n ?_
            refine WP.region ?_
            refine WPL.q (q_mv (v := .lit (.int _ _)) rfl) rfl ?_
            refine WPL.q (q_mul rfl rfl) rfl ?_
            refine WPL.q (q_as (v := .lit (.int _ _)) rfl) rfl ?_
            refine WPL.nilW ?_
            refine W.cv (Cv.weak (E' := ((((Env.none.upd 0 (.whole 0)).upd 1 (.lit (.int .i64 x2474))).upd 2 (.fn 23 [])).upd 6 (.lit (.int .i64 (IntKind.wrap .i64 (x4662 * 2)))))) (M' := (Mem.nil.push (.row 71 rdS_huff_coin x4707))) [0] hnp ⟨rfl, ⟨trivial, .inr ⟨rfl, rfl, rfl⟩⟩, by decide, rfl, ⟨trivial, rfl⟩⟩ (LeE.upd rfl rfl (LeE.upd rfl rfl (LeE.upd rfl rfl (LeE.upd rfl rfl (LeE.none rfl rfl)))))) rfl ?_
            refine W.now ?_
            refine InBlock.n ?_
            exact Then.n ⟨n, ((IntKind.wrap .i64 (x4662 * 2)), x4707), Nat.lt_succ_self n, H, rfl, rfl⟩
      · replace H := cnf hb H
        refine WP.exitW ?_
        refine W.cv (Cv.weak (E' := Env.none) (M' := (Mem.nil.push (.row 71 rdS_huff_coin x4663))) [0] hnp ⟨rfl, ⟨trivial, .inr ⟨rfl, rfl, rfl⟩⟩, by decide, rfl, ⟨trivial, rfl⟩⟩ (LeE.none rfl rfl)) rfl ?_
        refine W.now ?_
        refine Then.x ?_
        refine Then.x ?_
        have q0 := (Option.some.inj H)
        subst q0
        exact ⟨rfl, rfl, rfl⟩
    · rintro _ _ _ ⟨rfl, rfl, rfl⟩
      refine W.now ?_
      refine InBlock.x0 ?_
      have q0 := (Option.some.inj H)
      subst q0
      exact ⟨trivial, _, rfl, [0], (.tup []), (Mem.nil.push (.row 71 rdS_huff_coin x4686)), ⟨rfl, ⟨trivial, .inr ⟨rfl, rfl, rfl⟩⟩, by decide, rfl, ⟨trivial, rfl⟩⟩, rfl, rfl, rfl, rfl⟩
set_option maxRecDepth 100000 in
set_option maxHeartbeats 4000000 in
theorem s_slices_SortStableFunc_huff_coin_huff_coin (k : Nat) (x2472 : (List S_huff_coin)) (x4715 : (List S_huff_coin)) (H : g_slices_SortStableFunc_huff_coin_huff_coin k x2472 = some x4715) : Go.Q.Spec Try.prog 25 1 [.whole 0, .fn 23 []] (Mem.nil.push (.row 71 rdS_huff_coin x2472)) (fun o M => o = .ret (.tup []) ∧ M = (Mem.nil.push (.row 71 rdS_huff_coin x4715))) := by
  unfold g_slices_SortStableFunc_huff_coin_huff_coin at H
  refine Go.Q.Spec.of_bodyR (rs := []) (nt := 9) Try.func25 rfl rfl (by intro t T h; simp at h) rfl rfl fun cx hnp => ?_
  refine WP.region ?_
  refine WPL.q (q_mv (v := .whole _) rfl) rfl ?_
  refine WPL.q (q_mv (v := .whole _) rfl) rfl ?_
  refine WPL.q (q_len_row sl69 rfl rfl) rfl ?_
  refine WPL.q (q_mv (v := .fn _ _) rfl) rfl ?_
  obtain ⟨x4717, h4715, H⟩ := bnd H
  refine WPL.c (runs_call (s := [0]) (t := [0]) (N := 1) (bor := []) fn31 rfl (s_slices_stableCmpFunc_huff_coin k ((List.length x2472 : Nat) : Int) x2472 x4717 h4715) ⟨rfl, ⟨trivial, .inr ⟨rfl, rfl, rfl⟩⟩, by decide, rfl, trivial⟩ rfl trivial (.ren rfl rfl (.ren rfl rfl (.ren rfl rfl .nil))) rfl ⟨trivial, rfl⟩ rfl) rfl ?_
  refine WPL.nilW ?_
  refine W.now ?_
  have q0 := (Option.some.inj H)
  subst q0
  exact ⟨trivial, _, rfl, [0], (.tup []), (Mem.nil.push (.row 71 rdS_huff_coin x4717)), ⟨rfl, ⟨trivial, .inr ⟨rfl, rfl, rfl⟩⟩, by decide, rfl, ⟨trivial, rfl⟩⟩, rfl, rfl, rfl, rfl⟩
set_option maxRecDepth 100000 in
set_option maxHeartbeats 4000000 in
theorem s_slices_Clone_huff_coin_huff_coin (k : Nat) (x4720 : List S_huff_coin) (x4721 : List S_huff_coin) (H : g_slices_Clone_huff_coin_huff_coin k x4720 = some x4721) : Go.Q.Spec Try.prog 26 1 [.whole 0] (Mem.nil.push (.row 71 rdS_huff_coin x4720)) (fun o M => o = .ret (.whole 1) ∧ M = ((Mem.nil.push (.row 71 rdS_huff_coin x4720)).push (.row 71 rdS_huff_coin x4721))) := by
  unfold g_slices_Clone_huff_coin_huff_coin at H
  obtain ⟨h, H⟩ := grd H
  have q0 := Option.some.inj H
  subst q0
  refine Go.Q.Spec.of_bodyR (rs := [.tmp 2]) (nt := 8) Try.func26 rfl rfl (by intro t T h; simp at h) rfl rfl fun cx hnp => ?_
  refine WP.seq ?_
  refine WP.region ?_
  refine WPL.q (q_as (v := .lit _) rfl) rfl ?_
  refine WPL.nilW ?_
  refine W.now ?_
  refine Then.n ?_
  refine WP.seq ?_
  refine WP.seq ?_
  refine WP.region ?_
  refine WPL.q (q_mv (v := .whole _) rfl) rfl ?_
  refine WPL.eqlNilW Try.underlying69 rfl rfl rfl fun nb hnb => ?_
  refine WPL.nilW ?_
  refine W.now ?_
  refine Then.n ?_
  refine WP.cond (t := nb) rfl (fun hb => ?_) (fun hb => ?_)
  · have h0 := hnb hb
    subst h0
    refine WP.seq ?_
    refine WP.region ?_
    refine WPL.q (q_as (v := .lit _) rfl) rfl ?_
    refine WPL.nilW ?_
    refine W.now ?_
    refine Then.n ?_
    refine WP.retW ?_
    refine W.cv (Cv.vir 71 rdS_huff_coin (N := 1) rfl 2 rfl) rfl ?_
    refine W.now ?_
    refine Then.r ?_
    exact ⟨trivial, _, rfl, [0, 1], (.whole 1), ((Mem.nil.push (.row 71 rdS_huff_coin ([] : List S_huff_coin))).push (.row 71 rdS_huff_coin ([] : List S_huff_coin))), ⟨rfl, ⟨⟨trivial, .inr ⟨rfl, rfl, rfl⟩⟩, .inr ⟨rfl, rfl, rfl⟩⟩, by decide, rfl, ⟨trivial, rfl⟩⟩, rfl, rfl, rfl, rfl⟩
  · refine WP.skipW ?_
    refine W.now ?_
    refine Then.n ?_
    refine WP.seq ?_
    refine WP.region ?_
    refine WPL.d (d_buildSlice (ds := ([] : List S_huff_coin)) (R := rdS_huff_coin) li69 rfl rfl rfl rfl rfl JoinRows.nil rfl rfl) rfl ?_
    refine WPL.q (q_mv (v := .whole _) rfl) rfl ?_
    refine WPL.d (d_append ap69 rfl rfl rfl rfl (src_row sl69 rfl rfl) h rfl) rfl ?_
    refine WPL.q (q_as (v := .whole _) rfl) rfl ?_
    refine WPL.nilW ?_
    refine W.now ?_
    refine Then.n ?_
    refine WP.retW ?_
    refine W.now ?_
    exact ⟨trivial, _, rfl, [0, 2], (.whole 1), ((Mem.nil.push (.row 71 rdS_huff_coin x4720)).push (.row 71 rdS_huff_coin x4720)), ⟨rfl, ⟨⟨trivial, .inr ⟨rfl, rfl, rfl⟩⟩, .inr ⟨rfl, rfl, rfl⟩⟩, by decide, rfl, ⟨trivial, rfl⟩⟩, rfl, rfl, rfl, rfl⟩
set_option maxRecDepth 100000 in
set_option maxHeartbeats 4000000 in
theorem s_slices_Grow_int_int (k : Nat) (x4758 : Int) (x4768 : (List Int)) (H : g_slices_Grow_int_int k x4758 = some x4768) : Go.Q.Spec Try.prog 32 0 [.lit (.slice none 0 0), .lit (.int .i64 x4758)] Mem.nil (fun o M => o = .ret (.whole 0) ∧ M = (Mem.nil.push (.row 3 (Rd.int .i64) x4768))) := by
  unfold g_slices_Grow_int_int at H
  refine Go.Q.Spec.of_bodyR (rs := [.tmp 4]) (nt := 27) Try.func32 rfl rfl (by intro t T h; simp at h) rfl rfl fun cx hnp => ?_
  refine WP.seq ?_
  refine WP.region ?_
  refine WPL.q (q_as (v := .lit _) rfl) rfl ?_
  refine WPL.nilW ?_
  refine W.now ?_
  refine Then.n ?_
  refine WP.seq ?_
  refine WP.seq ?_
  refine WP.region ?_
  refine WPL.q (q_mv (v := .lit (.int _ _)) rfl) rfl ?_
  refine WPL.q (q_lss rfl rfl) rfl ?_
  refine WPL.nilW ?_
  refine W.now ?_
  refine Then.n ?_
  refine WP.cond (t := (decide (x4758 < 0))) rfl (fun hb => ?_) (fun hb => ?_)
  · replace H := cnt hb H
    refine WP.region ?_
    refine WPL.q (q_mki cn9) rfl ?_
    exact nf rfl H
  · replace H := cnf hb H
    refine WP.skipW ?_
    refine W.now ?_
    refine Then.n ?_
    refine WP.seq ?_
    obtain ⟨x4772, H4775, H⟩ := bnd H
    refine WP.monoW (Q := fun x E M => x = .normal ∧ E = (Env.none.upd 0 (.whole 0)) ∧ M = (Mem.nil.push (.row 3 (Rd.int .i64) x4772))) ?_ ?_
    · clear H
      have H := H4775
      clear H4775
      refine WP.seq ?_
      refine WP.region ?_
      refine WPL.q (q_mv (v := .lit (.int _ _)) rfl) rfl ?_
      refine WPL.q (q_mv (v := .lit _) rfl) rfl ?_
      refine WPL.q (q_cap_nil Try.underlying22 rfl) rfl ?_
      refine WPL.q (q_mv (v := .lit _) rfl) rfl ?_
      refine WPL.q (q_len_nil sl22 rfl) rfl ?_
      refine WPL.q (q_sub rfl rfl) rfl ?_
      obtain ⟨x4773, h4773, H⟩ := bnd H
      refine WPL.q (q_nm (q_sub rfl rfl) (nm_int h4773)) rfl ?_
      refine WPL.q (q_as (v := .lit (.int _ _)) rfl) rfl ?_
      refine WPL.nilW ?_
      refine W.now ?_
      refine Then.n ?_
      refine WP.seq ?_
      refine WP.region ?_
      refine WPL.q (q_mv (v := .lit (.int _ _)) rfl) rfl ?_
      refine WPL.q (q_gtr rfl rfl) rfl ?_
      refine WPL.nilW ?_
      refine W.now ?_
      refine Then.n ?_
      refine WP.cond (t := (decide (0 < x4773))) rfl (fun hb => ?_) (fun hb => ?_)
      · replace H := cnt hb H
        refine WP.region ?_
        refine WPL.q (q_mv (v := .lit _) rfl) rfl ?_
        refine WPL.q (q_mv (v := .lit _) rfl) rfl ?_
        refine WPL.q (q_cap_nil Try.underlying22 rfl) rfl ?_
        refine WPL.q (q_slice_nil sl22 rfl rfl) rfl ?_
        refine WPL.q (q_mv (v := .lit (.int _ _)) rfl) rfl ?_
        obtain ⟨h4773, H⟩ := grd H
        refine WPL.d (d_appendMakeNil (d := (0 : Int)) (R := (Rd.int .i64)) li22 by3 Try.underlying3 rfl rfl rfl rfl Joins.sc rfl rfl h4773 rfl) rfl ?_
        refine WPL.q (q_mv (v := .lit _) rfl) rfl ?_
        refine WPL.q (q_len_nil sl22 rfl) rfl ?_
        obtain ⟨h4774, H⟩ := grd H
        refine WPL.d (d_cut sl22 rfl rfl rfl h4774 rfl) rfl ?_
        refine WPL.q (q_as (v := .whole _) rfl) rfl ?_
        refine WPL.nilW ?_
        refine W.cv (Cv.weak (E' := (Env.none.upd 0 (.whole 0))) (M' := (Mem.nil.push (.row 3 (Rd.int .i64) (List.take (Int.toNat 0) (List.replicate (Int.toNat x4773) (0 : Int)))))) [1] hnp ⟨rfl, ⟨trivial, .inr ⟨rfl, rfl, rfl⟩⟩, by decide, rfl, trivial⟩ (LeE.upd rfl rfl (LeE.none rfl rfl))) rfl ?_
        refine W.now ?_
        have q0 := (Option.some.inj H)
        subst q0
        exact ⟨rfl, rfl, rfl⟩
      · replace H := cnf hb H
        refine WP.skipW ?_
        refine W.cv (Cv.vir 3 (Rd.int .i64) (N := 0) rfl 0 rfl) rfl ?_
        refine W.cv (Cv.weak (E' := (Env.none.upd 0 (.whole 0))) (M' := (Mem.nil.push (.row 3 (Rd.int .i64) ([] : List Int)))) [0] hnp ⟨rfl, ⟨trivial, .inr ⟨rfl, rfl, rfl⟩⟩, by decide, rfl, trivial⟩ (LeE.upd rfl rfl (LeE.none rfl rfl))) rfl ?_
        refine W.now ?_
        have q0 := (Option.some.inj H)
        subst q0
        exact ⟨rfl, rfl, rfl⟩
    · rintro _ _ _ ⟨rfl, rfl, rfl⟩
      refine W.now ?_
      refine Then.n ?_
      refine WP.seq ?_
      refine WP.region ?_
      refine WPL.q (q_mv (v := .whole _) rfl) rfl ?_
      refine WPL.q (q_as (v := .whole _) rfl) rfl ?_
      refine WPL.nilW ?_
      refine W.now ?_
      refine Then.n ?_
      refine WP.retW ?_
      refine W.now ?_
      have q0 := (Option.some.inj H)
      subst q0
      exact ⟨trivial, _, rfl, [0], (.whole 0), (Mem.nil.push (.row 3 (Rd.int .i64) x4772)), ⟨rfl, ⟨trivial, .inr ⟨rfl, rfl, rfl⟩⟩, by decide, rfl, trivial⟩, rfl, rfl, rfl, rfl⟩
set_option maxRecDepth 100000 in
set_option maxHeartbeats 4000000 in
theorem s_slices_Concat_int_int (k : Nat) (x4742 : (List (List Int))) (x4789 : (List Int)) (H : g_slices_Concat_int_int k x4742 = some x4789) : Go.Q.Spec Try.prog 27 1 [.whole 0] (Mem.nil.push (.row 22 (Rd.slice (Rd.int .i64)) x4742)) (fun o M => o = .ret (.ro (Rd.slice (Rd.int .i64)) false x4789) ∧ M = (Mem.nil.push (.row 22 (Rd.slice (Rd.int .i64)) x4742))) := by
  unfold g_slices_Concat_int_int at H
  refine Go.Q.Spec.of_bodyR (rs := [.tmp 2]) (nt := 36) Try.func27 rfl rfl (by intro t T h; simp at h) rfl rfl fun cx hnp => ?_
  refine WP.seq ?_
  refine WP.region ?_
  refine WPL.q (q_as (v := .lit _) rfl) rfl ?_
  refine WPL.nilW ?_
  refine W.now ?_
  refine Then.n ?_
  refine WP.seq ?_
  refine WP.region ?_
  refine WPL.q (q_as (v := .lit (.int _ _)) rfl) rfl ?_
  refine WPL.nilW ?_
  refine W.now ?_
  refine Then.n ?_
  refine WP.seq ?_
  refine WP.seq ?_
  refine WP.region ?_
  refine WPL.q (q_mv (v := .whole _) rfl) rfl ?_
  refine WPL.q (q_len_row sl79 rfl rfl) rfl ?_
  refine WPL.q (q_mv (v := .lit (.int _ _)) rfl) rfl ?_
  refine WPL.nilW ?_
  refine W.now ?_
  refine Then.n ?_
  refine WP.block ?_
  refine WP.cv (Cv.weak (E' := (((((Env.none.upd 0 (.whole 0)).upd 3 (.lit (.int .i64 0))).upd 9 (.whole 0)).upd 10 (.lit (.int .i64 ((List.length x4742 : Nat) : Int)))).upd 11 (.lit (.int .i64 0)))) (M' := (Mem.nil.push (.row 22 (Rd.slice (Rd.int .i64)) x4742))) [0] hnp ⟨rfl, ⟨trivial, .inr ⟨rfl, rfl, rfl⟩⟩, by decide, rfl, ⟨trivial, rfl⟩⟩ (LeE.upd rfl rfl (LeE.upd rfl rfl (LeE.upd rfl rfl (LeE.upd rfl rfl (LeE.upd rfl rfl (LeE.none rfl rfl))))))) ?_
  obtain ⟨x4802, H4807, H⟩ := bnd H
  refine WP.monoW (Q := fun x E M => x = .exit 0 ∧ E = ((Env.none.upd 0 (.whole 0)).upd 3 (.lit (.int .i64 x4802))) ∧ M = (Mem.nil.push (.row 22 (Rd.slice (Rd.int .i64)) x4742))) ?_ ?_
  · refine WP.loop (β := Int × Int) (fun n b => g_slices_Concat_int_int_l0 k x4742 n b.1 b.2 = some x4802) (fun b => (((((Env.none.upd 0 (.whole 0)).upd 3 (.lit (.int .i64 b.1))).upd 9 (.whole 0)).upd 10 (.lit (.int .i64 ((List.length x4742 : Nat) : Int)))).upd 11 (.lit (.int .i64 b.2)))) (fun b => (Mem.nil.push (.row 22 (Rd.slice (Rd.int .i64)) x4742))) k (0, 0) H4807 rfl rfl ?_
    rintro n ⟨x4795, x4796⟩ H
    obtain _ | n := n
    · exact nf rfl H
    rw [g_slices_Concat_int_int_l0.eq_2] at H
    show WP _ _ _ _ (((((Env.none.upd 0 (.whole 0)).upd 3 (.lit (.int .i64 x4795))).upd 9 (.whole 0)).upd 10 (.lit (.int .i64 ((List.length x4742 : Nat) : Int)))).upd 11 (.lit (.int .i64 x4796))) (Mem.nil.push (.row 22 (Rd.slice (Rd.int .i64)) x4742)) _
    refine WP.seq ?_
    refine WP.region ?_
    obtain ⟨x4803, h4803, H⟩ := bnd H
    refine WPL.q (q_nm (q_lss rfl rfl) (nm_bool h4803)) rfl ?_
    refine WPL.nilW ?_
    refine W.now ?_
    refine Then.n ?_
    refine WP.seq ?_
    refine WP.cond (t := x4803) rfl (fun hb => ?_) (fun hb => ?_)
    · replace H := cnt hb H
      refine WP.skipW ?_
      refine W.now ?_
      refine Then.n ?_
      refine WP.seq ?_
      refine WP.block ?_
      refine WP.seq ?_
      refine WP.region ?_
      obtain ⟨x4806, h4806, H⟩ := bnd H
      refine WPL.q (q_index_row sl79 rfl rfl rfl (ixs h4806)) rfl ?_
      refine WPL.q (q_load_rowr (j := (Int.toNat x4796)) (n := 1) (off := 0) (d := x4806) sc22 rfl rfl (ixj h4806) rfl PartIs.self rfl) rfl ?_
      refine WPL.q (q_as (v := .ro _ _ _) rfl) rfl ?_
      refine WPL.nilW ?_
      refine W.now ?_
      refine Then.n ?_
      refine WP.seq ?_
      refine WP.region ?_
      refine WPL.q (q_mv (v := .lit (.int _ _)) rfl) rfl ?_
      refine WPL.q (q_mv (v := .ro _ _ _) rfl) rfl ?_
      refine WPL.q (q_len_ro sl22 rfl) rfl ?_
      obtain ⟨x4807, h4807, H⟩ := bnd H
      refine WPL.q (q_nm (q_add rfl rfl) (nm_int h4807)) rfl ?_
      refine WPL.q (q_as (v := .lit (.int _ _)) rfl) rfl ?_
      refine WPL.nilW ?_
      refine W.now ?_
      refine Then.n ?_
      refine WP.seq ?_
      refine WP.region ?_
      refine WPL.q (q_mv (v := .lit (.int _ _)) rfl) rfl ?_
      refine WPL.q (q_lss rfl rfl) rfl ?_
      refine WPL.nilW ?_
      refine W.now ?_
      refine Then.n ?_
      refine WP.cond (t := (decide (x4807 < 0))) rfl (fun hb => ?_) (fun hb => ?_)
      · replace H := cnt hb H
        refine WP.region ?_
        refine WPL.q (q_mki cn9) rfl ?_
        exact nf rfl H
      · replace H := cnf hb H
        refine WP.skipW ?_
        refine W.now ?_
        refine InBlock.n ?_
        refine Then.n ?_
        refine WP.region ?_
        refine WPL.q (q_add rfl rfl) rfl ?_
        refine WPL.q (q_mv (v := .lit (.int _ _)) rfl) rfl ?_
        refine WPL.nilW ?_
        refine W.cv (Cv.weak (E' := (((((Env.none.upd 0 (.whole 0)).upd 3 (.lit (.int .i64 x4807))).upd 9 (.whole 0)).upd 10 (.lit (.int .i64 ((List.length x4742 : Nat) : Int)))).upd 11 (.lit (.int .i64 (IntKind.wrap .i64 (x4796 + 1)))))) (M' := (Mem.nil.push (.row 22 (Rd.slice (Rd.int .i64)) x4742))) [0] hnp ⟨rfl, ⟨trivial, .inr ⟨rfl, rfl, rfl⟩⟩, by decide, rfl, ⟨trivial, rfl⟩⟩ (LeE.upd rfl rfl (LeE.upd rfl rfl (LeE.upd rfl rfl (LeE.upd rfl rfl (LeE.upd rfl rfl (LeE.none rfl rfl))))))) rfl ?_
        refine W.now ?_
        exact Then.n ⟨n, (x4807, (IntKind.wrap .i64 (x4796 + 1))), Nat.lt_succ_self n, H, rfl, rfl⟩
    · replace H := cnf hb H
      refine WP.exitW ?_
      refine W.cv (Cv.weak (E' := ((Env.none.upd 0 (.whole 0)).upd 3 (.lit (.int .i64 x4795)))) (M' := (Mem.nil.push (.row 22 (Rd.slice (Rd.int .i64)) x4742))) [0] hnp ⟨rfl, ⟨trivial, .inr ⟨rfl, rfl, rfl⟩⟩, by decide, rfl, ⟨trivial, rfl⟩⟩ (LeE.upd rfl rfl (LeE.upd rfl rfl (LeE.none rfl rfl)))) rfl ?_
      refine W.now ?_
      refine Then.x ?_
      refine Then.x ?_
      have q0 := (Option.some.inj H)
      subst q0
      exact ⟨rfl, rfl, rfl⟩
  · rintro _ _ _ ⟨rfl, rfl, rfl⟩
    refine W.now ?_
    refine InBlock.x0 ?_
    refine Then.n ?_
    refine WP.seq ?_
    refine WP.region ?_
    refine WPL.q (q_mv (v := .lit (.int _ _)) rfl) rfl ?_
    obtain ⟨x4810, h4808, H⟩ := bnd H
    refine WPL.c (runs_call (s := []) (t := [1]) (N := 2) (bor := []) fn32 rfl (s_slices_Grow_int_int k x4802 x4810 h4808) ⟨rfl, trivial, by decide, rfl, trivial⟩ rfl trivial (.ren rfl rfl (.ren rfl rfl .nil)) rfl ⟨trivial, rfl⟩ rfl) rfl ?_
    refine WPL.q (q_as (v := .whole _) rfl) rfl ?_
    refine WPL.nilW ?_
    refine W.now ?_
    refine Then.n ?_
    refine WP.seq ?_
    refine WP.seq ?_
    refine WP.region ?_
    refine WPL.q (q_mv (v := .whole _) rfl) rfl ?_
    refine WPL.q (q_len_row sl79 rfl rfl) rfl ?_
    refine WPL.q (q_mv (v := .lit (.int _ _)) rfl) rfl ?_
    refine WPL.nilW ?_
    refine W.now ?_
    refine Then.n ?_
    refine WP.block ?_
    refine WP.cv (Cv.weak (E' := ((((Env.none.upd 6 (.whole 1)).upd 25 (.whole 0)).upd 26 (.lit (.int .i64 ((List.length x4742 : Nat) : Int)))).upd 27 (.lit (.int .i64 0)))) (M' := ((Mem.nil.push (.row 22 (Rd.slice (Rd.int .i64)) x4742)).push (.row 3 (Rd.int .i64) x4810))) [0, 1] hnp ⟨rfl, ⟨⟨trivial, .inr ⟨rfl, rfl, rfl⟩⟩, .inr ⟨rfl, rfl, rfl⟩⟩, by decide, rfl, ⟨trivial, rfl⟩⟩ (LeE.upd rfl rfl (LeE.upd rfl rfl (LeE.upd rfl rfl (LeE.upd rfl rfl (LeE.none rfl rfl)))))) ?_
    obtain ⟨x4819, H4822, H⟩ := bnd H
    refine WP.monoW (Q := fun x E M => x = .exit 2 ∧ E = (Env.none.upd 6 (.whole 1)) ∧ M = ((Mem.nil.push (.row 22 (Rd.slice (Rd.int .i64)) x4742)).push (.row 3 (Rd.int .i64) x4819))) ?_ ?_
    · refine WP.loop (β := Int × (List Int)) (fun n b => g_slices_Concat_int_int_l1 k x4742 n b.1 b.2 = some x4819) (fun b => ((((Env.none.upd 6 (.whole 1)).upd 25 (.whole 0)).upd 26 (.lit (.int .i64 ((List.length x4742 : Nat) : Int)))).upd 27 (.lit (.int .i64 b.1)))) (fun b => ((Mem.nil.push (.row 22 (Rd.slice (Rd.int .i64)) x4742)).push (.row 3 (Rd.int .i64) b.2))) k (0, x4810) H4822 rfl rfl ?_
      rintro n ⟨x4814, x4815⟩ H
      obtain _ | n := n
      · exact nf rfl H
      rw [g_slices_Concat_int_int_l1.eq_2] at H
      show WP _ _ _ _ ((((Env.none.upd 6 (.whole 1)).upd 25 (.whole 0)).upd 26 (.lit (.int .i64 ((List.length x4742 : Nat) : Int)))).upd 27 (.lit (.int .i64 x4814))) ((Mem.nil.push (.row 22 (Rd.slice (Rd.int .i64)) x4742)).push (.row 3 (Rd.int .i64) x4815)) _
      refine WP.seq ?_
      refine WP.region ?_
      obtain ⟨x4820, h4820, H⟩ := bnd H
      refine WPL.q (q_nm (q_lss rfl rfl) (nm_bool h4820)) rfl ?_
      refine WPL.nilW ?_
      refine W.now ?_
      refine Then.n ?_
      refine WP.seq ?_
      refine WP.cond (t := x4820) rfl (fun hb => ?_) (fun hb => ?_)
      · replace H := cnt hb H
        refine WP.skipW ?_
        refine W.now ?_
        refine Then.n ?_
        refine WP.seq ?_
        refine WP.block ?_
        refine WP.seq ?_
        refine WP.region ?_
        obtain ⟨x4821, h4821, H⟩ := bnd H
        refine WPL.q (q_index_row sl79 rfl rfl rfl (ixs h4821)) rfl ?_
        refine WPL.q (q_load_rowr (j := (Int.toNat x4814)) (n := 1) (off := 0) (d := x4821) sc22 rfl rfl (ixj h4821) rfl PartIs.self rfl) rfl ?_
        refine WPL.q (q_as (v := .ro _ _ _) rfl) rfl ?_
        refine WPL.nilW ?_
        refine W.now ?_
        refine Then.n ?_
        refine WP.region ?_
        refine WPL.q (q_mv (v := .whole _) rfl) rfl ?_
        refine WPL.q (q_mv (v := .ro _ _ _) rfl) rfl ?_
        obtain ⟨h4821, H⟩ := grd H
        refine WPL.d (d_append ap22 rfl rfl rfl rfl (src_ro sl22 rfl) h4821 rfl) rfl ?_
        refine WPL.q (q_as (v := .whole _) rfl) rfl ?_
        refine WPL.nilW ?_
        refine W.now ?_
        refine InBlock.n ?_
        refine Then.n ?_
        refine WP.region ?_
        refine WPL.q (q_add rfl rfl) rfl ?_
        refine WPL.q (q_mv (v := .lit (.int _ _)) rfl) rfl ?_
        refine WPL.nilW ?_
        refine W.cv (Cv.weak (E' := ((((Env.none.upd 6 (.whole 1)).upd 25 (.whole 0)).upd 26 (.lit (.int .i64 ((List.length x4742 : Nat) : Int)))).upd 27 (.lit (.int .i64 (IntKind.wrap .i64 (x4814 + 1)))))) (M' := ((Mem.nil.push (.row 22 (Rd.slice (Rd.int .i64)) x4742)).push (.row 3 (Rd.int .i64) (x4815 ++ x4821)))) [0, 2] hnp ⟨rfl, ⟨⟨trivial, .inr ⟨rfl, rfl, rfl⟩⟩, .inr ⟨rfl, rfl, rfl⟩⟩, by decide, rfl, ⟨trivial, rfl⟩⟩ (LeE.upd rfl rfl (LeE.upd rfl rfl (LeE.upd rfl rfl (LeE.upd rfl rfl (LeE.none rfl rfl)))))) rfl ?_
        refine W.now ?_
        exact Then.n ⟨n, ((IntKind.wrap .i64 (x4814 + 1)), (x4815 ++ x4821)), Nat.lt_succ_self n, H, rfl, rfl⟩
      · replace H := cnf hb H
        refine WP.exitW ?_
        refine W.cv (Cv.weak (E' := (Env.none.upd 6 (.whole 1))) (M' := ((Mem.nil.push (.row 22 (Rd.slice (Rd.int .i64)) x4742)).push (.row 3 (Rd.int .i64) x4815))) [0, 1] hnp ⟨rfl, ⟨⟨trivial, .inr ⟨rfl, rfl, rfl⟩⟩, .inr ⟨rfl, rfl, rfl⟩⟩, by decide, rfl, ⟨trivial, rfl⟩⟩ (LeE.upd rfl rfl (LeE.none rfl rfl))) rfl ?_
        refine W.now ?_
        refine Then.x ?_
        refine Then.x ?_
        have q0 := (Option.some.inj H)
        subst q0
        exact ⟨rfl, rfl, rfl⟩
    · rintro _ _ _ ⟨rfl, rfl, rfl⟩
      refine W.now ?_
      refine InBlock.x0 ?_
      refine Then.n ?_
      refine WP.seq ?_
      refine WP.region ?_
      refine WPL.q (q_mv (v := .whole _) rfl) rfl ?_
      refine WPL.q (q_as (v := .whole _) rfl) rfl ?_
      refine WPL.nilW ?_
      refine W.now ?_
      refine Then.n ?_
      refine WP.retW ?_
      refine W.cv (Cv.frzRow (i := 1) rfl rfl hnp rfl rfl) rfl ?_
      refine W.now ?_
      have q0 := (Option.some.inj H)
      subst q0
      exact ⟨trivial, _, rfl, [0], (.ro (Rd.slice (Rd.int .i64)) false x4819), (Mem.nil.push (.row 22 (Rd.slice (Rd.int .i64)) x4742)), ⟨rfl, ⟨trivial, .inr ⟨rfl, rfl, rfl⟩⟩, by decide, rfl, ⟨trivial, rfl⟩⟩, rfl, rfl, rfl, rfl⟩
set_option maxRecDepth 100000 in
set_option maxHeartbeats 4000000 in
theorem s_huff_Lengths (k : Nat) (x2363 : (List Int)) (x2364 : Int) (x4957 : (List Int)) (x4958 : Int) (H : g_huff_Lengths k x2363 x2364 = some (x4957, x4958)) : Go.Q.Spec Try.prog 16 0 [.ro (Rd.slice (Rd.int .i64)) true x2363, .lit (.int .i64 x2364)] Mem.nil (fun o M => o = .ret (.tup [.ro (Rd.slice (Rd.int .i64)) false x4957, .lit (.int .i64 x4958)]) ∧ M = Mem.nil) := by
  unfold g_huff_Lengths at H
  refine Go.Q.Spec.of_bodyR (rs := [.tmp 4, .tmp 5]) (nt := 146) Try.func16 rfl rfl (by intro t T h; simp at h) rfl rfl fun cx hnp => ?_
  refine WP.seq ?_
  refine WP.region ?_
  refine WPL.q (q_as (v := .lit _) rfl) rfl ?_
  refine WPL.q (q_as (v := .lit (.int _ _)) rfl) rfl ?_
  refine WPL.nilW ?_
  refine W.now ?_
  refine Then.n ?_
  refine WP.seq ?_
  refine WP.region ?_
  refine WPL.q (q_as (v := .lit _) rfl) rfl ?_
  refine WPL.nilW ?_
  refine W.now ?_
  refine Then.n ?_
  refine WP.seq ?_
  refine WP.seq ?_
  obtain ⟨x4970, H4973, H⟩ := bnd H
  refine WP.monoW (Q := fun x E M => x = .normal ∧ E = ((((Env.none.upd 0 (.ro (Rd.slice (Rd.int .i64)) true x2363)).upd 1 (.lit (.int .i64 x2364))).upd 6 (.lit (.slice none 0 0))).upd 27 (.lit (.bool x4970))) ∧ M = Mem.nil) ?_ ?_
  · clear H
    have H := H4973
    clear H4973
    refine WP.region ?_
    refine WPL.q (q_mv (v := .ro _ _ _) rfl) rfl ?_
    refine WPL.q (q_len_ro sl22 rfl) rfl ?_
    obtain ⟨x4971, h4971, H⟩ := bnd H
    refine WPL.q (q_nm (q_gtr rfl rfl) (nm_bool h4971)) rfl ?_
    refine WPL.q (q_mv (v := .lit (.bool _)) rfl) rfl ?_
    refine WPL.split (t := 20) (b := x4971) rfl (fun hb4971 => ?_) (fun hb4971 => ?_)
    · replace H := cnt hb4971 H
      refine WPL.skipg (b' := true) rfl rfl (lb hb4971) rfl rfl ?_
      refine WPL.skipg (b' := true) rfl rfl (lb hb4971) rfl rfl ?_
      refine WPL.q (q_pickT (v := .lit (.bool _)) (lb hb4971) rfl) rfl ?_
      refine WPL.q (q_mv (v := .lit (.bool _)) rfl) rfl ?_
      refine WPL.skipg (b' := true) rfl rfl rfl rfl rfl ?_
      refine WPL.skipg (b' := true) rfl rfl rfl rfl rfl ?_
      refine WPL.q (q_pickT (v := .lit (.bool _)) rfl rfl) rfl ?_
      refine WPL.nilW ?_
      refine W.cv (Cv.weak (E' := ((((Env.none.upd 0 (.ro (Rd.slice (Rd.int .i64)) true x2363)).upd 1 (.lit (.int .i64 x2364))).upd 6 (.lit (.slice none 0 0))).upd 27 (.lit (.bool true)))) (M' := Mem.nil) [] hnp ⟨rfl, trivial, by decide, rfl, trivial⟩ (LeE.upd rfl rfl (LeE.upd rfl rfl (LeE.upd rfl rfl (LeE.upd rfl rfl (LeE.none rfl rfl)))))) rfl ?_
      refine W.now ?_
      have q0 := (Option.some.inj H)
      subst q0
      exact ⟨rfl, rfl, rfl⟩
    · replace H := cnf hb4971 H
      refine WPL.qg rfl rfl (lb hb4971) (q_mv (v := .lit (.int _ _)) rfl) rfl ?_
      refine WPL.qg rfl rfl (lb hb4971) (q_lss rfl rfl) rfl ?_
      refine WPL.q (q_pickF (v := .lit (.bool _)) (lb hb4971) rfl) rfl ?_
      refine WPL.q (q_mv (v := .lit (.bool _)) rfl) rfl ?_
      refine WPL.split (t := 24) (b := (decide (x2364 < 1))) rfl (fun hb4972 => ?_) (fun hb4972 => ?_)
      · replace H := cnt hb4972 H
        refine WPL.skipg (b' := true) rfl rfl (lb hb4972) rfl rfl ?_
        refine WPL.skipg (b' := true) rfl rfl (lb hb4972) rfl rfl ?_
        refine WPL.q (q_pickT (v := .lit (.bool _)) (lb hb4972) rfl) rfl ?_
        refine WPL.nilW ?_
        refine W.cv (Cv.weak (E' := ((((Env.none.upd 0 (.ro (Rd.slice (Rd.int .i64)) true x2363)).upd 1 (.lit (.int .i64 x2364))).upd 6 (.lit (.slice none 0 0))).upd 27 (.lit (.bool true)))) (M' := Mem.nil) [] hnp ⟨rfl, trivial, by decide, rfl, trivial⟩ (LeE.upd rfl rfl (LeE.upd rfl rfl (LeE.upd rfl rfl (LeE.upd rfl rfl (LeE.none rfl rfl)))))) rfl ?_
        refine W.now ?_
        have q0 := (Option.some.inj H)
        subst q0
        exact ⟨rfl, rfl, rfl⟩
      · replace H := cnf hb4972 H
        refine WPL.qg rfl rfl (lb hb4972) (q_mv (v := .lit (.int _ _)) rfl) rfl ?_
        refine WPL.qg rfl rfl (lb hb4972) (q_gtr rfl rfl) rfl ?_
        refine WPL.q (q_pickF (v := .lit (.bool _)) (lb hb4972) rfl) rfl ?_
        refine WPL.nilW ?_
        refine W.cv (Cv.weak (E' := ((((Env.none.upd 0 (.ro (Rd.slice (Rd.int .i64)) true x2363)).upd 1 (.lit (.int .i64 x2364))).upd 6 (.lit (.slice none 0 0))).upd 27 (.lit (.bool (decide (15 < x2364)))))) (M' := Mem.nil) [] hnp ⟨rfl, trivial, by decide, rfl, trivial⟩ (LeE.upd rfl rfl (LeE.upd rfl rfl (LeE.upd rfl rfl (LeE.upd rfl rfl (LeE.none rfl rfl)))))) rfl ?_
        refine W.now ?_
        have q0 := (Option.some.inj H)
        subst q0
        exact ⟨rfl, rfl, rfl⟩
  · rintro _ _ _ ⟨rfl, rfl, rfl⟩
    refine W.now ?_
    refine Then.n ?_
    refine WP.cond (t := x4970) rfl (fun hb => ?_) (fun hb => ?_)
    · replace H := cnt hb H
      refine WP.seq ?_
      refine WP.region ?_
      refine WPL.q (q_as (v := .lit _) rfl) rfl ?_
      refine WPL.q (q_as (v := .lit (.int _ _)) rfl) rfl ?_
      refine WPL.nilW ?_
      refine W.now ?_
      refine Then.n ?_
      refine WP.retW ?_
      refine W.cv (Cv.nilRo (Rd.int .i64) false 4 rfl) rfl ?_
      refine W.now ?_
      refine Then.r ?_
      have q0 := (Prod.mk.inj (Option.some.inj H)).1
      have q1 := (Prod.mk.inj (Option.some.inj H)).2
      subst q0
      subst q1
      exact ⟨trivial, _, rfl, [], (.tup [.ro (Rd.slice (Rd.int .i64)) false ([] : List Int), .lit (.int .i64 1)]), Mem.nil, ⟨rfl, trivial, by decide, rfl, trivial⟩, rfl, rfl, rfl, rfl⟩
    · replace H := cnf hb H
      refine WP.skipW ?_
      refine W.now ?_
      refine Then.n ?_
      refine WP.seq ?_
      refine WP.seq ?_
      refine WP.region ?_
      refine WPL.q (q_mv (v := .ro _ _ _) rfl) rfl ?_
      refine WPL.q (q_len_ro sl22 rfl) rfl ?_
      refine WPL.q (q_mv (v := .lit (.int _ _)) rfl) rfl ?_
      refine WPL.nilW ?_
      refine W.now ?_
      refine Then.n ?_
      refine WP.block ?_
      refine WP.cv (Cv.vir 71 rdS_huff_coin (N := 0) rfl 6 rfl) ?_
      refine WP.cv (Cv.weak (E' := ((((((Env.none.upd 0 (.ro (Rd.slice (Rd.int .i64)) true x2363)).upd 1 (.lit (.int .i64 x2364))).upd 6 (.whole 0)).upd 28 (.ro (Rd.slice (Rd.int .i64)) true x2363)).upd 29 (.lit (.int .i64 ((List.length x2363 : Nat) : Int)))).upd 30 (.lit (.int .i64 0)))) (M' := (Mem.nil.push (.row 71 rdS_huff_coin ([] : List S_huff_coin)))) [0] hnp ⟨rfl, ⟨trivial, .inr ⟨rfl, rfl, rfl⟩⟩, by decide, rfl, trivial⟩ (LeE.upd rfl rfl (LeE.upd rfl rfl (LeE.upd rfl rfl (LeE.upd rfl rfl (LeE.upd rfl rfl (LeE.upd rfl rfl (LeE.none rfl rfl)))))))) ?_
      obtain ⟨y5075, H5073, H⟩ := bnd H
      refine WP.monoW (Q := fun x E M => match (generalizing := false) y5075 with | (Sum.inl _) => x = .ret ∧ E = ((Env.none.upd 4 (.lit (.slice none 0 0))).upd 5 (.lit (.int .i64 1))) ∧ M = Mem.nil | (Sum.inr x5049) => x = .exit 0 ∧ E = (((Env.none.upd 0 (.ro (Rd.slice (Rd.int .i64)) true x2363)).upd 1 (.lit (.int .i64 x2364))).upd 6 (.whole 0)) ∧ M = (Mem.nil.push (.row 71 rdS_huff_coin x5049))) ?_ ?_
      · refine WP.loop (β := Int × (List S_huff_coin)) (fun n b => g_huff_Lengths_l0 k x2363 n b.1 b.2 = some y5075) (fun b => ((((((Env.none.upd 0 (.ro (Rd.slice (Rd.int .i64)) true x2363)).upd 1 (.lit (.int .i64 x2364))).upd 6 (.whole 0)).upd 28 (.ro (Rd.slice (Rd.int .i64)) true x2363)).upd 29 (.lit (.int .i64 ((List.length x2363 : Nat) : Int)))).upd 30 (.lit (.int .i64 b.1)))) (fun b => (Mem.nil.push (.row 71 rdS_huff_coin b.2))) k (0, ([] : List S_huff_coin)) H5073 rfl rfl ?_
        rintro n ⟨x5023, x5024⟩ H
        obtain _ | n := n
        · exact nf rfl H
        rw [g_huff_Lengths_l0.eq_2] at H
        show WP _ _ _ _ ((((((Env.none.upd 0 (.ro (Rd.slice (Rd.int .i64)) true x2363)).upd 1 (.lit (.int .i64 x2364))).upd 6 (.whole 0)).upd 28 (.ro (Rd.slice (Rd.int .i64)) true x2363)).upd 29 (.lit (.int .i64 ((List.length x2363 : Nat) : Int)))).upd 30 (.lit (.int .i64 x5023))) (Mem.nil.push (.row 71 rdS_huff_coin x5024)) _
        refine WP.seq ?_
        refine WP.region ?_
        obtain ⟨x5050, h5050, H⟩ := bnd H
        refine WPL.q (q_nm (q_lss rfl rfl) (nm_bool h5050)) rfl ?_
        refine WPL.nilW ?_
        refine W.now ?_
        refine Then.n ?_
        refine WP.seq ?_
        refine WP.cond (t := x5050) rfl (fun hb => ?_) (fun hb => ?_)
        · replace H := cnt hb H
          refine WP.skipW ?_
          refine W.now ?_
          refine Then.n ?_
          refine WP.seq ?_
          obtain ⟨y5073, H5071, H⟩ := bnd H
          refine WP.monoW (Q := fun x E M => match (generalizing := false) y5073 with | (Sum.inl _) => x = .ret ∧ E = ((Env.none.upd 4 (.lit (.slice none 0 0))).upd 5 (.lit (.int .i64 1))) ∧ M = Mem.nil | (Sum.inr x5061) => x = .normal ∧ E = ((((((Env.none.upd 0 (.ro (Rd.slice (Rd.int .i64)) true x2363)).upd 1 (.lit (.int .i64 x2364))).upd 6 (.whole 0)).upd 28 (.ro (Rd.slice (Rd.int .i64)) true x2363)).upd 29 (.lit (.int .i64 ((List.length x2363 : Nat) : Int)))).upd 30 (.lit (.int .i64 x5023))) ∧ M = (Mem.nil.push (.row 71 rdS_huff_coin x5061))) ?_ ?_
          · clear H
            have H := H5071
            clear H5071
            refine WP.block ?_
            refine WP.seq ?_
            refine WP.region ?_
            refine WPL.q (q_mv (v := .lit (.int _ _)) rfl) rfl ?_
            obtain ⟨x5062, h5062, H⟩ := bnd H
            refine WPL.q (q_index_ro sl22 rfl rfl rfl h5062) rfl ?_
            refine WPL.q (q_load_sc sc3 rfl) rfl ?_
            refine WPL.q (q_as (v := .lit (.int _ _)) rfl) rfl ?_
            refine WPL.q (q_as (v := .lit (.int _ _)) rfl) rfl ?_
            refine WPL.nilW ?_
            refine W.now ?_
            refine Then.n ?_
            refine WP.seq ?_
            refine WP.seq ?_
            obtain ⟨x5068, H5069, H⟩ := bnd H
            refine WP.monoW (Q := fun x E M => x = .normal ∧ E = (((((((((Env.none.upd 0 (.ro (Rd.slice (Rd.int .i64)) true x2363)).upd 1 (.lit (.int .i64 x2364))).upd 6 (.whole 0)).upd 7 (.lit (.int .i64 x5023))).upd 8 (.lit (.int .i64 x5062))).upd 28 (.ro (Rd.slice (Rd.int .i64)) true x2363)).upd 29 (.lit (.int .i64 ((List.length x2363 : Nat) : Int)))).upd 30 (.lit (.int .i64 x5023))).upd 40 (.lit (.bool x5068))) ∧ M = (Mem.nil.push (.row 71 rdS_huff_coin x5024))) ?_ ?_
            · clear H
              have H := H5069
              clear H5069
              refine WP.region ?_
              refine WPL.q (q_mv (v := .lit (.int _ _)) rfl) rfl ?_
              refine WPL.q (q_lss rfl rfl) rfl ?_
              refine WPL.q (q_mv (v := .lit (.bool _)) rfl) rfl ?_
              refine WPL.split (t := 37) (b := (decide (x5062 < 0))) rfl (fun hb5068 => ?_) (fun hb5068 => ?_)
              · replace H := cnt hb5068 H
                refine WPL.skipg (b' := true) rfl rfl (lb hb5068) rfl rfl ?_
                refine WPL.skipg (b' := true) rfl rfl (lb hb5068) rfl rfl ?_
                refine WPL.q (q_pickT (v := .lit (.bool _)) (lb hb5068) rfl) rfl ?_
                refine WPL.nilW ?_
                refine W.cv (Cv.weak (E' := (((((((((Env.none.upd 0 (.ro (Rd.slice (Rd.int .i64)) true x2363)).upd 1 (.lit (.int .i64 x2364))).upd 6 (.whole 0)).upd 7 (.lit (.int .i64 x5023))).upd 8 (.lit (.int .i64 x5062))).upd 28 (.ro (Rd.slice (Rd.int .i64)) true x2363)).upd 29 (.lit (.int .i64 ((List.length x2363 : Nat) : Int)))).upd 30 (.lit (.int .i64 x5023))).upd 40 (.lit (.bool true)))) (M' := (Mem.nil.push (.row 71 rdS_huff_coin x5024))) [0] hnp ⟨rfl, ⟨trivial, .inr ⟨rfl, rfl, rfl⟩⟩, by decide, rfl, trivial⟩ (LeE.upd rfl rfl (LeE.upd rfl rfl (LeE.upd rfl rfl (LeE.upd rfl rfl (LeE.upd rfl rfl (LeE.upd rfl rfl (LeE.upd rfl rfl (LeE.upd rfl rfl (LeE.upd rfl rfl (LeE.none rfl rfl))))))))))) rfl ?_
                refine W.now ?_
                have q0 := (Option.some.inj H)
                subst q0
                exact ⟨rfl, rfl, rfl⟩
              · replace H := cnf hb5068 H
                refine WPL.qg rfl rfl (lb hb5068) (q_mv (v := .lit (.int _ _)) rfl) rfl ?_
                refine WPL.qg rfl rfl (lb hb5068) (q_gtr rfl rfl) rfl ?_
                refine WPL.q (q_pickF (v := .lit (.bool _)) (lb hb5068) rfl) rfl ?_
                refine WPL.nilW ?_
                refine W.cv (Cv.weak (E' := (((((((((Env.none.upd 0 (.ro (Rd.slice (Rd.int .i64)) true x2363)).upd 1 (.lit (.int .i64 x2364))).upd 6 (.whole 0)).upd 7 (.lit (.int .i64 x5023))).upd 8 (.lit (.int .i64 x5062))).upd 28 (.ro (Rd.slice (Rd.int .i64)) true x2363)).upd 29 (.lit (.int .i64 ((List.length x2363 : Nat) : Int)))).upd 30 (.lit (.int .i64 x5023))).upd 40 (.lit (.bool (decide (1073741824 < x5062)))))) (M' := (Mem.nil.push (.row 71 rdS_huff_coin x5024))) [0] hnp ⟨rfl, ⟨trivial, .inr ⟨rfl, rfl, rfl⟩⟩, by decide, rfl, trivial⟩ (LeE.upd rfl rfl (LeE.upd rfl rfl (LeE.upd rfl rfl (LeE.upd rfl rfl (LeE.upd rfl rfl (LeE.upd rfl rfl (LeE.upd rfl rfl (LeE.upd rfl rfl (LeE.upd rfl rfl (LeE.none rfl rfl))))))))))) rfl ?_
                refine W.now ?_
                have q0 := (Option.some.inj H)
                subst q0
                exact ⟨rfl, rfl, rfl⟩
            · rintro _ _ _ ⟨rfl, rfl, rfl⟩
              refine W.now ?_
              refine Then.n ?_
              refine WP.cond (t := x5068) rfl (fun hb => ?_) (fun hb => ?_)
              · replace H := cnt hb H
                refine WP.seq ?_
                refine WP.region ?_
                refine WPL.q (q_as (v := .lit _) rfl) rfl ?_
                refine WPL.q (q_as (v := .lit (.int _ _)) rfl) rfl ?_
                refine WPL.nilW ?_
                refine W.now ?_
                refine Then.n ?_
                refine WP.retW ?_
                refine W.cv (Cv.weak (E' := ((Env.none.upd 4 (.lit (.slice none 0 0))).upd 5 (.lit (.int .i64 1)))) (M' := Mem.nil) [] hnp ⟨rfl, trivial, by decide, rfl, trivial⟩ (LeE.upd rfl rfl (LeE.upd rfl rfl (LeE.none rfl rfl)))) rfl ?_
                refine W.now ?_
                refine Then.r ?_
                refine InBlock.r ?_
                have q0 := Option.some.inj H
                subst q0
                exact ⟨rfl, rfl, rfl⟩
              · replace H := cnf hb H
                refine WP.skipW ?_
                refine W.now ?_
                refine Then.n ?_
                refine WP.seq ?_
                refine WP.region ?_
                refine WPL.q (q_mv (v := .lit (.int _ _)) rfl) rfl ?_
                refine WPL.q (q_gtr rfl rfl) rfl ?_
                refine WPL.nilW ?_
                refine W.now ?_
                refine Then.n ?_
                refine WP.cond (t := (decide (0 < x5062))) rfl (fun hb => ?_) (fun hb => ?_)
                · replace H := cnt hb H
                  refine WP.region ?_
                  refine WPL.q (q_mv (v := .whole _) rfl) rfl ?_
                  refine WPL.q (q_mv (v := .lit (.int _ _)) rfl) rfl ?_
                  refine WPL.q (q_mv (v := .lit (.int _ _)) rfl) rfl ?_
                  refine WPL.d (d_buildSlice (ds := ([x5023] : List Int)) (R := (Rd.int .i64)) li22 rfl rfl rfl rfl rfl (JoinRows.cons1 Joins.sc rfl JoinRows.nil) rfl rfl) rfl ?_
                  refine WPL.q (q_build bu71 rfl) rfl ?_
                  refine WPL.cv (Cv.frzRow (i := 1) rfl rfl hnp rfl rfl) ?_
                  refine WPL.d (d_buildSlice (ds := ([(⟨x5062, ([x5023] : List Int)⟩ : S_huff_coin)] : List S_huff_coin)) (R := rdS_huff_coin) li69 rfl rfl rfl rfl rfl (JoinRows.cons (l := [.lit (.int .i64 x5062), .ro (Rd.slice (Rd.int .i64)) false ([x5023] : List Int)]) (Joins.via (Joins.cons Joins.sc (Joins.cons Joins.one Joins.unit))) rfl JoinRows.nil) rfl rfl) rfl ?_
                  obtain ⟨h5070, H⟩ := grd H
                  refine WPL.d (d_append ap69 rfl rfl rfl rfl (src_row sl69 rfl rfl) h5070 rfl) rfl ?_
                  refine WPL.q (q_as (v := .whole _) rfl) rfl ?_
                  refine WPL.nilW ?_
                  refine W.cv (Cv.weak (E' := ((((((Env.none.upd 0 (.ro (Rd.slice (Rd.int .i64)) true x2363)).upd 1 (.lit (.int .i64 x2364))).upd 6 (.whole 0)).upd 28 (.ro (Rd.slice (Rd.int .i64)) true x2363)).upd 29 (.lit (.int .i64 ((List.length x2363 : Nat) : Int)))).upd 30 (.lit (.int .i64 x5023)))) (M' := (Mem.nil.push (.row 71 rdS_huff_coin (x5024 ++ ([(⟨x5062, ([x5023] : List Int)⟩ : S_huff_coin)] : List S_huff_coin))))) [3] hnp ⟨rfl, ⟨trivial, .inr ⟨rfl, rfl, rfl⟩⟩, by decide, rfl, trivial⟩ (LeE.upd rfl rfl (LeE.upd rfl rfl (LeE.upd rfl rfl (LeE.upd rfl rfl (LeE.upd rfl rfl (LeE.upd rfl rfl (LeE.none rfl rfl)))))))) rfl ?_
                  refine W.now ?_
                  refine InBlock.n ?_
                  have q0 := Option.some.inj H
                  subst q0
                  exact ⟨rfl, rfl, rfl⟩
                · replace H := cnf hb H
                  refine WP.skipW ?_
                  refine W.cv (Cv.weak (E' := ((((((Env.none.upd 0 (.ro (Rd.slice (Rd.int .i64)) true x2363)).upd 1 (.lit (.int .i64 x2364))).upd 6 (.whole 0)).upd 28 (.ro (Rd.slice (Rd.int .i64)) true x2363)).upd 29 (.lit (.int .i64 ((List.length x2363 : Nat) : Int)))).upd 30 (.lit (.int .i64 x5023)))) (M' := (Mem.nil.push (.row 71 rdS_huff_coin x5024))) [0] hnp ⟨rfl, ⟨trivial, .inr ⟨rfl, rfl, rfl⟩⟩, by decide, rfl, trivial⟩ (LeE.upd rfl rfl (LeE.upd rfl rfl (LeE.upd rfl rfl (LeE.upd rfl rfl (LeE.upd rfl rfl (LeE.upd rfl rfl (LeE.none rfl rfl)))))))) rfl ?_
                  refine W.now ?_
                  refine InBlock.n ?_
                  have q0 := Option.some.inj H
                  subst q0
                  exact ⟨rfl, rfl, rfl⟩
          · rcases y5073 with _ | x5061
            · rintro _ _ _ ⟨rfl, rfl, rfl⟩
              refine W.cv (Cv.weak (E' := ((Env.none.upd 4 (.lit (.slice none 0 0))).upd 5 (.lit (.int .i64 1)))) (M' := Mem.nil) [] hnp ⟨rfl, trivial, by decide, rfl, trivial⟩ (LeE.upd rfl rfl (LeE.upd rfl rfl (LeE.none rfl rfl)))) rfl ?_
              refine W.now ?_
              refine Then.r ?_
              refine Then.r ?_
              have q0 := Option.some.inj H
              subst q0
              exact ⟨rfl, rfl, rfl⟩
            · rintro _ _ _ ⟨rfl, rfl, rfl⟩
              refine W.now ?_
              refine Then.n ?_
              refine WP.region ?_
              refine WPL.q (q_add rfl rfl) rfl ?_
              refine WPL.q (q_mv (v := .lit (.int _ _)) rfl) rfl ?_
              refine WPL.nilW ?_
              refine W.cv (Cv.weak (E' := ((((((Env.none.upd 0 (.ro (Rd.slice (Rd.int .i64)) true x2363)).upd 1 (.lit (.int .i64 x2364))).upd 6 (.whole 0)).upd 28 (.ro (Rd.slice (Rd.int .i64)) true x2363)).upd 29 (.lit (.int .i64 ((List.length x2363 : Nat) : Int)))).upd 30 (.lit (.int .i64 (IntKind.wrap .i64 (x5023 + 1)))))) (M' := (Mem.nil.push (.row 71 rdS_huff_coin x5061))) [0] hnp ⟨rfl, ⟨trivial, .inr ⟨rfl, rfl, rfl⟩⟩, by decide, rfl, trivial⟩ (LeE.upd rfl rfl (LeE.upd rfl rfl (LeE.upd rfl rfl (LeE.upd rfl rfl (LeE.upd rfl rfl (LeE.upd rfl rfl (LeE.none rfl rfl)))))))) rfl ?_
              refine W.now ?_
              exact Then.n ⟨n, ((IntKind.wrap .i64 (x5023 + 1)), x5061), Nat.lt_succ_self n, H, rfl, rfl⟩
        · replace H := cnf hb H
          refine WP.exitW ?_
          refine W.cv (Cv.weak (E' := (((Env.none.upd 0 (.ro (Rd.slice (Rd.int .i64)) true x2363)).upd 1 (.lit (.int .i64 x2364))).upd 6 (.whole 0))) (M' := (Mem.nil.push (.row 71 rdS_huff_coin x5024))) [0] hnp ⟨rfl, ⟨trivial, .inr ⟨rfl, rfl, rfl⟩⟩, by decide, rfl, trivial⟩ (LeE.upd rfl rfl (LeE.upd rfl rfl (LeE.upd rfl rfl (LeE.none rfl rfl))))) rfl ?_
          refine W.now ?_
          refine Then.x ?_
          refine Then.x ?_
          have q0 := Option.some.inj H
          subst q0
          exact ⟨rfl, rfl, rfl⟩
      · rcases y5075 with _ | x5049
        · rintro _ _ _ ⟨rfl, rfl, rfl⟩
          refine W.cv (Cv.nilRo (Rd.int .i64) false 4 rfl) rfl ?_
          refine W.now ?_
          refine InBlock.r ?_
          refine Then.r ?_
          have q0 := (Prod.mk.inj (Option.some.inj H)).1
          have q1 := (Prod.mk.inj (Option.some.inj H)).2
          subst q0
          subst q1
          exact ⟨trivial, _, rfl, [], (.tup [.ro (Rd.slice (Rd.int .i64)) false ([] : List Int), .lit (.int .i64 1)]), Mem.nil, ⟨rfl, trivial, by decide, rfl, trivial⟩, rfl, rfl, rfl, rfl⟩
        · rintro _ _ _ ⟨rfl, rfl, rfl⟩
          refine W.now ?_
          refine InBlock.x0 ?_
          refine Then.n ?_
          refine WP.seq ?_
          refine WP.seq ?_
          refine WP.region ?_
          refine WPL.q (q_mv (v := .whole _) rfl) rfl ?_
          refine WPL.q (q_len_row sl69 rfl rfl) rfl ?_
          refine WPL.q (q_mv (v := .lit (.int _ _)) rfl) rfl ?_
          obtain ⟨h5077, H⟩ := grd H
          refine WPL.q (q_shl rfl rfl h5077) rfl ?_
          obtain ⟨x5079, h5079, H⟩ := bnd H
          refine WPL.q (q_nm (q_gtr rfl rfl) (nm_bool h5079)) rfl ?_
          refine WPL.nilW ?_
          refine W.now ?_
          refine Then.n ?_
          refine WP.cond (t := x5079) rfl (fun hb => ?_) (fun hb => ?_)
          · replace H := cnt hb H
            refine WP.seq ?_
            refine WP.region ?_
            refine WPL.q (q_as (v := .lit _) rfl) rfl ?_
            refine WPL.q (q_as (v := .lit (.int _ _)) rfl) rfl ?_
            refine WPL.nilW ?_
            refine W.now ?_
            refine Then.n ?_
            refine WP.retW ?_
            refine W.cv (Cv.nilRo (Rd.int .i64) false 4 rfl) rfl ?_
            refine W.now ?_
            refine Then.r ?_
            have q0 := (Prod.mk.inj (Option.some.inj H)).1
            have q1 := (Prod.mk.inj (Option.some.inj H)).2
            subst q0
            subst q1
            exact ⟨trivial, _, rfl, [], (.tup [.ro (Rd.slice (Rd.int .i64)) false ([] : List Int), .lit (.int .i64 1)]), Mem.nil, ⟨rfl, trivial, by decide, rfl, trivial⟩, rfl, rfl, rfl, rfl⟩
          · replace H := cnf hb H
            refine WP.skipW ?_
            refine W.now ?_
            refine Then.n ?_
            refine WP.seq ?_
            refine WP.region ?_
            refine WPL.q (q_mv (v := .ro _ _ _) rfl) rfl ?_
            refine WPL.q (q_len_ro sl22 rfl) rfl ?_
            obtain ⟨h5079, H⟩ := grd H
            refine WPL.d (d_make (d := (0 : Int)) (R := (Rd.int .i64)) li22 by3 rfl rfl rfl Joins.sc rfl rfl h5079 rfl) rfl ?_
            refine WPL.q (q_as (v := .whole _) rfl) rfl ?_
            refine WPL.nilW ?_
            refine W.now ?_
            refine Then.n ?_
            refine WP.seq ?_
            refine WP.seq ?_
            refine WP.region ?_
            refine WPL.q (q_mv (v := .whole _) rfl) rfl ?_
            refine WPL.q (q_len_row sl69 rfl rfl) rfl ?_
            obtain ⟨x5085, h5085, H⟩ := bnd H
            refine WPL.q (q_nm (q_eql rfl rfl) (nm_bool h5085)) rfl ?_
            refine WPL.nilW ?_
            refine W.now ?_
            refine Then.n ?_
            refine WP.cond (t := x5085) rfl (fun hb => ?_) (fun hb => ?_)
            · replace H := cnt hb H
              refine WP.seq ?_
              refine WP.region ?_
              refine WPL.q (q_mv (v := .whole _) rfl) rfl ?_
              refine WPL.q (q_mv (v := .whole _) rfl) rfl ?_
              obtain ⟨x5086, h5086, H⟩ := bnd H
              refine WPL.q (q_index_row sl69 rfl rfl rfl (ixs h5086)) rfl ?_
              refine WPL.q (q_fieldAddr fi71_1 rfl rfl) rfl ?_
              refine WPL.q (q_load_rowr (j := (Int.toNat 0)) (n := 2) (off := 1) (d := x5086) sc22 rfl rfl (ixj h5086) rfl S_huff_coin.p1 rfl) rfl ?_
              obtain ⟨x5087, h5087, H⟩ := bnd H
              refine WPL.q (q_index_ro sl22 rfl rfl rfl h5087) rfl ?_
              refine WPL.q (q_load_sc sc3 rfl) rfl ?_
              obtain ⟨x5088, h5088, H⟩ := bnd H
              refine WPL.q (q_index_row sl22 rfl rfl rfl (ixs h5088)) rfl ?_
              refine WPL.s (s_store_row (j := (Int.toNat x5087)) (d := 1) sz3 rfl rfl rfl rfl Joins.sc (ixl h5088)) ?_
              refine WPL.nilW ?_
              refine W.now ?_
              refine Then.n ?_
              refine WP.seq ?_
              refine WP.region ?_
              refine WPL.q (q_mv (v := .whole _) rfl) rfl ?_
              refine WPL.q (q_as (v := .whole _) rfl) rfl ?_
              refine WPL.q (q_as (v := .lit (.int _ _)) rfl) rfl ?_
              refine WPL.nilW ?_
              refine W.now ?_
              refine Then.n ?_
              refine WP.retW ?_
              refine W.cv (Cv.frzRow (i := 1) rfl rfl hnp rfl rfl) rfl ?_
              refine W.now ?_
              refine Then.r ?_
              have q0 := (Prod.mk.inj (Option.some.inj H)).1
              have q1 := (Prod.mk.inj (Option.some.inj H)).2
              subst q0
              subst q1
              exact ⟨trivial, _, rfl, [], (.tup [.ro (Rd.slice (Rd.int .i64)) false (List.set (List.replicate (Int.toNat ((List.length x2363 : Nat) : Int)) (0 : Int)) (Int.toNat x5087) 1), .lit (.int .i64 0)]), Mem.nil, ⟨rfl, trivial, by decide, rfl, trivial⟩, rfl, rfl, rfl, rfl⟩
            · replace H := cnf hb H
              refine WP.skipW ?_
              refine W.now ?_
              refine Then.n ?_
              refine WP.seq ?_
              refine WP.region ?_
              refine WPL.q (q_as (v := .fn _ _) rfl) rfl ?_
              refine WPL.nilW ?_
              refine W.now ?_
              refine Then.n ?_
              refine WP.seq ?_
              refine WP.region ?_
              refine WPL.q (q_mv (v := .whole _) rfl) rfl ?_
              refine WPL.q (q_mv (v := .fn _ _) rfl) rfl ?_
              obtain ⟨x5090, h5088, H⟩ := bnd H
              refine WPL.c (runs_call (s := [0]) (t := [0]) (N := 2) (bor := []) fn25 rfl (s_slices_SortStableFunc_huff_coin_huff_coin k x5049 x5090 h5088) ⟨rfl, ⟨trivial, .inr ⟨rfl, rfl, rfl⟩⟩, by decide, rfl, trivial⟩ rfl trivial (.ren rfl rfl (.ren rfl rfl .nil)) rfl ⟨trivial, rfl⟩ rfl) rfl ?_
              refine WPL.nilW ?_
              refine W.now ?_
              refine Then.n ?_
              refine WP.seq ?_
              refine WP.region ?_
              refine WPL.q (q_as (v := .lit _) rfl) rfl ?_
              refine WPL.nilW ?_
              refine W.now ?_
              refine Then.n ?_
              refine WP.seq ?_
              refine WP.seq ?_
              refine WP.region ?_
              refine WPL.q (q_mv (v := .lit (.int _ _)) rfl) rfl ?_
              refine WPL.q (q_mv (v := .lit (.int _ _)) rfl) rfl ?_
              refine WPL.nilW ?_
              refine W.now ?_
              refine Then.n ?_
              refine WP.block ?_
              refine WP.cv (Cv.vir 71 rdS_huff_coin (N := 2) rfl 11 rfl) ?_
              refine WP.cv (Cv.weak (E' := ((((((Env.none.upd 6 (.whole 0)).upd 9 (.whole 1)).upd 10 (.fn 23 [])).upd 11 (.whole 2)).upd 74 (.lit (.int .i64 x2364))).upd 75 (.lit (.int .i64 0)))) (M' := (((Mem.nil.push (.row 71 rdS_huff_coin x5090)).push (.row 3 (Rd.int .i64) (List.replicate (Int.toNat ((List.length x2363 : Nat) : Int)) (0 : Int)))).push (.row 71 rdS_huff_coin ([] : List S_huff_coin)))) [0, 1, 2] hnp ⟨rfl, ⟨⟨⟨trivial, .inr ⟨rfl, rfl, rfl⟩⟩, .inr ⟨rfl, rfl, rfl⟩⟩, .inr ⟨rfl, rfl, rfl⟩⟩, by decide, rfl, trivial⟩ (LeE.upd rfl rfl (LeE.upd rfl rfl (LeE.upd rfl rfl (LeE.upd rfl rfl (LeE.upd rfl rfl (LeE.upd rfl rfl (LeE.none rfl rfl)))))))) ?_
              obtain ⟨x5204, H5278, H⟩ := bnd H
              refine WP.monoW (Q := fun x E M => x = .exit 2 ∧ E = (((Env.none.upd 6 (.whole 0)).upd 9 (.whole 1)).upd 11 (.whole 2)) ∧ M = (((Mem.nil.push (.row 71 rdS_huff_coin x5090)).push (.row 3 (Rd.int .i64) (List.replicate (Int.toNat ((List.length x2363 : Nat) : Int)) (0 : Int)))).push (.row 71 rdS_huff_coin x5204))) ?_ ?_
              · refine WP.loop (β := Int × (List S_huff_coin)) (fun n b => g_huff_Lengths_l1 k x2364 x5090 n b.1 b.2 = some x5204) (fun b => ((((((Env.none.upd 6 (.whole 0)).upd 9 (.whole 1)).upd 10 (.fn 23 [])).upd 11 (.whole 2)).upd 74 (.lit (.int .i64 x2364))).upd 75 (.lit (.int .i64 b.1)))) (fun b => (((Mem.nil.push (.row 71 rdS_huff_coin x5090)).push (.row 3 (Rd.int .i64) (List.replicate (Int.toNat ((List.length x2363 : Nat) : Int)) (0 : Int)))).push (.row 71 rdS_huff_coin b.2))) k (0, ([] : List S_huff_coin)) H5278 rfl rfl ?_
                rintro n ⟨x5150, x5151⟩ H
                obtain _ | n := n
                · exact nf rfl H
                rw [g_huff_Lengths_l1.eq_2] at H
                show WP _ _ _ _ ((((((Env.none.upd 6 (.whole 0)).upd 9 (.whole 1)).upd 10 (.fn 23 [])).upd 11 (.whole 2)).upd 74 (.lit (.int .i64 x2364))).upd 75 (.lit (.int .i64 x5150))) (((Mem.nil.push (.row 71 rdS_huff_coin x5090)).push (.row 3 (Rd.int .i64) (List.replicate (Int.toNat ((List.length x2363 : Nat) : Int)) (0 : Int)))).push (.row 71 rdS_huff_coin x5151)) _
                refine WP.seq ?_
                refine WP.region ?_
                refine WPL.q (q_lss rfl rfl) rfl ?_
                refine WPL.nilW ?_
                refine W.now ?_
                refine Then.n ?_
                refine WP.seq ?_
                refine WP.cond (t := (decide (x5150 < x2364))) rfl (fun hb => ?_) (fun hb => ?_)
                · replace H := cnt hb H
                  refine WP.skipW ?_
                  refine W.now ?_
                  refine Then.n ?_
                  refine WP.seq ?_
                  refine WP.block ?_
                  refine WP.seq ?_
                  refine WP.region ?_
                  refine WPL.q (q_mv (v := .whole _) rfl) rfl ?_
                  obtain ⟨x5206, h5204, H⟩ := bnd H
                  refine WPL.c (runs_call (s := [0]) (t := [0, 3]) (N := 4) (bor := []) fn26 rfl (s_slices_Clone_huff_coin_huff_coin k x5090 x5206 h5204) ⟨rfl, ⟨trivial, .inr ⟨rfl, rfl, rfl⟩⟩, by decide, rfl, trivial⟩ rfl trivial (.ren rfl rfl .nil) rfl ⟨⟨trivial, rfl⟩, rfl⟩ rfl) rfl ?_
                  refine WPL.q (q_as (v := .whole _) rfl) rfl ?_
                  refine WPL.nilW ?_
                  refine W.now ?_
                  refine Then.n ?_
                  refine WP.seq ?_
                  refine WP.seq ?_
                  refine WP.region ?_
                  refine WPL.q (q_as (v := .lit (.int _ _)) rfl) rfl ?_
                  refine WPL.nilW ?_
                  refine W.now ?_
                  refine Then.n ?_
                  refine WP.block ?_
                  refine WP.cv (Cv.weak (E' := ((((((((Env.none.upd 6 (.whole 0)).upd 9 (.whole 1)).upd 10 (.fn 23 [])).upd 11 (.whole 2)).upd 12 (.whole 3)).upd 13 (.lit (.int .i64 0))).upd 74 (.lit (.int .i64 x2364))).upd 75 (.lit (.int .i64 x5150)))) (M' := ((((Mem.nil.push (.row 71 rdS_huff_coin x5090)).push (.row 3 (Rd.int .i64) (List.replicate (Int.toNat ((List.length x2363 : Nat) : Int)) (0 : Int)))).push (.row 71 rdS_huff_coin x5151)).push (.row 71 rdS_huff_coin x5206))) [0, 1, 2, 3] hnp ⟨rfl, ⟨⟨⟨⟨trivial, .inr ⟨rfl, rfl, rfl⟩⟩, .inr ⟨rfl, rfl, rfl⟩⟩, .inr ⟨rfl, rfl, rfl⟩⟩, .inr ⟨rfl, rfl, rfl⟩⟩, by decide, rfl, trivial⟩ (LeE.upd rfl rfl (LeE.upd rfl rfl (LeE.upd rfl rfl (LeE.upd rfl rfl (LeE.upd rfl rfl (LeE.upd rfl rfl (LeE.upd rfl rfl (LeE.upd rfl rfl (LeE.none rfl rfl)))))))))) ?_
                  obtain ⟨x5253, H5275, H⟩ := bnd H
                  refine WP.monoW (Q := fun x E M => x = .exit 4 ∧ E = ((((((Env.none.upd 6 (.whole 0)).upd 9 (.whole 1)).upd 10 (.fn 23 [])).upd 12 (.whole 2)).upd 74 (.lit (.int .i64 x2364))).upd 75 (.lit (.int .i64 x5150))) ∧ M = (((Mem.nil.push (.row 71 rdS_huff_coin x5090)).push (.row 3 (Rd.int .i64) (List.replicate (Int.toNat ((List.length x2363 : Nat) : Int)) (0 : Int)))).push (.row 71 rdS_huff_coin x5253))) ?_ ?_
                  · refine WP.loop (β := Int × (List S_huff_coin)) (fun n b => g_huff_Lengths_l2 k x5151 n b.1 b.2 = some x5253) (fun b => ((((((((Env.none.upd 6 (.whole 0)).upd 9 (.whole 1)).upd 10 (.fn 23 [])).upd 11 (.whole 2)).upd 12 (.whole 3)).upd 13 (.lit (.int .i64 b.1))).upd 74 (.lit (.int .i64 x2364))).upd 75 (.lit (.int .i64 x5150)))) (fun b => ((((Mem.nil.push (.row 71 rdS_huff_coin x5090)).push (.row 3 (Rd.int .i64) (List.replicate (Int.toNat ((List.length x2363 : Nat) : Int)) (0 : Int)))).push (.row 71 rdS_huff_coin x5151)).push (.row 71 rdS_huff_coin b.2))) k (0, x5206) H5275 rfl rfl ?_
                    rintro n ⟨x5229, x5230⟩ H
                    obtain _ | n := n
                    · exact nf rfl H
                    rw [g_huff_Lengths_l2.eq_2] at H
                    show WP _ _ _ _ ((((((((Env.none.upd 6 (.whole 0)).upd 9 (.whole 1)).upd 10 (.fn 23 [])).upd 11 (.whole 2)).upd 12 (.whole 3)).upd 13 (.lit (.int .i64 x5229))).upd 74 (.lit (.int .i64 x2364))).upd 75 (.lit (.int .i64 x5150))) ((((Mem.nil.push (.row 71 rdS_huff_coin x5090)).push (.row 3 (Rd.int .i64) (List.replicate (Int.toNat ((List.length x2363 : Nat) : Int)) (0 : Int)))).push (.row 71 rdS_huff_coin x5151)).push (.row 71 rdS_huff_coin x5230)) _
                    refine WP.seq ?_
                    refine WP.seq ?_
                    refine WP.region ?_
                    refine WPL.q (q_mv (v := .lit (.int _ _)) rfl) rfl ?_
                    refine WPL.q (q_add rfl rfl) rfl ?_
                    refine WPL.q (q_mv (v := .whole _) rfl) rfl ?_
                    refine WPL.q (q_len_row sl69 rfl rfl) rfl ?_
                    obtain ⟨x5255, h5255, H⟩ := bnd H
                    refine WPL.q (q_nm (q_lss rfl rfl) (nm_bool h5255)) rfl ?_
                    refine WPL.nilW ?_
                    refine W.now ?_
                    refine Then.n ?_
                    refine WP.cond (t := x5255) rfl (fun hb => ?_) (fun hb => ?_)
                    · replace H := cnt hb H
                      refine WP.skipW ?_
                      refine W.now ?_
                      refine Then.n ?_
                      refine WP.seq ?_
                      refine WP.block ?_
                      refine WP.regionD' 30 [2] [] mixed rfl ?_
                      refine WPD.takeT 0 rfl (by kernel_rfl) (q_mv (v := .whole _) rfl) rfl ?_
                      refine WPD.takeT 1 rfl (by kernel_rfl) (q_mv (v := .whole _) rfl) rfl ?_
                      refine WPD.takeT 2 rfl (by kernel_rfl) (q_mv (v := .lit (.int _ _)) rfl) rfl ?_
                      obtain ⟨x5268, h5268, H⟩ := bnd H
                      refine WPD.takeT 3 rfl (by kernel_rfl) (q_index_row sl69 rfl rfl rfl (ixs h5268)) rfl ?_
                      refine WPD.takeT 4 rfl (by kernel_rfl) (q_fieldAddr fi71_0 rfl rfl) rfl ?_
                      refine WPD.takeT 6 rfl (by kernel_rfl) (q_mv (v := .whole _) rfl) rfl ?_
                      refine WPD.takeT 7 rfl (by kernel_rfl) (q_mv (v := .lit (.int _ _)) rfl) rfl ?_
                      refine WPD.takeT 8 rfl (by kernel_rfl) (q_add rfl rfl) rfl ?_
                      obtain ⟨x5269, h5269, H⟩ := bnd H
                      refine WPD.takeT 9 rfl (by kernel_rfl) (q_index_row sl69 rfl rfl rfl (ixs h5269)) rfl ?_
                      refine WPD.takeT 10 rfl (by kernel_rfl) (q_fieldAddr fi71_0 rfl rfl) rfl ?_
                      refine WPD.takeT 13 rfl (by kernel_rfl) (q_mv (v := .whole _) rfl) rfl ?_
                      refine WPD.takeT 14 rfl (by kernel_rfl) (q_mv (v := .lit (.int _ _)) rfl) rfl ?_
                      obtain ⟨x5270, h5270, H⟩ := bnd H
                      refine WPD.takeT 15 rfl (by kernel_rfl) (q_index_row sl69 rfl rfl rfl (ixs h5270)) rfl ?_
                      refine WPD.takeT 16 rfl (by kernel_rfl) (q_fieldAddr fi71_1 rfl rfl) rfl ?_
                      refine WPD.takeT 18 rfl (by kernel_rfl) (q_mv (v := .whole _) rfl) rfl ?_
                      refine WPD.takeT 19 rfl (by kernel_rfl) (q_mv (v := .lit (.int _ _)) rfl) rfl ?_
                      refine WPD.takeT 20 rfl (by kernel_rfl) (q_add rfl rfl) rfl ?_
                      obtain ⟨x5271, h5271, H⟩ := bnd H
                      refine WPD.takeT 21 rfl (by kernel_rfl) (q_index_row sl69 rfl rfl rfl (ixs h5271)) rfl ?_
                      refine WPD.takeT 22 rfl (by kernel_rfl) (q_fieldAddr fi71_1 rfl rfl) rfl ?_
                      refine WPD.take 5 rfl (by kernel_rfl) (q_load_rowf (j := (Int.toNat x5229)) (n := 2) (off := 0) (d := x5268) sc3 rfl rfl (ixj h5268) rfl S_huff_coin.p0) rfl rfl ?_
                      refine WPD.take 11 rfl (by kernel_rfl) (q_load_rowf (j := (Int.toNat (IntKind.wrap .i64 (x5229 + 1)))) (n := 2) (off := 0) (d := x5269) sc3 rfl rfl (ixj h5269) rfl S_huff_coin.p0) rfl rfl ?_
                      obtain ⟨x5272, h5272, H⟩ := bnd H
                      refine WPD.takeT 12 rfl (by kernel_rfl) (q_nm (q_add rfl rfl) (nm_int h5272)) rfl ?_
                      refine WPD.take 17 rfl (by kernel_rfl) (q_load_rowr (j := (Int.toNat x5229)) (n := 2) (off := 1) (d := x5270) sc22 rfl rfl (ixj h5270) rfl S_huff_coin.p1 rfl) rfl rfl ?_
                      refine WPD.take 23 rfl (by kernel_rfl) (q_load_rowr (j := (Int.toNat (IntKind.wrap .i64 (x5229 + 1)))) (n := 2) (off := 1) (d := x5271) sc22 rfl rfl (ixj h5271) rfl S_huff_coin.p1 rfl) rfl rfl ?_
                      refine WPD.eff 24 [2] [] rfl (by kernel_rfl) (Does.runs (d_buildSlice (ds := ([x5270.fsyms, x5271.fsyms] : List (List Int))) (R := (Rd.slice (Rd.int .i64))) li79 rfl rfl rfl rfl rfl (JoinRows.cons (l := [.ro (Rd.slice (Rd.int .i64)) false x5270.fsyms]) Joins.one rfl (JoinRows.cons (l := [.ro (Rd.slice (Rd.int .i64)) false x5271.fsyms]) Joins.one rfl JoinRows.nil)) rfl rfl)) rfl rfl ?_
                      obtain ⟨x5274, h5272, H⟩ := bnd H
                      refine WPD.eff 25 [2] [] rfl (by kernel_rfl) (runs_call (s := [4]) (t := [4]) (N := 5) (bor := []) fn27 rfl (s_slices_Concat_int_int k ([x5270.fsyms, x5271.fsyms] : List (List Int)) x5274 h5272) ⟨rfl, ⟨trivial, .inr ⟨rfl, rfl, rfl⟩⟩, by decide, rfl, trivial⟩ rfl trivial (.ren rfl rfl .nil) rfl ⟨trivial, rfl⟩ rfl) rfl rfl ?_
                      refine WPD.takeT 26 rfl (by kernel_rfl) (q_build bu71 rfl) rfl ?_
                      refine WPD.eff 27 [2] [] rfl (by kernel_rfl) (Does.runs (d_buildSlice (ds := ([(⟨x5272, x5274⟩ : S_huff_coin)] : List S_huff_coin)) (R := rdS_huff_coin) li69 rfl rfl rfl rfl rfl (JoinRows.cons (l := [.lit (.int .i64 x5272), .ro (Rd.slice (Rd.int .i64)) false x5274]) (Joins.via (Joins.cons Joins.sc (Joins.cons Joins.one Joins.unit))) rfl JoinRows.nil) rfl rfl)) rfl rfl ?_
                      obtain ⟨h5274, H⟩ := grd H
                      refine WPD.eff 28 [2] [] rfl (by kernel_rfl) (Does.runs (d_append ap69 rfl rfl rfl rfl (src_row sl69 rfl rfl) h5274 rfl)) rfl rfl ?_
                      refine WPD.takeT 29 rfl (by kernel_rfl) (q_as (v := .whole _) rfl) rfl ?_
                      refine WPD.doneW (by kernel_rfl) ?_
                      refine W.now ?_
                      refine InBlock.n ?_
                      refine Then.n ?_
                      refine WP.region ?_
                      refine WPL.q (q_mv (v := .lit (.int _ _)) rfl) rfl ?_
                      refine WPL.q (q_add rfl rfl) rfl ?_
                      refine WPL.q (q_as (v := .lit (.int _ _)) rfl) rfl ?_
                      refine WPL.nilW ?_
                      refine W.cv (Cv.weak (E' := ((((((((Env.none.upd 6 (.whole 0)).upd 9 (.whole 1)).upd 10 (.fn 23 [])).upd 11 (.whole 2)).upd 12 (.whole 3)).upd 13 (.lit (.int .i64 (IntKind.wrap .i64 (x5229 + 2))))).upd 74 (.lit (.int .i64 x2364))).upd 75 (.lit (.int .i64 x5150)))) (M' := ((((Mem.nil.push (.row 71 rdS_huff_coin x5090)).push (.row 3 (Rd.int .i64) (List.replicate (Int.toNat ((List.length x2363 : Nat) : Int)) (0 : Int)))).push (.row 71 rdS_huff_coin x5151)).push (.row 71 rdS_huff_coin (x5230 ++ ([(⟨x5272, x5274⟩ : S_huff_coin)] : List S_huff_coin))))) [0, 1, 2, 6] hnp ⟨rfl, ⟨⟨⟨⟨trivial, .inr ⟨rfl, rfl, rfl⟩⟩, .inr ⟨rfl, rfl, rfl⟩⟩, .inr ⟨rfl, rfl, rfl⟩⟩, .inr ⟨rfl, rfl, rfl⟩⟩, by decide, rfl, trivial⟩ (LeE.upd rfl rfl (LeE.upd rfl rfl (LeE.upd rfl rfl (LeE.upd rfl rfl (LeE.upd rfl rfl (LeE.upd rfl rfl (LeE.upd rfl rfl (LeE.upd rfl rfl (LeE.none rfl rfl)))))))))) rfl ?_
                      refine W.now ?_
                      exact Then.n ⟨n, ((IntKind.wrap .i64 (x5229 + 2)), (x5230 ++ ([(⟨x5272, x5274⟩ : S_huff_coin)] : List S_huff_coin))), Nat.lt_succ_self n, H, rfl, rfl⟩
                    · replace H := cnf hb H
                      refine WP.exitW ?_
                      refine W.cv (Cv.weak (E' := ((((((Env.none.upd 6 (.whole 0)).upd 9 (.whole 1)).upd 10 (.fn 23 [])).upd 12 (.whole 2)).upd 74 (.lit (.int .i64 x2364))).upd 75 (.lit (.int .i64 x5150)))) (M' := (((Mem.nil.push (.row 71 rdS_huff_coin x5090)).push (.row 3 (Rd.int .i64) (List.replicate (Int.toNat ((List.length x2363 : Nat) : Int)) (0 : Int)))).push (.row 71 rdS_huff_coin x5230))) [0, 1, 3] hnp ⟨rfl, ⟨⟨⟨trivial, .inr ⟨rfl, rfl, rfl⟩⟩, .inr ⟨rfl, rfl, rfl⟩⟩, .inr ⟨rfl, rfl, rfl⟩⟩, by decide, rfl, trivial⟩ (LeE.upd rfl rfl (LeE.upd rfl rfl (LeE.upd rfl rfl (LeE.upd rfl rfl (LeE.upd rfl rfl (LeE.upd rfl rfl (LeE.none rfl rfl)))))))) rfl ?_
                      refine W.now ?_
                      refine Then.x ?_
                      refine Then.x ?_
                      have q0 := (Option.some.inj H)
                      subst q0
                      exact ⟨rfl, rfl, rfl⟩
                  · rintro _ _ _ ⟨rfl, rfl, rfl⟩
                    refine W.now ?_
                    refine InBlock.x0 ?_
                    refine Then.n ?_
                    refine WP.seq ?_
                    refine WP.region ?_
                    refine WPL.q (q_mv (v := .whole _) rfl) rfl ?_
                    refine WPL.q (q_mv (v := .fn _ _) rfl) rfl ?_
                    obtain ⟨x5278, h5276, H⟩ := bnd H
                    refine WPL.c (runs_call (s := [2]) (t := [2]) (N := 3) (bor := []) fn25 rfl (s_slices_SortStableFunc_huff_coin_huff_coin k x5253 x5278 h5276) ⟨rfl, ⟨trivial, .inr ⟨rfl, rfl, rfl⟩⟩, by decide, rfl, trivial⟩ rfl trivial (.ren rfl rfl (.ren rfl rfl .nil)) rfl ⟨trivial, rfl⟩ rfl) rfl ?_
                    refine WPL.nilW ?_
                    refine W.now ?_
                    refine Then.n ?_
                    refine WP.region ?_
                    refine WPL.q (q_mv (v := .whole _) rfl) rfl ?_
                    refine WPL.q (q_as (v := .whole _) rfl) rfl ?_
                    refine WPL.nilW ?_
                    refine W.now ?_
                    refine InBlock.n ?_
                    refine Then.n ?_
                    refine WP.region ?_
                    refine WPL.q (q_add rfl rfl) rfl ?_
                    refine WPL.q (q_mv (v := .lit (.int _ _)) rfl) rfl ?_
                    refine WPL.nilW ?_
                    refine W.cv (Cv.weak (E' := ((((((Env.none.upd 6 (.whole 0)).upd 9 (.whole 1)).upd 10 (.fn 23 [])).upd 11 (.whole 2)).upd 74 (.lit (.int .i64 x2364))).upd 75 (.lit (.int .i64 (IntKind.wrap .i64 (x5150 + 1)))))) (M' := (((Mem.nil.push (.row 71 rdS_huff_coin x5090)).push (.row 3 (Rd.int .i64) (List.replicate (Int.toNat ((List.length x2363 : Nat) : Int)) (0 : Int)))).push (.row 71 rdS_huff_coin x5278))) [0, 1, 2] hnp ⟨rfl, ⟨⟨⟨trivial, .inr ⟨rfl, rfl, rfl⟩⟩, .inr ⟨rfl, rfl, rfl⟩⟩, .inr ⟨rfl, rfl, rfl⟩⟩, by decide, rfl, trivial⟩ (LeE.upd rfl rfl (LeE.upd rfl rfl (LeE.upd rfl rfl (LeE.upd rfl rfl (LeE.upd rfl rfl (LeE.upd rfl rfl (LeE.none rfl rfl)))))))) rfl ?_
                    refine W.now ?_
                    exact Then.n ⟨n, ((IntKind.wrap .i64 (x5150 + 1)), x5278), Nat.lt_succ_self n, H, rfl, rfl⟩
                · replace H := cnf hb H
                  refine WP.exitW ?_
                  refine W.cv (Cv.weak (E' := (((Env.none.upd 6 (.whole 0)).upd 9 (.whole 1)).upd 11 (.whole 2))) (M' := (((Mem.nil.push (.row 71 rdS_huff_coin x5090)).push (.row 3 (Rd.int .i64) (List.replicate (Int.toNat ((List.length x2363 : Nat) : Int)) (0 : Int)))).push (.row 71 rdS_huff_coin x5151))) [0, 1, 2] hnp ⟨rfl, ⟨⟨⟨trivial, .inr ⟨rfl, rfl, rfl⟩⟩, .inr ⟨rfl, rfl, rfl⟩⟩, .inr ⟨rfl, rfl, rfl⟩⟩, by decide, rfl, trivial⟩ (LeE.upd rfl rfl (LeE.upd rfl rfl (LeE.upd rfl rfl (LeE.none rfl rfl))))) rfl ?_
                  refine W.now ?_
                  refine Then.x ?_
                  refine Then.x ?_
                  have q0 := (Option.some.inj H)
                  subst q0
                  exact ⟨rfl, rfl, rfl⟩
              · rintro _ _ _ ⟨rfl, rfl, rfl⟩
                refine W.now ?_
                refine InBlock.x0 ?_
                refine Then.n ?_
                refine WP.seq ?_
                refine WP.seq ?_
                refine WP.region ?_
                refine WPL.q (q_as (v := .lit (.int _ _)) rfl) rfl ?_
                refine WPL.nilW ?_
                refine W.now ?_
                refine Then.n ?_
                refine WP.block ?_
                refine WP.cv (Cv.weak (E' := ((((Env.none.upd 6 (.whole 0)).upd 9 (.whole 1)).upd 11 (.whole 2)).upd 14 (.lit (.int .i64 0)))) (M' := (((Mem.nil.push (.row 71 rdS_huff_coin x5090)).push (.row 3 (Rd.int .i64) (List.replicate (Int.toNat ((List.length x2363 : Nat) : Int)) (0 : Int)))).push (.row 71 rdS_huff_coin x5204))) [0, 1, 2] hnp ⟨rfl, ⟨⟨⟨trivial, .inr ⟨rfl, rfl, rfl⟩⟩, .inr ⟨rfl, rfl, rfl⟩⟩, .inr ⟨rfl, rfl, rfl⟩⟩, by decide, rfl, trivial⟩ (LeE.upd rfl rfl (LeE.upd rfl rfl (LeE.upd rfl rfl (LeE.upd rfl rfl (LeE.none rfl rfl)))))) ?_
                obtain ⟨x5316, H5337, H⟩ := bnd H
                refine WP.monoW (Q := fun x E M => x = .exit 6 ∧ E = (Env.none.upd 9 (.whole 0)) ∧ M = (Mem.nil.push (.row 3 (Rd.int .i64) x5316))) ?_ ?_
                · refine WP.loop (β := Int × (List Int)) (fun n b => g_huff_Lengths_l3 k x5090 x5204 n b.1 b.2 = some x5316) (fun b => ((((Env.none.upd 6 (.whole 0)).upd 9 (.whole 1)).upd 11 (.whole 2)).upd 14 (.lit (.int .i64 b.1)))) (fun b => (((Mem.nil.push (.row 71 rdS_huff_coin x5090)).push (.row 3 (Rd.int .i64) b.2)).push (.row 71 rdS_huff_coin x5204))) k (0, (List.replicate (Int.toNat ((List.length x2363 : Nat) : Int)) (0 : Int))) H5337 rfl rfl ?_
                  rintro n ⟨x5297, x5298⟩ H
                  obtain _ | n := n
                  · exact nf rfl H
                  rw [g_huff_Lengths_l3.eq_2] at H
                  show WP _ _ _ _ ((((Env.none.upd 6 (.whole 0)).upd 9 (.whole 1)).upd 11 (.whole 2)).upd 14 (.lit (.int .i64 x5297))) (((Mem.nil.push (.row 71 rdS_huff_coin x5090)).push (.row 3 (Rd.int .i64) x5298)).push (.row 71 rdS_huff_coin x5204)) _
                  refine WP.seq ?_
                  refine WP.seq ?_
                  refine WP.region ?_
                  refine WPL.q (q_mv (v := .lit (.int _ _)) rfl) rfl ?_
                  refine WPL.q (q_mv (v := .whole _) rfl) rfl ?_
                  refine WPL.q (q_len_row sl69 rfl rfl) rfl ?_
                  obtain ⟨x5319, h5319, H⟩ := bnd H
                  refine WPL.q (q_nm (q_mul rfl rfl) (nm_int h5319)) rfl ?_
                  refine WPL.q (q_sub rfl rfl) rfl ?_
                  obtain ⟨x5320, h5320, H⟩ := bnd H
                  refine WPL.q (q_nm (q_lss rfl rfl) (nm_bool h5320)) rfl ?_
                  refine WPL.nilW ?_
                  refine W.now ?_
                  refine Then.n ?_
                  refine WP.cond (t := x5320) rfl (fun hb => ?_) (fun hb => ?_)
                  · replace H := cnt hb H
                    refine WP.skipW ?_
                    refine W.now ?_
                    refine Then.n ?_
                    refine WP.seq ?_
                    refine WP.block ?_
                    refine WP.seq ?_
                    refine WP.region ?_
                    refine WPL.q (q_mv (v := .whole _) rfl) rfl ?_
                    refine WPL.q (q_mv (v := .lit (.int _ _)) rfl) rfl ?_
                    obtain ⟨x5321, h5321, H⟩ := bnd H
                    refine WPL.q (q_index_row sl69 rfl rfl rfl (ixs h5321)) rfl ?_
                    refine WPL.q (q_fieldAddr fi71_1 rfl rfl) rfl ?_
                    refine WPL.q (q_load_rowr (j := (Int.toNat x5297)) (n := 2) (off := 1) (d := x5321) sc22 rfl rfl (ixj h5321) rfl S_huff_coin.p1 rfl) rfl ?_
                    refine WPL.q (q_len_ro sl22 rfl) rfl ?_
                    refine WPL.q (q_mv (v := .lit (.int _ _)) rfl) rfl ?_
                    refine WPL.nilW ?_
                    refine W.now ?_
                    refine Then.n ?_
                    refine WP.block ?_
                    refine WP.cv (Cv.weak (E' := (((((((Env.none.upd 6 (.whole 0)).upd 9 (.whole 1)).upd 11 (.whole 2)).upd 14 (.lit (.int .i64 x5297))).upd 132 (.ro (Rd.slice (Rd.int .i64)) false x5321.fsyms)).upd 133 (.lit (.int .i64 ((List.length x5321.fsyms : Nat) : Int)))).upd 134 (.lit (.int .i64 0)))) (M' := (((Mem.nil.push (.row 71 rdS_huff_coin x5090)).push (.row 3 (Rd.int .i64) x5298)).push (.row 71 rdS_huff_coin x5204))) [0, 1, 2] hnp ⟨rfl, ⟨⟨⟨trivial, .inr ⟨rfl, rfl, rfl⟩⟩, .inr ⟨rfl, rfl, rfl⟩⟩, .inr ⟨rfl, rfl, rfl⟩⟩, by decide, rfl, trivial⟩ (LeE.upd rfl rfl (LeE.upd rfl rfl (LeE.upd rfl rfl (LeE.upd rfl rfl (LeE.upd rfl rfl (LeE.upd rfl rfl (LeE.upd rfl rfl (LeE.none rfl rfl))))))))) ?_
                    obtain ⟨x5332, H5336, H⟩ := bnd H
                    refine WP.monoW (Q := fun x E M => x = .exit 8 ∧ E = ((((Env.none.upd 6 (.whole 0)).upd 9 (.whole 1)).upd 11 (.whole 2)).upd 14 (.lit (.int .i64 x5297))) ∧ M = (((Mem.nil.push (.row 71 rdS_huff_coin x5090)).push (.row 3 (Rd.int .i64) x5332)).push (.row 71 rdS_huff_coin x5204))) ?_ ?_
                    · refine WP.loop (β := Int × (List Int)) (fun n b => g_huff_Lengths_l4 k x5321 n b.1 b.2 = some x5332) (fun b => (((((((Env.none.upd 6 (.whole 0)).upd 9 (.whole 1)).upd 11 (.whole 2)).upd 14 (.lit (.int .i64 x5297))).upd 132 (.ro (Rd.slice (Rd.int .i64)) false x5321.fsyms)).upd 133 (.lit (.int .i64 ((List.length x5321.fsyms : Nat) : Int)))).upd 134 (.lit (.int .i64 b.1)))) (fun b => (((Mem.nil.push (.row 71 rdS_huff_coin x5090)).push (.row 3 (Rd.int .i64) b.2)).push (.row 71 rdS_huff_coin x5204))) k (0, x5298) H5336 rfl rfl ?_
                      rintro n ⟨x5326, x5327⟩ H
                      obtain _ | n := n
                      · exact nf rfl H
                      rw [g_huff_Lengths_l4.eq_2] at H
                      show WP _ _ _ _ (((((((Env.none.upd 6 (.whole 0)).upd 9 (.whole 1)).upd 11 (.whole 2)).upd 14 (.lit (.int .i64 x5297))).upd 132 (.ro (Rd.slice (Rd.int .i64)) false x5321.fsyms)).upd 133 (.lit (.int .i64 ((List.length x5321.fsyms : Nat) : Int)))).upd 134 (.lit (.int .i64 x5326))) (((Mem.nil.push (.row 71 rdS_huff_coin x5090)).push (.row 3 (Rd.int .i64) x5327)).push (.row 71 rdS_huff_coin x5204)) _
                      refine WP.seq ?_
                      refine WP.region ?_
                      obtain ⟨x5333, h5333, H⟩ := bnd H
                      refine WPL.q (q_nm (q_lss rfl rfl) (nm_bool h5333)) rfl ?_
                      refine WPL.nilW ?_
                      refine W.now ?_
                      refine Then.n ?_
                      refine WP.seq ?_
                      refine WP.cond (t := x5333) rfl (fun hb => ?_) (fun hb => ?_)
                      · replace H := cnt hb H
                        refine WP.skipW ?_
                        refine W.now ?_
                        refine Then.n ?_
                        refine WP.seq ?_
                        refine WP.block ?_
                        refine WP.seq ?_
                        refine WP.region ?_
                        obtain ⟨x5334, h5334, H⟩ := bnd H
                        refine WPL.q (q_index_ro sl22 rfl rfl rfl h5334) rfl ?_
                        refine WPL.q (q_load_sc sc3 rfl) rfl ?_
                        refine WPL.q (q_as (v := .lit (.int _ _)) rfl) rfl ?_
                        refine WPL.nilW ?_
                        refine W.now ?_
                        refine Then.n ?_
                        refine WP.region ?_
                        refine WPL.q (q_mv (v := .whole _) rfl) rfl ?_
                        refine WPL.q (q_mv (v := .lit (.int _ _)) rfl) rfl ?_
                        obtain ⟨x5335, h5335, H⟩ := bnd H
                        refine WPL.q (q_index_row sl22 rfl rfl rfl (ixs h5335)) rfl ?_
                        refine WPL.q (q_load_row (j := (Int.toNat x5334)) sc3 rfl rfl (ixj h5335)) rfl ?_
                        refine WPL.q (q_add rfl rfl) rfl ?_
                        obtain ⟨x5336, h5336, H⟩ := bnd H
                        refine WPL.q (q_index_row sl22 rfl rfl rfl (ixs h5336)) rfl ?_
                        refine WPL.s (s_store_row (j := (Int.toNat x5334)) (d := (IntKind.wrap .i64 (x5335 + 1))) sz3 rfl rfl rfl rfl Joins.sc (ixl h5336)) ?_
                        refine WPL.nilW ?_
                        refine W.now ?_
                        refine InBlock.n ?_
                        refine Then.n ?_
                        refine WP.region ?_
                        refine WPL.q (q_add rfl rfl) rfl ?_
                        refine WPL.q (q_mv (v := .lit (.int _ _)) rfl) rfl ?_
                        refine WPL.nilW ?_
                        refine W.cv (Cv.weak (E' := (((((((Env.none.upd 6 (.whole 0)).upd 9 (.whole 1)).upd 11 (.whole 2)).upd 14 (.lit (.int .i64 x5297))).upd 132 (.ro (Rd.slice (Rd.int .i64)) false x5321.fsyms)).upd 133 (.lit (.int .i64 ((List.length x5321.fsyms : Nat) : Int)))).upd 134 (.lit (.int .i64 (IntKind.wrap .i64 (x5326 + 1)))))) (M' := (((Mem.nil.push (.row 71 rdS_huff_coin x5090)).push (.row 3 (Rd.int .i64) (List.set x5327 (Int.toNat x5334) (IntKind.wrap .i64 (x5335 + 1))))).push (.row 71 rdS_huff_coin x5204))) [0, 1, 2] hnp ⟨rfl, ⟨⟨⟨trivial, .inr ⟨rfl, rfl, rfl⟩⟩, .inr ⟨rfl, rfl, rfl⟩⟩, .inr ⟨rfl, rfl, rfl⟩⟩, by decide, rfl, trivial⟩ (LeE.upd rfl rfl (LeE.upd rfl rfl (LeE.upd rfl rfl (LeE.upd rfl rfl (LeE.upd rfl rfl (LeE.upd rfl rfl (LeE.upd rfl rfl (LeE.none rfl rfl))))))))) rfl ?_
                        refine W.now ?_
                        exact Then.n ⟨n, ((IntKind.wrap .i64 (x5326 + 1)), (List.set x5327 (Int.toNat x5334) (IntKind.wrap .i64 (x5335 + 1)))), Nat.lt_succ_self n, H, rfl, rfl⟩
                      · replace H := cnf hb H
                        refine WP.exitW ?_
                        refine W.cv (Cv.weak (E' := ((((Env.none.upd 6 (.whole 0)).upd 9 (.whole 1)).upd 11 (.whole 2)).upd 14 (.lit (.int .i64 x5297)))) (M' := (((Mem.nil.push (.row 71 rdS_huff_coin x5090)).push (.row 3 (Rd.int .i64) x5327)).push (.row 71 rdS_huff_coin x5204))) [0, 1, 2] hnp ⟨rfl, ⟨⟨⟨trivial, .inr ⟨rfl, rfl, rfl⟩⟩, .inr ⟨rfl, rfl, rfl⟩⟩, .inr ⟨rfl, rfl, rfl⟩⟩, by decide, rfl, trivial⟩ (LeE.upd rfl rfl (LeE.upd rfl rfl (LeE.upd rfl rfl (LeE.upd rfl rfl (LeE.none rfl rfl)))))) rfl ?_
                        refine W.now ?_
                        refine Then.x ?_
                        refine Then.x ?_
                        have q0 := (Option.some.inj H)
                        subst q0
                        exact ⟨rfl, rfl, rfl⟩
                    · rintro _ _ _ ⟨rfl, rfl, rfl⟩
                      refine W.now ?_
                      refine InBlock.x0 ?_
                      refine InBlock.n ?_
                      refine Then.n ?_
                      refine WP.region ?_
                      refine WPL.q (q_mv (v := .lit (.int _ _)) rfl) rfl ?_
                      refine WPL.q (q_add rfl rfl) rfl ?_
                      refine WPL.q (q_as (v := .lit (.int _ _)) rfl) rfl ?_
                      refine WPL.nilW ?_
                      refine W.cv (Cv.weak (E' := ((((Env.none.upd 6 (.whole 0)).upd 9 (.whole 1)).upd 11 (.whole 2)).upd 14 (.lit (.int .i64 (IntKind.wrap .i64 (x5297 + 1)))))) (M' := (((Mem.nil.push (.row 71 rdS_huff_coin x5090)).push (.row 3 (Rd.int .i64) x5332)).push (.row 71 rdS_huff_coin x5204))) [0, 1, 2] hnp ⟨rfl, ⟨⟨⟨trivial, .inr ⟨rfl, rfl, rfl⟩⟩, .inr ⟨rfl, rfl, rfl⟩⟩, .inr ⟨rfl, rfl, rfl⟩⟩, by decide, rfl, trivial⟩ (LeE.upd rfl rfl (LeE.upd rfl rfl (LeE.upd rfl rfl (LeE.upd rfl rfl (LeE.none rfl rfl)))))) rfl ?_
                      refine W.now ?_
                      exact Then.n ⟨n, ((IntKind.wrap .i64 (x5297 + 1)), x5332), Nat.lt_succ_self n, H, rfl, rfl⟩
                  · replace H := cnf hb H
                    refine WP.exitW ?_
                    refine W.cv (Cv.weak (E' := (Env.none.upd 9 (.whole 0))) (M' := (Mem.nil.push (.row 3 (Rd.int .i64) x5298))) [1] hnp ⟨rfl, ⟨trivial, .inr ⟨rfl, rfl, rfl⟩⟩, by decide, rfl, trivial⟩ (LeE.upd rfl rfl (LeE.none rfl rfl))) rfl ?_
                    refine W.now ?_
                    refine Then.x ?_
                    refine Then.x ?_
                    have q0 := (Option.some.inj H)
                    subst q0
                    exact ⟨rfl, rfl, rfl⟩
                · rintro _ _ _ ⟨rfl, rfl, rfl⟩
                  refine W.now ?_
                  refine InBlock.x0 ?_
                  refine Then.n ?_
                  refine WP.seq ?_
                  refine WP.region ?_
                  refine WPL.q (q_mv (v := .whole _) rfl) rfl ?_
                  refine WPL.q (q_as (v := .whole _) rfl) rfl ?_
                  refine WPL.q (q_as (v := .lit (.int _ _)) rfl) rfl ?_
                  refine WPL.nilW ?_
                  refine W.now ?_
                  refine Then.n ?_
                  refine WP.retW ?_
                  refine W.cv (Cv.frzRow (i := 0) rfl rfl hnp rfl rfl) rfl ?_
                  refine W.now ?_
                  have q0 := (Prod.mk.inj (Option.some.inj H)).1
                  have q1 := (Prod.mk.inj (Option.some.inj H)).2
                  subst q0
                  subst q1
                  exact ⟨trivial, _, rfl, [], (.tup [.ro (Rd.slice (Rd.int .i64)) false x5316, .lit (.int .i64 0)]), Mem.nil, ⟨rfl, trivial, by decide, rfl, trivial⟩, rfl, rfl, rfl, rfl⟩
end Go.Proofs.Ythgbompoldmhmab.W
