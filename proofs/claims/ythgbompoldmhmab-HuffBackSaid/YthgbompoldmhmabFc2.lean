/- Walks: Fc2 -/
import Derived.Test.YthgbompoldmhmabFb
import Derived.Test.YthgbompoldmhmabFc1
namespace Go.Proofs.Ythgbompoldmhmab.W
open Go Go.Q Go.Proofs
set_option linter.unusedVariables false
set_option linter.unusedSimpArgs false
set_option maxRecDepth 100000 in
set_option maxHeartbeats 4000000 in
theorem s_slices_swapRangeCmpFunc_huff_coin (k : Nat) (x3680 : Int) (x3681 : Int) (x3682 : Int) (x3683 : (List S_huff_coin)) (x3715 : (List S_huff_coin)) (H : g_slices_swapRangeCmpFunc_huff_coin k x3680 x3681 x3682 x3683 = some x3715) : Go.Q.Spec Try.prog 36 1 [.whole 0, .lit (.int .i64 x3680), .lit (.int .i64 x3681), .lit (.int .i64 x3682), .fn 23 []] (Mem.nil.push (.row 71 rdS_huff_coin x3683)) (fun o M => o = .ret (.tup []) ∧ M = (Mem.nil.push (.row 71 rdS_huff_coin x3715))) := by
  unfold g_slices_swapRangeCmpFunc_huff_coin at H
  refine Go.Q.Spec.of_bodyR (rs := []) (nt := 38) Try.func36 rfl rfl (by intro t T h; simp at h) rfl rfl fun cx hnp => ?_
  refine WP.seq ?_
  refine WP.region ?_
  refine WPL.q (q_as (v := .lit (.int _ _)) rfl) rfl ?_
  refine WPL.nilW ?_
  refine W.now ?_
  refine Then.n ?_
  refine WP.block ?_
  refine WP.cv (Cv.weak (E' := (((((Env.none.upd 0 (.whole 0)).upd 1 (.lit (.int .i64 x3680))).upd 2 (.lit (.int .i64 x3681))).upd 3 (.lit (.int .i64 x3682))).upd 10 (.lit (.int .i64 0)))) (M' := (Mem.nil.push (.row 71 rdS_huff_coin x3683))) [0] hnp ⟨rfl, ⟨trivial, .inr ⟨rfl, rfl, rfl⟩⟩, by decide, rfl, ⟨trivial, rfl⟩⟩ (LeE.upd rfl rfl (LeE.upd rfl rfl (LeE.upd rfl rfl (LeE.upd rfl rfl (LeE.upd rfl rfl (LeE.none rfl rfl))))))) ?_
  obtain ⟨x3744, H3757, H⟩ := bnd H
  refine WP.monoW (Q := fun x E M => x = .exit 0 ∧ E = Env.none ∧ M = (Mem.nil.push (.row 71 rdS_huff_coin x3744))) ?_ ?_
  · refine WP.loop (β := Int × (List S_huff_coin)) (fun n b => g_slices_swapRangeCmpFunc_huff_coin_l0 k x3680 x3681 x3682 n b.1 b.2 = some x3744) (fun b => (((((Env.none.upd 0 (.whole 0)).upd 1 (.lit (.int .i64 x3680))).upd 2 (.lit (.int .i64 x3681))).upd 3 (.lit (.int .i64 x3682))).upd 10 (.lit (.int .i64 b.1)))) (fun b => (Mem.nil.push (.row 71 rdS_huff_coin b.2))) k (0, x3683) H3757 rfl rfl ?_
    rintro n ⟨x3729, x3730⟩ H
    obtain _ | n := n
    · exact nf rfl H
    rw [g_slices_swapRangeCmpFunc_huff_coin_l0.eq_2] at H
    show WP _ _ _ _ (((((Env.none.upd 0 (.whole 0)).upd 1 (.lit (.int .i64 x3680))).upd 2 (.lit (.int .i64 x3681))).upd 3 (.lit (.int .i64 x3682))).upd 10 (.lit (.int .i64 x3729))) (Mem.nil.push (.row 71 rdS_huff_coin x3730)) _
    refine WP.seq ?_
    refine WP.seq ?_
    refine WP.region ?_
    refine WPL.q (q_mv (v := .lit (.int _ _)) rfl) rfl ?_
    refine WPL.q (q_mv (v := .lit (.int _ _)) rfl) rfl ?_
    refine WPL.q (q_lss rfl rfl) rfl ?_
    refine WPL.nilW ?_
    refine W.now ?_
    refine Then.n ?_
    refine WP.cond (t := (decide (x3729 < x3682))) rfl (fun hb => ?_) (fun hb => ?_)
    · replace H := cnt hb H
      refine WP.skipW ?_
      refine W.now ?_
      refine Then.n ?_
      refine WP.seq ?_
      refine WP.block ?_
      refine WP.regionD' 24 [0] [21] mixed rfl ?_
      refine WPD.takeT 0 rfl (by kernel_rfl) (q_mv (v := .whole _) rfl) rfl ?_
      refine WPD.takeT 1 rfl (by kernel_rfl) (q_mv (v := .lit (.int _ _)) rfl) rfl ?_
      refine WPD.takeT 2 rfl (by kernel_rfl) (q_mv (v := .lit (.int _ _)) rfl) rfl ?_
      refine WPD.takeT 3 rfl (by kernel_rfl) (q_add rfl rfl) rfl ?_
      refine WPD.takeT 4 rfl (by kernel_rfl) (q_mv (v := .whole _) rfl) rfl ?_
      refine WPD.takeT 5 rfl (by kernel_rfl) (q_mv (v := .lit (.int _ _)) rfl) rfl ?_
      refine WPD.takeT 6 rfl (by kernel_rfl) (q_mv (v := .lit (.int _ _)) rfl) rfl ?_
      refine WPD.takeT 7 rfl (by kernel_rfl) (q_add rfl rfl) rfl ?_
      refine WPD.takeT 8 rfl (by kernel_rfl) (q_mv (v := .whole _) rfl) rfl ?_
      refine WPD.takeT 9 rfl (by kernel_rfl) (q_mv (v := .lit (.int _ _)) rfl) rfl ?_
      refine WPD.takeT 10 rfl (by kernel_rfl) (q_mv (v := .lit (.int _ _)) rfl) rfl ?_
      refine WPD.takeT 11 rfl (by kernel_rfl) (q_add rfl rfl) rfl ?_
      obtain ⟨x3754, h3754, H⟩ := bnd H
      refine WPD.takeT 12 rfl (by kernel_rfl) (q_index_row sl69 rfl rfl rfl (ixs h3754)) rfl ?_
      refine WPD.takeT 14 rfl (by kernel_rfl) (q_mv (v := .whole _) rfl) rfl ?_
      refine WPD.takeT 15 rfl (by kernel_rfl) (q_mv (v := .lit (.int _ _)) rfl) rfl ?_
      refine WPD.takeT 16 rfl (by kernel_rfl) (q_mv (v := .lit (.int _ _)) rfl) rfl ?_
      refine WPD.takeT 17 rfl (by kernel_rfl) (q_add rfl rfl) rfl ?_
      obtain ⟨x3755, h3755, H⟩ := bnd H
      refine WPD.takeT 18 rfl (by kernel_rfl) (q_index_row sl69 rfl rfl rfl (ixs h3755)) rfl ?_
      refine WPD.take 13 rfl (by kernel_rfl) (q_load_rowag (j := (Int.toNat (IntKind.wrap .i64 (x3681 + x3729)))) ag71 rfl rfl (ixj h3754) rfl S_huff_coin.sp) rfl rfl ?_
      refine WPD.take 19 rfl (by kernel_rfl) (q_load_rowag (j := (Int.toNat (IntKind.wrap .i64 (x3680 + x3729)))) ag71 rfl rfl (ixj h3755) rfl S_huff_coin.sp) rfl rfl ?_
      obtain ⟨x3756, h3756, H⟩ := bnd H
      refine WPD.takeT 20 rfl (by kernel_rfl) (q_index_row sl69 rfl rfl rfl (ixs h3756)) rfl ?_
      refine WPD.effS 21 [] [] rfl (by kernel_rfl) (s_store_row (j := (Int.toNat (IntKind.wrap .i64 (x3680 + x3729)))) (d := (⟨x3754.ffreq, x3754.fsyms⟩ : S_huff_coin)) sz71 rfl rfl rfl rfl (Joins.via (Joins.cons Joins.sc (Joins.cons Joins.one Joins.unit))) (ixl h3756)) rfl ?_
      obtain ⟨x3757, h3757, H⟩ := bnd H
      refine WPD.takeT 22 rfl (by kernel_rfl) (q_index_row sl69 rfl rfl rfl (ixs h3757)) rfl ?_
      refine WPD.effS 23 [] [] rfl (by kernel_rfl) (s_store_row (j := (Int.toNat (IntKind.wrap .i64 (x3681 + x3729)))) (d := (⟨x3755.ffreq, x3755.fsyms⟩ : S_huff_coin)) sz71 rfl rfl rfl rfl (Joins.via (Joins.cons Joins.sc (Joins.cons Joins.one Joins.unit))) (ixl h3757)) rfl ?_
      refine WPD.doneW (by kernel_rfl) ?_
      refine W.now ?_
      refine InBlock.n ?_
      refine Then.n ?_
      refine WP.region ?_
      refine WPL.q (q_mv (v := .lit (.int _ _)) rfl) rfl ?_
      refine WPL.q (q_add rfl rfl) rfl ?_
      refine WPL.q (q_as (v := .lit (.int _ _)) rfl) rfl ?_
      refine WPL.nilW ?_
      refine W.cv (Cv.weak (E' := (((((Env.none.upd 0 (.whole 0)).upd 1 (.lit (.int .i64 x3680))).upd 2 (.lit (.int .i64 x3681))).upd 3 (.lit (.int .i64 x3682))).upd 10 (.lit (.int .i64 (IntKind.wrap .i64 (x3729 + 1)))))) (M' := (Mem.nil.push (.row 71 rdS_huff_coin (List.set (List.set x3730 (Int.toNat (IntKind.wrap .i64 (x3680 + x3729))) (⟨x3754.ffreq, x3754.fsyms⟩ : S_huff_coin)) (Int.toNat (IntKind.wrap .i64 (x3681 + x3729))) (⟨x3755.ffreq, x3755.fsyms⟩ : S_huff_coin))))) [0] hnp ⟨rfl, ⟨trivial, .inr ⟨rfl, rfl, rfl⟩⟩, by decide, rfl, ⟨trivial, rfl⟩⟩ (LeE.upd rfl rfl (LeE.upd rfl rfl (LeE.upd rfl rfl (LeE.upd rfl rfl (LeE.upd rfl rfl (LeE.none rfl rfl))))))) rfl ?_
      refine W.now ?_
      exact Then.n ⟨n, ((IntKind.wrap .i64 (x3729 + 1)), (List.set (List.set x3730 (Int.toNat (IntKind.wrap .i64 (x3680 + x3729))) (⟨x3754.ffreq, x3754.fsyms⟩ : S_huff_coin)) (Int.toNat (IntKind.wrap .i64 (x3681 + x3729))) (⟨x3755.ffreq, x3755.fsyms⟩ : S_huff_coin))), Nat.lt_succ_self n, H, rfl, rfl⟩
    · replace H := cnf hb H
      refine WP.exitW ?_
      refine W.cv (Cv.weak (E' := Env.none) (M' := (Mem.nil.push (.row 71 rdS_huff_coin x3730))) [0] hnp ⟨rfl, ⟨trivial, .inr ⟨rfl, rfl, rfl⟩⟩, by decide, rfl, ⟨trivial, rfl⟩⟩ (LeE.none rfl rfl)) rfl ?_
      refine W.now ?_
      refine Then.x ?_
      refine Then.x ?_
      have q0 := (Option.some.inj H)
      subst q0
      exact ⟨rfl, rfl, rfl⟩
  · rintro _ _ _ ⟨rfl, rfl, rfl⟩
    refine W.now ?_
    refine InBlock.x0 ?_
    have q0 := (Option.some.inj H)
    subst q0
    exact ⟨trivial, _, rfl, [0], (.tup []), (Mem.nil.push (.row 71 rdS_huff_coin x3744)), ⟨rfl, ⟨trivial, .inr ⟨rfl, rfl, rfl⟩⟩, by decide, rfl, ⟨trivial, rfl⟩⟩, rfl, rfl, rfl, rfl⟩
set_option maxRecDepth 100000 in
set_option maxHeartbeats 4000000 in
theorem s_slices_rotateCmpFunc_huff_coin (k : Nat) (x3671 : Int) (x3672 : Int) (x3673 : Int) (x3674 : (List S_huff_coin)) (x3781 : (List S_huff_coin)) (H : g_slices_rotateCmpFunc_huff_coin k x3671 x3672 x3673 x3674 = some x3781) : Go.Q.Spec Try.prog 35 1 [.whole 0, .lit (.int .i64 x3671), .lit (.int .i64 x3672), .lit (.int .i64 x3673), .fn 23 []] (Mem.nil.push (.row 71 rdS_huff_coin x3674)) (fun o M => o = .ret (.tup []) ∧ M = (Mem.nil.push (.row 71 rdS_huff_coin x3781))) := by
  unfold g_slices_rotateCmpFunc_huff_coin at H
  refine Go.Q.Spec.of_bodyR (rs := []) (nt := 58) Try.func35 rfl rfl (by intro t T h; simp at h) rfl rfl fun cx hnp => ?_
  refine WP.seq ?_
  refine WP.region ?_
  refine WPL.q (q_mv (v := .lit (.int _ _)) rfl) rfl ?_
  refine WPL.q (q_mv (v := .lit (.int _ _)) rfl) rfl ?_
  refine WPL.q (q_sub rfl rfl) rfl ?_
  refine WPL.q (q_as (v := .lit (.int _ _)) rfl) rfl ?_
  refine WPL.nilW ?_
  refine W.now ?_
  refine Then.n ?_
  refine WP.seq ?_
  refine WP.region ?_
  refine WPL.q (q_mv (v := .lit (.int _ _)) rfl) rfl ?_
  refine WPL.q (q_mv (v := .lit (.int _ _)) rfl) rfl ?_
  refine WPL.q (q_sub rfl rfl) rfl ?_
  refine WPL.q (q_as (v := .lit (.int _ _)) rfl) rfl ?_
  refine WPL.nilW ?_
  refine W.now ?_
  refine Then.n ?_
  refine WP.seq ?_
  refine WP.block ?_
  refine WP.cv (Cv.weak (E' := (((((Env.none.upd 0 (.whole 0)).upd 2 (.lit (.int .i64 x3672))).upd 4 (.fn 23 [])).upd 10 (.lit (.int .i64 (IntKind.wrap .i64 (x3672 - x3671))))).upd 11 (.lit (.int .i64 (IntKind.wrap .i64 (x3673 - x3672)))))) (M' := (Mem.nil.push (.row 71 rdS_huff_coin x3674))) [0] hnp ⟨rfl, ⟨trivial, .inr ⟨rfl, rfl, rfl⟩⟩, by decide, rfl, ⟨trivial, rfl⟩⟩ (LeE.upd rfl rfl (LeE.upd rfl rfl (LeE.upd rfl rfl (LeE.upd rfl rfl (LeE.upd rfl rfl (LeE.none rfl rfl))))))) ?_
  obtain ⟨⟨x3803, x3804⟩, H3809, H⟩ := bnd H
  refine WP.monoW (Q := fun x E M => x = .exit 0 ∧ E = ((((Env.none.upd 0 (.whole 0)).upd 2 (.lit (.int .i64 x3672))).upd 4 (.fn 23 [])).upd 10 (.lit (.int .i64 x3803))) ∧ M = (Mem.nil.push (.row 71 rdS_huff_coin x3804))) ?_ ?_
  · refine WP.loop (β := Int × Int × (List S_huff_coin)) (fun n b => g_slices_rotateCmpFunc_huff_coin_l0 k x3672 n b.1 b.2.1 b.2.2 = some (x3803, x3804)) (fun b => (((((Env.none.upd 0 (.whole 0)).upd 2 (.lit (.int .i64 x3672))).upd 4 (.fn 23 [])).upd 10 (.lit (.int .i64 b.1))).upd 11 (.lit (.int .i64 b.2.1)))) (fun b => (Mem.nil.push (.row 71 rdS_huff_coin b.2.2))) k ((IntKind.wrap .i64 (x3672 - x3671)), (IntKind.wrap .i64 (x3673 - x3672)), x3674) H3809 rfl rfl ?_
    rintro n ⟨x3795, x3796, x3797⟩ H
    obtain _ | n := n
    · exact nf rfl H
    rw [g_slices_rotateCmpFunc_huff_coin_l0.eq_2] at H
    show WP _ _ _ _ (((((Env.none.upd 0 (.whole 0)).upd 2 (.lit (.int .i64 x3672))).upd 4 (.fn 23 [])).upd 10 (.lit (.int .i64 x3795))).upd 11 (.lit (.int .i64 x3796))) (Mem.nil.push (.row 71 rdS_huff_coin x3797)) _
    refine WP.seq ?_
    refine WP.seq ?_
    refine WP.region ?_
    refine WPL.q (q_mv (v := .lit (.int _ _)) rfl) rfl ?_
    refine WPL.q (q_mv (v := .lit (.int _ _)) rfl) rfl ?_
    refine WPL.q (q_neq rfl rfl) rfl ?_
    refine WPL.nilW ?_
    refine W.now ?_
    refine Then.n ?_
    refine WP.cond (t := (!decide (x3795 = x3796))) rfl (fun hb => ?_) (fun hb => ?_)
    · replace H := cnt hb H
      refine WP.skipW ?_
      refine W.now ?_
      refine Then.n ?_
      refine WP.block ?_
      refine WP.seq ?_
      refine WP.region ?_
      refine WPL.q (q_mv (v := .lit (.int _ _)) rfl) rfl ?_
      refine WPL.q (q_mv (v := .lit (.int _ _)) rfl) rfl ?_
      refine WPL.q (q_gtr rfl rfl) rfl ?_
      refine WPL.nilW ?_
      refine W.now ?_
      refine Then.n ?_
      refine WP.cond (t := (decide (x3796 < x3795))) rfl (fun hb => ?_) (fun hb => ?_)
      · replace H := cnt hb H
        refine WP.seq ?_
        refine WP.region ?_
        refine WPL.q (q_mv (v := .whole _) rfl) rfl ?_
        refine WPL.q (q_mv (v := .lit (.int _ _)) rfl) rfl ?_
        refine WPL.q (q_mv (v := .lit (.int _ _)) rfl) rfl ?_
        refine WPL.q (q_sub rfl rfl) rfl ?_
        refine WPL.q (q_mv (v := .lit (.int _ _)) rfl) rfl ?_
        refine WPL.q (q_mv (v := .lit (.int _ _)) rfl) rfl ?_
        refine WPL.q (q_mv (v := .fn _ _) rfl) rfl ?_
        obtain ⟨x3806, h3804, H⟩ := bnd H
        refine WPL.c (runs_call (s := [0]) (t := [0]) (N := 1) (bor := []) fn36 rfl (s_slices_swapRangeCmpFunc_huff_coin k (IntKind.wrap .i64 (x3672 - x3795)) x3672 x3796 x3797 x3806 h3804) ⟨rfl, ⟨trivial, .inr ⟨rfl, rfl, rfl⟩⟩, by decide, rfl, trivial⟩ rfl trivial (.ren rfl rfl (.ren rfl rfl (.ren rfl rfl (.ren rfl rfl (.ren rfl rfl .nil))))) rfl ⟨trivial, rfl⟩ rfl) rfl ?_
        refine WPL.nilW ?_
        refine W.now ?_
        refine Then.n ?_
        refine WP.region ?_
        refine WPL.q (q_mv (v := .lit (.int _ _)) rfl) rfl ?_
        refine WPL.q (q_mv (v := .lit (.int _ _)) rfl) rfl ?_
        refine WPL.q (q_sub rfl rfl) rfl ?_
        refine WPL.q (q_as (v := .lit (.int _ _)) rfl) rfl ?_
        refine WPL.nilW ?_
        refine W.cv (Cv.weak (E' := (((((Env.none.upd 0 (.whole 0)).upd 2 (.lit (.int .i64 x3672))).upd 4 (.fn 23 [])).upd 10 (.lit (.int .i64 (IntKind.wrap .i64 (x3795 - x3796))))).upd 11 (.lit (.int .i64 x3796)))) (M' := (Mem.nil.push (.row 71 rdS_huff_coin x3806))) [0] hnp ⟨rfl, ⟨trivial, .inr ⟨rfl, rfl, rfl⟩⟩, by decide, rfl, ⟨trivial, rfl⟩⟩ (LeE.upd rfl rfl (LeE.upd rfl rfl (LeE.upd rfl rfl (LeE.upd rfl rfl (LeE.upd rfl rfl (LeE.none rfl rfl))))))) rfl ?_
        refine W.now ?_
        refine InBlock.n ?_
        exact Then.n ⟨n, ((IntKind.wrap .i64 (x3795 - x3796)), x3796, x3806), Nat.lt_succ_self n, H, rfl, rfl⟩
      · replace H := cnf hb H
        refine WP.seq ?_
        refine WP.region ?_
        refine WPL.q (q_mv (v := .whole _) rfl) rfl ?_
        refine WPL.q (q_mv (v := .lit (.int _ _)) rfl) rfl ?_
        refine WPL.q (q_mv (v := .lit (.int _ _)) rfl) rfl ?_
        refine WPL.q (q_sub rfl rfl) rfl ?_
        refine WPL.q (q_mv (v := .lit (.int _ _)) rfl) rfl ?_
        refine WPL.q (q_mv (v := .lit (.int _ _)) rfl) rfl ?_
        refine WPL.q (q_add rfl rfl) rfl ?_
        refine WPL.q (q_mv (v := .lit (.int _ _)) rfl) rfl ?_
        obtain ⟨x3807, h3807, H⟩ := bnd H
        refine WPL.q (q_nm (q_sub rfl rfl) (nm_int h3807)) rfl ?_
        refine WPL.q (q_mv (v := .lit (.int _ _)) rfl) rfl ?_
        refine WPL.q (q_mv (v := .fn _ _) rfl) rfl ?_
        obtain ⟨x3809, h3807, H⟩ := bnd H
        refine WPL.c (runs_call (s := [0]) (t := [0]) (N := 1) (bor := []) fn36 rfl (s_slices_swapRangeCmpFunc_huff_coin k (IntKind.wrap .i64 (x3672 - x3795)) x3807 x3795 x3797 x3809 h3807) ⟨rfl, ⟨trivial, .inr ⟨rfl, rfl, rfl⟩⟩, by decide, rfl, trivial⟩ rfl trivial (.ren rfl rfl (.ren rfl rfl (.ren rfl rfl (.ren rfl rfl (.ren rfl rfl .nil))))) rfl ⟨trivial, rfl⟩ rfl) rfl ?_
        refine WPL.nilW ?_
        refine W.now ?_
        refine Then.n ?_
        refine WP.region ?_
        refine WPL.q (q_mv (v := .lit (.int _ _)) rfl) rfl ?_
        refine WPL.q (q_mv (v := .lit (.int _ _)) rfl) rfl ?_
        refine WPL.q (q_sub rfl rfl) rfl ?_
        refine WPL.q (q_as (v := .lit (.int _ _)) rfl) rfl ?_
        refine WPL.nilW ?_
        refine W.cv (Cv.weak (E' := (((((Env.none.upd 0 (.whole 0)).upd 2 (.lit (.int .i64 x3672))).upd 4 (.fn 23 [])).upd 10 (.lit (.int .i64 x3795))).upd 11 (.lit (.int .i64 (IntKind.wrap .i64 (x3796 - x3795)))))) (M' := (Mem.nil.push (.row 71 rdS_huff_coin x3809))) [0] hnp ⟨rfl, ⟨trivial, .inr ⟨rfl, rfl, rfl⟩⟩, by decide, rfl, ⟨trivial, rfl⟩⟩ (LeE.upd rfl rfl (LeE.upd rfl rfl (LeE.upd rfl rfl (LeE.upd rfl rfl (LeE.upd rfl rfl (LeE.none rfl rfl))))))) rfl ?_
        refine W.now ?_
        refine InBlock.n ?_
        exact Then.n ⟨n, (x3795, (IntKind.wrap .i64 (x3796 - x3795)), x3809), Nat.lt_succ_self n, H, rfl, rfl⟩
    · replace H := cnf hb H
      refine WP.exitW ?_
      refine W.cv (Cv.weak (E' := ((((Env.none.upd 0 (.whole 0)).upd 2 (.lit (.int .i64 x3672))).upd 4 (.fn 23 [])).upd 10 (.lit (.int .i64 x3795)))) (M' := (Mem.nil.push (.row 71 rdS_huff_coin x3797))) [0] hnp ⟨rfl, ⟨trivial, .inr ⟨rfl, rfl, rfl⟩⟩, by decide, rfl, ⟨trivial, rfl⟩⟩ (LeE.upd rfl rfl (LeE.upd rfl rfl (LeE.upd rfl rfl (LeE.upd rfl rfl (LeE.none rfl rfl)))))) rfl ?_
      refine W.now ?_
      refine Then.x ?_
      refine Then.x ?_
      have q0 := (Prod.mk.inj (Option.some.inj H)).1
      have q1 := (Prod.mk.inj (Option.some.inj H)).2
      subst q0
      subst q1
      exact ⟨rfl, rfl, rfl⟩
  · rintro _ _ _ ⟨rfl, rfl, rfl⟩
    refine W.now ?_
    refine InBlock.x0 ?_
    refine Then.n ?_
    refine WP.region ?_
    refine WPL.q (q_mv (v := .whole _) rfl) rfl ?_
    refine WPL.q (q_mv (v := .lit (.int _ _)) rfl) rfl ?_
    refine WPL.q (q_mv (v := .lit (.int _ _)) rfl) rfl ?_
    refine WPL.q (q_sub rfl rfl) rfl ?_
    refine WPL.q (q_mv (v := .lit (.int _ _)) rfl) rfl ?_
    refine WPL.q (q_mv (v := .lit (.int _ _)) rfl) rfl ?_
    refine WPL.q (q_mv (v := .fn _ _) rfl) rfl ?_
    obtain ⟨x3812, h3810, H⟩ := bnd H
    refine WPL.c (runs_call (s := [0]) (t := [0]) (N := 1) (bor := []) fn36 rfl (s_slices_swapRangeCmpFunc_huff_coin k (IntKind.wrap .i64 (x3672 - x3803)) x3672 x3803 x3804 x3812 h3810) ⟨rfl, ⟨trivial, .inr ⟨rfl, rfl, rfl⟩⟩, by decide, rfl, trivial⟩ rfl trivial (.ren rfl rfl (.ren rfl rfl (.ren rfl rfl (.ren rfl rfl (.ren rfl rfl .nil))))) rfl ⟨trivial, rfl⟩ rfl) rfl ?_
    refine WPL.nilW ?_
    refine W.now ?_
    have q0 := (Option.some.inj H)
    subst q0
    exact ⟨trivial, _, rfl, [0], (.tup []), (Mem.nil.push (.row 71 rdS_huff_coin x3812)), ⟨rfl, ⟨trivial, .inr ⟨rfl, rfl, rfl⟩⟩, by decide, rfl, ⟨trivial, rfl⟩⟩, rfl, rfl, rfl, rfl⟩
set_option maxRecDepth 100000 in
set_option maxHeartbeats 4000000 in
theorem sb_slices_symMergeCmpFunc_huff_coin (rc3379 : Int → Int → Int → (List S_huff_coin) → Option (List S_huff_coin)) (hrc3379 : ∀ (x3375 : Int) (x3376 : Int) (x3377 : Int) (x3378 : (List S_huff_coin)) (x3848 : (List S_huff_coin)), rc3379 x3375 x3376 x3377 x3378 = some x3848 → Go.Q.Spec Try.prog 34 1 [.whole 0, .lit (.int .i64 x3375), .lit (.int .i64 x3376), .lit (.int .i64 x3377), .fn 23 []] (Mem.nil.push (.row 71 rdS_huff_coin x3378)) (fun o M => o = .ret (.tup []) ∧ M = (Mem.nil.push (.row 71 rdS_huff_coin x3848)))) (k : Nat) (x3375 : Int) (x3376 : Int) (x3377 : Int) (x3378 : (List S_huff_coin)) (x3848 : (List S_huff_coin)) (H : h_slices_symMergeCmpFunc_huff_coin rc3379 k x3375 x3376 x3377 x3378 = some x3848) : Go.Q.Spec Try.prog 34 1 [.whole 0, .lit (.int .i64 x3375), .lit (.int .i64 x3376), .lit (.int .i64 x3377), .fn 23 []] (Mem.nil.push (.row 71 rdS_huff_coin x3378)) (fun o M => o = .ret (.tup []) ∧ M = (Mem.nil.push (.row 71 rdS_huff_coin x3848))) := by
  unfold h_slices_symMergeCmpFunc_huff_coin at H
  refine Go.Q.Spec.of_bodyR (rs := []) (nt := 220) Try.func34 rfl rfl (by intro t T h; simp at h) rfl rfl fun cx hnp => ?_
  refine WP.seq ?_
  refine WP.seq ?_
  refine WP.region ?_
  refine WPL.q (q_mv (v := .lit (.int _ _)) rfl) rfl ?_
  refine WPL.q (q_mv (v := .lit (.int _ _)) rfl) rfl ?_
  refine WPL.q (q_sub rfl rfl) rfl ?_
  obtain ⟨x4244, h4244, H⟩ := bnd H
  refine WPL.q (q_nm (q_eql rfl rfl) (nm_bool h4244)) rfl ?_
  refine WPL.nilW ?_
  refine W.now ?_
  refine Then.n ?_
  refine WP.cond (t := x4244) rfl (fun hb => ?_) (fun hb => ?_)
  · replace H := cnt hb H
    refine WP.seq ?_
    refine WP.region ?_
    refine WPL.q (q_mv (v := .lit (.int _ _)) rfl) rfl ?_
    refine WPL.q (q_as (v := .lit (.int _ _)) rfl) rfl ?_
    refine WPL.nilW ?_
    refine W.now ?_
    refine Then.n ?_
    refine WP.seq ?_
    refine WP.region ?_
    refine WPL.q (q_mv (v := .lit (.int _ _)) rfl) rfl ?_
    refine WPL.q (q_as (v := .lit (.int _ _)) rfl) rfl ?_
    refine WPL.nilW ?_
    refine W.now ?_
    refine Then.n ?_
    refine WP.seq ?_
    refine WP.block ?_
    refine WP.cv (Cv.weak (E' := (((((Env.none.upd 0 (.whole 0)).upd 1 (.lit (.int .i64 x3375))).upd 4 (.fn 23 [])).upd 10 (.lit (.int .i64 x3376))).upd 11 (.lit (.int .i64 x3377)))) (M' := (Mem.nil.push (.row 71 rdS_huff_coin x3378))) [0] hnp ⟨rfl, ⟨trivial, .inr ⟨rfl, rfl, rfl⟩⟩, by decide, rfl, ⟨trivial, rfl⟩⟩ (LeE.upd rfl rfl (LeE.upd rfl rfl (LeE.upd rfl rfl (LeE.upd rfl rfl (LeE.upd rfl rfl (LeE.none rfl rfl))))))) ?_
    obtain ⟨x4271, H4283, H⟩ := bnd H
    refine WP.monoW (Q := fun x E M => x = .exit 0 ∧ E = (((Env.none.upd 0 (.whole 0)).upd 1 (.lit (.int .i64 x3375))).upd 10 (.lit (.int .i64 x4271))) ∧ M = (Mem.nil.push (.row 71 rdS_huff_coin x3378))) ?_ ?_
    · refine WP.loop (β := Int × Int) (fun n b => g_slices_symMergeCmpFunc_huff_coin_l0 k x3375 x3378 n b.1 b.2 = some x4271) (fun b => (((((Env.none.upd 0 (.whole 0)).upd 1 (.lit (.int .i64 x3375))).upd 4 (.fn 23 [])).upd 10 (.lit (.int .i64 b.1))).upd 11 (.lit (.int .i64 b.2)))) (fun b => (Mem.nil.push (.row 71 rdS_huff_coin x3378))) k (x3376, x3377) H4283 rfl rfl ?_
      rintro n ⟨x4257, x4258⟩ H
      obtain _ | n := n
      · exact nf rfl H
      rw [g_slices_symMergeCmpFunc_huff_coin_l0.eq_2] at H
      show WP _ _ _ _ (((((Env.none.upd 0 (.whole 0)).upd 1 (.lit (.int .i64 x3375))).upd 4 (.fn 23 [])).upd 10 (.lit (.int .i64 x4257))).upd 11 (.lit (.int .i64 x4258))) (Mem.nil.push (.row 71 rdS_huff_coin x3378)) _
      refine WP.seq ?_
      refine WP.seq ?_
      refine WP.region ?_
      refine WPL.q (q_mv (v := .lit (.int _ _)) rfl) rfl ?_
      refine WPL.q (q_mv (v := .lit (.int _ _)) rfl) rfl ?_
      refine WPL.q (q_lss rfl rfl) rfl ?_
      refine WPL.nilW ?_
      refine W.now ?_
      refine Then.n ?_
      refine WP.cond (t := (decide (x4257 < x4258))) rfl (fun hb => ?_) (fun hb => ?_)
      · replace H := cnt hb H
        refine WP.skipW ?_
        refine W.now ?_
        refine Then.n ?_
        refine WP.block ?_
        refine WP.seq ?_
        refine WP.region ?_
        refine WPL.q (q_mv (v := .lit (.int _ _)) rfl) rfl ?_
        refine WPL.q (q_mv (v := .lit (.int _ _)) rfl) rfl ?_
        refine WPL.q (q_add rfl rfl) rfl ?_
        obtain ⟨x4272, h4272, H⟩ := bnd H
        refine WPL.q (q_nm (q_conv Try.underlying3 Try.underlying46 rfl) (nm_int h4272)) rfl ?_
        refine WPL.q (q_shr rfl rfl rfl) rfl ?_
        refine WPL.q (q_conv Try.underlying46 Try.underlying3 rfl) rfl ?_
        refine WPL.q (q_as (v := .lit (.int _ _)) rfl) rfl ?_
        refine WPL.nilW ?_
        refine W.now ?_
        refine Then.n ?_
        refine WP.seq ?_
        refine WP.regionD' 11 [0] [] mixed rfl ?_
        refine WPD.takeT 0 rfl (by kernel_rfl) (q_mv (v := .fn _ _) rfl) rfl ?_
        refine WPD.takeT 1 rfl (by kernel_rfl) (q_mv (v := .whole _) rfl) rfl ?_
        refine WPD.takeT 2 rfl (by kernel_rfl) (q_mv (v := .lit (.int _ _)) rfl) rfl ?_
        obtain ⟨x4279, h4279, H⟩ := bnd H
        refine WPD.takeT 3 rfl (by kernel_rfl) (q_index_row sl69 rfl rfl rfl (ixs h4279)) rfl ?_
        refine WPD.takeT 5 rfl (by kernel_rfl) (q_mv (v := .whole _) rfl) rfl ?_
        refine WPD.takeT 6 rfl (by kernel_rfl) (q_mv (v := .lit (.int _ _)) rfl) rfl ?_
        obtain ⟨x4280, h4280, H⟩ := bnd H
        refine WPD.takeT 7 rfl (by kernel_rfl) (q_index_row sl69 rfl rfl rfl (ixs h4280)) rfl ?_
        refine WPD.take 4 rfl (by kernel_rfl) (q_load_rowag (j := (Int.toNat (IntKind.wrap .i64 (shrI .u64 x4272 1)))) ag71 rfl rfl (ixj h4279) rfl S_huff_coin.sp) rfl rfl ?_
        refine WPD.take 8 rfl (by kernel_rfl) (q_load_rowag (j := (Int.toNat x3375)) ag71 rfl rfl (ixj h4280) rfl S_huff_coin.sp) rfl rfl ?_
        obtain ⟨x4282, h4280, H⟩ := bnd H
        refine WPD.eff 9 [0] [] rfl (by kernel_rfl) (runs_call (s := []) (t := []) (N := 1) (bor := []) fn23 rfl (s_huff_Lengths_1 k x4279.ffreq x4279.fsyms x4280.ffreq x4280.fsyms x4282 h4280) ⟨rfl, trivial, by decide, rfl, trivial⟩ rfl trivial (.ren rfl rfl (.ren rfl rfl .nil)) rfl trivial rfl) rfl rfl ?_
        refine WPD.takeT 10 rfl (by kernel_rfl) (q_lss rfl rfl) rfl ?_
        refine WPD.doneW (by kernel_rfl) ?_
        refine W.now ?_
        refine Then.n ?_
        refine WP.cond (t := (decide (x4282 < 0))) rfl (fun hb => ?_) (fun hb => ?_)
        · replace H := cnt hb H
          refine WP.region ?_
          refine WPL.q (q_mv (v := .lit (.int _ _)) rfl) rfl ?_
          obtain ⟨x4283, h4283, H⟩ := bnd H
          refine WPL.q (q_nm (q_add rfl rfl) (nm_int h4283)) rfl ?_
          refine WPL.q (q_as (v := .lit (.int _ _)) rfl) rfl ?_
          refine WPL.nilW ?_
          refine W.cv (Cv.weak (E' := (((((Env.none.upd 0 (.whole 0)).upd 1 (.lit (.int .i64 x3375))).upd 4 (.fn 23 [])).upd 10 (.lit (.int .i64 x4283))).upd 11 (.lit (.int .i64 x4258)))) (M' := (Mem.nil.push (.row 71 rdS_huff_coin x3378))) [0] hnp ⟨rfl, ⟨trivial, .inr ⟨rfl, rfl, rfl⟩⟩, by decide, rfl, ⟨trivial, rfl⟩⟩ (LeE.upd rfl rfl (LeE.upd rfl rfl (LeE.upd rfl rfl (LeE.upd rfl rfl (LeE.upd rfl rfl (LeE.none rfl rfl))))))) rfl ?_
          refine W.now ?_
          refine InBlock.n ?_
          exact Then.n ⟨n, (x4283, x4258), Nat.lt_succ_self n, H, rfl, rfl⟩
        · replace H := cnf hb H
          refine WP.region ?_
          refine WPL.q (q_mv (v := .lit (.int _ _)) rfl) rfl ?_
          refine WPL.q (q_as (v := .lit (.int _ _)) rfl) rfl ?_
          refine WPL.nilW ?_
          refine W.cv (Cv.weak (E' := (((((Env.none.upd 0 (.whole 0)).upd 1 (.lit (.int .i64 x3375))).upd 4 (.fn 23 [])).upd 10 (.lit (.int .i64 x4257))).upd 11 (.lit (.int .i64 (IntKind.wrap .i64 (shrI .u64 x4272 1)))))) (M' := (Mem.nil.push (.row 71 rdS_huff_coin x3378))) [0] hnp ⟨rfl, ⟨trivial, .inr ⟨rfl, rfl, rfl⟩⟩, by decide, rfl, ⟨trivial, rfl⟩⟩ (LeE.upd rfl rfl (LeE.upd rfl rfl (LeE.upd rfl rfl (LeE.upd rfl rfl (LeE.upd rfl rfl (LeE.none rfl rfl))))))) rfl ?_
          refine W.now ?_
          refine InBlock.n ?_
          exact Then.n ⟨n, (x4257, (IntKind.wrap .i64 (shrI .u64 x4272 1))), Nat.lt_succ_self n, H, rfl, rfl⟩
      · replace H := cnf hb H
        refine WP.exitW ?_
        refine W.cv (Cv.weak (E' := (((Env.none.upd 0 (.whole 0)).upd 1 (.lit (.int .i64 x3375))).upd 10 (.lit (.int .i64 x4257)))) (M' := (Mem.nil.push (.row 71 rdS_huff_coin x3378))) [0] hnp ⟨rfl, ⟨trivial, .inr ⟨rfl, rfl, rfl⟩⟩, by decide, rfl, ⟨trivial, rfl⟩⟩ (LeE.upd rfl rfl (LeE.upd rfl rfl (LeE.upd rfl rfl (LeE.none rfl rfl))))) rfl ?_
        refine W.now ?_
        refine Then.x ?_
        refine Then.x ?_
        have q0 := (Option.some.inj H)
        subst q0
        exact ⟨rfl, rfl, rfl⟩
    · rintro _ _ _ ⟨rfl, rfl, rfl⟩
      refine W.now ?_
      refine InBlock.x0 ?_
      refine Then.n ?_
      refine WP.seq ?_
      refine WP.seq ?_
      refine WP.region ?_
      refine WPL.q (q_mv (v := .lit (.int _ _)) rfl) rfl ?_
      refine WPL.q (q_as (v := .lit (.int _ _)) rfl) rfl ?_
      refine WPL.nilW ?_
      refine W.now ?_
      refine Then.n ?_
      refine WP.block ?_
      refine WP.cv (Cv.weak (E' := (((Env.none.upd 0 (.whole 0)).upd 10 (.lit (.int .i64 x4271))).upd 13 (.lit (.int .i64 x3375)))) (M' := (Mem.nil.push (.row 71 rdS_huff_coin x3378))) [0] hnp ⟨rfl, ⟨trivial, .inr ⟨rfl, rfl, rfl⟩⟩, by decide, rfl, ⟨trivial, rfl⟩⟩ (LeE.upd rfl rfl (LeE.upd rfl rfl (LeE.upd rfl rfl (LeE.none rfl rfl))))) ?_
      obtain ⟨x4317, H4332, H⟩ := bnd H
      refine WP.monoW (Q := fun x E M => x = .exit 2 ∧ E = Env.none ∧ M = (Mem.nil.push (.row 71 rdS_huff_coin x4317))) ?_ ?_
      · refine WP.loop (β := Int × (List S_huff_coin)) (fun n b => g_slices_symMergeCmpFunc_huff_coin_l1 k x4271 n b.1 b.2 = some x4317) (fun b => (((Env.none.upd 0 (.whole 0)).upd 10 (.lit (.int .i64 x4271))).upd 13 (.lit (.int .i64 b.1)))) (fun b => (Mem.nil.push (.row 71 rdS_huff_coin b.2))) k (x3375, x3378) H4332 rfl rfl ?_
        rintro n ⟨x4300, x4301⟩ H
        obtain _ | n := n
        · exact nf rfl H
        rw [g_slices_symMergeCmpFunc_huff_coin_l1.eq_2] at H
        show WP _ _ _ _ (((Env.none.upd 0 (.whole 0)).upd 10 (.lit (.int .i64 x4271))).upd 13 (.lit (.int .i64 x4300))) (Mem.nil.push (.row 71 rdS_huff_coin x4301)) _
        refine WP.seq ?_
        refine WP.seq ?_
        refine WP.region ?_
        refine WPL.q (q_mv (v := .lit (.int _ _)) rfl) rfl ?_
        refine WPL.q (q_mv (v := .lit (.int _ _)) rfl) rfl ?_
        refine WPL.q (q_sub rfl rfl) rfl ?_
        obtain ⟨x4319, h4319, H⟩ := bnd H
        refine WPL.q (q_nm (q_lss rfl rfl) (nm_bool h4319)) rfl ?_
        refine WPL.nilW ?_
        refine W.now ?_
        refine Then.n ?_
        refine WP.cond (t := x4319) rfl (fun hb => ?_) (fun hb => ?_)
        · replace H := cnt hb H
          refine WP.skipW ?_
          refine W.now ?_
          refine Then.n ?_
          refine WP.seq ?_
          refine WP.block ?_
          refine WP.regionD' 18 [0] [15] mixed rfl ?_
          refine WPD.takeT 0 rfl (by kernel_rfl) (q_mv (v := .whole _) rfl) rfl ?_
          refine WPD.takeT 1 rfl (by kernel_rfl) (q_mv (v := .lit (.int _ _)) rfl) rfl ?_
          refine WPD.takeT 2 rfl (by kernel_rfl) (q_mv (v := .whole _) rfl) rfl ?_
          refine WPD.takeT 3 rfl (by kernel_rfl) (q_mv (v := .lit (.int _ _)) rfl) rfl ?_
          refine WPD.takeT 4 rfl (by kernel_rfl) (q_add rfl rfl) rfl ?_
          refine WPD.takeT 5 rfl (by kernel_rfl) (q_mv (v := .whole _) rfl) rfl ?_
          refine WPD.takeT 6 rfl (by kernel_rfl) (q_mv (v := .lit (.int _ _)) rfl) rfl ?_
          refine WPD.takeT 7 rfl (by kernel_rfl) (q_add rfl rfl) rfl ?_
          obtain ⟨x4329, h4329, H⟩ := bnd H
          refine WPD.takeT 8 rfl (by kernel_rfl) (q_index_row sl69 rfl rfl rfl (ixs h4329)) rfl ?_
          refine WPD.takeT 10 rfl (by kernel_rfl) (q_mv (v := .whole _) rfl) rfl ?_
          refine WPD.takeT 11 rfl (by kernel_rfl) (q_mv (v := .lit (.int _ _)) rfl) rfl ?_
          obtain ⟨x4330, h4330, H⟩ := bnd H
          refine WPD.takeT 12 rfl (by kernel_rfl) (q_index_row sl69 rfl rfl rfl (ixs h4330)) rfl ?_
          refine WPD.take 9 rfl (by kernel_rfl) (q_load_rowag (j := (Int.toNat (IntKind.wrap .i64 (x4300 + 1)))) ag71 rfl rfl (ixj h4329) rfl S_huff_coin.sp) rfl rfl ?_
          refine WPD.take 13 rfl (by kernel_rfl) (q_load_rowag (j := (Int.toNat x4300)) ag71 rfl rfl (ixj h4330) rfl S_huff_coin.sp) rfl rfl ?_
          obtain ⟨x4331, h4331, H⟩ := bnd H
          refine WPD.takeT 14 rfl (by kernel_rfl) (q_index_row sl69 rfl rfl rfl (ixs h4331)) rfl ?_
          refine WPD.effS 15 [] [] rfl (by kernel_rfl) (s_store_row (j := (Int.toNat x4300)) (d := (⟨x4329.ffreq, x4329.fsyms⟩ : S_huff_coin)) sz71 rfl rfl rfl rfl (Joins.via (Joins.cons Joins.sc (Joins.cons Joins.one Joins.unit))) (ixl h4331)) rfl ?_
          obtain ⟨x4332, h4332, H⟩ := bnd H
          refine WPD.takeT 16 rfl (by kernel_rfl) (q_index_row sl69 rfl rfl rfl (ixs h4332)) rfl ?_
          refine WPD.effS 17 [] [] rfl (by kernel_rfl) (s_store_row (j := (Int.toNat (IntKind.wrap .i64 (x4300 + 1)))) (d := (⟨x4330.ffreq, x4330.fsyms⟩ : S_huff_coin)) sz71 rfl rfl rfl rfl (Joins.via (Joins.cons Joins.sc (Joins.cons Joins.one Joins.unit))) (ixl h4332)) rfl ?_
          refine WPD.doneW (by kernel_rfl) ?_
          refine W.now ?_
          refine InBlock.n ?_
          refine Then.n ?_
          refine WP.region ?_
          refine WPL.q (q_mv (v := .lit (.int _ _)) rfl) rfl ?_
          refine WPL.q (q_add rfl rfl) rfl ?_
          refine WPL.q (q_as (v := .lit (.int _ _)) rfl) rfl ?_
          refine WPL.nilW ?_
          refine W.cv (Cv.weak (E' := (((Env.none.upd 0 (.whole 0)).upd 10 (.lit (.int .i64 x4271))).upd 13 (.lit (.int .i64 (IntKind.wrap .i64 (x4300 + 1)))))) (M' := (Mem.nil.push (.row 71 rdS_huff_coin (List.set (List.set x4301 (Int.toNat x4300) (⟨x4329.ffreq, x4329.fsyms⟩ : S_huff_coin)) (Int.toNat (IntKind.wrap .i64 (x4300 + 1))) (⟨x4330.ffreq, x4330.fsyms⟩ : S_huff_coin))))) [0] hnp ⟨rfl, ⟨trivial, .inr ⟨rfl, rfl, rfl⟩⟩, by decide, rfl, ⟨trivial, rfl⟩⟩ (LeE.upd rfl rfl (LeE.upd rfl rfl (LeE.upd rfl rfl (LeE.none rfl rfl))))) rfl ?_
          refine W.now ?_
          exact Then.n ⟨n, ((IntKind.wrap .i64 (x4300 + 1)), (List.set (List.set x4301 (Int.toNat x4300) (⟨x4329.ffreq, x4329.fsyms⟩ : S_huff_coin)) (Int.toNat (IntKind.wrap .i64 (x4300 + 1))) (⟨x4330.ffreq, x4330.fsyms⟩ : S_huff_coin))), Nat.lt_succ_self n, H, rfl, rfl⟩
        · replace H := cnf hb H
          refine WP.exitW ?_
          refine W.cv (Cv.weak (E' := Env.none) (M' := (Mem.nil.push (.row 71 rdS_huff_coin x4301))) [0] hnp ⟨rfl, ⟨trivial, .inr ⟨rfl, rfl, rfl⟩⟩, by decide, rfl, ⟨trivial, rfl⟩⟩ (LeE.none rfl rfl)) rfl ?_
          refine W.now ?_
          refine Then.x ?_
          refine Then.x ?_
          have q0 := (Option.some.inj H)
          subst q0
          exact ⟨rfl, rfl, rfl⟩
      · rintro _ _ _ ⟨rfl, rfl, rfl⟩
        refine W.now ?_
        refine InBlock.x0 ?_
        refine Then.n ?_
        refine WP.retW ?_
        refine W.now ?_
        refine Then.r ?_
        have q0 := (Option.some.inj H)
        subst q0
        exact ⟨trivial, _, rfl, [0], (.tup []), (Mem.nil.push (.row 71 rdS_huff_coin x4317)), ⟨rfl, ⟨trivial, .inr ⟨rfl, rfl, rfl⟩⟩, by decide, rfl, ⟨trivial, rfl⟩⟩, rfl, rfl, rfl, rfl⟩
  · replace H := cnf hb H
    refine WP.skipW ?_
    refine W.now ?_
    refine Then.n ?_
    refine WP.seq ?_
    refine WP.seq ?_
    refine WP.region ?_
    refine WPL.q (q_mv (v := .lit (.int _ _)) rfl) rfl ?_
    refine WPL.q (q_mv (v := .lit (.int _ _)) rfl) rfl ?_
    refine WPL.q (q_sub rfl rfl) rfl ?_
    obtain ⟨x4393, h4393, H⟩ := bnd H
    refine WPL.q (q_nm (q_eql rfl rfl) (nm_bool h4393)) rfl ?_
    refine WPL.nilW ?_
    refine W.now ?_
    refine Then.n ?_
    refine WP.cond (t := x4393) rfl (fun hb => ?_) (fun hb => ?_)
    · replace H := cnt hb H
      refine WP.seq ?_
      refine WP.region ?_
      refine WPL.q (q_mv (v := .lit (.int _ _)) rfl) rfl ?_
      refine WPL.q (q_as (v := .lit (.int _ _)) rfl) rfl ?_
      refine WPL.nilW ?_
      refine W.now ?_
      refine Then.n ?_
      refine WP.seq ?_
      refine WP.region ?_
      refine WPL.q (q_mv (v := .lit (.int _ _)) rfl) rfl ?_
      refine WPL.q (q_as (v := .lit (.int _ _)) rfl) rfl ?_
      refine WPL.nilW ?_
      refine W.now ?_
      refine Then.n ?_
      refine WP.seq ?_
      refine WP.block ?_
      refine WP.cv (Cv.weak (E' := (((((Env.none.upd 0 (.whole 0)).upd 2 (.lit (.int .i64 x3376))).upd 4 (.fn 23 [])).upd 14 (.lit (.int .i64 x3375))).upd 15 (.lit (.int .i64 x3376)))) (M' := (Mem.nil.push (.row 71 rdS_huff_coin x3378))) [0] hnp ⟨rfl, ⟨trivial, .inr ⟨rfl, rfl, rfl⟩⟩, by decide, rfl, ⟨trivial, rfl⟩⟩ (LeE.upd rfl rfl (LeE.upd rfl rfl (LeE.upd rfl rfl (LeE.upd rfl rfl (LeE.upd rfl rfl (LeE.none rfl rfl))))))) ?_
      obtain ⟨x4420, H4432, H⟩ := bnd H
      refine WP.monoW (Q := fun x E M => x = .exit 4 ∧ E = (((Env.none.upd 0 (.whole 0)).upd 2 (.lit (.int .i64 x3376))).upd 14 (.lit (.int .i64 x4420))) ∧ M = (Mem.nil.push (.row 71 rdS_huff_coin x3378))) ?_ ?_
      · refine WP.loop (β := Int × Int) (fun n b => g_slices_symMergeCmpFunc_huff_coin_l2 k x3376 x3378 n b.1 b.2 = some x4420) (fun b => (((((Env.none.upd 0 (.whole 0)).upd 2 (.lit (.int .i64 x3376))).upd 4 (.fn 23 [])).upd 14 (.lit (.int .i64 b.1))).upd 15 (.lit (.int .i64 b.2)))) (fun b => (Mem.nil.push (.row 71 rdS_huff_coin x3378))) k (x3375, x3376) H4432 rfl rfl ?_
        rintro n ⟨x4406, x4407⟩ H
        obtain _ | n := n
        · exact nf rfl H
        rw [g_slices_symMergeCmpFunc_huff_coin_l2.eq_2] at H
        show WP _ _ _ _ (((((Env.none.upd 0 (.whole 0)).upd 2 (.lit (.int .i64 x3376))).upd 4 (.fn 23 [])).upd 14 (.lit (.int .i64 x4406))).upd 15 (.lit (.int .i64 x4407))) (Mem.nil.push (.row 71 rdS_huff_coin x3378)) _
        refine WP.seq ?_
        refine WP.seq ?_
        refine WP.region ?_
        refine WPL.q (q_mv (v := .lit (.int _ _)) rfl) rfl ?_
        refine WPL.q (q_mv (v := .lit (.int _ _)) rfl) rfl ?_
        refine WPL.q (q_lss rfl rfl) rfl ?_
        refine WPL.nilW ?_
        refine W.now ?_
        refine Then.n ?_
        refine WP.cond (t := (decide (x4406 < x4407))) rfl (fun hb => ?_) (fun hb => ?_)
        · replace H := cnt hb H
          refine WP.skipW ?_
          refine W.now ?_
          refine Then.n ?_
          refine WP.block ?_
          refine WP.seq ?_
          refine WP.region ?_
          refine WPL.q (q_mv (v := .lit (.int _ _)) rfl) rfl ?_
          refine WPL.q (q_mv (v := .lit (.int _ _)) rfl) rfl ?_
          refine WPL.q (q_add rfl rfl) rfl ?_
          obtain ⟨x4421, h4421, H⟩ := bnd H
          refine WPL.q (q_nm (q_conv Try.underlying3 Try.underlying46 rfl) (nm_int h4421)) rfl ?_
          refine WPL.q (q_shr rfl rfl rfl) rfl ?_
          refine WPL.q (q_conv Try.underlying46 Try.underlying3 rfl) rfl ?_
          refine WPL.q (q_as (v := .lit (.int _ _)) rfl) rfl ?_
          refine WPL.nilW ?_
          refine W.now ?_
          refine Then.n ?_
          refine WP.seq ?_
          refine WP.regionD' 12 [0] [] mixed rfl ?_
          refine WPD.takeT 0 rfl (by kernel_rfl) (q_mv (v := .fn _ _) rfl) rfl ?_
          refine WPD.takeT 1 rfl (by kernel_rfl) (q_mv (v := .whole _) rfl) rfl ?_
          refine WPD.takeT 2 rfl (by kernel_rfl) (q_mv (v := .lit (.int _ _)) rfl) rfl ?_
          obtain ⟨x4428, h4428, H⟩ := bnd H
          refine WPD.takeT 3 rfl (by kernel_rfl) (q_index_row sl69 rfl rfl rfl (ixs h4428)) rfl ?_
          refine WPD.takeT 5 rfl (by kernel_rfl) (q_mv (v := .whole _) rfl) rfl ?_
          refine WPD.takeT 6 rfl (by kernel_rfl) (q_mv (v := .lit (.int _ _)) rfl) rfl ?_
          obtain ⟨x4429, h4429, H⟩ := bnd H
          refine WPD.takeT 7 rfl (by kernel_rfl) (q_index_row sl69 rfl rfl rfl (ixs h4429)) rfl ?_
          refine WPD.take 4 rfl (by kernel_rfl) (q_load_rowag (j := (Int.toNat x3376)) ag71 rfl rfl (ixj h4428) rfl S_huff_coin.sp) rfl rfl ?_
          refine WPD.take 8 rfl (by kernel_rfl) (q_load_rowag (j := (Int.toNat (IntKind.wrap .i64 (shrI .u64 x4421 1)))) ag71 rfl rfl (ixj h4429) rfl S_huff_coin.sp) rfl rfl ?_
          obtain ⟨x4431, h4429, H⟩ := bnd H
          refine WPD.eff 9 [0] [] rfl (by kernel_rfl) (runs_call (s := []) (t := []) (N := 1) (bor := []) fn23 rfl (s_huff_Lengths_1 k x4428.ffreq x4428.fsyms x4429.ffreq x4429.fsyms x4431 h4429) ⟨rfl, trivial, by decide, rfl, trivial⟩ rfl trivial (.ren rfl rfl (.ren rfl rfl .nil)) rfl trivial rfl) rfl rfl ?_
          refine WPD.takeT 10 rfl (by kernel_rfl) (q_lss rfl rfl) rfl ?_
          refine WPD.takeT 11 rfl (by kernel_rfl) (q_not rfl) rfl ?_
          refine WPD.doneW (by kernel_rfl) ?_
          refine W.now ?_
          refine Then.n ?_
          refine WP.cond (t := (!(decide (x4431 < 0)))) rfl (fun hb => ?_) (fun hb => ?_)
          · replace H := cnt hb H
            refine WP.region ?_
            refine WPL.q (q_mv (v := .lit (.int _ _)) rfl) rfl ?_
            obtain ⟨x4432, h4432, H⟩ := bnd H
            refine WPL.q (q_nm (q_add rfl rfl) (nm_int h4432)) rfl ?_
            refine WPL.q (q_as (v := .lit (.int _ _)) rfl) rfl ?_
            refine WPL.nilW ?_
            refine W.cv (Cv.weak (E' := (((((Env.none.upd 0 (.whole 0)).upd 2 (.lit (.int .i64 x3376))).upd 4 (.fn 23 [])).upd 14 (.lit (.int .i64 x4432))).upd 15 (.lit (.int .i64 x4407)))) (M' := (Mem.nil.push (.row 71 rdS_huff_coin x3378))) [0] hnp ⟨rfl, ⟨trivial, .inr ⟨rfl, rfl, rfl⟩⟩, by decide, rfl, ⟨trivial, rfl⟩⟩ (LeE.upd rfl rfl (LeE.upd rfl rfl (LeE.upd rfl rfl (LeE.upd rfl rfl (LeE.upd rfl rfl (LeE.none rfl rfl))))))) rfl ?_
            refine W.now ?_
            refine InBlock.n ?_
            exact Then.n ⟨n, (x4432, x4407), Nat.lt_succ_self n, H, rfl, rfl⟩
          · replace H := cnf hb H
            refine WP.region ?_
            refine WPL.q (q_mv (v := .lit (.int _ _)) rfl) rfl ?_
            refine WPL.q (q_as (v := .lit (.int _ _)) rfl) rfl ?_
            refine WPL.nilW ?_
            refine W.cv (Cv.weak (E' := (((((Env.none.upd 0 (.whole 0)).upd 2 (.lit (.int .i64 x3376))).upd 4 (.fn 23 [])).upd 14 (.lit (.int .i64 x4406))).upd 15 (.lit (.int .i64 (IntKind.wrap .i64 (shrI .u64 x4421 1)))))) (M' := (Mem.nil.push (.row 71 rdS_huff_coin x3378))) [0] hnp ⟨rfl, ⟨trivial, .inr ⟨rfl, rfl, rfl⟩⟩, by decide, rfl, ⟨trivial, rfl⟩⟩ (LeE.upd rfl rfl (LeE.upd rfl rfl (LeE.upd rfl rfl (LeE.upd rfl rfl (LeE.upd rfl rfl (LeE.none rfl rfl))))))) rfl ?_
            refine W.now ?_
            refine InBlock.n ?_
            exact Then.n ⟨n, (x4406, (IntKind.wrap .i64 (shrI .u64 x4421 1))), Nat.lt_succ_self n, H, rfl, rfl⟩
        · replace H := cnf hb H
          refine WP.exitW ?_
          refine W.cv (Cv.weak (E' := (((Env.none.upd 0 (.whole 0)).upd 2 (.lit (.int .i64 x3376))).upd 14 (.lit (.int .i64 x4406)))) (M' := (Mem.nil.push (.row 71 rdS_huff_coin x3378))) [0] hnp ⟨rfl, ⟨trivial, .inr ⟨rfl, rfl, rfl⟩⟩, by decide, rfl, ⟨trivial, rfl⟩⟩ (LeE.upd rfl rfl (LeE.upd rfl rfl (LeE.upd rfl rfl (LeE.none rfl rfl))))) rfl ?_
          refine W.now ?_
          refine Then.x ?_
          refine Then.x ?_
          have q0 := (Option.some.inj H)
          subst q0
          exact ⟨rfl, rfl, rfl⟩
      · rintro _ _ _ ⟨rfl, rfl, rfl⟩
        refine W.now ?_
        refine InBlock.x0 ?_
        refine Then.n ?_
        refine WP.seq ?_
        refine WP.seq ?_
        refine WP.region ?_
        refine WPL.q (q_mv (v := .lit (.int _ _)) rfl) rfl ?_
        refine WPL.q (q_as (v := .lit (.int _ _)) rfl) rfl ?_
        refine WPL.nilW ?_
        refine W.now ?_
        refine Then.n ?_
        refine WP.block ?_
        refine WP.cv (Cv.weak (E' := (((Env.none.upd 0 (.whole 0)).upd 14 (.lit (.int .i64 x4420))).upd 17 (.lit (.int .i64 x3376)))) (M' := (Mem.nil.push (.row 71 rdS_huff_coin x3378))) [0] hnp ⟨rfl, ⟨trivial, .inr ⟨rfl, rfl, rfl⟩⟩, by decide, rfl, ⟨trivial, rfl⟩⟩ (LeE.upd rfl rfl (LeE.upd rfl rfl (LeE.upd rfl rfl (LeE.none rfl rfl))))) ?_
        obtain ⟨x4462, H4475, H⟩ := bnd H
        refine WP.monoW (Q := fun x E M => x = .exit 6 ∧ E = Env.none ∧ M = (Mem.nil.push (.row 71 rdS_huff_coin x4462))) ?_ ?_
        · refine WP.loop (β := Int × (List S_huff_coin)) (fun n b => g_slices_symMergeCmpFunc_huff_coin_l3 k x4420 n b.1 b.2 = some x4462) (fun b => (((Env.none.upd 0 (.whole 0)).upd 14 (.lit (.int .i64 x4420))).upd 17 (.lit (.int .i64 b.1)))) (fun b => (Mem.nil.push (.row 71 rdS_huff_coin b.2))) k (x3376, x3378) H4475 rfl rfl ?_
          rintro n ⟨x4447, x4448⟩ H
          obtain _ | n := n
          · exact nf rfl H
          rw [g_slices_symMergeCmpFunc_huff_coin_l3.eq_2] at H
          show WP _ _ _ _ (((Env.none.upd 0 (.whole 0)).upd 14 (.lit (.int .i64 x4420))).upd 17 (.lit (.int .i64 x4447))) (Mem.nil.push (.row 71 rdS_huff_coin x4448)) _
          refine WP.seq ?_
          refine WP.seq ?_
          refine WP.region ?_
          refine WPL.q (q_mv (v := .lit (.int _ _)) rfl) rfl ?_
          refine WPL.q (q_mv (v := .lit (.int _ _)) rfl) rfl ?_
          refine WPL.q (q_gtr rfl rfl) rfl ?_
          refine WPL.nilW ?_
          refine W.now ?_
          refine Then.n ?_
          refine WP.cond (t := (decide (x4420 < x4447))) rfl (fun hb => ?_) (fun hb => ?_)
          · replace H := cnt hb H
            refine WP.skipW ?_
            refine W.now ?_
            refine Then.n ?_
            refine WP.seq ?_
            refine WP.block ?_
            refine WP.regionD' 18 [0] [15] mixed rfl ?_
            refine WPD.takeT 0 rfl (by kernel_rfl) (q_mv (v := .whole _) rfl) rfl ?_
            refine WPD.takeT 1 rfl (by kernel_rfl) (q_mv (v := .lit (.int _ _)) rfl) rfl ?_
            refine WPD.takeT 2 rfl (by kernel_rfl) (q_mv (v := .whole _) rfl) rfl ?_
            refine WPD.takeT 3 rfl (by kernel_rfl) (q_mv (v := .lit (.int _ _)) rfl) rfl ?_
            refine WPD.takeT 4 rfl (by kernel_rfl) (q_sub rfl rfl) rfl ?_
            refine WPD.takeT 5 rfl (by kernel_rfl) (q_mv (v := .whole _) rfl) rfl ?_
            refine WPD.takeT 6 rfl (by kernel_rfl) (q_mv (v := .lit (.int _ _)) rfl) rfl ?_
            refine WPD.takeT 7 rfl (by kernel_rfl) (q_sub rfl rfl) rfl ?_
            obtain ⟨x4472, h4472, H⟩ := bnd H
            refine WPD.takeT 8 rfl (by kernel_rfl) (q_index_row sl69 rfl rfl rfl (ixs h4472)) rfl ?_
            refine WPD.takeT 10 rfl (by kernel_rfl) (q_mv (v := .whole _) rfl) rfl ?_
            refine WPD.takeT 11 rfl (by kernel_rfl) (q_mv (v := .lit (.int _ _)) rfl) rfl ?_
            obtain ⟨x4473, h4473, H⟩ := bnd H
            refine WPD.takeT 12 rfl (by kernel_rfl) (q_index_row sl69 rfl rfl rfl (ixs h4473)) rfl ?_
            refine WPD.take 9 rfl (by kernel_rfl) (q_load_rowag (j := (Int.toNat (IntKind.wrap .i64 (x4447 - 1)))) ag71 rfl rfl (ixj h4472) rfl S_huff_coin.sp) rfl rfl ?_
            refine WPD.take 13 rfl (by kernel_rfl) (q_load_rowag (j := (Int.toNat x4447)) ag71 rfl rfl (ixj h4473) rfl S_huff_coin.sp) rfl rfl ?_
            obtain ⟨x4474, h4474, H⟩ := bnd H
            refine WPD.takeT 14 rfl (by kernel_rfl) (q_index_row sl69 rfl rfl rfl (ixs h4474)) rfl ?_
            refine WPD.effS 15 [] [] rfl (by kernel_rfl) (s_store_row (j := (Int.toNat x4447)) (d := (⟨x4472.ffreq, x4472.fsyms⟩ : S_huff_coin)) sz71 rfl rfl rfl rfl (Joins.via (Joins.cons Joins.sc (Joins.cons Joins.one Joins.unit))) (ixl h4474)) rfl ?_
            obtain ⟨x4475, h4475, H⟩ := bnd H
            refine WPD.takeT 16 rfl (by kernel_rfl) (q_index_row sl69 rfl rfl rfl (ixs h4475)) rfl ?_
            refine WPD.effS 17 [] [] rfl (by kernel_rfl) (s_store_row (j := (Int.toNat (IntKind.wrap .i64 (x4447 - 1)))) (d := (⟨x4473.ffreq, x4473.fsyms⟩ : S_huff_coin)) sz71 rfl rfl rfl rfl (Joins.via (Joins.cons Joins.sc (Joins.cons Joins.one Joins.unit))) (ixl h4475)) rfl ?_
            refine WPD.doneW (by kernel_rfl) ?_
            refine W.now ?_
            refine InBlock.n ?_
            refine Then.n ?_
            refine WP.region ?_
            refine WPL.q (q_mv (v := .lit (.int _ _)) rfl) rfl ?_
            refine WPL.q (q_sub rfl rfl) rfl ?_
            refine WPL.q (q_as (v := .lit (.int _ _)) rfl) rfl ?_
            refine WPL.nilW ?_
            refine W.cv (Cv.weak (E' := (((Env.none.upd 0 (.whole 0)).upd 14 (.lit (.int .i64 x4420))).upd 17 (.lit (.int .i64 (IntKind.wrap .i64 (x4447 - 1)))))) (M' := (Mem.nil.push (.row 71 rdS_huff_coin (List.set (List.set x4448 (Int.toNat x4447) (⟨x4472.ffreq, x4472.fsyms⟩ : S_huff_coin)) (Int.toNat (IntKind.wrap .i64 (x4447 - 1))) (⟨x4473.ffreq, x4473.fsyms⟩ : S_huff_coin))))) [0] hnp ⟨rfl, ⟨trivial, .inr ⟨rfl, rfl, rfl⟩⟩, by decide, rfl, ⟨trivial, rfl⟩⟩ (LeE.upd rfl rfl (LeE.upd rfl rfl (LeE.upd rfl rfl (LeE.none rfl rfl))))) rfl ?_
            refine W.now ?_
            exact Then.n ⟨n, ((IntKind.wrap .i64 (x4447 - 1)), (List.set (List.set x4448 (Int.toNat x4447) (⟨x4472.ffreq, x4472.fsyms⟩ : S_huff_coin)) (Int.toNat (IntKind.wrap .i64 (x4447 - 1))) (⟨x4473.ffreq, x4473.fsyms⟩ : S_huff_coin))), Nat.lt_succ_self n, H, rfl, rfl⟩
          · replace H := cnf hb H
            refine WP.exitW ?_
            refine W.cv (Cv.weak (E' := Env.none) (M' := (Mem.nil.push (.row 71 rdS_huff_coin x4448))) [0] hnp ⟨rfl, ⟨trivial, .inr ⟨rfl, rfl, rfl⟩⟩, by decide, rfl, ⟨trivial, rfl⟩⟩ (LeE.none rfl rfl)) rfl ?_
            refine W.now ?_
            refine Then.x ?_
            refine Then.x ?_
            have q0 := (Option.some.inj H)
            subst q0
            exact ⟨rfl, rfl, rfl⟩
        · rintro _ _ _ ⟨rfl, rfl, rfl⟩
          refine W.now ?_
          refine InBlock.x0 ?_
          refine Then.n ?_
          refine WP.retW ?_
          refine W.now ?_
          refine Then.r ?_
          have q0 := (Option.some.inj H)
          subst q0
          exact ⟨trivial, _, rfl, [0], (.tup []), (Mem.nil.push (.row 71 rdS_huff_coin x4462)), ⟨rfl, ⟨trivial, .inr ⟨rfl, rfl, rfl⟩⟩, by decide, rfl, ⟨trivial, rfl⟩⟩, rfl, rfl, rfl, rfl⟩
    · replace H := cnf hb H
      refine WP.skipW ?_
      refine W.now ?_
      refine Then.n ?_
      refine WP.seq ?_
      refine WP.region ?_
      refine WPL.q (q_mv (v := .lit (.int _ _)) rfl) rfl ?_
      refine WPL.q (q_mv (v := .lit (.int _ _)) rfl) rfl ?_
      refine WPL.q (q_add rfl rfl) rfl ?_
      obtain ⟨x4477, h4477, H⟩ := bnd H
      refine WPL.q (q_nm (q_conv Try.underlying3 Try.underlying46 rfl) (nm_int h4477)) rfl ?_
      refine WPL.q (q_shr rfl rfl rfl) rfl ?_
      refine WPL.q (q_conv Try.underlying46 Try.underlying3 rfl) rfl ?_
      refine WPL.q (q_as (v := .lit (.int _ _)) rfl) rfl ?_
      refine WPL.nilW ?_
      refine W.now ?_
      refine Then.n ?_
      refine WP.seq ?_
      refine WP.region ?_
      refine WPL.q (q_mv (v := .lit (.int _ _)) rfl) rfl ?_
      refine WPL.q (q_mv (v := .lit (.int _ _)) rfl) rfl ?_
      obtain ⟨x4478, h4478, H⟩ := bnd H
      refine WPL.q (q_nm (q_add rfl rfl) (nm_int h4478)) rfl ?_
      refine WPL.q (q_as (v := .lit (.int _ _)) rfl) rfl ?_
      refine WPL.nilW ?_
      refine W.now ?_
      refine Then.n ?_
      refine WP.seq ?_
      refine WP.region ?_
      refine WPL.q (q_as (v := .lit (.int _ _)) rfl) rfl ?_
      refine WPL.q (q_as (v := .lit (.int _ _)) rfl) rfl ?_
      refine WPL.nilW ?_
      refine W.now ?_
      refine Then.n ?_
      refine WP.seq ?_
      obtain ⟨⟨x4480, x4481⟩, H4482, H⟩ := bnd H
      refine WP.monoW (Q := fun x E M => x = .normal ∧ E = (((((((((Env.none.upd 0 (.whole 0)).upd 1 (.lit (.int .i64 x3375))).upd 2 (.lit (.int .i64 x3376))).upd 3 (.lit (.int .i64 x3377))).upd 4 (.fn 23 [])).upd 18 (.lit (.int .i64 (IntKind.wrap .i64 (shrI .u64 x4477 1))))).upd 19 (.lit (.int .i64 x4478))).upd 20 (.lit (.int .i64 x4480))).upd 21 (.lit (.int .i64 x4481))) ∧ M = (Mem.nil.push (.row 71 rdS_huff_coin x3378))) ?_ ?_
      · clear H
        have H := H4482
        clear H4482
        refine WP.seq ?_
        refine WP.region ?_
        refine WPL.q (q_mv (v := .lit (.int _ _)) rfl) rfl ?_
        refine WPL.q (q_mv (v := .lit (.int _ _)) rfl) rfl ?_
        obtain ⟨x4482, h4482, H⟩ := bnd H
        refine WPL.q (q_nm (q_gtr rfl rfl) (nm_bool h4482)) rfl ?_
        refine WPL.nilW ?_
        refine W.now ?_
        refine Then.n ?_
        refine WP.cond (t := x4482) rfl (fun hb => ?_) (fun hb => ?_)
        · replace H := cnt hb H
          refine WP.seq ?_
          refine WP.region ?_
          refine WPL.q (q_mv (v := .lit (.int _ _)) rfl) rfl ?_
          refine WPL.q (q_mv (v := .lit (.int _ _)) rfl) rfl ?_
          refine WPL.q (q_sub rfl rfl) rfl ?_
          refine WPL.q (q_as (v := .lit (.int _ _)) rfl) rfl ?_
          refine WPL.nilW ?_
          refine W.now ?_
          refine Then.n ?_
          refine WP.region ?_
          refine WPL.q (q_mv (v := .lit (.int _ _)) rfl) rfl ?_
          refine WPL.q (q_as (v := .lit (.int _ _)) rfl) rfl ?_
          refine WPL.nilW ?_
          refine W.cv (Cv.weak (E' := (((((((((Env.none.upd 0 (.whole 0)).upd 1 (.lit (.int .i64 x3375))).upd 2 (.lit (.int .i64 x3376))).upd 3 (.lit (.int .i64 x3377))).upd 4 (.fn 23 [])).upd 18 (.lit (.int .i64 (IntKind.wrap .i64 (shrI .u64 x4477 1))))).upd 19 (.lit (.int .i64 x4478))).upd 20 (.lit (.int .i64 (IntKind.wrap .i64 (x4478 - x3377))))).upd 21 (.lit (.int .i64 (IntKind.wrap .i64 (shrI .u64 x4477 1)))))) (M' := (Mem.nil.push (.row 71 rdS_huff_coin x3378))) [0] hnp ⟨rfl, ⟨trivial, .inr ⟨rfl, rfl, rfl⟩⟩, by decide, rfl, ⟨trivial, rfl⟩⟩ (LeE.upd rfl rfl (LeE.upd rfl rfl (LeE.upd rfl rfl (LeE.upd rfl rfl (LeE.upd rfl rfl (LeE.upd rfl rfl (LeE.upd rfl rfl (LeE.upd rfl rfl (LeE.upd rfl rfl (LeE.none rfl rfl))))))))))) rfl ?_
          refine W.now ?_
          have q0 := (Prod.mk.inj (Option.some.inj H)).1
          have q1 := (Prod.mk.inj (Option.some.inj H)).2
          subst q0
          subst q1
          exact ⟨rfl, rfl, rfl⟩
        · replace H := cnf hb H
          refine WP.seq ?_
          refine WP.region ?_
          refine WPL.q (q_mv (v := .lit (.int _ _)) rfl) rfl ?_
          refine WPL.q (q_as (v := .lit (.int _ _)) rfl) rfl ?_
          refine WPL.nilW ?_
          refine W.now ?_
          refine Then.n ?_
          refine WP.region ?_
          refine WPL.q (q_mv (v := .lit (.int _ _)) rfl) rfl ?_
          refine WPL.q (q_as (v := .lit (.int _ _)) rfl) rfl ?_
          refine WPL.nilW ?_
          refine W.cv (Cv.weak (E' := (((((((((Env.none.upd 0 (.whole 0)).upd 1 (.lit (.int .i64 x3375))).upd 2 (.lit (.int .i64 x3376))).upd 3 (.lit (.int .i64 x3377))).upd 4 (.fn 23 [])).upd 18 (.lit (.int .i64 (IntKind.wrap .i64 (shrI .u64 x4477 1))))).upd 19 (.lit (.int .i64 x4478))).upd 20 (.lit (.int .i64 x3375))).upd 21 (.lit (.int .i64 x3376)))) (M' := (Mem.nil.push (.row 71 rdS_huff_coin x3378))) [0] hnp ⟨rfl, ⟨trivial, .inr ⟨rfl, rfl, rfl⟩⟩, by decide, rfl, ⟨trivial, rfl⟩⟩ (LeE.upd rfl rfl (LeE.upd rfl rfl (LeE.upd rfl rfl (LeE.upd rfl rfl (LeE.upd rfl rfl (LeE.upd rfl rfl (LeE.upd rfl rfl (LeE.upd rfl rfl (LeE.upd rfl rfl (LeE.none rfl rfl))))))))))) rfl ?_
          refine W.now ?_
          have q0 := (Prod.mk.inj (Option.some.inj H)).1
          have q1 := (Prod.mk.inj (Option.some.inj H)).2
          subst q0
          subst q1
          exact ⟨rfl, rfl, rfl⟩
      · rintro _ _ _ ⟨rfl, rfl, rfl⟩
        refine W.now ?_
        refine Then.n ?_
        refine WP.seq ?_
        refine WP.region ?_
        refine WPL.q (q_mv (v := .lit (.int _ _)) rfl) rfl ?_
        refine WPL.q (q_sub rfl rfl) rfl ?_
        refine WPL.q (q_as (v := .lit (.int _ _)) rfl) rfl ?_
        refine WPL.nilW ?_
        refine W.now ?_
        refine Then.n ?_
        refine WP.seq ?_
        refine WP.block ?_
        refine WP.cv (Cv.weak (E' := ((((((((((Env.none.upd 0 (.whole 0)).upd 1 (.lit (.int .i64 x3375))).upd 2 (.lit (.int .i64 x3376))).upd 3 (.lit (.int .i64 x3377))).upd 4 (.fn 23 [])).upd 18 (.lit (.int .i64 (IntKind.wrap .i64 (shrI .u64 x4477 1))))).upd 19 (.lit (.int .i64 x4478))).upd 20 (.lit (.int .i64 x4480))).upd 21 (.lit (.int .i64 x4481))).upd 22 (.lit (.int .i64 (IntKind.wrap .i64 (x4478 - 1)))))) (M' := (Mem.nil.push (.row 71 rdS_huff_coin x3378))) [0] hnp ⟨rfl, ⟨trivial, .inr ⟨rfl, rfl, rfl⟩⟩, by decide, rfl, ⟨trivial, rfl⟩⟩ (LeE.upd rfl rfl (LeE.upd rfl rfl (LeE.upd rfl rfl (LeE.upd rfl rfl (LeE.upd rfl rfl (LeE.upd rfl rfl (LeE.upd rfl rfl (LeE.upd rfl rfl (LeE.upd rfl rfl (LeE.upd rfl rfl (LeE.none rfl rfl)))))))))))) ?_
        obtain ⟨x4516, H4531, H⟩ := bnd H
        refine WP.monoW (Q := fun x E M => x = .exit 8 ∧ E = ((((((((Env.none.upd 0 (.whole 0)).upd 1 (.lit (.int .i64 x3375))).upd 2 (.lit (.int .i64 x3376))).upd 3 (.lit (.int .i64 x3377))).upd 4 (.fn 23 [])).upd 18 (.lit (.int .i64 (IntKind.wrap .i64 (shrI .u64 x4477 1))))).upd 19 (.lit (.int .i64 x4478))).upd 20 (.lit (.int .i64 x4516))) ∧ M = (Mem.nil.push (.row 71 rdS_huff_coin x3378))) ?_ ?_
        · refine WP.loop (β := Int × Int) (fun n b => g_slices_symMergeCmpFunc_huff_coin_l4 k x3378 x4478 n b.1 b.2 = some x4516) (fun b => ((((((((((Env.none.upd 0 (.whole 0)).upd 1 (.lit (.int .i64 x3375))).upd 2 (.lit (.int .i64 x3376))).upd 3 (.lit (.int .i64 x3377))).upd 4 (.fn 23 [])).upd 18 (.lit (.int .i64 (IntKind.wrap .i64 (shrI .u64 x4477 1))))).upd 19 (.lit (.int .i64 x4478))).upd 20 (.lit (.int .i64 b.1))).upd 21 (.lit (.int .i64 b.2))).upd 22 (.lit (.int .i64 (IntKind.wrap .i64 (x4478 - 1)))))) (fun b => (Mem.nil.push (.row 71 rdS_huff_coin x3378))) k (x4480, x4481) H4531 rfl rfl ?_
          rintro n ⟨x4499, x4500⟩ H
          obtain _ | n := n
          · exact nf rfl H
          rw [g_slices_symMergeCmpFunc_huff_coin_l4.eq_2] at H
          show WP _ _ _ _ ((((((((((Env.none.upd 0 (.whole 0)).upd 1 (.lit (.int .i64 x3375))).upd 2 (.lit (.int .i64 x3376))).upd 3 (.lit (.int .i64 x3377))).upd 4 (.fn 23 [])).upd 18 (.lit (.int .i64 (IntKind.wrap .i64 (shrI .u64 x4477 1))))).upd 19 (.lit (.int .i64 x4478))).upd 20 (.lit (.int .i64 x4499))).upd 21 (.lit (.int .i64 x4500))).upd 22 (.lit (.int .i64 (IntKind.wrap .i64 (x4478 - 1))))) (Mem.nil.push (.row 71 rdS_huff_coin x3378)) _
          refine WP.seq ?_
          refine WP.seq ?_
          refine WP.region ?_
          refine WPL.q (q_mv (v := .lit (.int _ _)) rfl) rfl ?_
          refine WPL.q (q_mv (v := .lit (.int _ _)) rfl) rfl ?_
          refine WPL.q (q_lss rfl rfl) rfl ?_
          refine WPL.nilW ?_
          refine W.now ?_
          refine Then.n ?_
          refine WP.cond (t := (decide (x4499 < x4500))) rfl (fun hb => ?_) (fun hb => ?_)
          · replace H := cnt hb H
            refine WP.skipW ?_
            refine W.now ?_
            refine Then.n ?_
            refine WP.block ?_
            refine WP.seq ?_
            refine WP.region ?_
            refine WPL.q (q_mv (v := .lit (.int _ _)) rfl) rfl ?_
            refine WPL.q (q_mv (v := .lit (.int _ _)) rfl) rfl ?_
            refine WPL.q (q_add rfl rfl) rfl ?_
            obtain ⟨x4517, h4517, H⟩ := bnd H
            refine WPL.q (q_nm (q_conv Try.underlying3 Try.underlying46 rfl) (nm_int h4517)) rfl ?_
            refine WPL.q (q_shr rfl rfl rfl) rfl ?_
            refine WPL.q (q_conv Try.underlying46 Try.underlying3 rfl) rfl ?_
            refine WPL.q (q_as (v := .lit (.int _ _)) rfl) rfl ?_
            refine WPL.nilW ?_
            refine W.now ?_
            refine Then.n ?_
            refine WP.seq ?_
            refine WP.regionD' 14 [0] [] mixed rfl ?_
            refine WPD.takeT 0 rfl (by kernel_rfl) (q_mv (v := .fn _ _) rfl) rfl ?_
            refine WPD.takeT 1 rfl (by kernel_rfl) (q_mv (v := .whole _) rfl) rfl ?_
            refine WPD.takeT 2 rfl (by kernel_rfl) (q_mv (v := .lit (.int _ _)) rfl) rfl ?_
            refine WPD.takeT 3 rfl (by kernel_rfl) (q_mv (v := .lit (.int _ _)) rfl) rfl ?_
            obtain ⟨x4526, h4526, H⟩ := bnd H
            refine WPD.takeT 4 rfl (by kernel_rfl) (q_nm (q_sub rfl rfl) (nm_int h4526)) rfl ?_
            obtain ⟨x4527, h4527, H⟩ := bnd H
            refine WPD.takeT 5 rfl (by kernel_rfl) (q_index_row sl69 rfl rfl rfl (ixs h4527)) rfl ?_
            refine WPD.takeT 7 rfl (by kernel_rfl) (q_mv (v := .whole _) rfl) rfl ?_
            refine WPD.takeT 8 rfl (by kernel_rfl) (q_mv (v := .lit (.int _ _)) rfl) rfl ?_
            obtain ⟨x4528, h4528, H⟩ := bnd H
            refine WPD.takeT 9 rfl (by kernel_rfl) (q_index_row sl69 rfl rfl rfl (ixs h4528)) rfl ?_
            refine WPD.take 6 rfl (by kernel_rfl) (q_load_rowag (j := (Int.toNat x4526)) ag71 rfl rfl (ixj h4527) rfl S_huff_coin.sp) rfl rfl ?_
            refine WPD.take 10 rfl (by kernel_rfl) (q_load_rowag (j := (Int.toNat (IntKind.wrap .i64 (shrI .u64 x4517 1)))) ag71 rfl rfl (ixj h4528) rfl S_huff_coin.sp) rfl rfl ?_
            obtain ⟨x4530, h4528, H⟩ := bnd H
            refine WPD.eff 11 [0] [] rfl (by kernel_rfl) (runs_call (s := []) (t := []) (N := 1) (bor := []) fn23 rfl (s_huff_Lengths_1 k x4527.ffreq x4527.fsyms x4528.ffreq x4528.fsyms x4530 h4528) ⟨rfl, trivial, by decide, rfl, trivial⟩ rfl trivial (.ren rfl rfl (.ren rfl rfl .nil)) rfl trivial rfl) rfl rfl ?_
            refine WPD.takeT 12 rfl (by kernel_rfl) (q_lss rfl rfl) rfl ?_
            refine WPD.takeT 13 rfl (by kernel_rfl) (q_not rfl) rfl ?_
            refine WPD.doneW (by kernel_rfl) ?_
            refine W.now ?_
            refine Then.n ?_
            refine WP.cond (t := (!(decide (x4530 < 0)))) rfl (fun hb => ?_) (fun hb => ?_)
            · replace H := cnt hb H
              refine WP.region ?_
              refine WPL.q (q_mv (v := .lit (.int _ _)) rfl) rfl ?_
              obtain ⟨x4531, h4531, H⟩ := bnd H
              refine WPL.q (q_nm (q_add rfl rfl) (nm_int h4531)) rfl ?_
              refine WPL.q (q_as (v := .lit (.int _ _)) rfl) rfl ?_
              refine WPL.nilW ?_
              refine W.cv (Cv.weak (E' := ((((((((((Env.none.upd 0 (.whole 0)).upd 1 (.lit (.int .i64 x3375))).upd 2 (.lit (.int .i64 x3376))).upd 3 (.lit (.int .i64 x3377))).upd 4 (.fn 23 [])).upd 18 (.lit (.int .i64 (IntKind.wrap .i64 (shrI .u64 x4477 1))))).upd 19 (.lit (.int .i64 x4478))).upd 20 (.lit (.int .i64 x4531))).upd 21 (.lit (.int .i64 x4500))).upd 22 (.lit (.int .i64 (IntKind.wrap .i64 (x4478 - 1)))))) (M' := (Mem.nil.push (.row 71 rdS_huff_coin x3378))) [0] hnp ⟨rfl, ⟨trivial, .inr ⟨rfl, rfl, rfl⟩⟩, by decide, rfl, ⟨trivial, rfl⟩⟩ (LeE.upd rfl rfl (LeE.upd rfl rfl (LeE.upd rfl rfl (LeE.upd rfl rfl (LeE.upd rfl rfl (LeE.upd rfl rfl (LeE.upd rfl rfl (LeE.upd rfl rfl (LeE.upd rfl rfl (LeE.upd rfl rfl (LeE.none rfl rfl)))))))))))) rfl ?_
              refine W.now ?_
              refine InBlock.n ?_
              exact Then.n ⟨n, (x4531, x4500), Nat.lt_succ_self n, H, rfl, rfl⟩
            · replace H := cnf hb H
              refine WP.region ?_
              refine WPL.q (q_mv (v := .lit (.int _ _)) rfl) rfl ?_
              refine WPL.q (q_as (v := .lit (.int _ _)) rfl) rfl ?_
              refine WPL.nilW ?_
              refine W.cv (Cv.weak (E' := ((((((((((Env.none.upd 0 (.whole 0)).upd 1 (.lit (.int .i64 x3375))).upd 2 (.lit (.int .i64 x3376))).upd 3 (.lit (.int .i64 x3377))).upd 4 (.fn 23 [])).upd 18 (.lit (.int .i64 (IntKind.wrap .i64 (shrI .u64 x4477 1))))).upd 19 (.lit (.int .i64 x4478))).upd 20 (.lit (.int .i64 x4499))).upd 21 (.lit (.int .i64 (IntKind.wrap .i64 (shrI .u64 x4517 1))))).upd 22 (.lit (.int .i64 (IntKind.wrap .i64 (x4478 - 1)))))) (M' := (Mem.nil.push (.row 71 rdS_huff_coin x3378))) [0] hnp ⟨rfl, ⟨trivial, .inr ⟨rfl, rfl, rfl⟩⟩, by decide, rfl, ⟨trivial, rfl⟩⟩ (LeE.upd rfl rfl (LeE.upd rfl rfl (LeE.upd rfl rfl (LeE.upd rfl rfl (LeE.upd rfl rfl (LeE.upd rfl rfl (LeE.upd rfl rfl (LeE.upd rfl rfl (LeE.upd rfl rfl (LeE.upd rfl rfl (LeE.none rfl rfl)))))))))))) rfl ?_
              refine W.now ?_
              refine InBlock.n ?_
              exact Then.n ⟨n, (x4499, (IntKind.wrap .i64 (shrI .u64 x4517 1))), Nat.lt_succ_self n, H, rfl, rfl⟩
          · replace H := cnf hb H
            refine WP.exitW ?_
            refine W.cv (Cv.weak (E' := ((((((((Env.none.upd 0 (.whole 0)).upd 1 (.lit (.int .i64 x3375))).upd 2 (.lit (.int .i64 x3376))).upd 3 (.lit (.int .i64 x3377))).upd 4 (.fn 23 [])).upd 18 (.lit (.int .i64 (IntKind.wrap .i64 (shrI .u64 x4477 1))))).upd 19 (.lit (.int .i64 x4478))).upd 20 (.lit (.int .i64 x4499)))) (M' := (Mem.nil.push (.row 71 rdS_huff_coin x3378))) [0] hnp ⟨rfl, ⟨trivial, .inr ⟨rfl, rfl, rfl⟩⟩, by decide, rfl, ⟨trivial, rfl⟩⟩ (LeE.upd rfl rfl (LeE.upd rfl rfl (LeE.upd rfl rfl (LeE.upd rfl rfl (LeE.upd rfl rfl (LeE.upd rfl rfl (LeE.upd rfl rfl (LeE.upd rfl rfl (LeE.none rfl rfl)))))))))) rfl ?_
            refine W.now ?_
            refine Then.x ?_
            refine Then.x ?_
            have q0 := (Option.some.inj H)
            subst q0
            exact ⟨rfl, rfl, rfl⟩
        · rintro _ _ _ ⟨rfl, rfl, rfl⟩
          refine W.now ?_
          refine InBlock.x0 ?_
          refine Then.n ?_
          refine WP.seq ?_
          refine WP.region ?_
          refine WPL.q (q_mv (v := .lit (.int _ _)) rfl) rfl ?_
          refine WPL.q (q_mv (v := .lit (.int _ _)) rfl) rfl ?_
          refine WPL.q (q_sub rfl rfl) rfl ?_
          refine WPL.q (q_as (v := .lit (.int _ _)) rfl) rfl ?_
          refine WPL.nilW ?_
          refine W.now ?_
          refine Then.n ?_
          refine WP.seq ?_
          obtain ⟨x4541, H4549, H⟩ := bnd H
          refine WP.monoW (Q := fun x E M => x = .normal ∧ E = (((((((Env.none.upd 0 (.whole 0)).upd 1 (.lit (.int .i64 x3375))).upd 3 (.lit (.int .i64 x3377))).upd 4 (.fn 23 [])).upd 18 (.lit (.int .i64 (IntKind.wrap .i64 (shrI .u64 x4477 1))))).upd 20 (.lit (.int .i64 x4516))).upd 24 (.lit (.int .i64 (IntKind.wrap .i64 (x4478 - x4516))))) ∧ M = (Mem.nil.push (.row 71 rdS_huff_coin x4541))) ?_ ?_
          · clear H
            have H := H4549
            clear H4549
            refine WP.seq ?_
            obtain ⟨x4544, H4546, H⟩ := bnd H
            refine WP.monoW (Q := fun x E M => x = .normal ∧ E = (((((((((Env.none.upd 0 (.whole 0)).upd 1 (.lit (.int .i64 x3375))).upd 2 (.lit (.int .i64 x3376))).upd 3 (.lit (.int .i64 x3377))).upd 4 (.fn 23 [])).upd 18 (.lit (.int .i64 (IntKind.wrap .i64 (shrI .u64 x4477 1))))).upd 20 (.lit (.int .i64 x4516))).upd 24 (.lit (.int .i64 (IntKind.wrap .i64 (x4478 - x4516))))).upd 185 (.lit (.bool x4544))) ∧ M = (Mem.nil.push (.row 71 rdS_huff_coin x3378))) ?_ ?_
            · clear H
              have H := H4546
              clear H4546
              refine WP.region ?_
              refine WPL.q (q_mv (v := .lit (.int _ _)) rfl) rfl ?_
              refine WPL.q (q_mv (v := .lit (.int _ _)) rfl) rfl ?_
              refine WPL.q (q_lss rfl rfl) rfl ?_
              refine WPL.q (q_mv (v := .lit (.bool _)) rfl) rfl ?_
              refine WPL.split (t := 181) (b := (decide (x4516 < x3376))) rfl (fun hb4544 => ?_) (fun hb4544 => ?_)
              · replace H := cnt hb4544 H
                refine WPL.qg rfl rfl (lb hb4544) (q_mv (v := .lit (.int _ _)) rfl) rfl ?_
                refine WPL.qg rfl rfl (lb hb4544) (q_mv (v := .lit (.int _ _)) rfl) rfl ?_
                obtain ⟨x4546, h4546, H⟩ := bnd H
                refine WPL.qg rfl rfl (lb hb4544) (q_nm (q_lss rfl rfl) (nm_bool h4546)) rfl ?_
                refine WPL.q (q_pickT (v := .lit (.bool _)) (lb hb4544) rfl) rfl ?_
                refine WPL.nilW ?_
                refine W.cv (Cv.weak (E' := (((((((((Env.none.upd 0 (.whole 0)).upd 1 (.lit (.int .i64 x3375))).upd 2 (.lit (.int .i64 x3376))).upd 3 (.lit (.int .i64 x3377))).upd 4 (.fn 23 [])).upd 18 (.lit (.int .i64 (IntKind.wrap .i64 (shrI .u64 x4477 1))))).upd 20 (.lit (.int .i64 x4516))).upd 24 (.lit (.int .i64 (IntKind.wrap .i64 (x4478 - x4516))))).upd 185 (.lit (.bool x4546)))) (M' := (Mem.nil.push (.row 71 rdS_huff_coin x3378))) [0] hnp ⟨rfl, ⟨trivial, .inr ⟨rfl, rfl, rfl⟩⟩, by decide, rfl, ⟨trivial, rfl⟩⟩ (LeE.upd rfl rfl (LeE.upd rfl rfl (LeE.upd rfl rfl (LeE.upd rfl rfl (LeE.upd rfl rfl (LeE.upd rfl rfl (LeE.upd rfl rfl (LeE.upd rfl rfl (LeE.upd rfl rfl (LeE.none rfl rfl))))))))))) rfl ?_
                refine W.now ?_
                have q0 := (Option.some.inj H)
                subst q0
                exact ⟨rfl, rfl, rfl⟩
              · replace H := cnf hb4544 H
                refine WPL.skipg (b' := false) rfl rfl (lb hb4544) rfl rfl ?_
                refine WPL.skipg (b' := false) rfl rfl (lb hb4544) rfl rfl ?_
                refine WPL.skipg (b' := false) rfl rfl (lb hb4544) rfl rfl ?_
                refine WPL.q (q_pickF (v := .lit (.bool _)) (lb hb4544) rfl) rfl ?_
                refine WPL.nilW ?_
                refine W.cv (Cv.weak (E' := (((((((((Env.none.upd 0 (.whole 0)).upd 1 (.lit (.int .i64 x3375))).upd 2 (.lit (.int .i64 x3376))).upd 3 (.lit (.int .i64 x3377))).upd 4 (.fn 23 [])).upd 18 (.lit (.int .i64 (IntKind.wrap .i64 (shrI .u64 x4477 1))))).upd 20 (.lit (.int .i64 x4516))).upd 24 (.lit (.int .i64 (IntKind.wrap .i64 (x4478 - x4516))))).upd 185 (.lit (.bool false)))) (M' := (Mem.nil.push (.row 71 rdS_huff_coin x3378))) [0] hnp ⟨rfl, ⟨trivial, .inr ⟨rfl, rfl, rfl⟩⟩, by decide, rfl, ⟨trivial, rfl⟩⟩ (LeE.upd rfl rfl (LeE.upd rfl rfl (LeE.upd rfl rfl (LeE.upd rfl rfl (LeE.upd rfl rfl (LeE.upd rfl rfl (LeE.upd rfl rfl (LeE.upd rfl rfl (LeE.upd rfl rfl (LeE.none rfl rfl))))))))))) rfl ?_
                refine W.now ?_
                have q0 := (Option.some.inj H)
                subst q0
                exact ⟨rfl, rfl, rfl⟩
            · rintro _ _ _ ⟨rfl, rfl, rfl⟩
              refine W.now ?_
              refine Then.n ?_
              refine WP.cond (t := x4544) rfl (fun hb => ?_) (fun hb => ?_)
              · replace H := cnt hb H
                refine WP.region ?_
                refine WPL.q (q_mv (v := .whole _) rfl) rfl ?_
                refine WPL.q (q_mv (v := .lit (.int _ _)) rfl) rfl ?_
                refine WPL.q (q_mv (v := .lit (.int _ _)) rfl) rfl ?_
                refine WPL.q (q_mv (v := .lit (.int _ _)) rfl) rfl ?_
                refine WPL.q (q_mv (v := .fn _ _) rfl) rfl ?_
                obtain ⟨x4549, h4547, H⟩ := bnd H
                refine WPL.c (runs_call (s := [0]) (t := [0]) (N := 1) (bor := []) fn35 rfl (s_slices_rotateCmpFunc_huff_coin k x4516 x3376 (IntKind.wrap .i64 (x4478 - x4516)) x3378 x4549 h4547) ⟨rfl, ⟨trivial, .inr ⟨rfl, rfl, rfl⟩⟩, by decide, rfl, trivial⟩ rfl trivial (.ren rfl rfl (.ren rfl rfl (.ren rfl rfl (.ren rfl rfl (.ren rfl rfl .nil))))) rfl ⟨trivial, rfl⟩ rfl) rfl ?_
                refine WPL.nilW ?_
                refine W.cv (Cv.weak (E' := (((((((Env.none.upd 0 (.whole 0)).upd 1 (.lit (.int .i64 x3375))).upd 3 (.lit (.int .i64 x3377))).upd 4 (.fn 23 [])).upd 18 (.lit (.int .i64 (IntKind.wrap .i64 (shrI .u64 x4477 1))))).upd 20 (.lit (.int .i64 x4516))).upd 24 (.lit (.int .i64 (IntKind.wrap .i64 (x4478 - x4516)))))) (M' := (Mem.nil.push (.row 71 rdS_huff_coin x4549))) [0] hnp ⟨rfl, ⟨trivial, .inr ⟨rfl, rfl, rfl⟩⟩, by decide, rfl, ⟨trivial, rfl⟩⟩ (LeE.upd rfl rfl (LeE.upd rfl rfl (LeE.upd rfl rfl (LeE.upd rfl rfl (LeE.upd rfl rfl (LeE.upd rfl rfl (LeE.upd rfl rfl (LeE.none rfl rfl))))))))) rfl ?_
                refine W.now ?_
                have q0 := (Option.some.inj H)
                subst q0
                exact ⟨rfl, rfl, rfl⟩
              · replace H := cnf hb H
                refine WP.skipW ?_
                refine W.cv (Cv.weak (E' := (((((((Env.none.upd 0 (.whole 0)).upd 1 (.lit (.int .i64 x3375))).upd 3 (.lit (.int .i64 x3377))).upd 4 (.fn 23 [])).upd 18 (.lit (.int .i64 (IntKind.wrap .i64 (shrI .u64 x4477 1))))).upd 20 (.lit (.int .i64 x4516))).upd 24 (.lit (.int .i64 (IntKind.wrap .i64 (x4478 - x4516)))))) (M' := (Mem.nil.push (.row 71 rdS_huff_coin x3378))) [0] hnp ⟨rfl, ⟨trivial, .inr ⟨rfl, rfl, rfl⟩⟩, by decide, rfl, ⟨trivial, rfl⟩⟩ (LeE.upd rfl rfl (LeE.upd rfl rfl (LeE.upd rfl rfl (LeE.upd rfl rfl (LeE.upd rfl rfl (LeE.upd rfl rfl (LeE.upd rfl rfl (LeE.none rfl rfl))))))))) rfl ?_
                refine W.now ?_
                have q0 := (Option.some.inj H)
                subst q0
                exact ⟨rfl, rfl, rfl⟩
          · rintro _ _ _ ⟨rfl, rfl, rfl⟩
            refine W.now ?_
            refine Then.n ?_
            refine WP.seq ?_
            obtain ⟨x4559, H4567, H⟩ := bnd H
            refine WP.monoW (Q := fun x E M => x = .normal ∧ E = (((((Env.none.upd 0 (.whole 0)).upd 3 (.lit (.int .i64 x3377))).upd 4 (.fn 23 [])).upd 18 (.lit (.int .i64 (IntKind.wrap .i64 (shrI .u64 x4477 1))))).upd 24 (.lit (.int .i64 (IntKind.wrap .i64 (x4478 - x4516))))) ∧ M = (Mem.nil.push (.row 71 rdS_huff_coin x4559))) ?_ ?_
            · clear H
              have H := H4567
              clear H4567
              refine WP.seq ?_
              obtain ⟨x4562, H4564, H⟩ := bnd H
              refine WP.monoW (Q := fun x E M => x = .normal ∧ E = ((((((((Env.none.upd 0 (.whole 0)).upd 1 (.lit (.int .i64 x3375))).upd 3 (.lit (.int .i64 x3377))).upd 4 (.fn 23 [])).upd 18 (.lit (.int .i64 (IntKind.wrap .i64 (shrI .u64 x4477 1))))).upd 20 (.lit (.int .i64 x4516))).upd 24 (.lit (.int .i64 (IntKind.wrap .i64 (x4478 - x4516))))).upd 199 (.lit (.bool x4562))) ∧ M = (Mem.nil.push (.row 71 rdS_huff_coin x4541))) ?_ ?_
              · clear H
                have H := H4564
                clear H4564
                refine WP.region ?_
                refine WPL.q (q_mv (v := .lit (.int _ _)) rfl) rfl ?_
                refine WPL.q (q_mv (v := .lit (.int _ _)) rfl) rfl ?_
                refine WPL.q (q_lss rfl rfl) rfl ?_
                refine WPL.q (q_mv (v := .lit (.bool _)) rfl) rfl ?_
                refine WPL.split (t := 195) (b := (decide (x3375 < x4516))) rfl (fun hb4562 => ?_) (fun hb4562 => ?_)
                · replace H := cnt hb4562 H
                  refine WPL.qg rfl rfl (lb hb4562) (q_mv (v := .lit (.int _ _)) rfl) rfl ?_
                  refine WPL.qg rfl rfl (lb hb4562) (q_mv (v := .lit (.int _ _)) rfl) rfl ?_
                  obtain ⟨x4564, h4564, H⟩ := bnd H
                  refine WPL.qg rfl rfl (lb hb4562) (q_nm (q_lss rfl rfl) (nm_bool h4564)) rfl ?_
                  refine WPL.q (q_pickT (v := .lit (.bool _)) (lb hb4562) rfl) rfl ?_
                  refine WPL.nilW ?_
                  refine W.cv (Cv.weak (E' := ((((((((Env.none.upd 0 (.whole 0)).upd 1 (.lit (.int .i64 x3375))).upd 3 (.lit (.int .i64 x3377))).upd 4 (.fn 23 [])).upd 18 (.lit (.int .i64 (IntKind.wrap .i64 (shrI .u64 x4477 1))))).upd 20 (.lit (.int .i64 x4516))).upd 24 (.lit (.int .i64 (IntKind.wrap .i64 (x4478 - x4516))))).upd 199 (.lit (.bool x4564)))) (M' := (Mem.nil.push (.row 71 rdS_huff_coin x4541))) [0] hnp ⟨rfl, ⟨trivial, .inr ⟨rfl, rfl, rfl⟩⟩, by decide, rfl, ⟨trivial, rfl⟩⟩ (LeE.upd rfl rfl (LeE.upd rfl rfl (LeE.upd rfl rfl (LeE.upd rfl rfl (LeE.upd rfl rfl (LeE.upd rfl rfl (LeE.upd rfl rfl (LeE.upd rfl rfl (LeE.none rfl rfl)))))))))) rfl ?_
                  refine W.now ?_
                  have q0 := (Option.some.inj H)
                  subst q0
                  exact ⟨rfl, rfl, rfl⟩
                · replace H := cnf hb4562 H
                  refine WPL.skipg (b' := false) rfl rfl (lb hb4562) rfl rfl ?_
                  refine WPL.skipg (b' := false) rfl rfl (lb hb4562) rfl rfl ?_
                  refine WPL.skipg (b' := false) rfl rfl (lb hb4562) rfl rfl ?_
                  refine WPL.q (q_pickF (v := .lit (.bool _)) (lb hb4562) rfl) rfl ?_
                  refine WPL.nilW ?_
                  refine W.cv (Cv.weak (E' := ((((((((Env.none.upd 0 (.whole 0)).upd 1 (.lit (.int .i64 x3375))).upd 3 (.lit (.int .i64 x3377))).upd 4 (.fn 23 [])).upd 18 (.lit (.int .i64 (IntKind.wrap .i64 (shrI .u64 x4477 1))))).upd 20 (.lit (.int .i64 x4516))).upd 24 (.lit (.int .i64 (IntKind.wrap .i64 (x4478 - x4516))))).upd 199 (.lit (.bool false)))) (M' := (Mem.nil.push (.row 71 rdS_huff_coin x4541))) [0] hnp ⟨rfl, ⟨trivial, .inr ⟨rfl, rfl, rfl⟩⟩, by decide, rfl, ⟨trivial, rfl⟩⟩ (LeE.upd rfl rfl (LeE.upd rfl rfl (LeE.upd rfl rfl (LeE.upd rfl rfl (LeE.upd rfl rfl (LeE.upd rfl rfl (LeE.upd rfl rfl (LeE.upd rfl rfl (LeE.none rfl rfl)))))))))) rfl ?_
                  refine W.now ?_
                  have q0 := (Option.some.inj H)
                  subst q0
                  exact ⟨rfl, rfl, rfl⟩
              · rintro _ _ _ ⟨rfl, rfl, rfl⟩
                refine W.now ?_
                refine Then.n ?_
                refine WP.cond (t := x4562) rfl (fun hb => ?_) (fun hb => ?_)
                · replace H := cnt hb H
                  refine WP.region ?_
                  refine WPL.q (q_mv (v := .whole _) rfl) rfl ?_
                  refine WPL.q (q_mv (v := .lit (.int _ _)) rfl) rfl ?_
                  refine WPL.q (q_mv (v := .lit (.int _ _)) rfl) rfl ?_
                  refine WPL.q (q_mv (v := .lit (.int _ _)) rfl) rfl ?_
                  refine WPL.q (q_mv (v := .fn _ _) rfl) rfl ?_
                  obtain ⟨x4567, h4565, H⟩ := bnd H
                  refine WPL.c (runs_call (s := [0]) (t := [0]) (N := 1) (bor := []) fn34 rfl (hrc3379 x3375 x4516 (IntKind.wrap .i64 (shrI .u64 x4477 1)) x4541 x4567 h4565) ⟨rfl, ⟨trivial, .inr ⟨rfl, rfl, rfl⟩⟩, by decide, rfl, trivial⟩ rfl trivial (.ren rfl rfl (.ren rfl rfl (.ren rfl rfl (.ren rfl rfl (.ren rfl rfl .nil))))) rfl ⟨trivial, rfl⟩ rfl) rfl ?_
                  refine WPL.nilW ?_
                  refine W.cv (Cv.weak (E' := (((((Env.none.upd 0 (.whole 0)).upd 3 (.lit (.int .i64 x3377))).upd 4 (.fn 23 [])).upd 18 (.lit (.int .i64 (IntKind.wrap .i64 (shrI .u64 x4477 1))))).upd 24 (.lit (.int .i64 (IntKind.wrap .i64 (x4478 - x4516)))))) (M' := (Mem.nil.push (.row 71 rdS_huff_coin x4567))) [0] hnp ⟨rfl, ⟨trivial, .inr ⟨rfl, rfl, rfl⟩⟩, by decide, rfl, ⟨trivial, rfl⟩⟩ (LeE.upd rfl rfl (LeE.upd rfl rfl (LeE.upd rfl rfl (LeE.upd rfl rfl (LeE.upd rfl rfl (LeE.none rfl rfl))))))) rfl ?_
                  refine W.now ?_
                  have q0 := (Option.some.inj H)
                  subst q0
                  exact ⟨rfl, rfl, rfl⟩
                · replace H := cnf hb H
                  refine WP.skipW ?_
                  refine W.cv (Cv.weak (E' := (((((Env.none.upd 0 (.whole 0)).upd 3 (.lit (.int .i64 x3377))).upd 4 (.fn 23 [])).upd 18 (.lit (.int .i64 (IntKind.wrap .i64 (shrI .u64 x4477 1))))).upd 24 (.lit (.int .i64 (IntKind.wrap .i64 (x4478 - x4516)))))) (M' := (Mem.nil.push (.row 71 rdS_huff_coin x4541))) [0] hnp ⟨rfl, ⟨trivial, .inr ⟨rfl, rfl, rfl⟩⟩, by decide, rfl, ⟨trivial, rfl⟩⟩ (LeE.upd rfl rfl (LeE.upd rfl rfl (LeE.upd rfl rfl (LeE.upd rfl rfl (LeE.upd rfl rfl (LeE.none rfl rfl))))))) rfl ?_
                  refine W.now ?_
                  have q0 := (Option.some.inj H)
                  subst q0
                  exact ⟨rfl, rfl, rfl⟩
            · rintro _ _ _ ⟨rfl, rfl, rfl⟩
              refine W.now ?_
              refine Then.n ?_
              refine WP.seq ?_
              obtain ⟨x4572, H4575, H⟩ := bnd H
              refine WP.monoW (Q := fun x E M => x = .normal ∧ E = ((((((Env.none.upd 0 (.whole 0)).upd 3 (.lit (.int .i64 x3377))).upd 4 (.fn 23 [])).upd 18 (.lit (.int .i64 (IntKind.wrap .i64 (shrI .u64 x4477 1))))).upd 24 (.lit (.int .i64 (IntKind.wrap .i64 (x4478 - x4516))))).upd 213 (.lit (.bool x4572))) ∧ M = (Mem.nil.push (.row 71 rdS_huff_coin x4559))) ?_ ?_
              · clear H
                have H := H4575
                clear H4575
                refine WP.region ?_
                refine WPL.q (q_mv (v := .lit (.int _ _)) rfl) rfl ?_
                refine WPL.q (q_mv (v := .lit (.int _ _)) rfl) rfl ?_
                obtain ⟨x4573, h4573, H⟩ := bnd H
                refine WPL.q (q_nm (q_lss rfl rfl) (nm_bool h4573)) rfl ?_
                refine WPL.q (q_mv (v := .lit (.bool _)) rfl) rfl ?_
                refine WPL.split (t := 209) (b := x4573) rfl (fun hb4573 => ?_) (fun hb4573 => ?_)
                · replace H := cnt hb4573 H
                  refine WPL.qg rfl rfl (lb hb4573) (q_mv (v := .lit (.int _ _)) rfl) rfl ?_
                  refine WPL.qg rfl rfl (lb hb4573) (q_mv (v := .lit (.int _ _)) rfl) rfl ?_
                  obtain ⟨x4575, h4575, H⟩ := bnd H
                  refine WPL.qg rfl rfl (lb hb4573) (q_nm (q_lss rfl rfl) (nm_bool h4575)) rfl ?_
                  refine WPL.q (q_pickT (v := .lit (.bool _)) (lb hb4573) rfl) rfl ?_
                  refine WPL.nilW ?_
                  refine W.cv (Cv.weak (E' := ((((((Env.none.upd 0 (.whole 0)).upd 3 (.lit (.int .i64 x3377))).upd 4 (.fn 23 [])).upd 18 (.lit (.int .i64 (IntKind.wrap .i64 (shrI .u64 x4477 1))))).upd 24 (.lit (.int .i64 (IntKind.wrap .i64 (x4478 - x4516))))).upd 213 (.lit (.bool x4575)))) (M' := (Mem.nil.push (.row 71 rdS_huff_coin x4559))) [0] hnp ⟨rfl, ⟨trivial, .inr ⟨rfl, rfl, rfl⟩⟩, by decide, rfl, ⟨trivial, rfl⟩⟩ (LeE.upd rfl rfl (LeE.upd rfl rfl (LeE.upd rfl rfl (LeE.upd rfl rfl (LeE.upd rfl rfl (LeE.upd rfl rfl (LeE.none rfl rfl)))))))) rfl ?_
                  refine W.now ?_
                  have q0 := (Option.some.inj H)
                  subst q0
                  exact ⟨rfl, rfl, rfl⟩
                · replace H := cnf hb4573 H
                  refine WPL.skipg (b' := false) rfl rfl (lb hb4573) rfl rfl ?_
                  refine WPL.skipg (b' := false) rfl rfl (lb hb4573) rfl rfl ?_
                  refine WPL.skipg (b' := false) rfl rfl (lb hb4573) rfl rfl ?_
                  refine WPL.q (q_pickF (v := .lit (.bool _)) (lb hb4573) rfl) rfl ?_
                  refine WPL.nilW ?_
                  refine W.cv (Cv.weak (E' := ((((((Env.none.upd 0 (.whole 0)).upd 3 (.lit (.int .i64 x3377))).upd 4 (.fn 23 [])).upd 18 (.lit (.int .i64 (IntKind.wrap .i64 (shrI .u64 x4477 1))))).upd 24 (.lit (.int .i64 (IntKind.wrap .i64 (x4478 - x4516))))).upd 213 (.lit (.bool false)))) (M' := (Mem.nil.push (.row 71 rdS_huff_coin x4559))) [0] hnp ⟨rfl, ⟨trivial, .inr ⟨rfl, rfl, rfl⟩⟩, by decide, rfl, ⟨trivial, rfl⟩⟩ (LeE.upd rfl rfl (LeE.upd rfl rfl (LeE.upd rfl rfl (LeE.upd rfl rfl (LeE.upd rfl rfl (LeE.upd rfl rfl (LeE.none rfl rfl)))))))) rfl ?_
                  refine W.now ?_
                  have q0 := (Option.some.inj H)
                  subst q0
                  exact ⟨rfl, rfl, rfl⟩
              · rintro _ _ _ ⟨rfl, rfl, rfl⟩
                refine W.now ?_
                refine Then.n ?_
                refine WP.cond (t := x4572) rfl (fun hb => ?_) (fun hb => ?_)
                · replace H := cnt hb H
                  refine WP.region ?_
                  refine WPL.q (q_mv (v := .whole _) rfl) rfl ?_
                  refine WPL.q (q_mv (v := .lit (.int _ _)) rfl) rfl ?_
                  refine WPL.q (q_mv (v := .lit (.int _ _)) rfl) rfl ?_
                  refine WPL.q (q_mv (v := .lit (.int _ _)) rfl) rfl ?_
                  refine WPL.q (q_mv (v := .fn _ _) rfl) rfl ?_
                  obtain ⟨x4578, h4576, H⟩ := bnd H
                  refine WPL.c (runs_call (s := [0]) (t := [0]) (N := 1) (bor := []) fn34 rfl (hrc3379 (IntKind.wrap .i64 (shrI .u64 x4477 1)) (IntKind.wrap .i64 (x4478 - x4516)) x3377 x4559 x4578 h4576) ⟨rfl, ⟨trivial, .inr ⟨rfl, rfl, rfl⟩⟩, by decide, rfl, trivial⟩ rfl trivial (.ren rfl rfl (.ren rfl rfl (.ren rfl rfl (.ren rfl rfl (.ren rfl rfl .nil))))) rfl ⟨trivial, rfl⟩ rfl) rfl ?_
                  refine WPL.nilW ?_
                  refine W.now ?_
                  have q0 := (Option.some.inj H)
                  subst q0
                  exact ⟨trivial, _, rfl, [0], (.tup []), (Mem.nil.push (.row 71 rdS_huff_coin x4578)), ⟨rfl, ⟨trivial, .inr ⟨rfl, rfl, rfl⟩⟩, by decide, rfl, ⟨trivial, rfl⟩⟩, rfl, rfl, rfl, rfl⟩
                · replace H := cnf hb H
                  refine WP.skipW ?_
                  refine W.now ?_
                  have q0 := (Option.some.inj H)
                  subst q0
                  exact ⟨trivial, _, rfl, [0], (.tup []), (Mem.nil.push (.row 71 rdS_huff_coin x4559)), ⟨rfl, ⟨trivial, .inr ⟨rfl, rfl, rfl⟩⟩, by decide, rfl, ⟨trivial, rfl⟩⟩, rfl, rfl, rfl, rfl⟩
theorem s_slices_symMergeCmpFunc_huff_coin : ∀ (k : Nat) (x3375 : Int) (x3376 : Int) (x3377 : Int) (x3378 : (List S_huff_coin)) (x3848 : (List S_huff_coin)) (H : g_slices_symMergeCmpFunc_huff_coin k x3375 x3376 x3377 x3378 = some x3848), Go.Q.Spec Try.prog 34 1 [.whole 0, .lit (.int .i64 x3375), .lit (.int .i64 x3376), .lit (.int .i64 x3377), .fn 23 []] (Mem.nil.push (.row 71 rdS_huff_coin x3378)) (fun o M => o = .ret (.tup []) ∧ M = (Mem.nil.push (.row 71 rdS_huff_coin x3848)))
  | 0, _, _, _, _, _, H => nf rfl H
  | k + 1, x3375, x3376, x3377, x3378, x3848, H => sb_slices_symMergeCmpFunc_huff_coin (g_slices_symMergeCmpFunc_huff_coin k) (s_slices_symMergeCmpFunc_huff_coin k) k x3375 x3376 x3377 x3378 x3848 H
end Go.Proofs.Ythgbompoldmhmab.W
