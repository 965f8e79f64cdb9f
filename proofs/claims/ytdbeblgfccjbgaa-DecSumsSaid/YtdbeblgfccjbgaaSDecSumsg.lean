/- Texts joined: part 7 of what LDecSums stands on. -/
import Derived.Test.YtdbeblgfccjbgaaSDecSumsf
namespace Go.Proofs.Ytdbeblgfccjbgaa.W
open Go Go.Q Go.Proofs
set_option linter.unusedVariables false
set_option linter.unusedSimpArgs false
set_option maxRecDepth 100000 in
set_option maxHeartbeats 4000000 in
theorem s_dec_Print (k : Nat) (x8826 : Int) (x8827 : Int) (x9473 : ByteArray) (H : g_dec_Print k x8826 x8827 = some x9473) : Go.Q.Spec Try.prog 45 0 [.agg [.lit (.int .i64 x8826), .lit (.int .i64 x8827)]] Mem.nil (fun o M => o = .ret (.lit (.string x9473)) ∧ M = Mem.nil) := by
  unfold g_dec_Print at H
  refine Go.Q.Spec.of_bodyR (az := []) (rs := [.tmp 2]) (nt := 72) Try.func45 rfl rfl (by intro t T h; simp at h) rfl rfl fun cx hnp => ?_
  refine WP.seq ?_
  refine WP.region ?_
  refine WPL.d (d_box rfl rfl) rfl ?_
  refine WPL.q (q_as (v := .lit (.string _)) rfl) rfl ?_
  refine WPL.nilW ?_
  refine W.now ?_
  refine Then.n ?_
  refine WP.seq ?_
  refine WP.seq ?_
  refine WP.region ?_
  refine WPL.d (d_buildCells li81 rfl rfl rfl rfl rfl) rfl ?_
  obtain ⟨⟨x9480, x9481, x9482⟩, h9478, H⟩ := bnd H
  refine WPL.c (runs_call (s := [1, 0]) (t := [1, 0]) (N := 2) (bor := []) fn27 rfl (s_dec_clean__b k x8826 x8827 x9480 x9481 x9482 h9478) ⟨rfl, ⟨⟨trivial, .inr ⟨rfl, rfl, rfl⟩⟩, .inr ⟨rfl, rfl, rfl⟩⟩, by decide, rfl, trivial⟩ rfl trivial (.ren rfl rfl .nil) rfl ⟨⟨trivial, rfl⟩, rfl⟩ rfl) rfl ?_
  refine WPL.q (q_not rfl) rfl ?_
  refine WPL.nilW ?_
  refine W.now ?_
  refine Then.n ?_
  refine WP.cond (t := (!x9480)) rfl (fun hb9482 => ?_) (fun hb9482 => ?_)
  · replace H := cnt hb9482 H
    refine WP.seq ?_
    refine WP.region ?_
    refine WPL.q (q_as (v := .lit (.string _)) rfl) rfl ?_
    refine WPL.nilW ?_
    refine W.now ?_
    refine Then.n ?_
    refine WP.retW ?_
    refine W.now ?_
    refine Then.r ?_
    have q0 := (Option.some.inj H)
    subst q0
    exact ⟨trivial, _, rfl, [], (.lit (.string (ByteArray.mk #[63]))), Mem.nil, ⟨rfl, trivial, by decide, rfl, trivial⟩, rfl, rfl, rfl, rfl⟩
  · replace H := cnf hb9482 H
    refine WP.skipW ?_
    refine W.now ?_
    refine Then.n ?_
    refine WP.seq ?_
    refine WP.region ?_
    refine WPL.q (q_as (v := .lit (.string _)) rfl) rfl ?_
    refine WPL.nilW ?_
    refine W.now ?_
    refine Then.n ?_
    refine WP.seq ?_
    refine WP.seq ?_
    refine WP.region ?_
    refine WPL.q (q_fieldAddr fi23_0 rfl rfl) rfl ?_
    refine WPL.q (q_load sc2 rfl rfl rfl) rfl ?_
    obtain ⟨x9485, h9483, H⟩ := bnd H
    refine WPL.c (runs_call (s := []) (t := []) (N := 2) (bor := []) fn28 rfl (s_dec_size k x9481 x9485 h9483) ⟨rfl, trivial, by decide, rfl, trivial⟩ rfl trivial (.ren rfl rfl .nil) rfl trivial rfl) rfl ?_
    refine WPL.q (q_as (v := .lit (.int _ _)) rfl) rfl ?_
    refine WPL.nilW ?_
    refine W.now ?_
    refine Then.n ?_
    refine WP.block ?_
    refine WP.cv (Cv.weak (E' := (((Env.none.upd 1 (.ptr 0 0)).upd 3 (.lit (.string (ByteArray.mk #[])))).upd 4 (.lit (.int .u64 x9485)))) (M' := (Mem.nil.push (.cells 23 [.lit (.int .i64 x9481), .lit (.int .i64 x9482)]))) [0] hnp ⟨rfl, ⟨trivial, .inr ⟨rfl, rfl, rfl⟩⟩, by decide, rfl, trivial⟩ (LeE.upd rfl rfl (LeE.upd rfl rfl (LeE.upd rfl rfl (LeE.none rfl rfl))))) ?_
    obtain ⟨x9497, H9501, H⟩ := bnd H
    refine WP.monoW (Q := fun x E M => x = .exit 0 ∧ E = ((Env.none.upd 1 (.ptr 0 0)).upd 3 (.lit (.string x9497))) ∧ M = (Mem.nil.push (.cells 23 [.lit (.int .i64 x9481), .lit (.int .i64 x9482)]))) ?_ ?_
    · refine WP.loop (β := ByteArray × Int) (fun n b => g_dec_Print_l0 k n b.1 b.2 = some x9497) (fun b => (((Env.none.upd 1 (.ptr 0 0)).upd 3 (.lit (.string b.1))).upd 4 (.lit (.int .u64 b.2)))) (fun b => (Mem.nil.push (.cells 23 [.lit (.int .i64 x9481), .lit (.int .i64 x9482)]))) k ((ByteArray.mk #[]), x9485) H9501 rfl rfl ?_
      rintro n ⟨x9491, x9492⟩ H
      obtain _ | n := n
      · exact nf rfl H
      rw [g_dec_Print_l0.eq_2] at H
      show WP _ _ _ _ (((Env.none.upd 1 (.ptr 0 0)).upd 3 (.lit (.string x9491))).upd 4 (.lit (.int .u64 x9492))) (Mem.nil.push (.cells 23 [.lit (.int .i64 x9481), .lit (.int .i64 x9482)])) _
      refine WP.seq ?_
      refine WP.seq ?_
      refine WP.region ?_
      refine WPL.q (q_mv (v := .lit (.int _ _)) rfl) rfl ?_
      refine WPL.q (q_gtr rfl rfl) rfl ?_
      refine WPL.nilW ?_
      refine W.now ?_
      refine Then.n ?_
      refine WP.cond (t := (decide (0 < x9492))) rfl (fun hb9498 => ?_) (fun hb9498 => ?_)
      · replace H := cnt hb9498 H
        refine WP.skipW ?_
        refine W.now ?_
        refine Then.n ?_
        refine WP.seq ?_
        refine WP.block ?_
        refine WP.region ?_
        refine WPL.q (q_mv (v := .lit (.int _ _)) rfl) rfl ?_
        refine WPL.q (q_rem rfl rfl rfl) rfl ?_
        obtain ⟨x9500, h9500, H⟩ := bnd H
        refine WPL.q (q_nm (q_add rfl rfl) (nm_int h9500)) rfl ?_
        refine WPL.q (q_conv Try.underlying38 Try.underlying5 rfl) rfl ?_
        refine WPL.d (d_buildSlice (ds := ([(IntKind.wrap .u8 x9500)] : List Int)) (R := (Rd.int .u8)) li89 rfl rfl rfl rfl rfl (JoinRows.cons1 Joins.sc rfl JoinRows.nil) rfl rfl) rfl ?_
        refine WPL.q (q_bytes_str_row Try.underlying89 Try.underlying5 Try.underlying9 rfl rfl) rfl ?_
        refine WPL.q (q_mv (v := .lit (.string _)) rfl) rfl ?_
        obtain ⟨h9500, H⟩ := grd H
        refine WPL.q (q_concat rfl rfl h9500) rfl ?_
        refine WPL.q (q_as (v := .lit (.string _)) rfl) rfl ?_
        refine WPL.nilW ?_
        refine W.now ?_
        refine InBlock.n ?_
        refine Then.n ?_
        refine WP.region ?_
        refine WPL.q (q_mv (v := .lit (.int _ _)) rfl) rfl ?_
        refine WPL.q (q_quo rfl rfl rfl) rfl ?_
        refine WPL.q (q_as (v := .lit (.int _ _)) rfl) rfl ?_
        refine WPL.nilW ?_
        refine W.cv (Cv.weak (E' := (((Env.none.upd 1 (.ptr 0 0)).upd 3 (.lit (.string ((strOf ([(IntKind.wrap .u8 x9500)] : List Int)) ++ x9491)))).upd 4 (.lit (.int .u64 (IntKind.wrap .u64 (Int.tdiv x9492 10)))))) (M' := (Mem.nil.push (.cells 23 [.lit (.int .i64 x9481), .lit (.int .i64 x9482)]))) [0] hnp ⟨rfl, ⟨trivial, .inr ⟨rfl, rfl, rfl⟩⟩, by decide, rfl, trivial⟩ (LeE.upd rfl rfl (LeE.upd rfl rfl (LeE.upd rfl rfl (LeE.none rfl rfl))))) rfl ?_
        refine W.now ?_
        exact Then.n ⟨n, (((strOf ([(IntKind.wrap .u8 x9500)] : List Int)) ++ x9491), (IntKind.wrap .u64 (Int.tdiv x9492 10))), Nat.lt_succ_self n, H, rfl, rfl⟩
      · replace H := cnf hb9498 H
        refine WP.exitW ?_
        refine W.cv (Cv.weak (E' := ((Env.none.upd 1 (.ptr 0 0)).upd 3 (.lit (.string x9491)))) (M' := (Mem.nil.push (.cells 23 [.lit (.int .i64 x9481), .lit (.int .i64 x9482)]))) [0] hnp ⟨rfl, ⟨trivial, .inr ⟨rfl, rfl, rfl⟩⟩, by decide, rfl, trivial⟩ (LeE.upd rfl rfl (LeE.upd rfl rfl (LeE.none rfl rfl)))) rfl ?_
        refine W.now ?_
        refine Then.x ?_
        refine Then.x ?_
        have q0 := (Option.some.inj H)
        subst q0
        exact ⟨rfl, rfl, rfl⟩
    · rintro _ _ _ ⟨rfl, rfl, rfl⟩
      refine W.now ?_
      refine InBlock.x0 ?_
      refine Then.n ?_
      refine WP.seq ?_
      obtain ⟨x9532, H9561, H⟩ := bnd H
      refine WP.monoW (Q := fun x E M => x = .normal ∧ E = ((Env.none.upd 1 (.ptr 0 0)).upd 3 (.lit (.string x9532))) ∧ M = (Mem.nil.push (.cells 23 [.lit (.int .i64 x9481), .lit (.int .i64 x9482)]))) ?_ ?_
      · clear H
        have H := H9561
        clear H9561
        refine WP.block ?_
        refine WP.seq ?_
        refine WP.region ?_
        refine WPL.q (q_fieldAddr fi23_0 rfl rfl) rfl ?_
        refine WPL.q (q_load sc2 rfl rfl rfl) rfl ?_
        refine WPL.q (q_eql rfl rfl) rfl ?_
        refine WPL.q (q_as (v := .lit (.bool _)) rfl) rfl ?_
        refine WPL.nilW ?_
        refine W.now ?_
        refine Then.n ?_
        refine WP.cond (t := (decide (x9481 = 0))) rfl (fun hb9532 => ?_) (fun hb9532 => ?_)
        · replace H := cnt hb9532 H
          refine WP.region ?_
          refine WPL.q (q_as (v := .lit (.string _)) rfl) rfl ?_
          refine WPL.nilW ?_
          refine W.cv (Cv.weak (E' := ((Env.none.upd 1 (.ptr 0 0)).upd 3 (.lit (.string (ByteArray.mk #[48]))))) (M' := (Mem.nil.push (.cells 23 [.lit (.int .i64 x9481), .lit (.int .i64 x9482)]))) [0] hnp ⟨rfl, ⟨trivial, .inr ⟨rfl, rfl, rfl⟩⟩, by decide, rfl, trivial⟩ (LeE.upd rfl rfl (LeE.upd rfl rfl (LeE.none rfl rfl)))) rfl ?_
          refine W.now ?_
          refine InBlock.n ?_
          have q0 := (Option.some.inj H)
          subst q0
          exact ⟨rfl, rfl, rfl⟩
        · replace H := cnf hb9532 H
          refine WP.seq ?_
          refine WP.region ?_
          refine WPL.q (q_fieldAddr fi23_1 rfl rfl) rfl ?_
          refine WPL.q (q_load sc3 rfl rfl rfl) rfl ?_
          refine WPL.q (q_gtr rfl rfl) rfl ?_
          refine WPL.q (q_as (v := .lit (.bool _)) rfl) rfl ?_
          refine WPL.nilW ?_
          refine W.now ?_
          refine Then.n ?_
          refine WP.cond (t := (decide (0 < x9482))) rfl (fun hb9533 => ?_) (fun hb9533 => ?_)
          · replace H := cnt hb9533 H
            refine WP.region ?_
            refine WPL.q (q_mv (v := .lit (.string _)) rfl) rfl ?_
            refine WPL.q (q_fieldAddr fi23_1 rfl rfl) rfl ?_
            refine WPL.q (q_load sc3 rfl rfl rfl) rfl ?_
            obtain ⟨x9536, h9534, H⟩ := bnd H
            refine WPL.c (runs_call (s := []) (t := []) (N := 1) (bor := []) fn66 rfl (s_strings_Repeat k (ByteArray.mk #[48]) x9482 x9536 h9534) ⟨rfl, trivial, by decide, rfl, trivial⟩ rfl trivial (.ren rfl rfl (.ren rfl rfl .nil)) rfl trivial rfl) rfl ?_
            obtain ⟨h9536, H⟩ := grd H
            refine WPL.q (q_concat rfl rfl h9536) rfl ?_
            refine WPL.q (q_as (v := .lit (.string _)) rfl) rfl ?_
            refine WPL.nilW ?_
            refine W.cv (Cv.weak (E' := ((Env.none.upd 1 (.ptr 0 0)).upd 3 (.lit (.string (x9497 ++ x9536))))) (M' := (Mem.nil.push (.cells 23 [.lit (.int .i64 x9481), .lit (.int .i64 x9482)]))) [0] hnp ⟨rfl, ⟨trivial, .inr ⟨rfl, rfl, rfl⟩⟩, by decide, rfl, trivial⟩ (LeE.upd rfl rfl (LeE.upd rfl rfl (LeE.none rfl rfl)))) rfl ?_
            refine W.now ?_
            refine InBlock.n ?_
            have q0 := (Option.some.inj H)
            subst q0
            exact ⟨rfl, rfl, rfl⟩
          · replace H := cnf hb9533 H
            refine WP.seq ?_
            refine WP.region ?_
            refine WPL.q (q_fieldAddr fi23_1 rfl rfl) rfl ?_
            refine WPL.q (q_load sc3 rfl rfl rfl) rfl ?_
            refine WPL.q (q_lss rfl rfl) rfl ?_
            refine WPL.q (q_as (v := .lit (.bool _)) rfl) rfl ?_
            refine WPL.nilW ?_
            refine W.now ?_
            refine Then.n ?_
            refine WP.cond (t := (decide (x9482 < 0))) rfl (fun hb9537 => ?_) (fun hb9537 => ?_)
            · replace H := cnt hb9537 H
              refine WP.seq ?_
              refine WP.region ?_
              refine WPL.q (q_fieldAddr fi23_1 rfl rfl) rfl ?_
              refine WPL.q (q_load sc3 rfl rfl rfl) rfl ?_
              refine WPL.q (q_sub rfl rfl) rfl ?_
              refine WPL.q (q_mv (v := .lit (.string _)) rfl) rfl ?_
              refine WPL.q (q_len_str Try.underlying9 rfl) rfl ?_
              obtain ⟨x9539, h9539, H⟩ := bnd H
              refine WPL.q (q_nm (q_sub rfl rfl) (nm_int h9539)) rfl ?_
              obtain ⟨x9540, h9540, H⟩ := bnd H
              refine WPL.q (q_nm (q_max rfl rfl) (nm_int h9540)) rfl ?_
              obtain ⟨x9542, h9540, H⟩ := bnd H
              refine WPL.c (runs_call (s := []) (t := []) (N := 1) (bor := []) fn66 rfl (s_strings_Repeat k (ByteArray.mk #[48]) x9540 x9542 h9540) ⟨rfl, trivial, by decide, rfl, trivial⟩ rfl trivial (.ren rfl rfl (.ren rfl rfl .nil)) rfl trivial rfl) rfl ?_
              refine WPL.q (q_mv (v := .lit (.string _)) rfl) rfl ?_
              obtain ⟨h9542, H⟩ := grd H
              refine WPL.q (q_concat rfl rfl h9542) rfl ?_
              refine WPL.q (q_as (v := .lit (.string _)) rfl) rfl ?_
              refine WPL.nilW ?_
              refine W.now ?_
              refine Then.n ?_
              refine WP.regionD' 17 [0] [] mixed rfl ?_
              refine WPD.takeT 0 rfl (by kernel_rfl) (q_mv (v := .lit (.string _)) rfl) rfl ?_
              refine WPD.takeT 1 rfl (by kernel_rfl) (q_mv (v := .lit (.string _)) rfl) rfl ?_
              obtain ⟨x9554, h9554, H⟩ := bnd H
              refine WPD.takeT 2 rfl (by kernel_rfl) (q_nm (q_len_str Try.underlying9 rfl) (nm_int h9554)) rfl ?_
              refine WPD.takeT 3 rfl (by kernel_rfl) (q_fieldAddr fi23_1 rfl rfl) rfl ?_
              refine WPD.takeT 8 rfl (by kernel_rfl) (q_mv (v := .lit (.string _)) rfl) rfl ?_
              refine WPD.takeT 9 rfl (by kernel_rfl) (q_mv (v := .lit (.string _)) rfl) rfl ?_
              obtain ⟨x9555, h9555, H⟩ := bnd H
              refine WPD.takeT 10 rfl (by kernel_rfl) (q_nm (q_len_str Try.underlying9 rfl) (nm_int h9555)) rfl ?_
              refine WPD.takeT 11 rfl (by kernel_rfl) (q_fieldAddr fi23_1 rfl rfl) rfl ?_
              refine WPD.take 4 rfl (by kernel_rfl) (q_load sc3 rfl rfl rfl) rfl rfl ?_
              refine WPD.takeT 5 rfl (by kernel_rfl) (q_add rfl rfl) rfl ?_
              obtain ⟨h9555, H⟩ := grd H
              obtain ⟨x9557, h9557, H⟩ := bnd H
              refine WPD.takeT 6 rfl (by kernel_rfl) (q_nm (q_slice_str (i := 0) (j := (IntKind.wrap .i64 (x9554 + x9482))) Try.underlying9 rfl rfl ⟨_, rfl⟩ h9555) (nm_str h9557)) rfl ?_
              obtain ⟨h9557, H⟩ := grd H
              refine WPD.takeT 7 rfl (by kernel_rfl) (q_concat rfl rfl h9557) rfl ?_
              refine WPD.take 12 rfl (by kernel_rfl) (q_load sc3 rfl rfl rfl) rfl rfl ?_
              refine WPD.takeT 13 rfl (by kernel_rfl) (q_add rfl rfl) rfl ?_
              obtain ⟨h9558, H⟩ := grd H
              obtain ⟨x9560, h9560, H⟩ := bnd H
              refine WPD.takeT 14 rfl (by kernel_rfl) (q_nm (q_slice_str (i := (IntKind.wrap .i64 (x9555 + x9482))) (j := ((ByteArray.size (x9542 ++ x9497) : Nat) : Int)) Try.underlying9 rfl ⟨_, rfl⟩ rfl h9558) (nm_str h9560)) rfl ?_
              obtain ⟨h9560, H⟩ := grd H
              refine WPD.takeT 15 rfl (by kernel_rfl) (q_concat rfl rfl h9560) rfl ?_
              refine WPD.takeT 16 rfl (by kernel_rfl) (q_as (v := .lit (.string _)) rfl) rfl ?_
              refine WPD.doneW (by kernel_rfl) ?_
              refine W.cv (Cv.weak (E' := ((Env.none.upd 1 (.ptr 0 0)).upd 3 (.lit (.string ((x9557 ++ (ByteArray.mk #[46])) ++ x9560))))) (M' := (Mem.nil.push (.cells 23 [.lit (.int .i64 x9481), .lit (.int .i64 x9482)]))) [0] hnp ⟨rfl, ⟨trivial, .inr ⟨rfl, rfl, rfl⟩⟩, by decide, rfl, trivial⟩ (LeE.upd rfl rfl (LeE.upd rfl rfl (LeE.none rfl rfl)))) rfl ?_
              refine W.now ?_
              refine InBlock.n ?_
              have q0 := (Option.some.inj H)
              subst q0
              exact ⟨rfl, rfl, rfl⟩
            · replace H := cnf hb9537 H
              refine WP.skipW ?_
              refine W.cv (Cv.weak (E' := ((Env.none.upd 1 (.ptr 0 0)).upd 3 (.lit (.string x9497)))) (M' := (Mem.nil.push (.cells 23 [.lit (.int .i64 x9481), .lit (.int .i64 x9482)]))) [0] hnp ⟨rfl, ⟨trivial, .inr ⟨rfl, rfl, rfl⟩⟩, by decide, rfl, trivial⟩ (LeE.upd rfl rfl (LeE.upd rfl rfl (LeE.none rfl rfl)))) rfl ?_
              refine W.now ?_
              refine InBlock.n ?_
              have q0 := (Option.some.inj H)
              subst q0
              exact ⟨rfl, rfl, rfl⟩
      · rintro _ _ _ ⟨rfl, rfl, rfl⟩
        refine W.now ?_
        refine Then.n ?_
        refine WP.seq ?_
        obtain ⟨x9565, H9567, H⟩ := bnd H
        refine WP.monoW (Q := fun x E M => x = .normal ∧ E = (Env.none.upd 3 (.lit (.string x9565))) ∧ M = Mem.nil) ?_ ?_
        · clear H
          have H := H9567
          clear H9567
          refine WP.seq ?_
          refine WP.region ?_
          refine WPL.q (q_fieldAddr fi23_0 rfl rfl) rfl ?_
          refine WPL.q (q_load sc2 rfl rfl rfl) rfl ?_
          refine WPL.q (q_lss rfl rfl) rfl ?_
          refine WPL.nilW ?_
          refine W.now ?_
          refine Then.n ?_
          refine WP.cond (t := (decide (x9481 < 0))) rfl (fun hb9565 => ?_) (fun hb9565 => ?_)
          · replace H := cnt hb9565 H
            refine WP.region ?_
            refine WPL.q (q_mv (v := .lit (.string _)) rfl) rfl ?_
            obtain ⟨h9566, H⟩ := grd H
            refine WPL.q (q_concat rfl rfl h9566) rfl ?_
            refine WPL.q (q_as (v := .lit (.string _)) rfl) rfl ?_
            refine WPL.nilW ?_
            refine W.cv (Cv.weak (E' := (Env.none.upd 3 (.lit (.string ((ByteArray.mk #[45]) ++ x9532))))) (M' := Mem.nil) [] hnp ⟨rfl, trivial, by decide, rfl, trivial⟩ (LeE.upd rfl rfl (LeE.none rfl rfl))) rfl ?_
            refine W.now ?_
            have q0 := (Option.some.inj H)
            subst q0
            exact ⟨rfl, rfl, rfl⟩
          · replace H := cnf hb9565 H
            refine WP.skipW ?_
            refine W.cv (Cv.weak (E' := (Env.none.upd 3 (.lit (.string x9532)))) (M' := Mem.nil) [] hnp ⟨rfl, trivial, by decide, rfl, trivial⟩ (LeE.upd rfl rfl (LeE.none rfl rfl))) rfl ?_
            refine W.now ?_
            have q0 := (Option.some.inj H)
            subst q0
            exact ⟨rfl, rfl, rfl⟩
        · rintro _ _ _ ⟨rfl, rfl, rfl⟩
          refine W.now ?_
          refine Then.n ?_
          refine WP.seq ?_
          refine WP.region ?_
          refine WPL.q (q_mv (v := .lit (.string _)) rfl) rfl ?_
          refine WPL.q (q_as (v := .lit (.string _)) rfl) rfl ?_
          refine WPL.nilW ?_
          refine W.now ?_
          refine Then.n ?_
          refine WP.retW ?_
          refine W.now ?_
          have q0 := (Option.some.inj H)
          subst q0
          exact ⟨trivial, _, rfl, [], (.lit (.string x9565)), Mem.nil, ⟨rfl, trivial, by decide, rfl, trivial⟩, rfl, rfl, rfl, rfl⟩
set_option maxRecDepth 100000 in
set_option maxHeartbeats 4000000 in
theorem s_quirelaw09_alive (k : Nat) (x9591 : Bool) (H : g_quirelaw09_alive k = some x9591) : Go.Q.Spec Try.prog 13 0 [] Mem.nil (fun o M => o = .ret (.lit (.bool x9591)) ∧ M = Mem.nil) := by
  unfold g_quirelaw09_alive at H
  refine Go.Q.Spec.of_bodyR (az := []) (rs := [.tmp 0]) (nt := 94) Try.func13 rfl rfl (by intro t T h; simp at h) rfl rfl fun cx hnp => ?_
  refine WP.seq ?_
  refine WP.region ?_
  refine WPL.q (q_as (v := .lit (.bool _)) rfl) rfl ?_
  refine WPL.nilW ?_
  refine W.now ?_
  refine Then.n ?_
  refine WP.seq ?_
  refine WP.region ?_
  obtain ⟨⟨x9593, x9594, x9595⟩, h9591, H⟩ := bnd H
  refine WPL.c (runs_call (s := []) (t := [0]) (N := 1) (bor := []) fn25 rfl (s_dec_Make k 120 0 x9593 x9594 x9595 h9591) ⟨rfl, trivial, by decide, rfl, trivial⟩ rfl trivial (.ren rfl rfl (.ren rfl rfl .nil)) rfl ⟨trivial, rfl⟩ rfl) rfl ?_
  refine WPL.q (q_mv (v := .tup _) rfl) rfl ?_
  refine WPL.q (q_extract rfl rfl) rfl ?_
  refine WPL.q (q_extract rfl rfl) rfl ?_
  refine WPL.d (d_alloc ze23 rfl) rfl ?_
  refine WPL.s (s_store sz23 rfl rfl rfl rfl rfl) ?_
  refine WPL.q (q_as (v := .lit (.int _ _)) rfl) rfl ?_
  refine WPL.nilW ?_
  refine W.now ?_
  refine Then.n ?_
  refine WP.seq ?_
  refine WP.region ?_
  refine WPL.q (q_build bu23 rfl) rfl ?_
  refine WPL.q (q_build bu23 rfl) rfl ?_
  obtain ⟨⟨x9597, x9598, x9599⟩, h9595, H⟩ := bnd H
  refine WPL.c (runs_call (s := []) (t := [2]) (N := 3) (bor := []) fn14 rfl (s_dec_Add k 1 (-1) 2 (-1) x9597 x9598 x9599 h9595) ⟨rfl, trivial, by decide, rfl, trivial⟩ rfl trivial (.ren rfl rfl (.ren rfl rfl .nil)) rfl ⟨trivial, rfl⟩ rfl) rfl ?_
  refine WPL.q (q_mv (v := .tup _) rfl) rfl ?_
  refine WPL.q (q_extract rfl rfl) rfl ?_
  refine WPL.q (q_extract rfl rfl) rfl ?_
  refine WPL.d (d_alloc ze23 rfl) rfl ?_
  refine WPL.s (s_store sz23 rfl rfl rfl rfl rfl) ?_
  refine WPL.q (q_as (v := .lit (.int _ _)) rfl) rfl ?_
  refine WPL.nilW ?_
  refine W.now ?_
  refine Then.n ?_
  refine WP.seq ?_
  refine WP.region ?_
  refine WPL.q (q_build bu23 rfl) rfl ?_
  refine WPL.q (q_build bu23 rfl) rfl ?_
  obtain ⟨⟨x9601, x9602, x9603⟩, h9599, H⟩ := bnd H
  refine WPL.c (runs_call (s := []) (t := [4]) (N := 5) (bor := []) fn7 rfl (s_dec_Div k 1 0 4 0 x9601 x9602 x9603 h9599) ⟨rfl, trivial, by decide, rfl, trivial⟩ rfl trivial (.ren rfl rfl (.ren rfl rfl .nil)) rfl ⟨trivial, rfl⟩ rfl) rfl ?_
  refine WPL.q (q_mv (v := .tup _) rfl) rfl ?_
  refine WPL.q (q_extract rfl rfl) rfl ?_
  refine WPL.q (q_extract rfl rfl) rfl ?_
  refine WPL.d (d_alloc ze23 rfl) rfl ?_
  refine WPL.s (s_store sz23 rfl rfl rfl rfl rfl) ?_
  refine WPL.q (q_as (v := .lit (.int _ _)) rfl) rfl ?_
  refine WPL.nilW ?_
  refine W.now ?_
  refine Then.n ?_
  refine WP.seq ?_
  refine WP.region ?_
  refine WPL.q (q_build bu23 rfl) rfl ?_
  refine WPL.q (q_build bu23 rfl) rfl ?_
  obtain ⟨⟨x9605, x9606, x9607⟩, h9603, H⟩ := bnd H
  refine WPL.c (runs_call (s := []) (t := [6]) (N := 7) (bor := []) fn7 rfl (s_dec_Div k 1 0 3 0 x9605 x9606 x9607 h9603) ⟨rfl, trivial, by decide, rfl, trivial⟩ rfl trivial (.ren rfl rfl (.ren rfl rfl .nil)) rfl ⟨trivial, rfl⟩ rfl) rfl ?_
  refine WPL.q (q_mv (v := .tup _) rfl) rfl ?_
  refine WPL.q (q_extract rfl rfl) rfl ?_
  refine WPL.q (q_extract rfl rfl) rfl ?_
  refine WPL.d (d_alloc ze23 rfl) rfl ?_
  refine WPL.s (s_store sz23 rfl rfl rfl rfl rfl) ?_
  refine WPL.q (q_as (v := .lit (.int _ _)) rfl) rfl ?_
  refine WPL.nilW ?_
  refine W.now ?_
  refine Then.n ?_
  refine WP.seq ?_
  refine WP.region ?_
  refine WPL.q (q_build bu23 rfl) rfl ?_
  refine WPL.q (q_build bu23 rfl) rfl ?_
  obtain ⟨⟨x9609, x9610, x9611⟩, h9607, H⟩ := bnd H
  refine WPL.c (runs_call (s := []) (t := [8]) (N := 9) (bor := []) fn7 rfl (s_dec_Div k 1 0 0 0 x9609 x9610 x9611 h9607) ⟨rfl, trivial, by decide, rfl, trivial⟩ rfl trivial (.ren rfl rfl (.ren rfl rfl .nil)) rfl ⟨trivial, rfl⟩ rfl) rfl ?_
  refine WPL.q (q_mv (v := .tup _) rfl) rfl ?_
  refine WPL.q (q_extract rfl rfl) rfl ?_
  refine WPL.q (q_extract rfl rfl) rfl ?_
  refine WPL.d (d_alloc ze23 rfl) rfl ?_
  refine WPL.s (s_store sz23 rfl rfl rfl rfl rfl) ?_
  refine WPL.q (q_as (v := .lit (.int _ _)) rfl) rfl ?_
  refine WPL.nilW ?_
  refine W.now ?_
  refine Then.n ?_
  refine WP.seq ?_
  refine WP.region ?_
  refine WPL.q (q_build bu23 rfl) rfl ?_
  refine WPL.q (q_build bu23 rfl) rfl ?_
  obtain ⟨⟨x9613, x9614, x9615⟩, h9611, H⟩ := bnd H
  refine WPL.c (runs_call (s := []) (t := [10]) (N := 11) (bor := []) fn9 rfl (s_dec_Mod k (-7) 0 3 0 x9613 x9614 x9615 h9611) ⟨rfl, trivial, by decide, rfl, trivial⟩ rfl trivial (.ren rfl rfl (.ren rfl rfl .nil)) rfl ⟨trivial, rfl⟩ rfl) rfl ?_
  refine WPL.q (q_mv (v := .tup _) rfl) rfl ?_
  refine WPL.q (q_extract rfl rfl) rfl ?_
  refine WPL.q (q_extract rfl rfl) rfl ?_
  refine WPL.d (d_alloc ze23 rfl) rfl ?_
  refine WPL.s (s_store sz23 rfl rfl rfl rfl rfl) ?_
  refine WPL.q (q_as (v := .lit (.int _ _)) rfl) rfl ?_
  refine WPL.nilW ?_
  refine W.now ?_
  refine Then.n ?_
  refine WP.seq ?_
  obtain ⟨x9633, H9650, H⟩ := bnd H
  refine WP.monoW (Q := fun x E M => x = .normal ∧ E = (Env.none.upd 0 (.lit (.bool x9633))) ∧ M = Mem.nil) ?_ ?_
  · clear H
    have H := H9650
    clear H9650
    refine WP.region ?_
    refine WPL.q (q_load_ag ag23 rfl rfl (Nat.le_of_ble_eq_true rfl)) rfl ?_
    refine WPL.q (q_build bu23 rfl) rfl ?_
    obtain ⟨x9634, h9634, H⟩ := bnd H
    refine WPL.q (q_nm (q_eqlAg (xs := [(.int .i64 x9594), (.int .i64 x9595)]) (ys := [(.int .i64 12), (.int .i64 1)]) (n := 9) rfl eg23 rfl rfl eq23) (nm_bool h9634)) rfl ?_
    refine WPL.q (q_mv (v := .lit (.bool _)) rfl) rfl ?_
    refine WPL.split (t := 50) (b := x9634) rfl (fun hb9634 => ?_) (fun hb9634 => ?_)
    · replace H := cnt hb9634 H
      refine WPL.qg rfl rfl (lb hb9634) (q_mv (v := .lit (.int _ _)) rfl) rfl ?_
      refine WPL.qg rfl rfl (lb hb9634) (q_eql rfl rfl) rfl ?_
      refine WPL.q (q_pickT (v := .lit (.bool _)) (lb hb9634) rfl) rfl ?_
      refine WPL.q (q_mv (v := .lit (.bool _)) rfl) rfl ?_
      refine WPL.split (t := 54) (b := (decide (x9593 = 0))) rfl (fun hb9635 => ?_) (fun hb9635 => ?_)
      · replace H := cnt hb9635 H
        refine WPL.qg rfl rfl (lb hb9635) (q_load_ag ag23 rfl rfl (Nat.le_of_ble_eq_true rfl)) rfl ?_
        refine WPL.qg rfl rfl (lb hb9635) (q_build bu23 rfl) rfl ?_
        obtain ⟨x9637, h9637, H⟩ := bnd H
        refine WPL.qg rfl rfl (lb hb9635) (q_nm (q_eqlAg (xs := [(.int .i64 x9598), (.int .i64 x9599)]) (ys := [(.int .i64 3), (.int .i64 (-1))]) (n := 9) rfl eg23 rfl rfl eq23) (nm_bool h9637)) rfl ?_
        refine WPL.q (q_pickT (v := .lit (.bool _)) (lb hb9635) rfl) rfl ?_
        refine WPL.q (q_mv (v := .lit (.bool _)) rfl) rfl ?_
        refine WPL.split (t := 59) (b := x9637) rfl (fun hb9637 => ?_) (fun hb9637 => ?_)
        · replace H := cnt hb9637 H
          refine WPL.qg rfl rfl (lb hb9637) (q_mv (v := .lit (.int _ _)) rfl) rfl ?_
          refine WPL.qg rfl rfl (lb hb9637) (q_eql rfl rfl) rfl ?_
          refine WPL.q (q_pickT (v := .lit (.bool _)) (lb hb9637) rfl) rfl ?_
          refine WPL.q (q_mv (v := .lit (.bool _)) rfl) rfl ?_
          refine WPL.split (t := 63) (b := (decide (x9597 = 0))) rfl (fun hb9638 => ?_) (fun hb9638 => ?_)
          · replace H := cnt hb9638 H
            refine WPL.qg rfl rfl (lb hb9638) (q_load_ag ag23 rfl rfl (Nat.le_of_ble_eq_true rfl)) rfl ?_
            refine WPL.qg rfl rfl (lb hb9638) (q_build bu23 rfl) rfl ?_
            obtain ⟨x9640, h9640, H⟩ := bnd H
            refine WPL.qg rfl rfl (lb hb9638) (q_nm (q_eqlAg (xs := [(.int .i64 x9602), (.int .i64 x9603)]) (ys := [(.int .i64 25), (.int .i64 (-2))]) (n := 9) rfl eg23 rfl rfl eq23) (nm_bool h9640)) rfl ?_
            refine WPL.q (q_pickT (v := .lit (.bool _)) (lb hb9638) rfl) rfl ?_
            refine WPL.q (q_mv (v := .lit (.bool _)) rfl) rfl ?_
            refine WPL.split (t := 68) (b := x9640) rfl (fun hb9640 => ?_) (fun hb9640 => ?_)
            · replace H := cnt hb9640 H
              refine WPL.qg rfl rfl (lb hb9640) (q_mv (v := .lit (.int _ _)) rfl) rfl ?_
              refine WPL.qg rfl rfl (lb hb9640) (q_eql rfl rfl) rfl ?_
              refine WPL.q (q_pickT (v := .lit (.bool _)) (lb hb9640) rfl) rfl ?_
              refine WPL.q (q_mv (v := .lit (.bool _)) rfl) rfl ?_
              refine WPL.split (t := 72) (b := (decide (x9601 = 0))) rfl (fun hb9641 => ?_) (fun hb9641 => ?_)
              · replace H := cnt hb9641 H
                refine WPL.qg rfl rfl (lb hb9641) (q_mv (v := .lit (.int _ _)) rfl) rfl ?_
                refine WPL.qg rfl rfl (lb hb9641) (q_eql rfl rfl) rfl ?_
                refine WPL.q (q_pickT (v := .lit (.bool _)) (lb hb9641) rfl) rfl ?_
                refine WPL.q (q_mv (v := .lit (.bool _)) rfl) rfl ?_
                refine WPL.split (t := 76) (b := (decide (x9605 = 30))) rfl (fun hb9642 => ?_) (fun hb9642 => ?_)
                · replace H := cnt hb9642 H
                  refine WPL.qg rfl rfl (lb hb9642) (q_mv (v := .lit (.int _ _)) rfl) rfl ?_
                  refine WPL.qg rfl rfl (lb hb9642) (q_eql rfl rfl) rfl ?_
                  refine WPL.q (q_pickT (v := .lit (.bool _)) (lb hb9642) rfl) rfl ?_
                  refine WPL.q (q_mv (v := .lit (.bool _)) rfl) rfl ?_
                  refine WPL.split (t := 80) (b := (decide (x9609 = 31))) rfl (fun hb9643 => ?_) (fun hb9643 => ?_)
                  · replace H := cnt hb9643 H
                    refine WPL.qg rfl rfl (lb hb9643) (q_load_ag ag23 rfl rfl (Nat.le_of_ble_eq_true rfl)) rfl ?_
                    refine WPL.qg rfl rfl (lb hb9643) (q_build bu23 rfl) rfl ?_
                    obtain ⟨x9645, h9645, H⟩ := bnd H
                    refine WPL.qg rfl rfl (lb hb9643) (q_nm (q_eqlAg (xs := [(.int .i64 x9614), (.int .i64 x9615)]) (ys := [(.int .i64 2), (.int .i64 0)]) (n := 9) rfl eg23 rfl rfl eq23) (nm_bool h9645)) rfl ?_
                    refine WPL.q (q_pickT (v := .lit (.bool _)) (lb hb9643) rfl) rfl ?_
                    refine WPL.q (q_mv (v := .lit (.bool _)) rfl) rfl ?_
                    refine WPL.split (t := 85) (b := x9645) rfl (fun hb9645 => ?_) (fun hb9645 => ?_)
                    · replace H := cnt hb9645 H
                      refine WPL.qg rfl rfl (lb hb9645) (q_mv (v := .lit (.int _ _)) rfl) rfl ?_
                      refine WPL.qg rfl rfl (lb hb9645) (q_eql rfl rfl) rfl ?_
                      refine WPL.q (q_pickT (v := .lit (.bool _)) (lb hb9645) rfl) rfl ?_
                      refine WPL.q (q_mv (v := .lit (.bool _)) rfl) rfl ?_
                      refine WPL.split (t := 89) (b := (decide (x9613 = 0))) rfl (fun hb9646 => ?_) (fun hb9646 => ?_)
                      · replace H := cnt hb9646 H
                        refine WPL.qg rfl rfl (lb hb9646) (q_build bu23 rfl) rfl ?_
                        obtain ⟨x9649, h9647, H⟩ := bnd H
                        refine WPL.cg rfl rfl (lb hb9646) (runs_call (s := []) (t := []) (N := 12) (bor := []) fn45 rfl (s_dec_Print k 5 (-3) x9649 h9647) ⟨rfl, trivial, by decide, rfl, trivial⟩ rfl trivial (.ren rfl rfl .nil) rfl trivial rfl) rfl ?_
                        obtain ⟨x9650, h9650, H⟩ := bnd H
                        refine WPL.qg rfl rfl (lb hb9646) (q_nm (q_eqls rfl rfl) (nm_bool h9650)) rfl ?_
                        refine WPL.q (q_pickT (v := .lit (.bool _)) (lb hb9646) rfl) rfl ?_
                        refine WPL.q (q_as (v := .lit (.bool _)) rfl) rfl ?_
                        refine WPL.nilW ?_
                        refine W.cv (Cv.weak (E' := (Env.none.upd 0 (.lit (.bool x9650)))) (M' := Mem.nil) [] hnp ⟨rfl, trivial, by decide, rfl, trivial⟩ (LeE.upd rfl rfl (LeE.none rfl rfl))) rfl ?_
                        refine W.now ?_
                        have q0 := (Option.some.inj H)
                        subst q0
                        exact ⟨rfl, rfl, rfl⟩
                      · replace H := cnf hb9646 H
                        refine WPL.skipg (b' := false) rfl rfl (lb hb9646) rfl rfl ?_
                        refine WPL.skipg (b' := false) rfl rfl (lb hb9646) rfl rfl ?_
                        refine WPL.skipg (b' := false) rfl rfl (lb hb9646) rfl rfl ?_
                        refine WPL.q (q_pickF (v := .lit (.bool _)) (lb hb9646) rfl) rfl ?_
                        refine WPL.q (q_as (v := .lit (.bool _)) rfl) rfl ?_
                        refine WPL.nilW ?_
                        refine W.cv (Cv.weak (E' := (Env.none.upd 0 (.lit (.bool false)))) (M' := Mem.nil) [] hnp ⟨rfl, trivial, by decide, rfl, trivial⟩ (LeE.upd rfl rfl (LeE.none rfl rfl))) rfl ?_
                        refine W.now ?_
                        have q0 := (Option.some.inj H)
                        subst q0
                        exact ⟨rfl, rfl, rfl⟩
                    · replace H := cnf hb9645 H
                      refine WPL.skipg (b' := false) rfl rfl (lb hb9645) rfl rfl ?_
                      refine WPL.skipg (b' := false) rfl rfl (lb hb9645) rfl rfl ?_
                      refine WPL.q (q_pickF (v := .lit (.bool _)) (lb hb9645) rfl) rfl ?_
                      refine WPL.q (q_mv (v := .lit (.bool _)) rfl) rfl ?_
                      refine WPL.skipg (b' := false) rfl rfl rfl rfl rfl ?_
                      refine WPL.skipg (b' := false) rfl rfl rfl rfl rfl ?_
                      refine WPL.skipg (b' := false) rfl rfl rfl rfl rfl ?_
                      refine WPL.q (q_pickF (v := .lit (.bool _)) rfl rfl) rfl ?_
                      refine WPL.q (q_as (v := .lit (.bool _)) rfl) rfl ?_
                      refine WPL.nilW ?_
                      refine W.cv (Cv.weak (E' := (Env.none.upd 0 (.lit (.bool false)))) (M' := Mem.nil) [] hnp ⟨rfl, trivial, by decide, rfl, trivial⟩ (LeE.upd rfl rfl (LeE.none rfl rfl))) rfl ?_
                      refine W.now ?_
                      have q0 := (Option.some.inj H)
                      subst q0
                      exact ⟨rfl, rfl, rfl⟩
                  · replace H := cnf hb9643 H
                    refine WPL.skipg (b' := false) rfl rfl (lb hb9643) rfl rfl ?_
                    refine WPL.skipg (b' := false) rfl rfl (lb hb9643) rfl rfl ?_
                    refine WPL.skipg (b' := false) rfl rfl (lb hb9643) rfl rfl ?_
                    refine WPL.q (q_pickF (v := .lit (.bool _)) (lb hb9643) rfl) rfl ?_
                    refine WPL.q (q_mv (v := .lit (.bool _)) rfl) rfl ?_
                    refine WPL.skipg (b' := false) rfl rfl rfl rfl rfl ?_
                    refine WPL.skipg (b' := false) rfl rfl rfl rfl rfl ?_
                    refine WPL.q (q_pickF (v := .lit (.bool _)) rfl rfl) rfl ?_
                    refine WPL.q (q_mv (v := .lit (.bool _)) rfl) rfl ?_
                    refine WPL.skipg (b' := false) rfl rfl rfl rfl rfl ?_
                    refine WPL.skipg (b' := false) rfl rfl rfl rfl rfl ?_
                    refine WPL.skipg (b' := false) rfl rfl rfl rfl rfl ?_
                    refine WPL.q (q_pickF (v := .lit (.bool _)) rfl rfl) rfl ?_
                    refine WPL.q (q_as (v := .lit (.bool _)) rfl) rfl ?_
                    refine WPL.nilW ?_
                    refine W.cv (Cv.weak (E' := (Env.none.upd 0 (.lit (.bool false)))) (M' := Mem.nil) [] hnp ⟨rfl, trivial, by decide, rfl, trivial⟩ (LeE.upd rfl rfl (LeE.none rfl rfl))) rfl ?_
                    refine W.now ?_
                    have q0 := (Option.some.inj H)
                    subst q0
                    exact ⟨rfl, rfl, rfl⟩
                · replace H := cnf hb9642 H
                  refine WPL.skipg (b' := false) rfl rfl (lb hb9642) rfl rfl ?_
                  refine WPL.skipg (b' := false) rfl rfl (lb hb9642) rfl rfl ?_
                  refine WPL.q (q_pickF (v := .lit (.bool _)) (lb hb9642) rfl) rfl ?_
                  refine WPL.q (q_mv (v := .lit (.bool _)) rfl) rfl ?_
                  refine WPL.skipg (b' := false) rfl rfl rfl rfl rfl ?_
                  refine WPL.skipg (b' := false) rfl rfl rfl rfl rfl ?_
                  refine WPL.skipg (b' := false) rfl rfl rfl rfl rfl ?_
                  refine WPL.q (q_pickF (v := .lit (.bool _)) rfl rfl) rfl ?_
                  refine WPL.q (q_mv (v := .lit (.bool _)) rfl) rfl ?_
                  refine WPL.skipg (b' := false) rfl rfl rfl rfl rfl ?_
                  refine WPL.skipg (b' := false) rfl rfl rfl rfl rfl ?_
                  refine WPL.q (q_pickF (v := .lit (.bool _)) rfl rfl) rfl ?_
                  refine WPL.q (q_mv (v := .lit (.bool _)) rfl) rfl ?_
                  refine WPL.skipg (b' := false) rfl rfl rfl rfl rfl ?_
                  refine WPL.skipg (b' := false) rfl rfl rfl rfl rfl ?_
                  refine WPL.skipg (b' := false) rfl rfl rfl rfl rfl ?_
                  refine WPL.q (q_pickF (v := .lit (.bool _)) rfl rfl) rfl ?_
                  refine WPL.q (q_as (v := .lit (.bool _)) rfl) rfl ?_
                  refine WPL.nilW ?_
                  refine W.cv (Cv.weak (E' := (Env.none.upd 0 (.lit (.bool false)))) (M' := Mem.nil) [] hnp ⟨rfl, trivial, by decide, rfl, trivial⟩ (LeE.upd rfl rfl (LeE.none rfl rfl))) rfl ?_
                  refine W.now ?_
                  have q0 := (Option.some.inj H)
                  subst q0
                  exact ⟨rfl, rfl, rfl⟩
              · replace H := cnf hb9641 H
                refine WPL.skipg (b' := false) rfl rfl (lb hb9641) rfl rfl ?_
                refine WPL.skipg (b' := false) rfl rfl (lb hb9641) rfl rfl ?_
                refine WPL.q (q_pickF (v := .lit (.bool _)) (lb hb9641) rfl) rfl ?_
                refine WPL.q (q_mv (v := .lit (.bool _)) rfl) rfl ?_
                refine WPL.skipg (b' := false) rfl rfl rfl rfl rfl ?_
                refine WPL.skipg (b' := false) rfl rfl rfl rfl rfl ?_
                refine WPL.q (q_pickF (v := .lit (.bool _)) rfl rfl) rfl ?_
                refine WPL.q (q_mv (v := .lit (.bool _)) rfl) rfl ?_
                refine WPL.skipg (b' := false) rfl rfl rfl rfl rfl ?_
                refine WPL.skipg (b' := false) rfl rfl rfl rfl rfl ?_
                refine WPL.skipg (b' := false) rfl rfl rfl rfl rfl ?_
                refine WPL.q (q_pickF (v := .lit (.bool _)) rfl rfl) rfl ?_
                refine WPL.q (q_mv (v := .lit (.bool _)) rfl) rfl ?_
                refine WPL.skipg (b' := false) rfl rfl rfl rfl rfl ?_
                refine WPL.skipg (b' := false) rfl rfl rfl rfl rfl ?_
                refine WPL.q (q_pickF (v := .lit (.bool _)) rfl rfl) rfl ?_
                refine WPL.q (q_mv (v := .lit (.bool _)) rfl) rfl ?_
                refine WPL.skipg (b' := false) rfl rfl rfl rfl rfl ?_
                refine WPL.skipg (b' := false) rfl rfl rfl rfl rfl ?_
                refine WPL.skipg (b' := false) rfl rfl rfl rfl rfl ?_
                refine WPL.q (q_pickF (v := .lit (.bool _)) rfl rfl) rfl ?_
                refine WPL.q (q_as (v := .lit (.bool _)) rfl) rfl ?_
                refine WPL.nilW ?_
                refine W.cv (Cv.weak (E' := (Env.none.upd 0 (.lit (.bool false)))) (M' := Mem.nil) [] hnp ⟨rfl, trivial, by decide, rfl, trivial⟩ (LeE.upd rfl rfl (LeE.none rfl rfl))) rfl ?_
                refine W.now ?_
                have q0 := (Option.some.inj H)
                subst q0
                exact ⟨rfl, rfl, rfl⟩
            · replace H := cnf hb9640 H
              refine WPL.skipg (b' := false) rfl rfl (lb hb9640) rfl rfl ?_
              refine WPL.skipg (b' := false) rfl rfl (lb hb9640) rfl rfl ?_
              refine WPL.q (q_pickF (v := .lit (.bool _)) (lb hb9640) rfl) rfl ?_
              refine WPL.q (q_mv (v := .lit (.bool _)) rfl) rfl ?_
              refine WPL.skipg (b' := false) rfl rfl rfl rfl rfl ?_
              refine WPL.skipg (b' := false) rfl rfl rfl rfl rfl ?_
              refine WPL.q (q_pickF (v := .lit (.bool _)) rfl rfl) rfl ?_
              refine WPL.q (q_mv (v := .lit (.bool _)) rfl) rfl ?_
              refine WPL.skipg (b' := false) rfl rfl rfl rfl rfl ?_
              refine WPL.skipg (b' := false) rfl rfl rfl rfl rfl ?_
              refine WPL.q (q_pickF (v := .lit (.bool _)) rfl rfl) rfl ?_
              refine WPL.q (q_mv (v := .lit (.bool _)) rfl) rfl ?_
              refine WPL.skipg (b' := false) rfl rfl rfl rfl rfl ?_
              refine WPL.skipg (b' := false) rfl rfl rfl rfl rfl ?_
              refine WPL.skipg (b' := false) rfl rfl rfl rfl rfl ?_
              refine WPL.q (q_pickF (v := .lit (.bool _)) rfl rfl) rfl ?_
              refine WPL.q (q_mv (v := .lit (.bool _)) rfl) rfl ?_
              refine WPL.skipg (b' := false) rfl rfl rfl rfl rfl ?_
              refine WPL.skipg (b' := false) rfl rfl rfl rfl rfl ?_
              refine WPL.q (q_pickF (v := .lit (.bool _)) rfl rfl) rfl ?_
              refine WPL.q (q_mv (v := .lit (.bool _)) rfl) rfl ?_
              refine WPL.skipg (b' := false) rfl rfl rfl rfl rfl ?_
              refine WPL.skipg (b' := false) rfl rfl rfl rfl rfl ?_
              refine WPL.skipg (b' := false) rfl rfl rfl rfl rfl ?_
              refine WPL.q (q_pickF (v := .lit (.bool _)) rfl rfl) rfl ?_
              refine WPL.q (q_as (v := .lit (.bool _)) rfl) rfl ?_
              refine WPL.nilW ?_
              refine W.cv (Cv.weak (E' := (Env.none.upd 0 (.lit (.bool false)))) (M' := Mem.nil) [] hnp ⟨rfl, trivial, by decide, rfl, trivial⟩ (LeE.upd rfl rfl (LeE.none rfl rfl))) rfl ?_
              refine W.now ?_
              have q0 := (Option.some.inj H)
              subst q0
              exact ⟨rfl, rfl, rfl⟩
          · replace H := cnf hb9638 H
            refine WPL.skipg (b' := false) rfl rfl (lb hb9638) rfl rfl ?_
            refine WPL.skipg (b' := false) rfl rfl (lb hb9638) rfl rfl ?_
            refine WPL.skipg (b' := false) rfl rfl (lb hb9638) rfl rfl ?_
            refine WPL.q (q_pickF (v := .lit (.bool _)) (lb hb9638) rfl) rfl ?_
            refine WPL.q (q_mv (v := .lit (.bool _)) rfl) rfl ?_
            refine WPL.skipg (b' := false) rfl rfl rfl rfl rfl ?_
            refine WPL.skipg (b' := false) rfl rfl rfl rfl rfl ?_
            refine WPL.q (q_pickF (v := .lit (.bool _)) rfl rfl) rfl ?_
            refine WPL.q (q_mv (v := .lit (.bool _)) rfl) rfl ?_
            refine WPL.skipg (b' := false) rfl rfl rfl rfl rfl ?_
            refine WPL.skipg (b' := false) rfl rfl rfl rfl rfl ?_
            refine WPL.q (q_pickF (v := .lit (.bool _)) rfl rfl) rfl ?_
            refine WPL.q (q_mv (v := .lit (.bool _)) rfl) rfl ?_
            refine WPL.skipg (b' := false) rfl rfl rfl rfl rfl ?_
            refine WPL.skipg (b' := false) rfl rfl rfl rfl rfl ?_
            refine WPL.q (q_pickF (v := .lit (.bool _)) rfl rfl) rfl ?_
            refine WPL.q (q_mv (v := .lit (.bool _)) rfl) rfl ?_
            refine WPL.skipg (b' := false) rfl rfl rfl rfl rfl ?_
            refine WPL.skipg (b' := false) rfl rfl rfl rfl rfl ?_
            refine WPL.skipg (b' := false) rfl rfl rfl rfl rfl ?_
            refine WPL.q (q_pickF (v := .lit (.bool _)) rfl rfl) rfl ?_
            refine WPL.q (q_mv (v := .lit (.bool _)) rfl) rfl ?_
            refine WPL.skipg (b' := false) rfl rfl rfl rfl rfl ?_
            refine WPL.skipg (b' := false) rfl rfl rfl rfl rfl ?_
            refine WPL.q (q_pickF (v := .lit (.bool _)) rfl rfl) rfl ?_
            refine WPL.q (q_mv (v := .lit (.bool _)) rfl) rfl ?_
            refine WPL.skipg (b' := false) rfl rfl rfl rfl rfl ?_
            refine WPL.skipg (b' := false) rfl rfl rfl rfl rfl ?_
            refine WPL.skipg (b' := false) rfl rfl rfl rfl rfl ?_
            refine WPL.q (q_pickF (v := .lit (.bool _)) rfl rfl) rfl ?_
            refine WPL.q (q_as (v := .lit (.bool _)) rfl) rfl ?_
            refine WPL.nilW ?_
            refine W.cv (Cv.weak (E' := (Env.none.upd 0 (.lit (.bool false)))) (M' := Mem.nil) [] hnp ⟨rfl, trivial, by decide, rfl, trivial⟩ (LeE.upd rfl rfl (LeE.none rfl rfl))) rfl ?_
            refine W.now ?_
            have q0 := (Option.some.inj H)
            subst q0
            exact ⟨rfl, rfl, rfl⟩
        · replace H := cnf hb9637 H
          refine WPL.skipg (b' := false) rfl rfl (lb hb9637) rfl rfl ?_
          refine WPL.skipg (b' := false) rfl rfl (lb hb9637) rfl rfl ?_
          refine WPL.q (q_pickF (v := .lit (.bool _)) (lb hb9637) rfl) rfl ?_
          refine WPL.q (q_mv (v := .lit (.bool _)) rfl) rfl ?_
          refine WPL.skipg (b' := false) rfl rfl rfl rfl rfl ?_
          refine WPL.skipg (b' := false) rfl rfl rfl rfl rfl ?_
          refine WPL.skipg (b' := false) rfl rfl rfl rfl rfl ?_
          refine WPL.q (q_pickF (v := .lit (.bool _)) rfl rfl) rfl ?_
          refine WPL.q (q_mv (v := .lit (.bool _)) rfl) rfl ?_
          refine WPL.skipg (b' := false) rfl rfl rfl rfl rfl ?_
          refine WPL.skipg (b' := false) rfl rfl rfl rfl rfl ?_
          refine WPL.q (q_pickF (v := .lit (.bool _)) rfl rfl) rfl ?_
          refine WPL.q (q_mv (v := .lit (.bool _)) rfl) rfl ?_
          refine WPL.skipg (b' := false) rfl rfl rfl rfl rfl ?_
          refine WPL.skipg (b' := false) rfl rfl rfl rfl rfl ?_
          refine WPL.q (q_pickF (v := .lit (.bool _)) rfl rfl) rfl ?_
          refine WPL.q (q_mv (v := .lit (.bool _)) rfl) rfl ?_
          refine WPL.skipg (b' := false) rfl rfl rfl rfl rfl ?_
          refine WPL.skipg (b' := false) rfl rfl rfl rfl rfl ?_
          refine WPL.q (q_pickF (v := .lit (.bool _)) rfl rfl) rfl ?_
          refine WPL.q (q_mv (v := .lit (.bool _)) rfl) rfl ?_
          refine WPL.skipg (b' := false) rfl rfl rfl rfl rfl ?_
          refine WPL.skipg (b' := false) rfl rfl rfl rfl rfl ?_
          refine WPL.skipg (b' := false) rfl rfl rfl rfl rfl ?_
          refine WPL.q (q_pickF (v := .lit (.bool _)) rfl rfl) rfl ?_
          refine WPL.q (q_mv (v := .lit (.bool _)) rfl) rfl ?_
          refine WPL.skipg (b' := false) rfl rfl rfl rfl rfl ?_
          refine WPL.skipg (b' := false) rfl rfl rfl rfl rfl ?_
          refine WPL.q (q_pickF (v := .lit (.bool _)) rfl rfl) rfl ?_
          refine WPL.q (q_mv (v := .lit (.bool _)) rfl) rfl ?_
          refine WPL.skipg (b' := false) rfl rfl rfl rfl rfl ?_
          refine WPL.skipg (b' := false) rfl rfl rfl rfl rfl ?_
          refine WPL.skipg (b' := false) rfl rfl rfl rfl rfl ?_
          refine WPL.q (q_pickF (v := .lit (.bool _)) rfl rfl) rfl ?_
          refine WPL.q (q_as (v := .lit (.bool _)) rfl) rfl ?_
          refine WPL.nilW ?_
          refine W.cv (Cv.weak (E' := (Env.none.upd 0 (.lit (.bool false)))) (M' := Mem.nil) [] hnp ⟨rfl, trivial, by decide, rfl, trivial⟩ (LeE.upd rfl rfl (LeE.none rfl rfl))) rfl ?_
          refine W.now ?_
          have q0 := (Option.some.inj H)
          subst q0
          exact ⟨rfl, rfl, rfl⟩
      · replace H := cnf hb9635 H
        refine WPL.skipg (b' := false) rfl rfl (lb hb9635) rfl rfl ?_
        refine WPL.skipg (b' := false) rfl rfl (lb hb9635) rfl rfl ?_
        refine WPL.skipg (b' := false) rfl rfl (lb hb9635) rfl rfl ?_
        refine WPL.q (q_pickF (v := .lit (.bool _)) (lb hb9635) rfl) rfl ?_
        refine WPL.q (q_mv (v := .lit (.bool _)) rfl) rfl ?_
        refine WPL.skipg (b' := false) rfl rfl rfl rfl rfl ?_
        refine WPL.skipg (b' := false) rfl rfl rfl rfl rfl ?_
        refine WPL.q (q_pickF (v := .lit (.bool _)) rfl rfl) rfl ?_
        refine WPL.q (q_mv (v := .lit (.bool _)) rfl) rfl ?_
        refine WPL.skipg (b' := false) rfl rfl rfl rfl rfl ?_
        refine WPL.skipg (b' := false) rfl rfl rfl rfl rfl ?_
        refine WPL.skipg (b' := false) rfl rfl rfl rfl rfl ?_
        refine WPL.q (q_pickF (v := .lit (.bool _)) rfl rfl) rfl ?_
        refine WPL.q (q_mv (v := .lit (.bool _)) rfl) rfl ?_
        refine WPL.skipg (b' := false) rfl rfl rfl rfl rfl ?_
        refine WPL.skipg (b' := false) rfl rfl rfl rfl rfl ?_
        refine WPL.q (q_pickF (v := .lit (.bool _)) rfl rfl) rfl ?_
        refine WPL.q (q_mv (v := .lit (.bool _)) rfl) rfl ?_
        refine WPL.skipg (b' := false) rfl rfl rfl rfl rfl ?_
        refine WPL.skipg (b' := false) rfl rfl rfl rfl rfl ?_
        refine WPL.q (q_pickF (v := .lit (.bool _)) rfl rfl) rfl ?_
        refine WPL.q (q_mv (v := .lit (.bool _)) rfl) rfl ?_
        refine WPL.skipg (b' := false) rfl rfl rfl rfl rfl ?_
        refine WPL.skipg (b' := false) rfl rfl rfl rfl rfl ?_
        refine WPL.q (q_pickF (v := .lit (.bool _)) rfl rfl) rfl ?_
        refine WPL.q (q_mv (v := .lit (.bool _)) rfl) rfl ?_
        refine WPL.skipg (b' := false) rfl rfl rfl rfl rfl ?_
        refine WPL.skipg (b' := false) rfl rfl rfl rfl rfl ?_
        refine WPL.skipg (b' := false) rfl rfl rfl rfl rfl ?_
        refine WPL.q (q_pickF (v := .lit (.bool _)) rfl rfl) rfl ?_
        refine WPL.q (q_mv (v := .lit (.bool _)) rfl) rfl ?_
        refine WPL.skipg (b' := false) rfl rfl rfl rfl rfl ?_
        refine WPL.skipg (b' := false) rfl rfl rfl rfl rfl ?_
        refine WPL.q (q_pickF (v := .lit (.bool _)) rfl rfl) rfl ?_
        refine WPL.q (q_mv (v := .lit (.bool _)) rfl) rfl ?_
        refine WPL.skipg (b' := false) rfl rfl rfl rfl rfl ?_
        refine WPL.skipg (b' := false) rfl rfl rfl rfl rfl ?_
        refine WPL.skipg (b' := false) rfl rfl rfl rfl rfl ?_
        refine WPL.q (q_pickF (v := .lit (.bool _)) rfl rfl) rfl ?_
        refine WPL.q (q_as (v := .lit (.bool _)) rfl) rfl ?_
        refine WPL.nilW ?_
        refine W.cv (Cv.weak (E' := (Env.none.upd 0 (.lit (.bool false)))) (M' := Mem.nil) [] hnp ⟨rfl, trivial, by decide, rfl, trivial⟩ (LeE.upd rfl rfl (LeE.none rfl rfl))) rfl ?_
        refine W.now ?_
        have q0 := (Option.some.inj H)
        subst q0
        exact ⟨rfl, rfl, rfl⟩
    · replace H := cnf hb9634 H
      refine WPL.skipg (b' := false) rfl rfl (lb hb9634) rfl rfl ?_
      refine WPL.skipg (b' := false) rfl rfl (lb hb9634) rfl rfl ?_
      refine WPL.q (q_pickF (v := .lit (.bool _)) (lb hb9634) rfl) rfl ?_
      refine WPL.q (q_mv (v := .lit (.bool _)) rfl) rfl ?_
      refine WPL.skipg (b' := false) rfl rfl rfl rfl rfl ?_
      refine WPL.skipg (b' := false) rfl rfl rfl rfl rfl ?_
      refine WPL.skipg (b' := false) rfl rfl rfl rfl rfl ?_
      refine WPL.q (q_pickF (v := .lit (.bool _)) rfl rfl) rfl ?_
      refine WPL.q (q_mv (v := .lit (.bool _)) rfl) rfl ?_
      refine WPL.skipg (b' := false) rfl rfl rfl rfl rfl ?_
      refine WPL.skipg (b' := false) rfl rfl rfl rfl rfl ?_
      refine WPL.q (q_pickF (v := .lit (.bool _)) rfl rfl) rfl ?_
      refine WPL.q (q_mv (v := .lit (.bool _)) rfl) rfl ?_
      refine WPL.skipg (b' := false) rfl rfl rfl rfl rfl ?_
      refine WPL.skipg (b' := false) rfl rfl rfl rfl rfl ?_
      refine WPL.skipg (b' := false) rfl rfl rfl rfl rfl ?_
      refine WPL.q (q_pickF (v := .lit (.bool _)) rfl rfl) rfl ?_
      refine WPL.q (q_mv (v := .lit (.bool _)) rfl) rfl ?_
      refine WPL.skipg (b' := false) rfl rfl rfl rfl rfl ?_
      refine WPL.skipg (b' := false) rfl rfl rfl rfl rfl ?_
      refine WPL.q (q_pickF (v := .lit (.bool _)) rfl rfl) rfl ?_
      refine WPL.q (q_mv (v := .lit (.bool _)) rfl) rfl ?_
      refine WPL.skipg (b' := false) rfl rfl rfl rfl rfl ?_
      refine WPL.skipg (b' := false) rfl rfl rfl rfl rfl ?_
      refine WPL.q (q_pickF (v := .lit (.bool _)) rfl rfl) rfl ?_
      refine WPL.q (q_mv (v := .lit (.bool _)) rfl) rfl ?_
      refine WPL.skipg (b' := false) rfl rfl rfl rfl rfl ?_
      refine WPL.skipg (b' := false) rfl rfl rfl rfl rfl ?_
      refine WPL.q (q_pickF (v := .lit (.bool _)) rfl rfl) rfl ?_
      refine WPL.q (q_mv (v := .lit (.bool _)) rfl) rfl ?_
      refine WPL.skipg (b' := false) rfl rfl rfl rfl rfl ?_
      refine WPL.skipg (b' := false) rfl rfl rfl rfl rfl ?_
      refine WPL.skipg (b' := false) rfl rfl rfl rfl rfl ?_
      refine WPL.q (q_pickF (v := .lit (.bool _)) rfl rfl) rfl ?_
      refine WPL.q (q_mv (v := .lit (.bool _)) rfl) rfl ?_
      refine WPL.skipg (b' := false) rfl rfl rfl rfl rfl ?_
      refine WPL.skipg (b' := false) rfl rfl rfl rfl rfl ?_
      refine WPL.q (q_pickF (v := .lit (.bool _)) rfl rfl) rfl ?_
      refine WPL.q (q_mv (v := .lit (.bool _)) rfl) rfl ?_
      refine WPL.skipg (b' := false) rfl rfl rfl rfl rfl ?_
      refine WPL.skipg (b' := false) rfl rfl rfl rfl rfl ?_
      refine WPL.skipg (b' := false) rfl rfl rfl rfl rfl ?_
      refine WPL.q (q_pickF (v := .lit (.bool _)) rfl rfl) rfl ?_
      refine WPL.q (q_as (v := .lit (.bool _)) rfl) rfl ?_
      refine WPL.nilW ?_
      refine W.cv (Cv.weak (E' := (Env.none.upd 0 (.lit (.bool false)))) (M' := Mem.nil) [] hnp ⟨rfl, trivial, by decide, rfl, trivial⟩ (LeE.upd rfl rfl (LeE.none rfl rfl))) rfl ?_
      refine W.now ?_
      have q0 := (Option.some.inj H)
      subst q0
      exact ⟨rfl, rfl, rfl⟩
  · rintro _ _ _ ⟨rfl, rfl, rfl⟩
    refine W.now ?_
    refine Then.n ?_
    refine WP.retW ?_
    refine W.now ?_
    have q0 := (Option.some.inj H)
    subst q0
    exact ⟨trivial, _, rfl, [], (.lit (.bool x9633)), Mem.nil, ⟨rfl, trivial, by decide, rfl, trivial⟩, rfl, rfl, rfl, rfl⟩
end Go.Proofs.Ytdbeblgfccjbgaa.W
namespace Go.Proofs.Ytdbeblgfccjbgaa.W
open Go Go.Q Go.Proofs
set_option linter.unusedVariables false
set_option linter.unusedSimpArgs false
set_option maxRecDepth 100000 in
set_option maxHeartbeats 4000000 in
theorem s_quireref09_Add (k : Nat) (x9737 : Int) (x9738 : Int) (x9739 : Int) (x9740 : Int) (x9766 : Int) (x9767 : Int) (x9768 : Int) (H : g_quireref09_Add k x9737 x9738 x9739 x9740 = some (x9766, x9767, x9768)) : Go.Q.Spec Try.prog 15 0 [.agg [.lit (.int .i64 x9737), .lit (.int .i64 x9738)], .agg [.lit (.int .i64 x9739), .lit (.int .i64 x9740)]] Mem.nil (fun o M => o = .ret (.tup [.agg [.lit (.int .i64 x9767), .lit (.int .i64 x9768)], .lit (.int .i64 x9766)]) ∧ M = (Mem.nil.push (.cells 23 [.lit (.int .i64 x9767), .lit (.int .i64 x9768)]))) := by
  unfold g_quireref09_Add at H
  refine Go.Q.Spec.of_bodyR (az := [(23, 2)]) (rs := [.cell 4 23, .tmp 5]) (nt := 30) Try.func15 rfl rfl (by intro t T h; simp at h; rcases h with ⟨rfl, rfl⟩ <;> first | exact ag23) rfl rfl fun cx hnp => ?_
  refine WP.seq ?_
  refine WP.region ?_
  refine WPL.d (d_box rfl rfl) rfl ?_
  refine WPL.d (d_box rfl rfl) rfl ?_
  refine WPL.d (d_alloc ze23 rfl) rfl ?_
  refine WPL.q (q_as (v := .lit (.int _ _)) rfl) rfl ?_
  refine WPL.nilW ?_
  refine W.now ?_
  refine Then.n ?_
  refine WP.seq ?_
  refine WP.region ?_
  refine WPL.q (q_load_ag ag23 rfl rfl (Nat.le_of_ble_eq_true rfl)) rfl ?_
  refine WPL.q (q_load_ag ag23 rfl rfl (Nat.le_of_ble_eq_true rfl)) rfl ?_
  obtain ⟨⟨x9770, x9771, x9772, x9773, x9774, x9775, x9776⟩, h9768, H⟩ := bnd H
  refine WPL.c (runs_call (s := []) (t := [3, 4]) (N := 5) (bor := []) fn39 rfl (s_quireref09_two k x9737 x9738 x9739 x9740 x9770 x9771 x9772 x9773 x9774 x9775 x9776 h9768) ⟨rfl, trivial, by decide, rfl, trivial⟩ rfl trivial (.ren rfl rfl (.ren rfl rfl .nil)) rfl ⟨⟨trivial, rfl⟩, rfl⟩ rfl) rfl ?_
  refine WPL.q (q_mv (v := .tup _) rfl) rfl ?_
  refine WPL.q (q_extract rfl rfl) rfl ?_
  refine WPL.q (q_extract rfl rfl) rfl ?_
  refine WPL.q (q_extract rfl rfl) rfl ?_
  refine WPL.d (d_alloc ze53 rfl) rfl ?_
  refine WPL.d (d_alloc ze53 rfl) rfl ?_
  refine WPL.s (s_store sz53 rfl rfl rfl rfl rfl) ?_
  refine WPL.s (s_store sz53 rfl rfl rfl rfl rfl) ?_
  refine WPL.q (q_as (v := .lit (.bool _)) rfl) rfl ?_
  refine WPL.nilW ?_
  refine W.now ?_
  refine Then.n ?_
  refine WP.seq ?_
  refine WP.seq ?_
  refine WP.region ?_
  refine WPL.q (q_mv (v := .lit (.bool _)) rfl) rfl ?_
  refine WPL.q (q_not rfl) rfl ?_
  refine WPL.nilW ?_
  refine W.now ?_
  refine Then.n ?_
  refine WP.cond (t := (!x9770)) rfl (fun hb9777 => ?_) (fun hb9777 => ?_)
  · replace H := cnt hb9777 H
    refine WP.seq ?_
    refine WP.region ?_
    refine WPL.q (q_build bu23 rfl) rfl ?_
    refine WPL.s (s_store sz23 rfl rfl rfl rfl rfl) ?_
    refine WPL.q (q_as (v := .lit (.int _ _)) rfl) rfl ?_
    refine WPL.nilW ?_
    refine W.now ?_
    refine Then.n ?_
    refine WP.retW ?_
    refine W.now ?_
    refine Then.r ?_
    have q0 := (Prod.mk.inj (Option.some.inj H)).1
    have q1 := (Prod.mk.inj (Prod.mk.inj (Option.some.inj H)).2).1
    have q2 := (Prod.mk.inj (Prod.mk.inj (Option.some.inj H)).2).2
    subst q0
    subst q1
    subst q2
    exact ⟨trivial, _, rfl, [2], (.tup [.agg [.lit (.int .i64 0), .lit (.int .i64 0)], .lit (.int .i64 1)]), (Mem.nil.push (.cells 23 [.lit (.int .i64 0), .lit (.int .i64 0)])), ⟨rfl, ⟨trivial, .inr ⟨rfl, rfl, rfl⟩⟩, by decide, rfl, trivial⟩, rfl, rfl, rfl, rfl⟩
  · replace H := cnf hb9777 H
    refine WP.skipW ?_
    refine W.now ?_
    refine Then.n ?_
    refine WP.seq ?_
    refine WP.regionD' 13 [5, 6] [] mixed rfl ?_
    refine WPD.takeT 0 rfl (by kernel_rfl) (q_fieldAddr fi53_0 rfl rfl) rfl ?_
    refine WPD.takeT 2 rfl (by kernel_rfl) (q_fieldAddr fi53_0 rfl rfl) rfl ?_
    refine WPD.takeT 5 rfl (by kernel_rfl) (q_fieldAddr fi53_1 rfl rfl) rfl ?_
    refine WPD.take 1 rfl (by kernel_rfl) (q_load_ag ag51 rfl rfl (Nat.le_of_ble_eq_true rfl)) rfl rfl ?_
    refine WPD.take 3 rfl (by kernel_rfl) (q_load_ag ag51 rfl rfl (Nat.le_of_ble_eq_true rfl)) rfl rfl ?_
    refine WPD.take 6 rfl (by kernel_rfl) (q_load sc3 rfl rfl rfl) rfl rfl ?_
    obtain ⟨⟨x9787, x9788⟩, h9785, H⟩ := bnd H
    refine WPD.eff 4 [5, 6] [] rfl (by kernel_rfl) (runs_call (s := []) (t := [7]) (N := 8) (bor := []) fn40 rfl (s_quireref09_Plus k x9771 x9772 x9774 x9775 x9787 x9788 h9785) ⟨rfl, trivial, by decide, rfl, trivial⟩ rfl trivial (.ren rfl rfl (.ren rfl rfl .nil)) rfl ⟨trivial, rfl⟩ rfl) rfl rfl ?_
    refine WPD.takeT 7 rfl (by kernel_rfl) (q_build bu53 rfl) rfl ?_
    obtain ⟨⟨x9790, x9791, x9792⟩, h9788, H⟩ := bnd H
    refine WPD.eff 8 [5, 6] [] rfl (by kernel_rfl) (runs_call (s := []) (t := [8]) (N := 9) (bor := []) fn35 rfl (s_quireref09_Tell k x9787 x9788 x9773 x9790 x9791 x9792 h9788) ⟨rfl, trivial, by decide, rfl, trivial⟩ rfl trivial (.ren rfl rfl .nil) rfl ⟨trivial, rfl⟩ rfl) rfl rfl ?_
    refine WPD.takeT 9 rfl (by kernel_rfl) (q_extract rfl rfl) rfl ?_
    refine WPD.takeT 10 rfl (by kernel_rfl) (q_extract rfl rfl) rfl ?_
    refine WPD.effS 11 [5, 6] [] rfl (by kernel_rfl) (s_store sz23 rfl rfl rfl rfl rfl) rfl ?_
    refine WPD.takeT 12 rfl (by kernel_rfl) (q_as (v := .lit (.int _ _)) rfl) rfl ?_
    refine WPD.doneW (by kernel_rfl) ?_
    refine W.now ?_
    refine Then.n ?_
    refine WP.retW ?_
    refine W.now ?_
    have q0 := (Prod.mk.inj (Option.some.inj H)).1
    have q1 := (Prod.mk.inj (Prod.mk.inj (Option.some.inj H)).2).1
    have q2 := (Prod.mk.inj (Prod.mk.inj (Option.some.inj H)).2).2
    subst q0
    subst q1
    subst q2
    exact ⟨trivial, _, rfl, [2], (.tup [.agg [.lit (.int .i64 x9791), .lit (.int .i64 x9792)], .lit (.int .i64 x9790)]), (Mem.nil.push (.cells 23 [.lit (.int .i64 x9791), .lit (.int .i64 x9792)])), ⟨rfl, ⟨trivial, .inr ⟨rfl, rfl, rfl⟩⟩, by decide, rfl, trivial⟩, rfl, rfl, rfl, rfl⟩
set_option maxRecDepth 100000 in
set_option maxHeartbeats 4000000 in
theorem s_dec_lowest (k : Nat) (x9832 : Int) (x9833 : Int) (x9834 : Int) (x9835 : Int) (x9895 : Int) (x9896 : Int) (x9897 : Int) (H : g_dec_lowest k x9832 x9833 x9834 x9835 = some (x9895, x9896, x9897)) : Go.Q.Spec Try.prog 50 0 [.agg [.lit (.int .i64 x9832), .lit (.int .i64 x9833)], .agg [.lit (.int .i64 x9834), .lit (.int .i64 x9835)]] Mem.nil (fun o M => o = .ret (.tup [.agg [.lit (.int .i64 x9896), .lit (.int .i64 x9897)], .lit (.int .i64 x9895)]) ∧ M = (Mem.nil.push (.cells 23 [.lit (.int .i64 x9896), .lit (.int .i64 x9897)]))) := by
  unfold g_dec_lowest at H
  refine Go.Q.Spec.of_bodyR (az := [(23, 2)]) (rs := [.cell 4 23, .tmp 5]) (nt := 61) Try.func50 rfl rfl (by intro t T h; simp at h; rcases h with ⟨rfl, rfl⟩ <;> first | exact ag23) rfl rfl fun cx hnp => ?_
  refine WP.seq ?_
  refine WP.region ?_
  refine WPL.d (d_box rfl rfl) rfl ?_
  refine WPL.d (d_box rfl rfl) rfl ?_
  refine WPL.d (d_alloc ze23 rfl) rfl ?_
  refine WPL.q (q_as (v := .lit (.int _ _)) rfl) rfl ?_
  refine WPL.nilW ?_
  refine W.now ?_
  refine Then.n ?_
  refine WP.seq ?_
  refine WP.region ?_
  refine WPL.q (q_load_ag ag23 rfl rfl (Nat.le_of_ble_eq_true rfl)) rfl ?_
  refine WPL.q (q_load_ag ag23 rfl rfl (Nat.le_of_ble_eq_true rfl)) rfl ?_
  obtain ⟨⟨x9899, x9900, x9901, x9902, x9903, x9904, x9905⟩, h9897, H⟩ := bnd H
  refine WPL.c (runs_call (s := []) (t := [3, 4]) (N := 5) (bor := []) fn46 rfl (s_dec_even k x9832 x9833 x9834 x9835 x9899 x9900 x9901 x9902 x9903 x9904 x9905 h9897) ⟨rfl, trivial, by decide, rfl, trivial⟩ rfl trivial (.ren rfl rfl (.ren rfl rfl .nil)) rfl ⟨⟨trivial, rfl⟩, rfl⟩ rfl) rfl ?_
  refine WPL.q (q_mv (v := .tup _) rfl) rfl ?_
  refine WPL.q (q_extract rfl rfl) rfl ?_
  refine WPL.q (q_extract rfl rfl) rfl ?_
  refine WPL.q (q_extract rfl rfl) rfl ?_
  refine WPL.d (d_alloc ze47 rfl) rfl ?_
  refine WPL.d (d_alloc ze47 rfl) rfl ?_
  refine WPL.s (s_store sz47 rfl rfl rfl rfl rfl) ?_
  refine WPL.s (s_store sz47 rfl rfl rfl rfl rfl) ?_
  refine WPL.q (q_as (v := .lit (.bool _)) rfl) rfl ?_
  refine WPL.nilW ?_
  refine W.now ?_
  refine Then.n ?_
  refine WP.seq ?_
  refine WP.seq ?_
  refine WP.region ?_
  refine WPL.q (q_mv (v := .lit (.bool _)) rfl) rfl ?_
  refine WPL.q (q_not rfl) rfl ?_
  refine WPL.nilW ?_
  refine W.now ?_
  refine Then.n ?_
  refine WP.cond (t := (!x9899)) rfl (fun hb9906 => ?_) (fun hb9906 => ?_)
  · replace H := cnt hb9906 H
    refine WP.seq ?_
    refine WP.region ?_
    refine WPL.q (q_build bu23 rfl) rfl ?_
    refine WPL.s (s_store sz23 rfl rfl rfl rfl rfl) ?_
    refine WPL.q (q_as (v := .lit (.int _ _)) rfl) rfl ?_
    refine WPL.nilW ?_
    refine W.now ?_
    refine Then.n ?_
    refine WP.retW ?_
    refine W.now ?_
    refine Then.r ?_
    have q0 := (Prod.mk.inj (Option.some.inj H)).1
    have q1 := (Prod.mk.inj (Prod.mk.inj (Option.some.inj H)).2).1
    have q2 := (Prod.mk.inj (Prod.mk.inj (Option.some.inj H)).2).2
    subst q0
    subst q1
    subst q2
    exact ⟨trivial, _, rfl, [2], (.tup [.agg [.lit (.int .i64 0), .lit (.int .i64 0)], .lit (.int .i64 30)]), (Mem.nil.push (.cells 23 [.lit (.int .i64 0), .lit (.int .i64 0)])), ⟨rfl, ⟨trivial, .inr ⟨rfl, rfl, rfl⟩⟩, by decide, rfl, trivial⟩, rfl, rfl, rfl, rfl⟩
  · replace H := cnf hb9906 H
    refine WP.skipW ?_
    refine W.now ?_
    refine Then.n ?_
    refine WP.seq ?_
    refine WP.region ?_
    refine WPL.q (q_fieldAddr fi47_0 rfl rfl) rfl ?_
    refine WPL.s (s_store sz4 rfl rfl rfl rfl rfl) ?_
    refine WPL.nilW ?_
    refine W.now ?_
    refine Then.n ?_
    refine WP.seq ?_
    refine WP.seq ?_
    refine WP.region ?_
    refine WPL.q (q_fieldAddr fi47_0 rfl rfl) rfl ?_
    refine WPL.q (q_load sc4 rfl rfl rfl) rfl ?_
    refine WPL.nilW ?_
    refine W.now ?_
    refine Then.n ?_
    refine WP.cond (t := (decide (x9832 < 0))) rfl (fun hb9926 => ?_) (fun hb9926 => ?_)
    · replace H := cnt hb9926 H
      refine WP.seq ?_
      obtain ⟨⟨x9933, x9934, x9935⟩, H9940, H⟩ := bnd H
      refine WP.monoW (Q := fun x E M => x = .normal ∧ E = ((Env.none.upd 4 (.ptr 0 0)).upd 6 (.ptr 1 0)) ∧ M = ((Mem.nil.push (.cells 23 [.lit (.int .i64 0), .lit (.int .i64 0)])).push (.cells 47 [.lit (.bool x9933), .lit (.int .u64 x9934), .lit (.int .u64 x9935), .lit (.int .i64 x9902)]))) ?_ ?_
      · clear H
        have H := H9940
        clear H9940
        refine WP.seq ?_
        refine WP.region ?_
        refine WPL.q (q_fieldAddr fi47_1 rfl rfl) rfl ?_
        refine WPL.q (q_load_ag ag43 rfl rfl (Nat.le_of_ble_eq_true rfl)) rfl ?_
        refine WPL.q (q_fieldAddr fi47_1 rfl rfl) rfl ?_
        refine WPL.q (q_load_ag ag43 rfl rfl (Nat.le_of_ble_eq_true rfl)) rfl ?_
        obtain ⟨x9937, h9935, H⟩ := bnd H
        refine WPL.c (runs_call (s := []) (t := []) (N := 7) (bor := []) fn48 rfl (s_dec_wide_cmp k x9900 x9901 x9903 x9904 x9937 h9935) ⟨rfl, trivial, by decide, rfl, trivial⟩ rfl trivial (.ren rfl rfl (.ren rfl rfl .nil)) rfl trivial rfl) rfl ?_
        refine WPL.q (q_geq rfl rfl) rfl ?_
        refine WPL.nilW ?_
        refine W.now ?_
        refine Then.n ?_
        refine WP.cond (t := (decide (0 ≤ x9937))) rfl (fun hb9937 => ?_) (fun hb9937 => ?_)
        · replace H := cnt hb9937 H
          refine WP.region ?_
          refine WPL.q (q_fieldAddr fi47_1 rfl rfl) rfl ?_
          refine WPL.q (q_load_ag ag43 rfl rfl (Nat.le_of_ble_eq_true rfl)) rfl ?_
          refine WPL.q (q_fieldAddr fi47_1 rfl rfl) rfl ?_
          refine WPL.q (q_load_ag ag43 rfl rfl (Nat.le_of_ble_eq_true rfl)) rfl ?_
          obtain ⟨_, h9938, H⟩ := bnd H
          refine WPL.c (runs_call (s := []) (t := [7]) (N := 8) (bor := []) fn49 rfl (s_dec_wide_less k x9900 x9901 x9903 x9904 h9938) ⟨rfl, trivial, by decide, rfl, trivial⟩ rfl trivial (.ren rfl rfl (.ren rfl rfl .nil)) rfl ⟨trivial, rfl⟩ rfl) rfl ?_
          refine WPL.q (q_fieldAddr fi47_1 rfl rfl) rfl ?_
          refine WPL.s (s_store sz43 rfl rfl rfl rfl rfl) ?_
          refine WPL.nilW ?_
          refine W.cv (Cv.weak (E' := ((Env.none.upd 4 (.ptr 0 0)).upd 6 (.ptr 1 0))) (M' := ((Mem.nil.push (.cells 23 [.lit (.int .i64 0), .lit (.int .i64 0)])).push (.cells 47 [.lit (.bool (decide (x9832 < 0))), .lit (.int .u64 ((sub64 x9900 x9903 ((sub64 x9901 x9904 0).2)).1)), .lit (.int .u64 ((sub64 x9901 x9904 0).1)), .lit (.int .i64 x9902)]))) [2, 5] hnp ⟨rfl, ⟨⟨trivial, .inr ⟨rfl, rfl, rfl⟩⟩, .inr ⟨rfl, rfl, rfl⟩⟩, by decide, rfl, trivial⟩ (LeE.upd rfl rfl (LeE.upd rfl rfl (LeE.none rfl rfl)))) rfl ?_
          refine W.now ?_
          have q0 := (Prod.mk.inj (Option.some.inj H)).1
          have q1 := (Prod.mk.inj (Prod.mk.inj (Option.some.inj H)).2).1
          have q2 := (Prod.mk.inj (Prod.mk.inj (Option.some.inj H)).2).2
          subst q0
          subst q1
          subst q2
          exact ⟨rfl, rfl, rfl⟩
        · replace H := cnf hb9937 H
          refine WP.region ?_
          refine WPL.q (q_fieldAddr fi47_1 rfl rfl) rfl ?_
          refine WPL.q (q_load_ag ag43 rfl rfl (Nat.le_of_ble_eq_true rfl)) rfl ?_
          refine WPL.q (q_fieldAddr fi47_1 rfl rfl) rfl ?_
          refine WPL.q (q_load_ag ag43 rfl rfl (Nat.le_of_ble_eq_true rfl)) rfl ?_
          obtain ⟨_, h9939, H⟩ := bnd H
          refine WPL.c (runs_call (s := []) (t := [7]) (N := 8) (bor := []) fn49 rfl (s_dec_wide_less k x9903 x9904 x9900 x9901 h9939) ⟨rfl, trivial, by decide, rfl, trivial⟩ rfl trivial (.ren rfl rfl (.ren rfl rfl .nil)) rfl ⟨trivial, rfl⟩ rfl) rfl ?_
          refine WPL.q (q_fieldAddr fi47_0 rfl rfl) rfl ?_
          refine WPL.s (s_store sz4 rfl rfl rfl rfl rfl) ?_
          refine WPL.q (q_fieldAddr fi47_1 rfl rfl) rfl ?_
          refine WPL.s (s_store sz43 rfl rfl rfl rfl rfl) ?_
          refine WPL.nilW ?_
          refine W.cv (Cv.weak (E' := ((Env.none.upd 4 (.ptr 0 0)).upd 6 (.ptr 1 0))) (M' := ((Mem.nil.push (.cells 23 [.lit (.int .i64 0), .lit (.int .i64 0)])).push (.cells 47 [.lit (.bool false), .lit (.int .u64 ((sub64 x9903 x9900 ((sub64 x9904 x9901 0).2)).1)), .lit (.int .u64 ((sub64 x9904 x9901 0).1)), .lit (.int .i64 x9902)]))) [2, 5] hnp ⟨rfl, ⟨⟨trivial, .inr ⟨rfl, rfl, rfl⟩⟩, .inr ⟨rfl, rfl, rfl⟩⟩, by decide, rfl, trivial⟩ (LeE.upd rfl rfl (LeE.upd rfl rfl (LeE.none rfl rfl)))) rfl ?_
          refine W.now ?_
          have q0 := (Prod.mk.inj (Option.some.inj H)).1
          have q1 := (Prod.mk.inj (Prod.mk.inj (Option.some.inj H)).2).1
          have q2 := (Prod.mk.inj (Prod.mk.inj (Option.some.inj H)).2).2
          subst q0
          subst q1
          subst q2
          exact ⟨rfl, rfl, rfl⟩
      · rintro _ _ _ ⟨rfl, rfl, rfl⟩
        refine W.now ?_
        refine Then.n ?_
        refine WP.seq ?_
        refine WP.region ?_
        refine WPL.q (q_load_ag ag47 rfl rfl (Nat.le_of_ble_eq_true rfl)) rfl ?_
        obtain ⟨⟨x9943, x9944, x9945⟩, h9941, H⟩ := bnd H
        refine WPL.c (runs_call (s := []) (t := [2]) (N := 3) (bor := []) fn31 rfl (s_dec_num_tell k x9933 x9934 x9935 x9902 x9943 x9944 x9945 h9941) ⟨rfl, trivial, by decide, rfl, trivial⟩ rfl trivial (.ren rfl rfl .nil) rfl ⟨trivial, rfl⟩ rfl) rfl ?_
        refine WPL.q (q_extract rfl rfl) rfl ?_
        refine WPL.q (q_extract rfl rfl) rfl ?_
        refine WPL.s (s_store sz23 rfl rfl rfl rfl rfl) ?_
        refine WPL.q (q_as (v := .lit (.int _ _)) rfl) rfl ?_
        refine WPL.nilW ?_
        refine W.now ?_
        refine Then.n ?_
        refine WP.retW ?_
        refine W.now ?_
        refine Then.r ?_
        have q0 := (Prod.mk.inj (Option.some.inj H)).1
        have q1 := (Prod.mk.inj (Prod.mk.inj (Option.some.inj H)).2).1
        have q2 := (Prod.mk.inj (Prod.mk.inj (Option.some.inj H)).2).2
        subst q0
        subst q1
        subst q2
        exact ⟨trivial, _, rfl, [0], (.tup [.agg [.lit (.int .i64 x9944), .lit (.int .i64 x9945)], .lit (.int .i64 x9943)]), (Mem.nil.push (.cells 23 [.lit (.int .i64 x9944), .lit (.int .i64 x9945)])), ⟨rfl, ⟨trivial, .inr ⟨rfl, rfl, rfl⟩⟩, by decide, rfl, trivial⟩, rfl, rfl, rfl, rfl⟩
    · replace H := cnf hb9926 H
      refine WP.skipW ?_
      refine W.now ?_
      refine Then.n ?_
      refine WP.seq ?_
      refine WP.seq ?_
      refine WP.region ?_
      refine WPL.q (q_fieldAddr fi47_1 rfl rfl) rfl ?_
      refine WPL.q (q_load_ag ag43 rfl rfl (Nat.le_of_ble_eq_true rfl)) rfl ?_
      refine WPL.q (q_fieldAddr fi47_1 rfl rfl) rfl ?_
      refine WPL.q (q_load_ag ag43 rfl rfl (Nat.le_of_ble_eq_true rfl)) rfl ?_
      obtain ⟨x9950, h9948, H⟩ := bnd H
      refine WPL.c (runs_call (s := []) (t := [7]) (N := 8) (bor := []) fn47 rfl (s_dec_wide_plus k x9900 x9901 x9903 x9904 x9950 h9948) ⟨rfl, trivial, by decide, rfl, trivial⟩ rfl trivial (.ren rfl rfl (.ren rfl rfl .nil)) rfl ⟨trivial, rfl⟩ rfl) rfl ?_
      refine WPL.q (q_mv (v := .tup _) rfl) rfl ?_
      refine WPL.q (q_extract rfl rfl) rfl ?_
      refine WPL.q (q_extract rfl rfl) rfl ?_
      refine WPL.q (q_fieldAddr fi47_1 rfl rfl) rfl ?_
      refine WPL.s (s_store sz43 rfl rfl rfl rfl rfl) ?_
      refine WPL.q (q_as (v := .lit (.bool _)) rfl) rfl ?_
      refine WPL.nilW ?_
      refine W.now ?_
      refine Then.n ?_
      refine WP.seq ?_
      refine WP.region ?_
      refine WPL.q (q_mv (v := .lit (.bool _)) rfl) rfl ?_
      refine WPL.q (q_not rfl) rfl ?_
      refine WPL.nilW ?_
      refine W.now ?_
      refine Then.n ?_
      refine WP.cond (t := (!x9950)) rfl (fun hb9950 => ?_) (fun hb9950 => ?_)
      · replace H := cnt hb9950 H
        refine WP.seq ?_
        refine WP.region ?_
        refine WPL.q (q_build bu23 rfl) rfl ?_
        refine WPL.s (s_store sz23 rfl rfl rfl rfl rfl) ?_
        refine WPL.q (q_as (v := .lit (.int _ _)) rfl) rfl ?_
        refine WPL.nilW ?_
        refine W.now ?_
        refine Then.n ?_
        refine WP.retW ?_
        refine W.now ?_
        refine Then.r ?_
        have q0 := (Prod.mk.inj (Option.some.inj H)).1
        have q1 := (Prod.mk.inj (Prod.mk.inj (Option.some.inj H)).2).1
        have q2 := (Prod.mk.inj (Prod.mk.inj (Option.some.inj H)).2).2
        subst q0
        subst q1
        subst q2
        exact ⟨trivial, _, rfl, [2], (.tup [.agg [.lit (.int .i64 0), .lit (.int .i64 0)], .lit (.int .i64 30)]), (Mem.nil.push (.cells 23 [.lit (.int .i64 0), .lit (.int .i64 0)])), ⟨rfl, ⟨trivial, .inr ⟨rfl, rfl, rfl⟩⟩, by decide, rfl, trivial⟩, rfl, rfl, rfl, rfl⟩
      · replace H := cnf hb9950 H
        refine WP.skipW ?_
        refine W.now ?_
        refine Then.n ?_
        refine WP.seq ?_
        refine WP.region ?_
        refine WPL.q (q_load_ag ag47 rfl rfl (Nat.le_of_ble_eq_true rfl)) rfl ?_
        obtain ⟨⟨x9953, x9954, x9955⟩, h9951, H⟩ := bnd H
        refine WPL.c (runs_call (s := []) (t := [8]) (N := 9) (bor := []) fn31 rfl (s_dec_num_tell k (decide (x9832 < 0)) ((add64 x9900 x9903 ((add64 x9901 x9904 0).2)).1) ((add64 x9901 x9904 0).1) x9902 x9953 x9954 x9955 h9951) ⟨rfl, trivial, by decide, rfl, trivial⟩ rfl trivial (.ren rfl rfl .nil) rfl ⟨trivial, rfl⟩ rfl) rfl ?_
        refine WPL.q (q_extract rfl rfl) rfl ?_
        refine WPL.q (q_extract rfl rfl) rfl ?_
        refine WPL.s (s_store sz23 rfl rfl rfl rfl rfl) ?_
        refine WPL.q (q_as (v := .lit (.int _ _)) rfl) rfl ?_
        refine WPL.nilW ?_
        refine W.now ?_
        refine Then.n ?_
        refine WP.retW ?_
        refine W.now ?_
        have q0 := (Prod.mk.inj (Option.some.inj H)).1
        have q1 := (Prod.mk.inj (Prod.mk.inj (Option.some.inj H)).2).1
        have q2 := (Prod.mk.inj (Prod.mk.inj (Option.some.inj H)).2).2
        subst q0
        subst q1
        subst q2
        exact ⟨trivial, _, rfl, [2], (.tup [.agg [.lit (.int .i64 x9954), .lit (.int .i64 x9955)], .lit (.int .i64 x9953)]), (Mem.nil.push (.cells 23 [.lit (.int .i64 x9954), .lit (.int .i64 x9955)])), ⟨rfl, ⟨trivial, .inr ⟨rfl, rfl, rfl⟩⟩, by decide, rfl, trivial⟩, rfl, rfl, rfl, rfl⟩
set_option maxRecDepth 100000 in
set_option maxHeartbeats 4000000 in
theorem s_dec_Sub (k : Nat) (x9811 : Int) (x9812 : Int) (x9813 : Int) (x9814 : Int) (x9970 : Int) (x9971 : Int) (x9972 : Int) (H : g_dec_Sub k x9811 x9812 x9813 x9814 = some (x9970, x9971, x9972)) : Go.Q.Spec Try.prog 16 0 [.agg [.lit (.int .i64 x9811), .lit (.int .i64 x9812)], .agg [.lit (.int .i64 x9813), .lit (.int .i64 x9814)]] Mem.nil (fun o M => o = .ret (.tup [.agg [.lit (.int .i64 x9971), .lit (.int .i64 x9972)], .lit (.int .i64 x9970)]) ∧ M = (Mem.nil.push (.cells 23 [.lit (.int .i64 x9971), .lit (.int .i64 x9972)]))) := by
  unfold g_dec_Sub at H
  refine Go.Q.Spec.of_bodyR (az := [(23, 2)]) (rs := [.cell 4 23, .tmp 5]) (nt := 27) Try.func16 rfl rfl (by intro t T h; simp at h; rcases h with ⟨rfl, rfl⟩ <;> first | exact ag23) rfl rfl fun cx hnp => ?_
  refine WP.seq ?_
  refine WP.region ?_
  refine WPL.d (d_box rfl rfl) rfl ?_
  refine WPL.d (d_box rfl rfl) rfl ?_
  refine WPL.d (d_alloc ze23 rfl) rfl ?_
  refine WPL.q (q_as (v := .lit (.int _ _)) rfl) rfl ?_
  refine WPL.nilW ?_
  refine W.now ?_
  refine Then.n ?_
  refine WP.seq ?_
  refine WP.seq ?_
  refine WP.region ?_
  refine WPL.d (d_buildCells li81 rfl rfl rfl rfl rfl) rfl ?_
  obtain ⟨⟨x9981, x9982, x9983, x9984, x9985⟩, h9979, H⟩ := bnd H
  refine WPL.c (runs_call (s := [3, 0, 1]) (t := [3, 0, 1]) (N := 4) (bor := []) fn27 rfl (s_dec_clean k x9811 x9812 x9813 x9814 x9981 x9982 x9983 x9984 x9985 h9979) ⟨rfl, ⟨⟨⟨trivial, .inr ⟨rfl, rfl, rfl⟩⟩, .inr ⟨rfl, rfl, rfl⟩⟩, .inr ⟨rfl, rfl, rfl⟩⟩, by decide, rfl, trivial⟩ rfl trivial (.ren rfl rfl .nil) rfl ⟨⟨⟨trivial, rfl⟩, rfl⟩, rfl⟩ rfl) rfl ?_
  refine WPL.q (q_not rfl) rfl ?_
  refine WPL.nilW ?_
  refine W.now ?_
  refine Then.n ?_
  refine WP.cond (t := (!x9981)) rfl (fun hb9985 => ?_) (fun hb9985 => ?_)
  · replace H := cnt hb9985 H
    refine WP.seq ?_
    refine WP.region ?_
    refine WPL.q (q_build bu23 rfl) rfl ?_
    refine WPL.s (s_store sz23 rfl rfl rfl rfl rfl) ?_
    refine WPL.q (q_as (v := .lit (.int _ _)) rfl) rfl ?_
    refine WPL.nilW ?_
    refine W.now ?_
    refine Then.n ?_
    refine WP.retW ?_
    refine W.now ?_
    refine Then.r ?_
    have q0 := (Prod.mk.inj (Option.some.inj H)).1
    have q1 := (Prod.mk.inj (Prod.mk.inj (Option.some.inj H)).2).1
    have q2 := (Prod.mk.inj (Prod.mk.inj (Option.some.inj H)).2).2
    subst q0
    subst q1
    subst q2
    exact ⟨trivial, _, rfl, [2], (.tup [.agg [.lit (.int .i64 0), .lit (.int .i64 0)], .lit (.int .i64 1)]), (Mem.nil.push (.cells 23 [.lit (.int .i64 0), .lit (.int .i64 0)])), ⟨rfl, ⟨trivial, .inr ⟨rfl, rfl, rfl⟩⟩, by decide, rfl, trivial⟩, rfl, rfl, rfl, rfl⟩
  · replace H := cnf hb9985 H
    refine WP.skipW ?_
    refine W.now ?_
    refine Then.n ?_
    refine WP.seq ?_
    refine WP.seq ?_
    refine WP.region ?_
    refine WPL.q (q_fieldAddr fi23_0 rfl rfl) rfl ?_
    refine WPL.q (q_load sc2 rfl rfl rfl) rfl ?_
    obtain ⟨x9993, h9993, H⟩ := bnd H
    refine WPL.q (q_nm (q_eql rfl rfl) (nm_bool h9993)) rfl ?_
    refine WPL.nilW ?_
    refine W.now ?_
    refine Then.n ?_
    refine WP.cond (t := x9993) rfl (fun hb9993 => ?_) (fun hb9993 => ?_)
    · replace H := cnt hb9993 H
      refine WP.seq ?_
      refine WP.region ?_
      refine WPL.q (q_load_ag ag23 rfl rfl (Nat.le_of_ble_eq_true rfl)) rfl ?_
      refine WPL.q (q_load_ag ag23 rfl rfl (Nat.le_of_ble_eq_true rfl)) rfl ?_
      obtain ⟨⟨x9996, x9997, x9998⟩, h9994, H⟩ := bnd H
      refine WPL.c (runs_call (s := []) (t := [4]) (N := 5) (bor := []) fn50 rfl (s_dec_lowest k x9982 x9983 x9984 x9985 x9996 x9997 x9998 h9994) ⟨rfl, trivial, by decide, rfl, trivial⟩ rfl trivial (.ren rfl rfl (.ren rfl rfl .nil)) rfl ⟨trivial, rfl⟩ rfl) rfl ?_
      refine WPL.q (q_extract rfl rfl) rfl ?_
      refine WPL.q (q_extract rfl rfl) rfl ?_
      refine WPL.s (s_store sz23 rfl rfl rfl rfl rfl) ?_
      refine WPL.q (q_as (v := .lit (.int _ _)) rfl) rfl ?_
      refine WPL.nilW ?_
      refine W.now ?_
      refine Then.n ?_
      refine WP.retW ?_
      refine W.now ?_
      refine Then.r ?_
      have q0 := (Prod.mk.inj (Option.some.inj H)).1
      have q1 := (Prod.mk.inj (Prod.mk.inj (Option.some.inj H)).2).1
      have q2 := (Prod.mk.inj (Prod.mk.inj (Option.some.inj H)).2).2
      subst q0
      subst q1
      subst q2
      exact ⟨trivial, _, rfl, [2], (.tup [.agg [.lit (.int .i64 x9997), .lit (.int .i64 x9998)], .lit (.int .i64 x9996)]), (Mem.nil.push (.cells 23 [.lit (.int .i64 x9997), .lit (.int .i64 x9998)])), ⟨rfl, ⟨trivial, .inr ⟨rfl, rfl, rfl⟩⟩, by decide, rfl, trivial⟩, rfl, rfl, rfl, rfl⟩
    · replace H := cnf hb9993 H
      refine WP.skipW ?_
      refine W.now ?_
      refine Then.n ?_
      refine WP.seq ?_
      refine WP.region ?_
      refine WPL.q (q_fieldAddr fi23_0 rfl rfl) rfl ?_
      refine WPL.q (q_load sc2 rfl rfl rfl) rfl ?_
      refine WPL.q (q_neg rfl) rfl ?_
      refine WPL.q (q_fieldAddr fi23_0 rfl rfl) rfl ?_
      refine WPL.s (s_store sz2 rfl rfl rfl rfl rfl) ?_
      refine WPL.nilW ?_
      refine W.now ?_
      refine Then.n ?_
      refine WP.seq ?_
      refine WP.region ?_
      refine WPL.q (q_load_ag ag23 rfl rfl (Nat.le_of_ble_eq_true rfl)) rfl ?_
      refine WPL.q (q_load_ag ag23 rfl rfl (Nat.le_of_ble_eq_true rfl)) rfl ?_
      obtain ⟨⟨x10000, x10001, x10002⟩, h9998, H⟩ := bnd H
      refine WPL.c (runs_call (s := []) (t := [4]) (N := 5) (bor := []) fn14 rfl (s_dec_Add k x9982 x9983 (IntKind.wrap .i64 (0 - x9984)) x9985 x10000 x10001 x10002 h9998) ⟨rfl, trivial, by decide, rfl, trivial⟩ rfl trivial (.ren rfl rfl (.ren rfl rfl .nil)) rfl ⟨trivial, rfl⟩ rfl) rfl ?_
      refine WPL.q (q_extract rfl rfl) rfl ?_
      refine WPL.q (q_extract rfl rfl) rfl ?_
      refine WPL.s (s_store sz23 rfl rfl rfl rfl rfl) ?_
      refine WPL.q (q_as (v := .lit (.int _ _)) rfl) rfl ?_
      refine WPL.nilW ?_
      refine W.now ?_
      refine Then.n ?_
      refine WP.retW ?_
      refine W.now ?_
      have q0 := (Prod.mk.inj (Option.some.inj H)).1
      have q1 := (Prod.mk.inj (Prod.mk.inj (Option.some.inj H)).2).1
      have q2 := (Prod.mk.inj (Prod.mk.inj (Option.some.inj H)).2).2
      subst q0
      subst q1
      subst q2
      exact ⟨trivial, _, rfl, [2], (.tup [.agg [.lit (.int .i64 x10001), .lit (.int .i64 x10002)], .lit (.int .i64 x10000)]), (Mem.nil.push (.cells 23 [.lit (.int .i64 x10001), .lit (.int .i64 x10002)])), ⟨rfl, ⟨trivial, .inr ⟨rfl, rfl, rfl⟩⟩, by decide, rfl, trivial⟩, rfl, rfl, rfl, rfl⟩
set_option maxRecDepth 100000 in
set_option maxHeartbeats 4000000 in
theorem s_quireref09_Minus (k : Nat) (x10022 : Bool) (x10023 : (List Int)) (x10028 : Bool) (x10029 : (List Int)) (H : g_quireref09_Minus k x10022 x10023 = some (x10028, x10029)) : Go.Q.Spec Try.prog 51 0 [.agg [.lit (.bool x10022), .ro (Rd.slice (Rd.int .i64)) false x10023]] Mem.nil (fun o M => o = .ret (.agg [.lit (.bool x10028), .ro (Rd.slice (Rd.int .i64)) false x10029]) ∧ M = (Mem.nil.push (.cells 51 [.lit (.bool x10028), .ro (Rd.slice (Rd.int .i64)) false x10029]))) := by
  unfold g_quireref09_Minus at H
  refine Go.Q.Spec.of_bodyR (az := [(51, 2)]) (rs := [.cell 2 51]) (nt := 10) Try.func51 rfl rfl (by intro t T h; simp at h; rcases h with ⟨rfl, rfl⟩ <;> first | exact ag51) rfl rfl fun cx hnp => ?_
  refine WP.seq ?_
  refine WP.region ?_
  refine WPL.d (d_box rfl rfl) rfl ?_
  refine WPL.d (d_alloc ze51 rfl) rfl ?_
  refine WPL.nilW ?_
  refine W.now ?_
  refine Then.n ?_
  refine WP.seq ?_
  refine WP.region ?_
  refine WPL.q (q_fieldAddr fi51_0 rfl rfl) rfl ?_
  refine WPL.q (q_load sc4 rfl rfl rfl) rfl ?_
  refine WPL.q (q_not rfl) rfl ?_
  refine WPL.q (q_fieldAddr fi51_1 rfl rfl) rfl ?_
  refine WPL.q (q_load sc49 rfl rfl rfl) rfl ?_
  refine WPL.q (q_build bu51 rfl) rfl ?_
  obtain ⟨⟨x10031, x10032⟩, h10029, H⟩ := bnd H
  refine WPL.c (runs_call (s := []) (t := [2]) (N := 3) (bor := []) fn36 rfl (s_quireref09_trim__b k (!x10022) x10023 x10031 x10032 h10029) ⟨rfl, trivial, by decide, rfl, trivial⟩ rfl trivial (.ren rfl rfl .nil) rfl ⟨trivial, rfl⟩ rfl) rfl ?_
  refine WPL.s (s_store sz51 rfl rfl rfl rfl rfl) ?_
  refine WPL.nilW ?_
  refine W.now ?_
  refine Then.n ?_
  refine WP.retW ?_
  refine W.now ?_
  have q0 := (Prod.mk.inj (Option.some.inj H)).1
  have q1 := (Prod.mk.inj (Option.some.inj H)).2
  subst q0
  subst q1
  exact ⟨trivial, _, rfl, [1], (.agg [.lit (.bool x10031), .ro (Rd.slice (Rd.int .i64)) false x10032]), (Mem.nil.push (.cells 51 [.lit (.bool x10031), .ro (Rd.slice (Rd.int .i64)) false x10032])), ⟨rfl, ⟨trivial, .inr ⟨rfl, rfl, rfl⟩⟩, by decide, rfl, trivial⟩, rfl, rfl, rfl, rfl⟩
set_option maxRecDepth 100000 in
set_option maxHeartbeats 4000000 in
theorem s_quireref09_Sub (k : Nat) (x10007 : Int) (x10008 : Int) (x10009 : Int) (x10010 : Int) (x10053 : Int) (x10054 : Int) (x10055 : Int) (H : g_quireref09_Sub k x10007 x10008 x10009 x10010 = some (x10053, x10054, x10055)) : Go.Q.Spec Try.prog 17 0 [.agg [.lit (.int .i64 x10007), .lit (.int .i64 x10008)], .agg [.lit (.int .i64 x10009), .lit (.int .i64 x10010)]] Mem.nil (fun o M => o = .ret (.tup [.agg [.lit (.int .i64 x10054), .lit (.int .i64 x10055)], .lit (.int .i64 x10053)]) ∧ M = (Mem.nil.push (.cells 23 [.lit (.int .i64 x10054), .lit (.int .i64 x10055)]))) := by
  unfold g_quireref09_Sub at H
  refine Go.Q.Spec.of_bodyR (az := [(23, 2)]) (rs := [.cell 4 23, .tmp 5]) (nt := 31) Try.func17 rfl rfl (by intro t T h; simp at h; rcases h with ⟨rfl, rfl⟩ <;> first | exact ag23) rfl rfl fun cx hnp => ?_
  refine WP.seq ?_
  refine WP.region ?_
  refine WPL.d (d_box rfl rfl) rfl ?_
  refine WPL.d (d_box rfl rfl) rfl ?_
  refine WPL.d (d_alloc ze23 rfl) rfl ?_
  refine WPL.q (q_as (v := .lit (.int _ _)) rfl) rfl ?_
  refine WPL.nilW ?_
  refine W.now ?_
  refine Then.n ?_
  refine WP.seq ?_
  refine WP.region ?_
  refine WPL.q (q_load_ag ag23 rfl rfl (Nat.le_of_ble_eq_true rfl)) rfl ?_
  refine WPL.q (q_load_ag ag23 rfl rfl (Nat.le_of_ble_eq_true rfl)) rfl ?_
  obtain ⟨⟨x10057, x10058, x10059, x10060, x10061, x10062, x10063⟩, h10055, H⟩ := bnd H
  refine WPL.c (runs_call (s := []) (t := [3, 4]) (N := 5) (bor := []) fn39 rfl (s_quireref09_two k x10007 x10008 x10009 x10010 x10057 x10058 x10059 x10060 x10061 x10062 x10063 h10055) ⟨rfl, trivial, by decide, rfl, trivial⟩ rfl trivial (.ren rfl rfl (.ren rfl rfl .nil)) rfl ⟨⟨trivial, rfl⟩, rfl⟩ rfl) rfl ?_
  refine WPL.q (q_mv (v := .tup _) rfl) rfl ?_
  refine WPL.q (q_extract rfl rfl) rfl ?_
  refine WPL.q (q_extract rfl rfl) rfl ?_
  refine WPL.q (q_extract rfl rfl) rfl ?_
  refine WPL.d (d_alloc ze53 rfl) rfl ?_
  refine WPL.d (d_alloc ze53 rfl) rfl ?_
  refine WPL.s (s_store sz53 rfl rfl rfl rfl rfl) ?_
  refine WPL.s (s_store sz53 rfl rfl rfl rfl rfl) ?_
  refine WPL.q (q_as (v := .lit (.bool _)) rfl) rfl ?_
  refine WPL.nilW ?_
  refine W.now ?_
  refine Then.n ?_
  refine WP.seq ?_
  refine WP.seq ?_
  refine WP.region ?_
  refine WPL.q (q_mv (v := .lit (.bool _)) rfl) rfl ?_
  refine WPL.q (q_not rfl) rfl ?_
  refine WPL.nilW ?_
  refine W.now ?_
  refine Then.n ?_
  refine WP.cond (t := (!x10057)) rfl (fun hb10064 => ?_) (fun hb10064 => ?_)
  · replace H := cnt hb10064 H
    refine WP.seq ?_
    refine WP.region ?_
    refine WPL.q (q_build bu23 rfl) rfl ?_
    refine WPL.s (s_store sz23 rfl rfl rfl rfl rfl) ?_
    refine WPL.q (q_as (v := .lit (.int _ _)) rfl) rfl ?_
    refine WPL.nilW ?_
    refine W.now ?_
    refine Then.n ?_
    refine WP.retW ?_
    refine W.now ?_
    refine Then.r ?_
    have q0 := (Prod.mk.inj (Option.some.inj H)).1
    have q1 := (Prod.mk.inj (Prod.mk.inj (Option.some.inj H)).2).1
    have q2 := (Prod.mk.inj (Prod.mk.inj (Option.some.inj H)).2).2
    subst q0
    subst q1
    subst q2
    exact ⟨trivial, _, rfl, [2], (.tup [.agg [.lit (.int .i64 0), .lit (.int .i64 0)], .lit (.int .i64 1)]), (Mem.nil.push (.cells 23 [.lit (.int .i64 0), .lit (.int .i64 0)])), ⟨rfl, ⟨trivial, .inr ⟨rfl, rfl, rfl⟩⟩, by decide, rfl, trivial⟩, rfl, rfl, rfl, rfl⟩
  · replace H := cnf hb10064 H
    refine WP.skipW ?_
    refine W.now ?_
    refine Then.n ?_
    refine WP.seq ?_
    refine WP.regionD' 14 [5, 6] [] mixed rfl ?_
    refine WPD.takeT 0 rfl (by kernel_rfl) (q_fieldAddr fi53_0 rfl rfl) rfl ?_
    refine WPD.takeT 2 rfl (by kernel_rfl) (q_fieldAddr fi53_0 rfl rfl) rfl ?_
    refine WPD.takeT 6 rfl (by kernel_rfl) (q_fieldAddr fi53_1 rfl rfl) rfl ?_
    refine WPD.take 1 rfl (by kernel_rfl) (q_load_ag ag51 rfl rfl (Nat.le_of_ble_eq_true rfl)) rfl rfl ?_
    refine WPD.take 3 rfl (by kernel_rfl) (q_load_ag ag51 rfl rfl (Nat.le_of_ble_eq_true rfl)) rfl rfl ?_
    refine WPD.take 7 rfl (by kernel_rfl) (q_load sc3 rfl rfl rfl) rfl rfl ?_
    obtain ⟨⟨x10077, x10078⟩, h10075, H⟩ := bnd H
    refine WPD.eff 4 [5, 6] [] rfl (by kernel_rfl) (runs_call (s := []) (t := [7]) (N := 8) (bor := []) fn51 rfl (s_quireref09_Minus k x10061 x10062 x10077 x10078 h10075) ⟨rfl, trivial, by decide, rfl, trivial⟩ rfl trivial (.ren rfl rfl .nil) rfl ⟨trivial, rfl⟩ rfl) rfl rfl ?_
    obtain ⟨⟨x10080, x10081⟩, h10078, H⟩ := bnd H
    refine WPD.eff 5 [5, 6] [] rfl (by kernel_rfl) (runs_call (s := []) (t := [8]) (N := 9) (bor := []) fn40 rfl (s_quireref09_Plus k x10058 x10059 x10077 x10078 x10080 x10081 h10078) ⟨rfl, trivial, by decide, rfl, trivial⟩ rfl trivial (.ren rfl rfl (.ren rfl rfl .nil)) rfl ⟨trivial, rfl⟩ rfl) rfl rfl ?_
    refine WPD.takeT 8 rfl (by kernel_rfl) (q_build bu53 rfl) rfl ?_
    obtain ⟨⟨x10083, x10084, x10085⟩, h10081, H⟩ := bnd H
    refine WPD.eff 9 [5, 6] [] rfl (by kernel_rfl) (runs_call (s := []) (t := [9]) (N := 10) (bor := []) fn35 rfl (s_quireref09_Tell k x10080 x10081 x10060 x10083 x10084 x10085 h10081) ⟨rfl, trivial, by decide, rfl, trivial⟩ rfl trivial (.ren rfl rfl .nil) rfl ⟨trivial, rfl⟩ rfl) rfl rfl ?_
    refine WPD.takeT 10 rfl (by kernel_rfl) (q_extract rfl rfl) rfl ?_
    refine WPD.takeT 11 rfl (by kernel_rfl) (q_extract rfl rfl) rfl ?_
    refine WPD.effS 12 [5, 6] [] rfl (by kernel_rfl) (s_store sz23 rfl rfl rfl rfl rfl) rfl ?_
    refine WPD.takeT 13 rfl (by kernel_rfl) (q_as (v := .lit (.int _ _)) rfl) rfl ?_
    refine WPD.doneW (by kernel_rfl) ?_
    refine W.now ?_
    refine Then.n ?_
    refine WP.retW ?_
    refine W.now ?_
    have q0 := (Prod.mk.inj (Option.some.inj H)).1
    have q1 := (Prod.mk.inj (Prod.mk.inj (Option.some.inj H)).2).1
    have q2 := (Prod.mk.inj (Prod.mk.inj (Option.some.inj H)).2).2
    subst q0
    subst q1
    subst q2
    exact ⟨trivial, _, rfl, [2], (.tup [.agg [.lit (.int .i64 x10084), .lit (.int .i64 x10085)], .lit (.int .i64 x10083)]), (Mem.nil.push (.cells 23 [.lit (.int .i64 x10084), .lit (.int .i64 x10085)])), ⟨rfl, ⟨trivial, .inr ⟨rfl, rfl, rfl⟩⟩, by decide, rfl, trivial⟩, rfl, rfl, rfl, rfl⟩
set_option maxRecDepth 100000 in
set_option maxHeartbeats 4000000 in
theorem s_dec_Neg (k : Nat) (x10104 : Int) (x10105 : Int) (x10119 : Int) (x10120 : Int) (x10121 : Int) (H : g_dec_Neg k x10104 x10105 = some (x10119, x10120, x10121)) : Go.Q.Spec Try.prog 18 0 [.agg [.lit (.int .i64 x10104), .lit (.int .i64 x10105)]] Mem.nil (fun o M => o = .ret (.tup [.agg [.lit (.int .i64 x10120), .lit (.int .i64 x10121)], .lit (.int .i64 x10119)]) ∧ M = (Mem.nil.push (.cells 23 [.lit (.int .i64 x10120), .lit (.int .i64 x10121)]))) := by
  unfold g_dec_Neg at H
  refine Go.Q.Spec.of_bodyR (az := [(23, 2)]) (rs := [.cell 2 23, .tmp 3]) (nt := 20) Try.func18 rfl rfl (by intro t T h; simp at h; rcases h with ⟨rfl, rfl⟩ <;> first | exact ag23) rfl rfl fun cx hnp => ?_
  refine WP.seq ?_
  refine WP.region ?_
  refine WPL.d (d_box rfl rfl) rfl ?_
  refine WPL.d (d_alloc ze23 rfl) rfl ?_
  refine WPL.q (q_as (v := .lit (.int _ _)) rfl) rfl ?_
  refine WPL.nilW ?_
  refine W.now ?_
  refine Then.n ?_
  refine WP.seq ?_
  refine WP.seq ?_
  refine WP.region ?_
  refine WPL.q (q_load_ag ag23 rfl rfl (Nat.le_of_ble_eq_true rfl)) rfl ?_
  refine WPL.d (d_buildSlice (ds := ([(⟨x10104, x10105⟩ : S_api_Dec)] : List S_api_Dec)) (R := rdS_api_Dec) li91 rfl rfl rfl rfl rfl (JoinRows.cons (l := [.lit (.int .i64 x10104), .lit (.int .i64 x10105)]) (Joins.via (Joins.cons Joins.sc (Joins.cons Joins.sc Joins.unit))) rfl JoinRows.nil) rfl rfl) rfl ?_
  obtain ⟨x10126, h10124, H⟩ := bnd H
  refine WPL.c (runs_call (s := []) (t := []) (N := 3) (bor := [2]) fn52 rfl (s_dec_ranged k ([(⟨x10104, x10105⟩ : S_api_Dec)] : List S_api_Dec) x10126 h10124) ⟨rfl, trivial, by decide, rfl, trivial⟩ rfl ⟨trivial, rfl, rfl, trivial⟩ (.row rfl rfl .nil) rfl trivial rfl) rfl ?_
  refine WPL.q (q_not rfl) rfl ?_
  refine WPL.nilW ?_
  refine W.now ?_
  refine Then.n ?_
  refine WP.cond (t := (!x10126)) rfl (fun hb10126 => ?_) (fun hb10126 => ?_)
  · replace H := cnt hb10126 H
    refine WP.seq ?_
    refine WP.region ?_
    refine WPL.q (q_build bu23 rfl) rfl ?_
    refine WPL.s (s_store sz23 rfl rfl rfl rfl rfl) ?_
    refine WPL.q (q_as (v := .lit (.int _ _)) rfl) rfl ?_
    refine WPL.nilW ?_
    refine W.now ?_
    refine Then.n ?_
    refine WP.retW ?_
    refine W.now ?_
    refine Then.r ?_
    have q0 := (Prod.mk.inj (Option.some.inj H)).1
    have q1 := (Prod.mk.inj (Prod.mk.inj (Option.some.inj H)).2).1
    have q2 := (Prod.mk.inj (Prod.mk.inj (Option.some.inj H)).2).2
    subst q0
    subst q1
    subst q2
    exact ⟨trivial, _, rfl, [1], (.tup [.agg [.lit (.int .i64 0), .lit (.int .i64 0)], .lit (.int .i64 1)]), (Mem.nil.push (.cells 23 [.lit (.int .i64 0), .lit (.int .i64 0)])), ⟨rfl, ⟨trivial, .inr ⟨rfl, rfl, rfl⟩⟩, by decide, rfl, trivial⟩, rfl, rfl, rfl, rfl⟩
  · replace H := cnf hb10126 H
    refine WP.skipW ?_
    refine W.now ?_
    refine Then.n ?_
    refine WP.seq ?_
    refine WP.region ?_
    refine WPL.q (q_load_ag ag23 rfl rfl (Nat.le_of_ble_eq_true rfl)) rfl ?_
    obtain ⟨x10129, h10127, H⟩ := bnd H
    refine WPL.c (runs_call (s := []) (t := [3]) (N := 4) (bor := []) fn38 rfl (s_dec_of k x10104 x10105 x10129 h10127) ⟨rfl, trivial, by decide, rfl, trivial⟩ rfl trivial (.ren rfl rfl .nil) rfl ⟨trivial, rfl⟩ rfl) rfl ?_
    refine WPL.d (d_alloc ze47 rfl) rfl ?_
    refine WPL.s (s_store sz47 rfl rfl rfl rfl rfl) ?_
    refine WPL.nilW ?_
    refine W.now ?_
    refine Then.n ?_
    refine WP.seq ?_
    refine WP.region ?_
    refine WPL.q (q_fieldAddr fi47_0 rfl rfl) rfl ?_
    refine WPL.q (q_load sc4 rfl rfl rfl) rfl ?_
    refine WPL.q (q_not rfl) rfl ?_
    refine WPL.q (q_fieldAddr fi47_0 rfl rfl) rfl ?_
    refine WPL.s (s_store sz4 rfl rfl rfl rfl rfl) ?_
    refine WPL.nilW ?_
    refine W.now ?_
    refine Then.n ?_
    refine WP.seq ?_
    refine WP.region ?_
    refine WPL.q (q_load_ag ag47 rfl rfl (Nat.le_of_ble_eq_true rfl)) rfl ?_
    obtain ⟨⟨x10131, x10132, x10133⟩, h10129, H⟩ := bnd H
    refine WPL.c (runs_call (s := []) (t := [5]) (N := 6) (bor := []) fn31 rfl (s_dec_num_tell k (!(decide (x10104 < 0))) 0 x10129 x10105 x10131 x10132 x10133 h10129) ⟨rfl, trivial, by decide, rfl, trivial⟩ rfl trivial (.ren rfl rfl .nil) rfl ⟨trivial, rfl⟩ rfl) rfl ?_
    refine WPL.q (q_extract rfl rfl) rfl ?_
    refine WPL.q (q_extract rfl rfl) rfl ?_
    refine WPL.s (s_store sz23 rfl rfl rfl rfl rfl) ?_
    refine WPL.q (q_as (v := .lit (.int _ _)) rfl) rfl ?_
    refine WPL.nilW ?_
    refine W.now ?_
    refine Then.n ?_
    refine WP.retW ?_
    refine W.now ?_
    have q0 := (Prod.mk.inj (Option.some.inj H)).1
    have q1 := (Prod.mk.inj (Prod.mk.inj (Option.some.inj H)).2).1
    have q2 := (Prod.mk.inj (Prod.mk.inj (Option.some.inj H)).2).2
    subst q0
    subst q1
    subst q2
    exact ⟨trivial, _, rfl, [1], (.tup [.agg [.lit (.int .i64 x10132), .lit (.int .i64 x10133)], .lit (.int .i64 x10131)]), (Mem.nil.push (.cells 23 [.lit (.int .i64 x10132), .lit (.int .i64 x10133)])), ⟨rfl, ⟨trivial, .inr ⟨rfl, rfl, rfl⟩⟩, by decide, rfl, trivial⟩, rfl, rfl, rfl, rfl⟩
set_option maxRecDepth 100000 in
set_option maxHeartbeats 4000000 in
theorem s_quireref09_Neg (k : Nat) (x10138 : Int) (x10139 : Int) (x10145 : Int) (x10146 : Int) (x10147 : Int) (H : g_quireref09_Neg k x10138 x10139 = some (x10145, x10146, x10147)) : Go.Q.Spec Try.prog 19 0 [.agg [.lit (.int .i64 x10138), .lit (.int .i64 x10139)]] Mem.nil (fun o M => o = .ret (.tup [.agg [.lit (.int .i64 x10146), .lit (.int .i64 x10147)], .lit (.int .i64 x10145)]) ∧ M = (Mem.nil.push (.cells 23 [.lit (.int .i64 x10146), .lit (.int .i64 x10147)]))) := by
  unfold g_quireref09_Neg at H
  refine Go.Q.Spec.of_bodyR (az := [(23, 2)]) (rs := [.cell 2 23, .tmp 3]) (nt := 9) Try.func19 rfl rfl (by intro t T h; simp at h; rcases h with ⟨rfl, rfl⟩ <;> first | exact ag23) rfl rfl fun cx hnp => ?_
  refine WP.seq ?_
  refine WP.region ?_
  refine WPL.d (d_box rfl rfl) rfl ?_
  refine WPL.d (d_alloc ze23 rfl) rfl ?_
  refine WPL.q (q_as (v := .lit (.int _ _)) rfl) rfl ?_
  refine WPL.nilW ?_
  refine W.now ?_
  refine Then.n ?_
  refine WP.seq ?_
  refine WP.region ?_
  refine WPL.q (q_build bu23 rfl) rfl ?_
  refine WPL.q (q_load_ag ag23 rfl rfl (Nat.le_of_ble_eq_true rfl)) rfl ?_
  obtain ⟨⟨x10149, x10150, x10151⟩, h10147, H⟩ := bnd H
  refine WPL.c (runs_call (s := []) (t := [2]) (N := 3) (bor := []) fn17 rfl (s_quireref09_Sub k 0 0 x10138 x10139 x10149 x10150 x10151 h10147) ⟨rfl, trivial, by decide, rfl, trivial⟩ rfl trivial (.ren rfl rfl (.ren rfl rfl .nil)) rfl ⟨trivial, rfl⟩ rfl) rfl ?_
  refine WPL.q (q_extract rfl rfl) rfl ?_
  refine WPL.q (q_extract rfl rfl) rfl ?_
  refine WPL.s (s_store sz23 rfl rfl rfl rfl rfl) ?_
  refine WPL.q (q_as (v := .lit (.int _ _)) rfl) rfl ?_
  refine WPL.nilW ?_
  refine W.now ?_
  refine Then.n ?_
  refine WP.retW ?_
  refine W.now ?_
  have q0 := (Prod.mk.inj (Option.some.inj H)).1
  have q1 := (Prod.mk.inj (Prod.mk.inj (Option.some.inj H)).2).1
  have q2 := (Prod.mk.inj (Prod.mk.inj (Option.some.inj H)).2).2
  subst q0
  subst q1
  subst q2
  exact ⟨trivial, _, rfl, [1], (.tup [.agg [.lit (.int .i64 x10150), .lit (.int .i64 x10151)], .lit (.int .i64 x10149)]), (Mem.nil.push (.cells 23 [.lit (.int .i64 x10150), .lit (.int .i64 x10151)])), ⟨rfl, ⟨trivial, .inr ⟨rfl, rfl, rfl⟩⟩, by decide, rfl, trivial⟩, rfl, rfl, rfl, rfl⟩
set_option maxRecDepth 100000 in
set_option maxHeartbeats 4000000 in
theorem s_quireref09_Mul (k : Nat) (x10174 : Int) (x10175 : Int) (x10176 : Int) (x10177 : Int) (x10209 : Int) (x10210 : Int) (x10211 : Int) (H : g_quireref09_Mul k x10174 x10175 x10176 x10177 = some (x10209, x10210, x10211)) : Go.Q.Spec Try.prog 21 0 [.agg [.lit (.int .i64 x10174), .lit (.int .i64 x10175)], .agg [.lit (.int .i64 x10176), .lit (.int .i64 x10177)]] Mem.nil (fun o M => o = .ret (.tup [.agg [.lit (.int .i64 x10210), .lit (.int .i64 x10211)], .lit (.int .i64 x10209)]) ∧ M = (Mem.nil.push (.cells 23 [.lit (.int .i64 x10210), .lit (.int .i64 x10211)]))) := by
  unfold g_quireref09_Mul at H
  refine Go.Q.Spec.of_bodyR (az := [(23, 2)]) (rs := [.cell 4 23, .tmp 5]) (nt := 41) Try.func21 rfl rfl (by intro t T h; simp at h; rcases h with ⟨rfl, rfl⟩ <;> first | exact ag23) rfl rfl fun cx hnp => ?_
  refine WP.seq ?_
  refine WP.region ?_
  refine WPL.d (d_box rfl rfl) rfl ?_
  refine WPL.d (d_box rfl rfl) rfl ?_
  refine WPL.d (d_alloc ze23 rfl) rfl ?_
  refine WPL.q (q_as (v := .lit (.int _ _)) rfl) rfl ?_
  refine WPL.nilW ?_
  refine W.now ?_
  refine Then.n ?_
  refine WP.seq ?_
  refine WP.region ?_
  refine WPL.q (q_load_ag ag23 rfl rfl (Nat.le_of_ble_eq_true rfl)) rfl ?_
  obtain ⟨⟨x10213, x10214⟩, h10211, H⟩ := bnd H
  refine WPL.c (runs_call (s := []) (t := [3]) (N := 4) (bor := []) fn32 rfl (s_quireref09_num k x10174 x10175 x10213 x10214 h10211) ⟨rfl, trivial, by decide, rfl, trivial⟩ rfl trivial (.ren rfl rfl .nil) rfl ⟨trivial, rfl⟩ rfl) rfl ?_
  refine WPL.q (q_mv (v := .tup _) rfl) rfl ?_
  refine WPL.q (q_extract rfl rfl) rfl ?_
  refine WPL.q (q_extract rfl rfl) rfl ?_
  refine WPL.d (d_alloc ze53 rfl) rfl ?_
  refine WPL.s (s_store sz53 rfl rfl rfl rfl rfl) ?_
  refine WPL.q (q_as (v := .lit (.bool _)) rfl) rfl ?_
  refine WPL.nilW ?_
  refine W.now ?_
  refine Then.n ?_
  refine WP.seq ?_
  refine WP.region ?_
  refine WPL.q (q_load_ag ag23 rfl rfl (Nat.le_of_ble_eq_true rfl)) rfl ?_
  obtain ⟨⟨x10216, x10217⟩, h10214, H⟩ := bnd H
  refine WPL.c (runs_call (s := []) (t := [5]) (N := 6) (bor := []) fn32 rfl (s_quireref09_num k x10176 x10177 x10216 x10217 h10214) ⟨rfl, trivial, by decide, rfl, trivial⟩ rfl trivial (.ren rfl rfl .nil) rfl ⟨trivial, rfl⟩ rfl) rfl ?_
  refine WPL.q (q_mv (v := .tup _) rfl) rfl ?_
  refine WPL.q (q_extract rfl rfl) rfl ?_
  refine WPL.q (q_extract rfl rfl) rfl ?_
  refine WPL.d (d_alloc ze53 rfl) rfl ?_
  refine WPL.s (s_store sz53 rfl rfl rfl rfl rfl) ?_
  refine WPL.q (q_as (v := .lit (.bool _)) rfl) rfl ?_
  refine WPL.nilW ?_
  refine W.now ?_
  refine Then.n ?_
  refine WP.seq ?_
  refine WP.seq ?_
  obtain ⟨x10224, H10225, H⟩ := bnd H
  refine WP.monoW (Q := fun x E M => x = .normal ∧ E = ((((Env.none.upd 4 (.ptr 0 0)).upd 6 (.ptr 1 0)).upd 8 (.ptr 2 0)).upd 25 (.lit (.bool x10224))) ∧ M = (((Mem.nil.push (.cells 23 [.lit (.int .i64 0), .lit (.int .i64 0)])).push (.cells 53 [.lit (.bool (decide (x10174 < 0))), .ro (Rd.slice (Rd.int .i64)) false x10214, .lit (.int .i64 x10175)])).push (.cells 53 [.lit (.bool (decide (x10176 < 0))), .ro (Rd.slice (Rd.int .i64)) false x10217, .lit (.int .i64 x10177)]))) ?_ ?_
  · clear H
    have H := H10225
    clear H10225
    refine WP.region ?_
    refine WPL.q (q_mv (v := .lit (.bool _)) rfl) rfl ?_
    refine WPL.q (q_not rfl) rfl ?_
    refine WPL.q (q_mv (v := .lit (.bool _)) rfl) rfl ?_
    refine WPL.split (t := 22) (b := (!x10213)) rfl (fun hb10224 => ?_) (fun hb10224 => ?_)
    · replace H := cnt hb10224 H
      refine WPL.skipg (b' := true) rfl rfl (lb hb10224) rfl rfl ?_
      refine WPL.skipg (b' := true) rfl rfl (lb hb10224) rfl rfl ?_
      refine WPL.q (q_pickT (v := .lit (.bool _)) (lb hb10224) rfl) rfl ?_
      refine WPL.nilW ?_
      refine W.cv (Cv.weak (E' := ((((Env.none.upd 4 (.ptr 0 0)).upd 6 (.ptr 1 0)).upd 8 (.ptr 2 0)).upd 25 (.lit (.bool true)))) (M' := (((Mem.nil.push (.cells 23 [.lit (.int .i64 0), .lit (.int .i64 0)])).push (.cells 53 [.lit (.bool (decide (x10174 < 0))), .ro (Rd.slice (Rd.int .i64)) false x10214, .lit (.int .i64 x10175)])).push (.cells 53 [.lit (.bool (decide (x10176 < 0))), .ro (Rd.slice (Rd.int .i64)) false x10217, .lit (.int .i64 x10177)]))) [2, 4, 6] hnp ⟨rfl, ⟨⟨⟨trivial, .inr ⟨rfl, rfl, rfl⟩⟩, .inr ⟨rfl, rfl, rfl⟩⟩, .inr ⟨rfl, rfl, rfl⟩⟩, by decide, rfl, trivial⟩ (LeE.upd rfl rfl (LeE.upd rfl rfl (LeE.upd rfl rfl (LeE.upd rfl rfl (LeE.none rfl rfl)))))) rfl ?_
      refine W.now ?_
      have q0 := (Option.some.inj H)
      subst q0
      exact ⟨rfl, rfl, rfl⟩
    · replace H := cnf hb10224 H
      refine WPL.qg rfl rfl (lb hb10224) (q_mv (v := .lit (.bool _)) rfl) rfl ?_
      refine WPL.qg rfl rfl (lb hb10224) (q_not rfl) rfl ?_
      refine WPL.q (q_pickF (v := .lit (.bool _)) (lb hb10224) rfl) rfl ?_
      refine WPL.nilW ?_
      refine W.cv (Cv.weak (E' := ((((Env.none.upd 4 (.ptr 0 0)).upd 6 (.ptr 1 0)).upd 8 (.ptr 2 0)).upd 25 (.lit (.bool (!x10216))))) (M' := (((Mem.nil.push (.cells 23 [.lit (.int .i64 0), .lit (.int .i64 0)])).push (.cells 53 [.lit (.bool (decide (x10174 < 0))), .ro (Rd.slice (Rd.int .i64)) false x10214, .lit (.int .i64 x10175)])).push (.cells 53 [.lit (.bool (decide (x10176 < 0))), .ro (Rd.slice (Rd.int .i64)) false x10217, .lit (.int .i64 x10177)]))) [2, 4, 6] hnp ⟨rfl, ⟨⟨⟨trivial, .inr ⟨rfl, rfl, rfl⟩⟩, .inr ⟨rfl, rfl, rfl⟩⟩, .inr ⟨rfl, rfl, rfl⟩⟩, by decide, rfl, trivial⟩ (LeE.upd rfl rfl (LeE.upd rfl rfl (LeE.upd rfl rfl (LeE.upd rfl rfl (LeE.none rfl rfl)))))) rfl ?_
      refine W.now ?_
      have q0 := (Option.some.inj H)
      subst q0
      exact ⟨rfl, rfl, rfl⟩
  · rintro _ _ _ ⟨rfl, rfl, rfl⟩
    refine W.now ?_
    refine Then.n ?_
    refine WP.cond (t := x10224) rfl (fun hb10226 => ?_) (fun hb10226 => ?_)
    · replace H := cnt hb10226 H
      refine WP.seq ?_
      refine WP.region ?_
      refine WPL.q (q_build bu23 rfl) rfl ?_
      refine WPL.s (s_store sz23 rfl rfl rfl rfl rfl) ?_
      refine WPL.q (q_as (v := .lit (.int _ _)) rfl) rfl ?_
      refine WPL.nilW ?_
      refine W.now ?_
      refine Then.n ?_
      refine WP.retW ?_
      refine W.now ?_
      refine Then.r ?_
      have q0 := (Prod.mk.inj (Option.some.inj H)).1
      have q1 := (Prod.mk.inj (Prod.mk.inj (Option.some.inj H)).2).1
      have q2 := (Prod.mk.inj (Prod.mk.inj (Option.some.inj H)).2).2
      subst q0
      subst q1
      subst q2
      exact ⟨trivial, _, rfl, [0], (.tup [.agg [.lit (.int .i64 0), .lit (.int .i64 0)], .lit (.int .i64 1)]), (Mem.nil.push (.cells 23 [.lit (.int .i64 0), .lit (.int .i64 0)])), ⟨rfl, ⟨trivial, .inr ⟨rfl, rfl, rfl⟩⟩, by decide, rfl, trivial⟩, rfl, rfl, rfl, rfl⟩
    · replace H := cnf hb10226 H
      refine WP.skipW ?_
      refine W.now ?_
      refine Then.n ?_
      refine WP.seq ?_
      refine WP.regionD' 16 [1, 2] [] mixed rfl ?_
      refine WPD.takeT 0 rfl (by kernel_rfl) (q_fieldAddr fi53_0 rfl rfl) rfl ?_
      refine WPD.takeT 2 rfl (by kernel_rfl) (q_fieldAddr fi53_0 rfl rfl) rfl ?_
      refine WPD.takeT 5 rfl (by kernel_rfl) (q_fieldAddr fi53_1 rfl rfl) rfl ?_
      refine WPD.takeT 7 rfl (by kernel_rfl) (q_fieldAddr fi53_1 rfl rfl) rfl ?_
      refine WPD.take 1 rfl (by kernel_rfl) (q_load_ag ag51 rfl rfl (Nat.le_of_ble_eq_true rfl)) rfl rfl ?_
      refine WPD.take 3 rfl (by kernel_rfl) (q_load_ag ag51 rfl rfl (Nat.le_of_ble_eq_true rfl)) rfl rfl ?_
      refine WPD.take 6 rfl (by kernel_rfl) (q_load sc3 rfl rfl rfl) rfl rfl ?_
      refine WPD.take 8 rfl (by kernel_rfl) (q_load sc3 rfl rfl rfl) rfl rfl ?_
      refine WPD.takeT 9 rfl (by kernel_rfl) (q_add rfl rfl) rfl ?_
      obtain ⟨⟨x10236, x10237⟩, h10234, H⟩ := bnd H
      refine WPD.eff 4 [1, 2] [] rfl (by kernel_rfl) (runs_call (s := []) (t := [3]) (N := 4) (bor := []) fn44 rfl (s_quireref09_Times k (decide (x10174 < 0)) x10214 (decide (x10176 < 0)) x10217 x10236 x10237 h10234) ⟨rfl, trivial, by decide, rfl, trivial⟩ rfl trivial (.ren rfl rfl (.ren rfl rfl .nil)) rfl ⟨trivial, rfl⟩ rfl) rfl rfl ?_
      refine WPD.takeT 10 rfl (by kernel_rfl) (q_build bu53 rfl) rfl ?_
      obtain ⟨⟨x10239, x10240, x10241⟩, h10237, H⟩ := bnd H
      refine WPD.eff 11 [1, 2] [] rfl (by kernel_rfl) (runs_call (s := []) (t := [4]) (N := 5) (bor := []) fn35 rfl (s_quireref09_Tell k x10236 x10237 (IntKind.wrap .i64 (x10175 + x10177)) x10239 x10240 x10241 h10237) ⟨rfl, trivial, by decide, rfl, trivial⟩ rfl trivial (.ren rfl rfl .nil) rfl ⟨trivial, rfl⟩ rfl) rfl rfl ?_
      refine WPD.takeT 12 rfl (by kernel_rfl) (q_extract rfl rfl) rfl ?_
      refine WPD.takeT 13 rfl (by kernel_rfl) (q_extract rfl rfl) rfl ?_
      refine WPD.effS 14 [1, 2] [] rfl (by kernel_rfl) (s_store sz23 rfl rfl rfl rfl rfl) rfl ?_
      refine WPD.takeT 15 rfl (by kernel_rfl) (q_as (v := .lit (.int _ _)) rfl) rfl ?_
      refine WPD.doneW (by kernel_rfl) ?_
      refine W.now ?_
      refine Then.n ?_
      refine WP.retW ?_
      refine W.now ?_
      have q0 := (Prod.mk.inj (Option.some.inj H)).1
      have q1 := (Prod.mk.inj (Prod.mk.inj (Option.some.inj H)).2).1
      have q2 := (Prod.mk.inj (Prod.mk.inj (Option.some.inj H)).2).2
      subst q0
      subst q1
      subst q2
      exact ⟨trivial, _, rfl, [0], (.tup [.agg [.lit (.int .i64 x10240), .lit (.int .i64 x10241)], .lit (.int .i64 x10239)]), (Mem.nil.push (.cells 23 [.lit (.int .i64 x10240), .lit (.int .i64 x10241)])), ⟨rfl, ⟨trivial, .inr ⟨rfl, rfl, rfl⟩⟩, by decide, rfl, trivial⟩, rfl, rfl, rfl, rfl⟩
set_option maxRecDepth 100000 in
set_option maxHeartbeats 4000000 in
theorem s_quirelaw09_DecSums (k : Nat) (x9728 : Int) (x9729 : Int) (x9730 : Int) (x9731 : Int) (x10258 : Bool) (H : g_quirelaw09_DecSums k x9728 x9729 x9730 x9731 = some x10258) : Go.Q.Spec Try.prog 4 0 [.agg [.lit (.int .i64 x9728), .lit (.int .i64 x9729)], .agg [.lit (.int .i64 x9730), .lit (.int .i64 x9731)]] Mem.nil (fun o M => o = .ret (.lit (.bool x10258)) ∧ M = Mem.nil) := by
  unfold g_quirelaw09_DecSums at H
  refine Go.Q.Spec.of_bodyR (az := []) (rs := [.tmp 4]) (nt := 90) Try.func4 rfl rfl (by intro t T h; simp at h) rfl rfl fun cx hnp => ?_
  refine WP.seq ?_
  refine WP.region ?_
  refine WPL.d (d_box rfl rfl) rfl ?_
  refine WPL.d (d_box rfl rfl) rfl ?_
  refine WPL.q (q_as (v := .lit (.bool _)) rfl) rfl ?_
  refine WPL.nilW ?_
  refine W.now ?_
  refine Then.n ?_
  refine WP.seq ?_
  refine WP.region ?_
  refine WPL.q (q_load_ag ag23 rfl rfl (Nat.le_of_ble_eq_true rfl)) rfl ?_
  refine WPL.q (q_load_ag ag23 rfl rfl (Nat.le_of_ble_eq_true rfl)) rfl ?_
  obtain ⟨⟨x10260, x10261, x10262⟩, h10258, H⟩ := bnd H
  refine WPL.c (runs_call (s := []) (t := [2]) (N := 3) (bor := []) fn14 rfl (s_dec_Add k x9728 x9729 x9730 x9731 x10260 x10261 x10262 h10258) ⟨rfl, trivial, by decide, rfl, trivial⟩ rfl trivial (.ren rfl rfl (.ren rfl rfl .nil)) rfl ⟨trivial, rfl⟩ rfl) rfl ?_
  refine WPL.q (q_mv (v := .tup _) rfl) rfl ?_
  refine WPL.q (q_extract rfl rfl) rfl ?_
  refine WPL.q (q_extract rfl rfl) rfl ?_
  refine WPL.d (d_alloc ze23 rfl) rfl ?_
  refine WPL.s (s_store sz23 rfl rfl rfl rfl rfl) ?_
  refine WPL.q (q_as (v := .lit (.int _ _)) rfl) rfl ?_
  refine WPL.nilW ?_
  refine W.now ?_
  refine Then.n ?_
  refine WP.seq ?_
  refine WP.region ?_
  refine WPL.q (q_load_ag ag23 rfl rfl (Nat.le_of_ble_eq_true rfl)) rfl ?_
  refine WPL.q (q_load_ag ag23 rfl rfl (Nat.le_of_ble_eq_true rfl)) rfl ?_
  obtain ⟨⟨x10264, x10265, x10266⟩, h10262, H⟩ := bnd H
  refine WPL.c (runs_call (s := []) (t := [4]) (N := 5) (bor := []) fn15 rfl (s_quireref09_Add k x9728 x9729 x9730 x9731 x10264 x10265 x10266 h10262) ⟨rfl, trivial, by decide, rfl, trivial⟩ rfl trivial (.ren rfl rfl (.ren rfl rfl .nil)) rfl ⟨trivial, rfl⟩ rfl) rfl ?_
  refine WPL.q (q_mv (v := .tup _) rfl) rfl ?_
  refine WPL.q (q_extract rfl rfl) rfl ?_
  refine WPL.q (q_extract rfl rfl) rfl ?_
  refine WPL.d (d_alloc ze23 rfl) rfl ?_
  refine WPL.s (s_store sz23 rfl rfl rfl rfl rfl) ?_
  refine WPL.q (q_as (v := .lit (.int _ _)) rfl) rfl ?_
  refine WPL.nilW ?_
  refine W.now ?_
  refine Then.n ?_
  refine WP.seq ?_
  refine WP.seq ?_
  obtain ⟨x10276, H10278, H⟩ := bnd H
  refine WP.monoW (Q := fun x E M => x = .normal ∧ E = (((((Env.none.upd 2 (.ptr 0 0)).upd 3 (.ptr 1 0)).upd 5 (.ptr 2 0)).upd 7 (.ptr 3 0)).upd 28 (.lit (.bool x10276))) ∧ M = ((((Mem.nil.push (.cells 23 [.lit (.int .i64 x9728), .lit (.int .i64 x9729)])).push (.cells 23 [.lit (.int .i64 x9730), .lit (.int .i64 x9731)])).push (.cells 23 [.lit (.int .i64 x10261), .lit (.int .i64 x10262)])).push (.cells 23 [.lit (.int .i64 x10265), .lit (.int .i64 x10266)]))) ?_ ?_
  · clear H
    have H := H10278
    clear H10278
    refine WP.region ?_
    refine WPL.q (q_load_ag ag23 rfl rfl (Nat.le_of_ble_eq_true rfl)) rfl ?_
    refine WPL.q (q_load_ag ag23 rfl rfl (Nat.le_of_ble_eq_true rfl)) rfl ?_
    obtain ⟨x10277, h10277, H⟩ := bnd H
    refine WPL.q (q_nm (q_neqAg (xs := [(.int .i64 x10261), (.int .i64 x10262)]) (ys := [(.int .i64 x10265), (.int .i64 x10266)]) (n := 9) rfl eg23 rfl rfl eq23) (nm_bool h10277)) rfl ?_
    refine WPL.q (q_mv (v := .lit (.bool _)) rfl) rfl ?_
    refine WPL.split (t := 24) (b := x10277) rfl (fun hb10277 => ?_) (fun hb10277 => ?_)
    · replace H := cnt hb10277 H
      refine WPL.skipg (b' := true) rfl rfl (lb hb10277) rfl rfl ?_
      refine WPL.skipg (b' := true) rfl rfl (lb hb10277) rfl rfl ?_
      refine WPL.skipg (b' := true) rfl rfl (lb hb10277) rfl rfl ?_
      refine WPL.q (q_pickT (v := .lit (.bool _)) (lb hb10277) rfl) rfl ?_
      refine WPL.nilW ?_
      refine W.cv (Cv.weak (E' := (((((Env.none.upd 2 (.ptr 0 0)).upd 3 (.ptr 1 0)).upd 5 (.ptr 2 0)).upd 7 (.ptr 3 0)).upd 28 (.lit (.bool true)))) (M' := ((((Mem.nil.push (.cells 23 [.lit (.int .i64 x9728), .lit (.int .i64 x9729)])).push (.cells 23 [.lit (.int .i64 x9730), .lit (.int .i64 x9731)])).push (.cells 23 [.lit (.int .i64 x10261), .lit (.int .i64 x10262)])).push (.cells 23 [.lit (.int .i64 x10265), .lit (.int .i64 x10266)]))) [0, 1, 3, 5] hnp ⟨rfl, ⟨⟨⟨⟨trivial, .inr ⟨rfl, rfl, rfl⟩⟩, .inr ⟨rfl, rfl, rfl⟩⟩, .inr ⟨rfl, rfl, rfl⟩⟩, .inr ⟨rfl, rfl, rfl⟩⟩, by decide, rfl, trivial⟩ (LeE.upd rfl rfl (LeE.upd rfl rfl (LeE.upd rfl rfl (LeE.upd rfl rfl (LeE.upd rfl rfl (LeE.none rfl rfl))))))) rfl ?_
      refine W.now ?_
      have q0 := (Option.some.inj H)
      subst q0
      exact ⟨rfl, rfl, rfl⟩
    · replace H := cnf hb10277 H
      refine WPL.qg rfl rfl (lb hb10277) (q_mv (v := .lit (.int _ _)) rfl) rfl ?_
      refine WPL.qg rfl rfl (lb hb10277) (q_mv (v := .lit (.int _ _)) rfl) rfl ?_
      refine WPL.qg rfl rfl (lb hb10277) (q_neq rfl rfl) rfl ?_
      refine WPL.q (q_pickF (v := .lit (.bool _)) (lb hb10277) rfl) rfl ?_
      refine WPL.nilW ?_
      refine W.cv (Cv.weak (E' := (((((Env.none.upd 2 (.ptr 0 0)).upd 3 (.ptr 1 0)).upd 5 (.ptr 2 0)).upd 7 (.ptr 3 0)).upd 28 (.lit (.bool (!decide (x10260 = x10264)))))) (M' := ((((Mem.nil.push (.cells 23 [.lit (.int .i64 x9728), .lit (.int .i64 x9729)])).push (.cells 23 [.lit (.int .i64 x9730), .lit (.int .i64 x9731)])).push (.cells 23 [.lit (.int .i64 x10261), .lit (.int .i64 x10262)])).push (.cells 23 [.lit (.int .i64 x10265), .lit (.int .i64 x10266)]))) [0, 1, 3, 5] hnp ⟨rfl, ⟨⟨⟨⟨trivial, .inr ⟨rfl, rfl, rfl⟩⟩, .inr ⟨rfl, rfl, rfl⟩⟩, .inr ⟨rfl, rfl, rfl⟩⟩, .inr ⟨rfl, rfl, rfl⟩⟩, by decide, rfl, trivial⟩ (LeE.upd rfl rfl (LeE.upd rfl rfl (LeE.upd rfl rfl (LeE.upd rfl rfl (LeE.upd rfl rfl (LeE.none rfl rfl))))))) rfl ?_
      refine W.now ?_
      have q0 := (Option.some.inj H)
      subst q0
      exact ⟨rfl, rfl, rfl⟩
  · rintro _ _ _ ⟨rfl, rfl, rfl⟩
    refine W.now ?_
    refine Then.n ?_
    refine WP.cond (t := x10276) rfl (fun hb10279 => ?_) (fun hb10279 => ?_)
    · replace H := cnt hb10279 H
      refine WP.seq ?_
      refine WP.region ?_
      refine WPL.q (q_as (v := .lit (.bool _)) rfl) rfl ?_
      refine WPL.nilW ?_
      refine W.now ?_
      refine Then.n ?_
      refine WP.retW ?_
      refine W.now ?_
      refine Then.r ?_
      have q0 := (Option.some.inj H)
      subst q0
      exact ⟨trivial, _, rfl, [], (.lit (.bool false)), Mem.nil, ⟨rfl, trivial, by decide, rfl, trivial⟩, rfl, rfl, rfl, rfl⟩
    · replace H := cnf hb10279 H
      refine WP.skipW ?_
      refine W.now ?_
      refine Then.n ?_
      refine WP.seq ?_
      refine WP.region ?_
      refine WPL.q (q_load_ag ag23 rfl rfl (Nat.le_of_ble_eq_true rfl)) rfl ?_
      refine WPL.q (q_load_ag ag23 rfl rfl (Nat.le_of_ble_eq_true rfl)) rfl ?_
      obtain ⟨⟨x10282, x10283, x10284⟩, h10280, H⟩ := bnd H
      refine WPL.c (runs_call (s := []) (t := [4]) (N := 5) (bor := []) fn16 rfl (s_dec_Sub k x9728 x9729 x9730 x9731 x10282 x10283 x10284 h10280) ⟨rfl, trivial, by decide, rfl, trivial⟩ rfl trivial (.ren rfl rfl (.ren rfl rfl .nil)) rfl ⟨trivial, rfl⟩ rfl) rfl ?_
      refine WPL.q (q_mv (v := .tup _) rfl) rfl ?_
      refine WPL.q (q_extract rfl rfl) rfl ?_
      refine WPL.q (q_extract rfl rfl) rfl ?_
      refine WPL.s (s_store sz23 rfl rfl rfl rfl rfl) ?_
      refine WPL.q (q_as (v := .lit (.int _ _)) rfl) rfl ?_
      refine WPL.nilW ?_
      refine W.now ?_
      refine Then.n ?_
      refine WP.seq ?_
      refine WP.region ?_
      refine WPL.q (q_load_ag ag23 rfl rfl (Nat.le_of_ble_eq_true rfl)) rfl ?_
      refine WPL.q (q_load_ag ag23 rfl rfl (Nat.le_of_ble_eq_true rfl)) rfl ?_
      obtain ⟨⟨x10286, x10287, x10288⟩, h10284, H⟩ := bnd H
      refine WPL.c (runs_call (s := []) (t := [5]) (N := 6) (bor := []) fn17 rfl (s_quireref09_Sub k x9728 x9729 x9730 x9731 x10286 x10287 x10288 h10284) ⟨rfl, trivial, by decide, rfl, trivial⟩ rfl trivial (.ren rfl rfl (.ren rfl rfl .nil)) rfl ⟨trivial, rfl⟩ rfl) rfl ?_
      refine WPL.q (q_mv (v := .tup _) rfl) rfl ?_
      refine WPL.q (q_extract rfl rfl) rfl ?_
      refine WPL.q (q_extract rfl rfl) rfl ?_
      refine WPL.s (s_store sz23 rfl rfl rfl rfl rfl) ?_
      refine WPL.q (q_as (v := .lit (.int _ _)) rfl) rfl ?_
      refine WPL.nilW ?_
      refine W.now ?_
      refine Then.n ?_
      refine WP.seq ?_
      refine WP.seq ?_
      obtain ⟨x10298, H10300, H⟩ := bnd H
      refine WP.monoW (Q := fun x E M => x = .normal ∧ E = (((((Env.none.upd 2 (.ptr 0 0)).upd 3 (.ptr 1 0)).upd 5 (.ptr 2 0)).upd 7 (.ptr 3 0)).upd 48 (.lit (.bool x10298))) ∧ M = ((((Mem.nil.push (.cells 23 [.lit (.int .i64 x9728), .lit (.int .i64 x9729)])).push (.cells 23 [.lit (.int .i64 x9730), .lit (.int .i64 x9731)])).push (.cells 23 [.lit (.int .i64 x10283), .lit (.int .i64 x10284)])).push (.cells 23 [.lit (.int .i64 x10287), .lit (.int .i64 x10288)]))) ?_ ?_
      · clear H
        have H := H10300
        clear H10300
        refine WP.region ?_
        refine WPL.q (q_load_ag ag23 rfl rfl (Nat.le_of_ble_eq_true rfl)) rfl ?_
        refine WPL.q (q_load_ag ag23 rfl rfl (Nat.le_of_ble_eq_true rfl)) rfl ?_
        obtain ⟨x10299, h10299, H⟩ := bnd H
        refine WPL.q (q_nm (q_neqAg (xs := [(.int .i64 x10283), (.int .i64 x10284)]) (ys := [(.int .i64 x10287), (.int .i64 x10288)]) (n := 9) rfl eg23 rfl rfl eq23) (nm_bool h10299)) rfl ?_
        refine WPL.q (q_mv (v := .lit (.bool _)) rfl) rfl ?_
        refine WPL.split (t := 44) (b := x10299) rfl (fun hb10299 => ?_) (fun hb10299 => ?_)
        · replace H := cnt hb10299 H
          refine WPL.skipg (b' := true) rfl rfl (lb hb10299) rfl rfl ?_
          refine WPL.skipg (b' := true) rfl rfl (lb hb10299) rfl rfl ?_
          refine WPL.skipg (b' := true) rfl rfl (lb hb10299) rfl rfl ?_
          refine WPL.q (q_pickT (v := .lit (.bool _)) (lb hb10299) rfl) rfl ?_
          refine WPL.nilW ?_
          refine W.cv (Cv.weak (E' := (((((Env.none.upd 2 (.ptr 0 0)).upd 3 (.ptr 1 0)).upd 5 (.ptr 2 0)).upd 7 (.ptr 3 0)).upd 48 (.lit (.bool true)))) (M' := ((((Mem.nil.push (.cells 23 [.lit (.int .i64 x9728), .lit (.int .i64 x9729)])).push (.cells 23 [.lit (.int .i64 x9730), .lit (.int .i64 x9731)])).push (.cells 23 [.lit (.int .i64 x10283), .lit (.int .i64 x10284)])).push (.cells 23 [.lit (.int .i64 x10287), .lit (.int .i64 x10288)]))) [0, 1, 2, 3] hnp ⟨rfl, ⟨⟨⟨⟨trivial, .inr ⟨rfl, rfl, rfl⟩⟩, .inr ⟨rfl, rfl, rfl⟩⟩, .inr ⟨rfl, rfl, rfl⟩⟩, .inr ⟨rfl, rfl, rfl⟩⟩, by decide, rfl, trivial⟩ (LeE.upd rfl rfl (LeE.upd rfl rfl (LeE.upd rfl rfl (LeE.upd rfl rfl (LeE.upd rfl rfl (LeE.none rfl rfl))))))) rfl ?_
          refine W.now ?_
          have q0 := (Option.some.inj H)
          subst q0
          exact ⟨rfl, rfl, rfl⟩
        · replace H := cnf hb10299 H
          refine WPL.qg rfl rfl (lb hb10299) (q_mv (v := .lit (.int _ _)) rfl) rfl ?_
          refine WPL.qg rfl rfl (lb hb10299) (q_mv (v := .lit (.int _ _)) rfl) rfl ?_
          refine WPL.qg rfl rfl (lb hb10299) (q_neq rfl rfl) rfl ?_
          refine WPL.q (q_pickF (v := .lit (.bool _)) (lb hb10299) rfl) rfl ?_
          refine WPL.nilW ?_
          refine W.cv (Cv.weak (E' := (((((Env.none.upd 2 (.ptr 0 0)).upd 3 (.ptr 1 0)).upd 5 (.ptr 2 0)).upd 7 (.ptr 3 0)).upd 48 (.lit (.bool (!decide (x10282 = x10286)))))) (M' := ((((Mem.nil.push (.cells 23 [.lit (.int .i64 x9728), .lit (.int .i64 x9729)])).push (.cells 23 [.lit (.int .i64 x9730), .lit (.int .i64 x9731)])).push (.cells 23 [.lit (.int .i64 x10283), .lit (.int .i64 x10284)])).push (.cells 23 [.lit (.int .i64 x10287), .lit (.int .i64 x10288)]))) [0, 1, 2, 3] hnp ⟨rfl, ⟨⟨⟨⟨trivial, .inr ⟨rfl, rfl, rfl⟩⟩, .inr ⟨rfl, rfl, rfl⟩⟩, .inr ⟨rfl, rfl, rfl⟩⟩, .inr ⟨rfl, rfl, rfl⟩⟩, by decide, rfl, trivial⟩ (LeE.upd rfl rfl (LeE.upd rfl rfl (LeE.upd rfl rfl (LeE.upd rfl rfl (LeE.upd rfl rfl (LeE.none rfl rfl))))))) rfl ?_
          refine W.now ?_
          have q0 := (Option.some.inj H)
          subst q0
          exact ⟨rfl, rfl, rfl⟩
      · rintro _ _ _ ⟨rfl, rfl, rfl⟩
        refine W.now ?_
        refine Then.n ?_
        refine WP.cond (t := x10298) rfl (fun hb10301 => ?_) (fun hb10301 => ?_)
        · replace H := cnt hb10301 H
          refine WP.seq ?_
          refine WP.region ?_
          refine WPL.q (q_as (v := .lit (.bool _)) rfl) rfl ?_
          refine WPL.nilW ?_
          refine W.now ?_
          refine Then.n ?_
          refine WP.retW ?_
          refine W.now ?_
          refine Then.r ?_
          have q0 := (Option.some.inj H)
          subst q0
          exact ⟨trivial, _, rfl, [], (.lit (.bool false)), Mem.nil, ⟨rfl, trivial, by decide, rfl, trivial⟩, rfl, rfl, rfl, rfl⟩
        · replace H := cnf hb10301 H
          refine WP.skipW ?_
          refine W.now ?_
          refine Then.n ?_
          refine WP.seq ?_
          refine WP.region ?_
          refine WPL.q (q_load_ag ag23 rfl rfl (Nat.le_of_ble_eq_true rfl)) rfl ?_
          obtain ⟨⟨x10304, x10305, x10306⟩, h10302, H⟩ := bnd H
          refine WPL.c (runs_call (s := []) (t := [4]) (N := 5) (bor := []) fn18 rfl (s_dec_Neg k x9728 x9729 x10304 x10305 x10306 h10302) ⟨rfl, trivial, by decide, rfl, trivial⟩ rfl trivial (.ren rfl rfl .nil) rfl ⟨trivial, rfl⟩ rfl) rfl ?_
          refine WPL.q (q_mv (v := .tup _) rfl) rfl ?_
          refine WPL.q (q_extract rfl rfl) rfl ?_
          refine WPL.q (q_extract rfl rfl) rfl ?_
          refine WPL.s (s_store sz23 rfl rfl rfl rfl rfl) ?_
          refine WPL.q (q_as (v := .lit (.int _ _)) rfl) rfl ?_
          refine WPL.nilW ?_
          refine W.now ?_
          refine Then.n ?_
          refine WP.seq ?_
          refine WP.region ?_
          refine WPL.q (q_load_ag ag23 rfl rfl (Nat.le_of_ble_eq_true rfl)) rfl ?_
          obtain ⟨⟨x10308, x10309, x10310⟩, h10306, H⟩ := bnd H
          refine WPL.c (runs_call (s := []) (t := [5]) (N := 6) (bor := []) fn19 rfl (s_quireref09_Neg k x9728 x9729 x10308 x10309 x10310 h10306) ⟨rfl, trivial, by decide, rfl, trivial⟩ rfl trivial (.ren rfl rfl .nil) rfl ⟨trivial, rfl⟩ rfl) rfl ?_
          refine WPL.q (q_mv (v := .tup _) rfl) rfl ?_
          refine WPL.q (q_extract rfl rfl) rfl ?_
          refine WPL.q (q_extract rfl rfl) rfl ?_
          refine WPL.s (s_store sz23 rfl rfl rfl rfl rfl) ?_
          refine WPL.q (q_as (v := .lit (.int _ _)) rfl) rfl ?_
          refine WPL.nilW ?_
          refine W.now ?_
          refine Then.n ?_
          refine WP.seq ?_
          refine WP.seq ?_
          obtain ⟨x10320, H10322, H⟩ := bnd H
          refine WP.monoW (Q := fun x E M => x = .normal ∧ E = (((((Env.none.upd 2 (.ptr 0 0)).upd 3 (.ptr 1 0)).upd 5 (.ptr 2 0)).upd 7 (.ptr 3 0)).upd 66 (.lit (.bool x10320))) ∧ M = ((((Mem.nil.push (.cells 23 [.lit (.int .i64 x9728), .lit (.int .i64 x9729)])).push (.cells 23 [.lit (.int .i64 x9730), .lit (.int .i64 x9731)])).push (.cells 23 [.lit (.int .i64 x10305), .lit (.int .i64 x10306)])).push (.cells 23 [.lit (.int .i64 x10309), .lit (.int .i64 x10310)]))) ?_ ?_
          · clear H
            have H := H10322
            clear H10322
            refine WP.region ?_
            refine WPL.q (q_load_ag ag23 rfl rfl (Nat.le_of_ble_eq_true rfl)) rfl ?_
            refine WPL.q (q_load_ag ag23 rfl rfl (Nat.le_of_ble_eq_true rfl)) rfl ?_
            obtain ⟨x10321, h10321, H⟩ := bnd H
            refine WPL.q (q_nm (q_neqAg (xs := [(.int .i64 x10305), (.int .i64 x10306)]) (ys := [(.int .i64 x10309), (.int .i64 x10310)]) (n := 9) rfl eg23 rfl rfl eq23) (nm_bool h10321)) rfl ?_
            refine WPL.q (q_mv (v := .lit (.bool _)) rfl) rfl ?_
            refine WPL.split (t := 62) (b := x10321) rfl (fun hb10321 => ?_) (fun hb10321 => ?_)
            · replace H := cnt hb10321 H
              refine WPL.skipg (b' := true) rfl rfl (lb hb10321) rfl rfl ?_
              refine WPL.skipg (b' := true) rfl rfl (lb hb10321) rfl rfl ?_
              refine WPL.skipg (b' := true) rfl rfl (lb hb10321) rfl rfl ?_
              refine WPL.q (q_pickT (v := .lit (.bool _)) (lb hb10321) rfl) rfl ?_
              refine WPL.nilW ?_
              refine W.cv (Cv.weak (E' := (((((Env.none.upd 2 (.ptr 0 0)).upd 3 (.ptr 1 0)).upd 5 (.ptr 2 0)).upd 7 (.ptr 3 0)).upd 66 (.lit (.bool true)))) (M' := ((((Mem.nil.push (.cells 23 [.lit (.int .i64 x9728), .lit (.int .i64 x9729)])).push (.cells 23 [.lit (.int .i64 x9730), .lit (.int .i64 x9731)])).push (.cells 23 [.lit (.int .i64 x10305), .lit (.int .i64 x10306)])).push (.cells 23 [.lit (.int .i64 x10309), .lit (.int .i64 x10310)]))) [0, 1, 2, 3] hnp ⟨rfl, ⟨⟨⟨⟨trivial, .inr ⟨rfl, rfl, rfl⟩⟩, .inr ⟨rfl, rfl, rfl⟩⟩, .inr ⟨rfl, rfl, rfl⟩⟩, .inr ⟨rfl, rfl, rfl⟩⟩, by decide, rfl, trivial⟩ (LeE.upd rfl rfl (LeE.upd rfl rfl (LeE.upd rfl rfl (LeE.upd rfl rfl (LeE.upd rfl rfl (LeE.none rfl rfl))))))) rfl ?_
              refine W.now ?_
              have q0 := (Option.some.inj H)
              subst q0
              exact ⟨rfl, rfl, rfl⟩
            · replace H := cnf hb10321 H
              refine WPL.qg rfl rfl (lb hb10321) (q_mv (v := .lit (.int _ _)) rfl) rfl ?_
              refine WPL.qg rfl rfl (lb hb10321) (q_mv (v := .lit (.int _ _)) rfl) rfl ?_
              refine WPL.qg rfl rfl (lb hb10321) (q_neq rfl rfl) rfl ?_
              refine WPL.q (q_pickF (v := .lit (.bool _)) (lb hb10321) rfl) rfl ?_
              refine WPL.nilW ?_
              refine W.cv (Cv.weak (E' := (((((Env.none.upd 2 (.ptr 0 0)).upd 3 (.ptr 1 0)).upd 5 (.ptr 2 0)).upd 7 (.ptr 3 0)).upd 66 (.lit (.bool (!decide (x10304 = x10308)))))) (M' := ((((Mem.nil.push (.cells 23 [.lit (.int .i64 x9728), .lit (.int .i64 x9729)])).push (.cells 23 [.lit (.int .i64 x9730), .lit (.int .i64 x9731)])).push (.cells 23 [.lit (.int .i64 x10305), .lit (.int .i64 x10306)])).push (.cells 23 [.lit (.int .i64 x10309), .lit (.int .i64 x10310)]))) [0, 1, 2, 3] hnp ⟨rfl, ⟨⟨⟨⟨trivial, .inr ⟨rfl, rfl, rfl⟩⟩, .inr ⟨rfl, rfl, rfl⟩⟩, .inr ⟨rfl, rfl, rfl⟩⟩, .inr ⟨rfl, rfl, rfl⟩⟩, by decide, rfl, trivial⟩ (LeE.upd rfl rfl (LeE.upd rfl rfl (LeE.upd rfl rfl (LeE.upd rfl rfl (LeE.upd rfl rfl (LeE.none rfl rfl))))))) rfl ?_
              refine W.now ?_
              have q0 := (Option.some.inj H)
              subst q0
              exact ⟨rfl, rfl, rfl⟩
          · rintro _ _ _ ⟨rfl, rfl, rfl⟩
            refine W.now ?_
            refine Then.n ?_
            refine WP.cond (t := x10320) rfl (fun hb10323 => ?_) (fun hb10323 => ?_)
            · replace H := cnt hb10323 H
              refine WP.seq ?_
              refine WP.region ?_
              refine WPL.q (q_as (v := .lit (.bool _)) rfl) rfl ?_
              refine WPL.nilW ?_
              refine W.now ?_
              refine Then.n ?_
              refine WP.retW ?_
              refine W.now ?_
              refine Then.r ?_
              have q0 := (Option.some.inj H)
              subst q0
              exact ⟨trivial, _, rfl, [], (.lit (.bool false)), Mem.nil, ⟨rfl, trivial, by decide, rfl, trivial⟩, rfl, rfl, rfl, rfl⟩
            · replace H := cnf hb10323 H
              refine WP.skipW ?_
              refine W.now ?_
              refine Then.n ?_
              refine WP.seq ?_
              refine WP.region ?_
              refine WPL.q (q_load_ag ag23 rfl rfl (Nat.le_of_ble_eq_true rfl)) rfl ?_
              refine WPL.q (q_load_ag ag23 rfl rfl (Nat.le_of_ble_eq_true rfl)) rfl ?_
              obtain ⟨⟨x10326, x10327, x10328⟩, h10324, H⟩ := bnd H
              refine WPL.c (runs_call (s := []) (t := [4]) (N := 5) (bor := []) fn20 rfl (s_dec_Mul k x9728 x9729 x9730 x9731 x10326 x10327 x10328 h10324) ⟨rfl, trivial, by decide, rfl, trivial⟩ rfl trivial (.ren rfl rfl (.ren rfl rfl .nil)) rfl ⟨trivial, rfl⟩ rfl) rfl ?_
              refine WPL.q (q_mv (v := .tup _) rfl) rfl ?_
              refine WPL.q (q_extract rfl rfl) rfl ?_
              refine WPL.q (q_extract rfl rfl) rfl ?_
              refine WPL.s (s_store sz23 rfl rfl rfl rfl rfl) ?_
              refine WPL.q (q_as (v := .lit (.int _ _)) rfl) rfl ?_
              refine WPL.nilW ?_
              refine W.now ?_
              refine Then.n ?_
              refine WP.seq ?_
              refine WP.region ?_
              refine WPL.q (q_load_ag ag23 rfl rfl (Nat.le_of_ble_eq_true rfl)) rfl ?_
              refine WPL.q (q_load_ag ag23 rfl rfl (Nat.le_of_ble_eq_true rfl)) rfl ?_
              obtain ⟨⟨x10330, x10331, x10332⟩, h10328, H⟩ := bnd H
              refine WPL.c (runs_call (s := []) (t := [5]) (N := 6) (bor := []) fn21 rfl (s_quireref09_Mul k x9728 x9729 x9730 x9731 x10330 x10331 x10332 h10328) ⟨rfl, trivial, by decide, rfl, trivial⟩ rfl trivial (.ren rfl rfl (.ren rfl rfl .nil)) rfl ⟨trivial, rfl⟩ rfl) rfl ?_
              refine WPL.q (q_mv (v := .tup _) rfl) rfl ?_
              refine WPL.q (q_extract rfl rfl) rfl ?_
              refine WPL.q (q_extract rfl rfl) rfl ?_
              refine WPL.s (s_store sz23 rfl rfl rfl rfl rfl) ?_
              refine WPL.q (q_as (v := .lit (.int _ _)) rfl) rfl ?_
              refine WPL.nilW ?_
              refine W.now ?_
              refine Then.n ?_
              refine WP.seq ?_
              obtain ⟨x10338, H10343, H⟩ := bnd H
              refine WP.monoW (Q := fun x E M => x = .normal ∧ E = (Env.none.upd 4 (.lit (.bool x10338))) ∧ M = Mem.nil) ?_ ?_
              · clear H
                have H := H10343
                clear H10343
                refine WP.region ?_
                refine WPL.q (q_load_ag ag23 rfl rfl (Nat.le_of_ble_eq_true rfl)) rfl ?_
                refine WPL.q (q_load_ag ag23 rfl rfl (Nat.le_of_ble_eq_true rfl)) rfl ?_
                obtain ⟨x10339, h10339, H⟩ := bnd H
                refine WPL.q (q_nm (q_eqlAg (xs := [(.int .i64 x10327), (.int .i64 x10328)]) (ys := [(.int .i64 x10331), (.int .i64 x10332)]) (n := 9) rfl eg23 rfl rfl eq23) (nm_bool h10339)) rfl ?_
                refine WPL.q (q_mv (v := .lit (.bool _)) rfl) rfl ?_
                refine WPL.split (t := 82) (b := x10339) rfl (fun hb10339 => ?_) (fun hb10339 => ?_)
                · replace H := cnt hb10339 H
                  refine WPL.qg rfl rfl (lb hb10339) (q_mv (v := .lit (.int _ _)) rfl) rfl ?_
                  refine WPL.qg rfl rfl (lb hb10339) (q_mv (v := .lit (.int _ _)) rfl) rfl ?_
                  refine WPL.qg rfl rfl (lb hb10339) (q_eql rfl rfl) rfl ?_
                  refine WPL.q (q_pickT (v := .lit (.bool _)) (lb hb10339) rfl) rfl ?_
                  refine WPL.q (q_mv (v := .lit (.bool _)) rfl) rfl ?_
                  refine WPL.split (t := 87) (b := (decide (x10326 = x10330))) rfl (fun hb10340 => ?_) (fun hb10340 => ?_)
                  · replace H := cnt hb10340 H
                    obtain ⟨x10343, h10341, H⟩ := bnd H
                    refine WPL.cg rfl rfl (lb hb10340) (runs_call (s := []) (t := []) (N := 6) (bor := []) fn13 rfl (s_quirelaw09_alive k x10343 h10341) ⟨rfl, trivial, by decide, rfl, trivial⟩ rfl trivial .nil rfl trivial rfl) rfl ?_
                    refine WPL.q (q_pickT (v := .lit (.bool _)) (lb hb10340) rfl) rfl ?_
                    refine WPL.q (q_as (v := .lit (.bool _)) rfl) rfl ?_
                    refine WPL.nilW ?_
                    refine W.cv (Cv.weak (E' := (Env.none.upd 4 (.lit (.bool x10343)))) (M' := Mem.nil) [] hnp ⟨rfl, trivial, by decide, rfl, trivial⟩ (LeE.upd rfl rfl (LeE.none rfl rfl))) rfl ?_
                    refine W.now ?_
                    have q0 := (Option.some.inj H)
                    subst q0
                    exact ⟨rfl, rfl, rfl⟩
                  · replace H := cnf hb10340 H
                    refine WPL.skipg (b' := false) rfl rfl (lb hb10340) rfl rfl ?_
                    refine WPL.q (q_pickF (v := .lit (.bool _)) (lb hb10340) rfl) rfl ?_
                    refine WPL.q (q_as (v := .lit (.bool _)) rfl) rfl ?_
                    refine WPL.nilW ?_
                    refine W.cv (Cv.weak (E' := (Env.none.upd 4 (.lit (.bool false)))) (M' := Mem.nil) [] hnp ⟨rfl, trivial, by decide, rfl, trivial⟩ (LeE.upd rfl rfl (LeE.none rfl rfl))) rfl ?_
                    refine W.now ?_
                    have q0 := (Option.some.inj H)
                    subst q0
                    exact ⟨rfl, rfl, rfl⟩
                · replace H := cnf hb10339 H
                  refine WPL.skipg (b' := false) rfl rfl (lb hb10339) rfl rfl ?_
                  refine WPL.skipg (b' := false) rfl rfl (lb hb10339) rfl rfl ?_
                  refine WPL.skipg (b' := false) rfl rfl (lb hb10339) rfl rfl ?_
                  refine WPL.q (q_pickF (v := .lit (.bool _)) (lb hb10339) rfl) rfl ?_
                  refine WPL.q (q_mv (v := .lit (.bool _)) rfl) rfl ?_
                  refine WPL.skipg (b' := false) rfl rfl rfl rfl rfl ?_
                  refine WPL.q (q_pickF (v := .lit (.bool _)) rfl rfl) rfl ?_
                  refine WPL.q (q_as (v := .lit (.bool _)) rfl) rfl ?_
                  refine WPL.nilW ?_
                  refine W.cv (Cv.weak (E' := (Env.none.upd 4 (.lit (.bool false)))) (M' := Mem.nil) [] hnp ⟨rfl, trivial, by decide, rfl, trivial⟩ (LeE.upd rfl rfl (LeE.none rfl rfl))) rfl ?_
                  refine W.now ?_
                  have q0 := (Option.some.inj H)
                  subst q0
                  exact ⟨rfl, rfl, rfl⟩
              · rintro _ _ _ ⟨rfl, rfl, rfl⟩
                refine W.now ?_
                refine Then.n ?_
                refine WP.retW ?_
                refine W.now ?_
                have q0 := (Option.some.inj H)
                subst q0
                exact ⟨trivial, _, rfl, [], (.lit (.bool x10338)), Mem.nil, ⟨rfl, trivial, by decide, rfl, trivial⟩, rfl, rfl, rfl, rfl⟩
end Go.Proofs.Ytdbeblgfccjbgaa.W
