/- Texts joined: part 5 of what LDecSums stands on. -/
import Derived.Test.YtdbeblgfccjbgaaSDecSumsd
namespace Go.Proofs.Ytdbeblgfccjbgaa.W
open Go Go.Q Go.Proofs
set_option linter.unusedVariables false
set_option linter.unusedSimpArgs false
set_option maxRecDepth 100000 in
set_option maxHeartbeats 4000000 in
theorem s_quireref09_trim (k : Nat) (x1501 : Bool) (x1502 : (List Int)) (x1550 : Bool) (x1551 : (List Int)) (H : g_quireref09_trim k x1501 x1502 = some (x1550, x1551)) : Go.Q.Spec Try.prog 36 0 [.agg [.lit (.bool x1501), .whole 0]] (Mem.nil.push (.row 3 (Rd.int .i64) x1502)) (fun o M => o = .ret (.agg [.lit (.bool x1550), .ro (Rd.slice (Rd.int .i64)) false x1551]) ∧ M = (Mem.nil.push (.cells 51 [.lit (.bool x1550), .ro (Rd.slice (Rd.int .i64)) false x1551]))) := by
  unfold g_quireref09_trim at H
  refine Go.Q.Spec.of_bodyR (az := [(51, 2)]) (rs := [.cell 2 51]) (nt := 32) Try.func36 rfl rfl (by intro t T h; simp at h; rcases h with ⟨rfl, rfl⟩ <;> first | exact ag51) rfl rfl fun cx hnp => ?_
  refine WP.seq ?_
  refine WP.region ?_
  refine WPL.d (d_box rfl rfl) rfl ?_
  refine WPL.d (d_alloc ze51 rfl) rfl ?_
  refine WPL.nilW ?_
  refine W.now ?_
  refine Then.n ?_
  refine WP.seq ?_
  refine WP.region ?_
  refine WPL.q (q_fieldAddr fi51_1 rfl rfl) rfl ?_
  refine WPL.q (q_load sc49 rfl rfl rfl) rfl ?_
  refine WPL.q (q_len_row sl49 rfl rfl) rfl ?_
  refine WPL.q (q_as (v := .lit (.int _ _)) rfl) rfl ?_
  refine WPL.nilW ?_
  refine W.now ?_
  refine Then.n ?_
  refine WP.seq ?_
  refine WP.block ?_
  refine WP.cv (Cv.weak (E' := (((Env.none.upd 1 (.ptr 0 0)).upd 2 (.ptr 2 0)).upd 3 (.lit (.int .i64 ((List.length x1502 : Nat) : Int))))) (M' := (((Mem.nil.push (.cells 51 [.lit (.bool x1501), .whole 1])).push (.row 3 (Rd.int .i64) x1502)).push (.cells 51 [.lit (.bool false), .lit (.slice none 0 0)]))) [1, 0, 2] hnp ⟨rfl, ⟨⟨⟨trivial, .inr ⟨rfl, rfl, rfl⟩⟩, .inr ⟨rfl, rfl, rfl⟩⟩, .inr ⟨rfl, rfl, rfl⟩⟩, by decide, rfl, trivial⟩ (LeE.upd rfl rfl (LeE.upd rfl rfl (LeE.upd rfl rfl (LeE.none rfl rfl))))) ?_
  obtain ⟨x1590, H1604, H⟩ := bnd H
  refine WP.monoW (Q := fun x E M => x = .exit 0 ∧ E = (((Env.none.upd 1 (.ptr 0 0)).upd 2 (.ptr 2 0)).upd 3 (.lit (.int .i64 x1590))) ∧ M = (((Mem.nil.push (.cells 51 [.lit (.bool x1501), .whole 1])).push (.row 3 (Rd.int .i64) x1502)).push (.cells 51 [.lit (.bool false), .lit (.slice none 0 0)]))) ?_ ?_
  · refine WP.loop (β := Int) (fun n b => g_quireref09_trim_l0 k x1502 n b = some x1590) (fun b => (((Env.none.upd 1 (.ptr 0 0)).upd 2 (.ptr 2 0)).upd 3 (.lit (.int .i64 b)))) (fun b => (((Mem.nil.push (.cells 51 [.lit (.bool x1501), .whole 1])).push (.row 3 (Rd.int .i64) x1502)).push (.cells 51 [.lit (.bool false), .lit (.slice none 0 0)]))) k ((List.length x1502 : Nat) : Int) H1604 rfl rfl ?_
    rintro n x1575 H
    obtain _ | n := n
    · exact nf rfl H
    rw [g_quireref09_trim_l0.eq_2] at H
    show WP _ _ _ _ (((Env.none.upd 1 (.ptr 0 0)).upd 2 (.ptr 2 0)).upd 3 (.lit (.int .i64 x1575))) (((Mem.nil.push (.cells 51 [.lit (.bool x1501), .whole 1])).push (.row 3 (Rd.int .i64) x1502)).push (.cells 51 [.lit (.bool false), .lit (.slice none 0 0)])) _
    refine WP.seq ?_
    refine WP.seq ?_
    obtain ⟨x1600, H1602, H⟩ := bnd H
    refine WP.monoW (Q := fun x E M => x = .normal ∧ E = ((((Env.none.upd 1 (.ptr 0 0)).upd 2 (.ptr 2 0)).upd 3 (.lit (.int .i64 x1575))).upd 17 (.lit (.bool x1600))) ∧ M = (((Mem.nil.push (.cells 51 [.lit (.bool x1501), .whole 1])).push (.row 3 (Rd.int .i64) x1502)).push (.cells 51 [.lit (.bool false), .lit (.slice none 0 0)]))) ?_ ?_
    · clear H
      have H := H1602
      clear H1602
      refine WP.region ?_
      refine WPL.q (q_mv (v := .lit (.int _ _)) rfl) rfl ?_
      refine WPL.q (q_gtr rfl rfl) rfl ?_
      refine WPL.q (q_mv (v := .lit (.bool _)) rfl) rfl ?_
      refine WPL.split (t := 9) (b := (decide (0 < x1575))) rfl (fun hb1600 => ?_) (fun hb1600 => ?_)
      · replace H := cnt hb1600 H
        refine WPL.qg rfl rfl (lb hb1600) (q_fieldAddr fi51_1 rfl rfl) rfl ?_
        refine WPL.qg rfl rfl (lb hb1600) (q_load sc49 rfl rfl rfl) rfl ?_
        refine WPL.qg rfl rfl (lb hb1600) (q_mv (v := .lit (.int _ _)) rfl) rfl ?_
        refine WPL.qg rfl rfl (lb hb1600) (q_sub rfl rfl) rfl ?_
        obtain ⟨x1602, h1602, H⟩ := bnd H
        refine WPL.qg rfl rfl (lb hb1600) (q_index_row sl49 rfl rfl rfl (ixs h1602)) rfl ?_
        refine WPL.qg rfl rfl (lb hb1600) (q_load_row (j := (Int.toNat (IntKind.wrap .i64 (x1575 - 1)))) sc3 rfl rfl (ixj h1602)) rfl ?_
        refine WPL.qg rfl rfl (lb hb1600) (q_eql rfl rfl) rfl ?_
        refine WPL.q (q_pickT (v := .lit (.bool _)) (lb hb1600) rfl) rfl ?_
        refine WPL.nilW ?_
        refine W.cv (Cv.weak (E' := ((((Env.none.upd 1 (.ptr 0 0)).upd 2 (.ptr 2 0)).upd 3 (.lit (.int .i64 x1575))).upd 17 (.lit (.bool (decide (x1602 = 0)))))) (M' := (((Mem.nil.push (.cells 51 [.lit (.bool x1501), .whole 1])).push (.row 3 (Rd.int .i64) x1502)).push (.cells 51 [.lit (.bool false), .lit (.slice none 0 0)]))) [0, 1, 2] hnp ⟨rfl, ⟨⟨⟨trivial, .inr ⟨rfl, rfl, rfl⟩⟩, .inr ⟨rfl, rfl, rfl⟩⟩, .inr ⟨rfl, rfl, rfl⟩⟩, by decide, rfl, trivial⟩ (LeE.upd rfl rfl (LeE.upd rfl rfl (LeE.upd rfl rfl (LeE.upd rfl rfl (LeE.none rfl rfl)))))) rfl ?_
        refine W.now ?_
        have q0 := (Option.some.inj H)
        subst q0
        exact ⟨rfl, rfl, rfl⟩
      · replace H := cnf hb1600 H
        refine WPL.skipg (b' := false) rfl rfl (lb hb1600) rfl rfl ?_
        refine WPL.skipg (b' := false) rfl rfl (lb hb1600) rfl rfl ?_
        refine WPL.skipg (b' := false) rfl rfl (lb hb1600) rfl rfl ?_
        refine WPL.skipg (b' := false) rfl rfl (lb hb1600) rfl rfl ?_
        refine WPL.skipg (b' := false) rfl rfl (lb hb1600) rfl rfl ?_
        refine WPL.skipg (b' := false) rfl rfl (lb hb1600) rfl rfl ?_
        refine WPL.skipg (b' := false) rfl rfl (lb hb1600) rfl rfl ?_
        refine WPL.q (q_pickF (v := .lit (.bool _)) (lb hb1600) rfl) rfl ?_
        refine WPL.nilW ?_
        refine W.cv (Cv.weak (E' := ((((Env.none.upd 1 (.ptr 0 0)).upd 2 (.ptr 2 0)).upd 3 (.lit (.int .i64 x1575))).upd 17 (.lit (.bool false)))) (M' := (((Mem.nil.push (.cells 51 [.lit (.bool x1501), .whole 1])).push (.row 3 (Rd.int .i64) x1502)).push (.cells 51 [.lit (.bool false), .lit (.slice none 0 0)]))) [0, 1, 2] hnp ⟨rfl, ⟨⟨⟨trivial, .inr ⟨rfl, rfl, rfl⟩⟩, .inr ⟨rfl, rfl, rfl⟩⟩, .inr ⟨rfl, rfl, rfl⟩⟩, by decide, rfl, trivial⟩ (LeE.upd rfl rfl (LeE.upd rfl rfl (LeE.upd rfl rfl (LeE.upd rfl rfl (LeE.none rfl rfl)))))) rfl ?_
        refine W.now ?_
        have q0 := (Option.some.inj H)
        subst q0
        exact ⟨rfl, rfl, rfl⟩
    · rintro _ _ _ ⟨rfl, rfl, rfl⟩
      refine W.now ?_
      refine Then.n ?_
      refine WP.cond (t := x1600) rfl (fun hb1603 => ?_) (fun hb1603 => ?_)
      · replace H := cnt hb1603 H
        refine WP.skipW ?_
        refine W.now ?_
        refine Then.n ?_
        refine WP.block ?_
        refine WP.region ?_
        refine WPL.q (q_mv (v := .lit (.int _ _)) rfl) rfl ?_
        refine WPL.q (q_sub rfl rfl) rfl ?_
        refine WPL.q (q_as (v := .lit (.int _ _)) rfl) rfl ?_
        refine WPL.nilW ?_
        refine W.cv (Cv.weak (E' := (((Env.none.upd 1 (.ptr 0 0)).upd 2 (.ptr 2 0)).upd 3 (.lit (.int .i64 (IntKind.wrap .i64 (x1575 - 1)))))) (M' := (((Mem.nil.push (.cells 51 [.lit (.bool x1501), .whole 1])).push (.row 3 (Rd.int .i64) x1502)).push (.cells 51 [.lit (.bool false), .lit (.slice none 0 0)]))) [0, 1, 2] hnp ⟨rfl, ⟨⟨⟨trivial, .inr ⟨rfl, rfl, rfl⟩⟩, .inr ⟨rfl, rfl, rfl⟩⟩, .inr ⟨rfl, rfl, rfl⟩⟩, by decide, rfl, trivial⟩ (LeE.upd rfl rfl (LeE.upd rfl rfl (LeE.upd rfl rfl (LeE.none rfl rfl))))) rfl ?_
        refine W.now ?_
        refine InBlock.n ?_
        exact Then.n ⟨n, (IntKind.wrap .i64 (x1575 - 1)), Nat.lt_succ_self n, H, rfl, rfl⟩
      · replace H := cnf hb1603 H
        refine WP.exitW ?_
        refine W.cv (Cv.weak (E' := (((Env.none.upd 1 (.ptr 0 0)).upd 2 (.ptr 2 0)).upd 3 (.lit (.int .i64 x1575)))) (M' := (((Mem.nil.push (.cells 51 [.lit (.bool x1501), .whole 1])).push (.row 3 (Rd.int .i64) x1502)).push (.cells 51 [.lit (.bool false), .lit (.slice none 0 0)]))) [0, 1, 2] hnp ⟨rfl, ⟨⟨⟨trivial, .inr ⟨rfl, rfl, rfl⟩⟩, .inr ⟨rfl, rfl, rfl⟩⟩, .inr ⟨rfl, rfl, rfl⟩⟩, by decide, rfl, trivial⟩ (LeE.upd rfl rfl (LeE.upd rfl rfl (LeE.upd rfl rfl (LeE.none rfl rfl))))) rfl ?_
        refine W.now ?_
        refine Then.x ?_
        refine Then.x ?_
        have q0 := (Option.some.inj H)
        subst q0
        exact ⟨rfl, rfl, rfl⟩
  · rintro _ _ _ ⟨rfl, rfl, rfl⟩
    refine W.now ?_
    refine InBlock.x0 ?_
    refine Then.n ?_
    refine WP.seq ?_
    refine WP.seq ?_
    refine WP.region ?_
    refine WPL.q (q_mv (v := .lit (.int _ _)) rfl) rfl ?_
    refine WPL.q (q_eql rfl rfl) rfl ?_
    refine WPL.nilW ?_
    refine W.now ?_
    refine Then.n ?_
    refine WP.cond (t := (decide (x1590 = 0))) rfl (fun hb1606 => ?_) (fun hb1606 => ?_)
    · replace H := cnt hb1606 H
      refine WP.seq ?_
      refine WP.region ?_
      refine WPL.q (q_build bu51 rfl) rfl ?_
      refine WPL.s (s_store sz51 rfl rfl rfl rfl rfl) ?_
      refine WPL.nilW ?_
      refine W.now ?_
      refine Then.n ?_
      refine WP.retW ?_
      refine W.cv (Cv.nilRoC (Rd.int .i64) false (i := 2) (off := 1) rfl rfl rfl) rfl ?_
      refine W.now ?_
      refine Then.r ?_
      have q0 := (Prod.mk.inj (Option.some.inj H)).1
      have q1 := (Prod.mk.inj (Option.some.inj H)).2
      subst q0
      subst q1
      exact ⟨trivial, _, rfl, [2], (.agg [.lit (.bool false), .ro (Rd.slice (Rd.int .i64)) false ([] : List Int)]), (Mem.nil.push (.cells 51 [.lit (.bool false), .ro (Rd.slice (Rd.int .i64)) false ([] : List Int)])), ⟨rfl, ⟨trivial, .inr ⟨rfl, rfl, rfl⟩⟩, by decide, rfl, trivial⟩, rfl, rfl, rfl, rfl⟩
    · replace H := cnf hb1606 H
      refine WP.skipW ?_
      refine W.now ?_
      refine Then.n ?_
      refine WP.seq ?_
      refine WP.regionD' 10 [0] [] mixed rfl ?_
      refine WPD.takeT 0 rfl (by kernel_rfl) (q_fieldAddr fi51_0 rfl rfl) rfl ?_
      refine WPD.takeT 3 rfl (by kernel_rfl) (q_fieldAddr fi51_1 rfl rfl) rfl ?_
      refine WPD.takeT 5 rfl (by kernel_rfl) (q_mv (v := .lit (.int _ _)) rfl) rfl ?_
      refine WPD.take 1 rfl (by kernel_rfl) (q_load sc4 rfl rfl rfl) rfl rfl ?_
      refine WPD.take 4 rfl (by kernel_rfl) (q_load sc49 rfl rfl rfl) rfl rfl ?_
      obtain ⟨h1609, H⟩ := grd H
      refine WPD.cvL (CvL.frzRow (i := 1) rfl rfl hnp rfl rfl) rfl ?_
      refine WPD.takeT 6 rfl (by kernel_rfl) (q_slice_ro (i := 0) (j := x1590) sl49 rfl rfl rfl ⟨_, rfl⟩ h1609) rfl ?_
      refine WPD.eff 2 [0] [] rfl (by kernel_rfl) (Does.runs (d_buildSlice (ds := ([] : List Int)) (R := (Rd.int .i64)) li49 rfl rfl rfl rfl rfl JoinRows.nil rfl rfl)) rfl rfl ?_
      obtain ⟨h1610, H⟩ := grd H
      refine WPD.eff 7 [0] [] rfl (by kernel_rfl) (Does.runs (d_append ap49 rfl rfl rfl rfl (src_ro sl49 rfl) h1610 rfl)) rfl rfl ?_
      refine WPD.takeT 8 rfl (by kernel_rfl) (q_build bu51 rfl) rfl ?_
      refine WPD.effS 9 [0] [] rfl (by kernel_rfl) (s_store sz51 rfl rfl rfl rfl rfl) rfl ?_
      refine WPD.doneW (by kernel_rfl) ?_
      refine W.now ?_
      refine Then.n ?_
      refine WP.retW ?_
      refine W.cv (Cv.frzRow (i := 4) rfl rfl hnp rfl rfl) rfl ?_
      refine W.now ?_
      have q0 := (Prod.mk.inj (Option.some.inj H)).1
      have q1 := (Prod.mk.inj (Option.some.inj H)).2
      subst q0
      subst q1
      exact ⟨trivial, _, rfl, [2], (.agg [.lit (.bool x1501), .ro (Rd.slice (Rd.int .i64)) false (([] : List Int) ++ (List.drop (Int.toNat 0) (List.take (Int.toNat x1590) x1502)))]), (Mem.nil.push (.cells 51 [.lit (.bool x1501), .ro (Rd.slice (Rd.int .i64)) false (([] : List Int) ++ (List.drop (Int.toNat 0) (List.take (Int.toNat x1590) x1502)))])), ⟨rfl, ⟨trivial, .inr ⟨rfl, rfl, rfl⟩⟩, by decide, rfl, trivial⟩, rfl, rfl, rfl, rfl⟩
set_option maxRecDepth 100000 in
set_option maxHeartbeats 4000000 in
theorem s_quireref09_Shift (k : Nat) (x1495 : Bool) (x1496 : (List Int)) (x1497 : Int) (x1620 : Bool) (x1621 : (List Int)) (H : g_quireref09_Shift k x1495 x1496 x1497 = some (x1620, x1621)) : Go.Q.Spec Try.prog 34 0 [.agg [.lit (.bool x1495), .ro (Rd.slice (Rd.int .i64)) false x1496], .lit (.int .i64 x1497)] Mem.nil (fun o M => o = .ret (.agg [.lit (.bool x1620), .ro (Rd.slice (Rd.int .i64)) false x1621]) ∧ M = (Mem.nil.push (.cells 51 [.lit (.bool x1620), .ro (Rd.slice (Rd.int .i64)) false x1621]))) := by
  unfold g_quireref09_Shift at H
  refine Go.Q.Spec.of_bodyR (az := [(51, 2)]) (rs := [.cell 4 51]) (nt := 14) Try.func34 rfl rfl (by intro t T h; simp at h; rcases h with ⟨rfl, rfl⟩ <;> first | exact ag51) rfl rfl fun cx hnp => ?_
  refine WP.seq ?_
  refine WP.region ?_
  refine WPL.d (d_box rfl rfl) rfl ?_
  refine WPL.d (d_alloc ze51 rfl) rfl ?_
  refine WPL.nilW ?_
  refine W.now ?_
  refine Then.n ?_
  refine WP.seq ?_
  refine WP.regionD' 10 [0] [] mixed rfl ?_
  refine WPD.takeT 0 rfl (by kernel_rfl) (q_fieldAddr fi51_0 rfl rfl) rfl ?_
  refine WPD.takeT 2 rfl (by kernel_rfl) (q_mv (v := .lit (.int _ _)) rfl) rfl ?_
  refine WPD.takeT 4 rfl (by kernel_rfl) (q_fieldAddr fi51_1 rfl rfl) rfl ?_
  refine WPD.take 1 rfl (by kernel_rfl) (q_load sc4 rfl rfl rfl) rfl rfl ?_
  refine WPD.take 5 rfl (by kernel_rfl) (q_load sc49 rfl rfl rfl) rfl rfl ?_
  obtain ⟨h1626, H⟩ := grd H
  refine WPD.eff 3 [0] [] rfl (by kernel_rfl) (Does.runs (d_make (d := (0 : Int)) (R := (Rd.int .i64)) li49 by3 rfl rfl rfl Joins.sc rfl rfl h1626 rfl)) rfl rfl ?_
  obtain ⟨h1627, H⟩ := grd H
  refine WPD.eff 6 [0] [] rfl (by kernel_rfl) (Does.runs (d_append ap49 rfl rfl rfl rfl (src_ro sl49 rfl) h1627 rfl)) rfl rfl ?_
  refine WPD.takeT 7 rfl (by kernel_rfl) (q_build bu51 rfl) rfl ?_
  obtain ⟨⟨x1630, x1631⟩, h1628, H⟩ := bnd H
  refine WPD.eff 8 [0] [] rfl (by kernel_rfl) (runs_call (s := [3]) (t := [4]) (N := 5) (bor := []) fn36 rfl (s_quireref09_trim k x1495 ((List.replicate (Int.toNat x1497) (0 : Int)) ++ x1496) x1630 x1631 h1628) ⟨rfl, ⟨trivial, .inr ⟨rfl, rfl, rfl⟩⟩, by decide, rfl, trivial⟩ rfl trivial (.ren rfl rfl .nil) rfl ⟨trivial, rfl⟩ rfl) rfl rfl ?_
  refine WPD.effS 9 [0] [] rfl (by kernel_rfl) (s_store sz51 rfl rfl rfl rfl rfl) rfl ?_
  refine WPD.doneW (by kernel_rfl) ?_
  refine W.now ?_
  refine Then.n ?_
  refine WP.retW ?_
  refine W.now ?_
  have q0 := (Prod.mk.inj (Option.some.inj H)).1
  have q1 := (Prod.mk.inj (Option.some.inj H)).2
  subst q0
  subst q1
  exact ⟨trivial, _, rfl, [1], (.agg [.lit (.bool x1630), .ro (Rd.slice (Rd.int .i64)) false x1631]), (Mem.nil.push (.cells 51 [.lit (.bool x1630), .ro (Rd.slice (Rd.int .i64)) false x1631])), ⟨rfl, ⟨trivial, .inr ⟨rfl, rfl, rfl⟩⟩, by decide, rfl, trivial⟩, rfl, rfl, rfl, rfl⟩
set_option maxRecDepth 100000 in
set_option maxHeartbeats 4000000 in
theorem s_quireref09_at (k : Nat) (x1704 : Bool) (x1705 : (List Int)) (x1706 : Int) (x1724 : Int) (H : g_quireref09_at k x1704 x1705 x1706 = some x1724) : Go.Q.Spec Try.prog 68 0 [.agg [.lit (.bool x1704), .ro (Rd.slice (Rd.int .i64)) false x1705], .lit (.int .i64 x1706)] Mem.nil (fun o M => o = .ret (.lit (.int .i64 x1724)) ∧ M = Mem.nil) := by
  unfold g_quireref09_at at H
  refine Go.Q.Spec.of_bodyR (az := []) (rs := [.tmp 4]) (nt := 19) Try.func68 rfl rfl (by intro t T h; simp at h) rfl rfl fun cx hnp => ?_
  refine WP.seq ?_
  refine WP.region ?_
  refine WPL.d (d_box rfl rfl) rfl ?_
  refine WPL.q (q_as (v := .lit (.int _ _)) rfl) rfl ?_
  refine WPL.nilW ?_
  refine W.now ?_
  refine Then.n ?_
  refine WP.seq ?_
  refine WP.seq ?_
  obtain ⟨x1735, H1737, H⟩ := bnd H
  refine WP.monoW (Q := fun x E M => x = .normal ∧ E = (((Env.none.upd 1 (.lit (.int .i64 x1706))).upd 2 (.ptr 0 0)).upd 13 (.lit (.bool x1735))) ∧ M = (Mem.nil.push (.cells 51 [.lit (.bool x1704), .ro (Rd.slice (Rd.int .i64)) false x1705]))) ?_ ?_
  · clear H
    have H := H1737
    clear H1737
    refine WP.region ?_
    refine WPL.q (q_mv (v := .lit (.int _ _)) rfl) rfl ?_
    refine WPL.q (q_geq rfl rfl) rfl ?_
    refine WPL.q (q_mv (v := .lit (.bool _)) rfl) rfl ?_
    refine WPL.split (t := 7) (b := (decide (0 ≤ x1706))) rfl (fun hb1735 => ?_) (fun hb1735 => ?_)
    · replace H := cnt hb1735 H
      refine WPL.qg rfl rfl (lb hb1735) (q_mv (v := .lit (.int _ _)) rfl) rfl ?_
      refine WPL.qg rfl rfl (lb hb1735) (q_fieldAddr fi51_1 rfl rfl) rfl ?_
      refine WPL.qg rfl rfl (lb hb1735) (q_load sc49 rfl rfl rfl) rfl ?_
      refine WPL.qg rfl rfl (lb hb1735) (q_len_ro sl49 rfl) rfl ?_
      obtain ⟨x1737, h1737, H⟩ := bnd H
      refine WPL.qg rfl rfl (lb hb1735) (q_nm (q_lss rfl rfl) (nm_bool h1737)) rfl ?_
      refine WPL.q (q_pickT (v := .lit (.bool _)) (lb hb1735) rfl) rfl ?_
      refine WPL.nilW ?_
      refine W.cv (Cv.weak (E' := (((Env.none.upd 1 (.lit (.int .i64 x1706))).upd 2 (.ptr 0 0)).upd 13 (.lit (.bool x1737)))) (M' := (Mem.nil.push (.cells 51 [.lit (.bool x1704), .ro (Rd.slice (Rd.int .i64)) false x1705]))) [0] hnp ⟨rfl, ⟨trivial, .inr ⟨rfl, rfl, rfl⟩⟩, by decide, rfl, trivial⟩ (LeE.upd rfl rfl (LeE.upd rfl rfl (LeE.upd rfl rfl (LeE.none rfl rfl))))) rfl ?_
      refine W.now ?_
      have q0 := (Option.some.inj H)
      subst q0
      exact ⟨rfl, rfl, rfl⟩
    · replace H := cnf hb1735 H
      refine WPL.skipg (b' := false) rfl rfl (lb hb1735) rfl rfl ?_
      refine WPL.skipg (b' := false) rfl rfl (lb hb1735) rfl rfl ?_
      refine WPL.skipg (b' := false) rfl rfl (lb hb1735) rfl rfl ?_
      refine WPL.skipg (b' := false) rfl rfl (lb hb1735) rfl rfl ?_
      refine WPL.skipg (b' := false) rfl rfl (lb hb1735) rfl rfl ?_
      refine WPL.q (q_pickF (v := .lit (.bool _)) (lb hb1735) rfl) rfl ?_
      refine WPL.nilW ?_
      refine W.cv (Cv.weak (E' := (((Env.none.upd 1 (.lit (.int .i64 x1706))).upd 2 (.ptr 0 0)).upd 13 (.lit (.bool false)))) (M' := (Mem.nil.push (.cells 51 [.lit (.bool x1704), .ro (Rd.slice (Rd.int .i64)) false x1705]))) [0] hnp ⟨rfl, ⟨trivial, .inr ⟨rfl, rfl, rfl⟩⟩, by decide, rfl, trivial⟩ (LeE.upd rfl rfl (LeE.upd rfl rfl (LeE.upd rfl rfl (LeE.none rfl rfl))))) rfl ?_
      refine W.now ?_
      have q0 := (Option.some.inj H)
      subst q0
      exact ⟨rfl, rfl, rfl⟩
  · rintro _ _ _ ⟨rfl, rfl, rfl⟩
    refine W.now ?_
    refine Then.n ?_
    refine WP.cond (t := x1735) rfl (fun hb1738 => ?_) (fun hb1738 => ?_)
    · replace H := cnt hb1738 H
      refine WP.seq ?_
      refine WP.region ?_
      refine WPL.q (q_fieldAddr fi51_1 rfl rfl) rfl ?_
      refine WPL.q (q_load sc49 rfl rfl rfl) rfl ?_
      refine WPL.q (q_mv (v := .lit (.int _ _)) rfl) rfl ?_
      obtain ⟨x1740, h1740, H⟩ := bnd H
      refine WPL.q (q_index_ro sl49 rfl rfl rfl h1740) rfl ?_
      refine WPL.q (q_load_sc sc3 rfl) rfl ?_
      refine WPL.q (q_as (v := .lit (.int _ _)) rfl) rfl ?_
      refine WPL.nilW ?_
      refine W.now ?_
      refine Then.n ?_
      refine WP.retW ?_
      refine W.now ?_
      refine Then.r ?_
      have q0 := (Option.some.inj H)
      subst q0
      exact ⟨trivial, _, rfl, [], (.lit (.int .i64 x1740)), Mem.nil, ⟨rfl, trivial, by decide, rfl, trivial⟩, rfl, rfl, rfl, rfl⟩
    · replace H := cnf hb1738 H
      refine WP.skipW ?_
      refine W.now ?_
      refine Then.n ?_
      refine WP.seq ?_
      refine WP.region ?_
      refine WPL.q (q_as (v := .lit (.int _ _)) rfl) rfl ?_
      refine WPL.nilW ?_
      refine W.now ?_
      refine Then.n ?_
      refine WP.retW ?_
      refine W.now ?_
      have q0 := (Option.some.inj H)
      subst q0
      exact ⟨trivial, _, rfl, [], (.lit (.int .i64 0)), Mem.nil, ⟨rfl, trivial, by decide, rfl, trivial⟩, rfl, rfl, rfl, rfl⟩
set_option maxRecDepth 100000 in
set_option maxHeartbeats 4000000 in
theorem s_quireref09_sum (k : Nat) (x1681 : Bool) (x1682 : (List Int)) (x1683 : Bool) (x1684 : (List Int)) (x1815 : (List Int)) (H : g_quireref09_sum k x1681 x1682 x1683 x1684 = some x1815) : Go.Q.Spec Try.prog 65 0 [.agg [.lit (.bool x1681), .ro (Rd.slice (Rd.int .i64)) false x1682], .agg [.lit (.bool x1683), .ro (Rd.slice (Rd.int .i64)) false x1684]] Mem.nil (fun o M => o = .ret (.ro (Rd.slice (Rd.int .i64)) false x1815) ∧ M = Mem.nil) := by
  unfold g_quireref09_sum at H
  refine Go.Q.Spec.of_bodyR (az := []) (rs := [.tmp 4]) (nt := 40) Try.func65 rfl rfl (by intro t T h; simp at h) rfl rfl fun cx hnp => ?_
  refine WP.seq ?_
  refine WP.region ?_
  refine WPL.d (d_box rfl rfl) rfl ?_
  refine WPL.d (d_box rfl rfl) rfl ?_
  refine WPL.q (q_as (v := .lit _) rfl) rfl ?_
  refine WPL.nilW ?_
  refine W.now ?_
  refine Then.n ?_
  refine WP.seq ?_
  refine WP.region ?_
  refine WPL.q (q_as (v := .lit _) rfl) rfl ?_
  refine WPL.nilW ?_
  refine W.now ?_
  refine Then.n ?_
  refine WP.seq ?_
  refine WP.region ?_
  refine WPL.q (q_as (v := .lit (.int _ _)) rfl) rfl ?_
  refine WPL.nilW ?_
  refine W.now ?_
  refine Then.n ?_
  refine WP.seq ?_
  refine WP.seq ?_
  refine WP.region ?_
  refine WPL.q (q_as (v := .lit (.int _ _)) rfl) rfl ?_
  refine WPL.nilW ?_
  refine W.now ?_
  refine Then.n ?_
  refine WP.block ?_
  refine WP.cv (Cv.vir 3 (Rd.int .i64) (N := 2) rfl 5 rfl) ?_
  refine WP.cv (Cv.weak (E' := (((((Env.none.upd 2 (.ptr 0 0)).upd 3 (.ptr 1 0)).upd 5 (.whole 2)).upd 6 (.lit (.int .i64 0))).upd 7 (.lit (.int .i64 0)))) (M' := (((Mem.nil.push (.cells 51 [.lit (.bool x1681), .ro (Rd.slice (Rd.int .i64)) false x1682])).push (.cells 51 [.lit (.bool x1683), .ro (Rd.slice (Rd.int .i64)) false x1684])).push (.row 3 (Rd.int .i64) ([] : List Int)))) [0, 1, 2] hnp ⟨rfl, ⟨⟨⟨trivial, .inr ⟨rfl, rfl, rfl⟩⟩, .inr ⟨rfl, rfl, rfl⟩⟩, .inr ⟨rfl, rfl, rfl⟩⟩, by decide, rfl, trivial⟩ (LeE.upd rfl rfl (LeE.upd rfl rfl (LeE.upd rfl rfl (LeE.upd rfl rfl (LeE.upd rfl rfl (LeE.none rfl rfl))))))) ?_
  obtain ⟨x1906, H1935, H⟩ := bnd H
  refine WP.monoW (Q := fun x E M => x = .exit 0 ∧ E = (Env.none.upd 5 (.whole 0)) ∧ M = (Mem.nil.push (.row 3 (Rd.int .i64) x1906))) ?_ ?_
  · refine WP.loop (β := Int × Int × (List Int)) (fun n b => g_quireref09_sum_l0 k x1681 x1682 x1683 x1684 n b.1 b.2.1 b.2.2 = some x1906) (fun b => (((((Env.none.upd 2 (.ptr 0 0)).upd 3 (.ptr 1 0)).upd 5 (.whole 2)).upd 6 (.lit (.int .i64 b.1))).upd 7 (.lit (.int .i64 b.2.1)))) (fun b => (((Mem.nil.push (.cells 51 [.lit (.bool x1681), .ro (Rd.slice (Rd.int .i64)) false x1682])).push (.cells 51 [.lit (.bool x1683), .ro (Rd.slice (Rd.int .i64)) false x1684])).push (.row 3 (Rd.int .i64) b.2.2))) k (0, 0, ([] : List Int)) H1935 rfl rfl ?_
    rintro n ⟨x1874, x1875, x1876⟩ H
    obtain _ | n := n
    · exact nf rfl H
    rw [g_quireref09_sum_l0.eq_2] at H
    show WP _ _ _ _ (((((Env.none.upd 2 (.ptr 0 0)).upd 3 (.ptr 1 0)).upd 5 (.whole 2)).upd 6 (.lit (.int .i64 x1874))).upd 7 (.lit (.int .i64 x1875))) (((Mem.nil.push (.cells 51 [.lit (.bool x1681), .ro (Rd.slice (Rd.int .i64)) false x1682])).push (.cells 51 [.lit (.bool x1683), .ro (Rd.slice (Rd.int .i64)) false x1684])).push (.row 3 (Rd.int .i64) x1876)) _
    refine WP.seq ?_
    refine WP.seq ?_
    obtain ⟨x1919, H1922, H⟩ := bnd H
    refine WP.monoW (Q := fun x E M => x = .normal ∧ E = ((((((Env.none.upd 2 (.ptr 0 0)).upd 3 (.ptr 1 0)).upd 5 (.whole 2)).upd 6 (.lit (.int .i64 x1874))).upd 7 (.lit (.int .i64 x1875))).upd 20 (.lit (.bool x1919))) ∧ M = (((Mem.nil.push (.cells 51 [.lit (.bool x1681), .ro (Rd.slice (Rd.int .i64)) false x1682])).push (.cells 51 [.lit (.bool x1683), .ro (Rd.slice (Rd.int .i64)) false x1684])).push (.row 3 (Rd.int .i64) x1876))) ?_ ?_
    · clear H
      have H := H1922
      clear H1922
      refine WP.region ?_
      refine WPL.q (q_mv (v := .lit (.int _ _)) rfl) rfl ?_
      refine WPL.q (q_fieldAddr fi51_1 rfl rfl) rfl ?_
      refine WPL.q (q_load sc49 rfl rfl rfl) rfl ?_
      refine WPL.q (q_len_ro sl49 rfl) rfl ?_
      obtain ⟨x1920, h1920, H⟩ := bnd H
      refine WPL.q (q_nm (q_leq rfl rfl) (nm_bool h1920)) rfl ?_
      refine WPL.q (q_mv (v := .lit (.bool _)) rfl) rfl ?_
      refine WPL.split (t := 14) (b := x1920) rfl (fun hb1920 => ?_) (fun hb1920 => ?_)
      · replace H := cnt hb1920 H
        refine WPL.skipg (b' := true) rfl rfl (lb hb1920) rfl rfl ?_
        refine WPL.skipg (b' := true) rfl rfl (lb hb1920) rfl rfl ?_
        refine WPL.skipg (b' := true) rfl rfl (lb hb1920) rfl rfl ?_
        refine WPL.skipg (b' := true) rfl rfl (lb hb1920) rfl rfl ?_
        refine WPL.skipg (b' := true) rfl rfl (lb hb1920) rfl rfl ?_
        refine WPL.q (q_pickT (v := .lit (.bool _)) (lb hb1920) rfl) rfl ?_
        refine WPL.nilW ?_
        refine W.cv (Cv.weak (E' := ((((((Env.none.upd 2 (.ptr 0 0)).upd 3 (.ptr 1 0)).upd 5 (.whole 2)).upd 6 (.lit (.int .i64 x1874))).upd 7 (.lit (.int .i64 x1875))).upd 20 (.lit (.bool true)))) (M' := (((Mem.nil.push (.cells 51 [.lit (.bool x1681), .ro (Rd.slice (Rd.int .i64)) false x1682])).push (.cells 51 [.lit (.bool x1683), .ro (Rd.slice (Rd.int .i64)) false x1684])).push (.row 3 (Rd.int .i64) x1876))) [0, 1, 2] hnp ⟨rfl, ⟨⟨⟨trivial, .inr ⟨rfl, rfl, rfl⟩⟩, .inr ⟨rfl, rfl, rfl⟩⟩, .inr ⟨rfl, rfl, rfl⟩⟩, by decide, rfl, trivial⟩ (LeE.upd rfl rfl (LeE.upd rfl rfl (LeE.upd rfl rfl (LeE.upd rfl rfl (LeE.upd rfl rfl (LeE.upd rfl rfl (LeE.none rfl rfl)))))))) rfl ?_
        refine W.now ?_
        have q0 := (Option.some.inj H)
        subst q0
        exact ⟨rfl, rfl, rfl⟩
      · replace H := cnf hb1920 H
        refine WPL.qg rfl rfl (lb hb1920) (q_mv (v := .lit (.int _ _)) rfl) rfl ?_
        refine WPL.qg rfl rfl (lb hb1920) (q_fieldAddr fi51_1 rfl rfl) rfl ?_
        refine WPL.qg rfl rfl (lb hb1920) (q_load sc49 rfl rfl rfl) rfl ?_
        refine WPL.qg rfl rfl (lb hb1920) (q_len_ro sl49 rfl) rfl ?_
        obtain ⟨x1922, h1922, H⟩ := bnd H
        refine WPL.qg rfl rfl (lb hb1920) (q_nm (q_leq rfl rfl) (nm_bool h1922)) rfl ?_
        refine WPL.q (q_pickF (v := .lit (.bool _)) (lb hb1920) rfl) rfl ?_
        refine WPL.nilW ?_
        refine W.cv (Cv.weak (E' := ((((((Env.none.upd 2 (.ptr 0 0)).upd 3 (.ptr 1 0)).upd 5 (.whole 2)).upd 6 (.lit (.int .i64 x1874))).upd 7 (.lit (.int .i64 x1875))).upd 20 (.lit (.bool x1922)))) (M' := (((Mem.nil.push (.cells 51 [.lit (.bool x1681), .ro (Rd.slice (Rd.int .i64)) false x1682])).push (.cells 51 [.lit (.bool x1683), .ro (Rd.slice (Rd.int .i64)) false x1684])).push (.row 3 (Rd.int .i64) x1876))) [0, 1, 2] hnp ⟨rfl, ⟨⟨⟨trivial, .inr ⟨rfl, rfl, rfl⟩⟩, .inr ⟨rfl, rfl, rfl⟩⟩, .inr ⟨rfl, rfl, rfl⟩⟩, by decide, rfl, trivial⟩ (LeE.upd rfl rfl (LeE.upd rfl rfl (LeE.upd rfl rfl (LeE.upd rfl rfl (LeE.upd rfl rfl (LeE.upd rfl rfl (LeE.none rfl rfl)))))))) rfl ?_
        refine W.now ?_
        have q0 := (Option.some.inj H)
        subst q0
        exact ⟨rfl, rfl, rfl⟩
    · rintro _ _ _ ⟨rfl, rfl, rfl⟩
      refine W.now ?_
      refine Then.n ?_
      refine WP.cond (t := x1919) rfl (fun hb1923 => ?_) (fun hb1923 => ?_)
      · replace H := cnt hb1923 H
        refine WP.skipW ?_
        refine W.now ?_
        refine Then.n ?_
        refine WP.seq ?_
        refine WP.block ?_
        refine WP.seq ?_
        refine WP.regionD' 10 [0, 1] [] mixed rfl ?_
        refine WPD.takeT 1 rfl (by kernel_rfl) (q_mv (v := .lit (.int _ _)) rfl) rfl ?_
        refine WPD.takeT 4 rfl (by kernel_rfl) (q_mv (v := .lit (.int _ _)) rfl) rfl ?_
        refine WPD.takeT 7 rfl (by kernel_rfl) (q_mv (v := .lit (.int _ _)) rfl) rfl ?_
        refine WPD.take 0 rfl (by kernel_rfl) (q_load_ag ag51 rfl rfl (Nat.le_of_ble_eq_true rfl)) rfl rfl ?_
        refine WPD.take 3 rfl (by kernel_rfl) (q_load_ag ag51 rfl rfl (Nat.le_of_ble_eq_true rfl)) rfl rfl ?_
        obtain ⟨x1931, h1929, H⟩ := bnd H
        refine WPD.eff 2 [0, 1] [] rfl (by kernel_rfl) (runs_call (s := []) (t := []) (N := 3) (bor := []) fn68 rfl (s_quireref09_at k x1681 x1682 x1875 x1931 h1929) ⟨rfl, trivial, by decide, rfl, trivial⟩ rfl trivial (.ren rfl rfl (.ren rfl rfl .nil)) rfl trivial rfl) rfl rfl ?_
        obtain ⟨x1933, h1931, H⟩ := bnd H
        refine WPD.eff 5 [0, 1] [] rfl (by kernel_rfl) (runs_call (s := []) (t := []) (N := 3) (bor := []) fn68 rfl (s_quireref09_at k x1683 x1684 x1875 x1933 h1931) ⟨rfl, trivial, by decide, rfl, trivial⟩ rfl trivial (.ren rfl rfl (.ren rfl rfl .nil)) rfl trivial rfl) rfl rfl ?_
        refine WPD.takeT 6 rfl (by kernel_rfl) (q_add rfl rfl) rfl ?_
        obtain ⟨x1934, h1934, H⟩ := bnd H
        refine WPD.takeT 8 rfl (by kernel_rfl) (q_nm (q_add rfl rfl) (nm_int h1934)) rfl ?_
        refine WPD.takeT 9 rfl (by kernel_rfl) (q_as (v := .lit (.int _ _)) rfl) rfl ?_
        refine WPD.doneW (by kernel_rfl) ?_
        refine W.now ?_
        refine Then.n ?_
        refine WP.seq ?_
        refine WP.region ?_
        refine WPL.q (q_mv (v := .whole _) rfl) rfl ?_
        refine WPL.q (q_mv (v := .lit (.int _ _)) rfl) rfl ?_
        refine WPL.q (q_rem rfl rfl rfl) rfl ?_
        refine WPL.d (d_buildSlice (ds := ([(Int.tmod x1934 10)] : List Int)) (R := (Rd.int .i64)) li49 rfl rfl rfl rfl rfl (JoinRows.cons1 Joins.sc rfl JoinRows.nil) rfl rfl) rfl ?_
        obtain ⟨h1934, H⟩ := grd H
        refine WPL.d (d_append ap49 rfl rfl rfl rfl (src_row sl49 rfl rfl) h1934 rfl) rfl ?_
        refine WPL.q (q_as (v := .whole _) rfl) rfl ?_
        refine WPL.nilW ?_
        refine W.now ?_
        refine Then.n ?_
        refine WP.region ?_
        refine WPL.q (q_mv (v := .lit (.int _ _)) rfl) rfl ?_
        refine WPL.q (q_quo rfl rfl rfl) rfl ?_
        refine WPL.q (q_as (v := .lit (.int _ _)) rfl) rfl ?_
        refine WPL.nilW ?_
        refine W.now ?_
        refine InBlock.n ?_
        refine Then.n ?_
        refine WP.region ?_
        refine WPL.q (q_mv (v := .lit (.int _ _)) rfl) rfl ?_
        refine WPL.q (q_add rfl rfl) rfl ?_
        refine WPL.q (q_as (v := .lit (.int _ _)) rfl) rfl ?_
        refine WPL.nilW ?_
        refine W.cv (Cv.weak (E' := (((((Env.none.upd 2 (.ptr 0 0)).upd 3 (.ptr 1 0)).upd 5 (.whole 2)).upd 6 (.lit (.int .i64 (IntKind.wrap .i64 (Int.tdiv x1934 10))))).upd 7 (.lit (.int .i64 (IntKind.wrap .i64 (x1875 + 1)))))) (M' := (((Mem.nil.push (.cells 51 [.lit (.bool x1681), .ro (Rd.slice (Rd.int .i64)) false x1682])).push (.cells 51 [.lit (.bool x1683), .ro (Rd.slice (Rd.int .i64)) false x1684])).push (.row 3 (Rd.int .i64) (x1876 ++ ([(Int.tmod x1934 10)] : List Int))))) [0, 1, 4] hnp ⟨rfl, ⟨⟨⟨trivial, .inr ⟨rfl, rfl, rfl⟩⟩, .inr ⟨rfl, rfl, rfl⟩⟩, .inr ⟨rfl, rfl, rfl⟩⟩, by decide, rfl, trivial⟩ (LeE.upd rfl rfl (LeE.upd rfl rfl (LeE.upd rfl rfl (LeE.upd rfl rfl (LeE.upd rfl rfl (LeE.none rfl rfl))))))) rfl ?_
        refine W.now ?_
        exact Then.n ⟨n, ((IntKind.wrap .i64 (Int.tdiv x1934 10)), (IntKind.wrap .i64 (x1875 + 1)), (x1876 ++ ([(Int.tmod x1934 10)] : List Int))), Nat.lt_succ_self n, H, rfl, rfl⟩
      · replace H := cnf hb1923 H
        refine WP.exitW ?_
        refine W.cv (Cv.weak (E' := (Env.none.upd 5 (.whole 0))) (M' := (Mem.nil.push (.row 3 (Rd.int .i64) x1876))) [2] hnp ⟨rfl, ⟨trivial, .inr ⟨rfl, rfl, rfl⟩⟩, by decide, rfl, trivial⟩ (LeE.upd rfl rfl (LeE.none rfl rfl))) rfl ?_
        refine W.now ?_
        refine Then.x ?_
        refine Then.x ?_
        have q0 := (Option.some.inj H)
        subst q0
        exact ⟨rfl, rfl, rfl⟩
  · rintro _ _ _ ⟨rfl, rfl, rfl⟩
    refine W.now ?_
    refine InBlock.x0 ?_
    refine Then.n ?_
    refine WP.seq ?_
    refine WP.region ?_
    refine WPL.q (q_mv (v := .whole _) rfl) rfl ?_
    refine WPL.q (q_as (v := .whole _) rfl) rfl ?_
    refine WPL.nilW ?_
    refine W.now ?_
    refine Then.n ?_
    refine WP.retW ?_
    refine W.cv (Cv.frzRow (i := 0) rfl rfl hnp rfl rfl) rfl ?_
    refine W.now ?_
    have q0 := (Option.some.inj H)
    subst q0
    exact ⟨trivial, _, rfl, [], (.ro (Rd.slice (Rd.int .i64)) false x1906), Mem.nil, ⟨rfl, trivial, by decide, rfl, trivial⟩, rfl, rfl, rfl, rfl⟩
set_option maxRecDepth 100000 in
set_option maxHeartbeats 4000000 in
theorem s_quireref09_trim__b (k : Nat) (x1939 : Bool) (x1940 : (List Int)) (x1988 : Bool) (x1989 : (List Int)) (H : g_quireref09_trim k x1939 x1940 = some (x1988, x1989)) : Go.Q.Spec Try.prog 36 0 [.agg [.lit (.bool x1939), .ro (Rd.slice (Rd.int .i64)) false x1940]] Mem.nil (fun o M => o = .ret (.agg [.lit (.bool x1988), .ro (Rd.slice (Rd.int .i64)) false x1989]) ∧ M = (Mem.nil.push (.cells 51 [.lit (.bool x1988), .ro (Rd.slice (Rd.int .i64)) false x1989]))) := by
  unfold g_quireref09_trim at H
  refine Go.Q.Spec.of_bodyR (az := [(51, 2)]) (rs := [.cell 2 51]) (nt := 32) Try.func36 rfl rfl (by intro t T h; simp at h; rcases h with ⟨rfl, rfl⟩ <;> first | exact ag51) rfl rfl fun cx hnp => ?_
  refine WP.seq ?_
  refine WP.region ?_
  refine WPL.d (d_box rfl rfl) rfl ?_
  refine WPL.d (d_alloc ze51 rfl) rfl ?_
  refine WPL.nilW ?_
  refine W.now ?_
  refine Then.n ?_
  refine WP.seq ?_
  refine WP.region ?_
  refine WPL.q (q_fieldAddr fi51_1 rfl rfl) rfl ?_
  refine WPL.q (q_load sc49 rfl rfl rfl) rfl ?_
  refine WPL.q (q_len_ro sl49 rfl) rfl ?_
  refine WPL.q (q_as (v := .lit (.int _ _)) rfl) rfl ?_
  refine WPL.nilW ?_
  refine W.now ?_
  refine Then.n ?_
  refine WP.seq ?_
  refine WP.block ?_
  refine WP.cv (Cv.weak (E' := (((Env.none.upd 1 (.ptr 0 0)).upd 2 (.ptr 1 0)).upd 3 (.lit (.int .i64 ((List.length x1940 : Nat) : Int))))) (M' := ((Mem.nil.push (.cells 51 [.lit (.bool x1939), .ro (Rd.slice (Rd.int .i64)) false x1940])).push (.cells 51 [.lit (.bool false), .lit (.slice none 0 0)]))) [0, 1] hnp ⟨rfl, ⟨⟨trivial, .inr ⟨rfl, rfl, rfl⟩⟩, .inr ⟨rfl, rfl, rfl⟩⟩, by decide, rfl, trivial⟩ (LeE.upd rfl rfl (LeE.upd rfl rfl (LeE.upd rfl rfl (LeE.none rfl rfl))))) ?_
  obtain ⟨x2028, H2042, H⟩ := bnd H
  refine WP.monoW (Q := fun x E M => x = .exit 0 ∧ E = (((Env.none.upd 1 (.ptr 0 0)).upd 2 (.ptr 1 0)).upd 3 (.lit (.int .i64 x2028))) ∧ M = ((Mem.nil.push (.cells 51 [.lit (.bool x1939), .ro (Rd.slice (Rd.int .i64)) false x1940])).push (.cells 51 [.lit (.bool false), .lit (.slice none 0 0)]))) ?_ ?_
  · refine WP.loop (β := Int) (fun n b => g_quireref09_trim_l0 k x1940 n b = some x2028) (fun b => (((Env.none.upd 1 (.ptr 0 0)).upd 2 (.ptr 1 0)).upd 3 (.lit (.int .i64 b)))) (fun b => ((Mem.nil.push (.cells 51 [.lit (.bool x1939), .ro (Rd.slice (Rd.int .i64)) false x1940])).push (.cells 51 [.lit (.bool false), .lit (.slice none 0 0)]))) k ((List.length x1940 : Nat) : Int) H2042 rfl rfl ?_
    rintro n x2013 H
    obtain _ | n := n
    · exact nf rfl H
    rw [g_quireref09_trim_l0.eq_2] at H
    show WP _ _ _ _ (((Env.none.upd 1 (.ptr 0 0)).upd 2 (.ptr 1 0)).upd 3 (.lit (.int .i64 x2013))) ((Mem.nil.push (.cells 51 [.lit (.bool x1939), .ro (Rd.slice (Rd.int .i64)) false x1940])).push (.cells 51 [.lit (.bool false), .lit (.slice none 0 0)])) _
    refine WP.seq ?_
    refine WP.seq ?_
    obtain ⟨x2038, H2040, H⟩ := bnd H
    refine WP.monoW (Q := fun x E M => x = .normal ∧ E = ((((Env.none.upd 1 (.ptr 0 0)).upd 2 (.ptr 1 0)).upd 3 (.lit (.int .i64 x2013))).upd 17 (.lit (.bool x2038))) ∧ M = ((Mem.nil.push (.cells 51 [.lit (.bool x1939), .ro (Rd.slice (Rd.int .i64)) false x1940])).push (.cells 51 [.lit (.bool false), .lit (.slice none 0 0)]))) ?_ ?_
    · clear H
      have H := H2040
      clear H2040
      refine WP.region ?_
      refine WPL.q (q_mv (v := .lit (.int _ _)) rfl) rfl ?_
      refine WPL.q (q_gtr rfl rfl) rfl ?_
      refine WPL.q (q_mv (v := .lit (.bool _)) rfl) rfl ?_
      refine WPL.split (t := 9) (b := (decide (0 < x2013))) rfl (fun hb2038 => ?_) (fun hb2038 => ?_)
      · replace H := cnt hb2038 H
        refine WPL.qg rfl rfl (lb hb2038) (q_fieldAddr fi51_1 rfl rfl) rfl ?_
        refine WPL.qg rfl rfl (lb hb2038) (q_load sc49 rfl rfl rfl) rfl ?_
        refine WPL.qg rfl rfl (lb hb2038) (q_mv (v := .lit (.int _ _)) rfl) rfl ?_
        refine WPL.qg rfl rfl (lb hb2038) (q_sub rfl rfl) rfl ?_
        obtain ⟨x2040, h2040, H⟩ := bnd H
        refine WPL.qg rfl rfl (lb hb2038) (q_index_ro sl49 rfl rfl rfl h2040) rfl ?_
        refine WPL.qg rfl rfl (lb hb2038) (q_load_sc sc3 rfl) rfl ?_
        refine WPL.qg rfl rfl (lb hb2038) (q_eql rfl rfl) rfl ?_
        refine WPL.q (q_pickT (v := .lit (.bool _)) (lb hb2038) rfl) rfl ?_
        refine WPL.nilW ?_
        refine W.cv (Cv.weak (E' := ((((Env.none.upd 1 (.ptr 0 0)).upd 2 (.ptr 1 0)).upd 3 (.lit (.int .i64 x2013))).upd 17 (.lit (.bool (decide (x2040 = 0)))))) (M' := ((Mem.nil.push (.cells 51 [.lit (.bool x1939), .ro (Rd.slice (Rd.int .i64)) false x1940])).push (.cells 51 [.lit (.bool false), .lit (.slice none 0 0)]))) [0, 1] hnp ⟨rfl, ⟨⟨trivial, .inr ⟨rfl, rfl, rfl⟩⟩, .inr ⟨rfl, rfl, rfl⟩⟩, by decide, rfl, trivial⟩ (LeE.upd rfl rfl (LeE.upd rfl rfl (LeE.upd rfl rfl (LeE.upd rfl rfl (LeE.none rfl rfl)))))) rfl ?_
        refine W.now ?_
        have q0 := (Option.some.inj H)
        subst q0
        exact ⟨rfl, rfl, rfl⟩
      · replace H := cnf hb2038 H
        refine WPL.skipg (b' := false) rfl rfl (lb hb2038) rfl rfl ?_
        refine WPL.skipg (b' := false) rfl rfl (lb hb2038) rfl rfl ?_
        refine WPL.skipg (b' := false) rfl rfl (lb hb2038) rfl rfl ?_
        refine WPL.skipg (b' := false) rfl rfl (lb hb2038) rfl rfl ?_
        refine WPL.skipg (b' := false) rfl rfl (lb hb2038) rfl rfl ?_
        refine WPL.skipg (b' := false) rfl rfl (lb hb2038) rfl rfl ?_
        refine WPL.skipg (b' := false) rfl rfl (lb hb2038) rfl rfl ?_
        refine WPL.q (q_pickF (v := .lit (.bool _)) (lb hb2038) rfl) rfl ?_
        refine WPL.nilW ?_
        refine W.cv (Cv.weak (E' := ((((Env.none.upd 1 (.ptr 0 0)).upd 2 (.ptr 1 0)).upd 3 (.lit (.int .i64 x2013))).upd 17 (.lit (.bool false)))) (M' := ((Mem.nil.push (.cells 51 [.lit (.bool x1939), .ro (Rd.slice (Rd.int .i64)) false x1940])).push (.cells 51 [.lit (.bool false), .lit (.slice none 0 0)]))) [0, 1] hnp ⟨rfl, ⟨⟨trivial, .inr ⟨rfl, rfl, rfl⟩⟩, .inr ⟨rfl, rfl, rfl⟩⟩, by decide, rfl, trivial⟩ (LeE.upd rfl rfl (LeE.upd rfl rfl (LeE.upd rfl rfl (LeE.upd rfl rfl (LeE.none rfl rfl)))))) rfl ?_
        refine W.now ?_
        have q0 := (Option.some.inj H)
        subst q0
        exact ⟨rfl, rfl, rfl⟩
    · rintro _ _ _ ⟨rfl, rfl, rfl⟩
      refine W.now ?_
      refine Then.n ?_
      refine WP.cond (t := x2038) rfl (fun hb2041 => ?_) (fun hb2041 => ?_)
      · replace H := cnt hb2041 H
        refine WP.skipW ?_
        refine W.now ?_
        refine Then.n ?_
        refine WP.block ?_
        refine WP.region ?_
        refine WPL.q (q_mv (v := .lit (.int _ _)) rfl) rfl ?_
        refine WPL.q (q_sub rfl rfl) rfl ?_
        refine WPL.q (q_as (v := .lit (.int _ _)) rfl) rfl ?_
        refine WPL.nilW ?_
        refine W.cv (Cv.weak (E' := (((Env.none.upd 1 (.ptr 0 0)).upd 2 (.ptr 1 0)).upd 3 (.lit (.int .i64 (IntKind.wrap .i64 (x2013 - 1)))))) (M' := ((Mem.nil.push (.cells 51 [.lit (.bool x1939), .ro (Rd.slice (Rd.int .i64)) false x1940])).push (.cells 51 [.lit (.bool false), .lit (.slice none 0 0)]))) [0, 1] hnp ⟨rfl, ⟨⟨trivial, .inr ⟨rfl, rfl, rfl⟩⟩, .inr ⟨rfl, rfl, rfl⟩⟩, by decide, rfl, trivial⟩ (LeE.upd rfl rfl (LeE.upd rfl rfl (LeE.upd rfl rfl (LeE.none rfl rfl))))) rfl ?_
        refine W.now ?_
        refine InBlock.n ?_
        exact Then.n ⟨n, (IntKind.wrap .i64 (x2013 - 1)), Nat.lt_succ_self n, H, rfl, rfl⟩
      · replace H := cnf hb2041 H
        refine WP.exitW ?_
        refine W.cv (Cv.weak (E' := (((Env.none.upd 1 (.ptr 0 0)).upd 2 (.ptr 1 0)).upd 3 (.lit (.int .i64 x2013)))) (M' := ((Mem.nil.push (.cells 51 [.lit (.bool x1939), .ro (Rd.slice (Rd.int .i64)) false x1940])).push (.cells 51 [.lit (.bool false), .lit (.slice none 0 0)]))) [0, 1] hnp ⟨rfl, ⟨⟨trivial, .inr ⟨rfl, rfl, rfl⟩⟩, .inr ⟨rfl, rfl, rfl⟩⟩, by decide, rfl, trivial⟩ (LeE.upd rfl rfl (LeE.upd rfl rfl (LeE.upd rfl rfl (LeE.none rfl rfl))))) rfl ?_
        refine W.now ?_
        refine Then.x ?_
        refine Then.x ?_
        have q0 := (Option.some.inj H)
        subst q0
        exact ⟨rfl, rfl, rfl⟩
  · rintro _ _ _ ⟨rfl, rfl, rfl⟩
    refine W.now ?_
    refine InBlock.x0 ?_
    refine Then.n ?_
    refine WP.seq ?_
    refine WP.seq ?_
    refine WP.region ?_
    refine WPL.q (q_mv (v := .lit (.int _ _)) rfl) rfl ?_
    refine WPL.q (q_eql rfl rfl) rfl ?_
    refine WPL.nilW ?_
    refine W.now ?_
    refine Then.n ?_
    refine WP.cond (t := (decide (x2028 = 0))) rfl (fun hb2044 => ?_) (fun hb2044 => ?_)
    · replace H := cnt hb2044 H
      refine WP.seq ?_
      refine WP.region ?_
      refine WPL.q (q_build bu51 rfl) rfl ?_
      refine WPL.s (s_store sz51 rfl rfl rfl rfl rfl) ?_
      refine WPL.nilW ?_
      refine W.now ?_
      refine Then.n ?_
      refine WP.retW ?_
      refine W.cv (Cv.nilRoC (Rd.int .i64) false (i := 1) (off := 1) rfl rfl rfl) rfl ?_
      refine W.now ?_
      refine Then.r ?_
      have q0 := (Prod.mk.inj (Option.some.inj H)).1
      have q1 := (Prod.mk.inj (Option.some.inj H)).2
      subst q0
      subst q1
      exact ⟨trivial, _, rfl, [1], (.agg [.lit (.bool false), .ro (Rd.slice (Rd.int .i64)) false ([] : List Int)]), (Mem.nil.push (.cells 51 [.lit (.bool false), .ro (Rd.slice (Rd.int .i64)) false ([] : List Int)])), ⟨rfl, ⟨trivial, .inr ⟨rfl, rfl, rfl⟩⟩, by decide, rfl, trivial⟩, rfl, rfl, rfl, rfl⟩
    · replace H := cnf hb2044 H
      refine WP.skipW ?_
      refine W.now ?_
      refine Then.n ?_
      refine WP.seq ?_
      refine WP.regionD' 10 [0] [] mixed rfl ?_
      refine WPD.takeT 0 rfl (by kernel_rfl) (q_fieldAddr fi51_0 rfl rfl) rfl ?_
      refine WPD.takeT 3 rfl (by kernel_rfl) (q_fieldAddr fi51_1 rfl rfl) rfl ?_
      refine WPD.takeT 5 rfl (by kernel_rfl) (q_mv (v := .lit (.int _ _)) rfl) rfl ?_
      refine WPD.take 1 rfl (by kernel_rfl) (q_load sc4 rfl rfl rfl) rfl rfl ?_
      refine WPD.take 4 rfl (by kernel_rfl) (q_load sc49 rfl rfl rfl) rfl rfl ?_
      obtain ⟨h2047, H⟩ := grd H
      refine WPD.takeT 6 rfl (by kernel_rfl) (q_slice_ro (i := 0) (j := x2028) sl49 rfl rfl rfl ⟨_, rfl⟩ h2047) rfl ?_
      refine WPD.eff 2 [0] [] rfl (by kernel_rfl) (Does.runs (d_buildSlice (ds := ([] : List Int)) (R := (Rd.int .i64)) li49 rfl rfl rfl rfl rfl JoinRows.nil rfl rfl)) rfl rfl ?_
      obtain ⟨h2048, H⟩ := grd H
      refine WPD.eff 7 [0] [] rfl (by kernel_rfl) (Does.runs (d_append ap49 rfl rfl rfl rfl (src_ro sl49 rfl) h2048 rfl)) rfl rfl ?_
      refine WPD.takeT 8 rfl (by kernel_rfl) (q_build bu51 rfl) rfl ?_
      refine WPD.effS 9 [0] [] rfl (by kernel_rfl) (s_store sz51 rfl rfl rfl rfl rfl) rfl ?_
      refine WPD.doneW (by kernel_rfl) ?_
      refine W.now ?_
      refine Then.n ?_
      refine WP.retW ?_
      refine W.cv (Cv.frzRow (i := 3) rfl rfl hnp rfl rfl) rfl ?_
      refine W.now ?_
      have q0 := (Prod.mk.inj (Option.some.inj H)).1
      have q1 := (Prod.mk.inj (Option.some.inj H)).2
      subst q0
      subst q1
      exact ⟨trivial, _, rfl, [1], (.agg [.lit (.bool x1939), .ro (Rd.slice (Rd.int .i64)) false (([] : List Int) ++ (List.drop (Int.toNat 0) (List.take (Int.toNat x2028) x1940)))]), (Mem.nil.push (.cells 51 [.lit (.bool x1939), .ro (Rd.slice (Rd.int .i64)) false (([] : List Int) ++ (List.drop (Int.toNat 0) (List.take (Int.toNat x2028) x1940)))])), ⟨rfl, ⟨trivial, .inr ⟨rfl, rfl, rfl⟩⟩, by decide, rfl, trivial⟩, rfl, rfl, rfl, rfl⟩
set_option maxRecDepth 100000 in
set_option maxHeartbeats 4000000 in
theorem s_quireref09_more (k : Nat) (x2069 : Bool) (x2070 : (List Int)) (x2071 : Bool) (x2072 : (List Int)) (x2191 : Int) (H : g_quireref09_more k x2069 x2070 x2071 x2072 = some x2191) : Go.Q.Spec Try.prog 61 0 [.agg [.lit (.bool x2069), .ro (Rd.slice (Rd.int .i64)) false x2070], .agg [.lit (.bool x2071), .ro (Rd.slice (Rd.int .i64)) false x2072]] Mem.nil (fun o M => o = .ret (.lit (.int .i64 x2191)) ∧ M = Mem.nil) := by
  unfold g_quireref09_more at H
  refine Go.Q.Spec.of_bodyR (az := []) (rs := [.tmp 4]) (nt := 31) Try.func61 rfl rfl (by intro t T h; simp at h) rfl rfl fun cx hnp => ?_
  refine WP.seq ?_
  refine WP.region ?_
  refine WPL.d (d_box rfl rfl) rfl ?_
  refine WPL.d (d_box rfl rfl) rfl ?_
  refine WPL.q (q_as (v := .lit (.int _ _)) rfl) rfl ?_
  refine WPL.nilW ?_
  refine W.now ?_
  refine Then.n ?_
  refine WP.seq ?_
  refine WP.seq ?_
  refine WP.region ?_
  refine WPL.q (q_fieldAddr fi51_1 rfl rfl) rfl ?_
  refine WPL.q (q_load sc49 rfl rfl rfl) rfl ?_
  refine WPL.q (q_len_ro sl49 rfl) rfl ?_
  refine WPL.q (q_fieldAddr fi51_1 rfl rfl) rfl ?_
  refine WPL.q (q_load sc49 rfl rfl rfl) rfl ?_
  refine WPL.q (q_len_ro sl49 rfl) rfl ?_
  obtain ⟨x2192, h2192, H⟩ := bnd H
  refine WPL.q (q_nm (q_add rfl rfl) (nm_int h2192)) rfl ?_
  refine WPL.q (q_as (v := .lit (.int _ _)) rfl) rfl ?_
  refine WPL.nilW ?_
  refine W.now ?_
  refine Then.n ?_
  refine WP.block ?_
  refine WP.cv (Cv.weak (E' := (((Env.none.upd 2 (.ptr 0 0)).upd 3 (.ptr 1 0)).upd 5 (.lit (.int .i64 x2192)))) (M' := ((Mem.nil.push (.cells 51 [.lit (.bool x2069), .ro (Rd.slice (Rd.int .i64)) false x2070])).push (.cells 51 [.lit (.bool x2071), .ro (Rd.slice (Rd.int .i64)) false x2072]))) [0, 1] hnp ⟨rfl, ⟨⟨trivial, .inr ⟨rfl, rfl, rfl⟩⟩, .inr ⟨rfl, rfl, rfl⟩⟩, by decide, rfl, trivial⟩ (LeE.upd rfl rfl (LeE.upd rfl rfl (LeE.upd rfl rfl (LeE.none rfl rfl))))) ?_
  obtain ⟨y2364, H2362, H⟩ := bnd H
  refine WP.monoW (Q := fun x E M => match (generalizing := false) y2364 with | (Sum.inl x2306) => x = .ret ∧ E = (Env.none.upd 4 (.lit (.int .i64 x2306))) ∧ M = Mem.nil | (Sum.inr _) => x = .exit 0 ∧ E = Env.none ∧ M = Mem.nil) ?_ ?_
  · refine WP.loop (β := Int) (fun n b => g_quireref09_more_l0 k x2069 x2070 x2071 x2072 n b = some y2364) (fun b => (((Env.none.upd 2 (.ptr 0 0)).upd 3 (.ptr 1 0)).upd 5 (.lit (.int .i64 b)))) (fun b => ((Mem.nil.push (.cells 51 [.lit (.bool x2069), .ro (Rd.slice (Rd.int .i64)) false x2070])).push (.cells 51 [.lit (.bool x2071), .ro (Rd.slice (Rd.int .i64)) false x2072]))) k x2192 H2362 rfl rfl ?_
    rintro n x2249 H
    obtain _ | n := n
    · exact nf rfl H
    rw [g_quireref09_more_l0.eq_2] at H
    show WP _ _ _ _ (((Env.none.upd 2 (.ptr 0 0)).upd 3 (.ptr 1 0)).upd 5 (.lit (.int .i64 x2249))) ((Mem.nil.push (.cells 51 [.lit (.bool x2069), .ro (Rd.slice (Rd.int .i64)) false x2070])).push (.cells 51 [.lit (.bool x2071), .ro (Rd.slice (Rd.int .i64)) false x2072])) _
    refine WP.seq ?_
    refine WP.seq ?_
    refine WP.region ?_
    refine WPL.q (q_mv (v := .lit (.int _ _)) rfl) rfl ?_
    refine WPL.q (q_geq rfl rfl) rfl ?_
    refine WPL.nilW ?_
    refine W.now ?_
    refine Then.n ?_
    refine WP.cond (t := (decide (0 ≤ x2249))) rfl (fun hb2307 => ?_) (fun hb2307 => ?_)
    · replace H := cnt hb2307 H
      refine WP.skipW ?_
      refine W.now ?_
      refine Then.n ?_
      refine WP.seq ?_
      refine WP.block ?_
      refine WP.seq ?_
      refine WP.seq ?_
      refine WP.regionD' 7 [0, 1] [] mixed rfl ?_
      refine WPD.takeT 1 rfl (by kernel_rfl) (q_mv (v := .lit (.int _ _)) rfl) rfl ?_
      refine WPD.takeT 4 rfl (by kernel_rfl) (q_mv (v := .lit (.int _ _)) rfl) rfl ?_
      refine WPD.take 0 rfl (by kernel_rfl) (q_load_ag ag51 rfl rfl (Nat.le_of_ble_eq_true rfl)) rfl rfl ?_
      refine WPD.take 3 rfl (by kernel_rfl) (q_load_ag ag51 rfl rfl (Nat.le_of_ble_eq_true rfl)) rfl rfl ?_
      obtain ⟨x2350, h2348, H⟩ := bnd H
      refine WPD.eff 2 [0, 1] [] rfl (by kernel_rfl) (runs_call (s := []) (t := []) (N := 2) (bor := []) fn68 rfl (s_quireref09_at k x2069 x2070 x2249 x2350 h2348) ⟨rfl, trivial, by decide, rfl, trivial⟩ rfl trivial (.ren rfl rfl (.ren rfl rfl .nil)) rfl trivial rfl) rfl rfl ?_
      obtain ⟨x2352, h2350, H⟩ := bnd H
      refine WPD.eff 5 [0, 1] [] rfl (by kernel_rfl) (runs_call (s := []) (t := []) (N := 2) (bor := []) fn68 rfl (s_quireref09_at k x2071 x2072 x2249 x2352 h2350) ⟨rfl, trivial, by decide, rfl, trivial⟩ rfl trivial (.ren rfl rfl (.ren rfl rfl .nil)) rfl trivial rfl) rfl rfl ?_
      refine WPD.takeT 6 rfl (by kernel_rfl) (q_gtr rfl rfl) rfl ?_
      refine WPD.doneW (by kernel_rfl) ?_
      refine W.now ?_
      refine Then.n ?_
      refine WP.cond (t := (decide (x2352 < x2350))) rfl (fun hb2352 => ?_) (fun hb2352 => ?_)
      · replace H := cnt hb2352 H
        refine WP.seq ?_
        refine WP.region ?_
        refine WPL.q (q_as (v := .lit (.int _ _)) rfl) rfl ?_
        refine WPL.nilW ?_
        refine W.now ?_
        refine Then.n ?_
        refine WP.retW ?_
        refine W.cv (Cv.weak (E' := (Env.none.upd 4 (.lit (.int .i64 1)))) (M' := Mem.nil) [] hnp ⟨rfl, trivial, by decide, rfl, trivial⟩ (LeE.upd rfl rfl (LeE.none rfl rfl))) rfl ?_
        refine W.now ?_
        refine Then.r ?_
        refine InBlock.r ?_
        refine Then.r ?_
        refine Then.r ?_
        have q0 := Option.some.inj H
        subst q0
        exact ⟨rfl, rfl, rfl⟩
      · replace H := cnf hb2352 H
        refine WP.skipW ?_
        refine W.now ?_
        refine Then.n ?_
        refine WP.seq ?_
        refine WP.regionD' 7 [0, 1] [] mixed rfl ?_
        refine WPD.takeT 1 rfl (by kernel_rfl) (q_mv (v := .lit (.int _ _)) rfl) rfl ?_
        refine WPD.takeT 4 rfl (by kernel_rfl) (q_mv (v := .lit (.int _ _)) rfl) rfl ?_
        refine WPD.take 0 rfl (by kernel_rfl) (q_load_ag ag51 rfl rfl (Nat.le_of_ble_eq_true rfl)) rfl rfl ?_
        refine WPD.take 3 rfl (by kernel_rfl) (q_load_ag ag51 rfl rfl (Nat.le_of_ble_eq_true rfl)) rfl rfl ?_
        obtain ⟨x2359, h2357, H⟩ := bnd H
        refine WPD.eff 2 [0, 1] [] rfl (by kernel_rfl) (runs_call (s := []) (t := []) (N := 2) (bor := []) fn68 rfl (s_quireref09_at k x2069 x2070 x2249 x2359 h2357) ⟨rfl, trivial, by decide, rfl, trivial⟩ rfl trivial (.ren rfl rfl (.ren rfl rfl .nil)) rfl trivial rfl) rfl rfl ?_
        obtain ⟨x2361, h2359, H⟩ := bnd H
        refine WPD.eff 5 [0, 1] [] rfl (by kernel_rfl) (runs_call (s := []) (t := []) (N := 2) (bor := []) fn68 rfl (s_quireref09_at k x2071 x2072 x2249 x2361 h2359) ⟨rfl, trivial, by decide, rfl, trivial⟩ rfl trivial (.ren rfl rfl (.ren rfl rfl .nil)) rfl trivial rfl) rfl rfl ?_
        refine WPD.takeT 6 rfl (by kernel_rfl) (q_lss rfl rfl) rfl ?_
        refine WPD.doneW (by kernel_rfl) ?_
        refine W.now ?_
        refine Then.n ?_
        refine WP.cond (t := (decide (x2359 < x2361))) rfl (fun hb2361 => ?_) (fun hb2361 => ?_)
        · replace H := cnt hb2361 H
          refine WP.seq ?_
          refine WP.region ?_
          refine WPL.q (q_as (v := .lit (.int _ _)) rfl) rfl ?_
          refine WPL.nilW ?_
          refine W.now ?_
          refine Then.n ?_
          refine WP.retW ?_
          refine W.cv (Cv.weak (E' := (Env.none.upd 4 (.lit (.int .i64 (-1))))) (M' := Mem.nil) [] hnp ⟨rfl, trivial, by decide, rfl, trivial⟩ (LeE.upd rfl rfl (LeE.none rfl rfl))) rfl ?_
          refine W.now ?_
          refine InBlock.r ?_
          refine Then.r ?_
          refine Then.r ?_
          have q0 := Option.some.inj H
          subst q0
          exact ⟨rfl, rfl, rfl⟩
        · replace H := cnf hb2361 H
          refine WP.skipW ?_
          refine W.now ?_
          refine InBlock.n ?_
          refine Then.n ?_
          refine WP.region ?_
          refine WPL.q (q_mv (v := .lit (.int _ _)) rfl) rfl ?_
          refine WPL.q (q_sub rfl rfl) rfl ?_
          refine WPL.q (q_as (v := .lit (.int _ _)) rfl) rfl ?_
          refine WPL.nilW ?_
          refine W.cv (Cv.weak (E' := (((Env.none.upd 2 (.ptr 0 0)).upd 3 (.ptr 1 0)).upd 5 (.lit (.int .i64 (IntKind.wrap .i64 (x2249 - 1)))))) (M' := ((Mem.nil.push (.cells 51 [.lit (.bool x2069), .ro (Rd.slice (Rd.int .i64)) false x2070])).push (.cells 51 [.lit (.bool x2071), .ro (Rd.slice (Rd.int .i64)) false x2072]))) [0, 1] hnp ⟨rfl, ⟨⟨trivial, .inr ⟨rfl, rfl, rfl⟩⟩, .inr ⟨rfl, rfl, rfl⟩⟩, by decide, rfl, trivial⟩ (LeE.upd rfl rfl (LeE.upd rfl rfl (LeE.upd rfl rfl (LeE.none rfl rfl))))) rfl ?_
          refine W.now ?_
          exact Then.n ⟨n, (IntKind.wrap .i64 (x2249 - 1)), Nat.lt_succ_self n, H, rfl, rfl⟩
    · replace H := cnf hb2307 H
      refine WP.exitW ?_
      refine W.cv (Cv.weak (E' := Env.none) (M' := Mem.nil) [] hnp ⟨rfl, trivial, by decide, rfl, trivial⟩ (LeE.none rfl rfl)) rfl ?_
      refine W.now ?_
      refine Then.x ?_
      refine Then.x ?_
      have q0 := Option.some.inj H
      subst q0
      exact ⟨rfl, rfl, rfl⟩
  · rcases y2364 with x2306 | _
    · rintro _ _ _ ⟨rfl, rfl, rfl⟩
      refine W.now ?_
      refine InBlock.r ?_
      refine Then.r ?_
      have q0 := (Option.some.inj H)
      subst q0
      exact ⟨trivial, _, rfl, [], (.lit (.int .i64 x2306)), Mem.nil, ⟨rfl, trivial, by decide, rfl, trivial⟩, rfl, rfl, rfl, rfl⟩
    · rintro _ _ _ ⟨rfl, rfl, rfl⟩
      refine W.now ?_
      refine InBlock.x0 ?_
      refine Then.n ?_
      refine WP.seq ?_
      refine WP.region ?_
      refine WPL.q (q_as (v := .lit (.int _ _)) rfl) rfl ?_
      refine WPL.nilW ?_
      refine W.now ?_
      refine Then.n ?_
      refine WP.retW ?_
      refine W.now ?_
      have q0 := (Option.some.inj H)
      subst q0
      exact ⟨trivial, _, rfl, [], (.lit (.int .i64 0)), Mem.nil, ⟨rfl, trivial, by decide, rfl, trivial⟩, rfl, rfl, rfl, rfl⟩
set_option maxRecDepth 100000 in
set_option maxHeartbeats 4000000 in
theorem s_quireref09_less (k : Nat) (x2368 : Bool) (x2369 : (List Int)) (x2370 : Bool) (x2371 : (List Int)) (x2486 : (List Int)) (H : g_quireref09_less k x2368 x2369 x2370 x2371 = some x2486) : Go.Q.Spec Try.prog 62 0 [.agg [.lit (.bool x2368), .ro (Rd.slice (Rd.int .i64)) false x2369], .agg [.lit (.bool x2370), .ro (Rd.slice (Rd.int .i64)) false x2371]] Mem.nil (fun o M => o = .ret (.ro (Rd.slice (Rd.int .i64)) false x2486) ∧ M = Mem.nil) := by
  unfold g_quireref09_less at H
  refine Go.Q.Spec.of_bodyR (az := []) (rs := [.tmp 4]) (nt := 34) Try.func62 rfl rfl (by intro t T h; simp at h) rfl rfl fun cx hnp => ?_
  refine WP.seq ?_
  refine WP.region ?_
  refine WPL.d (d_box rfl rfl) rfl ?_
  refine WPL.d (d_box rfl rfl) rfl ?_
  refine WPL.q (q_as (v := .lit _) rfl) rfl ?_
  refine WPL.nilW ?_
  refine W.now ?_
  refine Then.n ?_
  refine WP.seq ?_
  refine WP.region ?_
  refine WPL.q (q_as (v := .lit _) rfl) rfl ?_
  refine WPL.nilW ?_
  refine W.now ?_
  refine Then.n ?_
  refine WP.seq ?_
  refine WP.region ?_
  refine WPL.q (q_as (v := .lit (.int _ _)) rfl) rfl ?_
  refine WPL.nilW ?_
  refine W.now ?_
  refine Then.n ?_
  refine WP.seq ?_
  refine WP.seq ?_
  refine WP.region ?_
  refine WPL.q (q_as (v := .lit (.int _ _)) rfl) rfl ?_
  refine WPL.nilW ?_
  refine W.now ?_
  refine Then.n ?_
  refine WP.block ?_
  refine WP.cv (Cv.vir 3 (Rd.int .i64) (N := 2) rfl 5 rfl) ?_
  refine WP.cv (Cv.weak (E' := (((((Env.none.upd 2 (.ptr 0 0)).upd 3 (.ptr 1 0)).upd 5 (.whole 2)).upd 6 (.lit (.int .i64 0))).upd 7 (.lit (.int .i64 0)))) (M' := (((Mem.nil.push (.cells 51 [.lit (.bool x2368), .ro (Rd.slice (Rd.int .i64)) false x2369])).push (.cells 51 [.lit (.bool x2370), .ro (Rd.slice (Rd.int .i64)) false x2371])).push (.row 3 (Rd.int .i64) ([] : List Int)))) [0, 1, 2] hnp ⟨rfl, ⟨⟨⟨trivial, .inr ⟨rfl, rfl, rfl⟩⟩, .inr ⟨rfl, rfl, rfl⟩⟩, .inr ⟨rfl, rfl, rfl⟩⟩, by decide, rfl, trivial⟩ (LeE.upd rfl rfl (LeE.upd rfl rfl (LeE.upd rfl rfl (LeE.upd rfl rfl (LeE.upd rfl rfl (LeE.none rfl rfl))))))) ?_
  obtain ⟨x2598, H2634, H⟩ := bnd H
  refine WP.monoW (Q := fun x E M => x = .exit 0 ∧ E = (Env.none.upd 5 (.whole 0)) ∧ M = (Mem.nil.push (.row 3 (Rd.int .i64) x2598))) ?_ ?_
  · refine WP.loop (β := Int × Int × (List Int)) (fun n b => g_quireref09_less_l0 k x2368 x2369 x2370 x2371 n b.1 b.2.1 b.2.2 = some x2598) (fun b => (((((Env.none.upd 2 (.ptr 0 0)).upd 3 (.ptr 1 0)).upd 5 (.whole 2)).upd 6 (.lit (.int .i64 b.1))).upd 7 (.lit (.int .i64 b.2.1)))) (fun b => (((Mem.nil.push (.cells 51 [.lit (.bool x2368), .ro (Rd.slice (Rd.int .i64)) false x2369])).push (.cells 51 [.lit (.bool x2370), .ro (Rd.slice (Rd.int .i64)) false x2371])).push (.row 3 (Rd.int .i64) b.2.2))) k (0, 0, ([] : List Int)) H2634 rfl rfl ?_
    rintro n ⟨x2559, x2560, x2561⟩ H
    obtain _ | n := n
    · exact nf rfl H
    rw [g_quireref09_less_l0.eq_2] at H
    show WP _ _ _ _ (((((Env.none.upd 2 (.ptr 0 0)).upd 3 (.ptr 1 0)).upd 5 (.whole 2)).upd 6 (.lit (.int .i64 x2559))).upd 7 (.lit (.int .i64 x2560))) (((Mem.nil.push (.cells 51 [.lit (.bool x2368), .ro (Rd.slice (Rd.int .i64)) false x2369])).push (.cells 51 [.lit (.bool x2370), .ro (Rd.slice (Rd.int .i64)) false x2371])).push (.row 3 (Rd.int .i64) x2561)) _
    refine WP.seq ?_
    refine WP.seq ?_
    refine WP.region ?_
    refine WPL.q (q_mv (v := .lit (.int _ _)) rfl) rfl ?_
    refine WPL.q (q_fieldAddr fi51_1 rfl rfl) rfl ?_
    refine WPL.q (q_load sc49 rfl rfl rfl) rfl ?_
    refine WPL.q (q_len_ro sl49 rfl) rfl ?_
    obtain ⟨x2601, h2601, H⟩ := bnd H
    refine WPL.q (q_nm (q_lss rfl rfl) (nm_bool h2601)) rfl ?_
    refine WPL.nilW ?_
    refine W.now ?_
    refine Then.n ?_
    refine WP.cond (t := x2601) rfl (fun hb2601 => ?_) (fun hb2601 => ?_)
    · replace H := cnt hb2601 H
      refine WP.skipW ?_
      refine W.now ?_
      refine Then.n ?_
      refine WP.seq ?_
      refine WP.block ?_
      refine WP.seq ?_
      refine WP.regionD' 10 [0, 1] [] mixed rfl ?_
      refine WPD.takeT 1 rfl (by kernel_rfl) (q_mv (v := .lit (.int _ _)) rfl) rfl ?_
      refine WPD.takeT 4 rfl (by kernel_rfl) (q_mv (v := .lit (.int _ _)) rfl) rfl ?_
      refine WPD.takeT 7 rfl (by kernel_rfl) (q_mv (v := .lit (.int _ _)) rfl) rfl ?_
      refine WPD.take 0 rfl (by kernel_rfl) (q_load_ag ag51 rfl rfl (Nat.le_of_ble_eq_true rfl)) rfl rfl ?_
      refine WPD.take 3 rfl (by kernel_rfl) (q_load_ag ag51 rfl rfl (Nat.le_of_ble_eq_true rfl)) rfl rfl ?_
      obtain ⟨x2625, h2623, H⟩ := bnd H
      refine WPD.eff 2 [0, 1] [] rfl (by kernel_rfl) (runs_call (s := []) (t := []) (N := 3) (bor := []) fn68 rfl (s_quireref09_at k x2368 x2369 x2560 x2625 h2623) ⟨rfl, trivial, by decide, rfl, trivial⟩ rfl trivial (.ren rfl rfl (.ren rfl rfl .nil)) rfl trivial rfl) rfl rfl ?_
      obtain ⟨x2627, h2625, H⟩ := bnd H
      refine WPD.eff 5 [0, 1] [] rfl (by kernel_rfl) (runs_call (s := []) (t := []) (N := 3) (bor := []) fn68 rfl (s_quireref09_at k x2370 x2371 x2560 x2627 h2625) ⟨rfl, trivial, by decide, rfl, trivial⟩ rfl trivial (.ren rfl rfl (.ren rfl rfl .nil)) rfl trivial rfl) rfl rfl ?_
      refine WPD.takeT 6 rfl (by kernel_rfl) (q_sub rfl rfl) rfl ?_
      obtain ⟨x2628, h2628, H⟩ := bnd H
      refine WPD.takeT 8 rfl (by kernel_rfl) (q_nm (q_sub rfl rfl) (nm_int h2628)) rfl ?_
      refine WPD.takeT 9 rfl (by kernel_rfl) (q_as (v := .lit (.int _ _)) rfl) rfl ?_
      refine WPD.doneW (by kernel_rfl) ?_
      refine W.now ?_
      refine Then.n ?_
      refine WP.seq ?_
      refine WP.region ?_
      refine WPL.q (q_as (v := .lit (.int _ _)) rfl) rfl ?_
      refine WPL.nilW ?_
      refine W.now ?_
      refine Then.n ?_
      refine WP.seq ?_
      obtain ⟨⟨x2630, x2631⟩, H2632, H⟩ := bnd H
      refine WP.monoW (Q := fun x E M => x = .normal ∧ E = ((((((Env.none.upd 2 (.ptr 0 0)).upd 3 (.ptr 1 0)).upd 5 (.whole 2)).upd 6 (.lit (.int .i64 x2630))).upd 7 (.lit (.int .i64 x2560))).upd 8 (.lit (.int .i64 x2631))) ∧ M = (((Mem.nil.push (.cells 51 [.lit (.bool x2368), .ro (Rd.slice (Rd.int .i64)) false x2369])).push (.cells 51 [.lit (.bool x2370), .ro (Rd.slice (Rd.int .i64)) false x2371])).push (.row 3 (Rd.int .i64) x2561))) ?_ ?_
      · clear H
        have H := H2632
        clear H2632
        refine WP.seq ?_
        refine WP.region ?_
        refine WPL.q (q_mv (v := .lit (.int _ _)) rfl) rfl ?_
        refine WPL.q (q_lss rfl rfl) rfl ?_
        refine WPL.nilW ?_
        refine W.now ?_
        refine Then.n ?_
        refine WP.cond (t := (decide (x2628 < 0))) rfl (fun hb2631 => ?_) (fun hb2631 => ?_)
        · replace H := cnt hb2631 H
          refine WP.seq ?_
          refine WP.region ?_
          refine WPL.q (q_mv (v := .lit (.int _ _)) rfl) rfl ?_
          refine WPL.q (q_add rfl rfl) rfl ?_
          refine WPL.q (q_as (v := .lit (.int _ _)) rfl) rfl ?_
          refine WPL.nilW ?_
          refine W.now ?_
          refine Then.n ?_
          refine WP.region ?_
          refine WPL.q (q_as (v := .lit (.int _ _)) rfl) rfl ?_
          refine WPL.nilW ?_
          refine W.cv (Cv.weak (E' := ((((((Env.none.upd 2 (.ptr 0 0)).upd 3 (.ptr 1 0)).upd 5 (.whole 2)).upd 6 (.lit (.int .i64 1))).upd 7 (.lit (.int .i64 x2560))).upd 8 (.lit (.int .i64 (IntKind.wrap .i64 (x2628 + 10)))))) (M' := (((Mem.nil.push (.cells 51 [.lit (.bool x2368), .ro (Rd.slice (Rd.int .i64)) false x2369])).push (.cells 51 [.lit (.bool x2370), .ro (Rd.slice (Rd.int .i64)) false x2371])).push (.row 3 (Rd.int .i64) x2561))) [0, 1, 2] hnp ⟨rfl, ⟨⟨⟨trivial, .inr ⟨rfl, rfl, rfl⟩⟩, .inr ⟨rfl, rfl, rfl⟩⟩, .inr ⟨rfl, rfl, rfl⟩⟩, by decide, rfl, trivial⟩ (LeE.upd rfl rfl (LeE.upd rfl rfl (LeE.upd rfl rfl (LeE.upd rfl rfl (LeE.upd rfl rfl (LeE.upd rfl rfl (LeE.none rfl rfl)))))))) rfl ?_
          refine W.now ?_
          have q0 := (Prod.mk.inj (Option.some.inj H)).1
          have q1 := (Prod.mk.inj (Option.some.inj H)).2
          subst q0
          subst q1
          exact ⟨rfl, rfl, rfl⟩
        · replace H := cnf hb2631 H
          refine WP.skipW ?_
          refine W.cv (Cv.weak (E' := ((((((Env.none.upd 2 (.ptr 0 0)).upd 3 (.ptr 1 0)).upd 5 (.whole 2)).upd 6 (.lit (.int .i64 0))).upd 7 (.lit (.int .i64 x2560))).upd 8 (.lit (.int .i64 x2628)))) (M' := (((Mem.nil.push (.cells 51 [.lit (.bool x2368), .ro (Rd.slice (Rd.int .i64)) false x2369])).push (.cells 51 [.lit (.bool x2370), .ro (Rd.slice (Rd.int .i64)) false x2371])).push (.row 3 (Rd.int .i64) x2561))) [0, 1, 2] hnp ⟨rfl, ⟨⟨⟨trivial, .inr ⟨rfl, rfl, rfl⟩⟩, .inr ⟨rfl, rfl, rfl⟩⟩, .inr ⟨rfl, rfl, rfl⟩⟩, by decide, rfl, trivial⟩ (LeE.upd rfl rfl (LeE.upd rfl rfl (LeE.upd rfl rfl (LeE.upd rfl rfl (LeE.upd rfl rfl (LeE.upd rfl rfl (LeE.none rfl rfl)))))))) rfl ?_
          refine W.now ?_
          have q0 := (Prod.mk.inj (Option.some.inj H)).1
          have q1 := (Prod.mk.inj (Option.some.inj H)).2
          subst q0
          subst q1
          exact ⟨rfl, rfl, rfl⟩
      · rintro _ _ _ ⟨rfl, rfl, rfl⟩
        refine W.now ?_
        refine Then.n ?_
        refine WP.region ?_
        refine WPL.q (q_mv (v := .whole _) rfl) rfl ?_
        refine WPL.q (q_mv (v := .lit (.int _ _)) rfl) rfl ?_
        refine WPL.d (d_buildSlice (ds := ([x2631] : List Int)) (R := (Rd.int .i64)) li49 rfl rfl rfl rfl rfl (JoinRows.cons1 Joins.sc rfl JoinRows.nil) rfl rfl) rfl ?_
        obtain ⟨h2633, H⟩ := grd H
        refine WPL.d (d_append ap49 rfl rfl rfl rfl (src_row sl49 rfl rfl) h2633 rfl) rfl ?_
        refine WPL.q (q_as (v := .whole _) rfl) rfl ?_
        refine WPL.nilW ?_
        refine W.now ?_
        refine InBlock.n ?_
        refine Then.n ?_
        refine WP.region ?_
        refine WPL.q (q_mv (v := .lit (.int _ _)) rfl) rfl ?_
        refine WPL.q (q_add rfl rfl) rfl ?_
        refine WPL.q (q_as (v := .lit (.int _ _)) rfl) rfl ?_
        refine WPL.nilW ?_
        refine W.cv (Cv.weak (E' := (((((Env.none.upd 2 (.ptr 0 0)).upd 3 (.ptr 1 0)).upd 5 (.whole 2)).upd 6 (.lit (.int .i64 x2630))).upd 7 (.lit (.int .i64 (IntKind.wrap .i64 (x2560 + 1)))))) (M' := (((Mem.nil.push (.cells 51 [.lit (.bool x2368), .ro (Rd.slice (Rd.int .i64)) false x2369])).push (.cells 51 [.lit (.bool x2370), .ro (Rd.slice (Rd.int .i64)) false x2371])).push (.row 3 (Rd.int .i64) (x2561 ++ ([x2631] : List Int))))) [0, 1, 4] hnp ⟨rfl, ⟨⟨⟨trivial, .inr ⟨rfl, rfl, rfl⟩⟩, .inr ⟨rfl, rfl, rfl⟩⟩, .inr ⟨rfl, rfl, rfl⟩⟩, by decide, rfl, trivial⟩ (LeE.upd rfl rfl (LeE.upd rfl rfl (LeE.upd rfl rfl (LeE.upd rfl rfl (LeE.upd rfl rfl (LeE.none rfl rfl))))))) rfl ?_
        refine W.now ?_
        exact Then.n ⟨n, (x2630, (IntKind.wrap .i64 (x2560 + 1)), (x2561 ++ ([x2631] : List Int))), Nat.lt_succ_self n, H, rfl, rfl⟩
    · replace H := cnf hb2601 H
      refine WP.exitW ?_
      refine W.cv (Cv.weak (E' := (Env.none.upd 5 (.whole 0))) (M' := (Mem.nil.push (.row 3 (Rd.int .i64) x2561))) [2] hnp ⟨rfl, ⟨trivial, .inr ⟨rfl, rfl, rfl⟩⟩, by decide, rfl, trivial⟩ (LeE.upd rfl rfl (LeE.none rfl rfl))) rfl ?_
      refine W.now ?_
      refine Then.x ?_
      refine Then.x ?_
      have q0 := (Option.some.inj H)
      subst q0
      exact ⟨rfl, rfl, rfl⟩
  · rintro _ _ _ ⟨rfl, rfl, rfl⟩
    refine W.now ?_
    refine InBlock.x0 ?_
    refine Then.n ?_
    refine WP.seq ?_
    refine WP.region ?_
    refine WPL.q (q_mv (v := .whole _) rfl) rfl ?_
    refine WPL.q (q_as (v := .whole _) rfl) rfl ?_
    refine WPL.nilW ?_
    refine W.now ?_
    refine Then.n ?_
    refine WP.retW ?_
    refine W.cv (Cv.frzRow (i := 0) rfl rfl hnp rfl rfl) rfl ?_
    refine W.now ?_
    have q0 := (Option.some.inj H)
    subst q0
    exact ⟨trivial, _, rfl, [], (.ro (Rd.slice (Rd.int .i64)) false x2598), Mem.nil, ⟨rfl, trivial, by decide, rfl, trivial⟩, rfl, rfl, rfl, rfl⟩
end Go.Proofs.Ytdbeblgfccjbgaa.W
namespace Go.Proofs.Ytdbeblgfccjbgaa.W
open Go Go.Q Go.Proofs
set_option linter.unusedVariables false
set_option linter.unusedSimpArgs false
set_option maxRecDepth 100000 in
set_option maxHeartbeats 4000000 in
theorem s_quireref09_Plus (k : Nat) (x1675 : Bool) (x1676 : (List Int)) (x1677 : Bool) (x1678 : (List Int)) (x2669 : Bool) (x2670 : (List Int)) (H : g_quireref09_Plus k x1675 x1676 x1677 x1678 = some (x2669, x2670)) : Go.Q.Spec Try.prog 40 0 [.agg [.lit (.bool x1675), .ro (Rd.slice (Rd.int .i64)) false x1676], .agg [.lit (.bool x1677), .ro (Rd.slice (Rd.int .i64)) false x1678]] Mem.nil (fun o M => o = .ret (.agg [.lit (.bool x2669), .ro (Rd.slice (Rd.int .i64)) false x2670]) ∧ M = (Mem.nil.push (.cells 51 [.lit (.bool x2669), .ro (Rd.slice (Rd.int .i64)) false x2670]))) := by
  unfold g_quireref09_Plus at H
  refine Go.Q.Spec.of_bodyR (az := [(51, 2)]) (rs := [.cell 4 51]) (nt := 35) Try.func40 rfl rfl (by intro t T h; simp at h; rcases h with ⟨rfl, rfl⟩ <;> first | exact ag51) rfl rfl fun cx hnp => ?_
  refine WP.seq ?_
  refine WP.region ?_
  refine WPL.d (d_box rfl rfl) rfl ?_
  refine WPL.d (d_box rfl rfl) rfl ?_
  refine WPL.d (d_alloc ze51 rfl) rfl ?_
  refine WPL.nilW ?_
  refine W.now ?_
  refine Then.n ?_
  refine WP.seq ?_
  refine WP.seq ?_
  refine WP.region ?_
  refine WPL.q (q_fieldAddr fi51_0 rfl rfl) rfl ?_
  refine WPL.q (q_load sc4 rfl rfl rfl) rfl ?_
  refine WPL.q (q_fieldAddr fi51_0 rfl rfl) rfl ?_
  refine WPL.q (q_load sc4 rfl rfl rfl) rfl ?_
  refine WPL.q (q_eqlb Try.underlying4 rfl rfl) rfl ?_
  refine WPL.nilW ?_
  refine W.now ?_
  refine Then.n ?_
  refine WP.cond (t := (x1675 == x1677)) rfl (fun hb2681 => ?_) (fun hb2681 => ?_)
  · replace H := cnt hb2681 H
    refine WP.seq ?_
    refine WP.regionD' 8 [0, 1] [] mixed rfl ?_
    refine WPD.takeT 0 rfl (by kernel_rfl) (q_fieldAddr fi51_0 rfl rfl) rfl ?_
    refine WPD.take 1 rfl (by kernel_rfl) (q_load sc4 rfl rfl rfl) rfl rfl ?_
    refine WPD.take 2 rfl (by kernel_rfl) (q_load_ag ag51 rfl rfl (Nat.le_of_ble_eq_true rfl)) rfl rfl ?_
    refine WPD.take 3 rfl (by kernel_rfl) (q_load_ag ag51 rfl rfl (Nat.le_of_ble_eq_true rfl)) rfl rfl ?_
    obtain ⟨x2689, h2687, H⟩ := bnd H
    refine WPD.eff 4 [0, 1] [] rfl (by kernel_rfl) (runs_call (s := []) (t := []) (N := 3) (bor := []) fn65 rfl (s_quireref09_sum k x1675 x1676 x1677 x1678 x2689 h2687) ⟨rfl, trivial, by decide, rfl, trivial⟩ rfl trivial (.ren rfl rfl (.ren rfl rfl .nil)) rfl trivial rfl) rfl rfl ?_
    refine WPD.takeT 5 rfl (by kernel_rfl) (q_build bu51 rfl) rfl ?_
    obtain ⟨⟨x2691, x2692⟩, h2689, H⟩ := bnd H
    refine WPD.eff 6 [0, 1] [] rfl (by kernel_rfl) (runs_call (s := []) (t := [3]) (N := 4) (bor := []) fn36 rfl (s_quireref09_trim__b k x1675 x2689 x2691 x2692 h2689) ⟨rfl, trivial, by decide, rfl, trivial⟩ rfl trivial (.ren rfl rfl .nil) rfl ⟨trivial, rfl⟩ rfl) rfl rfl ?_
    refine WPD.effS 7 [0, 1] [] rfl (by kernel_rfl) (s_store sz51 rfl rfl rfl rfl rfl) rfl ?_
    refine WPD.doneW (by kernel_rfl) ?_
    refine W.now ?_
    refine Then.n ?_
    refine WP.retW ?_
    refine W.now ?_
    refine Then.r ?_
    have q0 := (Prod.mk.inj (Option.some.inj H)).1
    have q1 := (Prod.mk.inj (Option.some.inj H)).2
    subst q0
    subst q1
    exact ⟨trivial, _, rfl, [2], (.agg [.lit (.bool x2691), .ro (Rd.slice (Rd.int .i64)) false x2692]), (Mem.nil.push (.cells 51 [.lit (.bool x2691), .ro (Rd.slice (Rd.int .i64)) false x2692])), ⟨rfl, ⟨trivial, .inr ⟨rfl, rfl, rfl⟩⟩, by decide, rfl, trivial⟩, rfl, rfl, rfl, rfl⟩
  · replace H := cnf hb2681 H
    refine WP.skipW ?_
    refine W.now ?_
    refine Then.n ?_
    refine WP.seq ?_
    refine WP.seq ?_
    refine WP.region ?_
    refine WPL.q (q_load_ag ag51 rfl rfl (Nat.le_of_ble_eq_true rfl)) rfl ?_
    refine WPL.q (q_load_ag ag51 rfl rfl (Nat.le_of_ble_eq_true rfl)) rfl ?_
    obtain ⟨x2707, h2705, H⟩ := bnd H
    refine WPL.c (runs_call (s := []) (t := []) (N := 3) (bor := []) fn61 rfl (s_quireref09_more k x1675 x1676 x1677 x1678 x2707 h2705) ⟨rfl, trivial, by decide, rfl, trivial⟩ rfl trivial (.ren rfl rfl (.ren rfl rfl .nil)) rfl trivial rfl) rfl ?_
    refine WPL.q (q_geq rfl rfl) rfl ?_
    refine WPL.nilW ?_
    refine W.now ?_
    refine Then.n ?_
    refine WP.cond (t := (decide (0 ≤ x2707))) rfl (fun hb2707 => ?_) (fun hb2707 => ?_)
    · replace H := cnt hb2707 H
      refine WP.seq ?_
      refine WP.regionD' 8 [0, 1] [] mixed rfl ?_
      refine WPD.takeT 0 rfl (by kernel_rfl) (q_fieldAddr fi51_0 rfl rfl) rfl ?_
      refine WPD.take 1 rfl (by kernel_rfl) (q_load sc4 rfl rfl rfl) rfl rfl ?_
      refine WPD.take 2 rfl (by kernel_rfl) (q_load_ag ag51 rfl rfl (Nat.le_of_ble_eq_true rfl)) rfl rfl ?_
      refine WPD.take 3 rfl (by kernel_rfl) (q_load_ag ag51 rfl rfl (Nat.le_of_ble_eq_true rfl)) rfl rfl ?_
      obtain ⟨x2715, h2713, H⟩ := bnd H
      refine WPD.eff 4 [0, 1] [] rfl (by kernel_rfl) (runs_call (s := []) (t := []) (N := 3) (bor := []) fn62 rfl (s_quireref09_less k x1675 x1676 x1677 x1678 x2715 h2713) ⟨rfl, trivial, by decide, rfl, trivial⟩ rfl trivial (.ren rfl rfl (.ren rfl rfl .nil)) rfl trivial rfl) rfl rfl ?_
      refine WPD.takeT 5 rfl (by kernel_rfl) (q_build bu51 rfl) rfl ?_
      obtain ⟨⟨x2717, x2718⟩, h2715, H⟩ := bnd H
      refine WPD.eff 6 [0, 1] [] rfl (by kernel_rfl) (runs_call (s := []) (t := [3]) (N := 4) (bor := []) fn36 rfl (s_quireref09_trim__b k x1675 x2715 x2717 x2718 h2715) ⟨rfl, trivial, by decide, rfl, trivial⟩ rfl trivial (.ren rfl rfl .nil) rfl ⟨trivial, rfl⟩ rfl) rfl rfl ?_
      refine WPD.effS 7 [0, 1] [] rfl (by kernel_rfl) (s_store sz51 rfl rfl rfl rfl rfl) rfl ?_
      refine WPD.doneW (by kernel_rfl) ?_
      refine W.now ?_
      refine Then.n ?_
      refine WP.retW ?_
      refine W.now ?_
      refine Then.r ?_
      have q0 := (Prod.mk.inj (Option.some.inj H)).1
      have q1 := (Prod.mk.inj (Option.some.inj H)).2
      subst q0
      subst q1
      exact ⟨trivial, _, rfl, [2], (.agg [.lit (.bool x2717), .ro (Rd.slice (Rd.int .i64)) false x2718]), (Mem.nil.push (.cells 51 [.lit (.bool x2717), .ro (Rd.slice (Rd.int .i64)) false x2718])), ⟨rfl, ⟨trivial, .inr ⟨rfl, rfl, rfl⟩⟩, by decide, rfl, trivial⟩, rfl, rfl, rfl, rfl⟩
    · replace H := cnf hb2707 H
      refine WP.skipW ?_
      refine W.now ?_
      refine Then.n ?_
      refine WP.seq ?_
      refine WP.regionD' 8 [0, 1] [] mixed rfl ?_
      refine WPD.takeT 0 rfl (by kernel_rfl) (q_fieldAddr fi51_0 rfl rfl) rfl ?_
      refine WPD.take 1 rfl (by kernel_rfl) (q_load sc4 rfl rfl rfl) rfl rfl ?_
      refine WPD.take 2 rfl (by kernel_rfl) (q_load_ag ag51 rfl rfl (Nat.le_of_ble_eq_true rfl)) rfl rfl ?_
      refine WPD.take 3 rfl (by kernel_rfl) (q_load_ag ag51 rfl rfl (Nat.le_of_ble_eq_true rfl)) rfl rfl ?_
      obtain ⟨x2725, h2723, H⟩ := bnd H
      refine WPD.eff 4 [0, 1] [] rfl (by kernel_rfl) (runs_call (s := []) (t := []) (N := 3) (bor := []) fn62 rfl (s_quireref09_less k x1677 x1678 x1675 x1676 x2725 h2723) ⟨rfl, trivial, by decide, rfl, trivial⟩ rfl trivial (.ren rfl rfl (.ren rfl rfl .nil)) rfl trivial rfl) rfl rfl ?_
      refine WPD.takeT 5 rfl (by kernel_rfl) (q_build bu51 rfl) rfl ?_
      obtain ⟨⟨x2727, x2728⟩, h2725, H⟩ := bnd H
      refine WPD.eff 6 [0, 1] [] rfl (by kernel_rfl) (runs_call (s := []) (t := [3]) (N := 4) (bor := []) fn36 rfl (s_quireref09_trim__b k x1677 x2725 x2727 x2728 h2725) ⟨rfl, trivial, by decide, rfl, trivial⟩ rfl trivial (.ren rfl rfl .nil) rfl ⟨trivial, rfl⟩ rfl) rfl rfl ?_
      refine WPD.effS 7 [0, 1] [] rfl (by kernel_rfl) (s_store sz51 rfl rfl rfl rfl rfl) rfl ?_
      refine WPD.doneW (by kernel_rfl) ?_
      refine W.now ?_
      refine Then.n ?_
      refine WP.retW ?_
      refine W.now ?_
      have q0 := (Prod.mk.inj (Option.some.inj H)).1
      have q1 := (Prod.mk.inj (Option.some.inj H)).2
      subst q0
      subst q1
      exact ⟨trivial, _, rfl, [2], (.agg [.lit (.bool x2727), .ro (Rd.slice (Rd.int .i64)) false x2728]), (Mem.nil.push (.cells 51 [.lit (.bool x2727), .ro (Rd.slice (Rd.int .i64)) false x2728])), ⟨rfl, ⟨trivial, .inr ⟨rfl, rfl, rfl⟩⟩, by decide, rfl, trivial⟩, rfl, rfl, rfl, rfl⟩
set_option maxRecDepth 100000 in
set_option maxHeartbeats 4000000 in
theorem s_quireref09_fits (k : Nat) (x3613 : Bool) (x3614 : (List Int)) (x3626 : Bool) (H : g_quireref09_fits k x3613 x3614 = some x3626) : Go.Q.Spec Try.prog 63 0 [.agg [.lit (.bool x3613), .ro (Rd.slice (Rd.int .i64)) false x3614]] Mem.nil (fun o M => o = .ret (.lit (.bool x3626)) ∧ M = Mem.nil) := by
  unfold g_quireref09_fits at H
  refine Go.Q.Spec.of_bodyR (az := []) (rs := [.tmp 2]) (nt := 22) Try.func63 rfl rfl (by intro t T h; simp at h) rfl rfl fun cx hnp => ?_
  refine WP.seq ?_
  refine WP.region ?_
  refine WPL.d (d_box rfl rfl) rfl ?_
  refine WPL.q (q_as (v := .lit (.bool _)) rfl) rfl ?_
  refine WPL.nilW ?_
  refine W.now ?_
  refine Then.n ?_
  refine WP.seq ?_
  refine WP.region ?_
  obtain ⟨x3628, h3626, H⟩ := bnd H
  refine WPL.c (runs_call (s := []) (t := [1]) (N := 2) (bor := []) fn43 rfl (s_quireref09_Of k (-9223372036854775808) x3628 h3626) ⟨rfl, trivial, by decide, rfl, trivial⟩ rfl trivial (.ren rfl rfl .nil) rfl ⟨trivial, rfl⟩ rfl) rfl ?_
  refine WPL.d (d_alloc ze51 rfl) rfl ?_
  refine WPL.s (s_store sz51 rfl rfl rfl rfl rfl) ?_
  refine WPL.nilW ?_
  refine W.now ?_
  refine Then.n ?_
  refine WP.seq ?_
  refine WP.region ?_
  refine WPL.q (q_fieldAddr fi51_0 rfl rfl) rfl ?_
  refine WPL.q (q_load sc4 rfl rfl rfl) rfl ?_
  refine WPL.q (q_fieldAddr fi51_0 rfl rfl) rfl ?_
  refine WPL.s (s_store sz4 rfl rfl rfl rfl rfl) ?_
  refine WPL.nilW ?_
  refine W.now ?_
  refine Then.n ?_
  refine WP.seq ?_
  refine WP.region ?_
  refine WPL.q (q_load_ag ag51 rfl rfl (Nat.le_of_ble_eq_true rfl)) rfl ?_
  refine WPL.q (q_load_ag ag51 rfl rfl (Nat.le_of_ble_eq_true rfl)) rfl ?_
  obtain ⟨x3630, h3628, H⟩ := bnd H
  refine WPL.c (runs_call (s := []) (t := []) (N := 3) (bor := []) fn61 rfl (s_quireref09_more k x3613 x3614 x3613 x3628 x3630 h3628) ⟨rfl, trivial, by decide, rfl, trivial⟩ rfl trivial (.ren rfl rfl (.ren rfl rfl .nil)) rfl trivial rfl) rfl ?_
  refine WPL.q (q_as (v := .lit (.int _ _)) rfl) rfl ?_
  refine WPL.nilW ?_
  refine W.now ?_
  refine Then.n ?_
  refine WP.seq ?_
  obtain ⟨x3633, H3635, H⟩ := bnd H
  refine WP.monoW (Q := fun x E M => x = .normal ∧ E = (Env.none.upd 2 (.lit (.bool x3633))) ∧ M = Mem.nil) ?_ ?_
  · clear H
    have H := H3635
    clear H3635
    refine WP.region ?_
    refine WPL.q (q_mv (v := .lit (.int _ _)) rfl) rfl ?_
    refine WPL.q (q_lss rfl rfl) rfl ?_
    refine WPL.q (q_mv (v := .lit (.bool _)) rfl) rfl ?_
    refine WPL.split (t := 14) (b := (decide (x3630 < 0))) rfl (fun hb3633 => ?_) (fun hb3633 => ?_)
    · replace H := cnt hb3633 H
      refine WPL.skipg (b' := true) rfl rfl (lb hb3633) rfl rfl ?_
      refine WPL.skipg (b' := true) rfl rfl (lb hb3633) rfl rfl ?_
      refine WPL.skipg (b' := true) rfl rfl (lb hb3633) rfl rfl ?_
      refine WPL.skipu rfl rfl rfl rfl ?_
      refine WPL.skipu rfl rfl rfl rfl ?_
      refine WPL.skipg (b' := true) rfl rfl (lb hb3633) rfl rfl ?_
      refine WPL.q (q_pickT (v := .lit (.bool _)) (lb hb3633) rfl) rfl ?_
      refine WPL.q (q_as (v := .lit (.bool _)) rfl) rfl ?_
      refine WPL.nilW ?_
      refine W.cv (Cv.weak (E' := (Env.none.upd 2 (.lit (.bool true)))) (M' := Mem.nil) [] hnp ⟨rfl, trivial, by decide, rfl, trivial⟩ (LeE.upd rfl rfl (LeE.none rfl rfl))) rfl ?_
      refine W.now ?_
      have q0 := (Option.some.inj H)
      subst q0
      exact ⟨rfl, rfl, rfl⟩
    · replace H := cnf hb3633 H
      refine WPL.qg rfl rfl (lb hb3633) (q_mv (v := .lit (.int _ _)) rfl) rfl ?_
      refine WPL.qg rfl rfl (lb hb3633) (q_eql rfl rfl) rfl ?_
      refine WPL.qg rfl rfl (lb hb3633) (q_mv (v := .lit (.bool _)) rfl) rfl ?_
      refine WPL.split (t := 17) (b := (decide (x3630 = 0))) rfl (fun hb3634 => ?_) (fun hb3634 => ?_)
      · replace H := cnt hb3634 H
        refine WPL.qg rfl rfl (lb hb3634) (q_fieldAddr fi51_0 rfl rfl) rfl ?_
        refine WPL.qg rfl rfl (lb hb3634) (q_load sc4 rfl rfl rfl) rfl ?_
        refine WPL.qg rfl rfl (lb hb3633) (q_pickT (v := .lit (.bool _)) (lb hb3634) rfl) rfl ?_
        refine WPL.q (q_pickF (v := .lit (.bool _)) (lb hb3633) rfl) rfl ?_
        refine WPL.q (q_as (v := .lit (.bool _)) rfl) rfl ?_
        refine WPL.nilW ?_
        refine W.cv (Cv.weak (E' := (Env.none.upd 2 (.lit (.bool x3613)))) (M' := Mem.nil) [] hnp ⟨rfl, trivial, by decide, rfl, trivial⟩ (LeE.upd rfl rfl (LeE.none rfl rfl))) rfl ?_
        refine W.now ?_
        have q0 := (Option.some.inj H)
        subst q0
        exact ⟨rfl, rfl, rfl⟩
      · replace H := cnf hb3634 H
        refine WPL.skipg (b' := false) rfl rfl (lb hb3634) rfl rfl ?_
        refine WPL.skipg (b' := false) rfl rfl (lb hb3634) rfl rfl ?_
        refine WPL.qg rfl rfl (lb hb3633) (q_pickF (v := .lit (.bool _)) (lb hb3634) rfl) rfl ?_
        refine WPL.q (q_pickF (v := .lit (.bool _)) (lb hb3633) rfl) rfl ?_
        refine WPL.q (q_as (v := .lit (.bool _)) rfl) rfl ?_
        refine WPL.nilW ?_
        refine W.cv (Cv.weak (E' := (Env.none.upd 2 (.lit (.bool false)))) (M' := Mem.nil) [] hnp ⟨rfl, trivial, by decide, rfl, trivial⟩ (LeE.upd rfl rfl (LeE.none rfl rfl))) rfl ?_
        refine W.now ?_
        have q0 := (Option.some.inj H)
        subst q0
        exact ⟨rfl, rfl, rfl⟩
  · rintro _ _ _ ⟨rfl, rfl, rfl⟩
    refine W.now ?_
    refine Then.n ?_
    refine WP.retW ?_
    refine W.now ?_
    have q0 := (Option.some.inj H)
    subst q0
    exact ⟨trivial, _, rfl, [], (.lit (.bool x3633)), Mem.nil, ⟨rfl, trivial, by decide, rfl, trivial⟩, rfl, rfl, rfl, rfl⟩
set_option maxRecDepth 100000 in
set_option maxHeartbeats 4000000 in
theorem s_quireref09_Tell (k : Nat) (x3493 : Bool) (x3494 : (List Int)) (x3495 : Int) (x3690 : Int) (x3691 : Int) (x3692 : Int) (H : g_quireref09_Tell k x3493 x3494 x3495 = some (x3690, x3691, x3692)) : Go.Q.Spec Try.prog 35 0 [.agg [.lit (.bool x3493), .ro (Rd.slice (Rd.int .i64)) false x3494, .lit (.int .i64 x3495)]] Mem.nil (fun o M => o = .ret (.tup [.agg [.lit (.int .i64 x3691), .lit (.int .i64 x3692)], .lit (.int .i64 x3690)]) ∧ M = (Mem.nil.push (.cells 23 [.lit (.int .i64 x3691), .lit (.int .i64 x3692)]))) := by
  unfold g_quireref09_Tell at H
  refine Go.Q.Spec.of_bodyR (az := [(23, 2)]) (rs := [.cell 2 23, .tmp 3]) (nt := 93) Try.func35 rfl rfl (by intro t T h; simp at h; rcases h with ⟨rfl, rfl⟩ <;> first | exact ag23) rfl rfl fun cx hnp => ?_
  refine WP.seq ?_
  refine WP.region ?_
  refine WPL.d (d_box rfl rfl) rfl ?_
  refine WPL.d (d_alloc ze23 rfl) rfl ?_
  refine WPL.q (q_as (v := .lit (.int _ _)) rfl) rfl ?_
  refine WPL.nilW ?_
  refine W.now ?_
  refine Then.n ?_
  refine WP.seq ?_
  refine WP.regionD' 7 [0] [] mixed rfl ?_
  refine WPD.takeT 0 rfl (by kernel_rfl) (q_fieldAddr fi53_0 rfl rfl) rfl ?_
  refine WPD.takeT 2 rfl (by kernel_rfl) (q_fieldAddr fi53_1 rfl rfl) rfl ?_
  refine WPD.take 1 rfl (by kernel_rfl) (q_load_ag ag51 rfl rfl (Nat.le_of_ble_eq_true rfl)) rfl rfl ?_
  refine WPD.take 3 rfl (by kernel_rfl) (q_load sc3 rfl rfl rfl) rfl rfl ?_
  refine WPD.eff 4 [0] [] rfl (by kernel_rfl) (Does.runs (d_alloc ze51 rfl)) rfl rfl ?_
  refine WPD.effS 5 [0] [] rfl (by kernel_rfl) (s_store sz51 rfl rfl rfl rfl rfl) rfl ?_
  refine WPD.takeT 6 rfl (by kernel_rfl) (q_as (v := .lit (.int _ _)) rfl) rfl ?_
  refine WPD.doneW (by kernel_rfl) ?_
  refine W.now ?_
  refine Then.n ?_
  refine WP.seq ?_
  refine WP.seq ?_
  refine WP.region ?_
  refine WPL.q (q_fieldAddr fi51_1 rfl rfl) rfl ?_
  refine WPL.q (q_load sc49 rfl rfl rfl) rfl ?_
  refine WPL.q (q_len_ro sl49 rfl) rfl ?_
  obtain ⟨x3695, h3695, H⟩ := bnd H
  refine WPL.q (q_nm (q_eql rfl rfl) (nm_bool h3695)) rfl ?_
  refine WPL.nilW ?_
  refine W.now ?_
  refine Then.n ?_
  refine WP.cond (t := x3695) rfl (fun hb3695 => ?_) (fun hb3695 => ?_)
  · replace H := cnt hb3695 H
    refine WP.seq ?_
    refine WP.region ?_
    refine WPL.q (q_build bu23 rfl) rfl ?_
    refine WPL.s (s_store sz23 rfl rfl rfl rfl rfl) ?_
    refine WPL.q (q_as (v := .lit (.int _ _)) rfl) rfl ?_
    refine WPL.nilW ?_
    refine W.now ?_
    refine Then.n ?_
    refine WP.retW ?_
    refine W.now ?_
    refine Then.r ?_
    have q0 := (Prod.mk.inj (Option.some.inj H)).1
    have q1 := (Prod.mk.inj (Prod.mk.inj (Option.some.inj H)).2).1
    have q2 := (Prod.mk.inj (Prod.mk.inj (Option.some.inj H)).2).2
    subst q0
    subst q1
    subst q2
    exact ⟨trivial, _, rfl, [1], (.tup [.agg [.lit (.int .i64 0), .lit (.int .i64 0)], .lit (.int .i64 0)]), (Mem.nil.push (.cells 23 [.lit (.int .i64 0), .lit (.int .i64 0)])), ⟨rfl, ⟨trivial, .inr ⟨rfl, rfl, rfl⟩⟩, by decide, rfl, trivial⟩, rfl, rfl, rfl, rfl⟩
  · replace H := cnf hb3695 H
    refine WP.skipW ?_
    refine W.now ?_
    refine Then.n ?_
    refine WP.seq ?_
    refine WP.seq ?_
    refine WP.region ?_
    refine WPL.q (q_mv (v := .lit (.int _ _)) rfl) rfl ?_
    refine WPL.q (q_gtr rfl rfl) rfl ?_
    refine WPL.nilW ?_
    refine W.now ?_
    refine Then.n ?_
    refine WP.cond (t := (decide (60 < x3495))) rfl (fun hb3697 => ?_) (fun hb3697 => ?_)
    · replace H := cnt hb3697 H
      refine WP.seq ?_
      refine WP.region ?_
      refine WPL.q (q_build bu23 rfl) rfl ?_
      refine WPL.s (s_store sz23 rfl rfl rfl rfl rfl) ?_
      refine WPL.q (q_as (v := .lit (.int _ _)) rfl) rfl ?_
      refine WPL.nilW ?_
      refine W.now ?_
      refine Then.n ?_
      refine WP.retW ?_
      refine W.now ?_
      refine Then.r ?_
      have q0 := (Prod.mk.inj (Option.some.inj H)).1
      have q1 := (Prod.mk.inj (Prod.mk.inj (Option.some.inj H)).2).1
      have q2 := (Prod.mk.inj (Prod.mk.inj (Option.some.inj H)).2).2
      subst q0
      subst q1
      subst q2
      exact ⟨trivial, _, rfl, [1], (.tup [.agg [.lit (.int .i64 0), .lit (.int .i64 0)], .lit (.int .i64 30)]), (Mem.nil.push (.cells 23 [.lit (.int .i64 0), .lit (.int .i64 0)])), ⟨rfl, ⟨trivial, .inr ⟨rfl, rfl, rfl⟩⟩, by decide, rfl, trivial⟩, rfl, rfl, rfl, rfl⟩
    · replace H := cnf hb3697 H
      refine WP.skipW ?_
      refine W.now ?_
      refine Then.n ?_
      refine WP.seq ?_
      refine WP.block ?_
      refine WP.cv (Cv.weak (E' := (((Env.none.upd 2 (.ptr 0 0)).upd 4 (.ptr 1 0)).upd 5 (.lit (.int .i64 x3495)))) (M' := ((Mem.nil.push (.cells 23 [.lit (.int .i64 0), .lit (.int .i64 0)])).push (.cells 51 [.lit (.bool x3493), .ro (Rd.slice (Rd.int .i64)) false x3494]))) [1, 2] hnp ⟨rfl, ⟨⟨trivial, .inr ⟨rfl, rfl, rfl⟩⟩, .inr ⟨rfl, rfl, rfl⟩⟩, by decide, rfl, trivial⟩ (LeE.upd rfl rfl (LeE.upd rfl rfl (LeE.upd rfl rfl (LeE.none rfl rfl))))) ?_
      obtain ⟨⟨x3762, x3763, x3764⟩, H3794, H⟩ := bnd H
      refine WP.monoW (Q := fun x E M => x = .exit 0 ∧ E = (((Env.none.upd 2 (.ptr 0 0)).upd 4 (.ptr 1 0)).upd 5 (.lit (.int .i64 x3762))) ∧ M = ((Mem.nil.push (.cells 23 [.lit (.int .i64 0), .lit (.int .i64 0)])).push (.cells 51 [.lit (.bool x3763), .ro (Rd.slice (Rd.int .i64)) false x3764]))) ?_ ?_
      · refine WP.loop (β := Int × Bool × (List Int)) (fun n b => g_quireref09_Tell_l0 k n b.1 b.2.1 b.2.2 = some (x3762, x3763, x3764)) (fun b => (((Env.none.upd 2 (.ptr 0 0)).upd 4 (.ptr 1 0)).upd 5 (.lit (.int .i64 b.1)))) (fun b => ((Mem.nil.push (.cells 23 [.lit (.int .i64 0), .lit (.int .i64 0)])).push (.cells 51 [.lit (.bool b.2.1), .ro (Rd.slice (Rd.int .i64)) false b.2.2]))) k (x3495, x3493, x3494) H3794 rfl rfl ?_
        rintro n ⟨x3729, x3730, x3731⟩ H
        obtain _ | n := n
        · exact nf rfl H
        rw [g_quireref09_Tell_l0.eq_2] at H
        show WP _ _ _ _ (((Env.none.upd 2 (.ptr 0 0)).upd 4 (.ptr 1 0)).upd 5 (.lit (.int .i64 x3729))) ((Mem.nil.push (.cells 23 [.lit (.int .i64 0), .lit (.int .i64 0)])).push (.cells 51 [.lit (.bool x3730), .ro (Rd.slice (Rd.int .i64)) false x3731])) _
        refine WP.seq ?_
        refine WP.seq ?_
        obtain ⟨x3777, H3780, H⟩ := bnd H
        refine WP.monoW (Q := fun x E M => x = .normal ∧ E = ((((Env.none.upd 2 (.ptr 0 0)).upd 4 (.ptr 1 0)).upd 5 (.lit (.int .i64 x3729))).upd 30 (.lit (.bool x3777))) ∧ M = ((Mem.nil.push (.cells 23 [.lit (.int .i64 0), .lit (.int .i64 0)])).push (.cells 51 [.lit (.bool x3730), .ro (Rd.slice (Rd.int .i64)) false x3731]))) ?_ ?_
        · clear H
          have H := H3780
          clear H3780
          refine WP.region ?_
          refine WPL.q (q_fieldAddr fi51_1 rfl rfl) rfl ?_
          refine WPL.q (q_load sc49 rfl rfl rfl) rfl ?_
          refine WPL.q (q_len_ro sl49 rfl) rfl ?_
          obtain ⟨x3778, h3778, H⟩ := bnd H
          refine WPL.q (q_nm (q_gtr rfl rfl) (nm_bool h3778)) rfl ?_
          refine WPL.q (q_mv (v := .lit (.bool _)) rfl) rfl ?_
          refine WPL.split (t := 24) (b := x3778) rfl (fun hb3778 => ?_) (fun hb3778 => ?_)
          · replace H := cnt hb3778 H
            refine WPL.qg rfl rfl (lb hb3778) (q_fieldAddr fi51_1 rfl rfl) rfl ?_
            refine WPL.qg rfl rfl (lb hb3778) (q_load sc49 rfl rfl rfl) rfl ?_
            obtain ⟨x3780, h3780, H⟩ := bnd H
            refine WPL.qg rfl rfl (lb hb3778) (q_index_ro sl49 rfl rfl rfl h3780) rfl ?_
            refine WPL.qg rfl rfl (lb hb3778) (q_load_sc sc3 rfl) rfl ?_
            refine WPL.qg rfl rfl (lb hb3778) (q_eql rfl rfl) rfl ?_
            refine WPL.q (q_pickT (v := .lit (.bool _)) (lb hb3778) rfl) rfl ?_
            refine WPL.nilW ?_
            refine W.cv (Cv.weak (E' := ((((Env.none.upd 2 (.ptr 0 0)).upd 4 (.ptr 1 0)).upd 5 (.lit (.int .i64 x3729))).upd 30 (.lit (.bool (decide (x3780 = 0)))))) (M' := ((Mem.nil.push (.cells 23 [.lit (.int .i64 0), .lit (.int .i64 0)])).push (.cells 51 [.lit (.bool x3730), .ro (Rd.slice (Rd.int .i64)) false x3731]))) [0, 1] hnp ⟨rfl, ⟨⟨trivial, .inr ⟨rfl, rfl, rfl⟩⟩, .inr ⟨rfl, rfl, rfl⟩⟩, by decide, rfl, trivial⟩ (LeE.upd rfl rfl (LeE.upd rfl rfl (LeE.upd rfl rfl (LeE.upd rfl rfl (LeE.none rfl rfl)))))) rfl ?_
            refine W.now ?_
            have q0 := (Option.some.inj H)
            subst q0
            exact ⟨rfl, rfl, rfl⟩
          · replace H := cnf hb3778 H
            refine WPL.skipg (b' := false) rfl rfl (lb hb3778) rfl rfl ?_
            refine WPL.skipg (b' := false) rfl rfl (lb hb3778) rfl rfl ?_
            refine WPL.skipg (b' := false) rfl rfl (lb hb3778) rfl rfl ?_
            refine WPL.skipg (b' := false) rfl rfl (lb hb3778) rfl rfl ?_
            refine WPL.skipg (b' := false) rfl rfl (lb hb3778) rfl rfl ?_
            refine WPL.q (q_pickF (v := .lit (.bool _)) (lb hb3778) rfl) rfl ?_
            refine WPL.nilW ?_
            refine W.cv (Cv.weak (E' := ((((Env.none.upd 2 (.ptr 0 0)).upd 4 (.ptr 1 0)).upd 5 (.lit (.int .i64 x3729))).upd 30 (.lit (.bool false)))) (M' := ((Mem.nil.push (.cells 23 [.lit (.int .i64 0), .lit (.int .i64 0)])).push (.cells 51 [.lit (.bool x3730), .ro (Rd.slice (Rd.int .i64)) false x3731]))) [0, 1] hnp ⟨rfl, ⟨⟨trivial, .inr ⟨rfl, rfl, rfl⟩⟩, .inr ⟨rfl, rfl, rfl⟩⟩, by decide, rfl, trivial⟩ (LeE.upd rfl rfl (LeE.upd rfl rfl (LeE.upd rfl rfl (LeE.upd rfl rfl (LeE.none rfl rfl)))))) rfl ?_
            refine W.now ?_
            have q0 := (Option.some.inj H)
            subst q0
            exact ⟨rfl, rfl, rfl⟩
        · rintro _ _ _ ⟨rfl, rfl, rfl⟩
          refine W.now ?_
          refine Then.n ?_
          refine WP.cond (t := x3777) rfl (fun hb3781 => ?_) (fun hb3781 => ?_)
          · replace H := cnt hb3781 H
            refine WP.skipW ?_
            refine W.now ?_
            refine Then.n ?_
            refine WP.block ?_
            refine WP.seq ?_
            refine WP.regionD' 8 [1] [7] mixed rfl ?_
            refine WPD.takeT 0 rfl (by kernel_rfl) (q_fieldAddr fi51_0 rfl rfl) rfl ?_
            refine WPD.takeT 2 rfl (by kernel_rfl) (q_fieldAddr fi51_1 rfl rfl) rfl ?_
            refine WPD.take 1 rfl (by kernel_rfl) (q_load sc4 rfl rfl rfl) rfl rfl ?_
            refine WPD.take 3 rfl (by kernel_rfl) (q_load sc49 rfl rfl rfl) rfl rfl ?_
            obtain ⟨h3790, H⟩ := grd H
            refine WPD.takeT 4 rfl (by kernel_rfl) (q_slice_ro (i := 1) (j := ((List.length x3731 : Nat) : Int)) sl49 rfl rfl ⟨_, rfl⟩ rfl h3790) rfl ?_
            refine WPD.takeT 5 rfl (by kernel_rfl) (q_build bu51 rfl) rfl ?_
            obtain ⟨⟨x3793, x3794⟩, h3791, H⟩ := bnd H
            refine WPD.eff 6 [1] [7] rfl (by kernel_rfl) (runs_call (s := []) (t := [2]) (N := 3) (bor := []) fn36 rfl (s_quireref09_trim__b k x3730 (List.drop (Int.toNat 1) (List.take (Int.toNat ((List.length x3731 : Nat) : Int)) x3731)) x3793 x3794 h3791) ⟨rfl, trivial, by decide, rfl, trivial⟩ rfl trivial (.ren rfl rfl .nil) rfl ⟨trivial, rfl⟩ rfl) rfl rfl ?_
            refine WPD.effS 7 [] [] rfl (by kernel_rfl) (s_store sz51 rfl rfl rfl rfl rfl) rfl ?_
            refine WPD.doneW (by kernel_rfl) ?_
            refine W.now ?_
            refine Then.n ?_
            refine WP.region ?_
            refine WPL.q (q_mv (v := .lit (.int _ _)) rfl) rfl ?_
            refine WPL.q (q_add rfl rfl) rfl ?_
            refine WPL.q (q_as (v := .lit (.int _ _)) rfl) rfl ?_
            refine WPL.nilW ?_
            refine W.cv (Cv.weak (E' := (((Env.none.upd 2 (.ptr 0 0)).upd 4 (.ptr 1 0)).upd 5 (.lit (.int .i64 (IntKind.wrap .i64 (x3729 + 1)))))) (M' := ((Mem.nil.push (.cells 23 [.lit (.int .i64 0), .lit (.int .i64 0)])).push (.cells 51 [.lit (.bool x3793), .ro (Rd.slice (Rd.int .i64)) false x3794]))) [0, 1] hnp ⟨rfl, ⟨⟨trivial, .inr ⟨rfl, rfl, rfl⟩⟩, .inr ⟨rfl, rfl, rfl⟩⟩, by decide, rfl, trivial⟩ (LeE.upd rfl rfl (LeE.upd rfl rfl (LeE.upd rfl rfl (LeE.none rfl rfl))))) rfl ?_
            refine W.now ?_
            refine InBlock.n ?_
            exact Then.n ⟨n, ((IntKind.wrap .i64 (x3729 + 1)), x3793, x3794), Nat.lt_succ_self n, H, rfl, rfl⟩
          · replace H := cnf hb3781 H
            refine WP.exitW ?_
            refine W.cv (Cv.weak (E' := (((Env.none.upd 2 (.ptr 0 0)).upd 4 (.ptr 1 0)).upd 5 (.lit (.int .i64 x3729)))) (M' := ((Mem.nil.push (.cells 23 [.lit (.int .i64 0), .lit (.int .i64 0)])).push (.cells 51 [.lit (.bool x3730), .ro (Rd.slice (Rd.int .i64)) false x3731]))) [0, 1] hnp ⟨rfl, ⟨⟨trivial, .inr ⟨rfl, rfl, rfl⟩⟩, .inr ⟨rfl, rfl, rfl⟩⟩, by decide, rfl, trivial⟩ (LeE.upd rfl rfl (LeE.upd rfl rfl (LeE.upd rfl rfl (LeE.none rfl rfl))))) rfl ?_
            refine W.now ?_
            refine Then.x ?_
            refine Then.x ?_
            have q0 := (Prod.mk.inj (Option.some.inj H)).1
            have q1 := (Prod.mk.inj (Prod.mk.inj (Option.some.inj H)).2).1
            have q2 := (Prod.mk.inj (Prod.mk.inj (Option.some.inj H)).2).2
            subst q0
            subst q1
            subst q2
            exact ⟨rfl, rfl, rfl⟩
      · rintro _ _ _ ⟨rfl, rfl, rfl⟩
        refine W.now ?_
        refine InBlock.x0 ?_
        refine Then.n ?_
        refine WP.seq ?_
        refine WP.block ?_
        refine WP.cv (Cv.weak (E' := (((Env.none.upd 2 (.ptr 0 0)).upd 4 (.ptr 1 0)).upd 5 (.lit (.int .i64 x3762)))) (M' := ((Mem.nil.push (.cells 23 [.lit (.int .i64 0), .lit (.int .i64 0)])).push (.cells 51 [.lit (.bool x3763), .ro (Rd.slice (Rd.int .i64)) false x3764]))) [0, 1] hnp ⟨rfl, ⟨⟨trivial, .inr ⟨rfl, rfl, rfl⟩⟩, .inr ⟨rfl, rfl, rfl⟩⟩, by decide, rfl, trivial⟩ (LeE.upd rfl rfl (LeE.upd rfl rfl (LeE.upd rfl rfl (LeE.none rfl rfl))))) ?_
        obtain ⟨⟨x3833, x3834, x3835⟩, H3852, H⟩ := bnd H
        refine WP.monoW (Q := fun x E M => x = .exit 2 ∧ E = (((Env.none.upd 2 (.ptr 0 0)).upd 4 (.ptr 1 0)).upd 5 (.lit (.int .i64 x3833))) ∧ M = ((Mem.nil.push (.cells 23 [.lit (.int .i64 0), .lit (.int .i64 0)])).push (.cells 51 [.lit (.bool x3834), .ro (Rd.slice (Rd.int .i64)) false x3835]))) ?_ ?_
        · refine WP.loop (β := Int × Bool × (List Int)) (fun n b => g_quireref09_Tell_l1 k n b.1 b.2.1 b.2.2 = some (x3833, x3834, x3835)) (fun b => (((Env.none.upd 2 (.ptr 0 0)).upd 4 (.ptr 1 0)).upd 5 (.lit (.int .i64 b.1)))) (fun b => ((Mem.nil.push (.cells 23 [.lit (.int .i64 0), .lit (.int .i64 0)])).push (.cells 51 [.lit (.bool b.2.1), .ro (Rd.slice (Rd.int .i64)) false b.2.2]))) k (x3762, x3763, x3764) H3852 rfl rfl ?_
          rintro n ⟨x3813, x3814, x3815⟩ H
          obtain _ | n := n
          · exact nf rfl H
          rw [g_quireref09_Tell_l1.eq_2] at H
          show WP _ _ _ _ (((Env.none.upd 2 (.ptr 0 0)).upd 4 (.ptr 1 0)).upd 5 (.lit (.int .i64 x3813))) ((Mem.nil.push (.cells 23 [.lit (.int .i64 0), .lit (.int .i64 0)])).push (.cells 51 [.lit (.bool x3814), .ro (Rd.slice (Rd.int .i64)) false x3815])) _
          refine WP.seq ?_
          refine WP.seq ?_
          obtain ⟨x3845, H3847, H⟩ := bnd H
          refine WP.monoW (Q := fun x E M => x = .normal ∧ E = ((((Env.none.upd 2 (.ptr 0 0)).upd 4 (.ptr 1 0)).upd 5 (.lit (.int .i64 x3813))).upd 47 (.lit (.bool x3845))) ∧ M = ((Mem.nil.push (.cells 23 [.lit (.int .i64 0), .lit (.int .i64 0)])).push (.cells 51 [.lit (.bool x3814), .ro (Rd.slice (Rd.int .i64)) false x3815]))) ?_ ?_
          · clear H
            have H := H3847
            clear H3847
            refine WP.region ?_
            refine WPL.q (q_mv (v := .lit (.int _ _)) rfl) rfl ?_
            refine WPL.q (q_gtr rfl rfl) rfl ?_
            refine WPL.q (q_mv (v := .lit (.bool _)) rfl) rfl ?_
            refine WPL.split (t := 42) (b := (decide (18 < x3813))) rfl (fun hb3845 => ?_) (fun hb3845 => ?_)
            · replace H := cnt hb3845 H
              refine WPL.qg rfl rfl (lb hb3845) (q_fieldAddr fi51_1 rfl rfl) rfl ?_
              refine WPL.qg rfl rfl (lb hb3845) (q_load sc49 rfl rfl rfl) rfl ?_
              refine WPL.qg rfl rfl (lb hb3845) (q_len_ro sl49 rfl) rfl ?_
              obtain ⟨x3847, h3847, H⟩ := bnd H
              refine WPL.qg rfl rfl (lb hb3845) (q_nm (q_lss rfl rfl) (nm_bool h3847)) rfl ?_
              refine WPL.q (q_pickT (v := .lit (.bool _)) (lb hb3845) rfl) rfl ?_
              refine WPL.nilW ?_
              refine W.cv (Cv.weak (E' := ((((Env.none.upd 2 (.ptr 0 0)).upd 4 (.ptr 1 0)).upd 5 (.lit (.int .i64 x3813))).upd 47 (.lit (.bool x3847)))) (M' := ((Mem.nil.push (.cells 23 [.lit (.int .i64 0), .lit (.int .i64 0)])).push (.cells 51 [.lit (.bool x3814), .ro (Rd.slice (Rd.int .i64)) false x3815]))) [0, 1] hnp ⟨rfl, ⟨⟨trivial, .inr ⟨rfl, rfl, rfl⟩⟩, .inr ⟨rfl, rfl, rfl⟩⟩, by decide, rfl, trivial⟩ (LeE.upd rfl rfl (LeE.upd rfl rfl (LeE.upd rfl rfl (LeE.upd rfl rfl (LeE.none rfl rfl)))))) rfl ?_
              refine W.now ?_
              have q0 := (Option.some.inj H)
              subst q0
              exact ⟨rfl, rfl, rfl⟩
            · replace H := cnf hb3845 H
              refine WPL.skipg (b' := false) rfl rfl (lb hb3845) rfl rfl ?_
              refine WPL.skipg (b' := false) rfl rfl (lb hb3845) rfl rfl ?_
              refine WPL.skipg (b' := false) rfl rfl (lb hb3845) rfl rfl ?_
              refine WPL.skipg (b' := false) rfl rfl (lb hb3845) rfl rfl ?_
              refine WPL.q (q_pickF (v := .lit (.bool _)) (lb hb3845) rfl) rfl ?_
              refine WPL.nilW ?_
              refine W.cv (Cv.weak (E' := ((((Env.none.upd 2 (.ptr 0 0)).upd 4 (.ptr 1 0)).upd 5 (.lit (.int .i64 x3813))).upd 47 (.lit (.bool false)))) (M' := ((Mem.nil.push (.cells 23 [.lit (.int .i64 0), .lit (.int .i64 0)])).push (.cells 51 [.lit (.bool x3814), .ro (Rd.slice (Rd.int .i64)) false x3815]))) [0, 1] hnp ⟨rfl, ⟨⟨trivial, .inr ⟨rfl, rfl, rfl⟩⟩, .inr ⟨rfl, rfl, rfl⟩⟩, by decide, rfl, trivial⟩ (LeE.upd rfl rfl (LeE.upd rfl rfl (LeE.upd rfl rfl (LeE.upd rfl rfl (LeE.none rfl rfl)))))) rfl ?_
              refine W.now ?_
              have q0 := (Option.some.inj H)
              subst q0
              exact ⟨rfl, rfl, rfl⟩
          · rintro _ _ _ ⟨rfl, rfl, rfl⟩
            refine W.now ?_
            refine Then.n ?_
            refine WP.cond (t := x3845) rfl (fun hb3848 => ?_) (fun hb3848 => ?_)
            · replace H := cnt hb3848 H
              refine WP.skipW ?_
              refine W.now ?_
              refine Then.n ?_
              refine WP.block ?_
              refine WP.seq ?_
              refine WP.region ?_
              refine WPL.q (q_load_ag ag51 rfl rfl (Nat.le_of_ble_eq_true rfl)) rfl ?_
              obtain ⟨⟨x3851, x3852⟩, h3849, H⟩ := bnd H
              refine WPL.c (runs_call (s := []) (t := [2]) (N := 3) (bor := []) fn34 rfl (s_quireref09_Shift k x3814 x3815 1 x3851 x3852 h3849) ⟨rfl, trivial, by decide, rfl, trivial⟩ rfl trivial (.ren rfl rfl (.ren rfl rfl .nil)) rfl ⟨trivial, rfl⟩ rfl) rfl ?_
              refine WPL.s (s_store sz51 rfl rfl rfl rfl rfl) ?_
              refine WPL.nilW ?_
              refine W.now ?_
              refine Then.n ?_
              refine WP.region ?_
              refine WPL.q (q_mv (v := .lit (.int _ _)) rfl) rfl ?_
              refine WPL.q (q_sub rfl rfl) rfl ?_
              refine WPL.q (q_as (v := .lit (.int _ _)) rfl) rfl ?_
              refine WPL.nilW ?_
              refine W.cv (Cv.weak (E' := (((Env.none.upd 2 (.ptr 0 0)).upd 4 (.ptr 1 0)).upd 5 (.lit (.int .i64 (IntKind.wrap .i64 (x3813 - 1)))))) (M' := ((Mem.nil.push (.cells 23 [.lit (.int .i64 0), .lit (.int .i64 0)])).push (.cells 51 [.lit (.bool x3851), .ro (Rd.slice (Rd.int .i64)) false x3852]))) [0, 1] hnp ⟨rfl, ⟨⟨trivial, .inr ⟨rfl, rfl, rfl⟩⟩, .inr ⟨rfl, rfl, rfl⟩⟩, by decide, rfl, trivial⟩ (LeE.upd rfl rfl (LeE.upd rfl rfl (LeE.upd rfl rfl (LeE.none rfl rfl))))) rfl ?_
              refine W.now ?_
              refine InBlock.n ?_
              exact Then.n ⟨n, ((IntKind.wrap .i64 (x3813 - 1)), x3851, x3852), Nat.lt_succ_self n, H, rfl, rfl⟩
            · replace H := cnf hb3848 H
              refine WP.exitW ?_
              refine W.cv (Cv.weak (E' := (((Env.none.upd 2 (.ptr 0 0)).upd 4 (.ptr 1 0)).upd 5 (.lit (.int .i64 x3813)))) (M' := ((Mem.nil.push (.cells 23 [.lit (.int .i64 0), .lit (.int .i64 0)])).push (.cells 51 [.lit (.bool x3814), .ro (Rd.slice (Rd.int .i64)) false x3815]))) [0, 1] hnp ⟨rfl, ⟨⟨trivial, .inr ⟨rfl, rfl, rfl⟩⟩, .inr ⟨rfl, rfl, rfl⟩⟩, by decide, rfl, trivial⟩ (LeE.upd rfl rfl (LeE.upd rfl rfl (LeE.upd rfl rfl (LeE.none rfl rfl))))) rfl ?_
              refine W.now ?_
              refine Then.x ?_
              refine Then.x ?_
              have q0 := (Prod.mk.inj (Option.some.inj H)).1
              have q1 := (Prod.mk.inj (Prod.mk.inj (Option.some.inj H)).2).1
              have q2 := (Prod.mk.inj (Prod.mk.inj (Option.some.inj H)).2).2
              subst q0
              subst q1
              subst q2
              exact ⟨rfl, rfl, rfl⟩
        · rintro _ _ _ ⟨rfl, rfl, rfl⟩
          refine W.now ?_
          refine InBlock.x0 ?_
          refine Then.n ?_
          refine WP.seq ?_
          refine WP.seq ?_
          obtain ⟨x3869, H3873, H⟩ := bnd H
          refine WP.monoW (Q := fun x E M => x = .normal ∧ E = ((((Env.none.upd 2 (.ptr 0 0)).upd 4 (.ptr 1 0)).upd 5 (.lit (.int .i64 x3833))).upd 62 (.lit (.bool x3869))) ∧ M = ((Mem.nil.push (.cells 23 [.lit (.int .i64 0), .lit (.int .i64 0)])).push (.cells 51 [.lit (.bool x3834), .ro (Rd.slice (Rd.int .i64)) false x3835]))) ?_ ?_
          · clear H
            have H := H3873
            clear H3873
            refine WP.region ?_
            refine WPL.q (q_mv (v := .lit (.int _ _)) rfl) rfl ?_
            refine WPL.q (q_gtr rfl rfl) rfl ?_
            refine WPL.q (q_mv (v := .lit (.bool _)) rfl) rfl ?_
            refine WPL.split (t := 54) (b := (decide (18 < x3833))) rfl (fun hb3869 => ?_) (fun hb3869 => ?_)
            · replace H := cnt hb3869 H
              refine WPL.skipg (b' := true) rfl rfl (lb hb3869) rfl rfl ?_
              refine WPL.skipg (b' := true) rfl rfl (lb hb3869) rfl rfl ?_
              refine WPL.q (q_pickT (v := .lit (.bool _)) (lb hb3869) rfl) rfl ?_
              refine WPL.q (q_mv (v := .lit (.bool _)) rfl) rfl ?_
              refine WPL.skipg (b' := true) rfl rfl rfl rfl rfl ?_
              refine WPL.skipg (b' := true) rfl rfl rfl rfl rfl ?_
              refine WPL.skipg (b' := true) rfl rfl rfl rfl rfl ?_
              refine WPL.q (q_pickT (v := .lit (.bool _)) rfl rfl) rfl ?_
              refine WPL.nilW ?_
              refine W.cv (Cv.weak (E' := ((((Env.none.upd 2 (.ptr 0 0)).upd 4 (.ptr 1 0)).upd 5 (.lit (.int .i64 x3833))).upd 62 (.lit (.bool true)))) (M' := ((Mem.nil.push (.cells 23 [.lit (.int .i64 0), .lit (.int .i64 0)])).push (.cells 51 [.lit (.bool x3834), .ro (Rd.slice (Rd.int .i64)) false x3835]))) [0, 1] hnp ⟨rfl, ⟨⟨trivial, .inr ⟨rfl, rfl, rfl⟩⟩, .inr ⟨rfl, rfl, rfl⟩⟩, by decide, rfl, trivial⟩ (LeE.upd rfl rfl (LeE.upd rfl rfl (LeE.upd rfl rfl (LeE.upd rfl rfl (LeE.none rfl rfl)))))) rfl ?_
              refine W.now ?_
              have q0 := (Option.some.inj H)
              subst q0
              exact ⟨rfl, rfl, rfl⟩
            · replace H := cnf hb3869 H
              refine WPL.qg rfl rfl (lb hb3869) (q_mv (v := .lit (.int _ _)) rfl) rfl ?_
              refine WPL.qg rfl rfl (lb hb3869) (q_lss rfl rfl) rfl ?_
              refine WPL.q (q_pickF (v := .lit (.bool _)) (lb hb3869) rfl) rfl ?_
              refine WPL.q (q_mv (v := .lit (.bool _)) rfl) rfl ?_
              refine WPL.split (t := 58) (b := (decide (x3833 < (-18)))) rfl (fun hb3870 => ?_) (fun hb3870 => ?_)
              · replace H := cnt hb3870 H
                refine WPL.skipg (b' := true) rfl rfl (lb hb3870) rfl rfl ?_
                refine WPL.skipg (b' := true) rfl rfl (lb hb3870) rfl rfl ?_
                refine WPL.skipg (b' := true) rfl rfl (lb hb3870) rfl rfl ?_
                refine WPL.q (q_pickT (v := .lit (.bool _)) (lb hb3870) rfl) rfl ?_
                refine WPL.nilW ?_
                refine W.cv (Cv.weak (E' := ((((Env.none.upd 2 (.ptr 0 0)).upd 4 (.ptr 1 0)).upd 5 (.lit (.int .i64 x3833))).upd 62 (.lit (.bool true)))) (M' := ((Mem.nil.push (.cells 23 [.lit (.int .i64 0), .lit (.int .i64 0)])).push (.cells 51 [.lit (.bool x3834), .ro (Rd.slice (Rd.int .i64)) false x3835]))) [0, 1] hnp ⟨rfl, ⟨⟨trivial, .inr ⟨rfl, rfl, rfl⟩⟩, .inr ⟨rfl, rfl, rfl⟩⟩, by decide, rfl, trivial⟩ (LeE.upd rfl rfl (LeE.upd rfl rfl (LeE.upd rfl rfl (LeE.upd rfl rfl (LeE.none rfl rfl)))))) rfl ?_
                refine W.now ?_
                have q0 := (Option.some.inj H)
                subst q0
                exact ⟨rfl, rfl, rfl⟩
              · replace H := cnf hb3870 H
                refine WPL.qg rfl rfl (lb hb3870) (q_load_ag ag51 rfl rfl (Nat.le_of_ble_eq_true rfl)) rfl ?_
                obtain ⟨x3873, h3871, H⟩ := bnd H
                refine WPL.cg rfl rfl (lb hb3870) (runs_call (s := []) (t := []) (N := 2) (bor := []) fn63 rfl (s_quireref09_fits k x3834 x3835 x3873 h3871) ⟨rfl, trivial, by decide, rfl, trivial⟩ rfl trivial (.ren rfl rfl .nil) rfl trivial rfl) rfl ?_
                refine WPL.qg rfl rfl (lb hb3870) (q_not rfl) rfl ?_
                refine WPL.q (q_pickF (v := .lit (.bool _)) (lb hb3870) rfl) rfl ?_
                refine WPL.nilW ?_
                refine W.cv (Cv.weak (E' := ((((Env.none.upd 2 (.ptr 0 0)).upd 4 (.ptr 1 0)).upd 5 (.lit (.int .i64 x3833))).upd 62 (.lit (.bool (!x3873))))) (M' := ((Mem.nil.push (.cells 23 [.lit (.int .i64 0), .lit (.int .i64 0)])).push (.cells 51 [.lit (.bool x3834), .ro (Rd.slice (Rd.int .i64)) false x3835]))) [0, 1] hnp ⟨rfl, ⟨⟨trivial, .inr ⟨rfl, rfl, rfl⟩⟩, .inr ⟨rfl, rfl, rfl⟩⟩, by decide, rfl, trivial⟩ (LeE.upd rfl rfl (LeE.upd rfl rfl (LeE.upd rfl rfl (LeE.upd rfl rfl (LeE.none rfl rfl)))))) rfl ?_
                refine W.now ?_
                have q0 := (Option.some.inj H)
                subst q0
                exact ⟨rfl, rfl, rfl⟩
          · rintro _ _ _ ⟨rfl, rfl, rfl⟩
            refine W.now ?_
            refine Then.n ?_
            refine WP.cond (t := x3869) rfl (fun hb3874 => ?_) (fun hb3874 => ?_)
            · replace H := cnt hb3874 H
              refine WP.seq ?_
              refine WP.region ?_
              refine WPL.q (q_build bu23 rfl) rfl ?_
              refine WPL.s (s_store sz23 rfl rfl rfl rfl rfl) ?_
              refine WPL.q (q_as (v := .lit (.int _ _)) rfl) rfl ?_
              refine WPL.nilW ?_
              refine W.now ?_
              refine Then.n ?_
              refine WP.retW ?_
              refine W.now ?_
              refine Then.r ?_
              have q0 := (Prod.mk.inj (Option.some.inj H)).1
              have q1 := (Prod.mk.inj (Prod.mk.inj (Option.some.inj H)).2).1
              have q2 := (Prod.mk.inj (Prod.mk.inj (Option.some.inj H)).2).2
              subst q0
              subst q1
              subst q2
              exact ⟨trivial, _, rfl, [0], (.tup [.agg [.lit (.int .i64 0), .lit (.int .i64 0)], .lit (.int .i64 30)]), (Mem.nil.push (.cells 23 [.lit (.int .i64 0), .lit (.int .i64 0)])), ⟨rfl, ⟨trivial, .inr ⟨rfl, rfl, rfl⟩⟩, by decide, rfl, trivial⟩, rfl, rfl, rfl, rfl⟩
            · replace H := cnf hb3874 H
              refine WP.skipW ?_
              refine W.now ?_
              refine Then.n ?_
              refine WP.seq ?_
              refine WP.region ?_
              refine WPL.q (q_as (v := .lit (.int _ _)) rfl) rfl ?_
              refine WPL.nilW ?_
              refine W.now ?_
              refine Then.n ?_
              refine WP.seq ?_
              refine WP.seq ?_
              refine WP.region ?_
              refine WPL.q (q_fieldAddr fi51_1 rfl rfl) rfl ?_
              refine WPL.q (q_load sc49 rfl rfl rfl) rfl ?_
              refine WPL.q (q_len_ro sl49 rfl) rfl ?_
              obtain ⟨x3876, h3876, H⟩ := bnd H
              refine WPL.q (q_nm (q_sub rfl rfl) (nm_int h3876)) rfl ?_
              refine WPL.q (q_as (v := .lit (.int _ _)) rfl) rfl ?_
              refine WPL.nilW ?_
              refine W.now ?_
              refine Then.n ?_
              refine WP.block ?_
              refine WP.cv (Cv.weak (E' := (((((Env.none.upd 2 (.ptr 0 0)).upd 4 (.ptr 1 0)).upd 5 (.lit (.int .i64 x3833))).upd 6 (.lit (.int .i64 0))).upd 7 (.lit (.int .i64 x3876)))) (M' := ((Mem.nil.push (.cells 23 [.lit (.int .i64 0), .lit (.int .i64 0)])).push (.cells 51 [.lit (.bool x3834), .ro (Rd.slice (Rd.int .i64)) false x3835]))) [0, 1] hnp ⟨rfl, ⟨⟨trivial, .inr ⟨rfl, rfl, rfl⟩⟩, .inr ⟨rfl, rfl, rfl⟩⟩, by decide, rfl, trivial⟩ (LeE.upd rfl rfl (LeE.upd rfl rfl (LeE.upd rfl rfl (LeE.upd rfl rfl (LeE.upd rfl rfl (LeE.none rfl rfl))))))) ?_
              obtain ⟨x3907, H3921, H⟩ := bnd H
              refine WP.monoW (Q := fun x E M => x = .exit 4 ∧ E = (((Env.none.upd 2 (.ptr 0 0)).upd 5 (.lit (.int .i64 x3833))).upd 6 (.lit (.int .i64 x3907))) ∧ M = (Mem.nil.push (.cells 23 [.lit (.int .i64 0), .lit (.int .i64 0)]))) ?_ ?_
              · refine WP.loop (β := Int × Int) (fun n b => g_quireref09_Tell_l2 k x3834 x3835 n b.1 b.2 = some x3907) (fun b => (((((Env.none.upd 2 (.ptr 0 0)).upd 4 (.ptr 1 0)).upd 5 (.lit (.int .i64 x3833))).upd 6 (.lit (.int .i64 b.1))).upd 7 (.lit (.int .i64 b.2)))) (fun b => ((Mem.nil.push (.cells 23 [.lit (.int .i64 0), .lit (.int .i64 0)])).push (.cells 51 [.lit (.bool x3834), .ro (Rd.slice (Rd.int .i64)) false x3835]))) k (0, x3876) H3921 rfl rfl ?_
                rintro n ⟨x3891, x3892⟩ H
                obtain _ | n := n
                · exact nf rfl H
                rw [g_quireref09_Tell_l2.eq_2] at H
                show WP _ _ _ _ (((((Env.none.upd 2 (.ptr 0 0)).upd 4 (.ptr 1 0)).upd 5 (.lit (.int .i64 x3833))).upd 6 (.lit (.int .i64 x3891))).upd 7 (.lit (.int .i64 x3892))) ((Mem.nil.push (.cells 23 [.lit (.int .i64 0), .lit (.int .i64 0)])).push (.cells 51 [.lit (.bool x3834), .ro (Rd.slice (Rd.int .i64)) false x3835])) _
                refine WP.seq ?_
                refine WP.seq ?_
                refine WP.region ?_
                refine WPL.q (q_mv (v := .lit (.int _ _)) rfl) rfl ?_
                refine WPL.q (q_geq rfl rfl) rfl ?_
                refine WPL.nilW ?_
                refine W.now ?_
                refine Then.n ?_
                refine WP.cond (t := (decide (0 ≤ x3892))) rfl (fun hb3908 => ?_) (fun hb3908 => ?_)
                · replace H := cnt hb3908 H
                  refine WP.skipW ?_
                  refine W.now ?_
                  refine Then.n ?_
                  refine WP.seq ?_
                  obtain ⟨x3915, H3920, H⟩ := bnd H
                  refine WP.monoW (Q := fun x E M => x = .normal ∧ E = (((((Env.none.upd 2 (.ptr 0 0)).upd 4 (.ptr 1 0)).upd 5 (.lit (.int .i64 x3833))).upd 6 (.lit (.int .i64 x3915))).upd 7 (.lit (.int .i64 x3892))) ∧ M = ((Mem.nil.push (.cells 23 [.lit (.int .i64 0), .lit (.int .i64 0)])).push (.cells 51 [.lit (.bool x3834), .ro (Rd.slice (Rd.int .i64)) false x3835]))) ?_ ?_
                  · clear H
                    have H := H3920
                    clear H3920
                    refine WP.block ?_
                    refine WP.seq ?_
                    refine WP.region ?_
                    refine WPL.q (q_fieldAddr fi51_0 rfl rfl) rfl ?_
                    refine WPL.q (q_load sc4 rfl rfl rfl) rfl ?_
                    refine WPL.nilW ?_
                    refine W.now ?_
                    refine Then.n ?_
                    refine WP.cond (t := x3834) rfl (fun hb3915 => ?_) (fun hb3915 => ?_)
                    · replace H := cnt hb3915 H
                      refine WP.region ?_
                      refine WPL.q (q_mv (v := .lit (.int _ _)) rfl) rfl ?_
                      refine WPL.q (q_mul rfl rfl) rfl ?_
                      refine WPL.q (q_fieldAddr fi51_1 rfl rfl) rfl ?_
                      refine WPL.q (q_load sc49 rfl rfl rfl) rfl ?_
                      refine WPL.q (q_mv (v := .lit (.int _ _)) rfl) rfl ?_
                      obtain ⟨x3917, h3917, H⟩ := bnd H
                      refine WPL.q (q_index_ro sl49 rfl rfl rfl h3917) rfl ?_
                      refine WPL.q (q_load_sc sc3 rfl) rfl ?_
                      obtain ⟨x3918, h3918, H⟩ := bnd H
                      refine WPL.q (q_nm (q_sub rfl rfl) (nm_int h3918)) rfl ?_
                      refine WPL.q (q_as (v := .lit (.int _ _)) rfl) rfl ?_
                      refine WPL.nilW ?_
                      refine W.cv (Cv.weak (E' := (((((Env.none.upd 2 (.ptr 0 0)).upd 4 (.ptr 1 0)).upd 5 (.lit (.int .i64 x3833))).upd 6 (.lit (.int .i64 x3918))).upd 7 (.lit (.int .i64 x3892)))) (M' := ((Mem.nil.push (.cells 23 [.lit (.int .i64 0), .lit (.int .i64 0)])).push (.cells 51 [.lit (.bool x3834), .ro (Rd.slice (Rd.int .i64)) false x3835]))) [0, 1] hnp ⟨rfl, ⟨⟨trivial, .inr ⟨rfl, rfl, rfl⟩⟩, .inr ⟨rfl, rfl, rfl⟩⟩, by decide, rfl, trivial⟩ (LeE.upd rfl rfl (LeE.upd rfl rfl (LeE.upd rfl rfl (LeE.upd rfl rfl (LeE.upd rfl rfl (LeE.none rfl rfl))))))) rfl ?_
                      refine W.now ?_
                      refine InBlock.n ?_
                      have q0 := (Option.some.inj H)
                      subst q0
                      exact ⟨rfl, rfl, rfl⟩
                    · replace H := cnf hb3915 H
                      refine WP.region ?_
                      refine WPL.q (q_mv (v := .lit (.int _ _)) rfl) rfl ?_
                      refine WPL.q (q_mul rfl rfl) rfl ?_
                      refine WPL.q (q_fieldAddr fi51_1 rfl rfl) rfl ?_
                      refine WPL.q (q_load sc49 rfl rfl rfl) rfl ?_
                      refine WPL.q (q_mv (v := .lit (.int _ _)) rfl) rfl ?_
                      obtain ⟨x3919, h3919, H⟩ := bnd H
                      refine WPL.q (q_index_ro sl49 rfl rfl rfl h3919) rfl ?_
                      refine WPL.q (q_load_sc sc3 rfl) rfl ?_
                      obtain ⟨x3920, h3920, H⟩ := bnd H
                      refine WPL.q (q_nm (q_add rfl rfl) (nm_int h3920)) rfl ?_
                      refine WPL.q (q_as (v := .lit (.int _ _)) rfl) rfl ?_
                      refine WPL.nilW ?_
                      refine W.cv (Cv.weak (E' := (((((Env.none.upd 2 (.ptr 0 0)).upd 4 (.ptr 1 0)).upd 5 (.lit (.int .i64 x3833))).upd 6 (.lit (.int .i64 x3920))).upd 7 (.lit (.int .i64 x3892)))) (M' := ((Mem.nil.push (.cells 23 [.lit (.int .i64 0), .lit (.int .i64 0)])).push (.cells 51 [.lit (.bool x3834), .ro (Rd.slice (Rd.int .i64)) false x3835]))) [0, 1] hnp ⟨rfl, ⟨⟨trivial, .inr ⟨rfl, rfl, rfl⟩⟩, .inr ⟨rfl, rfl, rfl⟩⟩, by decide, rfl, trivial⟩ (LeE.upd rfl rfl (LeE.upd rfl rfl (LeE.upd rfl rfl (LeE.upd rfl rfl (LeE.upd rfl rfl (LeE.none rfl rfl))))))) rfl ?_
                      refine W.now ?_
                      refine InBlock.n ?_
                      have q0 := (Option.some.inj H)
                      subst q0
                      exact ⟨rfl, rfl, rfl⟩
                  · rintro _ _ _ ⟨rfl, rfl, rfl⟩
                    refine W.now ?_
                    refine Then.n ?_
                    refine WP.region ?_
                    refine WPL.q (q_mv (v := .lit (.int _ _)) rfl) rfl ?_
                    refine WPL.q (q_sub rfl rfl) rfl ?_
                    refine WPL.q (q_as (v := .lit (.int _ _)) rfl) rfl ?_
                    refine WPL.nilW ?_
                    refine W.cv (Cv.weak (E' := (((((Env.none.upd 2 (.ptr 0 0)).upd 4 (.ptr 1 0)).upd 5 (.lit (.int .i64 x3833))).upd 6 (.lit (.int .i64 x3915))).upd 7 (.lit (.int .i64 (IntKind.wrap .i64 (x3892 - 1)))))) (M' := ((Mem.nil.push (.cells 23 [.lit (.int .i64 0), .lit (.int .i64 0)])).push (.cells 51 [.lit (.bool x3834), .ro (Rd.slice (Rd.int .i64)) false x3835]))) [0, 1] hnp ⟨rfl, ⟨⟨trivial, .inr ⟨rfl, rfl, rfl⟩⟩, .inr ⟨rfl, rfl, rfl⟩⟩, by decide, rfl, trivial⟩ (LeE.upd rfl rfl (LeE.upd rfl rfl (LeE.upd rfl rfl (LeE.upd rfl rfl (LeE.upd rfl rfl (LeE.none rfl rfl))))))) rfl ?_
                    refine W.now ?_
                    exact Then.n ⟨n, (x3915, (IntKind.wrap .i64 (x3892 - 1))), Nat.lt_succ_self n, H, rfl, rfl⟩
                · replace H := cnf hb3908 H
                  refine WP.exitW ?_
                  refine W.cv (Cv.weak (E' := (((Env.none.upd 2 (.ptr 0 0)).upd 5 (.lit (.int .i64 x3833))).upd 6 (.lit (.int .i64 x3891)))) (M' := (Mem.nil.push (.cells 23 [.lit (.int .i64 0), .lit (.int .i64 0)]))) [0] hnp ⟨rfl, ⟨trivial, .inr ⟨rfl, rfl, rfl⟩⟩, by decide, rfl, trivial⟩ (LeE.upd rfl rfl (LeE.upd rfl rfl (LeE.upd rfl rfl (LeE.none rfl rfl))))) rfl ?_
                  refine W.now ?_
                  refine Then.x ?_
                  refine Then.x ?_
                  have q0 := (Option.some.inj H)
                  subst q0
                  exact ⟨rfl, rfl, rfl⟩
              · rintro _ _ _ ⟨rfl, rfl, rfl⟩
                refine W.now ?_
                refine InBlock.x0 ?_
                refine Then.n ?_
                refine WP.seq ?_
                refine WP.region ?_
                refine WPL.q (q_mv (v := .lit (.int _ _)) rfl) rfl ?_
                refine WPL.q (q_mv (v := .lit (.int _ _)) rfl) rfl ?_
                refine WPL.q (q_build bu23 rfl) rfl ?_
                refine WPL.s (s_store sz23 rfl rfl rfl rfl rfl) ?_
                refine WPL.q (q_as (v := .lit (.int _ _)) rfl) rfl ?_
                refine WPL.nilW ?_
                refine W.now ?_
                refine Then.n ?_
                refine WP.retW ?_
                refine W.now ?_
                have q0 := (Prod.mk.inj (Option.some.inj H)).1
                have q1 := (Prod.mk.inj (Prod.mk.inj (Option.some.inj H)).2).1
                have q2 := (Prod.mk.inj (Prod.mk.inj (Option.some.inj H)).2).2
                subst q0
                subst q1
                subst q2
                exact ⟨trivial, _, rfl, [0], (.tup [.agg [.lit (.int .i64 x3907), .lit (.int .i64 x3833)], .lit (.int .i64 0)]), (Mem.nil.push (.cells 23 [.lit (.int .i64 x3907), .lit (.int .i64 x3833)])), ⟨rfl, ⟨trivial, .inr ⟨rfl, rfl, rfl⟩⟩, by decide, rfl, trivial⟩, rfl, rfl, rfl, rfl⟩
end Go.Proofs.Ytdbeblgfccjbgaa.W
namespace Go.Proofs.Ytdbeblgfccjbgaa.W
open Go Go.Q Go.Proofs
set_option linter.unusedVariables false
set_option linter.unusedSimpArgs false
set_option maxRecDepth 100000 in
set_option maxHeartbeats 4000000 in
theorem s_dec_wide_cmp (k : Nat) (x4385 : Int) (x4386 : Int) (x4387 : Int) (x4388 : Int) (x4408 : Int) (H : g_dec_wide_cmp k x4385 x4386 x4387 x4388 = some x4408) : Go.Q.Spec Try.prog 48 0 [.agg [.lit (.int .u64 x4385), .lit (.int .u64 x4386)], .agg [.lit (.int .u64 x4387), .lit (.int .u64 x4388)]] Mem.nil (fun o M => o = .ret (.lit (.int .i64 x4408)) ∧ M = Mem.nil) := by
  unfold g_dec_wide_cmp at H
  refine Go.Q.Spec.of_bodyR (az := []) (rs := [.tmp 4]) (nt := 29) Try.func48 rfl rfl (by intro t T h; simp at h) rfl rfl fun cx hnp => ?_
  refine WP.seq ?_
  refine WP.region ?_
  refine WPL.d (d_box rfl rfl) rfl ?_
  refine WPL.d (d_box rfl rfl) rfl ?_
  refine WPL.q (q_as (v := .lit (.int _ _)) rfl) rfl ?_
  refine WPL.nilW ?_
  refine W.now ?_
  refine Then.n ?_
  refine WP.seq ?_
  refine WP.block ?_
  refine WP.seq ?_
  refine WP.region ?_
  refine WPL.q (q_load_ag ag43 rfl rfl (Nat.le_of_ble_eq_true rfl)) rfl ?_
  refine WPL.q (q_load_ag ag43 rfl rfl (Nat.le_of_ble_eq_true rfl)) rfl ?_
  obtain ⟨x4418, h4418, H⟩ := bnd H
  refine WPL.q (q_nm (q_eqlAg (xs := [(.int .u64 x4385), (.int .u64 x4386)]) (ys := [(.int .u64 x4387), (.int .u64 x4388)]) (n := 9) rfl eg43 rfl rfl eq43) (nm_bool h4418)) rfl ?_
  refine WPL.q (q_as (v := .lit (.bool _)) rfl) rfl ?_
  refine WPL.nilW ?_
  refine W.now ?_
  refine Then.n ?_
  refine WP.cond (t := x4418) rfl (fun hb4418 => ?_) (fun hb4418 => ?_)
  · replace H := cnt hb4418 H
    refine WP.seq ?_
    refine WP.region ?_
    refine WPL.q (q_as (v := .lit (.int _ _)) rfl) rfl ?_
    refine WPL.nilW ?_
    refine W.now ?_
    refine Then.n ?_
    refine WP.retW ?_
    refine W.now ?_
    refine InBlock.r ?_
    refine Then.r ?_
    have q0 := (Option.some.inj H)
    subst q0
    exact ⟨trivial, _, rfl, [], (.lit (.int .i64 0)), Mem.nil, ⟨rfl, trivial, by decide, rfl, trivial⟩, rfl, rfl, rfl, rfl⟩
  · replace H := cnf hb4418 H
    refine WP.seq ?_
    obtain ⟨x4422, H4424, H⟩ := bnd H
    refine WP.monoW (Q := fun x E M => x = .normal ∧ E = (Env.none.upd 9 (.lit (.bool x4422))) ∧ M = Mem.nil) ?_ ?_
    · clear H
      have H := H4424
      clear H4424
      refine WP.region ?_
      refine WPL.q (q_fieldAddr fi43_0 rfl rfl) rfl ?_
      refine WPL.q (q_load sc38 rfl rfl rfl) rfl ?_
      refine WPL.q (q_fieldAddr fi43_0 rfl rfl) rfl ?_
      refine WPL.q (q_load sc38 rfl rfl rfl) rfl ?_
      refine WPL.q (q_lss rfl rfl) rfl ?_
      refine WPL.q (q_mv (v := .lit (.bool _)) rfl) rfl ?_
      refine WPL.split (t := 15) (b := (decide (x4385 < x4387))) rfl (fun hb4422 => ?_) (fun hb4422 => ?_)
      · replace H := cnt hb4422 H
        refine WPL.skipg (b' := true) rfl rfl (lb hb4422) rfl rfl ?_
        refine WPL.skipg (b' := true) rfl rfl (lb hb4422) rfl rfl ?_
        refine WPL.skipg (b' := true) rfl rfl (lb hb4422) rfl rfl ?_
        refine WPL.skipg (b' := true) rfl rfl (lb hb4422) rfl rfl ?_
        refine WPL.skipg (b' := true) rfl rfl (lb hb4422) rfl rfl ?_
        refine WPL.skipg (b' := true) rfl rfl (lb hb4422) rfl rfl ?_
        refine WPL.skipu rfl rfl rfl rfl ?_
        refine WPL.skipu rfl rfl rfl rfl ?_
        refine WPL.skipu rfl rfl rfl rfl ?_
        refine WPL.skipu rfl rfl rfl rfl ?_
        refine WPL.skipu rfl rfl rfl rfl ?_
        refine WPL.skipg (b' := true) rfl rfl (lb hb4422) rfl rfl ?_
        refine WPL.q (q_pickT (v := .lit (.bool _)) (lb hb4422) rfl) rfl ?_
        refine WPL.q (q_as (v := .lit (.bool _)) rfl) rfl ?_
        refine WPL.nilW ?_
        refine W.cv (Cv.weak (E' := (Env.none.upd 9 (.lit (.bool true)))) (M' := Mem.nil) [] hnp ⟨rfl, trivial, by decide, rfl, trivial⟩ (LeE.upd rfl rfl (LeE.none rfl rfl))) rfl ?_
        refine W.now ?_
        have q0 := (Option.some.inj H)
        subst q0
        exact ⟨rfl, rfl, rfl⟩
      · replace H := cnf hb4422 H
        refine WPL.qg rfl rfl (lb hb4422) (q_fieldAddr fi43_0 rfl rfl) rfl ?_
        refine WPL.qg rfl rfl (lb hb4422) (q_load sc38 rfl rfl rfl) rfl ?_
        refine WPL.qg rfl rfl (lb hb4422) (q_fieldAddr fi43_0 rfl rfl) rfl ?_
        refine WPL.qg rfl rfl (lb hb4422) (q_load sc38 rfl rfl rfl) rfl ?_
        refine WPL.qg rfl rfl (lb hb4422) (q_eql rfl rfl) rfl ?_
        refine WPL.qg rfl rfl (lb hb4422) (q_mv (v := .lit (.bool _)) rfl) rfl ?_
        refine WPL.split (t := 21) (b := (decide (x4385 = x4387))) rfl (fun hb4423 => ?_) (fun hb4423 => ?_)
        · replace H := cnt hb4423 H
          refine WPL.qg rfl rfl (lb hb4423) (q_fieldAddr fi43_1 rfl rfl) rfl ?_
          refine WPL.qg rfl rfl (lb hb4423) (q_load sc38 rfl rfl rfl) rfl ?_
          refine WPL.qg rfl rfl (lb hb4423) (q_fieldAddr fi43_1 rfl rfl) rfl ?_
          refine WPL.qg rfl rfl (lb hb4423) (q_load sc38 rfl rfl rfl) rfl ?_
          refine WPL.qg rfl rfl (lb hb4423) (q_lss rfl rfl) rfl ?_
          refine WPL.qg rfl rfl (lb hb4422) (q_pickT (v := .lit (.bool _)) (lb hb4423) rfl) rfl ?_
          refine WPL.q (q_pickF (v := .lit (.bool _)) (lb hb4422) rfl) rfl ?_
          refine WPL.q (q_as (v := .lit (.bool _)) rfl) rfl ?_
          refine WPL.nilW ?_
          refine W.cv (Cv.weak (E' := (Env.none.upd 9 (.lit (.bool (decide (x4386 < x4388)))))) (M' := Mem.nil) [] hnp ⟨rfl, trivial, by decide, rfl, trivial⟩ (LeE.upd rfl rfl (LeE.none rfl rfl))) rfl ?_
          refine W.now ?_
          have q0 := (Option.some.inj H)
          subst q0
          exact ⟨rfl, rfl, rfl⟩
        · replace H := cnf hb4423 H
          refine WPL.skipg (b' := false) rfl rfl (lb hb4423) rfl rfl ?_
          refine WPL.skipg (b' := false) rfl rfl (lb hb4423) rfl rfl ?_
          refine WPL.skipg (b' := false) rfl rfl (lb hb4423) rfl rfl ?_
          refine WPL.skipg (b' := false) rfl rfl (lb hb4423) rfl rfl ?_
          refine WPL.skipg (b' := false) rfl rfl (lb hb4423) rfl rfl ?_
          refine WPL.qg rfl rfl (lb hb4422) (q_pickF (v := .lit (.bool _)) (lb hb4423) rfl) rfl ?_
          refine WPL.q (q_pickF (v := .lit (.bool _)) (lb hb4422) rfl) rfl ?_
          refine WPL.q (q_as (v := .lit (.bool _)) rfl) rfl ?_
          refine WPL.nilW ?_
          refine W.cv (Cv.weak (E' := (Env.none.upd 9 (.lit (.bool false)))) (M' := Mem.nil) [] hnp ⟨rfl, trivial, by decide, rfl, trivial⟩ (LeE.upd rfl rfl (LeE.none rfl rfl))) rfl ?_
          refine W.now ?_
          have q0 := (Option.some.inj H)
          subst q0
          exact ⟨rfl, rfl, rfl⟩
    · rintro _ _ _ ⟨rfl, rfl, rfl⟩
      refine W.now ?_
      refine Then.n ?_
      refine WP.cond (t := x4422) rfl (fun hb4425 => ?_) (fun hb4425 => ?_)
      · replace H := cnt hb4425 H
        refine WP.seq ?_
        refine WP.region ?_
        refine WPL.q (q_as (v := .lit (.int _ _)) rfl) rfl ?_
        refine WPL.nilW ?_
        refine W.now ?_
        refine Then.n ?_
        refine WP.retW ?_
        refine W.now ?_
        refine InBlock.r ?_
        refine Then.r ?_
        have q0 := (Option.some.inj H)
        subst q0
        exact ⟨trivial, _, rfl, [], (.lit (.int .i64 (-1))), Mem.nil, ⟨rfl, trivial, by decide, rfl, trivial⟩, rfl, rfl, rfl, rfl⟩
      · replace H := cnf hb4425 H
        refine WP.skipW ?_
        refine W.now ?_
        refine InBlock.n ?_
        refine Then.n ?_
        refine WP.seq ?_
        refine WP.region ?_
        refine WPL.q (q_as (v := .lit (.int _ _)) rfl) rfl ?_
        refine WPL.nilW ?_
        refine W.now ?_
        refine Then.n ?_
        refine WP.retW ?_
        refine W.now ?_
        have q0 := (Option.some.inj H)
        subst q0
        exact ⟨trivial, _, rfl, [], (.lit (.int .i64 1)), Mem.nil, ⟨rfl, trivial, by decide, rfl, trivial⟩, rfl, rfl, rfl, rfl⟩
set_option maxRecDepth 100000 in
set_option maxHeartbeats 4000000 in
theorem s_dec_left (k : Nat) (x4307 : Bool) (x4308 : Int) (x4309 : Int) (x4310 : Int) (x4311 : Bool) (x4312 : Int) (x4313 : Int) (x4314 : Int) (x4446 : Int) (x4447 : Int) (x4448 : Int) (H : g_dec_left k x4307 x4308 x4309 x4310 x4311 x4312 x4313 x4314 = some (x4446, x4447, x4448)) : Go.Q.Spec Try.prog 37 0 [.agg [.lit (.bool x4307), .lit (.int .u64 x4308), .lit (.int .u64 x4309), .lit (.int .i64 x4310)], .agg [.lit (.bool x4311), .lit (.int .u64 x4312), .lit (.int .u64 x4313), .lit (.int .i64 x4314)]] Mem.nil (fun o M => o = .ret (.agg [.lit (.bool x4307), .lit (.int .u64 x4446), .lit (.int .u64 x4447), .lit (.int .i64 x4448)]) ∧ M = (Mem.nil.push (.cells 47 [.lit (.bool x4307), .lit (.int .u64 x4446), .lit (.int .u64 x4447), .lit (.int .i64 x4448)]))) := by
  unfold g_dec_left at H
  refine Go.Q.Spec.of_bodyR (az := [(47, 4)]) (rs := [.cell 4 47]) (nt := 88) Try.func37 rfl rfl (by intro t T h; simp at h; rcases h with ⟨rfl, rfl⟩ <;> first | exact ag47) rfl rfl fun cx hnp => ?_
  refine WP.seq ?_
  refine WP.region ?_
  refine WPL.d (d_box rfl rfl) rfl ?_
  refine WPL.d (d_box rfl rfl) rfl ?_
  refine WPL.d (d_alloc ze47 rfl) rfl ?_
  refine WPL.nilW ?_
  refine W.now ?_
  refine Then.n ?_
  refine WP.seq ?_
  refine WP.seq ?_
  refine WP.region ?_
  refine WPL.q (q_fieldAddr fi47_2 rfl rfl) rfl ?_
  refine WPL.q (q_load sc3 rfl rfl rfl) rfl ?_
  refine WPL.q (q_fieldAddr fi47_2 rfl rfl) rfl ?_
  refine WPL.q (q_load sc3 rfl rfl rfl) rfl ?_
  refine WPL.q (q_geq rfl rfl) rfl ?_
  refine WPL.nilW ?_
  refine W.now ?_
  refine Then.n ?_
  refine WP.cond (t := (decide (x4314 ≤ x4310))) rfl (fun hb4480 => ?_) (fun hb4480 => ?_)
  · replace H := cnt hb4480 H
    refine WP.seq ?_
    refine WP.region ?_
    refine WPL.q (q_fieldAddr fi47_1 rfl rfl) rfl ?_
    refine WPL.q (q_fieldAddr fi43_1 rfl rfl) rfl ?_
    refine WPL.q (q_load sc38 rfl rfl rfl) rfl ?_
    refine WPL.q (q_fieldAddr fi47_1 rfl rfl) rfl ?_
    refine WPL.q (q_fieldAddr fi43_1 rfl rfl) rfl ?_
    refine WPL.q (q_load sc38 rfl rfl rfl) rfl ?_
    obtain ⟨h4481, H⟩ := grd H
    refine WPL.q (q_rem rfl rfl (bnot h4481)) rfl ?_
    refine WPL.q (q_as (v := .lit (.int _ _)) rfl) rfl ?_
    refine WPL.nilW ?_
    refine W.now ?_
    refine Then.n ?_
    refine WP.seq ?_
    refine WP.seq ?_
    refine WP.region ?_
    refine WPL.q (q_fieldAddr fi47_2 rfl rfl) rfl ?_
    refine WPL.q (q_load sc3 rfl rfl rfl) rfl ?_
    refine WPL.q (q_fieldAddr fi47_2 rfl rfl) rfl ?_
    refine WPL.q (q_load sc3 rfl rfl rfl) rfl ?_
    refine WPL.q (q_sub rfl rfl) rfl ?_
    refine WPL.q (q_mv (v := .lit (.int _ _)) rfl) rfl ?_
    refine WPL.nilW ?_
    refine W.now ?_
    refine Then.n ?_
    refine WP.block ?_
    refine WP.cv (Cv.weak (E' := ((((((Env.none.upd 2 (.ptr 0 0)).upd 3 (.ptr 1 0)).upd 4 (.ptr 2 0)).upd 5 (.lit (.int .u64 (Int.tmod x4309 x4313)))).upd 26 (.lit (.int .i64 (IntKind.wrap .i64 (x4310 - x4314))))).upd 27 (.lit (.int .i64 0)))) (M' := (((Mem.nil.push (.cells 47 [.lit (.bool x4307), .lit (.int .u64 x4308), .lit (.int .u64 x4309), .lit (.int .i64 x4310)])).push (.cells 47 [.lit (.bool x4311), .lit (.int .u64 x4312), .lit (.int .u64 x4313), .lit (.int .i64 x4314)])).push (.cells 47 [.lit (.bool false), .lit (.int .u64 0), .lit (.int .u64 0), .lit (.int .i64 0)]))) [0, 1, 2] hnp ⟨rfl, ⟨⟨⟨trivial, .inr ⟨rfl, rfl, rfl⟩⟩, .inr ⟨rfl, rfl, rfl⟩⟩, .inr ⟨rfl, rfl, rfl⟩⟩, by decide, rfl, trivial⟩ (LeE.upd rfl rfl (LeE.upd rfl rfl (LeE.upd rfl rfl (LeE.upd rfl rfl (LeE.upd rfl rfl (LeE.upd rfl rfl (LeE.none rfl rfl)))))))) ?_
    obtain ⟨x4511, H4524, H⟩ := bnd H
    refine WP.monoW (Q := fun x E M => x = .exit 0 ∧ E = ((((Env.none.upd 2 (.ptr 0 0)).upd 3 (.ptr 1 0)).upd 4 (.ptr 2 0)).upd 5 (.lit (.int .u64 x4511))) ∧ M = (((Mem.nil.push (.cells 47 [.lit (.bool x4307), .lit (.int .u64 x4308), .lit (.int .u64 x4309), .lit (.int .i64 x4310)])).push (.cells 47 [.lit (.bool x4311), .lit (.int .u64 x4312), .lit (.int .u64 x4313), .lit (.int .i64 x4314)])).push (.cells 47 [.lit (.bool false), .lit (.int .u64 0), .lit (.int .u64 0), .lit (.int .i64 0)]))) ?_ ?_
    · refine WP.loop (β := Int × Int) (fun n b => g_dec_left_l0 k x4310 x4313 x4314 n b.1 b.2 = some x4511) (fun b => ((((((Env.none.upd 2 (.ptr 0 0)).upd 3 (.ptr 1 0)).upd 4 (.ptr 2 0)).upd 5 (.lit (.int .u64 b.1))).upd 26 (.lit (.int .i64 (IntKind.wrap .i64 (x4310 - x4314))))).upd 27 (.lit (.int .i64 b.2)))) (fun b => (((Mem.nil.push (.cells 47 [.lit (.bool x4307), .lit (.int .u64 x4308), .lit (.int .u64 x4309), .lit (.int .i64 x4310)])).push (.cells 47 [.lit (.bool x4311), .lit (.int .u64 x4312), .lit (.int .u64 x4313), .lit (.int .i64 x4314)])).push (.cells 47 [.lit (.bool false), .lit (.int .u64 0), .lit (.int .u64 0), .lit (.int .i64 0)]))) k ((Int.tmod x4309 x4313), 0) H4524 rfl rfl ?_
      rintro n ⟨x4496, x4497⟩ H
      obtain _ | n := n
      · exact nf rfl H
      rw [g_dec_left_l0.eq_2] at H
      show WP _ _ _ _ ((((((Env.none.upd 2 (.ptr 0 0)).upd 3 (.ptr 1 0)).upd 4 (.ptr 2 0)).upd 5 (.lit (.int .u64 x4496))).upd 26 (.lit (.int .i64 (IntKind.wrap .i64 (x4310 - x4314))))).upd 27 (.lit (.int .i64 x4497))) (((Mem.nil.push (.cells 47 [.lit (.bool x4307), .lit (.int .u64 x4308), .lit (.int .u64 x4309), .lit (.int .i64 x4310)])).push (.cells 47 [.lit (.bool x4311), .lit (.int .u64 x4312), .lit (.int .u64 x4313), .lit (.int .i64 x4314)])).push (.cells 47 [.lit (.bool false), .lit (.int .u64 0), .lit (.int .u64 0), .lit (.int .i64 0)])) _
      refine WP.seq ?_
      refine WP.region ?_
      obtain ⟨x4512, h4512, H⟩ := bnd H
      refine WPL.q (q_nm (q_lss rfl rfl) (nm_bool h4512)) rfl ?_
      refine WPL.nilW ?_
      refine W.now ?_
      refine Then.n ?_
      refine WP.seq ?_
      refine WP.cond (t := x4512) rfl (fun hb4513 => ?_) (fun hb4513 => ?_)
      · replace H := cnt hb4513 H
        refine WP.skipW ?_
        refine W.now ?_
        refine Then.n ?_
        refine WP.seq ?_
        refine WP.block ?_
        refine WP.seq ?_
        refine WP.region ?_
        refine WPL.q (q_mv (v := .lit (.int _ _)) rfl) rfl ?_
        obtain ⟨x4516, h4514, H⟩ := bnd H
        refine WPL.c (runs_call (s := []) (t := []) (N := 3) (bor := []) fn53 rfl (s_math_bits_Mul64 k x4496 10 x4516 h4514) ⟨rfl, trivial, by decide, rfl, trivial⟩ rfl trivial (.ren rfl rfl (.ren rfl rfl .nil)) rfl trivial rfl) rfl ?_
        refine WPL.q (q_mv (v := .tup _) rfl) rfl ?_
        refine WPL.q (q_extract rfl rfl) rfl ?_
        refine WPL.q (q_extract rfl rfl) rfl ?_
        refine WPL.q (q_as (v := .lit (.int _ _)) rfl) rfl ?_
        refine WPL.q (q_as (v := .lit (.int _ _)) rfl) rfl ?_
        refine WPL.nilW ?_
        refine W.now ?_
        refine Then.n ?_
        refine WP.regionD' 14 [1] [] mixed rfl ?_
        refine WPD.takeT 0 rfl (by kernel_rfl) (q_mv (v := .lit (.int _ _)) rfl) rfl ?_
        refine WPD.takeT 1 rfl (by kernel_rfl) (q_fieldAddr fi47_1 rfl rfl) rfl ?_
        refine WPD.takeT 2 rfl (by kernel_rfl) (q_fieldAddr fi43_1 rfl rfl) rfl ?_
        refine WPD.takeT 5 rfl (by kernel_rfl) (q_mv (v := .lit (.int _ _)) rfl) rfl ?_
        refine WPD.takeT 6 rfl (by kernel_rfl) (q_fieldAddr fi47_1 rfl rfl) rfl ?_
        refine WPD.takeT 7 rfl (by kernel_rfl) (q_fieldAddr fi43_1 rfl rfl) rfl ?_
        refine WPD.take 3 rfl (by kernel_rfl) (q_load sc38 rfl rfl rfl) rfl rfl ?_
        obtain ⟨h4520, H⟩ := grd H
        refine WPD.takeT 4 rfl (by kernel_rfl) (q_rem rfl rfl (bnot h4520)) rfl ?_
        refine WPD.take 8 rfl (by kernel_rfl) (q_load sc38 rfl rfl rfl) rfl rfl ?_
        obtain ⟨⟨x4523, x4524⟩, h4521, H⟩ := bnd H
        refine WPD.eff 9 [1] [] rfl (by kernel_rfl) (runs_call (s := []) (t := []) (N := 3) (bor := []) fn64 rfl (s_math_bits_Div64 k (Int.tmod x4516 x4313) (IntKind.wrap .u64 (x4496 * 10)) x4313 x4523 x4524 h4521) ⟨rfl, trivial, by decide, rfl, trivial⟩ rfl trivial (.ren rfl rfl (.ren rfl rfl (.ren rfl rfl .nil))) rfl trivial rfl) rfl rfl ?_
        refine WPD.takeT 10 rfl (by kernel_rfl) (q_mv (v := .tup _) rfl) rfl ?_
        refine WPD.takeT 11 rfl (by kernel_rfl) (q_extract rfl rfl) rfl ?_
        refine WPD.takeT 12 rfl (by kernel_rfl) (q_extract rfl rfl) rfl ?_
        refine WPD.takeT 13 rfl (by kernel_rfl) (q_as (v := .lit (.int _ _)) rfl) rfl ?_
        refine WPD.doneW (by kernel_rfl) ?_
        refine W.now ?_
        refine InBlock.n ?_
        refine Then.n ?_
        refine WP.region ?_
        refine WPL.q (q_add rfl rfl) rfl ?_
        refine WPL.q (q_mv (v := .lit (.int _ _)) rfl) rfl ?_
        refine WPL.nilW ?_
        refine W.cv (Cv.weak (E' := ((((((Env.none.upd 2 (.ptr 0 0)).upd 3 (.ptr 1 0)).upd 4 (.ptr 2 0)).upd 5 (.lit (.int .u64 x4524))).upd 26 (.lit (.int .i64 (IntKind.wrap .i64 (x4310 - x4314))))).upd 27 (.lit (.int .i64 (IntKind.wrap .i64 (x4497 + 1)))))) (M' := (((Mem.nil.push (.cells 47 [.lit (.bool x4307), .lit (.int .u64 x4308), .lit (.int .u64 x4309), .lit (.int .i64 x4310)])).push (.cells 47 [.lit (.bool x4311), .lit (.int .u64 x4312), .lit (.int .u64 x4313), .lit (.int .i64 x4314)])).push (.cells 47 [.lit (.bool false), .lit (.int .u64 0), .lit (.int .u64 0), .lit (.int .i64 0)]))) [0, 1, 2] hnp ⟨rfl, ⟨⟨⟨trivial, .inr ⟨rfl, rfl, rfl⟩⟩, .inr ⟨rfl, rfl, rfl⟩⟩, .inr ⟨rfl, rfl, rfl⟩⟩, by decide, rfl, trivial⟩ (LeE.upd rfl rfl (LeE.upd rfl rfl (LeE.upd rfl rfl (LeE.upd rfl rfl (LeE.upd rfl rfl (LeE.upd rfl rfl (LeE.none rfl rfl)))))))) rfl ?_
        refine W.now ?_
        exact Then.n ⟨n, (x4524, (IntKind.wrap .i64 (x4497 + 1))), Nat.lt_succ_self n, H, rfl, rfl⟩
      · replace H := cnf hb4513 H
        refine WP.exitW ?_
        refine W.cv (Cv.weak (E' := ((((Env.none.upd 2 (.ptr 0 0)).upd 3 (.ptr 1 0)).upd 4 (.ptr 2 0)).upd 5 (.lit (.int .u64 x4496)))) (M' := (((Mem.nil.push (.cells 47 [.lit (.bool x4307), .lit (.int .u64 x4308), .lit (.int .u64 x4309), .lit (.int .i64 x4310)])).push (.cells 47 [.lit (.bool x4311), .lit (.int .u64 x4312), .lit (.int .u64 x4313), .lit (.int .i64 x4314)])).push (.cells 47 [.lit (.bool false), .lit (.int .u64 0), .lit (.int .u64 0), .lit (.int .i64 0)]))) [0, 1, 2] hnp ⟨rfl, ⟨⟨⟨trivial, .inr ⟨rfl, rfl, rfl⟩⟩, .inr ⟨rfl, rfl, rfl⟩⟩, .inr ⟨rfl, rfl, rfl⟩⟩, by decide, rfl, trivial⟩ (LeE.upd rfl rfl (LeE.upd rfl rfl (LeE.upd rfl rfl (LeE.upd rfl rfl (LeE.none rfl rfl)))))) rfl ?_
        refine W.now ?_
        refine Then.x ?_
        refine Then.x ?_
        have q0 := (Option.some.inj H)
        subst q0
        exact ⟨rfl, rfl, rfl⟩
    · rintro _ _ _ ⟨rfl, rfl, rfl⟩
      refine W.now ?_
      refine InBlock.x0 ?_
      refine Then.n ?_
      refine WP.seq ?_
      refine WP.region ?_
      refine WPL.q (q_fieldAddr fi47_0 rfl rfl) rfl ?_
      refine WPL.q (q_load sc4 rfl rfl rfl) rfl ?_
      refine WPL.q (q_mv (v := .lit (.int _ _)) rfl) rfl ?_
      refine WPL.q (q_build bu43 rfl) rfl ?_
      refine WPL.q (q_fieldAddr fi47_2 rfl rfl) rfl ?_
      refine WPL.q (q_load sc3 rfl rfl rfl) rfl ?_
      refine WPL.q (q_build bu47 rfl) rfl ?_
      refine WPL.s (s_store sz47 rfl rfl rfl rfl rfl) ?_
      refine WPL.nilW ?_
      refine W.now ?_
      refine Then.n ?_
      refine WP.retW ?_
      refine W.now ?_
      refine Then.r ?_
      have q0 := (Prod.mk.inj (Option.some.inj H)).1
      have q1 := (Prod.mk.inj (Prod.mk.inj (Option.some.inj H)).2).1
      have q2 := (Prod.mk.inj (Prod.mk.inj (Option.some.inj H)).2).2
      subst q0
      subst q1
      subst q2
      exact ⟨trivial, _, rfl, [2], (.agg [.lit (.bool x4307), .lit (.int .u64 0), .lit (.int .u64 x4511), .lit (.int .i64 x4314)]), (Mem.nil.push (.cells 47 [.lit (.bool x4307), .lit (.int .u64 0), .lit (.int .u64 x4511), .lit (.int .i64 x4314)])), ⟨rfl, ⟨trivial, .inr ⟨rfl, rfl, rfl⟩⟩, by decide, rfl, trivial⟩, rfl, rfl, rfl, rfl⟩
  · replace H := cnf hb4480 H
    refine WP.skipW ?_
    refine W.now ?_
    refine Then.n ?_
    refine WP.seq ?_
    refine WP.region ?_
    refine WPL.q (q_fieldAddr fi47_1 rfl rfl) rfl ?_
    refine WPL.q (q_load_ag ag43 rfl rfl (Nat.le_of_ble_eq_true rfl)) rfl ?_
    refine WPL.q (q_fieldAddr fi47_2 rfl rfl) rfl ?_
    refine WPL.q (q_load sc3 rfl rfl rfl) rfl ?_
    refine WPL.q (q_fieldAddr fi47_2 rfl rfl) rfl ?_
    refine WPL.q (q_load sc3 rfl rfl rfl) rfl ?_
    refine WPL.q (q_sub rfl rfl) rfl ?_
    obtain ⟨⟨x4527, x4528, x4529⟩, h4525, H⟩ := bnd H
    refine WPL.c (runs_call (s := []) (t := [3]) (N := 4) (bor := []) fn60 rfl (s_dec_wide_tens k x4312 x4313 (IntKind.wrap .i64 (x4314 - x4310)) x4527 x4528 x4529 h4525) ⟨rfl, trivial, by decide, rfl, trivial⟩ rfl trivial (.ren rfl rfl (.ren rfl rfl .nil)) rfl ⟨trivial, rfl⟩ rfl) rfl ?_
    refine WPL.q (q_mv (v := .tup _) rfl) rfl ?_
    refine WPL.q (q_extract rfl rfl) rfl ?_
    refine WPL.q (q_extract rfl rfl) rfl ?_
    refine WPL.d (d_alloc ze43 rfl) rfl ?_
    refine WPL.s (s_store sz43 rfl rfl rfl rfl rfl) ?_
    refine WPL.q (q_as (v := .lit (.bool _)) rfl) rfl ?_
    refine WPL.nilW ?_
    refine W.now ?_
    refine Then.n ?_
    refine WP.seq ?_
    refine WP.seq ?_
    obtain ⟨x4542, H4545, H⟩ := bnd H
    refine WP.monoW (Q := fun x E M => x = .normal ∧ E = ((((Env.none.upd 2 (.ptr 0 0)).upd 4 (.ptr 1 0)).upd 8 (.ptr 2 0)).upd 74 (.lit (.bool x4542))) ∧ M = (((Mem.nil.push (.cells 47 [.lit (.bool x4307), .lit (.int .u64 x4308), .lit (.int .u64 x4309), .lit (.int .i64 x4310)])).push (.cells 47 [.lit (.bool false), .lit (.int .u64 0), .lit (.int .u64 0), .lit (.int .i64 0)])).push (.cells 43 [.lit (.int .u64 x4528), .lit (.int .u64 x4529)]))) ?_ ?_
    · clear H
      have H := H4545
      clear H4545
      refine WP.region ?_
      refine WPL.q (q_mv (v := .lit (.bool _)) rfl) rfl ?_
      refine WPL.q (q_not rfl) rfl ?_
      refine WPL.q (q_mv (v := .lit (.bool _)) rfl) rfl ?_
      refine WPL.split (t := 68) (b := (!x4527)) rfl (fun hb4542 => ?_) (fun hb4542 => ?_)
      · replace H := cnt hb4542 H
        refine WPL.skipg (b' := true) rfl rfl (lb hb4542) rfl rfl ?_
        refine WPL.skipg (b' := true) rfl rfl (lb hb4542) rfl rfl ?_
        refine WPL.skipg (b' := true) rfl rfl (lb hb4542) rfl rfl ?_
        refine WPL.skipg (b' := true) rfl rfl (lb hb4542) rfl rfl ?_
        refine WPL.skipg (b' := true) rfl rfl (lb hb4542) rfl rfl ?_
        refine WPL.q (q_pickT (v := .lit (.bool _)) (lb hb4542) rfl) rfl ?_
        refine WPL.nilW ?_
        refine W.cv (Cv.weak (E' := ((((Env.none.upd 2 (.ptr 0 0)).upd 4 (.ptr 1 0)).upd 8 (.ptr 2 0)).upd 74 (.lit (.bool true)))) (M' := (((Mem.nil.push (.cells 47 [.lit (.bool x4307), .lit (.int .u64 x4308), .lit (.int .u64 x4309), .lit (.int .i64 x4310)])).push (.cells 47 [.lit (.bool false), .lit (.int .u64 0), .lit (.int .u64 0), .lit (.int .i64 0)])).push (.cells 43 [.lit (.int .u64 x4528), .lit (.int .u64 x4529)]))) [0, 2, 4] hnp ⟨rfl, ⟨⟨⟨trivial, .inr ⟨rfl, rfl, rfl⟩⟩, .inr ⟨rfl, rfl, rfl⟩⟩, .inr ⟨rfl, rfl, rfl⟩⟩, by decide, rfl, trivial⟩ (LeE.upd rfl rfl (LeE.upd rfl rfl (LeE.upd rfl rfl (LeE.upd rfl rfl (LeE.none rfl rfl)))))) rfl ?_
        refine W.now ?_
        have q0 := (Option.some.inj H)
        subst q0
        exact ⟨rfl, rfl, rfl⟩
      · replace H := cnf hb4542 H
        refine WPL.qg rfl rfl (lb hb4542) (q_load_ag ag43 rfl rfl (Nat.le_of_ble_eq_true rfl)) rfl ?_
        refine WPL.qg rfl rfl (lb hb4542) (q_fieldAddr fi47_1 rfl rfl) rfl ?_
        refine WPL.qg rfl rfl (lb hb4542) (q_load_ag ag43 rfl rfl (Nat.le_of_ble_eq_true rfl)) rfl ?_
        obtain ⟨x4545, h4543, H⟩ := bnd H
        refine WPL.cg rfl rfl (lb hb4542) (runs_call (s := []) (t := []) (N := 5) (bor := []) fn48 rfl (s_dec_wide_cmp k x4528 x4529 x4308 x4309 x4545 h4543) ⟨rfl, trivial, by decide, rfl, trivial⟩ rfl trivial (.ren rfl rfl (.ren rfl rfl .nil)) rfl trivial rfl) rfl ?_
        refine WPL.qg rfl rfl (lb hb4542) (q_gtr rfl rfl) rfl ?_
        refine WPL.q (q_pickF (v := .lit (.bool _)) (lb hb4542) rfl) rfl ?_
        refine WPL.nilW ?_
        refine W.cv (Cv.weak (E' := ((((Env.none.upd 2 (.ptr 0 0)).upd 4 (.ptr 1 0)).upd 8 (.ptr 2 0)).upd 74 (.lit (.bool (decide (0 < x4545)))))) (M' := (((Mem.nil.push (.cells 47 [.lit (.bool x4307), .lit (.int .u64 x4308), .lit (.int .u64 x4309), .lit (.int .i64 x4310)])).push (.cells 47 [.lit (.bool false), .lit (.int .u64 0), .lit (.int .u64 0), .lit (.int .i64 0)])).push (.cells 43 [.lit (.int .u64 x4528), .lit (.int .u64 x4529)]))) [0, 2, 4] hnp ⟨rfl, ⟨⟨⟨trivial, .inr ⟨rfl, rfl, rfl⟩⟩, .inr ⟨rfl, rfl, rfl⟩⟩, .inr ⟨rfl, rfl, rfl⟩⟩, by decide, rfl, trivial⟩ (LeE.upd rfl rfl (LeE.upd rfl rfl (LeE.upd rfl rfl (LeE.upd rfl rfl (LeE.none rfl rfl)))))) rfl ?_
        refine W.now ?_
        have q0 := (Option.some.inj H)
        subst q0
        exact ⟨rfl, rfl, rfl⟩
    · rintro _ _ _ ⟨rfl, rfl, rfl⟩
      refine W.now ?_
      refine Then.n ?_
      refine WP.cond (t := x4542) rfl (fun hb4546 => ?_) (fun hb4546 => ?_)
      · replace H := cnt hb4546 H
        refine WP.seq ?_
        refine WP.region ?_
        refine WPL.q (q_load_ag ag47 rfl rfl (Nat.le_of_ble_eq_true rfl)) rfl ?_
        refine WPL.s (s_store sz47 rfl rfl rfl rfl rfl) ?_
        refine WPL.nilW ?_
        refine W.now ?_
        refine Then.n ?_
        refine WP.retW ?_
        refine W.now ?_
        refine Then.r ?_
        have q0 := (Prod.mk.inj (Option.some.inj H)).1
        have q1 := (Prod.mk.inj (Prod.mk.inj (Option.some.inj H)).2).1
        have q2 := (Prod.mk.inj (Prod.mk.inj (Option.some.inj H)).2).2
        subst q0
        subst q1
        subst q2
        exact ⟨trivial, _, rfl, [1], (.agg [.lit (.bool x4307), .lit (.int .u64 x4308), .lit (.int .u64 x4309), .lit (.int .i64 x4310)]), (Mem.nil.push (.cells 47 [.lit (.bool x4307), .lit (.int .u64 x4308), .lit (.int .u64 x4309), .lit (.int .i64 x4310)])), ⟨rfl, ⟨trivial, .inr ⟨rfl, rfl, rfl⟩⟩, by decide, rfl, trivial⟩, rfl, rfl, rfl, rfl⟩
      · replace H := cnf hb4546 H
        refine WP.skipW ?_
        refine W.now ?_
        refine Then.n ?_
        refine WP.seq ?_
        refine WP.regionD' 13 [0, 2] [] mixed rfl ?_
        refine WPD.takeT 0 rfl (by kernel_rfl) (q_fieldAddr fi47_0 rfl rfl) rfl ?_
        refine WPD.takeT 2 rfl (by kernel_rfl) (q_fieldAddr fi47_1 rfl rfl) rfl ?_
        refine WPD.takeT 3 rfl (by kernel_rfl) (q_fieldAddr fi43_1 rfl rfl) rfl ?_
        refine WPD.takeT 5 rfl (by kernel_rfl) (q_fieldAddr fi43_1 rfl rfl) rfl ?_
        refine WPD.takeT 9 rfl (by kernel_rfl) (q_fieldAddr fi47_2 rfl rfl) rfl ?_
        refine WPD.take 1 rfl (by kernel_rfl) (q_load sc4 rfl rfl rfl) rfl rfl ?_
        refine WPD.take 4 rfl (by kernel_rfl) (q_load sc38 rfl rfl rfl) rfl rfl ?_
        refine WPD.take 6 rfl (by kernel_rfl) (q_load sc38 rfl rfl rfl) rfl rfl ?_
        obtain ⟨h4548, H⟩ := grd H
        refine WPD.takeT 7 rfl (by kernel_rfl) (q_rem rfl rfl (bnot h4548)) rfl ?_
        refine WPD.takeT 8 rfl (by kernel_rfl) (q_build bu43 rfl) rfl ?_
        refine WPD.take 10 rfl (by kernel_rfl) (q_load sc3 rfl rfl rfl) rfl rfl ?_
        refine WPD.takeT 11 rfl (by kernel_rfl) (q_build bu47 rfl) rfl ?_
        refine WPD.effS 12 [0, 2] [] rfl (by kernel_rfl) (s_store sz47 rfl rfl rfl rfl rfl) rfl ?_
        refine WPD.doneW (by kernel_rfl) ?_
        refine W.now ?_
        refine Then.n ?_
        refine WP.retW ?_
        refine W.now ?_
        have q0 := (Prod.mk.inj (Option.some.inj H)).1
        have q1 := (Prod.mk.inj (Prod.mk.inj (Option.some.inj H)).2).1
        have q2 := (Prod.mk.inj (Prod.mk.inj (Option.some.inj H)).2).2
        subst q0
        subst q1
        subst q2
        exact ⟨trivial, _, rfl, [1], (.agg [.lit (.bool x4307), .lit (.int .u64 0), .lit (.int .u64 (Int.tmod x4309 x4529)), .lit (.int .i64 x4310)]), (Mem.nil.push (.cells 47 [.lit (.bool x4307), .lit (.int .u64 0), .lit (.int .u64 (Int.tmod x4309 x4529)), .lit (.int .i64 x4310)])), ⟨rfl, ⟨trivial, .inr ⟨rfl, rfl, rfl⟩⟩, by decide, rfl, trivial⟩, rfl, rfl, rfl, rfl⟩
end Go.Proofs.Ytdbeblgfccjbgaa.W
namespace Go.Proofs.Ytdbeblgfccjbgaa.W
open Go Go.Q Go.Proofs
set_option linter.unusedVariables false
set_option linter.unusedSimpArgs false
set_option maxRecDepth 100000 in
set_option maxHeartbeats 4000000 in
theorem s_dec_even (k : Nat) (x4695 : Int) (x4696 : Int) (x4697 : Int) (x4698 : Int) (x4867 : Bool) (x4868 : Int) (x4869 : Int) (x4870 : Int) (x4871 : Int) (x4872 : Int) (x4873 : Int) (H : g_dec_even k x4695 x4696 x4697 x4698 = some (x4867, x4868, x4869, x4870, x4871, x4872, x4873)) : Go.Q.Spec Try.prog 46 0 [.agg [.lit (.int .i64 x4695), .lit (.int .i64 x4696)], .agg [.lit (.int .i64 x4697), .lit (.int .i64 x4698)]] Mem.nil (fun o M => o = .ret (.tup [.agg [.lit (.bool (decide (x4695 < 0))), .lit (.int .u64 x4868), .lit (.int .u64 x4869), .lit (.int .i64 x4870)], .agg [.lit (.bool (decide (x4697 < 0))), .lit (.int .u64 x4871), .lit (.int .u64 x4872), .lit (.int .i64 x4873)], .lit (.bool x4867)]) ∧ M = ((Mem.nil.push (.cells 47 [.lit (.bool (decide (x4695 < 0))), .lit (.int .u64 x4868), .lit (.int .u64 x4869), .lit (.int .i64 x4870)])).push (.cells 47 [.lit (.bool (decide (x4697 < 0))), .lit (.int .u64 x4871), .lit (.int .u64 x4872), .lit (.int .i64 x4873)]))) := by
  unfold g_dec_even at H
  refine Go.Q.Spec.of_bodyR (az := [(47, 4)]) (rs := [.cell 4 47, .cell 5 47, .tmp 6]) (nt := 73) Try.func46 rfl rfl (by intro t T h; simp at h; rcases h with ⟨rfl, rfl⟩ | ⟨rfl, rfl⟩ <;> first | exact ag47 | exact ag47) rfl rfl fun cx hnp => ?_
  refine WP.seq ?_
  refine WP.region ?_
  refine WPL.d (d_box rfl rfl) rfl ?_
  refine WPL.d (d_box rfl rfl) rfl ?_
  refine WPL.d (d_alloc ze47 rfl) rfl ?_
  refine WPL.d (d_alloc ze47 rfl) rfl ?_
  refine WPL.q (q_as (v := .lit (.bool _)) rfl) rfl ?_
  refine WPL.nilW ?_
  refine W.now ?_
  refine Then.n ?_
  refine WP.seq ?_
  obtain ⟨⟨x4938, x4939⟩, H5003, H⟩ := bnd H
  refine WP.monoW (Q := fun x E M => x = .normal ∧ E = ((((Env.none.upd 4 (.ptr 0 0)).upd 5 (.ptr 1 0)).upd 7 (.ptr 2 0)).upd 8 (.ptr 3 0)) ∧ M = ((((Mem.nil.push (.cells 47 [.lit (.bool false), .lit (.int .u64 0), .lit (.int .u64 0), .lit (.int .i64 0)])).push (.cells 47 [.lit (.bool false), .lit (.int .u64 0), .lit (.int .u64 0), .lit (.int .i64 0)])).push (.cells 47 [.lit (.bool (decide (x4695 < 0))), .lit (.int .u64 0), .lit (.int .u64 x4938), .lit (.int .i64 x4696)])).push (.cells 47 [.lit (.bool (decide (x4697 < 0))), .lit (.int .u64 0), .lit (.int .u64 x4939), .lit (.int .i64 x4698)]))) ?_ ?_
  · clear H
    have H := H5003
    clear H5003
    refine WP.regionD' 8 [0, 1] [] mixed rfl ?_
    refine WPD.take 0 rfl (by kernel_rfl) (q_load_ag ag23 rfl rfl (Nat.le_of_ble_eq_true rfl)) rfl rfl ?_
    refine WPD.take 2 rfl (by kernel_rfl) (q_load_ag ag23 rfl rfl (Nat.le_of_ble_eq_true rfl)) rfl rfl ?_
    refine WPD.of3 1 4 5 (by kernel_rfl) ?_ ?_ ?_
    · obtain ⟨x4973, h4971, H⟩ := bnd H
      refine WPD1.eff 1 [0, 1] [] rfl (runs_call (s := []) (t := [4]) (N := 5) (bor := []) fn38 rfl (s_dec_of k x4695 x4696 x4973 h4971) ⟨rfl, trivial, by decide, rfl, trivial⟩ rfl trivial (.ren rfl rfl .nil) rfl ⟨trivial, rfl⟩ rfl) rfl rfl ?_
      refine WPD.of3 3 4 5 (by kernel_rfl) ?_ ?_ ?_
      · obtain ⟨x4975, h4973, H⟩ := bnd H
        refine WPD1.eff 3 [0, 1] [] rfl (runs_call (s := []) (t := [5]) (N := 6) (bor := []) fn38 rfl (s_dec_of k x4697 x4698 x4975 h4973) ⟨rfl, trivial, by decide, rfl, trivial⟩ rfl trivial (.ren rfl rfl .nil) rfl ⟨trivial, rfl⟩ rfl) rfl rfl ?_
        refine WPD.of2 4 5 (by kernel_rfl) ?_ ?_
        · refine WPD1.eff 4 [0, 1] [] rfl (Does.runs (d_alloc ze47 rfl)) rfl rfl ?_
          refine WPD.eff 5 [0, 1] [] rfl (by kernel_rfl) (Does.runs (d_alloc ze47 rfl)) rfl rfl ?_
          refine WPD.effS 6 [0, 1] [] rfl (by kernel_rfl) (s_store sz47 rfl rfl rfl rfl rfl) rfl ?_
          refine WPD.effS 7 [0, 1] [] rfl (by kernel_rfl) (s_store sz47 rfl rfl rfl rfl rfl) rfl ?_
          refine WPD.doneW (by kernel_rfl) ?_
          refine W.cv (Cv.weak (E' := ((((Env.none.upd 4 (.ptr 0 0)).upd 5 (.ptr 1 0)).upd 7 (.ptr 2 0)).upd 8 (.ptr 3 0))) (M' := ((((Mem.nil.push (.cells 47 [.lit (.bool false), .lit (.int .u64 0), .lit (.int .u64 0), .lit (.int .i64 0)])).push (.cells 47 [.lit (.bool false), .lit (.int .u64 0), .lit (.int .u64 0), .lit (.int .i64 0)])).push (.cells 47 [.lit (.bool (decide (x4695 < 0))), .lit (.int .u64 0), .lit (.int .u64 x4973), .lit (.int .i64 x4696)])).push (.cells 47 [.lit (.bool (decide (x4697 < 0))), .lit (.int .u64 0), .lit (.int .u64 x4975), .lit (.int .i64 x4698)]))) [2, 3, 6, 7] hnp ⟨rfl, ⟨⟨⟨⟨trivial, .inr ⟨rfl, rfl, rfl⟩⟩, .inr ⟨rfl, rfl, rfl⟩⟩, .inr ⟨rfl, rfl, rfl⟩⟩, .inr ⟨rfl, rfl, rfl⟩⟩, by decide, rfl, trivial⟩ (LeE.upd rfl rfl (LeE.upd rfl rfl (LeE.upd rfl rfl (LeE.upd rfl rfl (LeE.none rfl rfl)))))) rfl ?_
          refine W.now ?_
          have q0 := (Prod.mk.inj (Option.some.inj H)).1
          have q1 := (Prod.mk.inj (Option.some.inj H)).2
          subst q0
          subst q1
          exact ⟨rfl, rfl, rfl⟩
        · refine WPD1.eff 5 [0, 1] [] rfl (Does.runs (d_alloc ze47 rfl)) rfl rfl ?_
          refine WPD.eff 4 [0, 1] [] rfl (by kernel_rfl) (Does.runs (d_alloc ze47 rfl)) rfl rfl ?_
          refine WPD.effS 6 [0, 1] [] rfl (by kernel_rfl) (s_store sz47 rfl rfl rfl rfl rfl) rfl ?_
          refine WPD.effS 7 [0, 1] [] rfl (by kernel_rfl) (s_store sz47 rfl rfl rfl rfl rfl) rfl ?_
          refine WPD.doneW (by kernel_rfl) ?_
          refine W.cv (Cv.weak (E' := ((((Env.none.upd 4 (.ptr 0 0)).upd 5 (.ptr 1 0)).upd 7 (.ptr 2 0)).upd 8 (.ptr 3 0))) (M' := ((((Mem.nil.push (.cells 47 [.lit (.bool false), .lit (.int .u64 0), .lit (.int .u64 0), .lit (.int .i64 0)])).push (.cells 47 [.lit (.bool false), .lit (.int .u64 0), .lit (.int .u64 0), .lit (.int .i64 0)])).push (.cells 47 [.lit (.bool (decide (x4695 < 0))), .lit (.int .u64 0), .lit (.int .u64 x4973), .lit (.int .i64 x4696)])).push (.cells 47 [.lit (.bool (decide (x4697 < 0))), .lit (.int .u64 0), .lit (.int .u64 x4975), .lit (.int .i64 x4698)]))) [2, 3, 7, 6] hnp ⟨rfl, ⟨⟨⟨⟨trivial, .inr ⟨rfl, rfl, rfl⟩⟩, .inr ⟨rfl, rfl, rfl⟩⟩, .inr ⟨rfl, rfl, rfl⟩⟩, .inr ⟨rfl, rfl, rfl⟩⟩, by decide, rfl, trivial⟩ (LeE.upd rfl rfl (LeE.upd rfl rfl (LeE.upd rfl rfl (LeE.upd rfl rfl (LeE.none rfl rfl)))))) rfl ?_
          refine W.now ?_
          have q0 := (Prod.mk.inj (Option.some.inj H)).1
          have q1 := (Prod.mk.inj (Option.some.inj H)).2
          subst q0
          subst q1
          exact ⟨rfl, rfl, rfl⟩
      · refine WPD1.eff 4 [0, 1] [] rfl (Does.runs (d_alloc ze47 rfl)) rfl rfl ?_
        refine WPD.of2 3 5 (by kernel_rfl) ?_ ?_
        · obtain ⟨x4977, h4975, H⟩ := bnd H
          refine WPD1.eff 3 [0, 1] [] rfl (runs_call (s := []) (t := [6]) (N := 7) (bor := []) fn38 rfl (s_dec_of k x4697 x4698 x4977 h4975) ⟨rfl, trivial, by decide, rfl, trivial⟩ rfl trivial (.ren rfl rfl .nil) rfl ⟨trivial, rfl⟩ rfl) rfl rfl ?_
          refine WPD.eff 5 [0, 1] [] rfl (by kernel_rfl) (Does.runs (d_alloc ze47 rfl)) rfl rfl ?_
          refine WPD.effS 6 [0, 1] [] rfl (by kernel_rfl) (s_store sz47 rfl rfl rfl rfl rfl) rfl ?_
          refine WPD.effS 7 [0, 1] [] rfl (by kernel_rfl) (s_store sz47 rfl rfl rfl rfl rfl) rfl ?_
          refine WPD.doneW (by kernel_rfl) ?_
          refine W.cv (Cv.weak (E' := ((((Env.none.upd 4 (.ptr 0 0)).upd 5 (.ptr 1 0)).upd 7 (.ptr 2 0)).upd 8 (.ptr 3 0))) (M' := ((((Mem.nil.push (.cells 47 [.lit (.bool false), .lit (.int .u64 0), .lit (.int .u64 0), .lit (.int .i64 0)])).push (.cells 47 [.lit (.bool false), .lit (.int .u64 0), .lit (.int .u64 0), .lit (.int .i64 0)])).push (.cells 47 [.lit (.bool (decide (x4695 < 0))), .lit (.int .u64 0), .lit (.int .u64 x4973), .lit (.int .i64 x4696)])).push (.cells 47 [.lit (.bool (decide (x4697 < 0))), .lit (.int .u64 0), .lit (.int .u64 x4977), .lit (.int .i64 x4698)]))) [2, 3, 5, 7] hnp ⟨rfl, ⟨⟨⟨⟨trivial, .inr ⟨rfl, rfl, rfl⟩⟩, .inr ⟨rfl, rfl, rfl⟩⟩, .inr ⟨rfl, rfl, rfl⟩⟩, .inr ⟨rfl, rfl, rfl⟩⟩, by decide, rfl, trivial⟩ (LeE.upd rfl rfl (LeE.upd rfl rfl (LeE.upd rfl rfl (LeE.upd rfl rfl (LeE.none rfl rfl)))))) rfl ?_
          refine W.now ?_
          have q0 := (Prod.mk.inj (Option.some.inj H)).1
          have q1 := (Prod.mk.inj (Option.some.inj H)).2
          subst q0
          subst q1
          exact ⟨rfl, rfl, rfl⟩
        · refine WPD1.eff 5 [0, 1] [] rfl (Does.runs (d_alloc ze47 rfl)) rfl rfl ?_
          obtain ⟨x4979, h4977, H⟩ := bnd H
          refine WPD.eff 3 [0, 1] [] rfl (by kernel_rfl) (runs_call (s := []) (t := [7]) (N := 8) (bor := []) fn38 rfl (s_dec_of k x4697 x4698 x4979 h4977) ⟨rfl, trivial, by decide, rfl, trivial⟩ rfl trivial (.ren rfl rfl .nil) rfl ⟨trivial, rfl⟩ rfl) rfl rfl ?_
          refine WPD.effS 6 [0, 1] [] rfl (by kernel_rfl) (s_store sz47 rfl rfl rfl rfl rfl) rfl ?_
          refine WPD.effS 7 [0, 1] [] rfl (by kernel_rfl) (s_store sz47 rfl rfl rfl rfl rfl) rfl ?_
          refine WPD.doneW (by kernel_rfl) ?_
          refine W.cv (Cv.weak (E' := ((((Env.none.upd 4 (.ptr 0 0)).upd 5 (.ptr 1 0)).upd 7 (.ptr 2 0)).upd 8 (.ptr 3 0))) (M' := ((((Mem.nil.push (.cells 47 [.lit (.bool false), .lit (.int .u64 0), .lit (.int .u64 0), .lit (.int .i64 0)])).push (.cells 47 [.lit (.bool false), .lit (.int .u64 0), .lit (.int .u64 0), .lit (.int .i64 0)])).push (.cells 47 [.lit (.bool (decide (x4695 < 0))), .lit (.int .u64 0), .lit (.int .u64 x4973), .lit (.int .i64 x4696)])).push (.cells 47 [.lit (.bool (decide (x4697 < 0))), .lit (.int .u64 0), .lit (.int .u64 x4979), .lit (.int .i64 x4698)]))) [2, 3, 5, 6] hnp ⟨rfl, ⟨⟨⟨⟨trivial, .inr ⟨rfl, rfl, rfl⟩⟩, .inr ⟨rfl, rfl, rfl⟩⟩, .inr ⟨rfl, rfl, rfl⟩⟩, .inr ⟨rfl, rfl, rfl⟩⟩, by decide, rfl, trivial⟩ (LeE.upd rfl rfl (LeE.upd rfl rfl (LeE.upd rfl rfl (LeE.upd rfl rfl (LeE.none rfl rfl)))))) rfl ?_
          refine W.now ?_
          have q0 := (Prod.mk.inj (Option.some.inj H)).1
          have q1 := (Prod.mk.inj (Option.some.inj H)).2
          subst q0
          subst q1
          exact ⟨rfl, rfl, rfl⟩
      · refine WPD1.eff 5 [0, 1] [] rfl (Does.runs (d_alloc ze47 rfl)) rfl rfl ?_
        refine WPD.of2 3 4 (by kernel_rfl) ?_ ?_
        · obtain ⟨x4981, h4979, H⟩ := bnd H
          refine WPD1.eff 3 [0, 1] [] rfl (runs_call (s := []) (t := [6]) (N := 7) (bor := []) fn38 rfl (s_dec_of k x4697 x4698 x4981 h4979) ⟨rfl, trivial, by decide, rfl, trivial⟩ rfl trivial (.ren rfl rfl .nil) rfl ⟨trivial, rfl⟩ rfl) rfl rfl ?_
          refine WPD.eff 4 [0, 1] [] rfl (by kernel_rfl) (Does.runs (d_alloc ze47 rfl)) rfl rfl ?_
          refine WPD.effS 6 [0, 1] [] rfl (by kernel_rfl) (s_store sz47 rfl rfl rfl rfl rfl) rfl ?_
          refine WPD.effS 7 [0, 1] [] rfl (by kernel_rfl) (s_store sz47 rfl rfl rfl rfl rfl) rfl ?_
          refine WPD.doneW (by kernel_rfl) ?_
          refine W.cv (Cv.weak (E' := ((((Env.none.upd 4 (.ptr 0 0)).upd 5 (.ptr 1 0)).upd 7 (.ptr 2 0)).upd 8 (.ptr 3 0))) (M' := ((((Mem.nil.push (.cells 47 [.lit (.bool false), .lit (.int .u64 0), .lit (.int .u64 0), .lit (.int .i64 0)])).push (.cells 47 [.lit (.bool false), .lit (.int .u64 0), .lit (.int .u64 0), .lit (.int .i64 0)])).push (.cells 47 [.lit (.bool (decide (x4695 < 0))), .lit (.int .u64 0), .lit (.int .u64 x4973), .lit (.int .i64 x4696)])).push (.cells 47 [.lit (.bool (decide (x4697 < 0))), .lit (.int .u64 0), .lit (.int .u64 x4981), .lit (.int .i64 x4698)]))) [2, 3, 7, 5] hnp ⟨rfl, ⟨⟨⟨⟨trivial, .inr ⟨rfl, rfl, rfl⟩⟩, .inr ⟨rfl, rfl, rfl⟩⟩, .inr ⟨rfl, rfl, rfl⟩⟩, .inr ⟨rfl, rfl, rfl⟩⟩, by decide, rfl, trivial⟩ (LeE.upd rfl rfl (LeE.upd rfl rfl (LeE.upd rfl rfl (LeE.upd rfl rfl (LeE.none rfl rfl)))))) rfl ?_
          refine W.now ?_
          have q0 := (Prod.mk.inj (Option.some.inj H)).1
          have q1 := (Prod.mk.inj (Option.some.inj H)).2
          subst q0
          subst q1
          exact ⟨rfl, rfl, rfl⟩
        · refine WPD1.eff 4 [0, 1] [] rfl (Does.runs (d_alloc ze47 rfl)) rfl rfl ?_
          obtain ⟨x4983, h4981, H⟩ := bnd H
          refine WPD.eff 3 [0, 1] [] rfl (by kernel_rfl) (runs_call (s := []) (t := [7]) (N := 8) (bor := []) fn38 rfl (s_dec_of k x4697 x4698 x4983 h4981) ⟨rfl, trivial, by decide, rfl, trivial⟩ rfl trivial (.ren rfl rfl .nil) rfl ⟨trivial, rfl⟩ rfl) rfl rfl ?_
          refine WPD.effS 6 [0, 1] [] rfl (by kernel_rfl) (s_store sz47 rfl rfl rfl rfl rfl) rfl ?_
          refine WPD.effS 7 [0, 1] [] rfl (by kernel_rfl) (s_store sz47 rfl rfl rfl rfl rfl) rfl ?_
          refine WPD.doneW (by kernel_rfl) ?_
          refine W.cv (Cv.weak (E' := ((((Env.none.upd 4 (.ptr 0 0)).upd 5 (.ptr 1 0)).upd 7 (.ptr 2 0)).upd 8 (.ptr 3 0))) (M' := ((((Mem.nil.push (.cells 47 [.lit (.bool false), .lit (.int .u64 0), .lit (.int .u64 0), .lit (.int .i64 0)])).push (.cells 47 [.lit (.bool false), .lit (.int .u64 0), .lit (.int .u64 0), .lit (.int .i64 0)])).push (.cells 47 [.lit (.bool (decide (x4695 < 0))), .lit (.int .u64 0), .lit (.int .u64 x4973), .lit (.int .i64 x4696)])).push (.cells 47 [.lit (.bool (decide (x4697 < 0))), .lit (.int .u64 0), .lit (.int .u64 x4983), .lit (.int .i64 x4698)]))) [2, 3, 6, 5] hnp ⟨rfl, ⟨⟨⟨⟨trivial, .inr ⟨rfl, rfl, rfl⟩⟩, .inr ⟨rfl, rfl, rfl⟩⟩, .inr ⟨rfl, rfl, rfl⟩⟩, .inr ⟨rfl, rfl, rfl⟩⟩, by decide, rfl, trivial⟩ (LeE.upd rfl rfl (LeE.upd rfl rfl (LeE.upd rfl rfl (LeE.upd rfl rfl (LeE.none rfl rfl)))))) rfl ?_
          refine W.now ?_
          have q0 := (Prod.mk.inj (Option.some.inj H)).1
          have q1 := (Prod.mk.inj (Option.some.inj H)).2
          subst q0
          subst q1
          exact ⟨rfl, rfl, rfl⟩
    · refine WPD1.eff 4 [0, 1] [] rfl (Does.runs (d_alloc ze47 rfl)) rfl rfl ?_
      refine WPD.of2 1 5 (by kernel_rfl) ?_ ?_
      · obtain ⟨x4985, h4983, H⟩ := bnd H
        refine WPD1.eff 1 [0, 1] [] rfl (runs_call (s := []) (t := [5]) (N := 6) (bor := []) fn38 rfl (s_dec_of k x4695 x4696 x4985 h4983) ⟨rfl, trivial, by decide, rfl, trivial⟩ rfl trivial (.ren rfl rfl .nil) rfl ⟨trivial, rfl⟩ rfl) rfl rfl ?_
        refine WPD.of2 3 5 (by kernel_rfl) ?_ ?_
        · obtain ⟨x4987, h4985, H⟩ := bnd H
          refine WPD1.eff 3 [0, 1] [] rfl (runs_call (s := []) (t := [6]) (N := 7) (bor := []) fn38 rfl (s_dec_of k x4697 x4698 x4987 h4985) ⟨rfl, trivial, by decide, rfl, trivial⟩ rfl trivial (.ren rfl rfl .nil) rfl ⟨trivial, rfl⟩ rfl) rfl rfl ?_
          refine WPD.eff 5 [0, 1] [] rfl (by kernel_rfl) (Does.runs (d_alloc ze47 rfl)) rfl rfl ?_
          refine WPD.effS 6 [0, 1] [] rfl (by kernel_rfl) (s_store sz47 rfl rfl rfl rfl rfl) rfl ?_
          refine WPD.effS 7 [0, 1] [] rfl (by kernel_rfl) (s_store sz47 rfl rfl rfl rfl rfl) rfl ?_
          refine WPD.doneW (by kernel_rfl) ?_
          refine W.cv (Cv.weak (E' := ((((Env.none.upd 4 (.ptr 0 0)).upd 5 (.ptr 1 0)).upd 7 (.ptr 2 0)).upd 8 (.ptr 3 0))) (M' := ((((Mem.nil.push (.cells 47 [.lit (.bool false), .lit (.int .u64 0), .lit (.int .u64 0), .lit (.int .i64 0)])).push (.cells 47 [.lit (.bool false), .lit (.int .u64 0), .lit (.int .u64 0), .lit (.int .i64 0)])).push (.cells 47 [.lit (.bool (decide (x4695 < 0))), .lit (.int .u64 0), .lit (.int .u64 x4985), .lit (.int .i64 x4696)])).push (.cells 47 [.lit (.bool (decide (x4697 < 0))), .lit (.int .u64 0), .lit (.int .u64 x4987), .lit (.int .i64 x4698)]))) [2, 3, 4, 7] hnp ⟨rfl, ⟨⟨⟨⟨trivial, .inr ⟨rfl, rfl, rfl⟩⟩, .inr ⟨rfl, rfl, rfl⟩⟩, .inr ⟨rfl, rfl, rfl⟩⟩, .inr ⟨rfl, rfl, rfl⟩⟩, by decide, rfl, trivial⟩ (LeE.upd rfl rfl (LeE.upd rfl rfl (LeE.upd rfl rfl (LeE.upd rfl rfl (LeE.none rfl rfl)))))) rfl ?_
          refine W.now ?_
          have q0 := (Prod.mk.inj (Option.some.inj H)).1
          have q1 := (Prod.mk.inj (Option.some.inj H)).2
          subst q0
          subst q1
          exact ⟨rfl, rfl, rfl⟩
        · refine WPD1.eff 5 [0, 1] [] rfl (Does.runs (d_alloc ze47 rfl)) rfl rfl ?_
          obtain ⟨x4989, h4987, H⟩ := bnd H
          refine WPD.eff 3 [0, 1] [] rfl (by kernel_rfl) (runs_call (s := []) (t := [7]) (N := 8) (bor := []) fn38 rfl (s_dec_of k x4697 x4698 x4989 h4987) ⟨rfl, trivial, by decide, rfl, trivial⟩ rfl trivial (.ren rfl rfl .nil) rfl ⟨trivial, rfl⟩ rfl) rfl rfl ?_
          refine WPD.effS 6 [0, 1] [] rfl (by kernel_rfl) (s_store sz47 rfl rfl rfl rfl rfl) rfl ?_
          refine WPD.effS 7 [0, 1] [] rfl (by kernel_rfl) (s_store sz47 rfl rfl rfl rfl rfl) rfl ?_
          refine WPD.doneW (by kernel_rfl) ?_
          refine W.cv (Cv.weak (E' := ((((Env.none.upd 4 (.ptr 0 0)).upd 5 (.ptr 1 0)).upd 7 (.ptr 2 0)).upd 8 (.ptr 3 0))) (M' := ((((Mem.nil.push (.cells 47 [.lit (.bool false), .lit (.int .u64 0), .lit (.int .u64 0), .lit (.int .i64 0)])).push (.cells 47 [.lit (.bool false), .lit (.int .u64 0), .lit (.int .u64 0), .lit (.int .i64 0)])).push (.cells 47 [.lit (.bool (decide (x4695 < 0))), .lit (.int .u64 0), .lit (.int .u64 x4985), .lit (.int .i64 x4696)])).push (.cells 47 [.lit (.bool (decide (x4697 < 0))), .lit (.int .u64 0), .lit (.int .u64 x4989), .lit (.int .i64 x4698)]))) [2, 3, 4, 6] hnp ⟨rfl, ⟨⟨⟨⟨trivial, .inr ⟨rfl, rfl, rfl⟩⟩, .inr ⟨rfl, rfl, rfl⟩⟩, .inr ⟨rfl, rfl, rfl⟩⟩, .inr ⟨rfl, rfl, rfl⟩⟩, by decide, rfl, trivial⟩ (LeE.upd rfl rfl (LeE.upd rfl rfl (LeE.upd rfl rfl (LeE.upd rfl rfl (LeE.none rfl rfl)))))) rfl ?_
          refine W.now ?_
          have q0 := (Prod.mk.inj (Option.some.inj H)).1
          have q1 := (Prod.mk.inj (Option.some.inj H)).2
          subst q0
          subst q1
          exact ⟨rfl, rfl, rfl⟩
      · refine WPD1.eff 5 [0, 1] [] rfl (Does.runs (d_alloc ze47 rfl)) rfl rfl ?_
        obtain ⟨x4991, h4989, H⟩ := bnd H
        refine WPD.eff 1 [0, 1] [] rfl (by kernel_rfl) (runs_call (s := []) (t := [6]) (N := 7) (bor := []) fn38 rfl (s_dec_of k x4695 x4696 x4991 h4989) ⟨rfl, trivial, by decide, rfl, trivial⟩ rfl trivial (.ren rfl rfl .nil) rfl ⟨trivial, rfl⟩ rfl) rfl rfl ?_
        obtain ⟨x4993, h4991, H⟩ := bnd H
        refine WPD.eff 3 [0, 1] [] rfl (by kernel_rfl) (runs_call (s := []) (t := [7]) (N := 8) (bor := []) fn38 rfl (s_dec_of k x4697 x4698 x4993 h4991) ⟨rfl, trivial, by decide, rfl, trivial⟩ rfl trivial (.ren rfl rfl .nil) rfl ⟨trivial, rfl⟩ rfl) rfl rfl ?_
        refine WPD.effS 6 [0, 1] [] rfl (by kernel_rfl) (s_store sz47 rfl rfl rfl rfl rfl) rfl ?_
        refine WPD.effS 7 [0, 1] [] rfl (by kernel_rfl) (s_store sz47 rfl rfl rfl rfl rfl) rfl ?_
        refine WPD.doneW (by kernel_rfl) ?_
        refine W.cv (Cv.weak (E' := ((((Env.none.upd 4 (.ptr 0 0)).upd 5 (.ptr 1 0)).upd 7 (.ptr 2 0)).upd 8 (.ptr 3 0))) (M' := ((((Mem.nil.push (.cells 47 [.lit (.bool false), .lit (.int .u64 0), .lit (.int .u64 0), .lit (.int .i64 0)])).push (.cells 47 [.lit (.bool false), .lit (.int .u64 0), .lit (.int .u64 0), .lit (.int .i64 0)])).push (.cells 47 [.lit (.bool (decide (x4695 < 0))), .lit (.int .u64 0), .lit (.int .u64 x4991), .lit (.int .i64 x4696)])).push (.cells 47 [.lit (.bool (decide (x4697 < 0))), .lit (.int .u64 0), .lit (.int .u64 x4993), .lit (.int .i64 x4698)]))) [2, 3, 4, 5] hnp ⟨rfl, ⟨⟨⟨⟨trivial, .inr ⟨rfl, rfl, rfl⟩⟩, .inr ⟨rfl, rfl, rfl⟩⟩, .inr ⟨rfl, rfl, rfl⟩⟩, .inr ⟨rfl, rfl, rfl⟩⟩, by decide, rfl, trivial⟩ (LeE.upd rfl rfl (LeE.upd rfl rfl (LeE.upd rfl rfl (LeE.upd rfl rfl (LeE.none rfl rfl)))))) rfl ?_
        refine W.now ?_
        have q0 := (Prod.mk.inj (Option.some.inj H)).1
        have q1 := (Prod.mk.inj (Option.some.inj H)).2
        subst q0
        subst q1
        exact ⟨rfl, rfl, rfl⟩
    · refine WPD1.eff 5 [0, 1] [] rfl (Does.runs (d_alloc ze47 rfl)) rfl rfl ?_
      refine WPD.of2 1 4 (by kernel_rfl) ?_ ?_
      · obtain ⟨x4995, h4993, H⟩ := bnd H
        refine WPD1.eff 1 [0, 1] [] rfl (runs_call (s := []) (t := [5]) (N := 6) (bor := []) fn38 rfl (s_dec_of k x4695 x4696 x4995 h4993) ⟨rfl, trivial, by decide, rfl, trivial⟩ rfl trivial (.ren rfl rfl .nil) rfl ⟨trivial, rfl⟩ rfl) rfl rfl ?_
        refine WPD.of2 3 4 (by kernel_rfl) ?_ ?_
        · obtain ⟨x4997, h4995, H⟩ := bnd H
          refine WPD1.eff 3 [0, 1] [] rfl (runs_call (s := []) (t := [6]) (N := 7) (bor := []) fn38 rfl (s_dec_of k x4697 x4698 x4997 h4995) ⟨rfl, trivial, by decide, rfl, trivial⟩ rfl trivial (.ren rfl rfl .nil) rfl ⟨trivial, rfl⟩ rfl) rfl rfl ?_
          refine WPD.eff 4 [0, 1] [] rfl (by kernel_rfl) (Does.runs (d_alloc ze47 rfl)) rfl rfl ?_
          refine WPD.effS 6 [0, 1] [] rfl (by kernel_rfl) (s_store sz47 rfl rfl rfl rfl rfl) rfl ?_
          refine WPD.effS 7 [0, 1] [] rfl (by kernel_rfl) (s_store sz47 rfl rfl rfl rfl rfl) rfl ?_
          refine WPD.doneW (by kernel_rfl) ?_
          refine W.cv (Cv.weak (E' := ((((Env.none.upd 4 (.ptr 0 0)).upd 5 (.ptr 1 0)).upd 7 (.ptr 2 0)).upd 8 (.ptr 3 0))) (M' := ((((Mem.nil.push (.cells 47 [.lit (.bool false), .lit (.int .u64 0), .lit (.int .u64 0), .lit (.int .i64 0)])).push (.cells 47 [.lit (.bool false), .lit (.int .u64 0), .lit (.int .u64 0), .lit (.int .i64 0)])).push (.cells 47 [.lit (.bool (decide (x4695 < 0))), .lit (.int .u64 0), .lit (.int .u64 x4995), .lit (.int .i64 x4696)])).push (.cells 47 [.lit (.bool (decide (x4697 < 0))), .lit (.int .u64 0), .lit (.int .u64 x4997), .lit (.int .i64 x4698)]))) [2, 3, 7, 4] hnp ⟨rfl, ⟨⟨⟨⟨trivial, .inr ⟨rfl, rfl, rfl⟩⟩, .inr ⟨rfl, rfl, rfl⟩⟩, .inr ⟨rfl, rfl, rfl⟩⟩, .inr ⟨rfl, rfl, rfl⟩⟩, by decide, rfl, trivial⟩ (LeE.upd rfl rfl (LeE.upd rfl rfl (LeE.upd rfl rfl (LeE.upd rfl rfl (LeE.none rfl rfl)))))) rfl ?_
          refine W.now ?_
          have q0 := (Prod.mk.inj (Option.some.inj H)).1
          have q1 := (Prod.mk.inj (Option.some.inj H)).2
          subst q0
          subst q1
          exact ⟨rfl, rfl, rfl⟩
        · refine WPD1.eff 4 [0, 1] [] rfl (Does.runs (d_alloc ze47 rfl)) rfl rfl ?_
          obtain ⟨x4999, h4997, H⟩ := bnd H
          refine WPD.eff 3 [0, 1] [] rfl (by kernel_rfl) (runs_call (s := []) (t := [7]) (N := 8) (bor := []) fn38 rfl (s_dec_of k x4697 x4698 x4999 h4997) ⟨rfl, trivial, by decide, rfl, trivial⟩ rfl trivial (.ren rfl rfl .nil) rfl ⟨trivial, rfl⟩ rfl) rfl rfl ?_
          refine WPD.effS 6 [0, 1] [] rfl (by kernel_rfl) (s_store sz47 rfl rfl rfl rfl rfl) rfl ?_
          refine WPD.effS 7 [0, 1] [] rfl (by kernel_rfl) (s_store sz47 rfl rfl rfl rfl rfl) rfl ?_
          refine WPD.doneW (by kernel_rfl) ?_
          refine W.cv (Cv.weak (E' := ((((Env.none.upd 4 (.ptr 0 0)).upd 5 (.ptr 1 0)).upd 7 (.ptr 2 0)).upd 8 (.ptr 3 0))) (M' := ((((Mem.nil.push (.cells 47 [.lit (.bool false), .lit (.int .u64 0), .lit (.int .u64 0), .lit (.int .i64 0)])).push (.cells 47 [.lit (.bool false), .lit (.int .u64 0), .lit (.int .u64 0), .lit (.int .i64 0)])).push (.cells 47 [.lit (.bool (decide (x4695 < 0))), .lit (.int .u64 0), .lit (.int .u64 x4995), .lit (.int .i64 x4696)])).push (.cells 47 [.lit (.bool (decide (x4697 < 0))), .lit (.int .u64 0), .lit (.int .u64 x4999), .lit (.int .i64 x4698)]))) [2, 3, 6, 4] hnp ⟨rfl, ⟨⟨⟨⟨trivial, .inr ⟨rfl, rfl, rfl⟩⟩, .inr ⟨rfl, rfl, rfl⟩⟩, .inr ⟨rfl, rfl, rfl⟩⟩, .inr ⟨rfl, rfl, rfl⟩⟩, by decide, rfl, trivial⟩ (LeE.upd rfl rfl (LeE.upd rfl rfl (LeE.upd rfl rfl (LeE.upd rfl rfl (LeE.none rfl rfl)))))) rfl ?_
          refine W.now ?_
          have q0 := (Prod.mk.inj (Option.some.inj H)).1
          have q1 := (Prod.mk.inj (Option.some.inj H)).2
          subst q0
          subst q1
          exact ⟨rfl, rfl, rfl⟩
      · refine WPD1.eff 4 [0, 1] [] rfl (Does.runs (d_alloc ze47 rfl)) rfl rfl ?_
        obtain ⟨x5001, h4999, H⟩ := bnd H
        refine WPD.eff 1 [0, 1] [] rfl (by kernel_rfl) (runs_call (s := []) (t := [6]) (N := 7) (bor := []) fn38 rfl (s_dec_of k x4695 x4696 x5001 h4999) ⟨rfl, trivial, by decide, rfl, trivial⟩ rfl trivial (.ren rfl rfl .nil) rfl ⟨trivial, rfl⟩ rfl) rfl rfl ?_
        obtain ⟨x5003, h5001, H⟩ := bnd H
        refine WPD.eff 3 [0, 1] [] rfl (by kernel_rfl) (runs_call (s := []) (t := [7]) (N := 8) (bor := []) fn38 rfl (s_dec_of k x4697 x4698 x5003 h5001) ⟨rfl, trivial, by decide, rfl, trivial⟩ rfl trivial (.ren rfl rfl .nil) rfl ⟨trivial, rfl⟩ rfl) rfl rfl ?_
        refine WPD.effS 6 [0, 1] [] rfl (by kernel_rfl) (s_store sz47 rfl rfl rfl rfl rfl) rfl ?_
        refine WPD.effS 7 [0, 1] [] rfl (by kernel_rfl) (s_store sz47 rfl rfl rfl rfl rfl) rfl ?_
        refine WPD.doneW (by kernel_rfl) ?_
        refine W.cv (Cv.weak (E' := ((((Env.none.upd 4 (.ptr 0 0)).upd 5 (.ptr 1 0)).upd 7 (.ptr 2 0)).upd 8 (.ptr 3 0))) (M' := ((((Mem.nil.push (.cells 47 [.lit (.bool false), .lit (.int .u64 0), .lit (.int .u64 0), .lit (.int .i64 0)])).push (.cells 47 [.lit (.bool false), .lit (.int .u64 0), .lit (.int .u64 0), .lit (.int .i64 0)])).push (.cells 47 [.lit (.bool (decide (x4695 < 0))), .lit (.int .u64 0), .lit (.int .u64 x5001), .lit (.int .i64 x4696)])).push (.cells 47 [.lit (.bool (decide (x4697 < 0))), .lit (.int .u64 0), .lit (.int .u64 x5003), .lit (.int .i64 x4698)]))) [2, 3, 5, 4] hnp ⟨rfl, ⟨⟨⟨⟨trivial, .inr ⟨rfl, rfl, rfl⟩⟩, .inr ⟨rfl, rfl, rfl⟩⟩, .inr ⟨rfl, rfl, rfl⟩⟩, .inr ⟨rfl, rfl, rfl⟩⟩, by decide, rfl, trivial⟩ (LeE.upd rfl rfl (LeE.upd rfl rfl (LeE.upd rfl rfl (LeE.upd rfl rfl (LeE.none rfl rfl)))))) rfl ?_
        refine W.now ?_
        have q0 := (Prod.mk.inj (Option.some.inj H)).1
        have q1 := (Prod.mk.inj (Option.some.inj H)).2
        subst q0
        subst q1
        exact ⟨rfl, rfl, rfl⟩
  · rintro _ _ _ ⟨rfl, rfl, rfl⟩
    refine W.now ?_
    refine Then.n ?_
    refine WP.seq ?_
    refine WP.region ?_
    refine WPL.q (q_as (v := .lit (.bool _)) rfl) rfl ?_
    refine WPL.nilW ?_
    refine W.now ?_
    refine Then.n ?_
    refine WP.seq ?_
    obtain ⟨⟨x5019, x5020, x5021, x5022, x5023, x5024, x5025⟩, H5039, H⟩ := bnd H
    refine WP.monoW (Q := fun x E M => x = .normal ∧ E = (((((Env.none.upd 4 (.ptr 0 0)).upd 5 (.ptr 1 0)).upd 7 (.ptr 2 0)).upd 8 (.ptr 3 0)).upd 9 (.lit (.bool x5019))) ∧ M = ((((Mem.nil.push (.cells 47 [.lit (.bool false), .lit (.int .u64 0), .lit (.int .u64 0), .lit (.int .i64 0)])).push (.cells 47 [.lit (.bool false), .lit (.int .u64 0), .lit (.int .u64 0), .lit (.int .i64 0)])).push (.cells 47 [.lit (.bool (decide (x4695 < 0))), .lit (.int .u64 x5020), .lit (.int .u64 x5021), .lit (.int .i64 x5022)])).push (.cells 47 [.lit (.bool (decide (x4697 < 0))), .lit (.int .u64 x5023), .lit (.int .u64 x5024), .lit (.int .i64 x5025)]))) ?_ ?_
    · clear H
      have H := H5039
      clear H5039
      refine WP.block ?_
      refine WP.seq ?_
      refine WP.region ?_
      refine WPL.q (q_fieldAddr fi47_1 rfl rfl) rfl ?_
      refine WPL.q (q_load_ag ag43 rfl rfl (Nat.le_of_ble_eq_true rfl)) rfl ?_
      obtain ⟨_, h5025, H⟩ := bnd H
      refine WPL.c (runs_call (s := []) (t := []) (N := 4) (bor := []) fn58 rfl (s_dec_wide_zero k 0 x4938 h5025) ⟨rfl, trivial, by decide, rfl, trivial⟩ rfl trivial (.ren rfl rfl .nil) rfl trivial rfl) rfl ?_
      refine WPL.q (q_as (v := .lit (.bool _)) rfl) rfl ?_
      refine WPL.nilW ?_
      refine W.now ?_
      refine Then.n ?_
      refine WP.cond (t := (decide ((bits .or .u64 0 x4938) = 0))) rfl (fun hb5026 => ?_) (fun hb5026 => ?_)
      · replace H := cnt hb5026 H
        refine WP.region ?_
        refine WPL.q (q_fieldAddr fi47_2 rfl rfl) rfl ?_
        refine WPL.q (q_load sc3 rfl rfl rfl) rfl ?_
        refine WPL.q (q_fieldAddr fi47_2 rfl rfl) rfl ?_
        refine WPL.s (s_store sz3 rfl rfl rfl rfl rfl) ?_
        refine WPL.nilW ?_
        refine W.cv (Cv.weak (E' := (((((Env.none.upd 4 (.ptr 0 0)).upd 5 (.ptr 1 0)).upd 7 (.ptr 2 0)).upd 8 (.ptr 3 0)).upd 9 (.lit (.bool true)))) (M' := ((((Mem.nil.push (.cells 47 [.lit (.bool false), .lit (.int .u64 0), .lit (.int .u64 0), .lit (.int .i64 0)])).push (.cells 47 [.lit (.bool false), .lit (.int .u64 0), .lit (.int .u64 0), .lit (.int .i64 0)])).push (.cells 47 [.lit (.bool (decide (x4695 < 0))), .lit (.int .u64 0), .lit (.int .u64 x4938), .lit (.int .i64 x4698)])).push (.cells 47 [.lit (.bool (decide (x4697 < 0))), .lit (.int .u64 0), .lit (.int .u64 x4939), .lit (.int .i64 x4698)]))) [0, 1, 2, 3] hnp ⟨rfl, ⟨⟨⟨⟨trivial, .inr ⟨rfl, rfl, rfl⟩⟩, .inr ⟨rfl, rfl, rfl⟩⟩, .inr ⟨rfl, rfl, rfl⟩⟩, .inr ⟨rfl, rfl, rfl⟩⟩, by decide, rfl, trivial⟩ (LeE.upd rfl rfl (LeE.upd rfl rfl (LeE.upd rfl rfl (LeE.upd rfl rfl (LeE.upd rfl rfl (LeE.none rfl rfl))))))) rfl ?_
        refine W.now ?_
        refine InBlock.n ?_
        have q0 := (Prod.mk.inj (Option.some.inj H)).1
        have q1 := (Prod.mk.inj (Prod.mk.inj (Option.some.inj H)).2).1
        have q2 := (Prod.mk.inj (Prod.mk.inj (Prod.mk.inj (Option.some.inj H)).2).2).1
        have q3 := (Prod.mk.inj (Prod.mk.inj (Prod.mk.inj (Prod.mk.inj (Option.some.inj H)).2).2).2).1
        have q4 := (Prod.mk.inj (Prod.mk.inj (Prod.mk.inj (Prod.mk.inj (Prod.mk.inj (Option.some.inj H)).2).2).2).2).1
        have q5 := (Prod.mk.inj (Prod.mk.inj (Prod.mk.inj (Prod.mk.inj (Prod.mk.inj (Prod.mk.inj (Option.some.inj H)).2).2).2).2).2).1
        have q6 := (Prod.mk.inj (Prod.mk.inj (Prod.mk.inj (Prod.mk.inj (Prod.mk.inj (Prod.mk.inj (Option.some.inj H)).2).2).2).2).2).2
        subst q0
        subst q1
        subst q2
        subst q3
        subst q4
        subst q5
        subst q6
        exact ⟨rfl, rfl, rfl⟩
      · replace H := cnf hb5026 H
        refine WP.seq ?_
        refine WP.region ?_
        refine WPL.q (q_fieldAddr fi47_1 rfl rfl) rfl ?_
        refine WPL.q (q_load_ag ag43 rfl rfl (Nat.le_of_ble_eq_true rfl)) rfl ?_
        obtain ⟨_, h5027, H⟩ := bnd H
        refine WPL.c (runs_call (s := []) (t := []) (N := 4) (bor := []) fn58 rfl (s_dec_wide_zero k 0 x4939 h5027) ⟨rfl, trivial, by decide, rfl, trivial⟩ rfl trivial (.ren rfl rfl .nil) rfl trivial rfl) rfl ?_
        refine WPL.q (q_as (v := .lit (.bool _)) rfl) rfl ?_
        refine WPL.nilW ?_
        refine W.now ?_
        refine Then.n ?_
        refine WP.cond (t := (decide ((bits .or .u64 0 x4939) = 0))) rfl (fun hb5028 => ?_) (fun hb5028 => ?_)
        · replace H := cnt hb5028 H
          refine WP.region ?_
          refine WPL.q (q_fieldAddr fi47_2 rfl rfl) rfl ?_
          refine WPL.q (q_load sc3 rfl rfl rfl) rfl ?_
          refine WPL.q (q_fieldAddr fi47_2 rfl rfl) rfl ?_
          refine WPL.s (s_store sz3 rfl rfl rfl rfl rfl) ?_
          refine WPL.nilW ?_
          refine W.cv (Cv.weak (E' := (((((Env.none.upd 4 (.ptr 0 0)).upd 5 (.ptr 1 0)).upd 7 (.ptr 2 0)).upd 8 (.ptr 3 0)).upd 9 (.lit (.bool true)))) (M' := ((((Mem.nil.push (.cells 47 [.lit (.bool false), .lit (.int .u64 0), .lit (.int .u64 0), .lit (.int .i64 0)])).push (.cells 47 [.lit (.bool false), .lit (.int .u64 0), .lit (.int .u64 0), .lit (.int .i64 0)])).push (.cells 47 [.lit (.bool (decide (x4695 < 0))), .lit (.int .u64 0), .lit (.int .u64 x4938), .lit (.int .i64 x4696)])).push (.cells 47 [.lit (.bool (decide (x4697 < 0))), .lit (.int .u64 0), .lit (.int .u64 x4939), .lit (.int .i64 x4696)]))) [0, 1, 2, 3] hnp ⟨rfl, ⟨⟨⟨⟨trivial, .inr ⟨rfl, rfl, rfl⟩⟩, .inr ⟨rfl, rfl, rfl⟩⟩, .inr ⟨rfl, rfl, rfl⟩⟩, .inr ⟨rfl, rfl, rfl⟩⟩, by decide, rfl, trivial⟩ (LeE.upd rfl rfl (LeE.upd rfl rfl (LeE.upd rfl rfl (LeE.upd rfl rfl (LeE.upd rfl rfl (LeE.none rfl rfl))))))) rfl ?_
          refine W.now ?_
          refine InBlock.n ?_
          have q0 := (Prod.mk.inj (Option.some.inj H)).1
          have q1 := (Prod.mk.inj (Prod.mk.inj (Option.some.inj H)).2).1
          have q2 := (Prod.mk.inj (Prod.mk.inj (Prod.mk.inj (Option.some.inj H)).2).2).1
          have q3 := (Prod.mk.inj (Prod.mk.inj (Prod.mk.inj (Prod.mk.inj (Option.some.inj H)).2).2).2).1
          have q4 := (Prod.mk.inj (Prod.mk.inj (Prod.mk.inj (Prod.mk.inj (Prod.mk.inj (Option.some.inj H)).2).2).2).2).1
          have q5 := (Prod.mk.inj (Prod.mk.inj (Prod.mk.inj (Prod.mk.inj (Prod.mk.inj (Prod.mk.inj (Option.some.inj H)).2).2).2).2).2).1
          have q6 := (Prod.mk.inj (Prod.mk.inj (Prod.mk.inj (Prod.mk.inj (Prod.mk.inj (Prod.mk.inj (Option.some.inj H)).2).2).2).2).2).2
          subst q0
          subst q1
          subst q2
          subst q3
          subst q4
          subst q5
          subst q6
          exact ⟨rfl, rfl, rfl⟩
        · replace H := cnf hb5028 H
          refine WP.seq ?_
          refine WP.region ?_
          refine WPL.q (q_fieldAddr fi47_2 rfl rfl) rfl ?_
          refine WPL.q (q_load sc3 rfl rfl rfl) rfl ?_
          refine WPL.q (q_fieldAddr fi47_2 rfl rfl) rfl ?_
          refine WPL.q (q_load sc3 rfl rfl rfl) rfl ?_
          refine WPL.q (q_gtr rfl rfl) rfl ?_
          refine WPL.q (q_as (v := .lit (.bool _)) rfl) rfl ?_
          refine WPL.nilW ?_
          refine W.now ?_
          refine Then.n ?_
          refine WP.cond (t := (decide (x4698 < x4696))) rfl (fun hb5029 => ?_) (fun hb5029 => ?_)
          · replace H := cnt hb5029 H
            refine WP.seq ?_
            refine WP.region ?_
            refine WPL.q (q_fieldAddr fi47_1 rfl rfl) rfl ?_
            refine WPL.q (q_load_ag ag43 rfl rfl (Nat.le_of_ble_eq_true rfl)) rfl ?_
            refine WPL.q (q_fieldAddr fi47_2 rfl rfl) rfl ?_
            refine WPL.q (q_load sc3 rfl rfl rfl) rfl ?_
            refine WPL.q (q_fieldAddr fi47_2 rfl rfl) rfl ?_
            refine WPL.q (q_load sc3 rfl rfl rfl) rfl ?_
            refine WPL.q (q_sub rfl rfl) rfl ?_
            obtain ⟨⟨x5032, x5033, x5034⟩, h5030, H⟩ := bnd H
            refine WPL.c (runs_call (s := []) (t := [4]) (N := 5) (bor := []) fn60 rfl (s_dec_wide_tens k 0 x4938 (IntKind.wrap .i64 (x4696 - x4698)) x5032 x5033 x5034 h5030) ⟨rfl, trivial, by decide, rfl, trivial⟩ rfl trivial (.ren rfl rfl (.ren rfl rfl .nil)) rfl ⟨trivial, rfl⟩ rfl) rfl ?_
            refine WPL.q (q_mv (v := .tup _) rfl) rfl ?_
            refine WPL.q (q_extract rfl rfl) rfl ?_
            refine WPL.q (q_extract rfl rfl) rfl ?_
            refine WPL.q (q_fieldAddr fi47_1 rfl rfl) rfl ?_
            refine WPL.s (s_store sz43 rfl rfl rfl rfl rfl) ?_
            refine WPL.q (q_as (v := .lit (.bool _)) rfl) rfl ?_
            refine WPL.nilW ?_
            refine W.now ?_
            refine Then.n ?_
            refine WP.region ?_
            refine WPL.q (q_fieldAddr fi47_2 rfl rfl) rfl ?_
            refine WPL.q (q_load sc3 rfl rfl rfl) rfl ?_
            refine WPL.q (q_fieldAddr fi47_2 rfl rfl) rfl ?_
            refine WPL.s (s_store sz3 rfl rfl rfl rfl rfl) ?_
            refine WPL.nilW ?_
            refine W.cv (Cv.weak (E' := (((((Env.none.upd 4 (.ptr 0 0)).upd 5 (.ptr 1 0)).upd 7 (.ptr 2 0)).upd 8 (.ptr 3 0)).upd 9 (.lit (.bool x5032)))) (M' := ((((Mem.nil.push (.cells 47 [.lit (.bool false), .lit (.int .u64 0), .lit (.int .u64 0), .lit (.int .i64 0)])).push (.cells 47 [.lit (.bool false), .lit (.int .u64 0), .lit (.int .u64 0), .lit (.int .i64 0)])).push (.cells 47 [.lit (.bool (decide (x4695 < 0))), .lit (.int .u64 x5033), .lit (.int .u64 x5034), .lit (.int .i64 x4698)])).push (.cells 47 [.lit (.bool (decide (x4697 < 0))), .lit (.int .u64 0), .lit (.int .u64 x4939), .lit (.int .i64 x4698)]))) [0, 1, 2, 3] hnp ⟨rfl, ⟨⟨⟨⟨trivial, .inr ⟨rfl, rfl, rfl⟩⟩, .inr ⟨rfl, rfl, rfl⟩⟩, .inr ⟨rfl, rfl, rfl⟩⟩, .inr ⟨rfl, rfl, rfl⟩⟩, by decide, rfl, trivial⟩ (LeE.upd rfl rfl (LeE.upd rfl rfl (LeE.upd rfl rfl (LeE.upd rfl rfl (LeE.upd rfl rfl (LeE.none rfl rfl))))))) rfl ?_
            refine W.now ?_
            refine InBlock.n ?_
            have q0 := (Prod.mk.inj (Option.some.inj H)).1
            have q1 := (Prod.mk.inj (Prod.mk.inj (Option.some.inj H)).2).1
            have q2 := (Prod.mk.inj (Prod.mk.inj (Prod.mk.inj (Option.some.inj H)).2).2).1
            have q3 := (Prod.mk.inj (Prod.mk.inj (Prod.mk.inj (Prod.mk.inj (Option.some.inj H)).2).2).2).1
            have q4 := (Prod.mk.inj (Prod.mk.inj (Prod.mk.inj (Prod.mk.inj (Prod.mk.inj (Option.some.inj H)).2).2).2).2).1
            have q5 := (Prod.mk.inj (Prod.mk.inj (Prod.mk.inj (Prod.mk.inj (Prod.mk.inj (Prod.mk.inj (Option.some.inj H)).2).2).2).2).2).1
            have q6 := (Prod.mk.inj (Prod.mk.inj (Prod.mk.inj (Prod.mk.inj (Prod.mk.inj (Prod.mk.inj (Option.some.inj H)).2).2).2).2).2).2
            subst q0
            subst q1
            subst q2
            subst q3
            subst q4
            subst q5
            subst q6
            exact ⟨rfl, rfl, rfl⟩
          · replace H := cnf hb5029 H
            refine WP.seq ?_
            refine WP.region ?_
            refine WPL.q (q_fieldAddr fi47_2 rfl rfl) rfl ?_
            refine WPL.q (q_load sc3 rfl rfl rfl) rfl ?_
            refine WPL.q (q_fieldAddr fi47_2 rfl rfl) rfl ?_
            refine WPL.q (q_load sc3 rfl rfl rfl) rfl ?_
            refine WPL.q (q_gtr rfl rfl) rfl ?_
            refine WPL.q (q_as (v := .lit (.bool _)) rfl) rfl ?_
            refine WPL.nilW ?_
            refine W.now ?_
            refine Then.n ?_
            refine WP.cond (t := (decide (x4696 < x4698))) rfl (fun hb5034 => ?_) (fun hb5034 => ?_)
            · replace H := cnt hb5034 H
              refine WP.seq ?_
              refine WP.region ?_
              refine WPL.q (q_fieldAddr fi47_1 rfl rfl) rfl ?_
              refine WPL.q (q_load_ag ag43 rfl rfl (Nat.le_of_ble_eq_true rfl)) rfl ?_
              refine WPL.q (q_fieldAddr fi47_2 rfl rfl) rfl ?_
              refine WPL.q (q_load sc3 rfl rfl rfl) rfl ?_
              refine WPL.q (q_fieldAddr fi47_2 rfl rfl) rfl ?_
              refine WPL.q (q_load sc3 rfl rfl rfl) rfl ?_
              refine WPL.q (q_sub rfl rfl) rfl ?_
              obtain ⟨⟨x5037, x5038, x5039⟩, h5035, H⟩ := bnd H
              refine WPL.c (runs_call (s := []) (t := [4]) (N := 5) (bor := []) fn60 rfl (s_dec_wide_tens k 0 x4939 (IntKind.wrap .i64 (x4698 - x4696)) x5037 x5038 x5039 h5035) ⟨rfl, trivial, by decide, rfl, trivial⟩ rfl trivial (.ren rfl rfl (.ren rfl rfl .nil)) rfl ⟨trivial, rfl⟩ rfl) rfl ?_
              refine WPL.q (q_mv (v := .tup _) rfl) rfl ?_
              refine WPL.q (q_extract rfl rfl) rfl ?_
              refine WPL.q (q_extract rfl rfl) rfl ?_
              refine WPL.q (q_fieldAddr fi47_1 rfl rfl) rfl ?_
              refine WPL.s (s_store sz43 rfl rfl rfl rfl rfl) ?_
              refine WPL.q (q_as (v := .lit (.bool _)) rfl) rfl ?_
              refine WPL.nilW ?_
              refine W.now ?_
              refine Then.n ?_
              refine WP.region ?_
              refine WPL.q (q_fieldAddr fi47_2 rfl rfl) rfl ?_
              refine WPL.q (q_load sc3 rfl rfl rfl) rfl ?_
              refine WPL.q (q_fieldAddr fi47_2 rfl rfl) rfl ?_
              refine WPL.s (s_store sz3 rfl rfl rfl rfl rfl) ?_
              refine WPL.nilW ?_
              refine W.cv (Cv.weak (E' := (((((Env.none.upd 4 (.ptr 0 0)).upd 5 (.ptr 1 0)).upd 7 (.ptr 2 0)).upd 8 (.ptr 3 0)).upd 9 (.lit (.bool x5037)))) (M' := ((((Mem.nil.push (.cells 47 [.lit (.bool false), .lit (.int .u64 0), .lit (.int .u64 0), .lit (.int .i64 0)])).push (.cells 47 [.lit (.bool false), .lit (.int .u64 0), .lit (.int .u64 0), .lit (.int .i64 0)])).push (.cells 47 [.lit (.bool (decide (x4695 < 0))), .lit (.int .u64 0), .lit (.int .u64 x4938), .lit (.int .i64 x4696)])).push (.cells 47 [.lit (.bool (decide (x4697 < 0))), .lit (.int .u64 x5038), .lit (.int .u64 x5039), .lit (.int .i64 x4696)]))) [0, 1, 2, 3] hnp ⟨rfl, ⟨⟨⟨⟨trivial, .inr ⟨rfl, rfl, rfl⟩⟩, .inr ⟨rfl, rfl, rfl⟩⟩, .inr ⟨rfl, rfl, rfl⟩⟩, .inr ⟨rfl, rfl, rfl⟩⟩, by decide, rfl, trivial⟩ (LeE.upd rfl rfl (LeE.upd rfl rfl (LeE.upd rfl rfl (LeE.upd rfl rfl (LeE.upd rfl rfl (LeE.none rfl rfl))))))) rfl ?_
              refine W.now ?_
              refine InBlock.n ?_
              have q0 := (Prod.mk.inj (Option.some.inj H)).1
              have q1 := (Prod.mk.inj (Prod.mk.inj (Option.some.inj H)).2).1
              have q2 := (Prod.mk.inj (Prod.mk.inj (Prod.mk.inj (Option.some.inj H)).2).2).1
              have q3 := (Prod.mk.inj (Prod.mk.inj (Prod.mk.inj (Prod.mk.inj (Option.some.inj H)).2).2).2).1
              have q4 := (Prod.mk.inj (Prod.mk.inj (Prod.mk.inj (Prod.mk.inj (Prod.mk.inj (Option.some.inj H)).2).2).2).2).1
              have q5 := (Prod.mk.inj (Prod.mk.inj (Prod.mk.inj (Prod.mk.inj (Prod.mk.inj (Prod.mk.inj (Option.some.inj H)).2).2).2).2).2).1
              have q6 := (Prod.mk.inj (Prod.mk.inj (Prod.mk.inj (Prod.mk.inj (Prod.mk.inj (Prod.mk.inj (Option.some.inj H)).2).2).2).2).2).2
              subst q0
              subst q1
              subst q2
              subst q3
              subst q4
              subst q5
              subst q6
              exact ⟨rfl, rfl, rfl⟩
            · replace H := cnf hb5034 H
              refine WP.skipW ?_
              refine W.cv (Cv.weak (E' := (((((Env.none.upd 4 (.ptr 0 0)).upd 5 (.ptr 1 0)).upd 7 (.ptr 2 0)).upd 8 (.ptr 3 0)).upd 9 (.lit (.bool true)))) (M' := ((((Mem.nil.push (.cells 47 [.lit (.bool false), .lit (.int .u64 0), .lit (.int .u64 0), .lit (.int .i64 0)])).push (.cells 47 [.lit (.bool false), .lit (.int .u64 0), .lit (.int .u64 0), .lit (.int .i64 0)])).push (.cells 47 [.lit (.bool (decide (x4695 < 0))), .lit (.int .u64 0), .lit (.int .u64 x4938), .lit (.int .i64 x4696)])).push (.cells 47 [.lit (.bool (decide (x4697 < 0))), .lit (.int .u64 0), .lit (.int .u64 x4939), .lit (.int .i64 x4698)]))) [0, 1, 2, 3] hnp ⟨rfl, ⟨⟨⟨⟨trivial, .inr ⟨rfl, rfl, rfl⟩⟩, .inr ⟨rfl, rfl, rfl⟩⟩, .inr ⟨rfl, rfl, rfl⟩⟩, .inr ⟨rfl, rfl, rfl⟩⟩, by decide, rfl, trivial⟩ (LeE.upd rfl rfl (LeE.upd rfl rfl (LeE.upd rfl rfl (LeE.upd rfl rfl (LeE.upd rfl rfl (LeE.none rfl rfl))))))) rfl ?_
              refine W.now ?_
              refine InBlock.n ?_
              have q0 := (Prod.mk.inj (Option.some.inj H)).1
              have q1 := (Prod.mk.inj (Prod.mk.inj (Option.some.inj H)).2).1
              have q2 := (Prod.mk.inj (Prod.mk.inj (Prod.mk.inj (Option.some.inj H)).2).2).1
              have q3 := (Prod.mk.inj (Prod.mk.inj (Prod.mk.inj (Prod.mk.inj (Option.some.inj H)).2).2).2).1
              have q4 := (Prod.mk.inj (Prod.mk.inj (Prod.mk.inj (Prod.mk.inj (Prod.mk.inj (Option.some.inj H)).2).2).2).2).1
              have q5 := (Prod.mk.inj (Prod.mk.inj (Prod.mk.inj (Prod.mk.inj (Prod.mk.inj (Prod.mk.inj (Option.some.inj H)).2).2).2).2).2).1
              have q6 := (Prod.mk.inj (Prod.mk.inj (Prod.mk.inj (Prod.mk.inj (Prod.mk.inj (Prod.mk.inj (Option.some.inj H)).2).2).2).2).2).2
              subst q0
              subst q1
              subst q2
              subst q3
              subst q4
              subst q5
              subst q6
              exact ⟨rfl, rfl, rfl⟩
    · rintro _ _ _ ⟨rfl, rfl, rfl⟩
      refine W.now ?_
      refine Then.n ?_
      refine WP.seq ?_
      refine WP.regionD' 6 [2, 3] [] mixed rfl ?_
      refine WPD.takeT 2 rfl (by kernel_rfl) (q_mv (v := .lit (.bool _)) rfl) rfl ?_
      refine WPD.take 0 rfl (by kernel_rfl) (q_load_ag ag47 rfl rfl (Nat.le_of_ble_eq_true rfl)) rfl rfl ?_
      refine WPD.take 1 rfl (by kernel_rfl) (q_load_ag ag47 rfl rfl (Nat.le_of_ble_eq_true rfl)) rfl rfl ?_
      refine WPD.effS 3 [2, 3] [] rfl (by kernel_rfl) (s_store sz47 rfl rfl rfl rfl rfl) rfl ?_
      refine WPD.effS 4 [2, 3] [] rfl (by kernel_rfl) (s_store sz47 rfl rfl rfl rfl rfl) rfl ?_
      refine WPD.takeT 5 rfl (by kernel_rfl) (q_as (v := .lit (.bool _)) rfl) rfl ?_
      refine WPD.doneW (by kernel_rfl) ?_
      refine W.now ?_
      refine Then.n ?_
      refine WP.retW ?_
      refine W.now ?_
      have q0 := (Prod.mk.inj (Option.some.inj H)).1
      have q1 := (Prod.mk.inj (Prod.mk.inj (Option.some.inj H)).2).1
      have q2 := (Prod.mk.inj (Prod.mk.inj (Prod.mk.inj (Option.some.inj H)).2).2).1
      have q3 := (Prod.mk.inj (Prod.mk.inj (Prod.mk.inj (Prod.mk.inj (Option.some.inj H)).2).2).2).1
      have q4 := (Prod.mk.inj (Prod.mk.inj (Prod.mk.inj (Prod.mk.inj (Prod.mk.inj (Option.some.inj H)).2).2).2).2).1
      have q5 := (Prod.mk.inj (Prod.mk.inj (Prod.mk.inj (Prod.mk.inj (Prod.mk.inj (Prod.mk.inj (Option.some.inj H)).2).2).2).2).2).1
      have q6 := (Prod.mk.inj (Prod.mk.inj (Prod.mk.inj (Prod.mk.inj (Prod.mk.inj (Prod.mk.inj (Option.some.inj H)).2).2).2).2).2).2
      subst q0
      subst q1
      subst q2
      subst q3
      subst q4
      subst q5
      subst q6
      exact ⟨trivial, _, rfl, [0, 1], (.tup [.agg [.lit (.bool (decide (x4695 < 0))), .lit (.int .u64 x5020), .lit (.int .u64 x5021), .lit (.int .i64 x5022)], .agg [.lit (.bool (decide (x4697 < 0))), .lit (.int .u64 x5023), .lit (.int .u64 x5024), .lit (.int .i64 x5025)], .lit (.bool x5019)]), ((Mem.nil.push (.cells 47 [.lit (.bool (decide (x4695 < 0))), .lit (.int .u64 x5020), .lit (.int .u64 x5021), .lit (.int .i64 x5022)])).push (.cells 47 [.lit (.bool (decide (x4697 < 0))), .lit (.int .u64 x5023), .lit (.int .u64 x5024), .lit (.int .i64 x5025)])), ⟨rfl, ⟨⟨trivial, .inr ⟨rfl, rfl, rfl⟩⟩, .inr ⟨rfl, rfl, rfl⟩⟩, by decide, rfl, trivial⟩, rfl, rfl, rfl, rfl⟩
set_option maxRecDepth 100000 in
set_option maxHeartbeats 4000000 in
theorem s_dec_wide_plus (k : Nat) (x5052 : Int) (x5053 : Int) (x5054 : Int) (x5055 : Int) (x5059 : Bool) (H : g_dec_wide_plus k x5052 x5053 x5054 x5055 = some x5059) : Go.Q.Spec Try.prog 47 0 [.agg [.lit (.int .u64 x5052), .lit (.int .u64 x5053)], .agg [.lit (.int .u64 x5054), .lit (.int .u64 x5055)]] Mem.nil (fun o M => o = .ret (.tup [.agg [.lit (.int .u64 ((add64 x5052 x5054 ((add64 x5053 x5055 0).2)).1)), .lit (.int .u64 ((add64 x5053 x5055 0).1))], .lit (.bool x5059)]) ∧ M = (Mem.nil.push (.cells 43 [.lit (.int .u64 ((add64 x5052 x5054 ((add64 x5053 x5055 0).2)).1)), .lit (.int .u64 ((add64 x5053 x5055 0).1))]))) := by
  unfold g_dec_wide_plus at H
  refine Go.Q.Spec.of_bodyR (az := [(43, 2)]) (rs := [.cell 4 43, .tmp 5]) (nt := 31) Try.func47 rfl rfl (by intro t T h; simp at h; rcases h with ⟨rfl, rfl⟩ <;> first | exact ag43) rfl rfl fun cx hnp => ?_
  refine WP.seq ?_
  refine WP.region ?_
  refine WPL.d (d_box rfl rfl) rfl ?_
  refine WPL.d (d_box rfl rfl) rfl ?_
  refine WPL.d (d_alloc ze43 rfl) rfl ?_
  refine WPL.q (q_as (v := .lit (.bool _)) rfl) rfl ?_
  refine WPL.nilW ?_
  refine W.now ?_
  refine Then.n ?_
  refine WP.seq ?_
  refine WP.region ?_
  refine WPL.q (q_fieldAddr fi43_1 rfl rfl) rfl ?_
  refine WPL.q (q_load sc38 rfl rfl rfl) rfl ?_
  refine WPL.q (q_fieldAddr fi43_1 rfl rfl) rfl ?_
  refine WPL.q (q_load sc38 rfl rfl rfl) rfl ?_
  refine WPL.q (q_add64 ex57 rfl rfl rfl rfl rfl) rfl ?_
  refine WPL.q (q_mv (v := .tup _) rfl) rfl ?_
  refine WPL.q (q_extract rfl rfl) rfl ?_
  refine WPL.q (q_extract rfl rfl) rfl ?_
  refine WPL.q (q_as (v := .lit (.int _ _)) rfl) rfl ?_
  refine WPL.q (q_as (v := .lit (.int _ _)) rfl) rfl ?_
  refine WPL.nilW ?_
  refine W.now ?_
  refine Then.n ?_
  refine WP.seq ?_
  refine WP.region ?_
  refine WPL.q (q_fieldAddr fi43_0 rfl rfl) rfl ?_
  refine WPL.q (q_load sc38 rfl rfl rfl) rfl ?_
  refine WPL.q (q_fieldAddr fi43_0 rfl rfl) rfl ?_
  refine WPL.q (q_load sc38 rfl rfl rfl) rfl ?_
  refine WPL.q (q_mv (v := .lit (.int _ _)) rfl) rfl ?_
  obtain ⟨h5059, H⟩ := grd H
  refine WPL.q (q_add64 ex57 rfl rfl rfl rfl h5059) rfl ?_
  refine WPL.q (q_mv (v := .tup _) rfl) rfl ?_
  refine WPL.q (q_extract rfl rfl) rfl ?_
  refine WPL.q (q_extract rfl rfl) rfl ?_
  refine WPL.q (q_as (v := .lit (.int _ _)) rfl) rfl ?_
  refine WPL.q (q_as (v := .lit (.int _ _)) rfl) rfl ?_
  refine WPL.nilW ?_
  refine W.now ?_
  refine Then.n ?_
  refine WP.seq ?_
  refine WP.region ?_
  refine WPL.q (q_mv (v := .lit (.int _ _)) rfl) rfl ?_
  refine WPL.q (q_mv (v := .lit (.int _ _)) rfl) rfl ?_
  refine WPL.q (q_build bu43 rfl) rfl ?_
  refine WPL.q (q_mv (v := .lit (.int _ _)) rfl) rfl ?_
  obtain ⟨x5061, h5061, H⟩ := bnd H
  refine WPL.q (q_nm (q_eql rfl rfl) (nm_bool h5061)) rfl ?_
  refine WPL.s (s_store sz43 rfl rfl rfl rfl rfl) ?_
  refine WPL.q (q_as (v := .lit (.bool _)) rfl) rfl ?_
  refine WPL.nilW ?_
  refine W.now ?_
  refine Then.n ?_
  refine WP.retW ?_
  refine W.now ?_
  have q0 := (Option.some.inj H)
  subst q0
  exact ⟨trivial, _, rfl, [2], (.tup [.agg [.lit (.int .u64 ((add64 x5052 x5054 ((add64 x5053 x5055 0).2)).1)), .lit (.int .u64 ((add64 x5053 x5055 0).1))], .lit (.bool x5061)]), (Mem.nil.push (.cells 43 [.lit (.int .u64 ((add64 x5052 x5054 ((add64 x5053 x5055 0).2)).1)), .lit (.int .u64 ((add64 x5053 x5055 0).1))])), ⟨rfl, ⟨trivial, .inr ⟨rfl, rfl, rfl⟩⟩, by decide, rfl, trivial⟩, rfl, rfl, rfl, rfl⟩
set_option maxRecDepth 100000 in
set_option maxHeartbeats 4000000 in
theorem s_dec_wide_less (k : Nat) (x5067 : Int) (x5068 : Int) (x5069 : Int) (x5070 : Int) (H : g_dec_wide_less k x5067 x5068 x5069 x5070 = some ()) : Go.Q.Spec Try.prog 49 0 [.agg [.lit (.int .u64 x5067), .lit (.int .u64 x5068)], .agg [.lit (.int .u64 x5069), .lit (.int .u64 x5070)]] Mem.nil (fun o M => o = .ret (.agg [.lit (.int .u64 ((sub64 x5067 x5069 ((sub64 x5068 x5070 0).2)).1)), .lit (.int .u64 ((sub64 x5068 x5070 0).1))]) ∧ M = (Mem.nil.push (.cells 43 [.lit (.int .u64 ((sub64 x5067 x5069 ((sub64 x5068 x5070 0).2)).1)), .lit (.int .u64 ((sub64 x5068 x5070 0).1))]))) := by
  unfold g_dec_wide_less at H
  refine Go.Q.Spec.of_bodyR (az := [(43, 2)]) (rs := [.cell 4 43]) (nt := 29) Try.func49 rfl rfl (by intro t T h; simp at h; rcases h with ⟨rfl, rfl⟩ <;> first | exact ag43) rfl rfl fun cx hnp => ?_
  refine WP.seq ?_
  refine WP.region ?_
  refine WPL.d (d_box rfl rfl) rfl ?_
  refine WPL.d (d_box rfl rfl) rfl ?_
  refine WPL.d (d_alloc ze43 rfl) rfl ?_
  refine WPL.nilW ?_
  refine W.now ?_
  refine Then.n ?_
  refine WP.seq ?_
  refine WP.region ?_
  refine WPL.q (q_fieldAddr fi43_1 rfl rfl) rfl ?_
  refine WPL.q (q_load sc38 rfl rfl rfl) rfl ?_
  refine WPL.q (q_fieldAddr fi43_1 rfl rfl) rfl ?_
  refine WPL.q (q_load sc38 rfl rfl rfl) rfl ?_
  refine WPL.q (q_sub64 ex67 rfl rfl rfl rfl rfl) rfl ?_
  refine WPL.q (q_mv (v := .tup _) rfl) rfl ?_
  refine WPL.q (q_extract rfl rfl) rfl ?_
  refine WPL.q (q_extract rfl rfl) rfl ?_
  refine WPL.q (q_as (v := .lit (.int _ _)) rfl) rfl ?_
  refine WPL.q (q_as (v := .lit (.int _ _)) rfl) rfl ?_
  refine WPL.nilW ?_
  refine W.now ?_
  refine Then.n ?_
  refine WP.seq ?_
  refine WP.region ?_
  refine WPL.q (q_fieldAddr fi43_0 rfl rfl) rfl ?_
  refine WPL.q (q_load sc38 rfl rfl rfl) rfl ?_
  refine WPL.q (q_fieldAddr fi43_0 rfl rfl) rfl ?_
  refine WPL.q (q_load sc38 rfl rfl rfl) rfl ?_
  refine WPL.q (q_mv (v := .lit (.int _ _)) rfl) rfl ?_
  obtain ⟨h5072, H⟩ := grd H
  refine WPL.q (q_sub64 ex67 rfl rfl rfl rfl h5072) rfl ?_
  refine WPL.q (q_mv (v := .tup _) rfl) rfl ?_
  refine WPL.q (q_extract rfl rfl) rfl ?_
  refine WPL.q (q_extract rfl rfl) rfl ?_
  refine WPL.q (q_as (v := .lit (.int _ _)) rfl) rfl ?_
  refine WPL.q (q_as (v := .lit (.int _ _)) rfl) rfl ?_
  refine WPL.nilW ?_
  refine W.now ?_
  refine Then.n ?_
  refine WP.seq ?_
  refine WP.region ?_
  refine WPL.q (q_mv (v := .lit (.int _ _)) rfl) rfl ?_
  refine WPL.q (q_mv (v := .lit (.int _ _)) rfl) rfl ?_
  refine WPL.q (q_build bu43 rfl) rfl ?_
  refine WPL.s (s_store sz43 rfl rfl rfl rfl rfl) ?_
  refine WPL.nilW ?_
  refine W.now ?_
  refine Then.n ?_
  refine WP.retW ?_
  refine W.now ?_
  exact ⟨trivial, _, rfl, [2], (.agg [.lit (.int .u64 ((sub64 x5067 x5069 ((sub64 x5068 x5070 0).2)).1)), .lit (.int .u64 ((sub64 x5068 x5070 0).1))]), (Mem.nil.push (.cells 43 [.lit (.int .u64 ((sub64 x5067 x5069 ((sub64 x5068 x5070 0).2)).1)), .lit (.int .u64 ((sub64 x5068 x5070 0).1))])), ⟨rfl, ⟨trivial, .inr ⟨rfl, rfl, rfl⟩⟩, by decide, rfl, trivial⟩, rfl, rfl, rfl, rfl⟩
set_option maxRecDepth 100000 in
set_option maxHeartbeats 4000000 in
theorem s_dec_Add (k : Nat) (x4676 : Int) (x4677 : Int) (x4678 : Int) (x4679 : Int) (x5102 : Int) (x5103 : Int) (x5104 : Int) (H : g_dec_Add k x4676 x4677 x4678 x4679 = some (x5102, x5103, x5104)) : Go.Q.Spec Try.prog 14 0 [.agg [.lit (.int .i64 x4676), .lit (.int .i64 x4677)], .agg [.lit (.int .i64 x4678), .lit (.int .i64 x4679)]] Mem.nil (fun o M => o = .ret (.tup [.agg [.lit (.int .i64 x5103), .lit (.int .i64 x5104)], .lit (.int .i64 x5102)]) ∧ M = (Mem.nil.push (.cells 23 [.lit (.int .i64 x5103), .lit (.int .i64 x5104)]))) := by
  unfold g_dec_Add at H
  refine Go.Q.Spec.of_bodyR (az := [(23, 2)]) (rs := [.cell 4 23, .tmp 5]) (nt := 68) Try.func14 rfl rfl (by intro t T h; simp at h; rcases h with ⟨rfl, rfl⟩ <;> first | exact ag23) rfl rfl fun cx hnp => ?_
  refine WP.seq ?_
  refine WP.region ?_
  refine WPL.d (d_box rfl rfl) rfl ?_
  refine WPL.d (d_box rfl rfl) rfl ?_
  refine WPL.d (d_alloc ze23 rfl) rfl ?_
  refine WPL.q (q_as (v := .lit (.int _ _)) rfl) rfl ?_
  refine WPL.nilW ?_
  refine W.now ?_
  refine Then.n ?_
  refine WP.seq ?_
  refine WP.seq ?_
  refine WP.region ?_
  refine WPL.d (d_buildCells li81 rfl rfl rfl rfl rfl) rfl ?_
  obtain ⟨⟨x5113, x5114, x5115, x5116, x5117⟩, h5111, H⟩ := bnd H
  refine WPL.c (runs_call (s := [3, 0, 1]) (t := [3, 0, 1]) (N := 4) (bor := []) fn27 rfl (s_dec_clean k x4676 x4677 x4678 x4679 x5113 x5114 x5115 x5116 x5117 h5111) ⟨rfl, ⟨⟨⟨trivial, .inr ⟨rfl, rfl, rfl⟩⟩, .inr ⟨rfl, rfl, rfl⟩⟩, .inr ⟨rfl, rfl, rfl⟩⟩, by decide, rfl, trivial⟩ rfl trivial (.ren rfl rfl .nil) rfl ⟨⟨⟨trivial, rfl⟩, rfl⟩, rfl⟩ rfl) rfl ?_
  refine WPL.q (q_not rfl) rfl ?_
  refine WPL.nilW ?_
  refine W.now ?_
  refine Then.n ?_
  refine WP.cond (t := (!x5113)) rfl (fun hb5117 => ?_) (fun hb5117 => ?_)
  · replace H := cnt hb5117 H
    refine WP.seq ?_
    refine WP.region ?_
    refine WPL.q (q_build bu23 rfl) rfl ?_
    refine WPL.s (s_store sz23 rfl rfl rfl rfl rfl) ?_
    refine WPL.q (q_as (v := .lit (.int _ _)) rfl) rfl ?_
    refine WPL.nilW ?_
    refine W.now ?_
    refine Then.n ?_
    refine WP.retW ?_
    refine W.now ?_
    refine Then.r ?_
    have q0 := (Prod.mk.inj (Option.some.inj H)).1
    have q1 := (Prod.mk.inj (Prod.mk.inj (Option.some.inj H)).2).1
    have q2 := (Prod.mk.inj (Prod.mk.inj (Option.some.inj H)).2).2
    subst q0
    subst q1
    subst q2
    exact ⟨trivial, _, rfl, [2], (.tup [.agg [.lit (.int .i64 0), .lit (.int .i64 0)], .lit (.int .i64 1)]), (Mem.nil.push (.cells 23 [.lit (.int .i64 0), .lit (.int .i64 0)])), ⟨rfl, ⟨trivial, .inr ⟨rfl, rfl, rfl⟩⟩, by decide, rfl, trivial⟩, rfl, rfl, rfl, rfl⟩
  · replace H := cnf hb5117 H
    refine WP.skipW ?_
    refine W.now ?_
    refine Then.n ?_
    refine WP.seq ?_
    refine WP.region ?_
    refine WPL.q (q_load_ag ag23 rfl rfl (Nat.le_of_ble_eq_true rfl)) rfl ?_
    refine WPL.q (q_load_ag ag23 rfl rfl (Nat.le_of_ble_eq_true rfl)) rfl ?_
    obtain ⟨⟨x5120, x5121, x5122, x5123, x5124, x5125, x5126⟩, h5118, H⟩ := bnd H
    refine WPL.c (runs_call (s := []) (t := [4, 5]) (N := 6) (bor := []) fn46 rfl (s_dec_even k x5114 x5115 x5116 x5117 x5120 x5121 x5122 x5123 x5124 x5125 x5126 h5118) ⟨rfl, trivial, by decide, rfl, trivial⟩ rfl trivial (.ren rfl rfl (.ren rfl rfl .nil)) rfl ⟨⟨trivial, rfl⟩, rfl⟩ rfl) rfl ?_
    refine WPL.q (q_mv (v := .tup _) rfl) rfl ?_
    refine WPL.q (q_extract rfl rfl) rfl ?_
    refine WPL.q (q_extract rfl rfl) rfl ?_
    refine WPL.q (q_extract rfl rfl) rfl ?_
    refine WPL.d (d_alloc ze47 rfl) rfl ?_
    refine WPL.d (d_alloc ze47 rfl) rfl ?_
    refine WPL.s (s_store sz47 rfl rfl rfl rfl rfl) ?_
    refine WPL.s (s_store sz47 rfl rfl rfl rfl rfl) ?_
    refine WPL.q (q_as (v := .lit (.bool _)) rfl) rfl ?_
    refine WPL.nilW ?_
    refine W.now ?_
    refine Then.n ?_
    refine WP.seq ?_
    obtain ⟨y5156, H5154, H⟩ := bnd H
    refine WP.monoW (Q := fun x E M => match (generalizing := false) y5156 with | (Sum.inl _) => x = .ret ∧ E = ((Env.none.upd 4 (.ptr 0 0)).upd 5 (.lit (.int .i64 30))) ∧ M = (Mem.nil.push (.cells 23 [.lit (.int .i64 0), .lit (.int .i64 0)])) | (Sum.inr (x5139, x5140, x5141, x5142)) => x = .normal ∧ E = (((Env.none.upd 4 (.ptr 0 0)).upd 6 (.ptr 1 0)).upd 8 (.lit (.bool x5139))) ∧ M = ((Mem.nil.push (.cells 23 [.lit (.int .i64 0), .lit (.int .i64 0)])).push (.cells 47 [.lit (.bool x5140), .lit (.int .u64 x5141), .lit (.int .u64 x5142), .lit (.int .i64 x5123)]))) ?_ ?_
    · clear H
      have H := H5154
      clear H5154
      refine WP.block ?_
      refine WP.seq ?_
      refine WP.region ?_
      refine WPL.q (q_mv (v := .lit (.bool _)) rfl) rfl ?_
      refine WPL.q (q_not rfl) rfl ?_
      refine WPL.q (q_as (v := .lit (.bool _)) rfl) rfl ?_
      refine WPL.nilW ?_
      refine W.now ?_
      refine Then.n ?_
      refine WP.cond (t := (!x5120)) rfl (fun hb5142 => ?_) (fun hb5142 => ?_)
      · replace H := cnt hb5142 H
        refine WP.seq ?_
        refine WP.region ?_
        refine WPL.q (q_build bu23 rfl) rfl ?_
        refine WPL.s (s_store sz23 rfl rfl rfl rfl rfl) ?_
        refine WPL.q (q_as (v := .lit (.int _ _)) rfl) rfl ?_
        refine WPL.nilW ?_
        refine W.now ?_
        refine Then.n ?_
        refine WP.retW ?_
        refine W.cv (Cv.weak (E' := ((Env.none.upd 4 (.ptr 0 0)).upd 5 (.lit (.int .i64 30)))) (M' := (Mem.nil.push (.cells 23 [.lit (.int .i64 0), .lit (.int .i64 0)]))) [2] hnp ⟨rfl, ⟨trivial, .inr ⟨rfl, rfl, rfl⟩⟩, by decide, rfl, trivial⟩ (LeE.upd rfl rfl (LeE.upd rfl rfl (LeE.none rfl rfl)))) rfl ?_
        refine W.now ?_
        refine InBlock.r ?_
        have q0 := Option.some.inj H
        subst q0
        exact ⟨rfl, rfl, rfl⟩
      · replace H := cnf hb5142 H
        refine WP.seq ?_
        refine WP.region ?_
        refine WPL.q (q_fieldAddr fi47_0 rfl rfl) rfl ?_
        refine WPL.q (q_load sc4 rfl rfl rfl) rfl ?_
        refine WPL.q (q_fieldAddr fi47_0 rfl rfl) rfl ?_
        refine WPL.q (q_load sc4 rfl rfl rfl) rfl ?_
        obtain ⟨x5144, h5144, H⟩ := bnd H
        refine WPL.q (q_nm (q_eqlb Try.underlying4 rfl rfl) (nm_bool h5144)) rfl ?_
        refine WPL.q (q_as (v := .lit (.bool _)) rfl) rfl ?_
        refine WPL.nilW ?_
        refine W.now ?_
        refine Then.n ?_
        refine WP.cond (t := x5144) rfl (fun hb5144 => ?_) (fun hb5144 => ?_)
        · replace H := cnt hb5144 H
          refine WP.region ?_
          refine WPL.q (q_fieldAddr fi47_1 rfl rfl) rfl ?_
          refine WPL.q (q_load_ag ag43 rfl rfl (Nat.le_of_ble_eq_true rfl)) rfl ?_
          refine WPL.q (q_fieldAddr fi47_1 rfl rfl) rfl ?_
          refine WPL.q (q_load_ag ag43 rfl rfl (Nat.le_of_ble_eq_true rfl)) rfl ?_
          obtain ⟨x5147, h5145, H⟩ := bnd H
          refine WPL.c (runs_call (s := []) (t := [8]) (N := 9) (bor := []) fn47 rfl (s_dec_wide_plus k x5121 x5122 x5124 x5125 x5147 h5145) ⟨rfl, trivial, by decide, rfl, trivial⟩ rfl trivial (.ren rfl rfl (.ren rfl rfl .nil)) rfl ⟨trivial, rfl⟩ rfl) rfl ?_
          refine WPL.q (q_mv (v := .tup _) rfl) rfl ?_
          refine WPL.q (q_extract rfl rfl) rfl ?_
          refine WPL.q (q_extract rfl rfl) rfl ?_
          refine WPL.q (q_fieldAddr fi47_1 rfl rfl) rfl ?_
          refine WPL.s (s_store sz43 rfl rfl rfl rfl rfl) ?_
          refine WPL.q (q_as (v := .lit (.bool _)) rfl) rfl ?_
          refine WPL.nilW ?_
          refine W.cv (Cv.weak (E' := (((Env.none.upd 4 (.ptr 0 0)).upd 6 (.ptr 1 0)).upd 8 (.lit (.bool x5147)))) (M' := ((Mem.nil.push (.cells 23 [.lit (.int .i64 0), .lit (.int .i64 0)])).push (.cells 47 [.lit (.bool (decide (x5114 < 0))), .lit (.int .u64 ((add64 x5121 x5124 ((add64 x5122 x5125 0).2)).1)), .lit (.int .u64 ((add64 x5122 x5125 0).1)), .lit (.int .i64 x5123)]))) [2, 6] hnp ⟨rfl, ⟨⟨trivial, .inr ⟨rfl, rfl, rfl⟩⟩, .inr ⟨rfl, rfl, rfl⟩⟩, by decide, rfl, trivial⟩ (LeE.upd rfl rfl (LeE.upd rfl rfl (LeE.upd rfl rfl (LeE.none rfl rfl))))) rfl ?_
          refine W.now ?_
          refine InBlock.n ?_
          have q0 := Option.some.inj H
          subst q0
          exact ⟨rfl, rfl, rfl⟩
        · replace H := cnf hb5144 H
          refine WP.seq ?_
          refine WP.region ?_
          refine WPL.q (q_fieldAddr fi47_1 rfl rfl) rfl ?_
          refine WPL.q (q_load_ag ag43 rfl rfl (Nat.le_of_ble_eq_true rfl)) rfl ?_
          refine WPL.q (q_fieldAddr fi47_1 rfl rfl) rfl ?_
          refine WPL.q (q_load_ag ag43 rfl rfl (Nat.le_of_ble_eq_true rfl)) rfl ?_
          obtain ⟨x5149, h5147, H⟩ := bnd H
          refine WPL.c (runs_call (s := []) (t := []) (N := 8) (bor := []) fn48 rfl (s_dec_wide_cmp k x5121 x5122 x5124 x5125 x5149 h5147) ⟨rfl, trivial, by decide, rfl, trivial⟩ rfl trivial (.ren rfl rfl (.ren rfl rfl .nil)) rfl trivial rfl) rfl ?_
          refine WPL.q (q_geq rfl rfl) rfl ?_
          refine WPL.q (q_as (v := .lit (.bool _)) rfl) rfl ?_
          refine WPL.nilW ?_
          refine W.now ?_
          refine Then.n ?_
          refine WP.cond (t := (decide (0 ≤ x5149))) rfl (fun hb5149 => ?_) (fun hb5149 => ?_)
          · replace H := cnt hb5149 H
            refine WP.region ?_
            refine WPL.q (q_fieldAddr fi47_1 rfl rfl) rfl ?_
            refine WPL.q (q_load_ag ag43 rfl rfl (Nat.le_of_ble_eq_true rfl)) rfl ?_
            refine WPL.q (q_fieldAddr fi47_1 rfl rfl) rfl ?_
            refine WPL.q (q_load_ag ag43 rfl rfl (Nat.le_of_ble_eq_true rfl)) rfl ?_
            obtain ⟨_, h5150, H⟩ := bnd H
            refine WPL.c (runs_call (s := []) (t := [8]) (N := 9) (bor := []) fn49 rfl (s_dec_wide_less k x5121 x5122 x5124 x5125 h5150) ⟨rfl, trivial, by decide, rfl, trivial⟩ rfl trivial (.ren rfl rfl (.ren rfl rfl .nil)) rfl ⟨trivial, rfl⟩ rfl) rfl ?_
            refine WPL.q (q_fieldAddr fi47_1 rfl rfl) rfl ?_
            refine WPL.s (s_store sz43 rfl rfl rfl rfl rfl) ?_
            refine WPL.nilW ?_
            refine W.cv (Cv.weak (E' := (((Env.none.upd 4 (.ptr 0 0)).upd 6 (.ptr 1 0)).upd 8 (.lit (.bool x5120)))) (M' := ((Mem.nil.push (.cells 23 [.lit (.int .i64 0), .lit (.int .i64 0)])).push (.cells 47 [.lit (.bool (decide (x5114 < 0))), .lit (.int .u64 ((sub64 x5121 x5124 ((sub64 x5122 x5125 0).2)).1)), .lit (.int .u64 ((sub64 x5122 x5125 0).1)), .lit (.int .i64 x5123)]))) [2, 6] hnp ⟨rfl, ⟨⟨trivial, .inr ⟨rfl, rfl, rfl⟩⟩, .inr ⟨rfl, rfl, rfl⟩⟩, by decide, rfl, trivial⟩ (LeE.upd rfl rfl (LeE.upd rfl rfl (LeE.upd rfl rfl (LeE.none rfl rfl))))) rfl ?_
            refine W.now ?_
            refine InBlock.n ?_
            have q0 := Option.some.inj H
            subst q0
            exact ⟨rfl, rfl, rfl⟩
          · replace H := cnf hb5149 H
            refine WP.regionD' 11 [6, 7] [8] mixed rfl ?_
            refine WPD.takeT 0 rfl (by kernel_rfl) (q_fieldAddr fi47_0 rfl rfl) rfl ?_
            refine WPD.takeT 2 rfl (by kernel_rfl) (q_fieldAddr fi47_1 rfl rfl) rfl ?_
            refine WPD.takeT 4 rfl (by kernel_rfl) (q_fieldAddr fi47_1 rfl rfl) rfl ?_
            refine WPD.take 1 rfl (by kernel_rfl) (q_load sc4 rfl rfl rfl) rfl rfl ?_
            refine WPD.take 3 rfl (by kernel_rfl) (q_load_ag ag43 rfl rfl (Nat.le_of_ble_eq_true rfl)) rfl rfl ?_
            refine WPD.take 5 rfl (by kernel_rfl) (q_load_ag ag43 rfl rfl (Nat.le_of_ble_eq_true rfl)) rfl rfl ?_
            refine WPD.takeT 7 rfl (by kernel_rfl) (q_fieldAddr fi47_0 rfl rfl) rfl ?_
            obtain ⟨_, h5153, H⟩ := bnd H
            refine WPD.eff 6 [6, 7] [8] rfl (by kernel_rfl) (runs_call (s := []) (t := [8]) (N := 9) (bor := []) fn49 rfl (s_dec_wide_less k x5124 x5125 x5121 x5122 h5153) ⟨rfl, trivial, by decide, rfl, trivial⟩ rfl trivial (.ren rfl rfl (.ren rfl rfl .nil)) rfl ⟨trivial, rfl⟩ rfl) rfl rfl ?_
            refine WPD.effS 8 [] [] rfl (by kernel_rfl) (s_store sz4 rfl rfl rfl rfl rfl) rfl ?_
            refine WPD.takeT 9 rfl (by kernel_rfl) (q_fieldAddr fi47_1 rfl rfl) rfl ?_
            refine WPD.effS 10 [] [] rfl (by kernel_rfl) (s_store sz43 rfl rfl rfl rfl rfl) rfl ?_
            refine WPD.doneW (by kernel_rfl) ?_
            refine W.cv (Cv.weak (E' := (((Env.none.upd 4 (.ptr 0 0)).upd 6 (.ptr 1 0)).upd 8 (.lit (.bool x5120)))) (M' := ((Mem.nil.push (.cells 23 [.lit (.int .i64 0), .lit (.int .i64 0)])).push (.cells 47 [.lit (.bool (decide (x5116 < 0))), .lit (.int .u64 ((sub64 x5124 x5121 ((sub64 x5125 x5122 0).2)).1)), .lit (.int .u64 ((sub64 x5125 x5122 0).1)), .lit (.int .i64 x5123)]))) [2, 6] hnp ⟨rfl, ⟨⟨trivial, .inr ⟨rfl, rfl, rfl⟩⟩, .inr ⟨rfl, rfl, rfl⟩⟩, by decide, rfl, trivial⟩ (LeE.upd rfl rfl (LeE.upd rfl rfl (LeE.upd rfl rfl (LeE.none rfl rfl))))) rfl ?_
            refine W.now ?_
            refine InBlock.n ?_
            have q0 := Option.some.inj H
            subst q0
            exact ⟨rfl, rfl, rfl⟩
    · rcases y5156 with _ | ⟨x5139, x5140, x5141, x5142⟩
      · rintro _ _ _ ⟨rfl, rfl, rfl⟩
        refine W.now ?_
        refine Then.r ?_
        have q0 := (Prod.mk.inj (Option.some.inj H)).1
        have q1 := (Prod.mk.inj (Prod.mk.inj (Option.some.inj H)).2).1
        have q2 := (Prod.mk.inj (Prod.mk.inj (Option.some.inj H)).2).2
        subst q0
        subst q1
        subst q2
        exact ⟨trivial, _, rfl, [0], (.tup [.agg [.lit (.int .i64 0), .lit (.int .i64 0)], .lit (.int .i64 30)]), (Mem.nil.push (.cells 23 [.lit (.int .i64 0), .lit (.int .i64 0)])), ⟨rfl, ⟨trivial, .inr ⟨rfl, rfl, rfl⟩⟩, by decide, rfl, trivial⟩, rfl, rfl, rfl, rfl⟩
      · rintro _ _ _ ⟨rfl, rfl, rfl⟩
        refine W.now ?_
        refine Then.n ?_
        refine WP.seq ?_
        refine WP.seq ?_
        refine WP.region ?_
        refine WPL.q (q_mv (v := .lit (.bool _)) rfl) rfl ?_
        refine WPL.q (q_not rfl) rfl ?_
        refine WPL.nilW ?_
        refine W.now ?_
        refine Then.n ?_
        refine WP.cond (t := (!x5139)) rfl (fun hb5157 => ?_) (fun hb5157 => ?_)
        · replace H := cnt hb5157 H
          refine WP.seq ?_
          refine WP.region ?_
          refine WPL.q (q_build bu23 rfl) rfl ?_
          refine WPL.s (s_store sz23 rfl rfl rfl rfl rfl) ?_
          refine WPL.q (q_as (v := .lit (.int _ _)) rfl) rfl ?_
          refine WPL.nilW ?_
          refine W.now ?_
          refine Then.n ?_
          refine WP.retW ?_
          refine W.now ?_
          refine Then.r ?_
          have q0 := (Prod.mk.inj (Option.some.inj H)).1
          have q1 := (Prod.mk.inj (Prod.mk.inj (Option.some.inj H)).2).1
          have q2 := (Prod.mk.inj (Prod.mk.inj (Option.some.inj H)).2).2
          subst q0
          subst q1
          subst q2
          exact ⟨trivial, _, rfl, [0], (.tup [.agg [.lit (.int .i64 0), .lit (.int .i64 0)], .lit (.int .i64 30)]), (Mem.nil.push (.cells 23 [.lit (.int .i64 0), .lit (.int .i64 0)])), ⟨rfl, ⟨trivial, .inr ⟨rfl, rfl, rfl⟩⟩, by decide, rfl, trivial⟩, rfl, rfl, rfl, rfl⟩
        · replace H := cnf hb5157 H
          refine WP.skipW ?_
          refine W.now ?_
          refine Then.n ?_
          refine WP.seq ?_
          refine WP.region ?_
          refine WPL.q (q_load_ag ag47 rfl rfl (Nat.le_of_ble_eq_true rfl)) rfl ?_
          obtain ⟨⟨x5160, x5161, x5162⟩, h5158, H⟩ := bnd H
          refine WPL.c (runs_call (s := []) (t := [2]) (N := 3) (bor := []) fn31 rfl (s_dec_num_tell k x5140 x5141 x5142 x5123 x5160 x5161 x5162 h5158) ⟨rfl, trivial, by decide, rfl, trivial⟩ rfl trivial (.ren rfl rfl .nil) rfl ⟨trivial, rfl⟩ rfl) rfl ?_
          refine WPL.q (q_extract rfl rfl) rfl ?_
          refine WPL.q (q_extract rfl rfl) rfl ?_
          refine WPL.s (s_store sz23 rfl rfl rfl rfl rfl) ?_
          refine WPL.q (q_as (v := .lit (.int _ _)) rfl) rfl ?_
          refine WPL.nilW ?_
          refine W.now ?_
          refine Then.n ?_
          refine WP.retW ?_
          refine W.now ?_
          have q0 := (Prod.mk.inj (Option.some.inj H)).1
          have q1 := (Prod.mk.inj (Prod.mk.inj (Option.some.inj H)).2).1
          have q2 := (Prod.mk.inj (Prod.mk.inj (Option.some.inj H)).2).2
          subst q0
          subst q1
          subst q2
          exact ⟨trivial, _, rfl, [0], (.tup [.agg [.lit (.int .i64 x5161), .lit (.int .i64 x5162)], .lit (.int .i64 x5160)]), (Mem.nil.push (.cells 23 [.lit (.int .i64 x5161), .lit (.int .i64 x5162)])), ⟨rfl, ⟨trivial, .inr ⟨rfl, rfl, rfl⟩⟩, by decide, rfl, trivial⟩, rfl, rfl, rfl, rfl⟩
end Go.Proofs.Ytdbeblgfccjbgaa.W
