/- Walks: Fc1 -/
import Derived.Test.YticbhcccdfcogaaFb
import Derived.Test.YticbhcccdfcogaaFc0
namespace Go.Proofs.Yticbhcccdfcogaa.W
open Go Go.Q Go.Proofs
set_option linter.unusedVariables false
set_option linter.unusedSimpArgs false
set_option maxRecDepth 100000 in
set_option maxHeartbeats 4000000 in
theorem s34 (k : Nat) (x618 : List Int) (x619 : List Int) (H : f34 k x618 = some x619) : Go.Q.Spec Try.prog 34 0 [.ro (Rd.slice (Rd.int .u8)) true x618] Mem.nil (fun o M => o = .ret (.ro (Rd.slice (Rd.int .u8)) false x619) ∧ M = Mem.nil) := by
  unfold f34 at H
  obtain ⟨h, H⟩ := grd H
  have q0 := Option.some.inj H
  subst q0
  refine Go.Q.Spec.of_bodyR (rs := [.tmp 2]) (nt := 8) Try.func34 rfl rfl (by intro t T h; simp at h) rfl rfl fun cx hnp => ?_
  refine WP.seq ?_
  refine WP.region ?_
  refine WPL.q (q_as (v := .lit _) rfl) rfl ?_
  refine WPL.nilW ?_
  refine W.now ?_
  refine Then.n ?_
  refine WP.seq ?_
  refine WP.seq ?_
  refine WP.region ?_
  refine WPL.q (q_mv (v := .ro _ _ _) rfl) rfl ?_
  refine WPL.eqlNil Try.underlying23 rfl rfl fun nb hnb => ?_
  refine WPL.nilW ?_
  refine W.now ?_
  refine Then.n ?_
  refine WP.cond (t := nb) rfl (fun hb => ?_) (fun hb => ?_)
  · have h0 := hnb hb
    subst h0
    refine WP.seq ?_
    refine WP.region ?_
    refine WPL.q (q_as (v := .lit _) rfl) rfl ?_
    refine WPL.nilW ?_
    refine W.now ?_
    refine Then.n ?_
    refine WP.retW ?_
    refine W.cv (Cv.nilRo (Rd.int .u8) false 2 rfl) rfl ?_
    refine W.now ?_
    refine Then.r ?_
    exact ⟨trivial, _, rfl, [], .ro (Rd.slice (Rd.int .u8)) false [], Mem.nil, ⟨rfl, trivial, by decide, rfl, trivial⟩, rfl, rfl, rfl, rfl⟩
  · refine WP.skipW ?_
    refine W.now ?_
    refine Then.n ?_
    refine WP.seq ?_
    refine WP.region ?_
    refine WPL.d (d_buildSlice (ds := ([] : List Int)) (R := (Rd.int .u8)) li23 rfl rfl rfl rfl rfl JoinRows.nil rfl rfl) rfl ?_
    refine WPL.q (q_mv (v := .ro _ _ _) rfl) rfl ?_
    refine WPL.d (d_append ap23 rfl rfl rfl rfl (src_bor sl23 Rd.flat_sc rfl) h rfl) rfl ?_
    refine WPL.q (q_as (v := .whole _) rfl) rfl ?_
    refine WPL.nilW ?_
    refine W.now ?_
    refine Then.n ?_
    refine WP.retW ?_
    refine W.cv (Cv.frzRow (i := 1) rfl rfl hnp rfl rfl) rfl ?_
    refine W.now ?_
    exact ⟨trivial, _, rfl, [], .ro (Rd.slice (Rd.int .u8)) false x618, Mem.nil, ⟨rfl, trivial, by decide, rfl, trivial⟩, rfl, rfl, rfl, rfl⟩
set_option maxRecDepth 100000 in
set_option maxHeartbeats 4000000 in
theorem s15 (k : Nat) (x616 : Int) (x617 : (List Int)) (x622 : (List Int)) (H : f15 k x616 x617 = some x622) : Go.Q.Spec Try.prog 15 1 [.ptr 0 0] ((Mem.nil.push (.cells 57 [.whole 1, .lit (.int .i64 x616)])).push (.row 5 (Rd.int .u8) x617)) (fun o M => o = .ret (.ro (Rd.slice (Rd.int .u8)) false x622) ∧ M = ((Mem.nil.push (.cells 57 [.whole 1, .lit (.int .i64 x616)])).push (.row 5 (Rd.int .u8) x617))) := by
  unfold f15 at H
  refine Go.Q.Spec.of_bodyR (rs := [.tmp 2]) (nt := 10) Try.func15 rfl rfl (by intro t T h; simp at h) rfl rfl fun cx hnp => ?_
  refine WP.seq ?_
  refine WP.region ?_
  refine WPL.q (q_as (v := .lit _) rfl) rfl ?_
  refine WPL.nilW ?_
  refine W.now ?_
  refine Then.n ?_
  refine WP.seq ?_
  refine WP.seq ?_
  refine WP.region ?_
  refine WPL.q (q_mv (v := .ptr _ _) rfl) rfl ?_
  refine WPL.q (q_eqlp Try.underlying29 rfl) rfl ?_
  refine WPL.nilW ?_
  refine W.now ?_
  refine Then.n ?_
  refine WP.condF rfl ?_
  refine WP.skipW ?_
  refine W.now ?_
  refine Then.n ?_
  refine WP.seq ?_
  refine WP.region ?_
  refine WPL.q (q_mv (v := .ptr _ _) rfl) rfl ?_
  refine WPL.q (q_nilCheck rfl) rfl ?_
  refine WPL.q (q_fieldAddr fi57_0 rfl rfl) rfl ?_
  refine WPL.q (q_load sc23 rfl rfl rfl) rfl ?_
  obtain ⟨x624, h622, H⟩ := bnd H
  refine WPL.c (runs_call (s := []) (t := []) (N := 2) (bor := [1]) fn34 rfl (s34 k x617 x624 h622) ⟨rfl, trivial, by decide, rfl, trivial⟩ rfl ⟨trivial, rfl, rfl, trivial⟩ (.row rfl rfl .nil) rfl trivial rfl) rfl ?_
  refine WPL.q (q_as (v := .ro _ _ _) rfl) rfl ?_
  refine WPL.nilW ?_
  refine W.now ?_
  refine Then.n ?_
  refine WP.retW ?_
  refine W.now ?_
  have q0 := (Option.some.inj H)
  subst q0
  exact ⟨trivial, _, rfl, [0, 1], (.ro (Rd.slice (Rd.int .u8)) false x624), ((Mem.nil.push (.cells 57 [.whole 1, .lit (.int .i64 x616)])).push (.row 5 (Rd.int .u8) x617)), ⟨rfl, ⟨⟨trivial, .inr ⟨rfl, rfl, rfl⟩⟩, .inr ⟨rfl, rfl, rfl⟩⟩, by decide, rfl, ⟨trivial, rfl⟩⟩, rfl, rfl, rfl, rfl⟩
set_option maxRecDepth 100000 in
set_option maxHeartbeats 4000000 in
theorem s14 (k : Nat) (x627 : (List Int)) (x630 : (List Int)) (H : f14 k x627 = some x630) : Go.Q.Spec Try.prog 14 0 [.ro (Rd.slice (Rd.int .u8)) true x627] Mem.nil (fun o M => o = .ret (.ptr 0 0) ∧ M = (Mem.nil.push (.cells 63 [.ro (Rd.slice (Rd.int .u8)) false x630, .lit (.int .i64 0)]))) := by
  unfold f14 at H
  refine Go.Q.Spec.of_bodyR (rs := [.tmp 2]) (nt := 7) Try.func14 rfl rfl (by intro t T h; simp at h) rfl rfl fun cx hnp => ?_
  refine WP.seq ?_
  refine WP.region ?_
  refine WPL.q (q_as (v := .lit _) rfl) rfl ?_
  refine WPL.nilW ?_
  refine W.now ?_
  refine Then.n ?_
  refine WP.seq ?_
  refine WP.region ?_
  refine WPL.q (q_mv (v := .ro _ _ _) rfl) rfl ?_
  obtain ⟨x632, h630, H⟩ := bnd H
  refine WPL.c (runs_call (s := []) (t := []) (N := 0) (bor := []) fn34 rfl (s34 k x627 x632 h630) ⟨rfl, trivial, by decide, rfl, trivial⟩ rfl trivial (.ren rfl rfl .nil) rfl trivial rfl) rfl ?_
  refine WPL.q (q_build bu63 rfl) rfl ?_
  refine WPL.d (d_box rfl rfl) rfl ?_
  refine WPL.q (q_as (v := .ptr _ _) rfl) rfl ?_
  refine WPL.nilW ?_
  refine W.now ?_
  refine Then.n ?_
  refine WP.retW ?_
  refine W.now ?_
  have q0 := (Option.some.inj H)
  subst q0
  exact ⟨trivial, _, rfl, [0], (.ptr 0 0), (Mem.nil.push (.cells 63 [.ro (Rd.slice (Rd.int .u8)) false x632, .lit (.int .i64 0)])), ⟨rfl, ⟨trivial, .inr ⟨rfl, rfl, rfl⟩⟩, by decide, rfl, trivial⟩, rfl, rfl, rfl, rfl⟩
set_option maxRecDepth 100000 in
set_option maxHeartbeats 4000000 in
theorem s17 (k : Nat) (x642 : (List Int)) (x643 : Int) (x646 : Int) (H : f17 k x642 x643 = some x646) : Go.Q.Spec Try.prog 17 1 [.ptr 0 0] (Mem.nil.push (.cells 63 [.ro (Rd.slice (Rd.int .u8)) false x642, .lit (.int .i64 x643)])) (fun o M => o = .ret (.lit (.int .i64 x646)) ∧ M = (Mem.nil.push (.cells 63 [.ro (Rd.slice (Rd.int .u8)) false x642, .lit (.int .i64 x643)]))) := by
  unfold f17 at H
  refine Go.Q.Spec.of_bodyR (rs := [.tmp 2]) (nt := 16) Try.func17 rfl rfl (by intro t T h; simp at h) rfl rfl fun cx hnp => ?_
  refine WP.seq ?_
  refine WP.region ?_
  refine WPL.q (q_as (v := .lit (.int _ _)) rfl) rfl ?_
  refine WPL.nilW ?_
  refine W.now ?_
  refine Then.n ?_
  refine WP.seq ?_
  refine WP.seq ?_
  refine WP.region ?_
  refine WPL.q (q_mv (v := .ptr _ _) rfl) rfl ?_
  refine WPL.q (q_eqlp Try.underlying35 rfl) rfl ?_
  refine WPL.nilW ?_
  refine W.now ?_
  refine Then.n ?_
  refine WP.condF rfl ?_
  refine WP.skipW ?_
  refine W.now ?_
  refine Then.n ?_
  refine WP.seq ?_
  refine WP.regionD' 12 [0] [] mixed rfl ?_
  refine WPD.take 0 rfl (by kernel_rfl) (q_mv (v := .ptr _ _) rfl) rfl rfl ?_
  refine WPD.take 1 rfl (by kernel_rfl) (q_nilCheck rfl) rfl rfl ?_
  refine WPD.take 2 rfl (by kernel_rfl) (q_fieldAddr fi63_0 rfl rfl) rfl rfl ?_
  refine WPD.take 3 rfl (by kernel_rfl) (q_load sc23 rfl rfl rfl) rfl rfl ?_
  refine WPD.take 4 rfl (by kernel_rfl) (q_len_ro sl23 rfl) rfl rfl ?_
  obtain ⟨x648, h648, H⟩ := bnd H
  refine WPD.take 5 rfl (by kernel_rfl) (q_nm (q_mul rfl rfl) (nm_int h648)) rfl rfl ?_
  refine WPD.take 6 rfl (by kernel_rfl) (q_mv (v := .ptr _ _) rfl) rfl rfl ?_
  refine WPD.take 7 rfl (by kernel_rfl) (q_nilCheck rfl) rfl rfl ?_
  refine WPD.take 8 rfl (by kernel_rfl) (q_fieldAddr fi63_1 rfl rfl) rfl rfl ?_
  refine WPD.take 9 rfl (by kernel_rfl) (q_load sc3 rfl rfl rfl) rfl rfl ?_
  refine WPD.take 10 rfl (by kernel_rfl) (q_sub rfl rfl) rfl rfl ?_
  refine WPD.take 11 rfl (by kernel_rfl) (q_as (v := .lit (.int _ _)) rfl) rfl rfl ?_
  refine WPD.doneW (by kernel_rfl) ?_
  refine W.now ?_
  refine Then.n ?_
  refine WP.retW ?_
  refine W.now ?_
  have q0 := (Option.some.inj H)
  subst q0
  exact ⟨trivial, _, rfl, [0], (.lit (.int .i64 (IntKind.wrap .i64 (x648 - x643)))), (Mem.nil.push (.cells 63 [.ro (Rd.slice (Rd.int .u8)) false x642, .lit (.int .i64 x643)])), ⟨rfl, ⟨trivial, .inr ⟨rfl, rfl, rfl⟩⟩, by decide, rfl, ⟨trivial, rfl⟩⟩, rfl, rfl, rfl, rfl⟩
set_option maxRecDepth 100000 in
set_option maxHeartbeats 4000000 in
theorem s16 (k : Nat) (x635 : Int) (x636 : (List Int)) (x637 : Int) (x687 : Int) (x688 : Int) (x689 : (List Int)) (x690 : Int) (H : f16 k x635 x636 x637 = some (x687, x688, x689, x690)) : Go.Q.Spec Try.prog 16 1 [.ptr 0 0, .lit (.int .i64 x635)] (Mem.nil.push (.cells 63 [.ro (Rd.slice (Rd.int .u8)) false x636, .lit (.int .i64 x637)])) (fun o M => o = .ret (.tup [.lit (.int .u32 x687), .lit (.int .i64 x688)]) ∧ M = (Mem.nil.push (.cells 63 [.ro (Rd.slice (Rd.int .u8)) false x689, .lit (.int .i64 x690)]))) := by
  unfold f16 at H
  refine Go.Q.Spec.of_bodyR (rs := [.tmp 4, .tmp 5]) (nt := 85) Try.func16 rfl rfl (by intro t T h; simp at h) rfl rfl fun cx hnp => ?_
  refine WP.seq ?_
  refine WP.region ?_
  refine WPL.q (q_as (v := .lit (.int _ _)) rfl) rfl ?_
  refine WPL.q (q_as (v := .lit (.int _ _)) rfl) rfl ?_
  refine WPL.nilW ?_
  refine W.now ?_
  refine Then.n ?_
  refine WP.seq ?_
  refine WP.block ?_
  refine WP.seq ?_
  refine WP.region ?_
  refine WPL.q (q_mv (v := .ptr _ _) rfl) rfl ?_
  refine WPL.q (q_eqlp Try.underlying35 rfl) rfl ?_
  refine WPL.q (q_as (v := .lit (.bool _)) rfl) rfl ?_
  refine WPL.nilW ?_
  refine W.now ?_
  refine Then.n ?_
  refine WP.condF rfl ?_
  refine WP.seq ?_
  obtain ⟨x698, H699, H⟩ := bnd H
  refine WP.monoW (Q := fun x E M => x = .normal ∧ E = (((Env.none.upd 0 (.ptr 0 0)).upd 1 (.lit (.int .i64 x635))).upd 12 (.lit (.bool x698))) ∧ M = (Mem.nil.push (.cells 63 [.ro (Rd.slice (Rd.int .u8)) false x636, .lit (.int .i64 x637)]))) ?_ ?_
  · clear H
    have H := H699
    clear H699
    refine WP.region ?_
    refine WPL.q (q_mv (v := .lit (.int _ _)) rfl) rfl ?_
    refine WPL.q (q_lss rfl rfl) rfl ?_
    refine WPL.q (q_mv (v := .lit (.bool _)) rfl) rfl ?_
    refine WPL.split (t := 15) (b := (decide (x635 < 0))) rfl (fun hb698 => ?_) (fun hb698 => ?_)
    · replace H := cnt hb698 H
      refine WPL.skipg (b' := true) rfl rfl (lb hb698) rfl rfl ?_
      refine WPL.skipg (b' := true) rfl rfl (lb hb698) rfl rfl ?_
      refine WPL.q (q_pickT (v := .lit (.bool _)) (lb hb698) rfl) rfl ?_
      refine WPL.q (q_as (v := .lit (.bool _)) rfl) rfl ?_
      refine WPL.nilW ?_
      refine W.cv (Cv.weak (E' := (((Env.none.upd 0 (.ptr 0 0)).upd 1 (.lit (.int .i64 x635))).upd 12 (.lit (.bool true)))) (M' := (Mem.nil.push (.cells 63 [.ro (Rd.slice (Rd.int .u8)) false x636, .lit (.int .i64 x637)]))) [0] hnp ⟨rfl, ⟨trivial, .inr ⟨rfl, rfl, rfl⟩⟩, by decide, rfl, ⟨trivial, rfl⟩⟩ (LeE.upd rfl rfl (LeE.upd rfl rfl (LeE.upd rfl rfl (LeE.none rfl rfl))))) rfl ?_
      refine W.now ?_
      have q0 := (Option.some.inj H)
      subst q0
      exact ⟨rfl, rfl, rfl⟩
    · replace H := cnf hb698 H
      refine WPL.qg rfl rfl (lb hb698) (q_mv (v := .lit (.int _ _)) rfl) rfl ?_
      refine WPL.qg rfl rfl (lb hb698) (q_gtr rfl rfl) rfl ?_
      refine WPL.q (q_pickF (v := .lit (.bool _)) (lb hb698) rfl) rfl ?_
      refine WPL.q (q_as (v := .lit (.bool _)) rfl) rfl ?_
      refine WPL.nilW ?_
      refine W.cv (Cv.weak (E' := (((Env.none.upd 0 (.ptr 0 0)).upd 1 (.lit (.int .i64 x635))).upd 12 (.lit (.bool (decide (32 < x635)))))) (M' := (Mem.nil.push (.cells 63 [.ro (Rd.slice (Rd.int .u8)) false x636, .lit (.int .i64 x637)]))) [0] hnp ⟨rfl, ⟨trivial, .inr ⟨rfl, rfl, rfl⟩⟩, by decide, rfl, ⟨trivial, rfl⟩⟩ (LeE.upd rfl rfl (LeE.upd rfl rfl (LeE.upd rfl rfl (LeE.none rfl rfl))))) rfl ?_
      refine W.now ?_
      have q0 := (Option.some.inj H)
      subst q0
      exact ⟨rfl, rfl, rfl⟩
  · rintro _ _ _ ⟨rfl, rfl, rfl⟩
    refine W.now ?_
    refine Then.n ?_
    refine WP.cond (t := x698) rfl (fun hb => ?_) (fun hb => ?_)
    · replace H := cnt hb H
      refine WP.seq ?_
      refine WP.region ?_
      refine WPL.q (q_as (v := .lit (.int _ _)) rfl) rfl ?_
      refine WPL.q (q_as (v := .lit (.int _ _)) rfl) rfl ?_
      refine WPL.nilW ?_
      refine W.now ?_
      refine Then.n ?_
      refine WP.retW ?_
      refine W.now ?_
      refine InBlock.r ?_
      refine Then.r ?_
      have q0 := (Prod.mk.inj (Option.some.inj H)).1
      have q1 := (Prod.mk.inj (Prod.mk.inj (Option.some.inj H)).2).1
      have q2 := (Prod.mk.inj (Prod.mk.inj (Prod.mk.inj (Option.some.inj H)).2).2).1
      have q3 := (Prod.mk.inj (Prod.mk.inj (Prod.mk.inj (Option.some.inj H)).2).2).2
      subst q0
      subst q1
      subst q2
      subst q3
      exact ⟨trivial, _, rfl, [0], (.tup [.lit (.int .u32 0), .lit (.int .i64 1)]), (Mem.nil.push (.cells 63 [.ro (Rd.slice (Rd.int .u8)) false x636, .lit (.int .i64 x637)])), ⟨rfl, ⟨trivial, .inr ⟨rfl, rfl, rfl⟩⟩, by decide, rfl, ⟨trivial, rfl⟩⟩, rfl, rfl, rfl, rfl⟩
    · replace H := cnf hb H
      refine WP.seq ?_
      refine WP.region ?_
      refine WPL.q (q_mv (v := .lit (.int _ _)) rfl) rfl ?_
      refine WPL.q (q_mv (v := .ptr _ _) rfl) rfl ?_
      obtain ⟨x702, h700, H⟩ := bnd H
      refine WPL.c (runs_call (s := [0]) (t := [0]) (N := 1) (bor := []) fn17 rfl (s17 k x636 x637 x702 h700) ⟨rfl, ⟨trivial, .inr ⟨rfl, rfl, rfl⟩⟩, by decide, rfl, trivial⟩ rfl trivial (.ren rfl rfl .nil) rfl ⟨trivial, rfl⟩ rfl) rfl ?_
      refine WPL.q (q_gtr rfl rfl) rfl ?_
      refine WPL.q (q_as (v := .lit (.bool _)) rfl) rfl ?_
      refine WPL.nilW ?_
      refine W.now ?_
      refine Then.n ?_
      refine WP.cond (t := (decide (x702 < x635))) rfl (fun hb => ?_) (fun hb => ?_)
      · replace H := cnt hb H
        refine WP.seq ?_
        refine WP.region ?_
        refine WPL.q (q_as (v := .lit (.int _ _)) rfl) rfl ?_
        refine WPL.q (q_as (v := .lit (.int _ _)) rfl) rfl ?_
        refine WPL.nilW ?_
        refine W.now ?_
        refine Then.n ?_
        refine WP.retW ?_
        refine W.now ?_
        refine InBlock.r ?_
        refine Then.r ?_
        have q0 := (Prod.mk.inj (Option.some.inj H)).1
        have q1 := (Prod.mk.inj (Prod.mk.inj (Option.some.inj H)).2).1
        have q2 := (Prod.mk.inj (Prod.mk.inj (Prod.mk.inj (Option.some.inj H)).2).2).1
        have q3 := (Prod.mk.inj (Prod.mk.inj (Prod.mk.inj (Option.some.inj H)).2).2).2
        subst q0
        subst q1
        subst q2
        subst q3
        exact ⟨trivial, _, rfl, [0], (.tup [.lit (.int .u32 0), .lit (.int .i64 10)]), (Mem.nil.push (.cells 63 [.ro (Rd.slice (Rd.int .u8)) false x636, .lit (.int .i64 x637)])), ⟨rfl, ⟨trivial, .inr ⟨rfl, rfl, rfl⟩⟩, by decide, rfl, ⟨trivial, rfl⟩⟩, rfl, rfl, rfl, rfl⟩
      · replace H := cnf hb H
        refine WP.skipW ?_
        refine W.now ?_
        refine InBlock.n ?_
        refine Then.n ?_
        refine WP.seq ?_
        refine WP.region ?_
        refine WPL.q (q_as (v := .lit (.int _ _)) rfl) rfl ?_
        refine WPL.q (q_as (v := .lit (.int _ _)) rfl) rfl ?_
        refine WPL.nilW ?_
        refine W.now ?_
        refine Then.n ?_
        refine WP.seq ?_
        refine WP.block ?_
        refine WP.cv (Cv.weak (E' := ((((Env.none.upd 0 (.ptr 0 0)).upd 1 (.lit (.int .i64 x635))).upd 6 (.lit (.int .u64 0))).upd 7 (.lit (.int .i64 0)))) (M' := (Mem.nil.push (.cells 63 [.ro (Rd.slice (Rd.int .u8)) false x636, .lit (.int .i64 x637)]))) [0] hnp ⟨rfl, ⟨trivial, .inr ⟨rfl, rfl, rfl⟩⟩, by decide, rfl, ⟨trivial, rfl⟩⟩ (LeE.upd rfl rfl (LeE.upd rfl rfl (LeE.upd rfl rfl (LeE.upd rfl rfl (LeE.none rfl rfl)))))) ?_
        obtain ⟨⟨x727, x728, x729⟩, H740, H⟩ := bnd H
        refine WP.monoW (Q := fun x E M => x = .exit 1 ∧ E = ((Env.none.upd 1 (.lit (.int .i64 x635))).upd 6 (.lit (.int .u64 x727))) ∧ M = (Mem.nil.push (.cells 63 [.ro (Rd.slice (Rd.int .u8)) false x728, .lit (.int .i64 x729)]))) ?_ ?_
        · refine WP.loop (β := Int × Int × (List Int) × Int) (fun n b => f16_l0 k x635 n b.1 b.2.1 b.2.2.1 b.2.2.2 = some (x727, x728, x729)) (fun b => ((((Env.none.upd 0 (.ptr 0 0)).upd 1 (.lit (.int .i64 x635))).upd 6 (.lit (.int .u64 b.1))).upd 7 (.lit (.int .i64 b.2.1)))) (fun b => (Mem.nil.push (.cells 63 [.ro (Rd.slice (Rd.int .u8)) false b.2.2.1, .lit (.int .i64 b.2.2.2)]))) k (0, 0, x636, x637) H740 rfl rfl ?_
          rintro n ⟨x712, x713, x714, x715⟩ H
          obtain _ | n := n
          · exact nf rfl H
          rw [f16_l0.eq_2] at H
          show WP _ _ _ _ ((((Env.none.upd 0 (.ptr 0 0)).upd 1 (.lit (.int .i64 x635))).upd 6 (.lit (.int .u64 x712))).upd 7 (.lit (.int .i64 x713))) (Mem.nil.push (.cells 63 [.ro (Rd.slice (Rd.int .u8)) false x714, .lit (.int .i64 x715)])) _
          refine WP.seq ?_
          refine WP.seq ?_
          refine WP.region ?_
          refine WPL.q (q_mv (v := .lit (.int _ _)) rfl) rfl ?_
          refine WPL.q (q_mv (v := .lit (.int _ _)) rfl) rfl ?_
          refine WPL.q (q_lss rfl rfl) rfl ?_
          refine WPL.nilW ?_
          refine W.now ?_
          refine Then.n ?_
          refine WP.cond (t := (decide (x713 < x635))) rfl (fun hb => ?_) (fun hb => ?_)
          · replace H := cnt hb H
            refine WP.skipW ?_
            refine W.now ?_
            refine Then.n ?_
            refine WP.block ?_
            refine WP.seq ?_
            refine WP.regionD' 17 [0] [] mixed rfl ?_
            refine WPD.take 0 rfl (by kernel_rfl) (q_mv (v := .lit (.int _ _)) rfl) rfl rfl ?_
            refine WPD.take 1 rfl (by kernel_rfl) (q_mv (v := .ptr _ _) rfl) rfl rfl ?_
            refine WPD.take 2 rfl (by kernel_rfl) (q_nilCheck rfl) rfl rfl ?_
            refine WPD.take 3 rfl (by kernel_rfl) (q_fieldAddr fi63_0 rfl rfl) rfl rfl ?_
            refine WPD.take 4 rfl (by kernel_rfl) (q_load sc23 rfl rfl rfl) rfl rfl ?_
            obtain ⟨x734, h734, H⟩ := bnd H
            refine WPD.take 5 rfl (by kernel_rfl) (q_index_ro sl23 rfl rfl rfl h734) rfl rfl ?_
            refine WPD.take 6 rfl (by kernel_rfl) (q_load_sc sc5 rfl) rfl rfl ?_
            refine WPD.take 7 rfl (by kernel_rfl) (q_mv (v := .ptr _ _) rfl) rfl rfl ?_
            refine WPD.take 8 rfl (by kernel_rfl) (q_nilCheck rfl) rfl rfl ?_
            refine WPD.take 9 rfl (by kernel_rfl) (q_fieldAddr fi63_1 rfl rfl) rfl rfl ?_
            refine WPD.take 10 rfl (by kernel_rfl) (q_load sc3 rfl rfl rfl) rfl rfl ?_
            obtain ⟨h734, H⟩ := grd H
            refine WPD.take 11 rfl (by kernel_rfl) (q_shr rfl rfl h734) rfl rfl ?_
            refine WPD.take 12 rfl (by kernel_rfl) (q_conv Try.underlying5 Try.underlying54 rfl) rfl rfl ?_
            refine WPD.take 13 rfl (by kernel_rfl) (q_mv (v := .lit (.int _ _)) rfl) rfl rfl ?_
            obtain ⟨h735, H⟩ := grd H
            obtain ⟨x737, h737, H⟩ := bnd H
            refine WPD.take 14 rfl (by kernel_rfl) (q_nm (q_shl rfl rfl h735) (nm_int h737)) rfl rfl ?_
            refine WPD.take 15 rfl (by kernel_rfl) (q_or rfl rfl) rfl rfl ?_
            refine WPD.take 16 rfl (by kernel_rfl) (q_as (v := .lit (.int _ _)) rfl) rfl rfl ?_
            refine WPD.doneW (by kernel_rfl) ?_
            refine W.now ?_
            refine Then.n ?_
            refine WP.seq ?_
            refine WP.region ?_
            refine WPL.q (q_mv (v := .ptr _ _) rfl) rfl ?_
            refine WPL.q (q_nilCheck rfl) rfl ?_
            refine WPL.q (q_fieldAddr fi63_1 rfl rfl) rfl ?_
            refine WPL.q (q_load sc3 rfl rfl rfl) rfl ?_
            refine WPL.q (q_sub rfl rfl) rfl ?_
            refine WPL.q (q_mv (v := .lit (.int _ _)) rfl) rfl ?_
            refine WPL.q (q_mv (v := .lit (.int _ _)) rfl) rfl ?_
            refine WPL.q (q_sub rfl rfl) rfl ?_
            obtain ⟨x738, h738, H⟩ := bnd H
            refine WPL.q (q_nm (q_min rfl rfl) (nm_int h738)) rfl ?_
            refine WPL.q (q_as (v := .lit (.int _ _)) rfl) rfl ?_
            refine WPL.nilW ?_
            refine W.now ?_
            refine Then.n ?_
            refine WP.seq ?_
            refine WP.region ?_
            refine WPL.q (q_mv (v := .lit (.int _ _)) rfl) rfl ?_
            refine WPL.q (q_mv (v := .lit (.int _ _)) rfl) rfl ?_
            refine WPL.q (q_add rfl rfl) rfl ?_
            refine WPL.q (q_as (v := .lit (.int _ _)) rfl) rfl ?_
            refine WPL.nilW ?_
            refine W.now ?_
            refine Then.n ?_
            refine WP.seq ?_
            refine WP.region ?_
            refine WPL.q (q_mv (v := .ptr _ _) rfl) rfl ?_
            refine WPL.q (q_nilCheck rfl) rfl ?_
            refine WPL.q (q_fieldAddr fi63_1 rfl rfl) rfl ?_
            refine WPL.q (q_load sc3 rfl rfl rfl) rfl ?_
            refine WPL.q (q_mv (v := .lit (.int _ _)) rfl) rfl ?_
            refine WPL.q (q_add rfl rfl) rfl ?_
            refine WPL.q (q_nilCheck rfl) rfl ?_
            refine WPL.q (q_fieldAddr fi63_1 rfl rfl) rfl ?_
            refine WPL.s (s_store sz3 rfl rfl rfl rfl rfl) ?_
            refine WPL.nilW ?_
            refine W.now ?_
            refine Then.n ?_
            refine WP.seq ?_
            refine WP.region ?_
            refine WPL.q (q_mv (v := .ptr _ _) rfl) rfl ?_
            refine WPL.q (q_nilCheck rfl) rfl ?_
            refine WPL.q (q_fieldAddr fi63_1 rfl rfl) rfl ?_
            refine WPL.q (q_load sc3 rfl rfl rfl) rfl ?_
            obtain ⟨x739, h739, H⟩ := bnd H
            refine WPL.q (q_nm (q_eql rfl rfl) (nm_bool h739)) rfl ?_
            refine WPL.nilW ?_
            refine W.now ?_
            refine Then.n ?_
            refine WP.cond (t := x739) rfl (fun hb => ?_) (fun hb => ?_)
            · replace H := cnt hb H
              refine WP.region ?_
              refine WPL.q (q_mv (v := .ptr _ _) rfl) rfl ?_
              refine WPL.q (q_mv (v := .ptr _ _) rfl) rfl ?_
              refine WPL.q (q_mv (v := .ptr _ _) rfl) rfl ?_
              refine WPL.q (q_nilCheck rfl) rfl ?_
              refine WPL.q (q_fieldAddr fi63_0 rfl rfl) rfl ?_
              refine WPL.q (q_load sc23 rfl rfl rfl) rfl ?_
              obtain ⟨h739, H⟩ := grd H
              refine WPL.q (q_slice_ro (i := 1) (j := ((List.length x714 : Nat) : Int)) sl23 rfl rfl ⟨_, rfl⟩ rfl h739) rfl ?_
              refine WPL.q (q_nilCheck rfl) rfl ?_
              refine WPL.q (q_fieldAddr fi63_0 rfl rfl) rfl ?_
              refine WPL.s (s_store sz23 rfl rfl rfl rfl rfl) ?_
              refine WPL.q (q_nilCheck rfl) rfl ?_
              refine WPL.q (q_fieldAddr fi63_1 rfl rfl) rfl ?_
              refine WPL.s (s_store sz3 rfl rfl rfl rfl rfl) ?_
              refine WPL.nilW ?_
              refine W.cv (Cv.weak (E' := ((((Env.none.upd 0 (.ptr 0 0)).upd 1 (.lit (.int .i64 x635))).upd 6 (.lit (.int .u64 (bits .or .u64 x712 x737)))).upd 7 (.lit (.int .i64 (IntKind.wrap .i64 (x713 + x738)))))) (M' := (Mem.nil.push (.cells 63 [.ro (Rd.slice (Rd.int .u8)) false (List.drop (Int.toNat 1) (List.take (Int.toNat ((List.length x714 : Nat) : Int)) x714)), .lit (.int .i64 0)]))) [0] hnp ⟨rfl, ⟨trivial, .inr ⟨rfl, rfl, rfl⟩⟩, by decide, rfl, ⟨trivial, rfl⟩⟩ (LeE.upd rfl rfl (LeE.upd rfl rfl (LeE.upd rfl rfl (LeE.upd rfl rfl (LeE.none rfl rfl)))))) rfl ?_
              refine W.now ?_
              refine InBlock.n ?_
              exact Then.n ⟨n, ((bits .or .u64 x712 x737), (IntKind.wrap .i64 (x713 + x738)), (List.drop (Int.toNat 1) (List.take (Int.toNat ((List.length x714 : Nat) : Int)) x714)), 0), Nat.lt_succ_self n, H, rfl, rfl⟩
            · replace H := cnf hb H
              refine WP.skipW ?_
              refine W.cv (Cv.weak (E' := ((((Env.none.upd 0 (.ptr 0 0)).upd 1 (.lit (.int .i64 x635))).upd 6 (.lit (.int .u64 (bits .or .u64 x712 x737)))).upd 7 (.lit (.int .i64 (IntKind.wrap .i64 (x713 + x738)))))) (M' := (Mem.nil.push (.cells 63 [.ro (Rd.slice (Rd.int .u8)) false x714, .lit (.int .i64 (IntKind.wrap .i64 (x715 + x738)))]))) [0] hnp ⟨rfl, ⟨trivial, .inr ⟨rfl, rfl, rfl⟩⟩, by decide, rfl, ⟨trivial, rfl⟩⟩ (LeE.upd rfl rfl (LeE.upd rfl rfl (LeE.upd rfl rfl (LeE.upd rfl rfl (LeE.none rfl rfl)))))) rfl ?_
              refine W.now ?_
              refine InBlock.n ?_
              exact Then.n ⟨n, ((bits .or .u64 x712 x737), (IntKind.wrap .i64 (x713 + x738)), x714, (IntKind.wrap .i64 (x715 + x738))), Nat.lt_succ_self n, H, rfl, rfl⟩
          · replace H := cnf hb H
            refine WP.exitW ?_
            refine W.cv (Cv.weak (E' := ((Env.none.upd 1 (.lit (.int .i64 x635))).upd 6 (.lit (.int .u64 x712)))) (M' := (Mem.nil.push (.cells 63 [.ro (Rd.slice (Rd.int .u8)) false x714, .lit (.int .i64 x715)]))) [0] hnp ⟨rfl, ⟨trivial, .inr ⟨rfl, rfl, rfl⟩⟩, by decide, rfl, ⟨trivial, rfl⟩⟩ (LeE.upd rfl rfl (LeE.upd rfl rfl (LeE.none rfl rfl)))) rfl ?_
            refine W.now ?_
            refine Then.x ?_
            refine Then.x ?_
            have q0 := (Prod.mk.inj (Option.some.inj H)).1
            have q1 := (Prod.mk.inj (Prod.mk.inj (Option.some.inj H)).2).1
            have q2 := (Prod.mk.inj (Prod.mk.inj (Option.some.inj H)).2).2
            subst q0
            subst q1
            subst q2
            exact ⟨rfl, rfl, rfl⟩
        · rintro _ _ _ ⟨rfl, rfl, rfl⟩
          refine W.now ?_
          refine InBlock.x0 ?_
          refine Then.n ?_
          refine WP.seq ?_
          refine WP.region ?_
          refine WPL.q (q_mv (v := .lit (.int _ _)) rfl) rfl ?_
          refine WPL.q (q_mv (v := .lit (.int _ _)) rfl) rfl ?_
          obtain ⟨h741, H⟩ := grd H
          refine WPL.q (q_shl rfl rfl h741) rfl ?_
          refine WPL.q (q_sub rfl rfl) rfl ?_
          obtain ⟨x743, h743, H⟩ := bnd H
          refine WPL.q (q_nm (q_and rfl rfl) (nm_int h743)) rfl ?_
          refine WPL.q (q_conv Try.underlying54 Try.underlying22 rfl) rfl ?_
          refine WPL.q (q_as (v := .lit (.int _ _)) rfl) rfl ?_
          refine WPL.q (q_as (v := .lit (.int _ _)) rfl) rfl ?_
          refine WPL.nilW ?_
          refine W.now ?_
          refine Then.n ?_
          refine WP.retW ?_
          refine W.now ?_
          have q0 := (Prod.mk.inj (Option.some.inj H)).1
          have q1 := (Prod.mk.inj (Prod.mk.inj (Option.some.inj H)).2).1
          have q2 := (Prod.mk.inj (Prod.mk.inj (Prod.mk.inj (Option.some.inj H)).2).2).1
          have q3 := (Prod.mk.inj (Prod.mk.inj (Prod.mk.inj (Option.some.inj H)).2).2).2
          subst q0
          subst q1
          subst q2
          subst q3
          exact ⟨trivial, _, rfl, [0], (.tup [.lit (.int .u32 (IntKind.wrap .u32 x743)), .lit (.int .i64 0)]), (Mem.nil.push (.cells 63 [.ro (Rd.slice (Rd.int .u8)) false x728, .lit (.int .i64 x729)])), ⟨rfl, ⟨trivial, .inr ⟨rfl, rfl, rfl⟩⟩, by decide, rfl, ⟨trivial, rfl⟩⟩, rfl, rfl, rfl, rfl⟩
set_option maxRecDepth 100000 in
set_option maxHeartbeats 4000000 in
theorem s11 (k : Nat) (x777 : Bool) (H : f11 k = some x777) : Go.Q.Spec Try.prog 11 0 [] Mem.nil (fun o M => o = .ret (.lit (.bool x777)) ∧ M = Mem.nil) := by
  unfold f11 at H
  refine Go.Q.Spec.of_bodyR (rs := [.tmp 0]) (nt := 61) Try.func11 rfl rfl (by intro t T h; simp at h) rfl rfl fun cx hnp => ?_
  refine WP.seq ?_
  refine WP.region ?_
  refine WPL.q (q_as (v := .lit (.bool _)) rfl) rfl ?_
  refine WPL.nilW ?_
  refine W.now ?_
  refine Then.n ?_
  refine WP.seq ?_
  refine WP.region ?_
  obtain ⟨_, h777, H⟩ := bnd H
  refine WPL.c (runs_call (s := []) (t := [0, 1]) (N := 2) (bor := []) fn12 rfl (s12 k h777) ⟨rfl, trivial, by decide, rfl, trivial⟩ rfl trivial .nil rfl ⟨⟨trivial, rfl⟩, rfl⟩ rfl) rfl ?_
  refine WPL.q (q_as (v := .ptr _ _) rfl) rfl ?_
  refine WPL.nilW ?_
  refine W.now ?_
  refine Then.n ?_
  refine WP.seq ?_
  refine WP.seq ?_
  refine WP.region ?_
  refine WPL.q (q_mv (v := .ptr _ _) rfl) rfl ?_
  refine WPL.q (q_eqlp Try.underlying29 rfl) rfl ?_
  refine WPL.nilW ?_
  refine W.now ?_
  refine Then.n ?_
  refine WP.condF rfl ?_
  refine WP.skipW ?_
  refine W.now ?_
  refine Then.n ?_
  refine WP.seq ?_
  refine WP.region ?_
  refine WPL.q (q_mv (v := .ptr _ _) rfl) rfl ?_
  obtain ⟨⟨x780, x781, x782⟩, h778, H⟩ := bnd H
  refine WPL.c (runs_call (s := [0, 1]) (t := [0, 2]) (N := 3) (bor := []) fn13 rfl (s13 k 1 1 0 ([] : List Int) x780 x781 x782 h778) ⟨rfl, ⟨⟨trivial, .inr ⟨rfl, rfl, rfl⟩⟩, .inr ⟨rfl, rfl, rfl⟩⟩, by decide, rfl, trivial⟩ rfl trivial (.ren rfl rfl (.ren rfl rfl (.ren rfl rfl .nil))) rfl ⟨⟨trivial, rfl⟩, rfl⟩ rfl) rfl ?_
  refine WPL.q (q_mv (v := .ptr _ _) rfl) rfl ?_
  obtain ⟨⟨x784, x785, x786⟩, h782, H⟩ := bnd H
  refine WPL.c (runs_call (s := [0, 2]) (t := [0, 3]) (N := 4) (bor := []) fn13 rfl (s13 k 2 3 x781 x782 x784 x785 x786 h782) ⟨rfl, ⟨⟨trivial, .inr ⟨rfl, rfl, rfl⟩⟩, .inr ⟨rfl, rfl, rfl⟩⟩, by decide, rfl, trivial⟩ rfl trivial (.ren rfl rfl (.ren rfl rfl (.ren rfl rfl .nil))) rfl ⟨⟨trivial, rfl⟩, rfl⟩ rfl) rfl ?_
  refine WPL.q (q_as (v := .lit (.int _ _)) rfl) rfl ?_
  refine WPL.q (q_as (v := .lit (.int _ _)) rfl) rfl ?_
  refine WPL.nilW ?_
  refine W.now ?_
  refine Then.n ?_
  refine WP.seq ?_
  refine WP.region ?_
  refine WPL.q (q_mv (v := .ptr _ _) rfl) rfl ?_
  obtain ⟨x788, h786, H⟩ := bnd H
  refine WPL.c (runs_call (s := [0, 3]) (t := [0, 4]) (N := 5) (bor := []) fn15 rfl (s15 k x785 x786 x788 h786) ⟨rfl, ⟨⟨trivial, .inr ⟨rfl, rfl, rfl⟩⟩, .inr ⟨rfl, rfl, rfl⟩⟩, by decide, rfl, trivial⟩ rfl trivial (.ren rfl rfl .nil) rfl ⟨⟨trivial, rfl⟩, rfl⟩ rfl) rfl ?_
  refine WPL.q (q_as (v := .ro _ _ _) rfl) rfl ?_
  refine WPL.nilW ?_
  refine W.now ?_
  refine Then.n ?_
  refine WP.seq ?_
  refine WP.region ?_
  refine WPL.d (d_buildSlice (ds := ([5] : List Int)) (R := (Rd.int .u8)) li23 rfl rfl rfl rfl rfl (JoinRows.cons1 Joins.sc rfl JoinRows.nil) rfl rfl) rfl ?_
  obtain ⟨x790, h788, H⟩ := bnd H
  refine WPL.c (runs_call (s := []) (t := [6]) (N := 7) (bor := [5]) fn14 rfl (s14 k ([5] : List Int) x790 h788) ⟨rfl, trivial, by decide, rfl, trivial⟩ rfl ⟨trivial, rfl, rfl, trivial⟩ (.row rfl rfl .nil) rfl ⟨trivial, rfl⟩ rfl) rfl ?_
  refine WPL.q (q_as (v := .ptr _ _) rfl) rfl ?_
  refine WPL.nilW ?_
  refine W.now ?_
  refine Then.n ?_
  refine WP.seq ?_
  refine WP.seq ?_
  refine WP.region ?_
  refine WPL.q (q_mv (v := .ptr _ _) rfl) rfl ?_
  refine WPL.q (q_eqlp Try.underlying35 rfl) rfl ?_
  refine WPL.nilW ?_
  refine W.now ?_
  refine Then.n ?_
  refine WP.condF rfl ?_
  refine WP.skipW ?_
  refine W.now ?_
  refine Then.n ?_
  refine WP.seq ?_
  refine WP.region ?_
  refine WPL.q (q_mv (v := .ptr _ _) rfl) rfl ?_
  obtain ⟨⟨x792, x793, x794, x795⟩, h790, H⟩ := bnd H
  refine WPL.c (runs_call (s := [6]) (t := [6]) (N := 7) (bor := []) fn16 rfl (s16 k 3 x790 0 x792 x793 x794 x795 h790) ⟨rfl, ⟨trivial, .inr ⟨rfl, rfl, rfl⟩⟩, by decide, rfl, trivial⟩ rfl trivial (.ren rfl rfl (.ren rfl rfl .nil)) rfl ⟨trivial, rfl⟩ rfl) rfl ?_
  refine WPL.q (q_mv (v := .tup _) rfl) rfl ?_
  refine WPL.q (q_extract rfl rfl) rfl ?_
  refine WPL.q (q_extract rfl rfl) rfl ?_
  refine WPL.q (q_as (v := .lit (.int _ _)) rfl) rfl ?_
  refine WPL.q (q_as (v := .lit (.int _ _)) rfl) rfl ?_
  refine WPL.nilW ?_
  refine W.now ?_
  refine Then.n ?_
  refine WP.seq ?_
  obtain ⟨x809, H822, H⟩ := bnd H
  refine WP.monoW (Q := fun x E M => x = .normal ∧ E = (Env.none.upd 0 (.lit (.bool x809))) ∧ M = Mem.nil) ?_ ?_
  · clear H
    have H := H822
    clear H822
    refine WP.region ?_
    refine WPL.q (q_mv (v := .lit (.int _ _)) rfl) rfl ?_
    refine WPL.q (q_eql rfl rfl) rfl ?_
    refine WPL.q (q_mv (v := .lit (.bool _)) rfl) rfl ?_
    refine WPL.split (t := 28) (b := (decide (x780 = 0))) rfl (fun hb809 => ?_) (fun hb809 => ?_)
    · replace H := cnt hb809 H
      refine WPL.qg rfl rfl (lb hb809) (q_mv (v := .lit (.int _ _)) rfl) rfl ?_
      refine WPL.qg rfl rfl (lb hb809) (q_eql rfl rfl) rfl ?_
      refine WPL.q (q_pickT (v := .lit (.bool _)) (lb hb809) rfl) rfl ?_
      refine WPL.q (q_mv (v := .lit (.bool _)) rfl) rfl ?_
      refine WPL.split (t := 32) (b := (decide (x784 = 0))) rfl (fun hb810 => ?_) (fun hb810 => ?_)
      · replace H := cnt hb810 H
        refine WPL.qg rfl rfl (lb hb810) (q_mv (v := .ro _ _ _) rfl) rfl ?_
        refine WPL.qg rfl rfl (lb hb810) (q_len_ro sl23 rfl) rfl ?_
        obtain ⟨x812, h812, H⟩ := bnd H
        refine WPL.qg rfl rfl (lb hb810) (q_nm (q_eql rfl rfl) (nm_bool h812)) rfl ?_
        refine WPL.q (q_pickT (v := .lit (.bool _)) (lb hb810) rfl) rfl ?_
        refine WPL.q (q_mv (v := .lit (.bool _)) rfl) rfl ?_
        refine WPL.split (t := 37) (b := x812) rfl (fun hb812 => ?_) (fun hb812 => ?_)
        · replace H := cnt hb812 H
          refine WPL.qg rfl rfl (lb hb812) (q_mv (v := .ro _ _ _) rfl) rfl ?_
          obtain ⟨x814, h814, H⟩ := bnd H
          refine WPL.qg rfl rfl (lb hb812) (q_index_ro sl23 rfl rfl rfl h814) rfl ?_
          refine WPL.qg rfl rfl (lb hb812) (q_load_sc sc5 rfl) rfl ?_
          refine WPL.qg rfl rfl (lb hb812) (q_eql rfl rfl) rfl ?_
          refine WPL.q (q_pickT (v := .lit (.bool _)) (lb hb812) rfl) rfl ?_
          refine WPL.q (q_mv (v := .lit (.bool _)) rfl) rfl ?_
          refine WPL.split (t := 43) (b := (decide (x814 = 5))) rfl (fun hb814 => ?_) (fun hb814 => ?_)
          · replace H := cnt hb814 H
            refine WPL.qg rfl rfl (lb hb814) (q_mv (v := .lit (.int _ _)) rfl) rfl ?_
            refine WPL.qg rfl rfl (lb hb814) (q_eql rfl rfl) rfl ?_
            refine WPL.q (q_pickT (v := .lit (.bool _)) (lb hb814) rfl) rfl ?_
            refine WPL.q (q_mv (v := .lit (.bool _)) rfl) rfl ?_
            refine WPL.split (t := 47) (b := (decide (x792 = 5))) rfl (fun hb815 => ?_) (fun hb815 => ?_)
            · replace H := cnt hb815 H
              refine WPL.qg rfl rfl (lb hb815) (q_mv (v := .lit (.int _ _)) rfl) rfl ?_
              refine WPL.qg rfl rfl (lb hb815) (q_eql rfl rfl) rfl ?_
              refine WPL.q (q_pickT (v := .lit (.bool _)) (lb hb815) rfl) rfl ?_
              refine WPL.q (q_mv (v := .lit (.bool _)) rfl) rfl ?_
              refine WPL.split (t := 51) (b := (decide (x793 = 0))) rfl (fun hb816 => ?_) (fun hb816 => ?_)
              · replace H := cnt hb816 H
                refine WPL.dg rfl rfl (lb hb816) (d_buildSlice (ds := ([49, 50, 51, 52, 53, 54, 55, 56, 57] : List Int)) (R := (Rd.int .u8)) li23 rfl rfl rfl rfl rfl (JoinRows.cons1 Joins.sc rfl (JoinRows.cons1 Joins.sc rfl (JoinRows.cons1 Joins.sc rfl (JoinRows.cons1 Joins.sc rfl (JoinRows.cons1 Joins.sc rfl (JoinRows.cons1 Joins.sc rfl (JoinRows.cons1 Joins.sc rfl (JoinRows.cons1 Joins.sc rfl (JoinRows.cons1 Joins.sc rfl JoinRows.nil))))))))) rfl rfl) rfl ?_
                refine WPL.bytesConst Try.underlying23 Try.underlying5 rfl rfl rfl (wantg rfl rfl (lb hb816)) hnp rfl rfl rfl ?_
                obtain ⟨x819, h817, H⟩ := bnd H
                refine WPL.cg rfl rfl (lb hb816) (runs_call (s := []) (t := []) (N := 8) (bor := []) fn9 rfl (s9 k ([49, 50, 51, 52, 53, 54, 55, 56, 57] : List Int) x819 h817) ⟨rfl, trivial, by decide, rfl, trivial⟩ rfl trivial (.ren rfl rfl .nil) rfl trivial rfl) rfl ?_
                refine WPL.qg rfl rfl (lb hb816) (q_eql rfl rfl) rfl ?_
                refine WPL.q (q_pickT (v := .lit (.bool _)) (lb hb816) rfl) rfl ?_
                refine WPL.q (q_mv (v := .lit (.bool _)) rfl) rfl ?_
                refine WPL.split (t := 57) (b := (decide (x819 = 3421780262))) rfl (fun hb819 => ?_) (fun hb819 => ?_)
                · replace H := cnt hb819 H
                  obtain ⟨x822, h820, H⟩ := bnd H
                  refine WPL.cg rfl rfl (lb hb819) (runs_call (s := []) (t := []) (N := 8) (bor := []) fn7 rfl (s7 k 3 3 x822 h820) ⟨rfl, trivial, by decide, rfl, trivial⟩ rfl trivial (.ren rfl rfl (.ren rfl rfl .nil)) rfl trivial rfl) rfl ?_
                  refine WPL.qg rfl rfl (lb hb819) (q_eql rfl rfl) rfl ?_
                  refine WPL.q (q_pickT (v := .lit (.bool _)) (lb hb819) rfl) rfl ?_
                  refine WPL.q (q_as (v := .lit (.bool _)) rfl) rfl ?_
                  refine WPL.nilW ?_
                  refine W.cv (Cv.weak (E' := (Env.none.upd 0 (.lit (.bool (decide (x822 = 6)))))) (M' := Mem.nil) [] hnp ⟨rfl, trivial, by decide, rfl, trivial⟩ (LeE.upd rfl rfl (LeE.none rfl rfl))) rfl ?_
                  refine W.now ?_
                  have q0 := (Option.some.inj H)
                  subst q0
                  exact ⟨rfl, rfl, rfl⟩
                · replace H := cnf hb819 H
                  refine WPL.skipg (b' := false) rfl rfl (lb hb819) rfl rfl ?_
                  refine WPL.skipg (b' := false) rfl rfl (lb hb819) rfl rfl ?_
                  refine WPL.q (q_pickF (v := .lit (.bool _)) (lb hb819) rfl) rfl ?_
                  refine WPL.q (q_as (v := .lit (.bool _)) rfl) rfl ?_
                  refine WPL.nilW ?_
                  refine W.cv (Cv.weak (E' := (Env.none.upd 0 (.lit (.bool false)))) (M' := Mem.nil) [] hnp ⟨rfl, trivial, by decide, rfl, trivial⟩ (LeE.upd rfl rfl (LeE.none rfl rfl))) rfl ?_
                  refine W.now ?_
                  have q0 := (Option.some.inj H)
                  subst q0
                  exact ⟨rfl, rfl, rfl⟩
              · replace H := cnf hb816 H
                refine WPL.skipg (b' := false) rfl rfl (lb hb816) rfl rfl ?_
                refine WPL.skipg (b' := false) rfl rfl (lb hb816) rfl rfl ?_
                refine WPL.skipg (b' := false) rfl rfl (lb hb816) rfl rfl ?_
                refine WPL.skipg (b' := false) rfl rfl (lb hb816) rfl rfl ?_
                refine WPL.q (q_pickF (v := .lit (.bool _)) (lb hb816) rfl) rfl ?_
                refine WPL.q (q_mv (v := .lit (.bool _)) rfl) rfl ?_
                refine WPL.skipg (b' := false) rfl rfl rfl rfl rfl ?_
                refine WPL.skipg (b' := false) rfl rfl rfl rfl rfl ?_
                refine WPL.q (q_pickF (v := .lit (.bool _)) rfl rfl) rfl ?_
                refine WPL.q (q_as (v := .lit (.bool _)) rfl) rfl ?_
                refine WPL.nilW ?_
                refine W.cv (Cv.weak (E' := (Env.none.upd 0 (.lit (.bool false)))) (M' := Mem.nil) [] hnp ⟨rfl, trivial, by decide, rfl, trivial⟩ (LeE.upd rfl rfl (LeE.none rfl rfl))) rfl ?_
                refine W.now ?_
                have q0 := (Option.some.inj H)
                subst q0
                exact ⟨rfl, rfl, rfl⟩
            · replace H := cnf hb815 H
              refine WPL.skipg (b' := false) rfl rfl (lb hb815) rfl rfl ?_
              refine WPL.skipg (b' := false) rfl rfl (lb hb815) rfl rfl ?_
              refine WPL.q (q_pickF (v := .lit (.bool _)) (lb hb815) rfl) rfl ?_
              refine WPL.q (q_mv (v := .lit (.bool _)) rfl) rfl ?_
              refine WPL.skipg (b' := false) rfl rfl rfl rfl rfl ?_
              refine WPL.skipg (b' := false) rfl rfl rfl rfl rfl ?_
              refine WPL.skipg (b' := false) rfl rfl rfl rfl rfl ?_
              refine WPL.skipg (b' := false) rfl rfl rfl rfl rfl ?_
              refine WPL.q (q_pickF (v := .lit (.bool _)) rfl rfl) rfl ?_
              refine WPL.q (q_mv (v := .lit (.bool _)) rfl) rfl ?_
              refine WPL.skipg (b' := false) rfl rfl rfl rfl rfl ?_
              refine WPL.skipg (b' := false) rfl rfl rfl rfl rfl ?_
              refine WPL.q (q_pickF (v := .lit (.bool _)) rfl rfl) rfl ?_
              refine WPL.q (q_as (v := .lit (.bool _)) rfl) rfl ?_
              refine WPL.nilW ?_
              refine W.cv (Cv.weak (E' := (Env.none.upd 0 (.lit (.bool false)))) (M' := Mem.nil) [] hnp ⟨rfl, trivial, by decide, rfl, trivial⟩ (LeE.upd rfl rfl (LeE.none rfl rfl))) rfl ?_
              refine W.now ?_
              have q0 := (Option.some.inj H)
              subst q0
              exact ⟨rfl, rfl, rfl⟩
          · replace H := cnf hb814 H
            refine WPL.skipg (b' := false) rfl rfl (lb hb814) rfl rfl ?_
            refine WPL.skipg (b' := false) rfl rfl (lb hb814) rfl rfl ?_
            refine WPL.q (q_pickF (v := .lit (.bool _)) (lb hb814) rfl) rfl ?_
            refine WPL.q (q_mv (v := .lit (.bool _)) rfl) rfl ?_
            refine WPL.skipg (b' := false) rfl rfl rfl rfl rfl ?_
            refine WPL.skipg (b' := false) rfl rfl rfl rfl rfl ?_
            refine WPL.q (q_pickF (v := .lit (.bool _)) rfl rfl) rfl ?_
            refine WPL.q (q_mv (v := .lit (.bool _)) rfl) rfl ?_
            refine WPL.skipg (b' := false) rfl rfl rfl rfl rfl ?_
            refine WPL.skipg (b' := false) rfl rfl rfl rfl rfl ?_
            refine WPL.skipg (b' := false) rfl rfl rfl rfl rfl ?_
            refine WPL.skipg (b' := false) rfl rfl rfl rfl rfl ?_
            refine WPL.q (q_pickF (v := .lit (.bool _)) rfl rfl) rfl ?_
            refine WPL.q (q_mv (v := .lit (.bool _)) rfl) rfl ?_
            refine WPL.skipg (b' := false) rfl rfl rfl rfl rfl ?_
            refine WPL.skipg (b' := false) rfl rfl rfl rfl rfl ?_
            refine WPL.q (q_pickF (v := .lit (.bool _)) rfl rfl) rfl ?_
            refine WPL.q (q_as (v := .lit (.bool _)) rfl) rfl ?_
            refine WPL.nilW ?_
            refine W.cv (Cv.weak (E' := (Env.none.upd 0 (.lit (.bool false)))) (M' := Mem.nil) [] hnp ⟨rfl, trivial, by decide, rfl, trivial⟩ (LeE.upd rfl rfl (LeE.none rfl rfl))) rfl ?_
            refine W.now ?_
            have q0 := (Option.some.inj H)
            subst q0
            exact ⟨rfl, rfl, rfl⟩
        · replace H := cnf hb812 H
          refine WPL.skipg (b' := false) rfl rfl (lb hb812) rfl rfl ?_
          refine WPL.skipg (b' := false) rfl rfl (lb hb812) rfl rfl ?_
          refine WPL.skipg (b' := false) rfl rfl (lb hb812) rfl rfl ?_
          refine WPL.skipg (b' := false) rfl rfl (lb hb812) rfl rfl ?_
          refine WPL.q (q_pickF (v := .lit (.bool _)) (lb hb812) rfl) rfl ?_
          refine WPL.q (q_mv (v := .lit (.bool _)) rfl) rfl ?_
          refine WPL.skipg (b' := false) rfl rfl rfl rfl rfl ?_
          refine WPL.skipg (b' := false) rfl rfl rfl rfl rfl ?_
          refine WPL.q (q_pickF (v := .lit (.bool _)) rfl rfl) rfl ?_
          refine WPL.q (q_mv (v := .lit (.bool _)) rfl) rfl ?_
          refine WPL.skipg (b' := false) rfl rfl rfl rfl rfl ?_
          refine WPL.skipg (b' := false) rfl rfl rfl rfl rfl ?_
          refine WPL.q (q_pickF (v := .lit (.bool _)) rfl rfl) rfl ?_
          refine WPL.q (q_mv (v := .lit (.bool _)) rfl) rfl ?_
          refine WPL.skipg (b' := false) rfl rfl rfl rfl rfl ?_
          refine WPL.skipg (b' := false) rfl rfl rfl rfl rfl ?_
          refine WPL.skipg (b' := false) rfl rfl rfl rfl rfl ?_
          refine WPL.skipg (b' := false) rfl rfl rfl rfl rfl ?_
          refine WPL.q (q_pickF (v := .lit (.bool _)) rfl rfl) rfl ?_
          refine WPL.q (q_mv (v := .lit (.bool _)) rfl) rfl ?_
          refine WPL.skipg (b' := false) rfl rfl rfl rfl rfl ?_
          refine WPL.skipg (b' := false) rfl rfl rfl rfl rfl ?_
          refine WPL.q (q_pickF (v := .lit (.bool _)) rfl rfl) rfl ?_
          refine WPL.q (q_as (v := .lit (.bool _)) rfl) rfl ?_
          refine WPL.nilW ?_
          refine W.cv (Cv.weak (E' := (Env.none.upd 0 (.lit (.bool false)))) (M' := Mem.nil) [] hnp ⟨rfl, trivial, by decide, rfl, trivial⟩ (LeE.upd rfl rfl (LeE.none rfl rfl))) rfl ?_
          refine W.now ?_
          have q0 := (Option.some.inj H)
          subst q0
          exact ⟨rfl, rfl, rfl⟩
      · replace H := cnf hb810 H
        refine WPL.skipg (b' := false) rfl rfl (lb hb810) rfl rfl ?_
        refine WPL.skipg (b' := false) rfl rfl (lb hb810) rfl rfl ?_
        refine WPL.skipg (b' := false) rfl rfl (lb hb810) rfl rfl ?_
        refine WPL.q (q_pickF (v := .lit (.bool _)) (lb hb810) rfl) rfl ?_
        refine WPL.q (q_mv (v := .lit (.bool _)) rfl) rfl ?_
        refine WPL.skipg (b' := false) rfl rfl rfl rfl rfl ?_
        refine WPL.skipg (b' := false) rfl rfl rfl rfl rfl ?_
        refine WPL.skipg (b' := false) rfl rfl rfl rfl rfl ?_
        refine WPL.skipg (b' := false) rfl rfl rfl rfl rfl ?_
        refine WPL.q (q_pickF (v := .lit (.bool _)) rfl rfl) rfl ?_
        refine WPL.q (q_mv (v := .lit (.bool _)) rfl) rfl ?_
        refine WPL.skipg (b' := false) rfl rfl rfl rfl rfl ?_
        refine WPL.skipg (b' := false) rfl rfl rfl rfl rfl ?_
        refine WPL.q (q_pickF (v := .lit (.bool _)) rfl rfl) rfl ?_
        refine WPL.q (q_mv (v := .lit (.bool _)) rfl) rfl ?_
        refine WPL.skipg (b' := false) rfl rfl rfl rfl rfl ?_
        refine WPL.skipg (b' := false) rfl rfl rfl rfl rfl ?_
        refine WPL.q (q_pickF (v := .lit (.bool _)) rfl rfl) rfl ?_
        refine WPL.q (q_mv (v := .lit (.bool _)) rfl) rfl ?_
        refine WPL.skipg (b' := false) rfl rfl rfl rfl rfl ?_
        refine WPL.skipg (b' := false) rfl rfl rfl rfl rfl ?_
        refine WPL.skipg (b' := false) rfl rfl rfl rfl rfl ?_
        refine WPL.skipg (b' := false) rfl rfl rfl rfl rfl ?_
        refine WPL.q (q_pickF (v := .lit (.bool _)) rfl rfl) rfl ?_
        refine WPL.q (q_mv (v := .lit (.bool _)) rfl) rfl ?_
        refine WPL.skipg (b' := false) rfl rfl rfl rfl rfl ?_
        refine WPL.skipg (b' := false) rfl rfl rfl rfl rfl ?_
        refine WPL.q (q_pickF (v := .lit (.bool _)) rfl rfl) rfl ?_
        refine WPL.q (q_as (v := .lit (.bool _)) rfl) rfl ?_
        refine WPL.nilW ?_
        refine W.cv (Cv.weak (E' := (Env.none.upd 0 (.lit (.bool false)))) (M' := Mem.nil) [] hnp ⟨rfl, trivial, by decide, rfl, trivial⟩ (LeE.upd rfl rfl (LeE.none rfl rfl))) rfl ?_
        refine W.now ?_
        have q0 := (Option.some.inj H)
        subst q0
        exact ⟨rfl, rfl, rfl⟩
    · replace H := cnf hb809 H
      refine WPL.skipg (b' := false) rfl rfl (lb hb809) rfl rfl ?_
      refine WPL.skipg (b' := false) rfl rfl (lb hb809) rfl rfl ?_
      refine WPL.q (q_pickF (v := .lit (.bool _)) (lb hb809) rfl) rfl ?_
      refine WPL.q (q_mv (v := .lit (.bool _)) rfl) rfl ?_
      refine WPL.skipg (b' := false) rfl rfl rfl rfl rfl ?_
      refine WPL.skipg (b' := false) rfl rfl rfl rfl rfl ?_
      refine WPL.skipg (b' := false) rfl rfl rfl rfl rfl ?_
      refine WPL.q (q_pickF (v := .lit (.bool _)) rfl rfl) rfl ?_
      refine WPL.q (q_mv (v := .lit (.bool _)) rfl) rfl ?_
      refine WPL.skipg (b' := false) rfl rfl rfl rfl rfl ?_
      refine WPL.skipg (b' := false) rfl rfl rfl rfl rfl ?_
      refine WPL.skipg (b' := false) rfl rfl rfl rfl rfl ?_
      refine WPL.skipg (b' := false) rfl rfl rfl rfl rfl ?_
      refine WPL.q (q_pickF (v := .lit (.bool _)) rfl rfl) rfl ?_
      refine WPL.q (q_mv (v := .lit (.bool _)) rfl) rfl ?_
      refine WPL.skipg (b' := false) rfl rfl rfl rfl rfl ?_
      refine WPL.skipg (b' := false) rfl rfl rfl rfl rfl ?_
      refine WPL.q (q_pickF (v := .lit (.bool _)) rfl rfl) rfl ?_
      refine WPL.q (q_mv (v := .lit (.bool _)) rfl) rfl ?_
      refine WPL.skipg (b' := false) rfl rfl rfl rfl rfl ?_
      refine WPL.skipg (b' := false) rfl rfl rfl rfl rfl ?_
      refine WPL.q (q_pickF (v := .lit (.bool _)) rfl rfl) rfl ?_
      refine WPL.q (q_mv (v := .lit (.bool _)) rfl) rfl ?_
      refine WPL.skipg (b' := false) rfl rfl rfl rfl rfl ?_
      refine WPL.skipg (b' := false) rfl rfl rfl rfl rfl ?_
      refine WPL.skipg (b' := false) rfl rfl rfl rfl rfl ?_
      refine WPL.skipg (b' := false) rfl rfl rfl rfl rfl ?_
      refine WPL.q (q_pickF (v := .lit (.bool _)) rfl rfl) rfl ?_
      refine WPL.q (q_mv (v := .lit (.bool _)) rfl) rfl ?_
      refine WPL.skipg (b' := false) rfl rfl rfl rfl rfl ?_
      refine WPL.skipg (b' := false) rfl rfl rfl rfl rfl ?_
      refine WPL.q (q_pickF (v := .lit (.bool _)) rfl rfl) rfl ?_
      refine WPL.q (q_as (v := .lit (.bool _)) rfl) rfl ?_
      refine WPL.nilW ?_
      refine W.cv (Cv.weak (E' := (Env.none.upd 0 (.lit (.bool false)))) (M' := Mem.nil) [] hnp ⟨rfl, trivial, by decide, rfl, trivial⟩ (LeE.upd rfl rfl (LeE.none rfl rfl))) rfl ?_
      refine W.now ?_
      have q0 := (Option.some.inj H)
      subst q0
      exact ⟨rfl, rfl, rfl⟩
  · rintro _ _ _ ⟨rfl, rfl, rfl⟩
    refine W.now ?_
    refine Then.n ?_
    refine WP.retW ?_
    refine W.now ?_
    have q0 := (Option.some.inj H)
    subst q0
    exact ⟨trivial, _, rfl, [], (.lit (.bool x809)), Mem.nil, ⟨rfl, trivial, by decide, rfl, trivial⟩, rfl, rfl, rfl, rfl⟩
set_option maxRecDepth 100000 in
set_option maxHeartbeats 4000000 in
theorem s3 (k : Nat) (x4 : Int) (x5 : Int) (x6 : (List Int)) (x840 : Bool) (H : f3 k x4 x5 x6 = some x840) : Go.Q.Spec Try.prog 3 0 [.lit (.int .u32 x4), .lit (.int .i64 x5), .ro (Rd.slice (Rd.int .u8)) false x6] Mem.nil (fun o M => o = .ret (.lit (.bool x840)) ∧ M = Mem.nil) := by
  unfold f3 at H
  refine Go.Q.Spec.of_bodyR (rs := [.tmp 6]) (nt := 24) Try.func3 rfl rfl (by intro t T h; simp at h) rfl rfl fun cx hnp => ?_
  refine WP.seq ?_
  refine WP.region ?_
  refine WPL.q (q_as (v := .lit (.bool _)) rfl) rfl ?_
  refine WPL.nilW ?_
  refine W.now ?_
  refine Then.n ?_
  refine WP.seq ?_
  obtain ⟨x853, H865, H⟩ := bnd H
  refine WP.monoW (Q := fun x E M => x = .normal ∧ E = (Env.none.upd 6 (.lit (.bool x853))) ∧ M = Mem.nil) ?_ ?_
  · clear H
    have H := H865
    clear H865
    refine WP.region ?_
    refine WPL.q (q_mv (v := .lit (.int _ _)) rfl) rfl ?_
    refine WPL.q (q_mv (v := .lit (.int _ _)) rfl) rfl ?_
    obtain ⟨x855, h853, H⟩ := bnd H
    refine WPL.c (runs_call (s := []) (t := []) (N := 0) (bor := []) fn7 rfl (s7 k x4 x5 x855 h853) ⟨rfl, trivial, by decide, rfl, trivial⟩ rfl trivial (.ren rfl rfl (.ren rfl rfl .nil)) rfl trivial rfl) rfl ?_
    refine WPL.q (q_mv (v := .lit (.int _ _)) rfl) rfl ?_
    refine WPL.q (q_mv (v := .lit (.int _ _)) rfl) rfl ?_
    obtain ⟨x857, h855, H⟩ := bnd H
    refine WPL.c (runs_call (s := []) (t := []) (N := 0) (bor := []) fn8 rfl (s8 k x4 x5 x857 h855) ⟨rfl, trivial, by decide, rfl, trivial⟩ rfl trivial (.ren rfl rfl (.ren rfl rfl .nil)) rfl trivial rfl) rfl ?_
    refine WPL.q (q_eql rfl rfl) rfl ?_
    refine WPL.q (q_mv (v := .lit (.bool _)) rfl) rfl ?_
    refine WPL.split (t := 14) (b := (decide (x855 = x857))) rfl (fun hb857 => ?_) (fun hb857 => ?_)
    · replace H := cnt hb857 H
      refine WPL.qg rfl rfl (lb hb857) (q_mv (v := .ro _ _ _) rfl) rfl ?_
      obtain ⟨x860, h858, H⟩ := bnd H
      refine WPL.cg rfl rfl (lb hb857) (runs_call (s := []) (t := []) (N := 0) (bor := []) fn9 rfl (s9 k x6 x860 h858) ⟨rfl, trivial, by decide, rfl, trivial⟩ rfl trivial (.ren rfl rfl .nil) rfl trivial rfl) rfl ?_
      refine WPL.qg rfl rfl (lb hb857) (q_mv (v := .ro _ _ _) rfl) rfl ?_
      obtain ⟨x862, h860, H⟩ := bnd H
      refine WPL.cg rfl rfl (lb hb857) (runs_call (s := []) (t := []) (N := 0) (bor := []) fn10 rfl (s10 k x6 x862 h860) ⟨rfl, trivial, by decide, rfl, trivial⟩ rfl trivial (.ren rfl rfl .nil) rfl trivial rfl) rfl ?_
      refine WPL.qg rfl rfl (lb hb857) (q_eql rfl rfl) rfl ?_
      refine WPL.q (q_pickT (v := .lit (.bool _)) (lb hb857) rfl) rfl ?_
      refine WPL.q (q_mv (v := .lit (.bool _)) rfl) rfl ?_
      refine WPL.split (t := 21) (b := (decide (x860 = x862))) rfl (fun hb862 => ?_) (fun hb862 => ?_)
      · replace H := cnt hb862 H
        obtain ⟨x865, h863, H⟩ := bnd H
        refine WPL.cg rfl rfl (lb hb862) (runs_call (s := []) (t := []) (N := 0) (bor := []) fn11 rfl (s11 k x865 h863) ⟨rfl, trivial, by decide, rfl, trivial⟩ rfl trivial .nil rfl trivial rfl) rfl ?_
        refine WPL.q (q_pickT (v := .lit (.bool _)) (lb hb862) rfl) rfl ?_
        refine WPL.q (q_as (v := .lit (.bool _)) rfl) rfl ?_
        refine WPL.nilW ?_
        refine W.cv (Cv.weak (E' := (Env.none.upd 6 (.lit (.bool x865)))) (M' := Mem.nil) [] hnp ⟨rfl, trivial, by decide, rfl, trivial⟩ (LeE.upd rfl rfl (LeE.none rfl rfl))) rfl ?_
        refine W.now ?_
        have q0 := (Option.some.inj H)
        subst q0
        exact ⟨rfl, rfl, rfl⟩
      · replace H := cnf hb862 H
        refine WPL.skipg (b' := false) rfl rfl (lb hb862) rfl rfl ?_
        refine WPL.q (q_pickF (v := .lit (.bool _)) (lb hb862) rfl) rfl ?_
        refine WPL.q (q_as (v := .lit (.bool _)) rfl) rfl ?_
        refine WPL.nilW ?_
        refine W.cv (Cv.weak (E' := (Env.none.upd 6 (.lit (.bool false)))) (M' := Mem.nil) [] hnp ⟨rfl, trivial, by decide, rfl, trivial⟩ (LeE.upd rfl rfl (LeE.none rfl rfl))) rfl ?_
        refine W.now ?_
        have q0 := (Option.some.inj H)
        subst q0
        exact ⟨rfl, rfl, rfl⟩
    · replace H := cnf hb857 H
      refine WPL.skipg (b' := false) rfl rfl (lb hb857) rfl rfl ?_
      refine WPL.skipg (b' := false) rfl rfl (lb hb857) rfl rfl ?_
      refine WPL.skipg (b' := false) rfl rfl (lb hb857) rfl rfl ?_
      refine WPL.skipg (b' := false) rfl rfl (lb hb857) rfl rfl ?_
      refine WPL.skipg (b' := false) rfl rfl (lb hb857) rfl rfl ?_
      refine WPL.q (q_pickF (v := .lit (.bool _)) (lb hb857) rfl) rfl ?_
      refine WPL.q (q_mv (v := .lit (.bool _)) rfl) rfl ?_
      refine WPL.skipg (b' := false) rfl rfl rfl rfl rfl ?_
      refine WPL.q (q_pickF (v := .lit (.bool _)) rfl rfl) rfl ?_
      refine WPL.q (q_as (v := .lit (.bool _)) rfl) rfl ?_
      refine WPL.nilW ?_
      refine W.cv (Cv.weak (E' := (Env.none.upd 6 (.lit (.bool false)))) (M' := Mem.nil) [] hnp ⟨rfl, trivial, by decide, rfl, trivial⟩ (LeE.upd rfl rfl (LeE.none rfl rfl))) rfl ?_
      refine W.now ?_
      have q0 := (Option.some.inj H)
      subst q0
      exact ⟨rfl, rfl, rfl⟩
  · rintro _ _ _ ⟨rfl, rfl, rfl⟩
    refine W.now ?_
    refine Then.n ?_
    refine WP.retW ?_
    refine W.now ?_
    have q0 := (Option.some.inj H)
    subst q0
    exact ⟨trivial, _, rfl, [], (.lit (.bool x853)), Mem.nil, ⟨rfl, trivial, by decide, rfl, trivial⟩, rfl, rfl, rfl, rfl⟩
set_option maxRecDepth 100000 in
set_option maxHeartbeats 4000000 in
theorem s34b (k : Nat) (x915 : List Int) (x916 : List Int) (H : f34b k x915 = some x916) : Go.Q.Spec Try.prog 34 0 [.ro (Rd.slice (Rd.int .u8)) false x915] Mem.nil (fun o M => o = .ret (.ro (Rd.slice (Rd.int .u8)) false x916) ∧ M = Mem.nil) := by
  unfold f34b at H
  obtain ⟨h, H⟩ := grd H
  have q0 := Option.some.inj H
  subst q0
  refine Go.Q.Spec.of_bodyR (rs := [.tmp 2]) (nt := 8) Try.func34 rfl rfl (by intro t T h; simp at h) rfl rfl fun cx hnp => ?_
  refine WP.seq ?_
  refine WP.region ?_
  refine WPL.q (q_as (v := .lit _) rfl) rfl ?_
  refine WPL.nilW ?_
  refine W.now ?_
  refine Then.n ?_
  refine WP.seq ?_
  refine WP.seq ?_
  refine WP.region ?_
  refine WPL.q (q_mv (v := .ro _ _ _) rfl) rfl ?_
  refine WPL.eqlNil Try.underlying23 rfl rfl fun nb hnb => ?_
  refine WPL.nilW ?_
  refine W.now ?_
  refine Then.n ?_
  refine WP.cond (t := nb) rfl (fun hb => ?_) (fun hb => ?_)
  · have h0 := hnb hb
    subst h0
    refine WP.seq ?_
    refine WP.region ?_
    refine WPL.q (q_as (v := .lit _) rfl) rfl ?_
    refine WPL.nilW ?_
    refine W.now ?_
    refine Then.n ?_
    refine WP.retW ?_
    refine W.cv (Cv.nilRo (Rd.int .u8) false 2 rfl) rfl ?_
    refine W.now ?_
    refine Then.r ?_
    exact ⟨trivial, _, rfl, [], .ro (Rd.slice (Rd.int .u8)) false [], Mem.nil, ⟨rfl, trivial, by decide, rfl, trivial⟩, rfl, rfl, rfl, rfl⟩
  · refine WP.skipW ?_
    refine W.now ?_
    refine Then.n ?_
    refine WP.seq ?_
    refine WP.region ?_
    refine WPL.d (d_buildSlice (ds := ([] : List Int)) (R := (Rd.int .u8)) li23 rfl rfl rfl rfl rfl JoinRows.nil rfl rfl) rfl ?_
    refine WPL.q (q_mv (v := .ro _ _ _) rfl) rfl ?_
    refine WPL.d (d_append ap23 rfl rfl rfl rfl (src_ro sl23 rfl) h rfl) rfl ?_
    refine WPL.q (q_as (v := .whole _) rfl) rfl ?_
    refine WPL.nilW ?_
    refine W.now ?_
    refine Then.n ?_
    refine WP.retW ?_
    refine W.cv (Cv.frzRow (i := 1) rfl rfl hnp rfl rfl) rfl ?_
    refine W.now ?_
    exact ⟨trivial, _, rfl, [], .ro (Rd.slice (Rd.int .u8)) false x915, Mem.nil, ⟨rfl, trivial, by decide, rfl, trivial⟩, rfl, rfl, rfl, rfl⟩
set_option maxRecDepth 100000 in
set_option maxHeartbeats 4000000 in
theorem s14b (k : Nat) (x914 : (List Int)) (x919 : (List Int)) (H : f14b k x914 = some x919) : Go.Q.Spec Try.prog 14 0 [.ro (Rd.slice (Rd.int .u8)) false x914] Mem.nil (fun o M => o = .ret (.ptr 0 0) ∧ M = (Mem.nil.push (.cells 63 [.ro (Rd.slice (Rd.int .u8)) false x919, .lit (.int .i64 0)]))) := by
  unfold f14b at H
  refine Go.Q.Spec.of_bodyR (rs := [.tmp 2]) (nt := 7) Try.func14 rfl rfl (by intro t T h; simp at h) rfl rfl fun cx hnp => ?_
  refine WP.seq ?_
  refine WP.region ?_
  refine WPL.q (q_as (v := .lit _) rfl) rfl ?_
  refine WPL.nilW ?_
  refine W.now ?_
  refine Then.n ?_
  refine WP.seq ?_
  refine WP.region ?_
  refine WPL.q (q_mv (v := .ro _ _ _) rfl) rfl ?_
  obtain ⟨x921, h919, H⟩ := bnd H
  refine WPL.c (runs_call (s := []) (t := []) (N := 0) (bor := []) fn34 rfl (s34b k x914 x921 h919) ⟨rfl, trivial, by decide, rfl, trivial⟩ rfl trivial (.ren rfl rfl .nil) rfl trivial rfl) rfl ?_
  refine WPL.q (q_build bu63 rfl) rfl ?_
  refine WPL.d (d_box rfl rfl) rfl ?_
  refine WPL.q (q_as (v := .ptr _ _) rfl) rfl ?_
  refine WPL.nilW ?_
  refine W.now ?_
  refine Then.n ?_
  refine WP.retW ?_
  refine W.now ?_
  have q0 := (Option.some.inj H)
  subst q0
  exact ⟨trivial, _, rfl, [0], (.ptr 0 0), (Mem.nil.push (.cells 63 [.ro (Rd.slice (Rd.int .u8)) false x921, .lit (.int .i64 0)])), ⟨rfl, ⟨trivial, .inr ⟨rfl, rfl, rfl⟩⟩, by decide, rfl, trivial⟩, rfl, rfl, rfl, rfl⟩
set_option maxRecDepth 100000 in
set_option maxHeartbeats 4000000 in
theorem s4 (k : Nat) (x868 : (List S34Op)) (x1085 : Bool) (H : f4 k x868 = some x1085) : Go.Q.Spec Try.prog 4 0 [.ro (Rd.slice rdS34Op) false x868] Mem.nil (fun o M => o = .ret (.lit (.bool x1085)) ∧ M = Mem.nil) := by
  unfold f4 at H
  refine Go.Q.Spec.of_bodyR (rs := [.tmp 2]) (nt := 98) Try.func4 rfl rfl (by intro t T h; simp at h) rfl rfl fun cx hnp => ?_
  refine WP.seq ?_
  refine WP.region ?_
  refine WPL.q (q_as (v := .lit (.bool _)) rfl) rfl ?_
  refine WPL.nilW ?_
  refine W.now ?_
  refine Then.n ?_
  refine WP.seq ?_
  refine WP.region ?_
  obtain ⟨_, h1085, H⟩ := bnd H
  refine WPL.c (runs_call (s := []) (t := [0, 1]) (N := 2) (bor := []) fn12 rfl (s12 k h1085) ⟨rfl, trivial, by decide, rfl, trivial⟩ rfl trivial .nil rfl ⟨⟨trivial, rfl⟩, rfl⟩ rfl) rfl ?_
  refine WPL.q (q_as (v := .ptr _ _) rfl) rfl ?_
  refine WPL.nilW ?_
  refine W.now ?_
  refine Then.n ?_
  refine WP.seq ?_
  refine WP.seq ?_
  refine WP.region ?_
  refine WPL.q (q_mv (v := .ptr _ _) rfl) rfl ?_
  refine WPL.q (q_eqlp Try.underlying29 rfl) rfl ?_
  refine WPL.q (q_mv (v := .lit (.bool _)) rfl) rfl ?_
  obtain ⟨x1094, h1092, H⟩ := bnd H
  refine WPL.cg rfl rfl rfl (runs_call (s := []) (t := []) (N := 2) (bor := []) fn11 rfl (s11 k x1094 h1092) ⟨rfl, trivial, by decide, rfl, trivial⟩ rfl trivial .nil rfl trivial rfl) rfl ?_
  refine WPL.qg rfl rfl rfl (q_not rfl) rfl ?_
  refine WPL.q (q_pickF (v := .lit (.bool _)) rfl rfl) rfl ?_
  refine WPL.nilW ?_
  refine W.now ?_
  refine Then.n ?_
  refine WP.cond (t := (!x1094)) rfl (fun hb => ?_) (fun hb => ?_)
  · replace H := cnt hb H
    refine WP.seq ?_
    refine WP.region ?_
    refine WPL.q (q_as (v := .lit (.bool _)) rfl) rfl ?_
    refine WPL.nilW ?_
    refine W.now ?_
    refine Then.n ?_
    refine WP.retW ?_
    refine W.now ?_
    refine Then.r ?_
    have q0 := (Option.some.inj H)
    subst q0
    exact ⟨trivial, _, rfl, [], (.lit (.bool false)), Mem.nil, ⟨rfl, trivial, by decide, rfl, trivial⟩, rfl, rfl, rfl, rfl⟩
  · replace H := cnf hb H
    refine WP.skipW ?_
    refine W.now ?_
    refine Then.n ?_
    refine WP.seq ?_
    refine WP.seq ?_
    refine WP.region ?_
    refine WPL.q (q_as (v := .lit (.int _ _)) rfl) rfl ?_
    refine WPL.nilW ?_
    refine W.now ?_
    refine Then.n ?_
    refine WP.block ?_
    refine WP.cv (Cv.weak (E' := (((Env.none.upd 0 (.ro (Rd.slice rdS34Op) false x868)).upd 3 (.ptr 0 0)).upd 4 (.lit (.int .i64 0)))) (M' := ((Mem.nil.push (.cells 57 [.whole 1, .lit (.int .i64 0)])).push (.row 5 (Rd.int .u8) ([] : List Int)))) [0, 1] hnp ⟨rfl, ⟨⟨trivial, .inr ⟨rfl, rfl, rfl⟩⟩, .inr ⟨rfl, rfl, rfl⟩⟩, by decide, rfl, trivial⟩ (LeE.upd rfl rfl (LeE.upd rfl rfl (LeE.upd rfl rfl (LeE.none rfl rfl))))) ?_
    obtain ⟨⟨x1126, x1127⟩, H1141, H⟩ := bnd H
    refine WP.monoW (Q := fun x E M => x = .exit 0 ∧ E = ((Env.none.upd 0 (.ro (Rd.slice rdS34Op) false x868)).upd 3 (.ptr 0 0)) ∧ M = ((Mem.nil.push (.cells 57 [.whole 1, .lit (.int .i64 x1126)])).push (.row 5 (Rd.int .u8) x1127))) ?_ ?_
    · refine WP.loop (β := Int × Int × (List Int)) (fun n b => f4_l0 k x868 n b.1 b.2.1 b.2.2 = some (x1126, x1127)) (fun b => (((Env.none.upd 0 (.ro (Rd.slice rdS34Op) false x868)).upd 3 (.ptr 0 0)).upd 4 (.lit (.int .i64 b.1)))) (fun b => ((Mem.nil.push (.cells 57 [.whole 1, .lit (.int .i64 b.2.1)])).push (.row 5 (Rd.int .u8) b.2.2))) k (0, 0, ([] : List Int)) H1141 rfl rfl ?_
      rintro n ⟨x1109, x1110, x1111⟩ H
      obtain _ | n := n
      · exact nf rfl H
      rw [f4_l0.eq_2] at H
      show WP _ _ _ _ (((Env.none.upd 0 (.ro (Rd.slice rdS34Op) false x868)).upd 3 (.ptr 0 0)).upd 4 (.lit (.int .i64 x1109))) ((Mem.nil.push (.cells 57 [.whole 1, .lit (.int .i64 x1110)])).push (.row 5 (Rd.int .u8) x1111)) _
      refine WP.seq ?_
      refine WP.seq ?_
      refine WP.region ?_
      refine WPL.q (q_mv (v := .lit (.int _ _)) rfl) rfl ?_
      refine WPL.q (q_mv (v := .ro _ _ _) rfl) rfl ?_
      refine WPL.q (q_len_ro sl28 rfl) rfl ?_
      obtain ⟨x1129, h1129, H⟩ := bnd H
      refine WPL.q (q_nm (q_lss rfl rfl) (nm_bool h1129)) rfl ?_
      refine WPL.nilW ?_
      refine W.now ?_
      refine Then.n ?_
      refine WP.cond (t := x1129) rfl (fun hb => ?_) (fun hb => ?_)
      · replace H := cnt hb H
        refine WP.skipW ?_
        refine W.now ?_
        refine Then.n ?_
        refine WP.seq ?_
        refine WP.block ?_
        refine WP.regionD' 12 [] [] mixed rfl ?_
        refine WPD.take 0 rfl (by kernel_rfl) (q_mv (v := .ptr _ _) rfl) rfl rfl ?_
        refine WPD.take 1 rfl (by kernel_rfl) (q_mv (v := .ro _ _ _) rfl) rfl rfl ?_
        refine WPD.take 2 rfl (by kernel_rfl) (q_mv (v := .lit (.int _ _)) rfl) rfl rfl ?_
        obtain ⟨x1136, h1136, H⟩ := bnd H
        refine WPD.take 3 rfl (by kernel_rfl) (q_index_ro sl28 rfl rfl rfl h1136) rfl rfl ?_
        refine WPD.take 4 rfl (by kernel_rfl) (q_fieldAddr_ro fi34_2 rfl rfl S34Op.p2 (by decide)) rfl rfl ?_
        refine WPD.take 5 rfl (by kernel_rfl) (q_load_sc sc22 rfl) rfl rfl ?_
        refine WPD.take 6 rfl (by kernel_rfl) (q_mv (v := .ro _ _ _) rfl) rfl rfl ?_
        refine WPD.take 7 rfl (by kernel_rfl) (q_mv (v := .lit (.int _ _)) rfl) rfl rfl ?_
        obtain ⟨x1137, h1137, H⟩ := bnd H
        refine WPD.take 8 rfl (by kernel_rfl) (q_index_ro sl28 rfl rfl rfl h1137) rfl rfl ?_
        refine WPD.take 9 rfl (by kernel_rfl) (q_fieldAddr_ro fi34_1 rfl rfl S34Op.p1 (by decide)) rfl rfl ?_
        refine WPD.take 10 rfl (by kernel_rfl) (q_load_sc sc3 rfl) rfl rfl ?_
        obtain ⟨⟨x1139, x1140, x1141⟩, h1137, H⟩ := bnd H
        refine WPD.eff 11 [] [] rfl (by kernel_rfl) (runs_call (s := [0, 1]) (t := [0, 2]) (N := 3) (bor := []) fn13 rfl (s13 k x1136.fV x1137.fN x1110 x1111 x1139 x1140 x1141 h1137) ⟨rfl, ⟨⟨trivial, .inr ⟨rfl, rfl, rfl⟩⟩, .inr ⟨rfl, rfl, rfl⟩⟩, by decide, rfl, trivial⟩ rfl trivial (.ren rfl rfl (.ren rfl rfl (.ren rfl rfl .nil))) rfl ⟨⟨trivial, rfl⟩, rfl⟩ rfl) rfl rfl ?_
        refine WPD.doneW (by kernel_rfl) ?_
        refine W.now ?_
        refine InBlock.n ?_
        refine Then.n ?_
        refine WP.region ?_
        refine WPL.q (q_mv (v := .lit (.int _ _)) rfl) rfl ?_
        refine WPL.q (q_add rfl rfl) rfl ?_
        refine WPL.q (q_as (v := .lit (.int _ _)) rfl) rfl ?_
        refine WPL.nilW ?_
        refine W.cv (Cv.weak (E' := (((Env.none.upd 0 (.ro (Rd.slice rdS34Op) false x868)).upd 3 (.ptr 0 0)).upd 4 (.lit (.int .i64 (IntKind.wrap .i64 (x1109 + 1)))))) (M' := ((Mem.nil.push (.cells 57 [.whole 1, .lit (.int .i64 x1140)])).push (.row 5 (Rd.int .u8) x1141))) [0, 2] hnp ⟨rfl, ⟨⟨trivial, .inr ⟨rfl, rfl, rfl⟩⟩, .inr ⟨rfl, rfl, rfl⟩⟩, by decide, rfl, trivial⟩ (LeE.upd rfl rfl (LeE.upd rfl rfl (LeE.upd rfl rfl (LeE.none rfl rfl))))) rfl ?_
        refine W.now ?_
        exact Then.n ⟨n, ((IntKind.wrap .i64 (x1109 + 1)), x1140, x1141), Nat.lt_succ_self n, H, rfl, rfl⟩
      · replace H := cnf hb H
        refine WP.exitW ?_
        refine W.cv (Cv.weak (E' := ((Env.none.upd 0 (.ro (Rd.slice rdS34Op) false x868)).upd 3 (.ptr 0 0))) (M' := ((Mem.nil.push (.cells 57 [.whole 1, .lit (.int .i64 x1110)])).push (.row 5 (Rd.int .u8) x1111))) [0, 1] hnp ⟨rfl, ⟨⟨trivial, .inr ⟨rfl, rfl, rfl⟩⟩, .inr ⟨rfl, rfl, rfl⟩⟩, by decide, rfl, trivial⟩ (LeE.upd rfl rfl (LeE.upd rfl rfl (LeE.none rfl rfl)))) rfl ?_
        refine W.now ?_
        refine Then.x ?_
        refine Then.x ?_
        have q0 := (Prod.mk.inj (Option.some.inj H)).1
        have q1 := (Prod.mk.inj (Option.some.inj H)).2
        subst q0
        subst q1
        exact ⟨rfl, rfl, rfl⟩
    · rintro _ _ _ ⟨rfl, rfl, rfl⟩
      refine W.now ?_
      refine InBlock.x0 ?_
      refine Then.n ?_
      refine WP.seq ?_
      refine WP.region ?_
      refine WPL.q (q_mv (v := .ptr _ _) rfl) rfl ?_
      obtain ⟨x1144, h1142, H⟩ := bnd H
      refine WPL.c (runs_call (s := [0, 1]) (t := [0, 2]) (N := 3) (bor := []) fn15 rfl (s15 k x1126 x1127 x1144 h1142) ⟨rfl, ⟨⟨trivial, .inr ⟨rfl, rfl, rfl⟩⟩, .inr ⟨rfl, rfl, rfl⟩⟩, by decide, rfl, trivial⟩ rfl trivial (.ren rfl rfl .nil) rfl ⟨⟨trivial, rfl⟩, rfl⟩ rfl) rfl ?_
      obtain ⟨x1146, h1144, H⟩ := bnd H
      refine WPL.c (runs_call (s := []) (t := [3]) (N := 4) (bor := []) fn14 rfl (s14b k x1144 x1146 h1144) ⟨rfl, trivial, by decide, rfl, trivial⟩ rfl trivial (.ren rfl rfl .nil) rfl ⟨trivial, rfl⟩ rfl) rfl ?_
      refine WPL.q (q_as (v := .ptr _ _) rfl) rfl ?_
      refine WPL.nilW ?_
      refine W.now ?_
      refine Then.n ?_
      refine WP.seq ?_
      refine WP.seq ?_
      refine WP.region ?_
      refine WPL.q (q_mv (v := .ptr _ _) rfl) rfl ?_
      refine WPL.q (q_eqlp Try.underlying35 rfl) rfl ?_
      refine WPL.nilW ?_
      refine W.now ?_
      refine Then.n ?_
      refine WP.condF rfl ?_
      refine WP.skipW ?_
      refine W.now ?_
      refine Then.n ?_
      refine WP.seq ?_
      refine WP.seq ?_
      refine WP.region ?_
      refine WPL.q (q_as (v := .lit (.int _ _)) rfl) rfl ?_
      refine WPL.nilW ?_
      refine W.now ?_
      refine Then.n ?_
      refine WP.block ?_
      refine WP.cv (Cv.weak (E' := (((Env.none.upd 0 (.ro (Rd.slice rdS34Op) false x868)).upd 5 (.ptr 0 0)).upd 6 (.lit (.int .i64 0)))) (M' := (Mem.nil.push (.cells 63 [.ro (Rd.slice (Rd.int .u8)) false x1146, .lit (.int .i64 0)]))) [3] hnp ⟨rfl, ⟨trivial, .inr ⟨rfl, rfl, rfl⟩⟩, by decide, rfl, trivial⟩ (LeE.upd rfl rfl (LeE.upd rfl rfl (LeE.upd rfl rfl (LeE.none rfl rfl))))) ?_
      obtain ⟨y1381, H1379, H⟩ := bnd H
      refine WP.monoW (Q := fun x E M => match (generalizing := false) y1381 with | (Sum.inl _) => x = .ret ∧ E = (Env.none.upd 2 (.lit (.bool false))) ∧ M = Mem.nil | (Sum.inr (x1302, x1303)) => x = .exit 2 ∧ E = (Env.none.upd 5 (.ptr 0 0)) ∧ M = (Mem.nil.push (.cells 63 [.ro (Rd.slice (Rd.int .u8)) false x1302, .lit (.int .i64 x1303)]))) ?_ ?_
      · refine WP.loop (β := Int × (List Int) × Int) (fun n b => f4_l1 k x868 n b.1 b.2.1 b.2.2 = some y1381) (fun b => (((Env.none.upd 0 (.ro (Rd.slice rdS34Op) false x868)).upd 5 (.ptr 0 0)).upd 6 (.lit (.int .i64 b.1)))) (fun b => (Mem.nil.push (.cells 63 [.ro (Rd.slice (Rd.int .u8)) false b.2.1, .lit (.int .i64 b.2.2)]))) k (0, x1146, 0) H1379 rfl rfl ?_
        rintro n ⟨x1223, x1224, x1225⟩ H
        obtain _ | n := n
        · exact nf rfl H
        rw [f4_l1.eq_2] at H
        show WP _ _ _ _ (((Env.none.upd 0 (.ro (Rd.slice rdS34Op) false x868)).upd 5 (.ptr 0 0)).upd 6 (.lit (.int .i64 x1223))) (Mem.nil.push (.cells 63 [.ro (Rd.slice (Rd.int .u8)) false x1224, .lit (.int .i64 x1225)])) _
        refine WP.seq ?_
        refine WP.seq ?_
        refine WP.region ?_
        refine WPL.q (q_mv (v := .lit (.int _ _)) rfl) rfl ?_
        refine WPL.q (q_mv (v := .ro _ _ _) rfl) rfl ?_
        refine WPL.q (q_len_ro sl28 rfl) rfl ?_
        obtain ⟨x1305, h1305, H⟩ := bnd H
        refine WPL.q (q_nm (q_lss rfl rfl) (nm_bool h1305)) rfl ?_
        refine WPL.nilW ?_
        refine W.now ?_
        refine Then.n ?_
        refine WP.cond (t := x1305) rfl (fun hb => ?_) (fun hb => ?_)
        · replace H := cnt hb H
          refine WP.skipW ?_
          refine W.now ?_
          refine Then.n ?_
          refine WP.seq ?_
          obtain ⟨y1379, H1377, H⟩ := bnd H
          refine WP.monoW (Q := fun x E M => match (generalizing := false) y1379 with | (Sum.inl _) => x = .ret ∧ E = (Env.none.upd 2 (.lit (.bool false))) ∧ M = Mem.nil | (Sum.inr (x1341, x1342)) => x = .normal ∧ E = (((Env.none.upd 0 (.ro (Rd.slice rdS34Op) false x868)).upd 5 (.ptr 0 0)).upd 6 (.lit (.int .i64 x1223))) ∧ M = (Mem.nil.push (.cells 63 [.ro (Rd.slice (Rd.int .u8)) false x1341, .lit (.int .i64 x1342)]))) ?_ ?_
          · clear H
            have H := H1377
            clear H1377
            refine WP.block ?_
            refine WP.seq ?_
            refine WP.region ?_
            refine WPL.q (q_mv (v := .ro _ _ _) rfl) rfl ?_
            refine WPL.q (q_mv (v := .lit (.int _ _)) rfl) rfl ?_
            obtain ⟨x1343, h1343, H⟩ := bnd H
            refine WPL.q (q_index_ro sl28 rfl rfl rfl h1343) rfl ?_
            refine WPL.q (q_fieldAddr_ro fi34_1 rfl rfl S34Op.p1 (by decide)) rfl ?_
            refine WPL.q (q_load_sc sc3 rfl) rfl ?_
            refine WPL.q (q_as (v := .lit (.int _ _)) rfl) rfl ?_
            refine WPL.nilW ?_
            refine W.now ?_
            refine Then.n ?_
            refine WP.seq ?_
            refine WP.region ?_
            refine WPL.q (q_mv (v := .ptr _ _) rfl) rfl ?_
            refine WPL.q (q_mv (v := .lit (.int _ _)) rfl) rfl ?_
            obtain ⟨⟨x1345, x1346, x1347, x1348⟩, h1343, H⟩ := bnd H
            refine WPL.c (runs_call (s := [0]) (t := [0]) (N := 1) (bor := []) fn16 rfl (s16 k x1343.fN x1224 x1225 x1345 x1346 x1347 x1348 h1343) ⟨rfl, ⟨trivial, .inr ⟨rfl, rfl, rfl⟩⟩, by decide, rfl, trivial⟩ rfl trivial (.ren rfl rfl (.ren rfl rfl .nil)) rfl ⟨trivial, rfl⟩ rfl) rfl ?_
            refine WPL.q (q_mv (v := .tup _) rfl) rfl ?_
            refine WPL.q (q_extract rfl rfl) rfl ?_
            refine WPL.q (q_extract rfl rfl) rfl ?_
            refine WPL.q (q_as (v := .lit (.int _ _)) rfl) rfl ?_
            refine WPL.q (q_as (v := .lit (.int _ _)) rfl) rfl ?_
            refine WPL.nilW ?_
            refine W.now ?_
            refine Then.n ?_
            refine WP.seq ?_
            refine WP.seq ?_
            obtain ⟨x1354, H1355, H⟩ := bnd H
            refine WP.monoW (Q := fun x E M => x = .normal ∧ E = (((((((Env.none.upd 0 (.ro (Rd.slice rdS34Op) false x868)).upd 5 (.ptr 0 0)).upd 6 (.lit (.int .i64 x1223))).upd 7 (.lit (.int .i64 x1343.fN))).upd 8 (.lit (.int .u32 x1345))).upd 9 (.lit (.int .i64 x1346))).upd 63 (.lit (.bool x1354))) ∧ M = (Mem.nil.push (.cells 63 [.ro (Rd.slice (Rd.int .u8)) false x1347, .lit (.int .i64 x1348)]))) ?_ ?_
            · clear H
              have H := H1355
              clear H1355
              refine WP.region ?_
              refine WPL.q (q_mv (v := .lit (.int _ _)) rfl) rfl ?_
              refine WPL.q (q_lss rfl rfl) rfl ?_
              refine WPL.q (q_mv (v := .lit (.bool _)) rfl) rfl ?_
              refine WPL.split (t := 60) (b := (decide (x1343.fN < 0))) rfl (fun hb1354 => ?_) (fun hb1354 => ?_)
              · replace H := cnt hb1354 H
                refine WPL.skipg (b' := true) rfl rfl (lb hb1354) rfl rfl ?_
                refine WPL.skipg (b' := true) rfl rfl (lb hb1354) rfl rfl ?_
                refine WPL.q (q_pickT (v := .lit (.bool _)) (lb hb1354) rfl) rfl ?_
                refine WPL.nilW ?_
                refine W.cv (Cv.weak (E' := (((((((Env.none.upd 0 (.ro (Rd.slice rdS34Op) false x868)).upd 5 (.ptr 0 0)).upd 6 (.lit (.int .i64 x1223))).upd 7 (.lit (.int .i64 x1343.fN))).upd 8 (.lit (.int .u32 x1345))).upd 9 (.lit (.int .i64 x1346))).upd 63 (.lit (.bool true)))) (M' := (Mem.nil.push (.cells 63 [.ro (Rd.slice (Rd.int .u8)) false x1347, .lit (.int .i64 x1348)]))) [0] hnp ⟨rfl, ⟨trivial, .inr ⟨rfl, rfl, rfl⟩⟩, by decide, rfl, trivial⟩ (LeE.upd rfl rfl (LeE.upd rfl rfl (LeE.upd rfl rfl (LeE.upd rfl rfl (LeE.upd rfl rfl (LeE.upd rfl rfl (LeE.upd rfl rfl (LeE.none rfl rfl))))))))) rfl ?_
                refine W.now ?_
                have q0 := (Option.some.inj H)
                subst q0
                exact ⟨rfl, rfl, rfl⟩
              · replace H := cnf hb1354 H
                refine WPL.qg rfl rfl (lb hb1354) (q_mv (v := .lit (.int _ _)) rfl) rfl ?_
                refine WPL.qg rfl rfl (lb hb1354) (q_gtr rfl rfl) rfl ?_
                refine WPL.q (q_pickF (v := .lit (.bool _)) (lb hb1354) rfl) rfl ?_
                refine WPL.nilW ?_
                refine W.cv (Cv.weak (E' := (((((((Env.none.upd 0 (.ro (Rd.slice rdS34Op) false x868)).upd 5 (.ptr 0 0)).upd 6 (.lit (.int .i64 x1223))).upd 7 (.lit (.int .i64 x1343.fN))).upd 8 (.lit (.int .u32 x1345))).upd 9 (.lit (.int .i64 x1346))).upd 63 (.lit (.bool (decide (32 < x1343.fN)))))) (M' := (Mem.nil.push (.cells 63 [.ro (Rd.slice (Rd.int .u8)) false x1347, .lit (.int .i64 x1348)]))) [0] hnp ⟨rfl, ⟨trivial, .inr ⟨rfl, rfl, rfl⟩⟩, by decide, rfl, trivial⟩ (LeE.upd rfl rfl (LeE.upd rfl rfl (LeE.upd rfl rfl (LeE.upd rfl rfl (LeE.upd rfl rfl (LeE.upd rfl rfl (LeE.upd rfl rfl (LeE.none rfl rfl))))))))) rfl ?_
                refine W.now ?_
                have q0 := (Option.some.inj H)
                subst q0
                exact ⟨rfl, rfl, rfl⟩
            · rintro _ _ _ ⟨rfl, rfl, rfl⟩
              refine W.now ?_
              refine Then.n ?_
              refine WP.cond (t := x1354) rfl (fun hb => ?_) (fun hb => ?_)
              · replace H := cnt hb H
                refine WP.seq ?_
                refine WP.seq ?_
                refine WP.region ?_
                refine WPL.q (q_mv (v := .lit (.int _ _)) rfl) rfl ?_
                refine WPL.q (q_neq rfl rfl) rfl ?_
                refine WPL.nilW ?_
                refine W.now ?_
                refine Then.n ?_
                refine WP.cond (t := (!decide (x1346 = 1))) rfl (fun hb => ?_) (fun hb => ?_)
                · replace H := cnt hb H
                  refine WP.seq ?_
                  refine WP.region ?_
                  refine WPL.q (q_as (v := .lit (.bool _)) rfl) rfl ?_
                  refine WPL.nilW ?_
                  refine W.now ?_
                  refine Then.n ?_
                  refine WP.retW ?_
                  refine W.cv (Cv.weak (E' := (Env.none.upd 2 (.lit (.bool false)))) (M' := Mem.nil) [] hnp ⟨rfl, trivial, by decide, rfl, trivial⟩ (LeE.upd rfl rfl (LeE.none rfl rfl))) rfl ?_
                  refine W.now ?_
                  refine Then.r ?_
                  refine Then.r ?_
                  refine InBlock.r ?_
                  have q0 := Option.some.inj H
                  subst q0
                  exact ⟨rfl, rfl, rfl⟩
                · replace H := cnf hb H
                  refine WP.skipW ?_
                  refine W.now ?_
                  refine Then.n ?_
                  refine WP.exitW ?_
                  refine W.cv (Cv.weak (E' := (((Env.none.upd 0 (.ro (Rd.slice rdS34Op) false x868)).upd 5 (.ptr 0 0)).upd 6 (.lit (.int .i64 x1223)))) (M' := (Mem.nil.push (.cells 63 [.ro (Rd.slice (Rd.int .u8)) false x1347, .lit (.int .i64 x1348)]))) [0] hnp ⟨rfl, ⟨trivial, .inr ⟨rfl, rfl, rfl⟩⟩, by decide, rfl, trivial⟩ (LeE.upd rfl rfl (LeE.upd rfl rfl (LeE.upd rfl rfl (LeE.none rfl rfl))))) rfl ?_
                  refine W.now ?_
                  refine Then.x ?_
                  refine InBlock.x0 ?_
                  have q0 := Option.some.inj H
                  subst q0
                  exact ⟨rfl, rfl, rfl⟩
              · replace H := cnf hb H
                refine WP.skipW ?_
                refine W.now ?_
                refine Then.n ?_
                refine WP.seq ?_
                refine WP.region ?_
                refine WPL.q (q_mv (v := .ro _ _ _) rfl) rfl ?_
                refine WPL.q (q_mv (v := .lit (.int _ _)) rfl) rfl ?_
                obtain ⟨x1357, h1357, H⟩ := bnd H
                refine WPL.q (q_index_ro sl28 rfl rfl rfl h1357) rfl ?_
                refine WPL.q (q_fieldAddr_ro fi34_2 rfl rfl S34Op.p2 (by decide)) rfl ?_
                refine WPL.q (q_load_sc sc22 rfl) rfl ?_
                refine WPL.q (q_as (v := .lit (.int _ _)) rfl) rfl ?_
                refine WPL.nilW ?_
                refine W.now ?_
                refine Then.n ?_
                refine WP.seq ?_
                obtain ⟨x1360, H1362, H⟩ := bnd H
                refine WP.monoW (Q := fun x E M => x = .normal ∧ E = (((((((Env.none.upd 0 (.ro (Rd.slice rdS34Op) false x868)).upd 5 (.ptr 0 0)).upd 6 (.lit (.int .i64 x1223))).upd 7 (.lit (.int .i64 x1343.fN))).upd 8 (.lit (.int .u32 x1345))).upd 9 (.lit (.int .i64 x1346))).upd 10 (.lit (.int .u32 x1360))) ∧ M = (Mem.nil.push (.cells 63 [.ro (Rd.slice (Rd.int .u8)) false x1347, .lit (.int .i64 x1348)]))) ?_ ?_
                · clear H
                  have H := H1362
                  clear H1362
                  refine WP.seq ?_
                  refine WP.region ?_
                  refine WPL.q (q_mv (v := .lit (.int _ _)) rfl) rfl ?_
                  refine WPL.q (q_lss rfl rfl) rfl ?_
                  refine WPL.nilW ?_
                  refine W.now ?_
                  refine Then.n ?_
                  refine WP.cond (t := (decide (x1343.fN < 32))) rfl (fun hb => ?_) (fun hb => ?_)
                  · replace H := cnt hb H
                    refine WP.region ?_
                    refine WPL.q (q_mv (v := .lit (.int _ _)) rfl) rfl ?_
                    refine WPL.q (q_mv (v := .lit (.int _ _)) rfl) rfl ?_
                    refine WPL.q (q_conv Try.underlying3 Try.underlying40 rfl) rfl ?_
                    obtain ⟨h1360, H⟩ := grd H
                    refine WPL.q (q_shl rfl rfl h1360) rfl ?_
                    obtain ⟨x1362, h1362, H⟩ := bnd H
                    refine WPL.q (q_nm (q_sub rfl rfl) (nm_int h1362)) rfl ?_
                    refine WPL.q (q_and rfl rfl) rfl ?_
                    refine WPL.q (q_as (v := .lit (.int _ _)) rfl) rfl ?_
                    refine WPL.nilW ?_
                    refine W.cv (Cv.weak (E' := (((((((Env.none.upd 0 (.ro (Rd.slice rdS34Op) false x868)).upd 5 (.ptr 0 0)).upd 6 (.lit (.int .i64 x1223))).upd 7 (.lit (.int .i64 x1343.fN))).upd 8 (.lit (.int .u32 x1345))).upd 9 (.lit (.int .i64 x1346))).upd 10 (.lit (.int .u32 (bits .and .u32 x1357.fV x1362))))) (M' := (Mem.nil.push (.cells 63 [.ro (Rd.slice (Rd.int .u8)) false x1347, .lit (.int .i64 x1348)]))) [0] hnp ⟨rfl, ⟨trivial, .inr ⟨rfl, rfl, rfl⟩⟩, by decide, rfl, trivial⟩ (LeE.upd rfl rfl (LeE.upd rfl rfl (LeE.upd rfl rfl (LeE.upd rfl rfl (LeE.upd rfl rfl (LeE.upd rfl rfl (LeE.upd rfl rfl (LeE.none rfl rfl))))))))) rfl ?_
                    refine W.now ?_
                    have q0 := (Option.some.inj H)
                    subst q0
                    exact ⟨rfl, rfl, rfl⟩
                  · replace H := cnf hb H
                    refine WP.skipW ?_
                    refine W.cv (Cv.weak (E' := (((((((Env.none.upd 0 (.ro (Rd.slice rdS34Op) false x868)).upd 5 (.ptr 0 0)).upd 6 (.lit (.int .i64 x1223))).upd 7 (.lit (.int .i64 x1343.fN))).upd 8 (.lit (.int .u32 x1345))).upd 9 (.lit (.int .i64 x1346))).upd 10 (.lit (.int .u32 x1357.fV)))) (M' := (Mem.nil.push (.cells 63 [.ro (Rd.slice (Rd.int .u8)) false x1347, .lit (.int .i64 x1348)]))) [0] hnp ⟨rfl, ⟨trivial, .inr ⟨rfl, rfl, rfl⟩⟩, by decide, rfl, trivial⟩ (LeE.upd rfl rfl (LeE.upd rfl rfl (LeE.upd rfl rfl (LeE.upd rfl rfl (LeE.upd rfl rfl (LeE.upd rfl rfl (LeE.upd rfl rfl (LeE.none rfl rfl))))))))) rfl ?_
                    refine W.now ?_
                    have q0 := (Option.some.inj H)
                    subst q0
                    exact ⟨rfl, rfl, rfl⟩
                · rintro _ _ _ ⟨rfl, rfl, rfl⟩
                  refine W.now ?_
                  refine Then.n ?_
                  refine WP.seq ?_
                  obtain ⟨x1370, H1376, H⟩ := bnd H
                  refine WP.monoW (Q := fun x E M => x = .normal ∧ E = ((((Env.none.upd 0 (.ro (Rd.slice rdS34Op) false x868)).upd 5 (.ptr 0 0)).upd 6 (.lit (.int .i64 x1223))).upd 94 (.lit (.bool x1370))) ∧ M = (Mem.nil.push (.cells 63 [.ro (Rd.slice (Rd.int .u8)) false x1347, .lit (.int .i64 x1348)]))) ?_ ?_
                  · clear H
                    have H := H1376
                    clear H1376
                    refine WP.region ?_
                    refine WPL.q (q_mv (v := .lit (.int _ _)) rfl) rfl ?_
                    refine WPL.q (q_neq rfl rfl) rfl ?_
                    refine WPL.q (q_mv (v := .lit (.bool _)) rfl) rfl ?_
                    refine WPL.split (t := 81) (b := (!decide (x1346 = 0))) rfl (fun hb1370 => ?_) (fun hb1370 => ?_)
                    · replace H := cnt hb1370 H
                      refine WPL.skipg (b' := true) rfl rfl (lb hb1370) rfl rfl ?_
                      refine WPL.skipg (b' := true) rfl rfl (lb hb1370) rfl rfl ?_
                      refine WPL.skipg (b' := true) rfl rfl (lb hb1370) rfl rfl ?_
                      refine WPL.q (q_pickT (v := .lit (.bool _)) (lb hb1370) rfl) rfl ?_
                      refine WPL.q (q_mv (v := .lit (.bool _)) rfl) rfl ?_
                      refine WPL.skipg (b' := true) rfl rfl rfl rfl rfl ?_
                      refine WPL.skipg (b' := true) rfl rfl rfl rfl rfl ?_
                      refine WPL.skipg (b' := true) rfl rfl rfl rfl rfl ?_
                      refine WPL.skipg (b' := true) rfl rfl rfl rfl rfl ?_
                      refine WPL.skipg (b' := true) rfl rfl rfl rfl rfl ?_
                      refine WPL.skipg (b' := true) rfl rfl rfl rfl rfl ?_
                      refine WPL.skipg (b' := true) rfl rfl rfl rfl rfl ?_
                      refine WPL.q (q_pickT (v := .lit (.bool _)) rfl rfl) rfl ?_
                      refine WPL.nilW ?_
                      refine W.cv (Cv.weak (E' := ((((Env.none.upd 0 (.ro (Rd.slice rdS34Op) false x868)).upd 5 (.ptr 0 0)).upd 6 (.lit (.int .i64 x1223))).upd 94 (.lit (.bool true)))) (M' := (Mem.nil.push (.cells 63 [.ro (Rd.slice (Rd.int .u8)) false x1347, .lit (.int .i64 x1348)]))) [0] hnp ⟨rfl, ⟨trivial, .inr ⟨rfl, rfl, rfl⟩⟩, by decide, rfl, trivial⟩ (LeE.upd rfl rfl (LeE.upd rfl rfl (LeE.upd rfl rfl (LeE.upd rfl rfl (LeE.none rfl rfl)))))) rfl ?_
                      refine W.now ?_
                      have q0 := (Option.some.inj H)
                      subst q0
                      exact ⟨rfl, rfl, rfl⟩
                    · replace H := cnf hb1370 H
                      refine WPL.qg rfl rfl (lb hb1370) (q_mv (v := .lit (.int _ _)) rfl) rfl ?_
                      refine WPL.qg rfl rfl (lb hb1370) (q_mv (v := .lit (.int _ _)) rfl) rfl ?_
                      refine WPL.qg rfl rfl (lb hb1370) (q_neq rfl rfl) rfl ?_
                      refine WPL.q (q_pickF (v := .lit (.bool _)) (lb hb1370) rfl) rfl ?_
                      refine WPL.q (q_mv (v := .lit (.bool _)) rfl) rfl ?_
                      refine WPL.split (t := 86) (b := (!decide (x1345 = x1360))) rfl (fun hb1371 => ?_) (fun hb1371 => ?_)
                      · replace H := cnt hb1371 H
                        refine WPL.skipg (b' := true) rfl rfl (lb hb1371) rfl rfl ?_
                        refine WPL.skipg (b' := true) rfl rfl (lb hb1371) rfl rfl ?_
                        refine WPL.skipg (b' := true) rfl rfl (lb hb1371) rfl rfl ?_
                        refine WPL.skipg (b' := true) rfl rfl (lb hb1371) rfl rfl ?_
                        refine WPL.skipg (b' := true) rfl rfl (lb hb1371) rfl rfl ?_
                        refine WPL.skipg (b' := true) rfl rfl (lb hb1371) rfl rfl ?_
                        refine WPL.skipg (b' := true) rfl rfl (lb hb1371) rfl rfl ?_
                        refine WPL.q (q_pickT (v := .lit (.bool _)) (lb hb1371) rfl) rfl ?_
                        refine WPL.nilW ?_
                        refine W.cv (Cv.weak (E' := ((((Env.none.upd 0 (.ro (Rd.slice rdS34Op) false x868)).upd 5 (.ptr 0 0)).upd 6 (.lit (.int .i64 x1223))).upd 94 (.lit (.bool true)))) (M' := (Mem.nil.push (.cells 63 [.ro (Rd.slice (Rd.int .u8)) false x1347, .lit (.int .i64 x1348)]))) [0] hnp ⟨rfl, ⟨trivial, .inr ⟨rfl, rfl, rfl⟩⟩, by decide, rfl, trivial⟩ (LeE.upd rfl rfl (LeE.upd rfl rfl (LeE.upd rfl rfl (LeE.upd rfl rfl (LeE.none rfl rfl)))))) rfl ?_
                        refine W.now ?_
                        have q0 := (Option.some.inj H)
                        subst q0
                        exact ⟨rfl, rfl, rfl⟩
                      · replace H := cnf hb1371 H
                        refine WPL.qg rfl rfl (lb hb1371) (q_mv (v := .lit (.int _ _)) rfl) rfl ?_
                        refine WPL.qg rfl rfl (lb hb1371) (q_mv (v := .lit (.int _ _)) rfl) rfl ?_
                        obtain ⟨x1374, h1372, H⟩ := bnd H
                        refine WPL.cg rfl rfl (lb hb1371) (runs_call (s := []) (t := []) (N := 1) (bor := []) fn7 rfl (s7 k x1345 x1343.fN x1374 h1372) ⟨rfl, trivial, by decide, rfl, trivial⟩ rfl trivial (.ren rfl rfl (.ren rfl rfl .nil)) rfl trivial rfl) rfl ?_
                        refine WPL.qg rfl rfl (lb hb1371) (q_mv (v := .lit (.int _ _)) rfl) rfl ?_
                        obtain ⟨x1376, h1374, H⟩ := bnd H
                        refine WPL.cg rfl rfl (lb hb1371) (runs_call (s := []) (t := []) (N := 1) (bor := []) fn7 rfl (s7 k x1374 x1343.fN x1376 h1374) ⟨rfl, trivial, by decide, rfl, trivial⟩ rfl trivial (.ren rfl rfl (.ren rfl rfl .nil)) rfl trivial rfl) rfl ?_
                        refine WPL.qg rfl rfl (lb hb1371) (q_mv (v := .lit (.int _ _)) rfl) rfl ?_
                        refine WPL.qg rfl rfl (lb hb1371) (q_neq rfl rfl) rfl ?_
                        refine WPL.q (q_pickF (v := .lit (.bool _)) (lb hb1371) rfl) rfl ?_
                        refine WPL.nilW ?_
                        refine W.cv (Cv.weak (E' := ((((Env.none.upd 0 (.ro (Rd.slice rdS34Op) false x868)).upd 5 (.ptr 0 0)).upd 6 (.lit (.int .i64 x1223))).upd 94 (.lit (.bool (!decide (x1376 = x1345)))))) (M' := (Mem.nil.push (.cells 63 [.ro (Rd.slice (Rd.int .u8)) false x1347, .lit (.int .i64 x1348)]))) [0] hnp ⟨rfl, ⟨trivial, .inr ⟨rfl, rfl, rfl⟩⟩, by decide, rfl, trivial⟩ (LeE.upd rfl rfl (LeE.upd rfl rfl (LeE.upd rfl rfl (LeE.upd rfl rfl (LeE.none rfl rfl)))))) rfl ?_
                        refine W.now ?_
                        have q0 := (Option.some.inj H)
                        subst q0
                        exact ⟨rfl, rfl, rfl⟩
                  · rintro _ _ _ ⟨rfl, rfl, rfl⟩
                    refine W.now ?_
                    refine Then.n ?_
                    refine WP.cond (t := x1370) rfl (fun hb => ?_) (fun hb => ?_)
                    · replace H := cnt hb H
                      refine WP.seq ?_
                      refine WP.region ?_
                      refine WPL.q (q_as (v := .lit (.bool _)) rfl) rfl ?_
                      refine WPL.nilW ?_
                      refine W.now ?_
                      refine Then.n ?_
                      refine WP.retW ?_
                      refine W.cv (Cv.weak (E' := (Env.none.upd 2 (.lit (.bool false)))) (M' := Mem.nil) [] hnp ⟨rfl, trivial, by decide, rfl, trivial⟩ (LeE.upd rfl rfl (LeE.none rfl rfl))) rfl ?_
                      refine W.now ?_
                      refine InBlock.r ?_
                      have q0 := Option.some.inj H
                      subst q0
                      exact ⟨rfl, rfl, rfl⟩
                    · replace H := cnf hb H
                      refine WP.skipW ?_
                      refine W.cv (Cv.weak (E' := (((Env.none.upd 0 (.ro (Rd.slice rdS34Op) false x868)).upd 5 (.ptr 0 0)).upd 6 (.lit (.int .i64 x1223)))) (M' := (Mem.nil.push (.cells 63 [.ro (Rd.slice (Rd.int .u8)) false x1347, .lit (.int .i64 x1348)]))) [0] hnp ⟨rfl, ⟨trivial, .inr ⟨rfl, rfl, rfl⟩⟩, by decide, rfl, trivial⟩ (LeE.upd rfl rfl (LeE.upd rfl rfl (LeE.upd rfl rfl (LeE.none rfl rfl))))) rfl ?_
                      refine W.now ?_
                      refine InBlock.n ?_
                      have q0 := Option.some.inj H
                      subst q0
                      exact ⟨rfl, rfl, rfl⟩
          · rcases y1379 with _ | ⟨x1341, x1342⟩
            · rintro _ _ _ ⟨rfl, rfl, rfl⟩
              refine W.cv (Cv.weak (E' := (Env.none.upd 2 (.lit (.bool false)))) (M' := Mem.nil) [] hnp ⟨rfl, trivial, by decide, rfl, trivial⟩ (LeE.upd rfl rfl (LeE.none rfl rfl))) rfl ?_
              refine W.now ?_
              refine Then.r ?_
              refine Then.r ?_
              have q0 := Option.some.inj H
              subst q0
              exact ⟨rfl, rfl, rfl⟩
            · rintro _ _ _ ⟨rfl, rfl, rfl⟩
              refine W.now ?_
              refine Then.n ?_
              refine WP.region ?_
              refine WPL.q (q_mv (v := .lit (.int _ _)) rfl) rfl ?_
              refine WPL.q (q_add rfl rfl) rfl ?_
              refine WPL.q (q_as (v := .lit (.int _ _)) rfl) rfl ?_
              refine WPL.nilW ?_
              refine W.cv (Cv.weak (E' := (((Env.none.upd 0 (.ro (Rd.slice rdS34Op) false x868)).upd 5 (.ptr 0 0)).upd 6 (.lit (.int .i64 (IntKind.wrap .i64 (x1223 + 1)))))) (M' := (Mem.nil.push (.cells 63 [.ro (Rd.slice (Rd.int .u8)) false x1341, .lit (.int .i64 x1342)]))) [0] hnp ⟨rfl, ⟨trivial, .inr ⟨rfl, rfl, rfl⟩⟩, by decide, rfl, trivial⟩ (LeE.upd rfl rfl (LeE.upd rfl rfl (LeE.upd rfl rfl (LeE.none rfl rfl))))) rfl ?_
              refine W.now ?_
              exact Then.n ⟨n, ((IntKind.wrap .i64 (x1223 + 1)), x1341, x1342), Nat.lt_succ_self n, H, rfl, rfl⟩
        · replace H := cnf hb H
          refine WP.exitW ?_
          refine W.cv (Cv.weak (E' := (Env.none.upd 5 (.ptr 0 0))) (M' := (Mem.nil.push (.cells 63 [.ro (Rd.slice (Rd.int .u8)) false x1224, .lit (.int .i64 x1225)]))) [0] hnp ⟨rfl, ⟨trivial, .inr ⟨rfl, rfl, rfl⟩⟩, by decide, rfl, trivial⟩ (LeE.upd rfl rfl (LeE.none rfl rfl))) rfl ?_
          refine W.now ?_
          refine Then.x ?_
          refine Then.x ?_
          have q0 := Option.some.inj H
          subst q0
          exact ⟨rfl, rfl, rfl⟩
      · rcases y1381 with _ | ⟨x1302, x1303⟩
        · rintro _ _ _ ⟨rfl, rfl, rfl⟩
          refine W.now ?_
          refine InBlock.r ?_
          refine Then.r ?_
          have q0 := (Option.some.inj H)
          subst q0
          exact ⟨trivial, _, rfl, [], (.lit (.bool false)), Mem.nil, ⟨rfl, trivial, by decide, rfl, trivial⟩, rfl, rfl, rfl, rfl⟩
        · rintro _ _ _ ⟨rfl, rfl, rfl⟩
          refine W.now ?_
          refine InBlock.x0 ?_
          refine Then.n ?_
          refine WP.seq ?_
          refine WP.region ?_
          refine WPL.q (q_mv (v := .ptr _ _) rfl) rfl ?_
          obtain ⟨x1383, h1381, H⟩ := bnd H
          refine WPL.c (runs_call (s := [0]) (t := [0]) (N := 1) (bor := []) fn17 rfl (s17 k x1302 x1303 x1383 h1381) ⟨rfl, ⟨trivial, .inr ⟨rfl, rfl, rfl⟩⟩, by decide, rfl, trivial⟩ rfl trivial (.ren rfl rfl .nil) rfl ⟨trivial, rfl⟩ rfl) rfl ?_
          refine WPL.q (q_lss rfl rfl) rfl ?_
          refine WPL.q (q_as (v := .lit (.bool _)) rfl) rfl ?_
          refine WPL.nilW ?_
          refine W.now ?_
          refine Then.n ?_
          refine WP.retW ?_
          refine W.now ?_
          have q0 := (Option.some.inj H)
          subst q0
          exact ⟨trivial, _, rfl, [], (.lit (.bool (decide (x1383 < 8)))), Mem.nil, ⟨rfl, trivial, by decide, rfl, trivial⟩, rfl, rfl, rfl, rfl⟩
end Go.Proofs.Yticbhcccdfcogaa.W
